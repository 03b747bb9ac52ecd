/- A part. -/
import Derived.Test.YthjdfjlhjnihfaaGreatA0
import Derived.Test.YthjdfjlhjnihfaaGreatN58
import Derived.Test.YthjdfjlhjnihfaaGreatSize2
import Derived.Test.YthjdfjlhjnihfaaGreatN23
import Derived.Test.YthjdfjlhjnihfaaGreatEvDraw5
import Derived.KernelRfl
import Derived.WalkKit
import Derived.ProofKit
import Derived.Test.YthjdfjlhjnihfaaGreatProg
import Derived.Lib.Walk
import Derived.Lib.SliceRun
import Derived.Lib.JoinLaws
import Derived.Lib.AppendZeros
import Derived.Lib.AppendZerosOnto
import Derived.Lib.Overlaps
import Derived.Laws.Externs
import Derived.Laws.IdiomCopy
import Derived.Laws.NewBlocks
import Derived.Shelf.RegionOpenPlain
import Derived.Shelf.SlSortCmp.NoneTotal
import Derived.Ground.SlsfProg
import Derived.Test.YthjdfjlhjnihfaaGreatKit
namespace Go.Proofs.YthjdfjlhjnihfaaGreat.Ev
open Go Nn
set_option linter.all false
section
variable {tab:Nat->Option aw} {H:Heap} {s:AV}
theorem M0 (C:Code tab) (hw:Wf H) {m:Nat} (h0:0<m) (hm:m<=4000) :
  Ans tab (.fn bQ [.nilSl,.int .i64 (m:Int)]) H fun v H'=>∃ b,v=.own b 0 0 m 2 false/\H'.get b=some (.cells ((List.replicate m [.int .u8 0,.nilSl]).flatten) ak true)/\H.next<=b/\Kp H H':=by
 refine bz C.q43 zU fun T hl g0 g1=>?_
 have e0:¬ (m:Int)<0:=by omega
 have e1:IntKind.i64.wrap ((m:Int)-0)=(m:Int):=by rw [wrap_i64] <;> omega
 have e2:(0:Int)<(m:Int):=by omega
 have cn:GB .nilSl=some (.int .i64 0):=rfl
 have z0:IntKind.i64.wrap 0=0:=by rw [wrap_i64] <;> omega
 have sn:bD 2 .nilSl none (some (.int .i64 0)) none=some .nilSl:=rfl
 have ln:lenV .nilSl=some (.int .i64 0):=rfl
 have ea:=EX (H:=H.up 23) (id:=H.next+18) (sz:=2) (bytes:=32) (ty:=ak) (z:=[.int .u8 0,.nilSl]) (m:=m) rfl h0 zO zO
 have so:bD 2 (.own (H.next+18) 0 m m 2 false) none (some (.int .i64 0)) none=some (.own (H.next+18) 0 0 m 2 false):=yd
 simp -dsimp (maxSteps:=1000000) (disch:=(first | omega | assumption | exact aQ _ | exact bf _ _ | exact bp | exact cz _ _ _ | exact bF _ _ | exact bo _ _ _ _ _ _ | exact cJ _ _ | exact bH _)) only [↓sL,sK,Nat.reduceLT,Nat.reduceEqDiff,Nat.reduceAdd,reduceIte,reduceCtorEq,Nat.reduceBEq,Int.reduceEq,Int.reduceLT,Int.reduceLE,Int.reduceAdd,Int.reduceSub,hl,g0,g1,e0,e1,e2,↓BE,ln,cn,z0,sn,↓BF,ea,so]
 exact ⟨_,rfl,au _ _ _,by omega,zK⟩
theorem Ki (C:Code tab) (hw:Wf H) :
  Ans tab (.fn bQ [.nilSl,.int .i64 0]) H fun v H'=>v=.nilSl/\Kp H H':=by
 refine bz C.q43 zU fun T hl g0 g1=>?_
 have ln:lenV .nilSl=some (.int .i64 0):=rfl
 have cn:GB .nilSl=some (.int .i64 0):=rfl
 have z0:IntKind.i64.wrap 0=0:=by rw [wrap_i64] <;> omega
 simp -dsimp (maxSteps:=1000000) (disch:=(first | omega | assumption | exact aQ _ | exact bf _ _ | exact bp | exact cz _ _ _ | exact bF _ _ | exact bo _ _ _ _ _ _ | exact cJ _ _ | exact bH _)) only [↓sL,sK,Nat.reduceLT,Nat.reduceEqDiff,Nat.reduceAdd,reduceIte,reduceCtorEq,Nat.reduceBEq,Int.reduceEq,Int.reduceLT,Int.reduceLE,Int.reduceAdd,Int.reduceSub,hl,g0,g1,↓BE,ln,cn,z0]
 exact zK
theorem GL (C:Code tab) (hw:Wf H) {b:Nat} {va vb:AV} {l m:List (Nat × List Int)} {x:Bool} {ty:Nat} (hb:H.get b=some (.cells [va,vb] ty x)) (ha:SlV genE ak H va l) (hb':SlV genE ak H vb m) (hl':l.length<=2000) (hm':m.length<=2000) :
  Ans tab (.fn cE [.own b 0 2 2 1 true]) H fun v H'=>SlV genE ak H' v (l++m)/\Kp H H':=by
 refine cQ C.q25 zU fun T hl g0=>?_
 have l2:lenV (.own b 0 2 2 1 true)=some (.int .i64 ((2:Nat):Int)):=rfl
 have hbl:=hw _ _ hb
 refine zW (aC hl g0 l2) ?_
 refine am H [3] (fun j vs _=>vs=[.int .i64 (((if j=0 then 0 else if j=1 then l.length else l.length+m.length:Nat)):Int)]) (a:=0) (N:=2) rfl (by refine zW (aB hl g0) ?_ <;> rfl) (zV (aB hl g0)) (SH _) zO (by simp only [Sr,hl]; rfl) rfl (fun _ _ _ _ h=>h) zK (by refine zW (aB hl g0) ?_ <;> rfl) ?_ ?_
 ·intro j T1 H1 _ hj hl1 hi1 hs1 hk1 hv
  simp only [SA,SD,SB,and_true] at hv
  have w1:=hk1.wf
  have le_hk1:=hk1.le
  have t9:ad T1 9=.own b 0 2 2 1 true:=(hs1.at_ 9 zU).trans (zV (aB hl g0))
  have hb1:=hk1.get hb
  simp only [Sr,hl] at hl1
  by_cases h0:j=0
  ·subst h0
   have hix:co 1 (.own b 0 2 2 1 true) (.int .i64 ((0:Nat):Int))=some (.ptr b 0):=rfl
   have e1:IntKind.i64.wrap (0+(l.length:Int))=(l.length:Int):=by rw [wrap_i64] <;> omega
   have e2:¬ (l.length:Int)<0:=by omega
   have hv:ad T1 3=.int .i64 0:=hv
   refine zW (kj hl1 t9 hi1 hix hb1 ha.lenV hv e1 e2) ?_
   exact zK
  ·have h1:j=1:=by omega
   subst h1
   have hix:co 1 (.own b 0 2 2 1 true) (.int .i64 ((1:Nat):Int))=some (.ptr b 1):=rfl
   have e1:IntKind.i64.wrap ((l.length:Int)+(m.length:Int))=(l.length:Int)+(m.length:Int):=by rw [wrap_i64] <;> omega
   have e2:¬ (l.length:Int)+(m.length:Int)<0:=by omega
   have hv:ad T1 3=.int .i64 (l.length:Int):=hv
   refine zW (kj hl1 t9 hi1 hix hb1 hb'.lenV hv e1 e2) ?_
   exact ⟨zK,by simp⟩
 ·intro T1 H1 hl1 hs1 hk1 hv
  simp only [SA,SD,SB,and_true] at hv
  have w1:=hk1.wf
  have le_hk1:=hk1.le
  have t0:ad T1 0=.own b 0 2 2 1 true:=(hs1.at_ 0 zU).trans (zV (aB hl g0))
  have hv:ad T1 3=.int .i64 (((l.length+m.length:Nat)):Int):=hv
  simp only [Sr,hl] at hl1
  have hb1:=hk1.get hb
  by_cases h0:l.length+m.length=0
  ·have hv:ad T1 3=.int .i64 0:=by rw [hv,h0]; rfl
   have el:l=[]:=S6 zO
   have em:m=[]:=S6 zO
   refine zW (aB hl1 hv) ?_
   refine XX (Ki C zF) ?_
   rintro _ H2 ⟨rfl,hk2⟩
   obtain ⟨k2,_,w2⟩:=zT H zK hk2
   have hb2:=k2.get hb
   refine zW (aC hl1 t0 l2) ?_
   refine am H [6] (fun j vs _=>vs=[.nilSl]) (a:=0) (N:=2) rfl (by refine zW hl1 ?_ <;> rfl) (zV hl1) (SH _) zO (by simp only [Sr,hl1]; rfl) rfl (fun _ _ _ _ h=>h) zK (zV hl1) ?_ ?_
   ·intro j T2 H3 _ hj hl2 hi2 hs2 hk3 hv2
    simp only [SA,SD,SB,and_true] at hv2
    have w3:=hk3.wf
    have le_hk3:=hk3.le
    have t25:ad T2 25=.own b 0 2 2 1 true:=(hs2.at_ 25 zU).trans (zV (aB hl1 t0))
    have hb3:=hk3.get hb
    simp only [Sr,hl1] at hl2
    have na:∀ {K:List (Nat × List Int)} {v:AV} (H':Heap) (id:Nat),K=[]->SlV genE ak H' v K->cN H' id 2 32 ak .nilSl v=some (.nilSl,H'):=fun H' id e hs=>by
     subst e
     obtain ⟨news,hr,-,hc⟩:=hs
     obtain ⟨m',hm',hlen⟩:=hr.length
     obtain ⟨-,-,m2,hm2,hf⟩:=hr
     rw [hm'] at hm2; cases hm2
     have hmm:m'=0:=by
      have:=hc.1
      rw [hlen] at this
      have e2:genE.sz=2:=rfl
      rw [e2] at this
      simp at this
      omega
     subst hmm
     unfold cN
     rw [hm']
     simp only
     have e2:genE.sz=2:=rfl
     rw [e2] at hf
     rw [hf]
     rfl
    by_cases h0:j=0
    ·subst h0
     have hix:co 1 (.own b 0 2 2 1 true) (.int .i64 ((0:Nat):Int))=some (.ptr b 0):=rfl
     have ea:=na (H3.up 7) (H3.next+5) el ((ha.mono hk3.sub).mono (Ys H3 7))
     refine zW (gf hl2 t25 hi2 hix hb3 hv2 ea) ?_
     exact zK
    ·have h1:j=1:=by omega
     subst h1
     have hix:co 1 (.own b 0 2 2 1 true) (.int .i64 ((1:Nat):Int))=some (.ptr b 1):=rfl
     have ea:=na (H3.up 7) (H3.next+5) em ((hb'.mono hk3.sub).mono (Ys H3 7))
     refine zW (gf hl2 t25 hi2 hix hb3 hv2 ea) ?_
     exact zK
   ·intro T2 H3 hl2 hs2 hk3 hv2
    simp only [SA,SD,SB,and_true] at hv2
    simp only [Sr,hl1] at hl2
    refine zW (aB hl2 hv2) ?_
    exact ⟨by rw [el,em]; exact Yo _ _ _,zK⟩
  ·obtain ⟨N,hN⟩:∃ N,N=l.length+m.length:=⟨_,rfl⟩
   rw [<- hN] at hv h0
   refine zW (aB hl1 hv) ?_
   refine XX (M0 C (m:=N) zF zO zO) ?_
   rintro _ H2 ⟨g,rfl,hg,hgn,hk2⟩
   obtain ⟨k2,_,w2⟩:=zT H zK hk2
   have hgn:H.next<=g:=by
    have:=hk1.le
    have:H1.next+3<=g:=hgn
    omega
   have hb2:=k2.get hb
   have l0:=w2 _ _ hg
   obtain ⟨z,hz⟩:∃ z,z=(List.replicate N [AV.int .u8 0,.nilSl]).flatten:=⟨_,rfl⟩
   have zl:z.length=N*2:=by rw [hz]; simp
   rw [<- hz] at hg
   clear hz
   refine zW (aC hl1 t0 l2) ?_
   refine am H [6] (fun j vs H'=>∃ k cells,k=(if j=0 then 0 else if j=1 then l.length else N)/\vs=[.own g 0 k N 2 false]/\H'.get g=some (.cells cells ak true)/\cells.length=N*2/\Cells genE H' (cells.take (k*2)) ((l++m).take k)) (a:=0) (N:=2) rfl (by refine zW hl1 ?_ <;> rfl) (zV hl1) (SH _) zO (by simp only [Sr,hl1]; rfl) rfl (fun _ _ _ _ h=>h) zK ⟨0,z,rfl,by exact zV hl1,by exact zV hg,zl,X1 _ _⟩ ?_ ?_
   ·rintro j T2 H3 _ hj hl2 hi2 hs2 hk3 ⟨k,cells,hk,hv2,hg3,hcl,hcc⟩
    simp only [SA,SD,SB,and_true] at hv2
    have w3:=hk3.wf
    have le_hk3:=hk3.le
    have lt3:=w3 _ _ hg3
    have t25:ad T2 25=.own b 0 2 2 1 true:=(hs2.at_ 25 zU).trans (zV (aB hl1 t0))
    have hb3:=hk3.get hb
    simp only [Sr,hl1] at hl2
    have hfin:∀ H4,(H4=H3.up 7\/∃ e,H4=(H3.up 7).put g e)->Kp H H4:=fun H4 h=>by
     rcases h with rfl | ⟨e,rfl⟩
     ·exact zK
     ·exact (hk3.up 7).put hgn (by show g<H3.next+7; omega)
    by_cases h0:j=0
    ·subst h0
     have hix:co 1 (.own b 0 2 2 1 true) (.int .i64 ((0:Nat):Int))=some (.ptr b 0):=rfl
     have hk:k=0:=hk
     subst hk
     obtain ⟨cells',H4,e4,g4,c4,cc4,hH4⟩:=qW (E:=genE) (bytes:=32) (id:=H3.next+5) (k:=0) (l1:=[]) (H:=H3.up 7) hg3 zU (X1 _ _) ((ha.mono hk3.sub).mono (Ys H3 7)) rfl hcl zO zO zO
     have e4:cN (H3.up 7) (H3.next+5) 2 32 ak (.own g 0 0 N 2 false) va=some (.own g 0 (0+l.length) N 2 false,H4):=e4
     refine zW (gf hl2 t25 hi2 hix hb3 hv2 e4) ?_
     refine ⟨hfin _ hH4,l.length,cells',by simp,by simp,g4,c4,?_⟩
     rw [Vd rfl]
     rw [S8] at cc4
     exact cc4
    ·have h1:j=1:=by omega
     subst h1
     have hix:co 1 (.own b 0 2 2 1 true) (.int .i64 ((1:Nat):Int))=some (.ptr b 1):=rfl
     have hk:k=l.length:=hk
     subst hk
     rw [Vd rfl] at hcc
     obtain ⟨cells',H4,e4,g4,c4,cc4,hH4⟩:=qW (E:=genE) (bytes:=32) (id:=H3.next+5) (k:=l.length) (l1:=l) (H:=H3.up 7) hg3 zU (hcc.mono ((Ys H3 7).t _)) ((hb'.mono hk3.sub).mono (Ys H3 7)) rfl hcl zO zO zO
     have e4:cN (H3.up 7) (H3.next+5) 2 32 ak (.own g 0 l.length N 2 false) vb=some (.own g 0 (l.length+m.length) N 2 false,H4):=e4
     rw [<- hN] at e4 cc4
     refine zW (gf hl2 t25 hi2 hix hb3 hv2 e4) ?_
     refine ⟨hfin _ hH4,N,cells',by simp,by simp,g4,c4,?_⟩
     have ht:(l++m).take N=l++m:=SS (by rw [SN]; omega)
     rw [ht]
     exact cc4
   ·rintro T2 H3 hl2 hs2 hk3 ⟨k,cells,hk,hv2,hg3,hcl,hcc⟩
    simp only [SA,SD,SB,and_true] at hv2
    have hk:k=N:=hk
    subst hk
    have ht:(l++m).take k=l++m:=SS (by rw [SN]; omega)
    have ht2:cells.take (k*2)=cells:=SS zO
    rw [ht,ht2] at hcc
    have w3:=hk3.wf
    have le_hk3:=hk3.le
    simp only [Sr,hl1] at hl2
    refine zW (aB hl2 hv2) ?_
    have hs3:SlV genE ak H3 (.own g 0 k k 2 false) (l++m):=⟨cells,Yi hg3 hcl zO,fun _ _ _ _ _ _ e=>by cases e; exact ⟨_,_,hg3⟩,hcc⟩
    exact ⟨hs3.mono (Ys H3 _),zK⟩
theorem ES {a b:Nat} {x:List Int} (h:Lin.Bd (2^a) x) (hab:a<=b):Lin.Bd (2^b) x:=fun i=>SM (h i) (Tb zU hab)
set_option maxHeartbeats 4000000 in
theorem Ja (C:Code tab) (hw:Wf H) {v w:AV} {n e f e' f' m m2:Nat} {K K':List (List Int × Bool)} {G G':List (Nat × List Int)} (hp:PolyV H v n K G) (hq:PolyV H w n K' G') (ho:PolyOK n e f K G) (ho':PolyOK n e' f' K' G') (hl':K.length+K'.length<=60) (hm:f<=m) (hm':f'<=m) (hm3:m<=300000) (hG:∀ x∈Lin.gensP n (K++K'),Lin.Bd (2^m2) x.2) (hm2:m2<=300000) :
  Ans tab (.fn pE [v,w]) H fun x H'=>mB H' x n (Lin.gensP n (K++K'))/\Kp H H':=by
 obtain ⟨vc,vg,rfl,hc,hg⟩:=hp
 obtain ⟨vc',vg',rfl,hc',hg'⟩:=hq
 have oc:=hc.one
 have og:=hg.one
 have oc':=hc'.one
 have og':=hg'.one
 refine bz C.q10 zU fun T hl g0 g1=>?_
 refine zW (eW hl g0 g1 (kg oc og) (kg oc' og') (GC oc og oc' og')) ?_
 refine XW (nR C (n:=n) (l:=[(n,K,G),(n,K',G')]) zF (uW (au _ _ _) (hc.mono (zG H)) (hg.mono (zG H)) (hc'.mono (zG H)) (hg'.mono (zG H))) (by simp) (Fs ho ho')) fun H2 hk2=>?_
 obtain ⟨k2,_,w2⟩:=zT H zK hk2
 have d0:H2.get H.next=some (.cells [.int .i64 (n:Int),vc,vg] ah true):=hk2.get (cR)
 have d1:H2.get (H.next+1)=some (.cells [.int .i64 (n:Int),vc',vg'] ah true):=hk2.get (cR)
 have d2:H2.get (H.next+2)=some (.cells [.int .i64 0,.nilSl,.nilSl] ah true):=hk2.get (cR)
 have lt2:=w2 _ _ d2
 refine zW (aV hl g0 g1 @aD) ?_
 refine aH ?_
 refine zD (eW hl g0 g1 d0 d1 d2) ?_
 refine XX (GM C zF (au _ _ _) ((hc.mono k2.sub).mono (zG H2)) ((hc'.mono k2.sub).mono (zG H2)) zO zO) ?_
 rintro v3 H3 ⟨hs3,hk3⟩
 obtain ⟨k23,_,_⟩:=zT H2 zK hk3
 have k3:Kp H H3:=k2.trans k23
 have le_k3:=k3.le
 have w3:=k3.wf
 refine zD (eW hl g0 g1 d0 d1 d2) ?_
 refine XX (iA C (n:=n) (m:=m) (m2:=m2) zF (hs3.mono (zG H3)) ho.dim (by rw [SN]; omega) (fun c hc=>(SQ.1 hc).elim (fun h=>⟨(ho.rowK c h).1,ES (ho.rowK c h).2 hm⟩) fun h=>⟨(ho'.rowK c h).1,ES (ho'.rowK c h).2 hm'⟩) hm3 hG hm2) ?_
 rintro v4 H4 ⟨hm4,hk4⟩
 obtain ⟨k34,_,_⟩:=zT H3 zK hk4
 have k4:Kp H H4:=k3.trans k34
 have le_k4:=k4.le
 have w4:=k4.wf
 have d2c:=k34.get (k23.get d2)
 have d0b:=k23.get d0
 have lt4:=w4 _ _ d2c
 rcases hm4 with ⟨rfl,hm4⟩ | ⟨p,rfl,⟨vc4,vg4,rfl,hc4,hg4⟩,h1,h2⟩
 ·refine zD (ki hl g0 g1 d0 d1 d0b d2c @mF) ?_
  exact ⟨.inl ⟨rfl,hm4⟩,zK⟩
 ·have oc4:=hc4.one
  have og4:=hg4.one
  refine zD (ki hl g0 g1 d0 d1 d0b d2c @mF) ?_
  refine ⟨.inr ⟨_,rfl,⟨vc4,vg4,rfl,?_,?_⟩,h1,h2⟩,zK⟩
  ·have m3:NoTy (t_api_Con :: conE.tys) H4 (H.next+2):=Yg d2c zU
   exact Yn (E:=conE) zS hc4
  ·have m3:NoTy (ak :: genE.tys) H4 (H.next+2):=Yg d2c zU
   exact Yn (E:=genE) zS hg4
set_option maxHeartbeats 4000000 in
theorem I9 (C:Code tab) (hw:Wf H) {v w:AV} {n e f e' f' m m2 m3:Nat} {K K':List (List Int × Bool)} {G G':List (Nat × List Int)} (hp:PolyV H v n K G) (hq:PolyV H w n K' G') (ho:PolyOK n e f K G) (ho':PolyOK n e' f' K' G') (hl':G.length+G'.length<=60) (hm:e<=m) (hm':e'<=m) (hm4:m<=300000) (hC:∀ c∈Lin.consP n (G++G'),Lin.Bd (2^m2) c.1) (hm2:m2<=300000) (hG:∀ x∈Lin.gensP n (Lin.consP n (G++G')),Lin.Bd (2^m3) x.2) (hm3:m3<=300000) (hlc:(Lin.consP n (G++G')).length<=1022\/1024<=(Lin.consP n (G++G')).length) :
  Ans tab (.fn pC [v,w]) H fun x H'=>Ie H' x n (G++G')/\Kp H H':=by
 obtain ⟨vc,vg,rfl,hc,hg⟩:=hp
 obtain ⟨vc',vg',rfl,hc',hg'⟩:=hq
 have oc:=hc.one
 have og:=hg.one
 have oc':=hc'.one
 have og':=hg'.one
 refine bz C.q9 zU fun T hl g0 g1=>?_
 refine zW (eW hl g0 g1 (kg oc og) (kg oc' og') (GC oc og oc' og')) ?_
 refine XW (nR C (n:=n) (l:=[(n,K,G),(n,K',G')]) zF (uW (au _ _ _) (hc.mono (zG H)) (hg.mono (zG H)) (hc'.mono (zG H)) (hg'.mono (zG H))) (by simp) (Fs ho ho')) fun H2 hk2=>?_
 obtain ⟨k2,_,w2⟩:=zT H zK hk2
 have d0:H2.get H.next=some (.cells [.int .i64 (n:Int),vc,vg] ah true):=hk2.get (cR)
 have d1:H2.get (H.next+1)=some (.cells [.int .i64 (n:Int),vc',vg'] ah true):=hk2.get (cR)
 have d2:H2.get (H.next+2)=some (.cells [.int .i64 0,.nilSl,.nilSl] ah true):=hk2.get (cR)
 have lt2:=w2 _ _ d2
 refine zW (aV hl g0 g1 @aD) ?_
 refine aH ?_
 refine zD (eW hl g0 g1 d0 d1 d2) ?_
 refine XX (GL C zF (au _ _ _) ((hg.mono k2.sub).mono (zG H2)) ((hg'.mono k2.sub).mono (zG H2)) zO zO) ?_
 rintro v3 H3 ⟨hs3,hk3⟩
 obtain ⟨k23,_,_⟩:=zT H2 zK hk3
 have k3:Kp H H3:=k2.trans k23
 have le_k3:=k3.le
 have w3:=k3.wf
 refine zD (eW hl g0 g1 d0 d1 d2) ?_
 refine XX (tJ C (n:=n) (m:=m) (m2:=m2) (m3:=m3) zF (hs3.mono (zG H3)) ho.dim (by rw [SN]; omega) (Lin.validG_app ho.own.valid ho'.own.valid) (fun x hx=>(SQ.1 hx).elim (ho.kinds x) (ho'.kinds x)) (fun c hc=>(SQ.1 hc).elim (fun h=>ES (ho.bG c h) hm) fun h=>ES (ho'.bG c h) hm') hm4 hC hm2 hG hm3 hlc) ?_
 rintro v4 H4 ⟨hm5,hk4⟩
 obtain ⟨k34,_,_⟩:=zT H3 zK hk4
 have k4:Kp H H4:=k3.trans k34
 have le_k4:=k4.le
 have w4:=k4.wf
 have d2c:=k34.get (k23.get d2)
 have d0b:=k23.get d0
 have lt4:=w4 _ _ d2c
 rcases hm5 with ⟨rfl,hm5⟩ | ⟨rfl,hm5⟩ | ⟨p,rfl,⟨vc4,vg4,rfl,hc4,hg4⟩,h1,h2⟩
 ·refine zD (ki hl g0 g1 d0 d1 d0b d2c @mF) ?_
  exact ⟨.inl ⟨rfl,hm5⟩,zK⟩
 ·refine zD (ki hl g0 g1 d0 d1 d0b d2c @mF) ?_
  exact ⟨.inr (.inl ⟨rfl,hm5⟩),zK⟩
 ·have oc4:=hc4.one
  have og4:=hg4.one
  refine zD (ki hl g0 g1 d0 d1 d0b d2c @mF) ?_
  refine ⟨.inr (.inr ⟨_,rfl,⟨vc4,vg4,rfl,?_,?_⟩,h1,h2⟩),zK⟩
  ·have m3:NoTy (t_api_Con :: conE.tys) H4 (H.next+2):=Yg d2c zU
   exact Yn (E:=conE) zS hc4
  ·have m3:NoTy (ak :: genE.tys) H4 (H.next+2):=Yg d2c zU
   exact Yn (E:=genE) zS hg4
end
end Go.Proofs.YthjdfjlhjnihfaaGreat.Ev
namespace Go.Proofs.YthjdfjlhjnihfaaGreat.Lin
set_option linter.all false
theorem g13:gensP 1 [([-1,1],false),([3,-1],false)]=[(3,[1,1]),(3,[1,3])]:=by
 have r:(gensU 2 [] [[1,0],[-1,1],[3,-1]]).rays.map (restF (gensL 2 [] [[1,0],[-1,1],[3,-1]]))=[[1,1],[1,3]]:=by decide +kernel
 have e:gensL 2 [] [[1,0],[-1,1],[3,-1]]=[]:=by decide +kernel
 have g:gensR 2 [] [[1,0],[-1,1],[3,-1]]=[[1,1],[1,3]]:=by
  unfold gensR
  rw [r]; simp [List.mergeSort,List.MergeSort.Internal.splitInTwo,cmpV]
 have h1:eqsOf ([([-1,1],false),([3,-1],false)]:List (V × Bool))=[]:=rfl
 have h2:ineqsOf 1 ([([-1,1],false),([3,-1],false)]:List (V × Bool))=[[1,0],[-1,1],[3,-1]]:=rfl
 unfold gensP
 rw [h1,h2,e,g]
 rfl
theorem g23:gensP 1 [([-2,1],false),([3,-1],false)]=[(3,[1,2]),(3,[1,3])]:=by
 have r:(gensU 2 [] [[1,0],[-2,1],[3,-1]]).rays.map (restF (gensL 2 [] [[1,0],[-2,1],[3,-1]]))=[[1,2],[1,3]]:=by decide +kernel
 have e:gensL 2 [] [[1,0],[-2,1],[3,-1]]=[]:=by decide +kernel
 have g:gensR 2 [] [[1,0],[-2,1],[3,-1]]=[[1,2],[1,3]]:=by
  unfold gensR
  rw [r]; simp [List.mergeSort,List.MergeSort.Internal.splitInTwo,cmpV]
 have h1:eqsOf ([([-2,1],false),([3,-1],false)]:List (V × Bool))=[]:=rfl
 have h2:ineqsOf 1 ([([-2,1],false),([3,-1],false)]:List (V × Bool))=[[1,0],[-2,1],[3,-1]]:=rfl
 unfold gensP
 rw [h1,h2,e,g]
 rfl
theorem g55:gensP 1 [([-5,1],false),([5,-1],false)]=[(3,[1,5])]:=by
 have r:(gensU 2 [] [[1,0],[-5,1],[5,-1]]).rays.map (restF (gensL 2 [] [[1,0],[-5,1],[5,-1]]))=[[1,5]]:=by decide +kernel
 have e:gensL 2 [] [[1,0],[-5,1],[5,-1]]=[]:=by decide +kernel
 have g:gensR 2 [] [[1,0],[-5,1],[5,-1]]=[[1,5]]:=by
  unfold gensR
  rw [r]; simp [List.mergeSort,List.MergeSort.Internal.splitInTwo,cmpV]
 have h1:eqsOf ([([-5,1],false),([5,-1],false)]:List (V × Bool))=[]:=rfl
 have h2:ineqsOf 1 ([([-5,1],false),([5,-1],false)]:List (V × Bool))=[[1,0],[-5,1],[5,-1]]:=rfl
 unfold gensP
 rw [h1,h2,e,g]
 rfl
theorem g15:gensP 1 [([-1,1],false),([5,-1],false)]=[(3,[1,1]),(3,[1,5])]:=by
 have r:(gensU 2 [] [[1,0],[-1,1],[5,-1]]).rays.map (restF (gensL 2 [] [[1,0],[-1,1],[5,-1]]))=[[1,1],[1,5]]:=by decide +kernel
 have e:gensL 2 [] [[1,0],[-1,1],[5,-1]]=[]:=by decide +kernel
 have g:gensR 2 [] [[1,0],[-1,1],[5,-1]]=[[1,1],[1,5]]:=by
  unfold gensR
  rw [r]; simp [List.mergeSort,List.MergeSort.Internal.splitInTwo,cmpV]
 have h1:eqsOf ([([-1,1],false),([5,-1],false)]:List (V × Bool))=[]:=rfl
 have h2:ineqsOf 1 ([([-1,1],false),([5,-1],false)]:List (V × Bool))=[[1,0],[-1,1],[5,-1]]:=rfl
 unfold gensP
 rw [h1,h2,e,g]
 rfl
theorem g49:gensP 1 [([-4,1],false),([9,-1],false)]=[(3,[1,4]),(3,[1,9])]:=by
 have r:(gensU 2 [] [[1,0],[-4,1],[9,-1]]).rays.map (restF (gensL 2 [] [[1,0],[-4,1],[9,-1]]))=[[1,4],[1,9]]:=by decide +kernel
 have e:gensL 2 [] [[1,0],[-4,1],[9,-1]]=[]:=by decide +kernel
 have g:gensR 2 [] [[1,0],[-4,1],[9,-1]]=[[1,4],[1,9]]:=by
  unfold gensR
  rw [r]; simp [List.mergeSort,List.MergeSort.Internal.splitInTwo,cmpV]
 have h1:eqsOf ([([-4,1],false),([9,-1],false)]:List (V × Bool))=[]:=rfl
 have h2:ineqsOf 1 ([([-4,1],false),([9,-1],false)]:List (V × Bool))=[[1,0],[-4,1],[9,-1]]:=rfl
 unfold gensP
 rw [h1,h2,e,g]
 rfl
theorem k13:consP 1 [(3,[1,1]),(3,[1,3])]=[([-1,1],false),([3,-1],false)]:=by
 have r:(gensU 2 [] [[1,1],[1,3]]).rays.map (restF (gensL 2 [] [[1,1],[1,3]]))=[[3,-1],[-1,1]]:=by decide +kernel
 have e:gensL 2 [] [[1,1],[1,3]]=[]:=by decide +kernel
 have g:gensR 2 [] [[1,1],[1,3]]=[[-1,1],[3,-1]]:=by
  unfold gensR
  rw [r]; simp [List.mergeSort,List.MergeSort.Internal.splitInTwo,cmpV]
 have h1:linesOf ([(3,[1,1]),(3,[1,3])]:List (Nat × V))=[]:=rfl
 have h2:raysOf ([(3,[1,1]),(3,[1,3])]:List (Nat × V))=[[1,1],[1,3]]:=rfl
 unfold consP
 rw [h1,h2,e,g]
 decide
theorem k49:consP 1 [(3,[1,4]),(3,[1,9])]=[([-4,1],false),([9,-1],false)]:=by
 have r:(gensU 2 [] [[1,4],[1,9]]).rays.map (restF (gensL 2 [] [[1,4],[1,9]]))=[[9,-1],[-4,1]]:=by decide +kernel
 have e:gensL 2 [] [[1,4],[1,9]]=[]:=by decide +kernel
 have g:gensR 2 [] [[1,4],[1,9]]=[[-4,1],[9,-1]]:=by
  unfold gensR
  rw [r]; simp [List.mergeSort,List.MergeSort.Internal.splitInTwo,cmpV]
 have h1:linesOf ([(3,[1,4]),(3,[1,9])]:List (Nat × V))=[]:=rfl
 have h2:raysOf ([(3,[1,4]),(3,[1,9])]:List (Nat × V))=[[1,4],[1,9]]:=rfl
 unfold consP
 rw [h1,h2,e,g]
 decide
theorem kh:consP 1 [(3,[1,1]),(3,[1,3]),(3,[1,5])]=[([-1,1],false),([5,-1],false)]:=by
 have r:(gensU 2 [] [[1,1],[1,3],[1,5]]).rays.map (restF (gensL 2 [] [[1,1],[1,3],[1,5]]))=[[-1,1],[5,-1]]:=by decide +kernel
 have e:gensL 2 [] [[1,1],[1,3],[1,5]]=[]:=by decide +kernel
 have g:gensR 2 [] [[1,1],[1,3],[1,5]]=[[-1,1],[5,-1]]:=by
  unfold gensR
  rw [r]; simp [List.mergeSort,List.MergeSort.Internal.splitInTwo,cmpV]
 have h1:linesOf ([(3,[1,1]),(3,[1,3]),(3,[1,5])]:List (Nat × V))=[]:=rfl
 have h2:raysOf ([(3,[1,1]),(3,[1,3]),(3,[1,5])]:List (Nat × V))=[[1,1],[1,3],[1,5]]:=rfl
 unfold consP
 rw [h1,h2,e,g]
 decide
theorem m23:gensP 1 [([-1,1],false),([3,-1],false),([-2,1],false)]=[(3,[1,2]),(3,[1,3])]:=by
 have r:(gensU 2 [] [[1,0],[-1,1],[3,-1],[-2,1]]).rays.map (restF (gensL 2 [] [[1,0],[-1,1],[3,-1],[-2,1]]))=[[1,3],[1,2]]:=by decide +kernel
 have e:gensL 2 [] [[1,0],[-1,1],[3,-1],[-2,1]]=[]:=by decide +kernel
 have g:gensR 2 [] [[1,0],[-1,1],[3,-1],[-2,1]]=[[1,2],[1,3]]:=by
  unfold gensR
  rw [r]; simp [List.mergeSort,List.MergeSort.Internal.splitInTwo,cmpV]
 have h1:eqsOf ([([-1,1],false),([3,-1],false),([-2,1],false)]:List (V × Bool))=[]:=rfl
 have h2:ineqsOf 1 ([([-1,1],false),([3,-1],false),([-2,1],false)]:List (V × Bool))=[[1,0],[-1,1],[3,-1],[-2,1]]:=rfl
 unfold gensP
 rw [h1,h2,e,g]
 rfl
theorem b0:gensP 1 [([-1,1],false),([3,-1],false),([-4,1],false),([9,-1],false)]=[]:=by
 have r:(gensU 2 [] [[1,0],[-1,1],[3,-1],[-4,1],[9,-1]]).rays.map (restF (gensL 2 [] [[1,0],[-1,1],[3,-1],[-4,1],[9,-1]]))=[]:=by decide +kernel
 have e:gensL 2 [] [[1,0],[-1,1],[3,-1],[-4,1],[9,-1]]=[]:=by decide +kernel
 have g:gensR 2 [] [[1,0],[-1,1],[3,-1],[-4,1],[9,-1]]=[]:=by
  unfold gensR
  rw [r]; simp
 have h1:eqsOf ([([-1,1],false),([3,-1],false),([-4,1],false),([9,-1],false)]:List (V × Bool))=[]:=rfl
 have h2:ineqsOf 1 ([([-1,1],false),([3,-1],false),([-4,1],false),([9,-1],false)]:List (V × Bool))=[[1,0],[-1,1],[3,-1],[-4,1],[9,-1]]:=rfl
 unfold gensP
 rw [h1,h2,e,g]
 rfl
theorem k23:consP 1 [(3,[1,2]),(3,[1,3])]=[([-2,1],false),([3,-1],false)]:=by
 have r:(gensU 2 [] [[1,2],[1,3]]).rays.map (restF (gensL 2 [] [[1,2],[1,3]]))=[[3,-1],[-2,1]]:=by decide +kernel
 have e:gensL 2 [] [[1,2],[1,3]]=[]:=by decide +kernel
 have g:gensR 2 [] [[1,2],[1,3]]=[[-2,1],[3,-1]]:=by
  unfold gensR
  rw [r]; simp [List.mergeSort,List.MergeSort.Internal.splitInTwo,cmpV]
 have h1:linesOf ([(3,[1,2]),(3,[1,3])]:List (Nat × V))=[]:=rfl
 have h2:raysOf ([(3,[1,2]),(3,[1,3])]:List (Nat × V))=[[1,2],[1,3]]:=rfl
 unfold consP
 rw [h1,h2,e,g]
 decide
theorem k15:consP 1 [(3,[1,1]),(3,[1,5])]=[([-1,1],false),([5,-1],false)]:=by
 have r:(gensU 2 [] [[1,1],[1,5]]).rays.map (restF (gensL 2 [] [[1,1],[1,5]]))=[[5,-1],[-1,1]]:=by decide +kernel
 have e:gensL 2 [] [[1,1],[1,5]]=[]:=by decide +kernel
 have g:gensR 2 [] [[1,1],[1,5]]=[[-1,1],[5,-1]]:=by
  unfold gensR
  rw [r]; simp [List.mergeSort,List.MergeSort.Internal.splitInTwo,cmpV]
 have h1:linesOf ([(3,[1,1]),(3,[1,5])]:List (Nat × V))=[]:=rfl
 have h2:raysOf ([(3,[1,1]),(3,[1,5])]:List (Nat × V))=[[1,1],[1,5]]:=rfl
 unfold consP
 rw [h1,h2,e,g]
 decide
theorem k55:consP 1 [(3,[1,5])]=[([-5,1],true)]:=by
 have r:(gensU 2 [] [[1,5]]).rays.map (restF (gensL 2 [] [[1,5]]))=[[1,0]]:=by decide +kernel
 have e:gensL 2 [] [[1,5]]=[[-5,1]]:=by decide +kernel
 have g:gensR 2 [] [[1,5]]=[[1,0]]:=by
  unfold gensR
  rw [r]; simp
 have h1:linesOf ([(3,[1,5])]:List (Nat × V))=[]:=rfl
 have h2:raysOf ([(3,[1,5])]:List (Nat × V))=[[1,5]]:=rfl
 unfold consP
 rw [h1,h2,e,g]
 decide
theorem g55b:gensP 1 [([-5,1],true)]=[(3,[1,5])]:=by
 have r:(gensU 2 [[-5,1]] [[1,0]]).rays.map (restF (gensL 2 [[-5,1]] [[1,0]]))=[[1,5]]:=by decide +kernel
 have e:gensL 2 [[-5,1]] [[1,0]]=[]:=by decide +kernel
 have g:gensR 2 [[-5,1]] [[1,0]]=[[1,5]]:=by
  unfold gensR
  rw [r]; simp
 have h1:eqsOf ([([-5,1],true)]:List (V × Bool))=[[-5,1]]:=rfl
 have h2:ineqsOf 1 ([([-5,1],true)]:List (V × Bool))=[[1,0]]:=rfl
 unfold gensP
 rw [h1,h2,e,g]
 rfl
theorem bd_small4 {x:V} (h:x.all (fun a=>decide (a.natAbs<=16))=true):Bd (2^4) x:=fun i=>by
 by_cases hi:i<x.length
 ·have:at_ x i=x[i]:=by simp [at_,hi]
  rw [this]
  simpa using SV.1 h _ (Sx hi)
 ·have:at_ x i=0:=by simp [at_,hi]
  rw [this]; simp
end Go.Proofs.YthjdfjlhjnihfaaGreat.Lin
namespace Go.Proofs.YthjdfjlhjnihfaaGreat.Ev
open Go Nn
set_option linter.all false
section
variable {tab:Nat->Option aw} {H:Heap} {s:AV}
theorem vX (C:Code tab) (hw:Wf H) {v:AV} {n:Nat} {c:List (List Int × Bool)} {g:List (Nat × List Int)} (hp:PolyV H v n c g) :
  Ans tab (.fn fq [v]) H fun x H'=>x=.bool (lP c g || decide (4<n))/\Kp H H':=by
 obtain ⟨vc,vg,rfl,hc,hg⟩:=hp
 have oc:=hc.one
 have og:=hg.one
 refine cQ C.q35 zU fun T hl g0=>?_
 refine zW (aC hl g0 (kg oc og)) ?_
 refine XW (Dq C (n:=n) (c:=c) (g:=g) zF ⟨vc,vg,rfl,hc.mono (zG H),hg.mono (zG H)⟩) fun H2 hk2=>?_
 obtain ⟨k2,_,_⟩:=zT H zK hk2
 have d0:=hk2.get (b:=H.next) (e:=.cells [.int .i64 (n:Int),vc,vg] ah true) (cR)
 have e:decide ((4:Int)<(n:Int))=decide (4<n):=by rw [TU]; simp; omega
 cases hq:lP c g with
 | true =>
  refine zW (aB hl g0) ?_
  exact ⟨by simp,zK⟩
 | false =>
  refine zW (aC hl g0 d0) ?_
  exact ⟨by simp [e],zK⟩
theorem rS (C:Code tab) (hw:Wf H) {v v':AV} {n n':Nat} {c c':List (List Int × Bool)} {g g':List (Nat × List Int)} (hp:PolyV H v n c g) (hp':PolyV H v' n' c' g') (hc1:c.length<1099511627776) (hc2:∀ r∈c,r.1.length<1099511627776/\∀ z∈r.1,eU z) (hg1:g.length<1099511627776) (hg2:∀ r∈g,r.2.length<1099511627776/\∀ z∈r.2,eU z) :
  Ans tab (.fn fO [v,v']) H fun x H'=>x=.bool (decide (n=n'/\c=c'/\g=g'))/\Kp H H':=by
 obtain ⟨vc,vg,rfl,hc,hg⟩:=hp
 obtain ⟨vc',vg',rfl,hc',hg'⟩:=hp'
 have oc:=hc.one
 have og:=hg.one
 have oc':=hc'.one
 have og':=hg'.one
 refine bz C.q5 zU fun T hl g0 g1=>?_
 refine zW (cr hl g0 g1 (kg oc og) (kg oc' og')) ?_
 refine XW (FE C (n:=n) (n':=n') zF ⟨vc,vg,rfl,hc.mono (zG H),hg.mono (zG H)⟩ ⟨vc',vg',rfl,hc'.mono (zG H),hg'.mono (zG H)⟩ hc1 hc2 hg1 hg2) fun H2 hk2=>?_
 obtain ⟨k2,_,_⟩:=zT H zK hk2
 refine zW (aC hl g0 g1) ?_
 exact zK
def pQ (n:Nat) (c:List (List Int × Bool)) (g:List (Nat × List Int)) (n':Nat) (c':List (List Int × Bool)) (g':List (Nat × List Int)):Bool :=
 (lP c g || decide (4<n)) || (lP c' g' || decide (4<n')) || decide (8<c.length+c'.length) || decide (8<g.length+g'.length)
set_option maxHeartbeats 2000000 in
theorem DV (C:Code tab) (hw:Wf H) {v v':AV} {n n':Nat} {c c':List (List Int × Bool)} {g g':List (Nat × List Int)} (hp:PolyV H v n c g) (hp':PolyV H v' n' c' g') (h1:c.length<1099511627776) (h2:c'.length<1099511627776) (h3:g.length<1099511627776) (h4:g'.length<1099511627776) :
  Ans tab (.fn fw [v,v']) H fun x H'=>x=.bool (pQ n c g n' c' g')/\Kp H H':=by
 obtain ⟨vc,vg,rfl,hc,hg⟩:=hp
 obtain ⟨vc',vg',rfl,hc',hg'⟩:=hp'
 have oc:=hc.one
 have og:=hg.one
 have oc':=hc'.one
 have og':=hg'.one
 refine bz C.q15 zU fun T hl g0 g1=>?_
 refine zW (cr hl g0 g1 (kg oc og) (kg oc' og')) ?_
 refine XW (vX C (n:=n) (c:=c) (g:=g) zF ⟨vc,vg,rfl,hc.mono (zG H),hg.mono (zG H)⟩) fun H2 hk2=>?_
 obtain ⟨k2,_,w2⟩:=zT H zK hk2
 have d0:=hk2.get (b:=H.next) (e:=.cells [.int .i64 (n:Int),vc,vg] ah true) (cR)
 have d1:=hk2.get (b:=H.next+1) (e:=.cells [.int .i64 (n':Int),vc',vg'] ah true) (cR)
 cases hq:lP c g || decide (4<n) with
 | true =>
  refine zW (aC hl g0 g1) ?_
  exact ⟨by unfold pQ; rw [hq]; simp,zK⟩
 | false =>
  refine zW (aV hl g0 g1 d1) ?_
  refine XW (vX C (n:=n') (c:=c') (g:=g') zF ⟨vc',vg',rfl,(hc'.mono k2.sub).mono (zG H2),(hg'.mono k2.sub).mono (zG H2)⟩) fun H3 hk3=>?_
  obtain ⟨k23,_,_⟩:=zT H2 zK hk3
  have k3:Kp H H3:=k2.trans k23
  have le_k3:=k3.le
  have d0b:=k23.get d0
  have d1b:=k23.get d1
  cases hq2:lP c' g' || decide (4<n') with
  | true =>
   refine zW (aC hl g0 g1) ?_
   exact ⟨by unfold pQ; rw [hq,hq2]; simp,zK⟩
  | false =>
   have e1:IntKind.i64.wrap ((c.length:Int)+(c'.length:Int))=(c.length:Int)+(c'.length:Int):=by rw [wrap_i64] <;> omega
   have e2:IntKind.i64.wrap ((g.length:Int)+(g'.length:Int))=(g.length:Int)+(g'.length:Int):=by rw [wrap_i64] <;> omega
   by_cases q1:(8:Int)<(c.length:Int)+(c'.length:Int)
   ·have q1':8<c.length+c'.length:=by omega
    refine zW (kj hl g0 g1 d0b d1b hc.lenV hc'.lenV e1 q1) ?_
    exact ⟨by unfold pQ; rw [hq,hq2]; simp [q1'],zK⟩
   ·have q1':¬ 8<c.length+c'.length:=by omega
    refine zW (Al hl g0 g1 d0b d1b hc.lenV hc'.lenV e1 q1 hg.lenV hg'.lenV e2) ?_
    refine ⟨?_,zK⟩
    unfold pQ
    rw [hq,hq2]
    congr 1
    rw [TU]
    simp [q1']
    omega
theorem EW {α:Type} {E:fh α} {ty ty2 bytes id b:Nat} {H:Heap} {w:AV} {cs:List AV} (hb:H.get b=some (.cells cs ty true)) (hy:SlV E ty2 H w []):cN H id E.sz bytes ty (.own b 0 0 0 E.sz true) w=some (.own b 0 0 0 E.sz true,H):=by
 obtain ⟨news,hr,-,hc⟩:=hy
 obtain ⟨m',hm',hlen⟩:=hr.length
 obtain ⟨-,-,m2,hm2,hf⟩:=hr
 rw [hm'] at hm2; cases hm2
 have hmm:m'=0:=Ul E.pos (by rw [<- hlen,hc.1]; rfl)
 subst hmm
 unfold cN
 rw [hm']
 simp only
 rw [hf]
 simp only [cI,hb]
 simp
theorem Bq.weak {α:Type} {E:fh α} {ty:Nat} {H0 H0' H:Heap} {v:AV} {l:List α} (h:Bq E ty H0 H v l) (hn:H0'.next<=H0.next):Bq E ty H0' H v l:=by
 rcases h with h | ⟨b,ex,cells,h1,h2,h3,h4⟩
 ·exact .inl h
 ·exact .inr ⟨b,ex,cells,h1,h2,h3,SM hn h4⟩
theorem BB (C:Code tab) (hw:Wf H) {l:List (List Int × Bool)} (hs:SlV conE t_api_Con H s l) (hbig:l.length<1099511627776):Ans tab (.fn cL [s]) H fun v H'=>Kp H H'/\Bq conE t_api_Con H H' v l:=by
 refine cQ C.q17 zU fun T hl g0=>?_
 rcases hs.nilcase with ⟨rfl,rfl⟩ | hne
 ·have e:bX .eql .sl .nilSl .nilSl=some (.bool true):=rfl
  refine zW (aC hl g0 e) ?_
  exact ⟨zK,Bq.nil⟩
 ·have ef:cX ([]:List AV) []=some []:=rfl
  refine zW (aV hl g0 hne ef) ?_
  have k1:Kp H ((H.up 7).put (H.next+3) (.cells [] t_api_Con true)):=zK
  have le_k1:=k1.le
  have hO:Own conE t_api_Con H ((H.up 7).put (H.next+3) (.cells [] t_api_Con true)) (H.next+3) true (.own (H.next+3) 0 0 0 2 true) ([]:List (List Int × Bool)):=⟨_,rfl,au _ _ _,X1 _ _,by omega⟩
  by_cases h0:0<l.length
  ·obtain ⟨v',H2,e1,h2,hk2,hn2,hs2,ho⟩:=SlV.app (l:=[]) (id:=H.next+5) (bytes:=32) hO.sl k1 (hs.mono k1.sub) zO (by show _<H.next+7; omega) (by rw [az zO]; exact hw.fresh (b:=H.next+5) zO) (by simp; omega) (by simp; omega)
   have e1':cN ((H.up 7).put (H.next+3) (.cells [] t_api_Con true)) (H.next+5) 2 32 t_api_Con (.own (H.next+3) 0 0 0 2 true) s=some (v',H2):=e1
   refine zW (aC hl g0 e1') ?_
   exact ⟨hk2,.inr ⟨_,_,ho h0⟩⟩
  ·have hl0:l=[]:=S6 zO
   subst hl0
   have e1':cN ((H.up 7).put (H.next+3) (.cells [] t_api_Con true)) (H.next+5) 2 32 t_api_Con (.own (H.next+3) 0 0 0 2 true) s=some (.own (H.next+3) 0 0 0 2 true,(H.up 7).put (H.next+3) (.cells [] t_api_Con true)):=EW (E:=conE) (au _ _ _) (hs.mono k1.sub)
   refine zW (aC hl g0 e1') ?_
   exact ⟨k1,.inr ⟨_,_,hO⟩⟩
set_option maxHeartbeats 4000000 in
theorem I8 (C:Code tab) (hw:Wf H) {v w:AV} {n e f m m2:Nat} {K:List (List Int × Bool)} {G:List (Nat × List Int)} {a:List Int} {b:Bool} (hp:PolyV H v n K G) (ho:PolyOK n e f K G) (ha:RowV H w a) (hal:a.length=n+1) (hab:Lin.Bd (2^m) a) (hl':K.length+1<=60) (hm:f<=m) (hm3:m<=300000) (hG:∀ x∈Lin.gensP n (K++[(a,b)]),Lin.Bd (2^m2) x.2) (hm2:m2<=300000) :
  Ans tab (.fn pB [v,.agg [w,.bool b]]) H fun x H'=>mB H' x n (Lin.gensP n (K++[(a,b)]))/\Kp H H':=by
 obtain ⟨vc,vg,rfl,hc,hg⟩:=hp
 have oc:=hc.one
 have og:=hg.one
 have oa:=ha.one
 refine bz C.q8 zU fun T hl g0 g1=>?_
 refine zW (cr hl g0 g1 (kg oc og) (Ab oa)) ?_
 refine XW (rU C (n:=n) (K:=K) (G:=G) zF ⟨vc,vg,rfl,hc.mono (zG H),hg.mono (zG H)⟩ ho) fun H2 hk2=>?_
 obtain ⟨k2,_,w2⟩:=zT H zK hk2
 have d0:H2.get H.next=some (.cells [.int .i64 (n:Int),vc,vg] ah true):=hk2.get (cR)
 have d1:H2.get (H.next+1)=some (.cells [w,.bool b] t_api_Con true):=hk2.get (cR)
 have d2:H2.get (H.next+2)=some (.cells [.int .i64 0,.nilSl,.nilSl] ah true):=hk2.get (cR)
 have lt2:=w2 _ _ d2
 refine zW (aV hl g0 g1 @aD) ?_
 refine aH ?_
 refine zD (eW hl g0 g1 d0 d1 d2) ?_
 refine XX (BB C zF ((hc.mono k2.sub).mono (zG H2)) zO) ?_
 rintro v3 H3 ⟨hk3,hq3⟩
 obtain ⟨k23,_,_⟩:=zT H2 zK hk3
 have k3:Kp H H3:=k2.trans k23
 have le_k3:=k3.le
 have w3:=k3.wf
 have d0b:=k23.get d0
 have d1b:=k23.get d1
 have d2b:=k23.get d2
 have n3:H2.next+15<=H3.next:=hk3.le
 have f6:H3.get (H2.next+8)=none:=hk3.free (show H2.next+8<H2.next+15 by omega) (w2.fresh (b:=H2.next+8) zO)
 have f7:H3.get (H2.next+9)=none:=hk3.free (show H2.next+9<H2.next+15 by omega) (w2.fresh (b:=H2.next+9) zO)
 have q3:Bq conE t_api_Con H2 H3 v3 K:=hq3.weak (by show H2.next<=H2.next+15; omega)
 obtain ⟨N,H4,e4,q4,k24,n4,-,-⟩:=XZ (ty2:=t_api_Con) (bytes:=32) (id:=H2.next+9) (id2:=H2.next+8) (cs:=[w,.bool b]) (a:=(a,b)) q3 zU k23 ⟨w,rfl,ha.mono k3.sub⟩ zO zO f7 zO zO f6 zO zO zO
 have e4:cN (H3.put (H2.next+8) (.cells [w,.bool b] t_api_Con true)) (H2.next+9) 2 32 t_api_Con v3 (.own (H2.next+8) 0 1 1 2 true)=some (.own (H2.next+9) 0 N N 2 false,H4):=e4
 have k4:Kp H H4:=k2.trans k24
 have le_k4:=k4.le
 have w4:=k4.wf
 have d0c:=k24.get d0
 have d2c:=k24.get d2
 refine zD (rM hl g0 g1 d0 d1 d2 d0b d1b d2b e4) ?_
 refine XX (iA C (n:=n) (m:=m) (m2:=m2) (l:=K++[(a,b)]) zF (q4.sl.mono (zG H4)) ho.dim (by rw [SN]; exact hl') (fun c hc=>(SQ.1 hc).elim (fun h=>⟨(ho.rowK c h).1,ES (ho.rowK c h).2 hm⟩) fun h=>by rw [TD] at h; subst h; exact ⟨hal,hab⟩) hm3 hG hm2) ?_
 rintro v5 H5 ⟨hm5,hk5⟩
 obtain ⟨k45,_,_⟩:=zT H4 zK hk5
 have k5:Kp H H5:=k4.trans k45
 have le_k5:=k5.le
 have w5:=k5.wf
 have d2d:=k45.get d2c
 have lt5:=w5 _ _ d2d
 rcases hm5 with ⟨rfl,hm5⟩ | ⟨p,rfl,⟨vc4,vg4,rfl,hc4,hg4⟩,h1,h2⟩
 ·refine zD (xK hl g0 g1 d0 d1 d2 d0b d1b d2b d0c d2c d2d @mF) ?_
  exact ⟨.inl ⟨rfl,hm5⟩,zK⟩
 ·have oc4:=hc4.one
  have og4:=hg4.one
  refine zD (xK hl g0 g1 d0 d1 d2 d0b d1b d2b d0c d2c d2d @mF) ?_
  refine ⟨.inr ⟨_,rfl,⟨vc4,vg4,rfl,?_,?_⟩,h1,h2⟩,zK⟩
  ·have m3:NoTy (t_api_Con :: conE.tys) H5 (H.next+2):=Yg d2d zU
   exact Yn (E:=conE) zS hc4
  ·have m3:NoTy (ak :: genE.tys) H5 (H.next+2):=Yg d2d zU
   exact Yn (E:=genE) zS hg4
end
section
variable {tab:Nat->Option aw} {H:Heap} {s:AV}
theorem uY (C:Code tab) (hw:Wf H) {l:List Int} {ty:Nat} (hs:xJ (F9 .i64) ty H s l) (h64:l.length<=64) (hz:∀ z∈l,-9223372036854775808<=z/\z<9223372036854775808) :
  Ans tab (.fn gu [s]) H fun v H'=>∃ w,v=.agg [w,.bool false]/\RowV H' w l/\Kp H H':=by
 refine cQ C.q7 zU fun T hl g0=>?_
 refine zW (aB hl g0) ?_
 refine XX (PE C zF (hs.mono (zG H)) h64 hz) ?_
 rintro v H2 ⟨hr,hk2⟩
 obtain ⟨k2,_,w2⟩:=zT H zK hk2
 have d0:=hk2.get (b:=H.next) (e:=.cells [.nilSl,.bool false] t_api_Con true) (cR)
 have lt0:=w2 _ _ d0
 have ov:=hr.one
 have m3:NoTy (aa :: intE.tys) H2 H.next:=Yg d0 zU
 refine zW (aV hl g0 d0 (xF ov)) ?_
 exact ⟨v,rfl,Yn (E:=intE) zS hr,zK⟩
theorem IG {a b:Int} (ha:a.natAbs<=9) (hb:b.natAbs<=9):∀ c∈[(([-a,1]:List Int),false),([b,-1],false)],c.1.length=1+1/\Lin.Bd (2^4) c.1:=fun c hc=>by
 have key:∀ x y:Int,x.natAbs<=9->y.natAbs<=9->Lin.Bd (2^4) [x,y]:=fun x y hx hy i=>by
  match i with
  | 0=>show x.natAbs<=16; omega
  | 1=>show y.natAbs<=16; omega
  | i+2=>simp [Lin.at_]
 rcases SX.1 hc with rfl | hc
 ·exact ⟨rfl,key _ _ zO zO⟩
 ·rw [TD] at hc; subst hc
  exact ⟨rfl,key _ _ hb zO⟩
set_option maxHeartbeats 2000000 in
theorem ij (C:Code tab) (hw:Wf H) {a b:Int} (ha:a.natAbs<=9) (hb:b.natAbs<=9) {g:List (Nat × List Int)} {K:List (List Int × Bool)} (hG:Lin.gensP 1 [([-a,1],false),([b,-1],false)]=g) (hK:Lin.consP 1 g=K) (lg:g.length<1024) (lK:K.length<1024) :
  Ans tab (.fn eN [.int .i64 a,.int .i64 b]) H fun v H'=>PolyV H' v 1 K g/\Kp H H':=by
 refine bz C.q6 zU fun T hl g0 g1=>?_
 have ea:IntKind.i64.wrap (0-a) = -a:=by rw [wrap_i64] <;> omega
 refine zW (aV hl g0 g1 ea) ?_
 have e0:Emp (H.up 16) H.next (H.next+16):=Emp.start hw
 refine XX (uY C (l:=[-a,1]) zF (yP (by refine uv ?_; rfl)) (by simp) (by simp; omega)) ?_
 rintro _ H2 ⟨v3,rfl,r3,hk2⟩
 obtain ⟨k2,_,w2⟩:=zT H zK hk2
 have d0:H2.get H.next=some (.cells [.int .i64 0,.nilSl,.nilSl] ah true):=hk2.get (cR)
 have e2:Emp H2 (H.next+4) (H.next+16):=(((e0.put (p:=H.next) (a':=H.next+1) zO zO).put zO zO).keep hk2)
 have n2:=e2.1
 have o3:=r3.one
 refine zW (aC hl g0 g1) ?_
 refine XX (uY C (l:=[b,-1]) zF (yP (by refine uv ?_; rfl)) (by simp) (by simp; omega)) ?_
 rintro _ H3 ⟨v5,rfl,r5,hk3⟩
 obtain ⟨k3,_,w3⟩:=zT H zK hk3
 have e3:Emp H3 (H.next+7) (H.next+16):=(e2.put zO zO).keep hk3
 have n3:=e3.1
 have s23:Sub H2 H3:=(e2.sub (p:=H.next+6) zO zO).trans hk3.sub
 have o5:=r5.one
 have d0b:=s23.get _ _ d0
 refine zW (aC hl g0 g1) ?_
 obtain ⟨G3,hG3⟩:∃ G,G=H3.put (H.next+8) (.cells [v3,.bool false,v5,.bool false] t_api_Con true):=⟨_,rfl⟩
 rw [<- hG3]
 have e3':Emp G3 (H.next+9) (H.next+16):=by rw [hG3]; exact e3.put zO zO
 have s3:Sub H3 G3:=by rw [hG3]; exact e3.sub zO zO
 have k3':Kp H G3:=by rw [hG3]; exact zK
 have w3':=k3'.wf
 have n3':=e3'.1
 have d0c:=s3.get _ _ d0b
 have R1:SlV conE t_api_Con G3 (.own (H.next+8) 0 2 2 2 true) [([-a,1],false),([b,-1],false)]:=Q4 (by rw [hG3]; exact au _ _ _) (r3.mono (s23.trans s3)) (r5.mono s3)
 have sb:=IG ha hb
 have gb:=tD (n:=1) zO sb
 refine XX (iA C (n:=1) (m:=4) (m2:=64*(4+4)) zF R1 zO (by simp) sb zO (fun x hx=>(gb x hx).2) zO) ?_
 rintro v4 H4 ⟨hm4,hk4⟩
 have k4:Kp H H4:=k3'.trans hk4
 have le_k4:=k4.le
 have w4:=k4.wf
 have e4:Emp H4 (H.next+9) (H.next+16):=e3'.keep hk4
 have n4:=e4.1
 have d0d:=hk4.get d0c
 rw [hG] at hm4
 unfold mB at hm4
 rw [hK] at hm4
 rcases hm4 with ⟨-,hm4⟩ | ⟨p,rfl,⟨vc,vg,rfl,hc,hg⟩,-,-⟩
 ·omega
 have oc:=hc.one
 have og:=hg.one
 obtain ⟨H5,hH5⟩:∃ H5,H5=((H4.up 2).put (H.next+13) (.cells [.int .i64 0,.nilSl,.nilSl] ah true)).put (H.next+13) (.cells [.int .i64 ((1:Nat):Int),vc,vg] ah true):=⟨_,rfl⟩
 have f13:=e4.2 (H.next+13) zO zO
 have s45:Sub H4 H5:=by rw [hH5]; exact ((Ys H4 2).put f13 _).put f13 _
 have d0e:=s45.get _ _ d0d
 have k5:Kp H H5:=by rw [hH5]; exact zK
 have le_k5:=k5.le
 have n5:H5.next=H4.next+2:=by rw [hH5]; rfl
 refine zW (cr hl g0 g1 @mF d0d) ?_
 rw [<- hH5]
 refine ⟨⟨vc,vg,rfl,?_,?_⟩,zK⟩
 ·have m3:NoTy (t_api_Con :: conE.tys) H5 H.next:=Yg d0e zU
  exact Yn (E:=conE) zS (hc.mono s45)
 ·have m3:NoTy (ak :: genE.tys) H5 H.next:=Yg d0e zU
  exact Yn (E:=genE) zS (hg.mono s45)
theorem yS (C:Code tab) (hw:Wf H) {v v':AV} {n n':Nat} {c c':List (List Int × Bool)} {g g':List (Nat × List Int)} (hp:PolyV H v n c g) (hp':PolyV H v' n' c' g') (hc1:c.length<1099511627776) (hc2:∀ r∈c,r.1.length<1099511627776/\∀ z∈r.1,eU z) (hg1:g.length<1099511627776) (hg2:∀ r∈g,r.2.length<1099511627776/\∀ z∈r.2,eU z) :
  Ans tab (.fn hZ [v,.int .i64 0,v']) H fun x H'=>x=.bool (decide (n=n'/\c=c'/\g=g'))/\Kp H H':=by
 obtain ⟨vc,vg,rfl,hc,hg⟩:=hp
 obtain ⟨vc',vg',rfl,hc',hg'⟩:=hp'
 have oc:=hc.one
 have og:=hg.one
 have oc':=hc'.one
 have og':=hg'.one
 refine lU C.q12 zU fun T hl g0 g1 g2=>?_
 refine zW (eW hl g0 g1 g2 (kg oc og) (kg oc' og')) ?_
 refine XW (rS C (n:=n) (n':=n') zF ⟨vc,vg,rfl,hc.mono (zG H),hg.mono (zG H)⟩ ⟨vc',vg',rfl,hc'.mono (zG H),hg'.mono (zG H)⟩ hc1 hc2 hg1 hg2) fun H2 hk2=>?_
 obtain ⟨k2,_,_⟩:=zT H zK hk2
 refine zW (aV hl g0 g1 g2) ?_
 exact zK
set_option maxHeartbeats 2000000 in
theorem Dw (C:Code tab) (hw:Wf H) :
  Ans tab (.fn oh [.int .i64 1]) H fun x H'=>∃ p,x=.tup [p,.int .i64 0]/\PolyV H' p 1 [([-1,0],false)] []/\Kp H H':=by
 have hmk:∀ H':Heap,Ho H' (H.next+10) aa 2 32 [.bool false,.nilSl] (.int .i64 2) (.int .i64 2)=some (.own (H.next+10) 0 2 2 2 true,H'.put (H.next+10) (.cells [.bool false,.nilSl,.bool false,.nilSl] aa true)):=fun H'=>iW H' (H.next+10) aa 2 32 [.bool false,.nilSl] .i64 .i64 2 zU zU rfl
 have ej:IntKind.i64.wrap (1+1)=2:=by rw [wrap_i64] <;> omega
 have ej2:IntKind.i64.wrap 2=2:=by rw [wrap_i64] <;> omega
 refine cQ C.q11 zU fun T hl g0=>?_
 refine zW (cr hl g0 ej ej2 hmk) ?_
 refine XX (nf C (n:=-1) zF zO zO) ?_
 rintro v H2 ⟨⟨w,rfl,hn2⟩,hk2⟩
 obtain ⟨k2,_,w2⟩:=zT H zK hk2
 have ow:=hn2.one
 have n2:H.next+16<=H2.next:=hk2.le
 have d0:H2.get H.next=some (.cells [.int .i64 0,.nilSl,.nilSl] ah true):=hk2.get (cR)
 have hb2:=hk2.get (b:=H.next+10) (e:=.cells [.bool false,.nilSl,.bool false,.nilSl] aa true) (cR)
 have dm:decide ((-1:Int)<0)=true:=by decide
 have hst:Db (some (.cells [.bool false,.nilSl,.bool false,.nilSl] aa true)) 2 0 (.agg [.bool true,w])=some (.cells [.bool true,w,.bool false,.nilSl] aa true):=iN (Ee (aQ _) ow) zU
 have hio:co 2 (.own (H.next+10) 0 2 2 2 true) (.int .i64 0)=some (.ptr (H.next+10) 0):=mj (j:=0) zO
 have hbd:ia [.nilSl,.bool false] [((0,1),.own (H.next+10) 0 2 2 2 true)]=some (.agg [.own (H.next+10) 0 2 2 2 true,.bool false]):=xF (bo _ _ _ _ _ _) _ _
 have lt2:=w2 _ _ hb2
 refine zW (gf hl dm hio hb2 hst g0 hbd) ?_
 obtain ⟨G,hG⟩:∃ G,G=((H2.up 9).put (H.next+10) (.cells [.bool true,w,.bool false,.nilSl] aa true)).put (H2.next+3) (.cells [.own (H.next+10) 0 2 2 2 true,.bool false] t_api_Con true):=⟨_,rfl⟩
 have kG:Kp H G:=by rw [hG]; exact zK
 have wG:=kG.wf
 have m3:NoTy [ae] H2 (H.next+10):=Yg hb2 zU
 have hwG:cp G w 1:=by rw [hG]; exact Yn (E:=bT cm) zS hn2
 have gG:G.get (H.next+10)=some (.cells [.bool (decide ((-1:Int)<0)),w,.bool (decide ((0:Int)<0)),.nilSl] aa true):=by rw [hG,az zO,au]; rfl
 have rG:RowV G (.own (H.next+10) 0 2 2 2 true) [-1,0]:=DO (x:=-1) (y:=0) (H:=G) hwG (fM G) (X7 wG).sub gG
 have gc:SlV conE t_api_Con G (.own (H2.next+3) 0 1 1 2 true) [([-1,0],false)]:=Q5 (by rw [hG]; exact au _ _ _) rG
 rw [<- hG]
 have nG:H2.next+9<=G.next:=by rw [hG]; exact Sz _
 have d0G:G.get H.next=some (.cells [.int .i64 0,.nilSl,.nilSl] ah true):=by rw [hG,az zO,az zO]; exact d0
 have hgn:Lin.gensP 1 [([-1,0],false)]=[]:=Lin.none_empty (n:=1)
 refine XX (iA C (n:=1) (m:=4) (m2:=4) zF gc zO (by simp) (fun c hc=>by
  rw [TD] at hc; subst hc
  exact ⟨rfl,fun i=>by
   match i with
   | 0=>decide
   | 1=>decide
   | i+2=>simp [Lin.at_]⟩) zO (by rw [hgn]; intro x hx; cases hx) zO) ?_
 rintro v4 H4 ⟨hm4,hk4⟩
 have k4:Kp H H4:=kG.trans hk4
 have le_k4:=k4.le
 have w4:=k4.wf
 have d0d:=hk4.get d0G
 have lt4:=w4 _ _ d0d
 rw [hgn] at hm4
 rcases hm4 with ⟨-,hm4⟩ | ⟨p,rfl,⟨vc,vg,rfl,hc,hg⟩,-,-⟩
 ·have:(Lin.consP 1 []).length=1:=rfl
  simp only [UT] at hm4
  omega
 have hc:SlV conE t_api_Con H4 vc [([-1,0],false)]:=hc
 have oc:=hc.one
 have og:=hg.one
 refine zW (aV hl g0 @mF d0d) ?_
 refine ⟨_,rfl,⟨vc,vg,rfl,?_,?_⟩,zK⟩
 ·have m4:NoTy (t_api_Con :: conE.tys) H4 H.next:=Yg d0d zU
  exact Yn (E:=conE) zS hc
 ·have m4:NoTy (ak :: genE.tys) H4 H.next:=Yg d0d zU
  exact Yn (E:=genE) zS hg
end
open Go
theorem MU {tab:Nat->Option aw} {rd:Bool} {c:ACode} {T:Tm} {H:Heap} {K:Ex->Tm->Heap->Prop} (p:Tm->Prop) (hp:p T) (h:∀ T',p T'->WC tab rd c T' H K):WC tab rd c T H K:=h T hp
theorem vO {tab:Nat->Option aw} {rd:Bool} {c:ACode} {T:Tm} {H:Heap} {K:Ex->Tm->Heap->Prop} (p:Tm->Prop) (hp:p T) (h:∀ T',p T'->WB tab rd c T' H K):WB tab rd c T H K:=h T hp
section
variable {tab:Nat->Option aw} {H:Heap} {s:AV}
theorem ok1 {K:List (List Int × Bool)} {G:List (Nat × List Int)} (h1:Lin.gensP 1 K=G) (h2:Lin.consP 1 G=K) (h:(K.all (fun x=>decide (x.1.length=2) && x.1.all (fun a=>decide (a.natAbs<=16))) && G.all (fun x=>x.2.all (fun a=>decide (a.natAbs<=16))) && decide (K.length<=60) && decide (G.length<60))=true):PolyOK 1 4 4 K G:=by
 simp only [S7,SV,decide_eq_true_eq] at h
 obtain ⟨⟨⟨h3,h4⟩,h5⟩,h6⟩:=h
 exact ⟨⟨fun c hc=>(h3 c hc).1,h1,h2⟩,by omega,.inl h5,by omega,fun c hc=>Lin.bd_small4 (SV.2 fun a ha=>decide_eq_true ((h3 c hc).2 a ha)),fun x hx=>Lin.bd_small4 (SV.2 fun a ha=>decide_eq_true (h4 x hx a ha)),by omega,by omega⟩
theorem P7:PolyOK 1 4 4 [([-1,1],false),([3,-1],false)] [(3,[1,1]),(3,[1,3])]:=ok1 Lin.g13 Lin.k13 zU
theorem ok23:PolyOK 1 4 4 [([-2,1],false),([3,-1],false)] [(3,[1,2]),(3,[1,3])]:=ok1 Lin.g23 Lin.k23 zU
theorem RG:PolyOK 1 4 4 [([-5,1],true)] [(3,[1,5])]:=ok1 Lin.g55b Lin.k55 zU
theorem ok15:PolyOK 1 4 4 [([-1,1],false),([5,-1],false)] [(3,[1,1]),(3,[1,5])]:=ok1 Lin.g15 Lin.k15 zU
theorem RH:PolyOK 1 4 4 [([-4,1],false),([9,-1],false)] [(3,[1,4]),(3,[1,9])]:=ok1 Lin.g49 Lin.k49 zU
theorem ok00:PolyOK 1 4 4 [([-1,0],false)] []:=ok1 (Lin.none_empty (n:=1)) rfl zU
theorem LZ {H:Heap} {x:AV} {K:List (List Int × Bool)} {G:List (Nat × List Int)} (h:mB H x 1 G) (ok:PolyOK 1 4 4 K G):∃ vc vg,x=.tup [.agg [.int .i64 1,vc,vg],.int .i64 0]/\SlV conE t_api_Con H vc K/\SlV genE ak H vg G:=by
 have e:=ok.own.cons
 have h1:=ok.many
 have h2:=ok.lenK
 unfold mB at h
 rw [e] at h
 rcases h with ⟨-,h⟩ | ⟨p,rfl,⟨vc,vg,rfl,hc,hg⟩,-,-⟩
 ·omega
 ·exact ⟨vc,vg,rfl,hc,hg⟩
set_option maxHeartbeats 1000000 in
theorem DW (C:Code tab) (hw:Wf H):Ans tab (.fn fy []) H fun v H'=>v=.bool true/\Kp H H':=by
 refine RP C.q1 fun T hl=>?_
 refine zW hl ?_
 refine XX (ij C (a:=1) (b:=3) zF zU zU Lin.g13 Lin.k13 zU zU) ?_
 rintro _ H2 ⟨⟨vc,vg,rfl,hc,hg⟩,hk2⟩
 obtain ⟨k2,_,w2⟩:=zT H zK hk2
 have oc:=hc.one
 have og:=hg.one
 have n2:H.next+4<=H2.next:=hk2.le
 have f2:H2.get (H.next+2)=none:=hk2.free (show H.next+2<H.next+4 by omega) (hw.fresh (b:=H.next+2) zO)
 obtain ⟨G2,hG2⟩:∃ G2,G2=(H2.put (H.next+2) (.cells [.int .i64 0,.nilSl,.nilSl] ah true)).put (H.next+2) (.cells [.int .i64 ((1:Nat):Int),vc,vg] ah true):=⟨_,rfl⟩
 have s2:Sub H2 G2:=by rw [hG2]; exact (aP f2).put f2 _
 have kG2:Kp H G2:=by rw [hG2]; exact zK
 have wG2:=kG2.wf
 have dP:G2.get (H.next+2)=some (.cells [.int .i64 ((1:Nat):Int),vc,vg] ah true):=by rw [hG2]; exact au _ _ _
 have hc2:=hc.mono s2
 have hg2:=hg.mono s2
 obtain ⟨P,hP⟩:∃ P,P=H.next+2:=⟨_,rfl⟩
 have ltP:=wG2 _ _ dP
 refine zW (aC hl @mF @aD) ?_
 rw [<- hG2,<- hP]
 rw [<- hP] at dP ltP
 refine aH ?_
 refine zD (aB hl dP) ?_
 refine XX (uY C (l:=[-2,1]) zF (yP (by refine uv ?_; rfl)) (by simp) (by simp)) ?_
 rintro _ H3 ⟨v3,rfl,r3,hk3⟩
 obtain ⟨k3,_,w3⟩:=zT G2 zK hk3
 have e3:Emp H3 (G2.next+2) (G2.next+10):=((Emp.start wG2 (k:=10)).put (p:=G2.next+1) zO zO).keep hk3
 have o3:=r3.one
 have dP3:=k3.get dP
 refine zD (aC hl dP dP3) ?_
 refine XX (I8 C (n:=1) (m:=4) (m2:=4) (a:=[-2,1]) (b:=false) zF ⟨vc,vg,rfl,(hc2.mono k3.sub).mono (zG H3),(hg2.mono k3.sub).mono (zG H3)⟩ P7 (r3.mono (zG H3)) rfl (Lin.bd_small4 zU) zU zO zO (by intro x hx; exact ok23.bG x (by rw [<- Lin.m23]; exact hx)) zO) ?_
 rintro x4 H4 ⟨hm4,hk4⟩
 have hm4:mB H4 x4 1 [(3,[1,2]),(3,[1,3])]:=by rw [<- Lin.m23]; exact hm4
 obtain ⟨va,vb,rfl,ha,hb⟩:=LZ hm4 ok23
 obtain ⟨k34,_,_⟩:=zT H3 zK hk4
 have k4:Kp G2 H4:=k3.trans k34
 have le_k4:=k4.le
 have w4:=k4.wf
 have e4:Emp H4 (G2.next+2) (G2.next+10):=e3.keep k34
 have n4:=e4.1
 have oa:=ha.one
 have ob:=hb.one
 have f4:=e4.2 (G2.next+7) zO zO
 obtain ⟨G4,hG4⟩:∃ G4,G4=(H4.put (G2.next+7) (.cells [.int .i64 0,.nilSl,.nilSl] ah true)).put (G2.next+7) (.cells [.int .i64 1,va,vb] ah true):=⟨_,rfl⟩
 have s4:Sub H4 G4:=by rw [hG4]; exact (aP f4).put f4 _
 have kG4:Kp G2 G4:=by rw [hG4]; exact zK
 have wG4:=kG4.wf
 have dA:G4.get (G2.next+7)=some (.cells [.int .i64 1,va,vb] ah true):=by rw [hG4]; exact au _ _ _
 obtain ⟨A,hA⟩:∃ A,A=G2.next+7:=⟨_,rfl⟩
 have ltA:=wG4 _ _ dA
 have dP4:=kG4.get dP
 refine zD (cr hl dP dP3 @mF @aD) ?_
 rw [<- hG4,<- hA]
 rw [<- hA] at dA ltA
 clear hm4
 have hc4:=(hc2.mono k4.sub).mono s4
 have hg4:=(hg2.mono k4.sub).mono s4
 have ha4:=ha.mono s4
 have hb4:=hb.mono s4
 refine aH ?_
 refine zD (aB hl dP4) ?_
 refine XX (ij C (a:=5) (b:=5) zF zU zU Lin.g55 Lin.k55 zU zU) ?_
 rintro _ H5 ⟨⟨vc5,vg5,rfl,hc5,hg5⟩,hk5⟩
 obtain ⟨k5,_,w5⟩:=zT G4 zK hk5
 have e5:Emp H5 G4.next (G4.next+9):=(Emp.start wG4 (k:=9)).keep hk5
 have oc5:=hc5.one
 have og5:=hg5.one
 have dP5:=k5.get dP4
 refine zD (aC hl dP4 dP5) ?_
 have hkh:Lin.consP 1 ([(3,[1,1]),(3,[1,3])]++[(3,[1,5])])=[([-1,1],false),([5,-1],false)]:=Lin.kh
 refine XX (I9 C (n:=1) (m:=4) (m2:=4) (m3:=4) zF ⟨vc,vg,rfl,(hc4.mono k5.sub).mono (zG H5),(hg4.mono k5.sub).mono (zG H5)⟩ ⟨vc5,vg5,rfl,hc5.mono (zG H5),hg5.mono (zG H5)⟩ P7 RG zU zO zO zO (by rw [hkh]; exact ok15.bK) zO (by rw [hkh,Lin.g15]; exact ok15.bG) zO (by rw [hkh]; decide)) ?_
 rintro x6 H6 ⟨hm6,hk6⟩
 have hm6:mB H6 x6 1 [(3,[1,1]),(3,[1,5])]:=by
  unfold Ie at hm6
  rw [hkh,Lin.g15] at hm6
  rcases hm6 with ⟨-,h⟩ | h
  ·simp at h
  ·exact h
 obtain ⟨vd,ve,rfl,hd,he⟩:=LZ hm6 ok15
 clear hm6
 obtain ⟨k56,_,_⟩:=zT H5 zK hk6
 have k6:Kp G4 H6:=k5.trans k56
 have le_k6:=k6.le
 have w6:=k6.wf
 have e6:Emp H6 G4.next (G4.next+9):=e5.keep k56
 have n6:=e6.1
 have od:=hd.one
 have oe:=he.one
 have f6:=e6.2 (G4.next+6) zO zO
 obtain ⟨G6,hG6⟩:∃ G6,G6=(H6.put (G4.next+6) (.cells [.int .i64 0,.nilSl,.nilSl] ah true)).put (G4.next+6) (.cells [.int .i64 1,vd,ve] ah true):=⟨_,rfl⟩
 have s6:Sub H6 G6:=by rw [hG6]; exact (aP f6).put f6 _
 have kG6:Kp G4 G6:=by rw [hG6]; exact zK
 have wG6:=kG6.wf
 have dD:G6.get (G4.next+6)=some (.cells [.int .i64 1,vd,ve] ah true):=by rw [hG6]; exact au _ _ _
 obtain ⟨D,hD⟩:∃ D,D=G4.next+6:=⟨_,rfl⟩
 have ltD:=wG6 _ _ dD
 have dP6:=kG6.get dP4
 have dA6:=kG6.get dA
 refine zD (cr hl dP4 dP5 @mF @aD) ?_
 rw [<- hG6,<- hD]
 rw [<- hD] at dD ltD
 have hc6:=(hc4.mono k6.sub).mono s6
 have hg6:=(hg4.mono k6.sub).mono s6
 have ha6:=(ha4.mono k6.sub).mono s6
 have hb6:=(hb4.mono k6.sub).mono s6
 have hd6:=hd.mono s6
 have he6:=he.mono s6
 refine aH ?_
 refine zD (aB hl dP6) ?_
 refine XX (ij C (a:=4) (b:=9) zF zU zU Lin.g49 Lin.k49 zU zU) ?_
 rintro _ H7 ⟨⟨vc7,vg7,rfl,hc7,hg7⟩,hk7⟩
 obtain ⟨k7,_,w7⟩:=zT G6 zK hk7
 have e7:Emp H7 G6.next (G6.next+9):=(Emp.start wG6 (k:=9)).keep hk7
 have oc7:=hc7.one
 have og7:=hg7.one
 have dP7:=k7.get dP6
 refine zD (aC hl dP6 dP7) ?_
 have hb0:Lin.gensP 1 ([([-1,1],false),([3,-1],false)]++[([-4,1],false),([9,-1],false)])=[]:=Lin.b0
 refine XX (Ja C (n:=1) (m:=4) (m2:=4) zF ⟨vc,vg,rfl,(hc6.mono k7.sub).mono (zG H7),(hg6.mono k7.sub).mono (zG H7)⟩ ⟨vc7,vg7,rfl,hc7.mono (zG H7),hg7.mono (zG H7)⟩ P7 RH zU zO zO zO (by rw [hb0]; exact ok00.bG) zO) ?_
 rintro x8 H8 ⟨hm8,hk8⟩
 rw [hb0] at hm8
 obtain ⟨vx,vy,rfl,hx,hy⟩:=LZ hm8 ok00
 clear hm8
 obtain ⟨k78,_,_⟩:=zT H7 zK hk8
 have k8:Kp G6 H8:=k7.trans k78
 have le_k8:=k8.le
 have w8:=k8.wf
 have e8:Emp H8 G6.next (G6.next+9):=e7.keep k78
 have n8:=e8.1
 have ox:=hx.one
 have oy:=hy.one
 have f8:=e8.2 (G6.next+6) zO zO
 obtain ⟨G8,hG8⟩:∃ G8,G8=((H8.up 7).put (G6.next+6) (.cells [.int .i64 0,.nilSl,.nilSl] ah true)).put (G6.next+6) (.cells [.int .i64 1,vx,vy] ah true):=⟨_,rfl⟩
 have s8:Sub H8 G8:=by rw [hG8]; exact ((Ys H8 7).put f8 _).put f8 _
 have nG8:G8.next=H8.next+7:=by rw [hG8]; rfl
 have kG8:Kp G6 G8:=by rw [hG8]; exact zK
 have wG8:=kG8.wf
 have dX:G8.get (G6.next+6)=some (.cells [.int .i64 1,vx,vy] ah true):=by rw [hG8]; exact au _ _ _
 obtain ⟨X,hX⟩:∃ X,X=G6.next+6:=⟨_,rfl⟩
 have ltX:=wG8 _ _ dX
 have dP8:=kG8.get dP6
 have dA8:=kG8.get dA6
 have dD8:=kG8.get dD
 refine zD (cr hl dP6 dP7 @mF @aD) ?_
 rw [<- hG8,<- hX]
 rw [<- hX] at dX ltX
 have hc8:=(hc6.mono k8.sub).mono s8
 have hg8:=(hg6.mono k8.sub).mono s8
 have ha8:=(ha6.mono k8.sub).mono s8
 have hb8:=(hb6.mono k8.sub).mono s8
 have hd8:=(hd6.mono k8.sub).mono s8
 have he8:=(he6.mono k8.sub).mono s8
 have hx8:=hx.mono s8
 have hy8:=hy.mono s8
 have f8b:G8.get (H8.next+4)=none:=by rw [hG8,az zO,az zO]; exact w8.fresh (b:=H8.next+4) zO
 clear hG8 hG6 hG4 hG2
 refine XX (Dw C zF) ?_
 rintro _ H9 ⟨p,rfl,⟨vn,vm,rfl,hn,hm⟩,hk9⟩
 have w9:=hk9.wf
 have le_hk9:=hk9.le
 have on:=hn.one
 have om:=hm.one
 have f9:H9.get (H8.next+4)=none:=hk9.free (show H8.next+4<G8.next by omega) f8b
 obtain ⟨G9,hG9⟩:∃ G9,G9=(H9.put (H8.next+4) (.cells [.int .i64 0,.nilSl,.nilSl] ah true)).put (H8.next+4) (.cells [.int .i64 ((1:Nat):Int),vn,vm] ah true):=⟨_,rfl⟩
 have le9:=hk9.le
 have s9:Sub H9 G9:=by rw [hG9]; exact (aP f9).put f9 _
 have dN:G9.get (H8.next+4)=some (.cells [.int .i64 ((1:Nat):Int),vn,vm] ah true):=by rw [hG9]; exact au _ _ _
 have kA8:Kp H G8:=((kG2.trans kG4).trans kG6).trans kG8
 have leA8:=kA8.le
 have leA6:=(kG2.trans (kG4.trans kG6)).le
 have kG9:Kp H G9:=by rw [hG9]; exact (((kA8.trans hk9).put zO zO).put zO (by rw [next_put]; omega))
 have wG9:Wf G9:=kG9.wf
 obtain ⟨N,hN⟩:∃ N,N=H8.next+4:=⟨_,rfl⟩
 have ltN:=wG9 _ _ dN
 have s89:Sub G8 G9:=hk9.sub.trans s9
 have dP9:=s89.get _ _ dP8
 have dA9:=s89.get _ _ dA8
 have dD9:=s89.get _ _ dD8
 have dX9:=s89.get _ _ dX
 refine zD (aC hl @mF @aD) ?_
 rw [<- hG9,<- hN]
 rw [<- hN] at dN ltN
 have hc9:=hc8.mono s89
 have hg9:=hg8.mono s89
 have ha9:=ha8.mono s89
 have hb9:=hb8.mono s89
 have hd9:=hd8.mono s89
 have he9:=he8.mono s89
 have hx9:=hx8.mono s89
 have hy9:=hy8.mono s89
 have hn9:=hn.mono s9
 have hm9:=hm.mono s9
 have lg9:lenV vg=some (.int .i64 2):=hg9.lenV
 have ln9:lenV vn=some (.int .i64 1):=hn9.lenV
 refine MU (fun T'=>T'.length=66/\ad T' 1=.ptr P 0/\ad T' 2=.ptr A 0/\ad T' 3=.int .i64 0/\ad T' 4=.ptr D 0/\ad T' 5=.int .i64 0/\ad T' 6=.ptr X 0/\ad T' 7=.int .i64 0/\ad T' 8=.ptr N 0/\ad T' 9=.int .i64 0) (zE hl) ?_
 clear hl
 rintro T' ⟨hl,t1,t2,t3,t4,t5,t6,t7,t8,t9⟩
 refine aH ?_
 refine zX (Ik hl @aR t1 t2 t3 t4 t5 t6 t7 t8 t9 dP9 lg9 dA9) ?_
 refine XX (ij C (a:=2) (b:=3) zF zU zU Lin.g23 Lin.k23 zU zU) ?_
 rintro _ H10 ⟨⟨v10,u10,rfl,hc10,hg10⟩,hk10⟩
 obtain ⟨k10,_,w10⟩:=zT G9 zK hk10
 have ov10:=hc10.one
 have ou10:=hg10.one
 have dA10:=k10.get dA9
 have dP10:=k10.get dP9
 refine zX (QK hl @aR t1 t2 t3 t4 t5 t6 t7 t8 t9 dP9 lg9 dA10 dP10 dA9) ?_
 refine XW (yS C (n:=1) (n':=1) zF ⟨va,vb,rfl,(ha9.mono k10.sub).mono (zG H10),(hb9.mono k10.sub).mono (zG H10)⟩ ⟨v10,u10,rfl,hc10.mono (zG H10),hg10.mono (zG H10)⟩ zU ok23.smK zU ok23.smG) fun H11 hk11=>?_
 rw [decide_eq_true ⟨rfl,rfl,rfl⟩]
 have k11:Kp G9 H11:=k10.trans (X9 zK hk11)
 have le_k11:=k11.le
 have w11:=k11.wf
 have dD11:=k11.get dD9
 refine zX (Fd hl @aR t1 t2 t3 t4 t5 t6 t7 t8 t9 dP9 lg9 dA10 dP10 dA9 dD11) ?_
 refine XX (ij C (a:=1) (b:=5) zF zU zU Lin.g15 Lin.k15 zU zU) ?_
 rintro _ H12 ⟨⟨v12,u12,rfl,hc12,hg12⟩,hk12⟩
 have k12:Kp G9 H12:=k11.trans (X9 zK hk12)
 have le_k12:=k12.le
 have w12:=k12.wf
 have ov12:=hc12.one
 have ou12:=hg12.one
 have dD12:=k12.get dD9
 refine zX (BC hl @aR t1 t2 t3 t4 t5 t6 t7 t8 t9 dP9 lg9 dA10 dP10 dA9 dD11 dD12) ?_
 refine XW (yS C (n:=1) (n':=1) zF ⟨vd,ve,rfl,(hd9.mono k12.sub).mono (zG H12),(he9.mono k12.sub).mono (zG H12)⟩ ⟨v12,u12,rfl,hc12.mono (zG H12),hg12.mono (zG H12)⟩ zU ok15.smK zU ok15.smG) fun H13 hk13=>?_
 rw [decide_eq_true ⟨rfl,rfl,rfl⟩]
 have k13:Kp G9 H13:=k12.trans (X9 zK hk13)
 have le_k13:=k13.le
 have w13:=k13.wf
 have dX13:=k13.get dX9
 have dN13:=k13.get dN
 refine zX (QJ hl @aR t1 t2 t3 t4 t5 t6 t7 t8 t9 dP9 lg9 dA10 dP10 dA9 dD11 dD12 dX13 dN13) ?_
 refine XW (yS C (n:=1) (n':=1) zF ⟨vx,vy,rfl,(hx9.mono k13.sub).mono (zG H13),(hy9.mono k13.sub).mono (zG H13)⟩ ⟨vn,vm,rfl,(hn9.mono k13.sub).mono (zG H13),(hm9.mono k13.sub).mono (zG H13)⟩ zU ok00.smK zU ok00.smG) fun H14 hk14=>?_
 rw [decide_eq_true ⟨rfl,rfl,rfl⟩]
 have k14:Kp G9 H14:=k13.trans (X9 zK hk14)
 have le_k14:=k14.le
 have w14:=k14.wf
 have dN14:=k14.get dN
 refine zX (Pg hl @aR t1 t2 t3 t4 t5 t6 t7 t8 t9 dP9 lg9 dA10 dP10 dA9 dD11 dD12 dX13 dN13 dN14 ln9) ?_
 exact kG9.trans k14
end
section
variable {tab:Nat->Option aw} {H:Heap} {s:AV}
def Rv (a:AV):Prop:=∃ x u w,a=.agg [.int .i64 x,u,w]/\One u/\One w
theorem pm:Rv Cc:=⟨0,.nilSl,.nilSl,rfl,bp,bp⟩
def TellP (H:Heap) (d:Int) (p:AV) (K:List (List Int × Bool)) (G:List (Nat × List Int)):Prop :=
 ∃ n:Nat,d=(n:Int)/\n<=3/\PolyV H p n K G/\Lin.Own n K G/\K.length<1024/\G.length<1024
theorem TellP.mono {H H':Heap} {d:Int} {p:AV} {K:List (List Int × Bool)} {G:List (Nat × List Int)} (h:TellP H d p K G) (hs:Sub H H'):TellP H' d p K G:=by
 obtain ⟨n,h1,h2,h3,h4⟩:=h
 exact ⟨n,h1,h2,h3.mono hs,h4⟩
theorem TellP.pag {H:Heap} {d:Int} {p:AV} {K:List (List Int × Bool)} {G:List (Nat × List Int)} (h:TellP H d p K G):Rv p:=by
 obtain ⟨n,h1,h2,⟨vc,vg,rfl,hc,hg⟩,h4⟩:=h
 exact ⟨_,_,_,rfl,hc.one,hg.one⟩
theorem DU (C:Code tab) (hw:Wf H) {d:Int} {l:List ur} (hs:SlV conQE t_api_Con H s l) (gl:∀ r∈l,jU r.1) (hg:fe 6 l=false) (h3:¬ 3<d) :
  Ans tab (.fn nw [.int .i64 d,s]) H fun v H'=>Kp H H'/\∃ p err,v=.tup [p,.int .i64 err]/\Rv p/\(err=0->∃ K G,TellP H' d p K G):=by
 rcases JV (d:=d) (n:=6) hs gl hg zO zO with hbad | ⟨n,rfl,n4,hsl,ll,hrow⟩
 ·refine (El C hw hs (Gg hg) (by have:=(iY hg).1; omega) hbad).mono ?_
  rintro v H2 ⟨rfl,hk⟩
  exact ⟨hk,_,_,rfl,pm,fun e=>absurd e hbad⟩
 ·have gb:=tD zO hrow
  refine (iA C (n:=n) (m:=64) (m2:=64*(64+4)) hw hsl zO (by rw [SG]; omega) hrow zO (fun x hx=>(gb x hx).2) zO).mono ?_
  rintro v H2 ⟨hm,hk⟩
  rcases hm with ⟨rfl,-⟩ | ⟨p,rfl,hp,h1,h2⟩
  ·exact ⟨hk,_,_,rfl,pm,fun e=>by cases e⟩
  ·have ht:TellP H2 (n:Int) p _ _:=⟨n,rfl,by omega,hp,Lin.own_of fun c hc=>(hrow c hc).1,h2,h1⟩
   exact ⟨hk,p,0,rfl,ht.pag,fun _=>⟨_,_,ht⟩⟩
def Pa (H:Heap) (v:AV) (d:Int):Prop :=
 (∃ a b,v=.tup [a,b,.bool false]/\Rv a/\Rv b) \/
 ∃ (n:Nat) (p q:AV) (K:List (List Int × Bool)) (G:List (Nat × List Int)) (K':List (List Int × Bool)) (G':List (Nat × List Int)),d=(n:Int)/\n<=3/\v=.tup [p,q,.bool true]/\PolyV H p n K G/\PolyV H q n K' G'/\PolyOK n 64 64 K G/\PolyOK n 64 64 K' G'/\K.length+K'.length<=8/\G.length+G'.length<=8
theorem Cq {n:Nat} {K K':List (List Int × Bool)} {G G':List (Nat × List Int)} (h:pQ n K G n K' G'=false) (ho:Lin.Own n K G) (ho':Lin.Own n K' G') (hn:n<=3):PolyOK n 64 64 K G/\PolyOK n 64 64 K' G'/\K.length+K'.length<=8/\G.length+G'.length<=8:=by
 unfold pQ at h
 simp only [U3,decide_eq_false_iff_not] at h
 obtain ⟨⟨⟨⟨h1,-⟩,h2,-⟩,h3⟩,h4⟩:=h
 obtain ⟨⟨a1,a2⟩,a3,a4⟩:=tz h1
 obtain ⟨⟨b1,b2⟩,b3,b4⟩:=tz h2
 exact ⟨⟨ho,by omega,.inl zO,by omega,fun c hc=>(a2 c hc).2,fun x hx=>(a4 x hx).2,by omega,by omega⟩,⟨ho',by omega,.inl zO,by omega,fun c hc=>(b2 c hc).2,fun x hx=>(b4 x hx).2,by omega,by omega⟩,by omega,by omega⟩
section
open Lin
end
section
variable {n:Nat} {K K':List (List Int × Bool)} {G G':List (Nat × List Int)}
theorem Oc {H:Heap} {v:AV} {e f:Nat} (hm:mB H v n G) (h:PolyOK n e f K G):∃ vc vg,v=.tup [.agg [.int .i64 (n:Int),vc,vg],.int .i64 0]/\SlV conE t_api_Con H vc K/\SlV genE ak H vg G:=by
 have e1:=h.own.cons
 have h1:=h.many
 have h2:=h.lenK
 unfold mB at hm
 rw [e1] at hm
 rcases hm with ⟨-,hm⟩ | ⟨p,rfl,⟨vc,vg,rfl,hc,hg⟩,-,-⟩
 ·omega
 ·exact ⟨vc,vg,rfl,hc,hg⟩
end
set_option maxHeartbeats 4000000 in
theorem F7 (C:Code tab) (hw:Wf H) {s1 s2:AV} {d:Int} {l m:List ur} (hs:SlV conQE t_api_Con H s1 l) (gl:∀ r∈l,jU r.1) (hs2:SlV conQE t_api_Con H s2 m) (gm:∀ r∈m,jU r.1) :
  Ans tab (.fn fT [.int .i64 d,s1,s2]) H fun v H'=>Pa H' v d/\Kp H H':=by
 refine lU C.q2 zU fun T hl g0 g1 g2=>?_
 refine zW (aV hl g0 g1 g2) ?_
 refine XW (ko C (n:=6) zF (hs.mono (zG H)) zO) fun H2 hk2=>?_
 obtain ⟨k2,_,w2⟩:=zT H zK hk2
 have d0:H2.get H.next=some (.cells [.int .i64 0,.nilSl,.nilSl] ah true):=hk2.get (cR)
 have d1:H2.get (H.next+1)=some (.cells [.int .i64 0,.nilSl,.nilSl] ah true):=hk2.get (cR)
 have lt1:=w2 _ _ d1
 cases q1:fe 6 l with
 | true =>
  refine zW (gf hl g0 g1 g2 d0 d1 @mF) ?_
  exact ⟨.inl ⟨_,_,rfl,pm,pm⟩,zK⟩
 | false =>
 refine zW (aV hl g0 g1 g2) ?_
 refine XW (ko C (n:=6) zF ((hs2.mono k2.sub).mono (zG H2)) zO) fun H3 hk3=>?_
 obtain ⟨k23,_,_⟩:=zT H2 zK hk3
 have k3:Kp H H3:=k2.trans k23
 have le_k3:=k3.le
 have w3:=k3.wf
 have d0b:=k23.get d0
 have d1b:=k23.get d1
 have lt3:=w3 _ _ d1b
 cases q2:fe 6 m with
 | true =>
  refine zW (gf hl g0 g1 g2 d0b d1b @mF) ?_
  exact ⟨.inl ⟨_,_,rfl,pm,pm⟩,zK⟩
 | false =>
 by_cases q3:3<d
 ·refine zW (ki hl g0 g1 g2 d0b d1b q3 @mF) ?_
  exact ⟨.inl ⟨_,_,rfl,pm,pm⟩,zK⟩
 refine zW (cr hl g0 g1 g2 q3) ?_
 refine XX (DU C zF ((hs.mono k3.sub).mono (zG H3)) gl q1 q3) ?_
 rintro v H4 ⟨hk4,p,err,rfl,⟨x,u,w,rfl,ou,ow⟩,ht⟩
 obtain ⟨k34,_,_⟩:=zT H3 zK hk4
 have k4:Kp H H4:=k3.trans k34
 have le_k4:=k4.le
 have w4:=k4.wf
 have n4:H3.next+9<=H4.next:=hk4.le
 have f4:H4.get (H3.next+6)=none:=hk4.free (show H3.next+6<H3.next+9 by omega) (w3.fresh (b:=H3.next+6) zO)
 obtain ⟨G4,hG4⟩:∃ G4,G4=((H4.up 9).put (H3.next+6) (.cells [.int .i64 0,.nilSl,.nilSl] ah true)).put (H3.next+6) (.cells [.int .i64 x,u,w] ah true):=⟨_,rfl⟩
 have s4:Sub H4 G4:=by rw [hG4]; exact ((Ys H4 9).put f4 _).put f4 _
 have kG4:Kp H3 G4:=by rw [hG4]; exact zK
 have wG4:=kG4.wf
 have nG4:G4.next=H4.next+9:=by rw [hG4]; rfl
 have dp:G4.get (H3.next+6)=some (.cells [.int .i64 x,u,w] ah true):=by rw [hG4]; exact au _ _ _
 have fG4:G4.get (H4.next+6)=none:=by rw [hG4,az zO,az zO]; exact w4.fresh (b:=H4.next+6) zO
 refine zW (cr hl g0 g1 g2 @mF) ?_
 rw [<- hG4]
 refine XX (DU C zF ((hs2.mono k3.sub).mono kG4.sub) gm q2 q3) ?_
 rintro v H5 ⟨hk5,p2,err2,rfl,⟨x2,u2,w2',rfl,ou2,ow2⟩,ht2⟩
 have k5:Kp H3 H5:=kG4.trans hk5
 have le_k5:=k5.le
 have w5:=k5.wf
 have le5:=hk5.le
 have f5:H5.get (H4.next+6)=none:=hk5.free zO fG4
 have dpb:=hk5.get dp
 obtain ⟨G5,hG5⟩:∃ G5,G5=(H5.put (H4.next+6) (.cells [.int .i64 0,.nilSl,.nilSl] ah true)).put (H4.next+6) (.cells [.int .i64 x2,u2,w2'] ah true):=⟨_,rfl⟩
 have s5:Sub H5 G5:=by rw [hG5]; exact (aP f5).put f5 _
 have kG5:Kp H3 G5:=by rw [hG5]; exact (k5.put zO zO).put zO (by rw [next_put]; omega)
 have wG5:=kG5.wf
 have dq:G5.get (H4.next+6)=some (.cells [.int .i64 x2,u2,w2'] ah true):=by rw [hG5]; exact au _ _ _
 have dp5:=s5.get _ _ dpb
 have d05:=kG5.get d0b
 have d15:=kG5.get d1b
 have kA:Kp H G5:=k3.trans kG5
 refine zW (eW hl g0 g1 g2 @mF @aD) ?_
 rw [<- hG5]
 refine MU (fun T'=>T'.length=51/\ad T' 6=.ptr H.next 0/\ad T' 7=.ptr (H.next+1) 0/\ad T' 9=.ptr (H3.next+6) 0/\ad T' 10=.int .i64 err/\ad T' 11=.ptr (H4.next+6) 0/\ad T' 12=.int .i64 err2) (zV (aV hl g0 g1 g2)) ?_
 clear hl
 rintro T' ⟨hl,t6,t7,t9,t10,t11,t12⟩
 have le35:=kG5.le
 have ltq:=wG5 _ _ dq
 have ltp:=wG5 _ _ dp5
 refine aH ?_
 by_cases e1:err=0
 ·by_cases e2:err2=0
  ·subst e1
   subst e2
   obtain ⟨K,G,n,rfl,n3,⟨vc,vg,hpe,hc,hg⟩,ho,lK,lG⟩:=ht rfl
   obtain ⟨K',G',n',hnn,n3',⟨vc',vg',hpe',hc',hg'⟩,ho',lK',lG'⟩:=ht2 rfl
   have hnn:n'=n:=by omega
   subst hnn
   cases hpe
   cases hpe'
   have hc5:SlV conE t_api_Con G5 u K:=hc.mono (s4.trans (hk5.sub.trans s5))
   have hg5:SlV genE ak G5 w G:=hg.mono (s4.trans (hk5.sub.trans s5))
   have hc5':=hc'.mono s5
   have hg5':=hg'.mono s5
   refine zX (xK hl g0 g1 g2 t6 t7 t9 t10 t11 t12 dp5 dq @aR) ?_
   refine XW (DV C (n:=n') (n':=n') zF ⟨u,w,rfl,hc5.mono (zG G5),hg5.mono (zG G5)⟩ ⟨u2,w2',rfl,hc5'.mono (zG G5),hg5'.mono (zG G5)⟩ zO zO zO zO) fun H6 hk6=>?_
   obtain ⟨k6,_,w6⟩:=zT G5 zK hk6
   have d06:=k6.get d05
   have d16:=k6.get d15
   have dp6:=k6.get dp5
   have dq6:=k6.get dq
   have oc:=hc.one
   have og:=hg.one
   have oc':=hc'.one
   have og':=hg'.one
   have kB:Kp H H6:=kA.trans k6
   have lt6:=w6 _ _ d16
   cases hL:pQ n' K G n' K' G' with
   | true =>
    refine zX (BC hl g0 g1 g2 t6 t7 t9 t10 t11 t12 dp5 dq d06 d16 dp6 dq6 @aR @mF) ?_
    exact ⟨.inl ⟨_,_,rfl,⟨_,_,_,rfl,oc,og⟩,⟨_,_,_,rfl,oc',og'⟩⟩,zK⟩
   | false =>
    obtain ⟨p1,p2,p3,p4⟩:=Cq hL ho ho' n3
    refine zX (BC hl g0 g1 g2 t6 t7 t9 t10 t11 t12 dp5 dq d06 d16 dp6 dq6 @aR @mF) ?_
    refine ⟨.inr ⟨n',_,_,K,G,K',G',rfl,n3,rfl,⟨u,w,rfl,?_,?_⟩,⟨u2,w2',rfl,?_,?_⟩,p1,p2,p3,p4⟩,zK⟩
    ·have m3:NoTy (t_api_Con :: conE.tys) H6 H.next:=Yg d06 zU
     have m4:NoTy (t_api_Con :: conE.tys) H6 (H.next+1):=Yg d16 zU
     exact Yn (E:=conE) zS (hc5.mono k6.sub)
    ·have m3:NoTy (ak :: genE.tys) H6 H.next:=Yg d06 zU
     have m4:NoTy (ak :: genE.tys) H6 (H.next+1):=Yg d16 zU
     exact Yn (E:=genE) zS (hg5.mono k6.sub)
    ·have m3:NoTy (t_api_Con :: conE.tys) H6 H.next:=Yg d06 zU
     have m4:NoTy (t_api_Con :: conE.tys) H6 (H.next+1):=Yg d16 zU
     exact Yn (E:=conE) zS (hc5'.mono k6.sub)
    ·have m3:NoTy (ak :: genE.tys) H6 H.next:=Yg d06 zU
     have m4:NoTy (ak :: genE.tys) H6 (H.next+1):=Yg d16 zU
     exact Yn (E:=genE) zS (hg5'.mono k6.sub)
  ·subst e1
   refine zX (Fd hl g0 g1 g2 t6 t7 t9 t10 t11 t12 dp5 dq d05 d15 @aR e2 @mF) ?_
   exact ⟨.inl ⟨_,_,rfl,⟨_,_,_,rfl,ou,ow⟩,⟨_,_,_,rfl,ou2,ow2⟩⟩,zK⟩
 ·refine zX (Fd hl g0 g1 g2 t6 t7 t9 t10 t11 t12 dp5 dq d05 d15 @aR e1 @mF) ?_
  exact ⟨.inl ⟨_,_,rfl,⟨_,_,_,rfl,ou,ow⟩,⟨_,_,_,rfl,ou2,ow2⟩⟩,zK⟩
end
section
variable {tab:Nat->Option aw} {H:Heap} {s1 s2 s3:AV}
theorem LY {H:Heap} {v:AV} {d:Int} (h:Pa H v d):∃ x u w x' u' w' b,v=.tup [.agg [.int .i64 x,u,w],.agg [.int .i64 x',u',w'],.bool b]/\One u/\One w/\One u'/\One w':=by
 rcases h with ⟨a,b,rfl,⟨x,u,w,rfl,h1,h2⟩,⟨x',u',w',rfl,h3,h4⟩⟩ | ⟨n,p,q,K,G,K',G',-,-,rfl,⟨vc,vg,rfl,h1,h2⟩,⟨vc',vg',rfl,h3,h4⟩,-⟩
 ·exact ⟨_,_,_,_,_,_,_,rfl,h1,h2,h3,h4⟩
 ·exact ⟨_,_,_,_,_,_,_,rfl,h1.one,h2.one,h3.one,h4.one⟩
end
section
variable {tab:Nat->Option aw} {H:Heap} {s:AV}
theorem Ji (C:Code tab) (hw:Wf H) {n:Nat} (hv:cp H s n) (hn:(ag n).length<=4) :
  Ans tab (.fn rZ [s]) H fun v H'=>(∃ L:Nat,v=.tup [.int .i64 (L:Int),.int .i64 0]/\L<=256)/\Kp H H':=by
 have hl1:=hv.lenV
 refine cQ C.q65 zU fun T hl g0=>?_
 refine zW (aB hl g0) ?_
 refine XW (kR C zF (hv.mono (zG H)) zO) fun H2 hk2=>?_
 obtain ⟨k2,_,w2⟩:=zT H zK hk2
 rw [if_neg (cW n)]
 by_cases h0:(ag n).length=0
 ·have h0':((ag n).length:Int)=0:=by omega
  refine zW (aV hl g0 hl1 h0') ?_
  exact ⟨⟨0,rfl,by omega⟩,zK⟩
 ·obtain ⟨k,hk⟩:∃ k,(ag n).length=k+1:=⟨(ag n).length-1,by omega⟩
  have hkl:k<(ag n).length:=by omega
  obtain ⟨x,hx⟩:∃ x,(ag n)[k]=x:=⟨_,rfl⟩
  have hxl:x<18446744073709551616:=bu n x (by rw [<- hx]; exact Sx hkl)
  have hx0:0<x:=by
   rcases Uu x with e | e
   ·subst e
    have:=cW n
    refine absurd ?_ this
    rw [WS,hk,Uv,Sv hkl,hx]
   ·exact e
  have hh:Lb H2 s (ag n):=hv.mono k2.sub
  have ld:=eZ hh (i:=k) hkl
  have ix:=Ym hh .i64 k hkl
  have ld:aW H2 none (ap s k)=some (.int .u64 (x:Int)):=by rw [ld,Ss,Sv hkl,hx]; rfl
  have hl2:lenV s=some (.int .i64 ((k+1:Nat):Int)):=by rw [hl1,hk]
  have hne:¬ ((k+1:Nat):Int)=0:=by omega
  have e1:IntKind.i64.wrap (((k+1:Nat):Int)-1)=(k:Int):=by rw [wrap_i64] <;> omega
  have e2:IntKind.i64.wrap (64*(k:Int))=((64*k:Nat):Int):=by rw [wrap_i64] <;> omega
  refine zW (ki hl g0 hl2 hne e1 e2 ix ld) ?_
  refine XX (Ac C zF hx0 hxl) ?_
  rintro v H3 ⟨⟨L,rfl,l1,l2,-,-⟩,hk3⟩
  have k3:Kp H H3:=X9 zK (X9 zK hk3)
  have le_k3:=k3.le
  have e3:IntKind.i64.wrap (((64*k:Nat):Int)+(L:Int))=((64*k+L:Nat):Int):=by rw [wrap_i64] <;> omega
  refine zW (aC hl g0 e3) ?_
  exact ⟨⟨64*k+L,rfl,by omega⟩,zK⟩
theorem B8 (C:Code tab) (hw:Wf H) {cs:List AV} {z:Int} (hz:intE.R H cs z) (hb:(ag z.natAbs).length<=4):Ans tab (.fn ly [.agg cs]) H fun v H'=>v=.bool false/\Kp H H':=by
 obtain ⟨w,rfl,hn⟩:=hz
 have ow:=hn.one
 refine cQ C.q39 zU fun T hl g0=>?_
 have bx:∀ b:Bool,fZ (.agg [.bool b,w])=some [.bool b,w]:=fun b=>O8 (aQ b) ow
 refine zW (aC hl g0 bx) ?_
 refine XX (Ji C zF (hn.mono (zG H)) hb) ?_
 rintro v H2 ⟨⟨L,rfl,l2⟩,hk2⟩
 obtain ⟨k2,_,_⟩:=zT H zK hk2
 have e1:¬ (256:Int)<(L:Int):=by omega
 refine zW (aC hl g0 e1) ?_
 exact zK
theorem I6 (C:Code tab) (hw:Wf H) {cs:List AV} {x:List Int × Bool} (hx:conE.R H cs x) (hl':x.1.length<1099511627776) (hb:∀ z∈x.1,(ag z.natAbs).length<=4):Ans tab (.fn mc [.agg cs]) H fun v H'=>v=.bool false/\Kp H H':=by
 obtain ⟨v,rfl,hv⟩:=hx
 have ov:=hv.one
 have hv:RowV H v x.1:=hv
 refine cQ C.q19 zU fun T hl g0=>?_
 refine zW (aC hl g0 (Ab ov)) ?_
 refine XW (nI C (E:=intE) (first:=[]) (caps:=[]) zF rfl (hv.mono (zG H)) zO (fun _=>false) fun z hz H' cs hk hr=>B8 C hk.wf hr (hb z hz)) fun H2 hk2=>?_
 obtain ⟨k2,_,_⟩:=zT H zK hk2
 refine zW (aB hl g0) ?_
 exact ⟨by simp,zK⟩
theorem Ai (C:Code tab) (hw:Wf H) {l:List (List Int × Bool)} (hs:SlV conE t_api_Con H s l) (hl':l.length<1099511627776) (hb:∀ x∈l,x.1.length<1099511627776/\∀ z∈x.1,(ag z.natAbs).length<=4) :
  Ans tab (.fn bV [s,.fn (.func mc) [] []]) H fun v H'=>v=s/\Kp H H':=by
 refine bz C.q18 zU fun T hl g0 g1=>?_
 refine zW (aC hl g0 g1) ?_
 refine XW (rL C (E:=conE) (first:=[]) (caps:=[]) zF rfl (hs.mono (zG H)) zO (fun _=>false) fun x hx H' cs hk hr=>I6 C hk.wf hr (hb x hx).1 (hb x hx).2) fun H2 hk2=>?_
 obtain ⟨k2,_,_⟩:=zT H zK hk2
 have e:lM (fun _=>false) l = -1:=lJ fun _ _=>rfl
 rw [e]
 refine zW (aB hl g0) ?_
 exact zK
theorem II {H:Heap} {v:AV} {l:List (List Int × Bool)} {H0:Heap} (h:Bq conE t_api_Con H0 H v l):bD 2 v none (some (.int .i64 (l.length:Int))) none=some v:=by
 rcases h with ⟨rfl,rfl⟩ | ⟨b,ex,cells,rfl,-⟩
 ·rfl
 ·show bE 2 (.own b 0 l.length l.length 2 ex) none (some (.int .i64 (l.length:Int))) none=some (.own b 0 l.length l.length 2 ex)
  simp [bE,e9]
set_option maxHeartbeats 4000000 in
theorem AO (C:Code tab) (hw:Wf H) {v:AV} {n:Nat} {K:List (List Int × Bool)} {G:List (Nat × List Int)} (hp:PolyV H v n K G) (ho:PolyOK n 64 64 K G) (hK:K.length<=24) (hG:G.length<=24) :
  Ans tab (.fn pD [v]) H fun x H'=>(∃ p,x=.tup [p,.int .i64 0]/\PolyV H' p n K G)/\Kp H H':=by
 obtain ⟨vc,vg,rfl,hc,hg⟩:=hp
 have oc:=hc.one
 have og:=hg.one
 have eG:Lin.gensP n K=G:=ho.own.gens
 have eK:Lin.consP n G=K:=ho.own.cons
 refine cQ C.q3 zU fun T hl g0=>?_
 refine zW (aC hl g0 (kg oc og)) ?_
 refine XW (rU C (n:=n) (K:=K) (G:=G) zF ⟨vc,vg,rfl,hc.mono (zG H),hg.mono (zG H)⟩ ho) fun H2 hk2=>?_
 obtain ⟨k2,_,w2⟩:=zT H zK hk2
 have d0:H2.get H.next=some (.cells [.int .i64 (n:Int),vc,vg] ah true):=hk2.get (cR)
 have d1:H2.get (H.next+1)=some (.cells [.int .i64 0,.nilSl,.nilSl] ah true):=hk2.get (cR)
 have lt1:=w2 _ _ d1
 refine zW (aC hl g0 d0) ?_
 refine XX (BB C zF ((hc.mono k2.sub).mono (zG H2)) zO) ?_
 rintro v3 H3 ⟨hk3,hq3⟩
 obtain ⟨k23,_,w3⟩:=zT H2 zK hk3
 refine zW (aB hl g0) ?_
 refine XW (Ai C zF (hq3.sl.mono (zG H3)) zO fun x hx=>⟨(ho.smK x hx).1,fun z hz=>?_⟩) fun H4 hk4=>?_
 ·exact DR (m:=65) (jk (ho.bK x hx) z hz) zO
 obtain ⟨k34,_,_⟩:=zT H3 zK hk4
 have k4:Kp H H4:=(k2.trans k23).trans k34
 have le_k4:=k4.le
 have w4:=k4.wf
 have d0c:=k34.get (k23.get d0)
 have d1c:=k34.get (k23.get d1)
 have hs4:=hq3.sl.mono k34.sub
 have hm:DJ (.int .i64 (K.length:Int)) (.int .i64 24)=some (.int .i64 (K.length:Int)):=by
  rw [tj,if_neg zO]
 have hsl:=II hq3
 refine zW (aV hl g0 hs4.lenV hm) ?_
 refine bC H4 [6] (fun r vs _=>r=0/\vs=[.int .i64 (K.length:Int)]) 0 (by simp only [Sr]; exact hl) rfl zK ⟨rfl,by exact zV (aB hl g0)⟩ ?_
 rintro r T6 H5 hl6 hs6 hk5 ⟨rfl,hv6⟩
 have w5:=hk5.wf
 have le_hk5:=hk5.le
 simp only [SA,SD,SB,and_true] at hv6
 have u1:ad T6 1=.ptr H.next 0:=(hs6.at_ 1 zU).trans (zV (aB hl g0))
 have u2:ad T6 2=.ptr (H.next+1) 0:=(hs6.at_ 2 zU).trans (zV (aB hl g0))
 have u5:ad T6 5=v3:=(hs6.at_ 5 zU).trans (zV (aB hl g0))
 have d05:=hk5.get d0c
 have d15:=hk5.get d1c
 have hs5:=hs4.mono hk5.sub
 refine zW hl6 ?_
 refine aH ?_
 refine zD (gf hl6 u1 u2 u5 hv6 d05 hsl) ?_
 refine XX (iA C (n:=n) (m:=64) (m2:=64) zF (hs5.mono (zG H5)) ho.dim zO ho.rowK zO (by rw [eG]; exact ho.bG) zO) ?_
 rintro v6 H6 ⟨hm6,hk6⟩
 rw [eG] at hm6
 obtain ⟨v7,g7,rfl,hc7,hg7⟩:=Oc hm6 ho
 clear hm6
 obtain ⟨k6,_,w6⟩:=zT H5 zK hk6
 have oc7:=hc7.one
 have og7:=hg7.one
 have n6:H5.next+12<=H6.next:=hk6.le
 have f6:H6.get (H5.next+9)=none:=hk6.free (show H5.next+9<H5.next+12 by omega) (w5.fresh (b:=H5.next+9) zO)
 have d06:=k6.get d05
 have d16:=k6.get d15
 have lt6:=w5 _ _ d15
 have q24:(G.length:Int)<=24:=by omega
 obtain ⟨H7,hH7⟩:∃ H7,H7=((H6.up 16).put (H5.next+9) (.cells [.int .i64 0,.nilSl,.nilSl] ah true)).put (H5.next+9) (.cells [.int .i64 (n:Int),v7,g7] ah true):=⟨_,rfl⟩
 have s67:Sub H6 H7:=by rw [hH7]; exact ((Ys H6 16).put f6 _).put f6 _
 have d17:=s67.get _ _ d16
 have k56:Kp H H6:=(k4.trans hk5).trans k6
 have le_k56:=k56.le
 have k7:Kp H H7:=by rw [hH7]; exact zK
 have le_k7:=k7.le
 have w7:=k7.wf
 have fin:∀ b:Nat,H7.get b=some (.cells [.int .i64 0,.nilSl,.nilSl] ah true)->PolyV (H7.put b (.cells [.int .i64 (n:Int),v7,g7] ah true)) (.agg [.int .i64 (n:Int),v7,g7]) n K G:=fun b hb=>by
  refine ⟨v7,g7,rfl,?_,?_⟩
  ·have m3:NoTy (t_api_Con :: conE.tys) H7 b:=Yg hb zU
   exact Yn (E:=conE) zS (hc7.mono s67)
  ·have m3:NoTy (ak :: genE.tys) H7 b:=Yg hb zU
   exact Yn (E:=genE) zS (hg7.mono s67)
 by_cases q0:(K.length:Int)=0
 ·have hsl0:bD 2 v3 none (some (.int .i64 0)) none=some v3:=by rw [q0] at hsl; exact hsl
  refine zD (Ik hl6 u1 u2 u5 hv6 d05 d06 d16 hsl hsl0 @mF hg7.lenV q24 q0) ?_
  rw [<- hH7]
  exact ⟨⟨_,rfl,fin _ d17⟩,k7.put zO (w7 _ _ d17)⟩
 ·refine zD (xK hl6 u1 u2 u5 hv6 d05 d06 d16 hsl @mF hg7.lenV q24 q0) ?_
  rw [<- hH7]
  exact ⟨⟨_,rfl,fin _ d17⟩,k7.put zO (w7 _ _ d17)⟩
end
section
variable {tab:Nat->Option aw} {H:Heap} {s1:AV}
set_option maxHeartbeats 4000000 in
theorem law22_PolyEases (C:Code tab) (hw:Wf H) {d:Int} {l:List ur} (hs1:SlV conQE t_api_Con H s1 l) (gl:∀ x∈l,jU x.1) (_ : -9223372036854775808<=d/\d<9223372036854775808) :
  Ans tab (.fn dH [.int .i64 d,s1]) H fun v H'=>v=.bool true/\Kp H H':=by
 refine Aw C.q0 rfl rfl zU fun T hl g=>?_
 have hl:T.length=119:=hl
 have hrs:c_facetroomlaw22_PolyEases.results=[(4,none)]:=rfl
 have g0:ad T 0=.int .i64 d:=g 0 (by simp)
 have g1:ad T 1=s1:=g 1 (by simp)
 clear g
 refine bk ?_
 refine zW (aB hl @aD) ?_
 refine bk ?_
 refine zW hl ?_
 refine XW (DW C zF) fun H2 hk2=>?_
 obtain ⟨k2,_,w2⟩:=zT H zK hk2
 refine zW (aB hl @aD) ?_
 refine bk ?_
 refine zW (aC hl g0 g1) ?_
 refine XX (F7 C zF ((hs1.mono k2.sub).mono (zG H2)) gl (Yo conQE t_api_Con _) (fun x hx=>by cases hx)) ?_
 rintro v3 H3 ⟨hm3,hk3⟩
 obtain ⟨x,u,w,x',u',w',b,hv3,ou,ow,ou',ow'⟩:=LY hm3
 obtain ⟨k3,_,w3⟩:=zT H2 zK hk3
 have e3:Emp H3 H2.next (H2.next+12):=(Emp.start w2 (k:=12)).keep hk3
 have n3:=e3.1
 have fA:=e3.2 (H2.next+7) zO zO
 have fB:=e3.2 (H2.next+8) zO zO
 obtain ⟨G3,hG3⟩:∃ G3,G3=(((H3.put (H2.next+7) (.cells [.int .i64 0,.nilSl,.nilSl] ah true)).put (H2.next+8) (.cells [.int .i64 0,.nilSl,.nilSl] ah true)).put (H2.next+7) (.cells [.int .i64 x,u,w] ah true)).put (H2.next+8) (.cells [.int .i64 x',u',w'] ah true):=⟨_,rfl⟩
 have kG3:Kp H2 G3:=by rw [hG3]; exact zK
 have s3G:Sub H3 G3:=by rw [hG3]; exact (((aP fA).put fB _).put fA _).put fB _
 have wG3:=kG3.wf
 have pA3:G3.get (H2.next+7)=some (.cells [.int .i64 x,u,w] ah true):=by rw [hG3,az zO,au]
 have kH:Kp H G3:=k2.trans kG3
 subst hv3
 refine zW (cr hl g0 g1 @mF @aD) ?_
 rw [<- hG3]
 clear hG3
 refine vO (fun T'=>T'.length=119/\ad T' 5=.bool true/\ad T' 6=.ptr (H2.next+7) 0/\ad T' 8=.bool b) (zV hl) ?_
 clear hl g0 g1
 rintro T ⟨hl,u5,u6,u8⟩
 refine bk ?_
 cases b with
 | false =>
  refine zW (cr hl u5 u8 @yl hrs) ?_
  exact zK
 | true =>
 rcases hm3 with ⟨_,_,he,-⟩ | ⟨n,p,q,K,G,K',G',rfl,n3',he,⟨vc,vg,rfl,hc,hg⟩,⟨vc',vg',rfl,hc',hg'⟩,ok,ok',lK,lG⟩
 ·cases he
 cases he
 refine zW (aV hl u5 u8 @aD) ?_
 obtain ⟨G5,hG5⟩:∃ G5,G5=G3.up 6:=⟨_,rfl⟩
 rw [<- hG5]
 have s45:Sub G3 G5:=by rw [hG5]; exact Ys _ 6
 have kk5:Kp H G5:=by rw [hG5]; exact kH.up _
 have wG5:=kk5.wf
 clear hG5
 have pA5:=s45.get _ _ pA3
 have cA5:=hc.mono (s3G.trans s45)
 have gA5:=hg.mono (s3G.trans s45)
 clear u5 u8 hc hg hc' hg' pA3
 refine bk ?_
 refine zW (aC hl u6 pA5) ?_
 refine XX (AO C (n:=n) zF ⟨u,w,rfl,cA5.mono (zG G5),gA5.mono (zG G5)⟩ ok zO zO) ?_
 rintro v6 H6 ⟨⟨p,rfl,⟨vQ,gQ,rfl,hcx,hgx⟩⟩,hk⟩
 have kh6:Kp G5 H6:=X9 zK hk
 have w6:=kh6.wf
 have le6:=hk.le
 have oc6:=hcx.one
 have og6:=hgx.one
 have fr:H6.get (G5.next+5)=none:=hk.free (show G5.next+5<G5.next+8 by omega) (wG5.fresh (b:=G5.next+5) zO)
 have nn6:G5.next+8<=H6.next:=le6
 obtain ⟨G6,hG6⟩:∃ G6,G6=(H6.put (G5.next+5) (.cells [.int .i64 0,.nilSl,.nilSl] ah true)).put (G5.next+5) (.cells [.int .i64 (n:Int),vQ,gQ] ah true):=⟨_,rfl⟩
 have sx6:Sub H6 G6:=by rw [hG6]; exact (aP fr).put fr _
 have kg6:Kp G5 G6:=by rw [hG6]; exact zK
 have wG6:=kg6.wf
 have kk6:Kp H G6:=kk5.trans kg6
 have pQ6:G6.get (G5.next+5)=some (.cells [.int .i64 (n:Int),vQ,gQ] ah true):=by rw [hG6,au]
 have cQ6:=hcx.mono sx6
 have gQ6:=hgx.mono sx6
 have pA6:=kg6.get pA5
 have cA6:=cA5.mono kg6.sub
 have gA6:=gA5.mono kg6.sub
 refine zW (cr hl u6 pA5 @mF @aD) ?_
 rw [<- hG6]
 refine vO (fun T'=>T'.length=119/\ad T' 6=.ptr (H2.next+7) 0/\ad T' 9=.ptr (G5.next+5) 0/\ad T' 10=.int .i64 0) (zV (aB hl u6)) ?_
 clear hl u6 hG6 fr
 rintro T ⟨hl,u6,u9,u10⟩
 clear pA5 cA5 gA5
 refine bk ?_
 have q1:¬ (24:Int)<(K.length:Int):=by omega
 have q2:¬ (24:Int)<(G.length:Int):=by omega
 refine zW (kj hl u9 u10 pQ6 cQ6.lenV gQ6.lenV q1 q2 @aD) ?_
 obtain ⟨G7,hG7⟩:∃ G7,G7=G6.up 14:=⟨_,rfl⟩
 rw [<- hG7]
 have s67:Sub G6 G7:=by rw [hG7]; exact Ys _ 14
 have kk7:Kp H G7:=by rw [hG7]; exact kk6.up _
 have wG7:=kk7.wf
 clear hG7
 have pA7:=s67.get _ _ pA6
 have cA7:=cA6.mono s67
 have gA7:=gA6.mono s67
 have pQ7:=s67.get _ _ pQ6
 have cQ7:=cQ6.mono s67
 have gQ7:=gQ6.mono s67
 clear pA6 cA6 gA6 pQ6 cQ6 gQ6
 refine vO (fun T'=>T'.length=119/\ad T' 6=.ptr (H2.next+7) 0/\ad T' 9=.ptr (G5.next+5) 0) (zV (aC hl u6 u9)) ?_
 clear hl u6 u9 u10
 rintro T ⟨hl,u6,u9⟩
 refine bk ?_
 refine zW (cr hl u6 u9 pA7 pQ7) ?_
 refine XW (N0 C (n:=n) zF ⟨u,w,rfl,cA7.mono (zG G7),gA7.mono (zG G7)⟩ ⟨vQ,gQ,rfl,cQ7.mono (zG G7),gQ7.mono (zG G7)⟩ ok ok) fun G8 hk=>?_
 have ein:Lin.inP G K=true:=(ok.own.in_iff ok.own).2 (.inr fun _ h=>h)
 rw [ein]
 have kg8:Kp G7 G8:=X9 zK hk
 have wG8:=kg8.wf
 have kk8:Kp H G8:=kk7.trans kg8
 have pA8:=kg8.get pA7
 have cA8:=cA7.mono kg8.sub
 have gA8:=gA7.mono kg8.sub
 have pQ8:=kg8.get pQ7
 have cQ8:=cQ7.mono kg8.sub
 have gQ8:=gQ7.mono kg8.sub
 clear pA7 cA7 gA7 pQ7 cQ7 gQ7
 refine zW (aV hl u6 u9 @aD) ?_
 refine vO (fun T'=>T'.length=119/\ad T' 6=.ptr (H2.next+7) 0/\ad T' 9=.ptr (G5.next+5) 0/\ad T' 11=.bool true/\ad T' 12=.int .i64 0) (zV (aC hl u6 u9)) ?_
 clear hl u6 u9
 rintro T ⟨hl,u6,u9,u11,u12⟩
 refine bk ?_
 refine zW (aC hl u9 pQ8) ?_
 refine XX (AO C (n:=n) zF ⟨vQ,gQ,rfl,cQ8.mono (zG G8),gQ8.mono (zG G8)⟩ ok zO zO) ?_
 rintro v9 H9 ⟨⟨p,rfl,⟨vZ,gZ,rfl,hcx,hgx⟩⟩,hk⟩
 have kh9:Kp G8 H9:=X9 zK hk
 have w9:=kh9.wf
 have le9:=hk.le
 have oc9:=hcx.one
 have og9:=hgx.one
 have fr:H9.get (G8.next+5)=none:=hk.free (show G8.next+5<G8.next+8 by omega) (wG8.fresh (b:=G8.next+5) zO)
 have nn9:G8.next+8<=H9.next:=le9
 obtain ⟨G9,hG9⟩:∃ G9,G9=(H9.put (G8.next+5) (.cells [.int .i64 0,.nilSl,.nilSl] ah true)).put (G8.next+5) (.cells [.int .i64 (n:Int),vZ,gZ] ah true):=⟨_,rfl⟩
 have sx9:Sub H9 G9:=by rw [hG9]; exact (aP fr).put fr _
 have kg9:Kp G8 G9:=by rw [hG9]; exact zK
 have wG9:=kg9.wf
 have kk9:Kp H G9:=kk8.trans kg9
 have pZ9:G9.get (G8.next+5)=some (.cells [.int .i64 (n:Int),vZ,gZ] ah true):=by rw [hG9,au]
 have cZ9:=hcx.mono sx9
 have gZ9:=hgx.mono sx9
 have pA9:=kg9.get pA8
 have cA9:=cA8.mono kg9.sub
 have gA9:=gA8.mono kg9.sub
 have pQ9:=kg9.get pQ8
 have cQ9:=cQ8.mono kg9.sub
 have gQ9:=gQ8.mono kg9.sub
 refine zW (ki hl u6 u9 u11 u12 pQ8 @mF @aD) ?_
 rw [<- hG9]
 refine vO (fun T'=>T'.length=119/\ad T' 6=.ptr (H2.next+7) 0/\ad T' 9=.ptr (G5.next+5) 0/\ad T' 13=.ptr (G8.next+5) 0/\ad T' 11=.bool true/\ad T' 12=.int .i64 0/\ad T' 14=.int .i64 0) (zV (cr hl u6 u9 u11 u12)) ?_
 clear hl u6 u9 u11 u12 hG9 fr
 rintro T ⟨hl,u6,u9,u13,u11,u12,u14⟩
 clear pA8 cA8 gA8 pQ8 cQ8 gQ8
 refine bk ?_
 refine zW (aB hl @aD) ?_
 obtain ⟨G10,hG10⟩:∃ G10,G10=G9.up 1:=⟨_,rfl⟩
 rw [<- hG10]
 have s10:Sub G9 G10:=by rw [hG10]; exact Ys _ 1
 have kk10:Kp H G10:=by rw [hG10]; exact kk9.up _
 have wG10:=kk10.wf
 clear hG10
 have pA10:=s10.get _ _ pA9
 have cA10:=cA9.mono s10
 have gA10:=gA9.mono s10
 have pQ10:=s10.get _ _ pQ9
 have cQ10:=cQ9.mono s10
 have gQ10:=gQ9.mono s10
 have pZ10:=s10.get _ _ pZ9
 have cZ10:=cZ9.mono s10
 have gZ10:=gZ9.mono s10
 refine vO (fun T'=>T'.length=119/\ad T' 6=.ptr (H2.next+7) 0/\ad T' 9=.ptr (G5.next+5) 0/\ad T' 13=.ptr (G8.next+5) 0/\ad T' 11=.bool true/\ad T' 12=.int .i64 0/\ad T' 14=.int .i64 0/\ad T' 15=.bool true) (zV (gf hl u6 u9 u11 u12 u13 u14)) ?_
 clear hl u6 u9 u11 u12 u13 u14
 rintro T ⟨hl,u6,u9,u13,u11,u12,u14,u15⟩
 refine db (fun T' H'=>Kp G10 H'/\∃ bs,ad T' 15=.bool bs) rfl ?_ ?_
 ·refine zW hl ?_
  refine bC G10 [15,16] (fun r vs _=>∃ (i:Nat) (bs:Bool),vs=[.bool bs,.int .i64 (i:Int)]/\i+r=K.length) K.length (by simp only [Sr]; exact hl) rfl zK ⟨0,true,by refine zW (aB hl u15) ?_; rfl,by omega⟩ ?_
  rintro r T6 H7 hl6 hs6 hk7 ⟨i,bs,hv,hir⟩
  have w7:=hk7.wf
  have le_hk7:=hk7.le
  have le7:=hk7.le
  simp only [SA,SD,SB,and_true] at hv
  obtain ⟨hv15,hv16⟩:=hv
  have x6:ad T6 6=.ptr (H2.next+7) 0:=(hs6.at_ 6 zU).trans (zV (aB hl u6))
  have dA:=hk7.get pA10
  have cA:=cA10.mono hk7.sub
  by_cases hi:i<K.length
  ·have hiI:(i:Int)<(K.length:Int):=by omega
   obtain ⟨_,⟨w1,rfl,hr⟩,-,h2,-⟩:=cA.at (Sv hi)
   have ld0:aW H7 none (ap u (i*2))=some w1:=h2 0 _ rfl
   have ix:co 2 u (.int .i64 (i:Int))=some (ap u (i*2)):=Yl cA .i64 i hi
   have fa0:xv 0 (ap u (i*2))=some (ap u (i*2)):=cA.fa zO 0 (i*2)
   have hr:RowV H7 w1 K[i].1:=hr
   have sm:=ok.smK _ (Sx hi)
   have ei:IntKind.i64.wrap ((i:Int)+1)=((i+1:Nat):Int):=by rw [wrap_i64] <;> omega
   refine zW (ki hl6 hv15 hv16 x6 dA cA.lenV hiI hi) ?_
   refine bC H7 [15,17] (fun r vs _=>∃ (j:Nat) (bs:Bool),vs=[.bool bs,.int .i64 (j:Int)]/\j+r=K[i].1.length) K[i].1.length (by simp only [Sr]; exact hl6) rfl zK ⟨0,bs,by refine zW (aB hl6 hv15) ?_; rfl,by omega⟩ ?_
   rintro r3 T8 H8 hl8 hs8 hk8 ⟨j,bs2,hv2,hjr⟩
   have w8:=hk8.wf
   have le_hk8:=hk8.le
   have le8:=hk8.le
   simp only [SA,SD,SB,and_true] at hv2
   obtain ⟨hv25,hv27⟩:=hv2
   have y6:ad T8 6=.ptr (H2.next+7) 0:=(hs8.at_ 6 zU).trans (zV (aB hl6 x6))
   have y16:ad T8 16=.int .i64 (i:Int):=(hs8.at_ 16 zU).trans (zV (aB hl6 hv16))
   have dA8:=hk8.get dA
   have ld8:=bJ hk8.sub ld0
   have hr8:=hr.mono hk8.sub
   by_cases hj:j<K[i].1.length
   ·have hjj:(j:Int)<(K[i].1.length:Int):=by omega
    obtain ⟨wn,hn,-,-,ldn⟩:=jM hr8 hj
    have ix2:co 2 w1 (.int .i64 (j:Int))=some (ap w1 (j*2)):=Yl hr8 .i64 j hj
    have fa1:xv 1 (ap w1 (j*2))=some (ap w1 (j*2+1)):=hr8.fa zO 1 (j*2)
    have ej:IntKind.i64.wrap ((j:Int)+1)=((j+1:Nat):Int):=by rw [wrap_i64] <;> omega
    have hln:=hn.lenV
    cases bs2 with
    | false =>
     refine zW (xK hl8 hv25 hv27 y6 y16 dA8 ix fa0 ld8 hr8.lenV hjj hj ej) ?_
     exact ⟨zK,r3-1,by omega,j+1,false,by simp,by omega⟩
    | true =>
     by_cases q4:((ag (K[i].1[j]).natAbs).length:Int)<=4
     ·refine zW (BC hl8 hv25 hv27 y6 y16 dA8 ix fa0 ld8 hr8.lenV hjj hj ej ix2 fa1 ldn hln q4) ?_
      exact ⟨zK,r3-1,by omega,j+1,true,by simp,by omega⟩
     ·refine zW (BC hl8 hv25 hv27 y6 y16 dA8 ix fa0 ld8 hr8.lenV hjj hj ej ix2 fa1 ldn hln q4) ?_
      exact ⟨zK,r3-1,by omega,j+1,false,by simp,by omega⟩
   ·have hjj:¬ (j:Int)<(K[i].1.length:Int):=by omega
    refine zW (xK hl8 hv25 hv27 y6 y16 dA8 ix fa0 ld8 hr8.lenV hjj hj ei) ?_
    have k710:Kp G10 H8:=hk7.trans hk8
    have le_k710:=k710.le
    exact ⟨zK,r-1,by omega,i+1,bs2,by simp,by omega⟩
  ·have hiI:¬ (i:Int)<(K.length:Int):=by omega
   refine zW (ki hl6 hv15 hv16 x6 dA cA.lenV hiI hi) ?_
   exact ⟨zK,bs,by exact zV (aB hl6 hv15)⟩
 rintro T6 G11 hs6 ⟨kg11,bs,u15'⟩
 have hl6:T6.length=119:=hs6.len.trans hl
 have wG11:=kg11.wf
 have kk11:Kp H G11:=kk10.trans kg11
 have v6:ad T6 6=.ptr (H2.next+7) 0:=(hs6.at_ 6 zU).trans u6
 have v9:ad T6 9=.ptr (G5.next+5) 0:=(hs6.at_ 9 zU).trans u9
 have v13:ad T6 13=.ptr (G8.next+5) 0:=(hs6.at_ 13 zU).trans u13
 have v11:ad T6 11=.bool true:=(hs6.at_ 11 zU).trans u11
 have v12:ad T6 12=.int .i64 0:=(hs6.at_ 12 zU).trans u12
 have v14:ad T6 14=.int .i64 0:=(hs6.at_ 14 zU).trans u14
 have pA11:=kg11.get pA10
 have pQ11:=kg11.get pQ10
 have pZ11:=kg11.get pZ10
 have cA11:=cA10.mono kg11.sub
 have gA11:=gA10.mono kg11.sub
 have cQ11:=cQ10.mono kg11.sub
 have gQ11:=gQ10.mono kg11.sub
 have cZ11:=cZ10.mono kg11.sub
 have gZ11:=gZ10.mono kg11.sub
 refine bk ?_
 refine zW (rM hl6 v6 v9 v13 v11 v12 v14 u15' pQ11 pZ11) ?_
 refine XW (rS C (n:=n) (n':=n) zF ⟨vQ,gQ,rfl,cQ11.mono (zG G11),gQ11.mono (zG G11)⟩ ⟨vZ,gZ,rfl,cZ11.mono (zG G11),gZ11.mono (zG G11)⟩ zO ok.smK zO ok.smG) fun G12 hk=>?_
 rw [decide_eq_true ⟨rfl,rfl,rfl⟩]
 have kg12:Kp G11 G12:=X9 zK hk
 have wG12:=kg12.wf
 have kk12:Kp H G12:=kk11.trans kg12
 have pA12:=kg12.get pA11
 have pQ12:=kg12.get pQ11
 cases bs with
 | false =>
  refine zW (xK hl6 v6 v9 v13 v11 v12 v14 u15' pQ11 pZ11 pA12 pQ12 @aD) ?_
  refine Yx ?_
  refine zW (aB hl6 hrs) ?_
  exact zK
 | true =>
  refine zW (Al hl6 v6 v9 v13 v11 v12 v14 u15' pQ11 pZ11 pA12 pQ12) ?_
  refine XW (rS C (n:=n) (n':=n) zF ⟨u,w,rfl,(cA11.mono kg12.sub).mono (zG G12),(gA11.mono kg12.sub).mono (zG G12)⟩ ⟨vQ,gQ,rfl,(cQ11.mono kg12.sub).mono (zG G12),(gQ11.mono kg12.sub).mono (zG G12)⟩ zO ok.smK zO ok.smG) fun G13 hk=>?_
  rw [decide_eq_true ⟨rfl,rfl,rfl⟩]
  have kg13:Kp H G13:=kk12.trans (X9 zK hk)
  refine zW (kj hl6 v6 v9 v13 v11 v12 v14 u15' @aD) ?_
  refine Yx ?_
  refine zW (aB hl6 hrs) ?_
  exact zK
end
open Go
theorem LN {P:Program}:GK P eS:=trivial
theorem N4 {P:Program} {w:World} (hG:GlobW w):HR P (fun _=>none) (fun c=>c<w.heap.size) (Heap.nil 0) w:=by
 have h:=Li (P:=P) hG
 refine ⟨h.dom,fun c hc=>hc,fun b e hb=>?_,h.inj,fun g cs hg=>(h.gl g cs hg).mono (fun _ _ h=>h) (fun c hc=>h.fb c hc) fun _ _=>rfl⟩
 rw [Tr.nil_get] at hb; cases hb
theorem open_calls {P:Program} (hmix:P.follows .mixedOrders=true) {tab:Nat->Option aw} (ht:Id P tab) {f:Nat} {afn:aw} (haf:tab f=some afn) (hext:afn.ext=none) {args:List AV} {vs:List Value} {w:World} (hG:GlobW w)
  (hl:LR (fun _=>none) (fun c=>c<w.heap.size) w args vs) (h:Ans tab (.fn f args) (Heap.nil 0) fun v _=>v=.bool true) :
  Calls P f vs.toArray w fun e w'=>e=.returned (.bool true)/\w'.os=w.os/\w'.output=w.output/\w.heap.size<=w'.heap.size/\∀ c,c<w.heap.size->w'.heap[c]? = w.heap[c]?:=by
 obtain ⟨v,H',⟨N,hN⟩,rfl⟩:=h
 have h1:=hN (N+1) (N+1) (by omega) (by omega)
 simp only [kD,jq,haf,hext] at h1
 obtain ⟨-,ht2⟩:=ht f afn haf
 obtain ⟨fn,hfn,hc⟩:=ht2 fun e h=>by rw [hext] at h; cases h
 obtain ⟨c1,c2,c3,c4,-⟩:=CK hc hext
 have hH:=N4 (P:=P) hG
 have hin:=pi (yp LN hmix ht N) hmix hfn c1 c2 c3 c4 h1 hl hH 0 (fence:=Fence.wide) (rd:=false) (.inl ⟨rfl,rfl⟩)
 refine (hin.calls fun k=>room_wide k).mono fun e w' ⟨u,he,μ',hv,_,hS⟩=>?_
 cases hv
 refine ⟨he,hS.os,hS.out,hS.size,fun c hc=>hS.keep c hc fun b L ⟨e,h,_⟩=>?_⟩
 rw [Tr.nil_get] at h; cases h
theorem Mb {w w':World} (h1:w'.os=w.os) (h2:w'.output=w.output) (h:∀ c,c<w.heap.size->w'.heap[c]? = w.heap[c]?) (may:MemPlace->Prop):w.keptBut w' may:=by
 refine ⟨h1,h2,fun i hi=>?_⟩
 rw [h i hi]
 split
 ·rename_i e1 e2
  cases e1.symm.trans e2
  exact ⟨rfl,rfl,rfl,fun _ _=>rfl⟩
 ·rename_i e1 e2
  cases e1.symm.trans e2
  exact .inr ⟨rfl,rfl⟩
 ·rfl
section
open Go.ChangeShapes Go.WideShapes Go.ChangeAt Go.RowKit
variable {HT:Type} {enc:TypeId × Value->HT} {P:Program}
theorem stays {t:TypeId} (hl:laidOutB P=true) (hr:P.readableRec t=true) (hrow:t<P.types.size) {W W':World} {sp:Nat->Bool} {v:Value} {d:DataW HT} {ps:List MemPlace}
  (h:DataW.Trod enc P W 0 (fun _=>true) true t v d ps) (hk:∀ c,c<W.heap.size->W'.heap[c]? = W.heap[c]?) (hlt:∀ x∈ps,x.block<W.heap.size) (hs:∀ p∈ps,sp p.block=true):DataW.Trod enc P W' 0 sp true t v d ps :=
 WideElems.Trod_stays hl hr hrow h (fun p hp=>by
  have hb:=hk p.block (hlt p hp)
  cases p with
  | cell b o=>exact World.cell?_of_block (w:=W) hb
  | map b=>exact hb) hs
theorem post_kept {f:Func} {s:ChangeSpec} {apart fresh handsOn again:Bool} {W W':World} {args:Array Value} {v:Value} {ds gs:List (DataW HT)} {before:List MemPlace}
  (hW:DataW.Whole enc P f.params.toList s.vars apart W args.toList ds gs before)
  (hres:∀ (b:Nat) (sp:Nat->Bool) (hd:Bool),DataW.TrodAll enc P W' b sp hd f.resultTypes.toList (v.resultList f.resultTypes.size) (s.fn HT (ds++gs)).results [])
  (hargs:∀ sp:Nat->Bool,(∀ p∈before,sp p.block=true)->DataW.TrodAll enc P W' 0 sp true f.params.toList args.toList (s.fn HT (ds++gs)).args before)
  (hvars:∀ sp:Nat->Bool,DataW.TrodVars enc P W' sp s.vars (s.fn HT (ds++gs)).vars [])
  (h1:W'.os=W.os) (h2:W'.output=W.output) (hk:∀ c,c<W.heap.size->W'.heap[c]? = W.heap[c]?)
  (hok:∀ (j:Nat) (t:TypeId) (r:Value),f.resultTypes[j]? = some t->(v.resultList f.resultTypes.size)[j]? = some r->Value.okWide P W' .any 0 t r) :
  s.post enc P f apart fresh handsOn again W args v W':=by
 have hold:∀ p∈before,(fun b=>decide (b<W.heap.size)) p.block=true:=fun p hp=>by simpa using hW.lt p hp
 have hlt:∀ p∈before,p.block<W.heap.size:=fun p hp=>hW.lt p hp
 refine ⟨ds,gs,before,[],before,[],hW,hres _ _ _,hargs _ hold,hvars _,Mb h1 h2 hk _,fun _=>?_⟩
 obtain ⟨_,_,_,_,e,hz,hn⟩:=hW
 refine ⟨hok,_,_,([]++before)++[],⟨[]++before,[],trodAll_append (hargs _ (fun _ _=>rfl)) (hres _ _ _),hvars _,rfl,?_,?_⟩,?_⟩
 ·intro b off hp
  have hp':MemPlace.cell b off∈before:=by simpa using hp
  have hb:=hlt _ hp'
  rw [World.frozen?_of_block (w:=W) (hk b hb)]
  exact hz b off hp'
 ·intro ha
  have:=hn ha
  simpa using this
 ·intro p hp _
  simpa using hp
end
end Go.Proofs.YthjdfjlhjnihfaaGreat.Ev
namespace Go.Proofs.YthjdfjlhjnihfaaGreat.Ins217
open Go Go.RowKit Go.Lib Go.Proofs
set_option linter.all false
variable {P:Program}
theorem tS:Tryz.prog.underlying 125=some (.slice 24):=by kernel_rfl
theorem iE:(Tryz.prog.info? 24).map (fun i=>(i.zero,i.size,i.bytes))=some (some (Value.slice none 0 0),1,24):=by kernel_rfl
theorem zE:∀ w,(Go.sizeOf 24).run Tryz.prog w=.ok 1 w:=fun w=>by
 obtain ⟨i0,hi,h0,h1,h2⟩:=info_parts iE
 simp [Go.sizeOf,typeInfo,hi,h1]
theorem tI:Tryz.prog.underlying 3=some (.int .i64):=by kernel_rfl
theorem Ch:Tryz.prog.follows .mixedOrders=true:=by kernel_rfl
theorem BH (w:World) {o:Oper} {a:Act} {K:Act->World->Prop} {Q:Exit->Act->World->Prop} (d s:Operand) (t t':TypeId)
  (ho:o.op=.call { callee:=.builtin .copy,args:=#[d,s],argTypes:=#[t,t'] }) (v u:Value) (hd:a.eval d=v) (hs:a.eval s=u) {v':Value} {w':World}
  (hr:(Builtin.copy_ #[t,t'] o.type #[v,u]).run P w=.ok v' w') (h:K (a.put o.dst v') w'):o.wp P a w K Q:=by
 unfold Oper.wp execOp
 simp only [ho,resolve,invoke,builtin,Sem.run_bind,Sem.run_pure,Result.andThen_ok,List.map_toArray,SA,SD,hd,hs,hr]
 exact h
theorem jC (w:World) {ops:Array Oper} {rest:List Oper} {o:Oper} {a:Act} {Q:Exit->Act->World->Prop} (hgd:o.guard=none) (d s:Operand) (t t':TypeId)
  (ho:o.op=.call { callee:=.builtin .copy,args:=#[d,s],argTypes:=#[t,t'] }) (v u:Value) (hd:a.eval d=v) (hs:a.eval s=u) {v':Value} {w':World}
  (hr:(Builtin.copy_ #[t,t'] o.type #[v,u]).run P w=.ok v' w') (h:wpList P ops Q rest (a.put o.dst v') w'):wpList P ops Q (o :: rest) a w :=
 wpList_plain hgd fun _ hK=>BH w d s t t' ho v u hd hs hr (hK _ _ h)
theorem pf {ops:Array Oper} {o:Oper} {a:Act} {w:World} {K:Act->World->Prop} {Q:Exit->Act->World->Prop} {E:Prop}
  (hg:o.guard=none) (d x:Operand) (dT sT:TypeId) (hop:o.op=Op.call { callee:=Callee.builtin Builtin.copy,args:=#[d,x],argTypes:=#[dT,sT] })
  (v u:Value) (hd:a.eval d=v) (hx:a.eval x=u) {v':Value} {w':World} (hr:(Builtin.copy_ #[dT,sT] o.type #[v,u]).run P w=.ok v' w') (hK:K (a.put o.dst v') w') :
  if Region.wanted o (yielded ops a.tmps)=true then Oper.wp P o a w K Q else E:=by
 have hw:Region.wanted o (yielded ops a.tmps)=true:=by simp [Region.wanted,hg]
 rw [if_pos hw]
 unfold Oper.wp
 simp [execOp,hop,resolve,invoke,builtin,hd,hx,hr,Result.andThen]
 exact hK
theorem oV (b:Nat) (vs:List Value) (o:Nat) (w:World) (h:∀ j,j<vs.length->(w.cell? ⟨b,o+j,none⟩).isSome=true) (k:Nat) (hk:(w.cell? ⟨b,k,none⟩).isSome=true):((w.setCells b o vs).cell? ⟨b,k,none⟩).isSome=true:=by
 by_cases hin:o<=k/\k<o+vs.length
 ·have:=World.cell?_setCells_in b vs o w h (k-o) (by omega)
  rw [show o+(k-o)=k by omega] at this
  rw [this]; rfl
 ·rw [World.cell?_setCells_out b vs o w ⟨b,k,none⟩ (fun _ _=>by show k<o\/o+vs.length<=k; omega)]
  exact hk
set_option maxHeartbeats 4000000 in
set_option maxRecDepth 100000 in
theorem shift (b off n c i vb voff m vc:Nat) (cs vs:List Value) (w:World) (hi:i<n) (hm:0<m) (hroom:n+m<=c) (hc63:n+m<=9223372036854775807) (hvb:vb≠b)
  (hcl:cs.length=n) (hvl:vs.length=m)
  (hcs:∀ j v,cs[j]? = some v->w.cell? ⟨b,off+j,none⟩=some v) (hsp:∀ j,j<n+m->(w.cell? ⟨b,off+j,none⟩).isSome=true) (hfz:∀ j,j<n+m->w.frozen? ⟨b,off+j,none⟩=false)
  (hvs:∀ j v,vs[j]? = some v->w.cell? ⟨vb,voff+j,none⟩=some v) (h1c:∀ v∈cs,v.oneCell'=true) (h1v:∀ v∈vs,v.oneCell'=true)
  (tA tB:TypeId) (kA kB:Nat) (hsa:w.shape? vb=some (tA,kA)) (hsb:w.shape? b=some (tB,kB)) (hkB:kB≠0) (hfa:w.frozen? ⟨vb,voff,none⟩=false) (hfe:w.frozen? ⟨vb,kA,none⟩=false) :
  Calls Tryz.prog 217 #[.slice (some ⟨b,off,none⟩) n c,.int .i64 i,.slice (some ⟨vb,voff,none⟩) m vc] w fun e w' =>
   e=.returned (.slice (some ⟨b,off,none⟩) (n+m) c)/\w'=(w.drew.setCells b (off+(i+m)) (cs.drop i)).setCells b (off+i) vs:=by
 have hz1:¬ ((m:Int)=0):=by omega
 have hz2:¬ ((i:Int)=(n:Int)):=by omega
 have hsz:(Tryz.prog.info? 24).map (·.size)=some 1:=by
  obtain ⟨i0,hi0,h0,h1,h2⟩:=info_parts iE
  rw [hi0]; simp [h1]
 have hov:∀ lb cb,(callFunc 228 #[.slice (some ⟨vb,voff,none⟩) m vc,.slice (some ⟨b,off+(i+m),none⟩) lb cb]).run Tryz.prog w=.ok (.value (.bool false)) w:=fun lb cb=>by
  rw [run_callFunc_extern Tryz.func228 (by kernel_rfl) (by kernel_rfl) (by kernel_rfl) (e:=Extern.SlicesOverlaps.overlaps #[125,125] #[4]) (by kernel_rfl),
   Lib.run_overlaps_apart w 125 4 24 tS 1 zE ⟨vb,voff,none⟩ ⟨b,off+(i+m),none⟩ m vc lb cb hvb tA tB kA kB hsa hsb hkB hfa hfe]
  rfl
 have hdl:(cs.drop i).length=n-i:=by rw [TN,hcl]
 have hw1:IntKind.i64.wrap ((i:Int)+(m:Int))=(i:Int)+(m:Int):=by rw [IntKind.wrap_i64]; omega
 have hb1:(0:Int)<=(i:Int)+(m:Int):=by omega
 have hin:i<=n:=by omega
 have htn:((i:Int)+(m:Int)).toNat=i+m:=by omega
 have hb2:¬ (c=i+m):=by omega
 have hb3:(i:Int)<=(n:Int)+(m:Int):=by omega
 have hb4:¬ (c=i):=by omega
 have hcp1:∀ ty dc sc,(Builtin.copy_ #[125,125] ty #[.slice (some ⟨b,off+(i+m),none⟩) (n+m-(i+m)) dc,.slice (some ⟨b,off+i,none⟩) (n+m-i) sc]).run Tryz.prog w.drew=.ok (goInt (cs.drop i).length) (w.drew.setCells b (off+(i+m)) (cs.drop i)):=fun ty dc sc =>
  run_copy_cells w.drew _ _ ty 24 b (off+(i+m)) (n+m-(i+m)) dc ⟨b,off+i,none⟩ (n+m-i) sc (cs.drop i) tS hsz (by rw [hdl]; simp only [Xv]; split <;> omega)
   (fun j v hj=>by rw [Addr.add_lit,TA]; exact hcs (i+j) v (by rwa [SU] at hj))
   (fun j hj=>by rw [TA]; exact hsp _ (by omega)) (fun j hj=>by rw [TA]; exact hfz _ (by omega)) (fun v hv=>h1c v (Vi hv))
 obtain ⟨W1,hW1⟩:∃ W1,W1=w.drew.setCells b (off+(i+m)) (cs.drop i):=⟨_,rfl⟩
 have hsp1:∀ k,k<n+m->(W1.cell? ⟨b,off+k,none⟩).isSome=true:=fun k hk=>by
  rw [hW1]
  exact oV b _ _ _ (fun j hj=>by rw [TA]; exact hsp _ (by omega)) _ (hsp k hk)
 have hcp2:∀ (W:World),(∀ x,W.cell? x=W1.cell? x)->(∀ x,W.frozen? x=W1.frozen? x)->∀ ty dc,(Builtin.copy_ #[125,125] ty #[.slice (some ⟨b,off+i,none⟩) (n+m-i) dc,.slice (some ⟨vb,voff,none⟩) m vc]).run Tryz.prog W=.ok (goInt vs.length) (W.setCells b (off+i) vs):=fun W hWc hWf ty dc =>
  run_copy_cells W _ _ ty 24 b (off+i) (n+m-i) dc ⟨vb,voff,none⟩ m vc vs tS hsz (by rw [hvl]; simp only [Xv]; split <;> omega)
   (fun j v hj=>by
    rw [Addr.add_lit,hWc,hW1,World.cell?_setCells_out b _ _ _ _ (fun h _=>absurd h hvb)]
    exact hvs j v hj)
   (fun j hj=>by rw [hWc,TA]; exact hsp1 _ (by omega)) (fun j hj=>by rw [hWf,hW1,World.frozen?_setCells,TA]; exact hfz _ (by omega)) h1v
 rw [<- hW1] at hcp1
 have mixed:=Ch
 go_enter Tryz.func217,Tryz.ntmps217
 go_wp2_with (simp only [hov])
 go_region_law_o (refine pf rfl _ _ 125 125 rfl _ _ (by simp [Act.eval,Act.put]) (by simp [Act.eval,Act.put]) (hcp1 _ _ _) ?_)
 go_wp2_with (at_builtin; refine jC _ rfl _ _ 125 125 rfl _ _ rfl rfl (hcp2 _ (fun _=>rfl) (fun _=>rfl) _ _) ?_)
 go_ret
 first | exact ⟨rfl,rfl⟩ | exact ⟨rfl,by rw [hW1]⟩
set_option maxHeartbeats 4000000 in
set_option maxRecDepth 100000 in
theorem end_room (b off n c vb voff m vc:Nat) (vs:List Value) (w:World) (hm:0<m) (hroom:n+m<=c) (hc63:n+m<=9223372036854775807)
  (hvl:vs.length=m) (hsp:∀ j,j<m->(w.cell? ⟨b,off+n+j,none⟩).isSome=true) (hfz:∀ j,j<m->w.frozen? ⟨b,off+n+j,none⟩=false)
  (hvs:∀ j v,vs[j]? = some v->w.cell? ⟨vb,voff+j,none⟩=some v) (h1v:∀ v∈vs,v.oneCell'=true) :
  Calls Tryz.prog 217 #[.slice (some ⟨b,off,none⟩) n c,.int .i64 n,.slice (some ⟨vb,voff,none⟩) m vc] w fun e w' =>
   e=.returned (.slice (some ⟨b,off,none⟩) (n+m) c)/\w'=w.setCells b (off+n) vs:=by
 have hz1:¬ ((m:Int)=0):=by omega
 have hsrc:Src Tryz.prog 1 125 (.slice (some ⟨vb,voff,none⟩) m vc) m vs w:=Src.ofSlice w tS ⟨vb,voff,none⟩ m vc vs (by omega) (fun j u hj=>by rw [Addr.add_lit]; exact hvs j u hj) h1v
 have mixed:=Ch
 go_enter Tryz.func217,Tryz.ntmps217
 go_wp2_with (at_builtin; refine wpList_append_room1 _ rfl _ _ 125 125 rfl 24 _ _ tS iE b off n c rfl _ rfl m vs hsrc hroom (by rw [hvl]; exact hsp) (by rw [hvl]; exact hfz) ?_)
 go_ret
 exact ⟨rfl,rfl⟩
set_option maxHeartbeats 4000000 in
set_option maxRecDepth 100000 in
theorem end_grow (base:Option Addr) (n c vb voff m vc:Nat) (cs vs:List Value) (w:World) (hm:0<m) (hnc:n<=c) (hroom:c<n+m) (hbig:(n+m)*24<=140737488355328)
  (hcl:cs.length=n) (hvl:vs.length=m) (hnil:base=none->n=0)
  (hcs:∀ a,base=some a->∀ j v,cs[j]? = some v->w.cell? (a.add j)=some v)
  (hvs:∀ j v,vs[j]? = some v->w.cell? ⟨vb,voff+j,none⟩=some v) (h1v:∀ v∈vs,v.oneCell'=true) :
  Calls Tryz.prog 217 #[.slice base n c,.int .i64 n,.slice (some ⟨vb,voff,none⟩) m vc] w fun e w' =>
   e=.returned (.slice (some ⟨w.heap.size,0,none⟩) (n+m) (grownCap w (n+m) c 24)) /\
   w'=w.drew.alloc (.cells ((cs++vs).toArray++Builtin.zeroCells (Value.slice none 0 0).cells (grownCap w (n+m) c 24-(n+m))) 24):=by
 obtain ⟨i0,hi0,hz0,hzs,hzb⟩:=info_parts iE
 have hz1:¬ ((m:Int)=0):=by omega
 have hsrc:Src Tryz.prog i0.size 125 (.slice (some ⟨vb,voff,none⟩) m vc) m vs w:=by
  rw [hzs]
  exact Src.ofSlice w tS ⟨vb,voff,none⟩ m vc vs (by omega) (fun j u hj=>by rw [Addr.add_lit]; exact hvs j u hj) h1v
 have hold:(Builtin.firstCells i0.size n (.slice base n c)).run Tryz.prog w.drew=.ok cs.toArray w.drew:=by
  rw [hzs]
  cases base with
  | none =>
   have h0:=hnil rfl
   subst h0
   rw [TJ.1 hcl]
   exact run_firstCells_none w.drew 1 0 0 c
  | some a=>exact run_firstCells_some w.drew 1 n a n c cs (by omega) (fun j v hj=>hcs a rfl j v hj)
 have hrun:∀ ty,(Builtin.append_ #[125,125] ty #[.slice base n c,.slice (some ⟨vb,voff,none⟩) m vc]).run Tryz.prog w=_:=fun ty =>
  run_append_grow_src w 125 125 ty 24 i0 _ tS hi0 hz0 base n c cs hold _ m vs hsrc hroom (by omega) (by rw [hzb]; exact growslice_fits hroom hbig)
 have mixed:=Ch
 go_enter Tryz.func217,Tryz.ntmps217
 cases base with
 | none =>
  have h0:=hnil rfl
  subst h0
  go_wp2_with (at_builtin; refine Lib.wpList_append_run _ rfl _ _ _ _ rfl _ _ rfl rfl _ _ (hrun _) ?_)
  go_ret
  exact ⟨rfl,rfl⟩
 | some a =>
  obtain ⟨ab,ao,asp⟩:=a
  go_wp2_with (at_builtin; refine Lib.wpList_append_run _ rfl _ _ _ _ rfl _ _ rfl rfl _ _ (hrun _) ?_)
  all_goals (go_ret; exact ⟨rfl,rfl⟩)
set_option maxHeartbeats 4000000 in
set_option maxRecDepth 100000 in
theorem grow (b off n c i vb voff m vc:Nat) (cs vs:List Value) (w:World) (hi:i<n) (hm:0<m) (hnc:n<=c) (hroom:c<n+m) (hbig:(n+m)*24<=140737488355328)
  (hcl:cs.length=n) (hvl:vs.length=m)
  (hcs:∀ j v,cs[j]? = some v->w.cell? ⟨b,off+j,none⟩=some v)
  (hvs:∀ j v,vs[j]? = some v->w.cell? ⟨vb,voff+j,none⟩=some v) (h1c:∀ v∈cs,v.oneCell'=true) (h1v:∀ v∈vs,v.oneCell'=true) :
  Calls Tryz.prog 217 #[.slice (some ⟨b,off,none⟩) n c,.int .i64 i,.slice (some ⟨vb,voff,none⟩) m vc] w fun e w' =>
   e=.returned (.slice (some ⟨w.heap.size,0,none⟩) (n+m) (grownCap w (n+m) c 24)) /\
   w'=(((w.alloc (.cells ((cs.take i).toArray++Builtin.zeroCells (Value.slice none 0 0).cells (n+m-i)++Builtin.zeroCells (Value.slice none 0 0).cells (grownCap w (n+m) c 24-(n+m))) 24)).drew.setCells w.heap.size i vs).drew).setCells w.heap.size (i+m) (cs.drop i):=by
 obtain ⟨i0,hi0,hz0,hzs,hzb⟩:=info_parts iE
 have hz1:¬ ((m:Int)=0):=by omega
 have hz2:¬ ((i:Int)=(n:Int)):=by omega
 have hz3:(c:Int)<(n:Int)+(m:Int):=by omega
 have hsz:(Tryz.prog.info? 24).map (·.size)=some 1:=by rw [hi0]; simp [hzs]
 have hbw:b<w.heap.size:=block_lt_of_cell (hcs 0 _ (Sv (by omega)))
 have hvw:vb<w.heap.size:=block_lt_of_cell (hvs 0 _ (Sv (by omega)))
 have hkk:(n:Int)+(m:Int)-(i:Int)=((n+m-i:Nat):Int):=by omega
 have hik:i+(n+m-i)=n+m:=by omega
 have hold:(Builtin.firstCells i0.size i (.slice (some ⟨b,off,none⟩) i c)).run Tryz.prog w.drew=.ok (cs.take i).toArray w.drew:=by
  rw [hzs]
  exact run_firstCells_some w.drew 1 i ⟨b,off,none⟩ i c (cs.take i) (by rw [SY]; omega) (fun j v hj=>by
   rw [Addr.add_lit]
   rw [ST] at hj
   split at hj
   ·exact hcs j v hj
   ·cases hj)
 have hrz:∀ ty,(Builtin.append_ #[125,3] ty #[.slice (some ⟨b,off,none⟩) i c,.int .i64 ((n:Int)+(m:Int)-(i:Int))]).run Tryz.prog w =
   .ok (.slice (some ⟨w.heap.size,0,none⟩) (n+m) (grownCap w (n+m) c 24)) (w.drew.alloc (.cells ((cs.take i).toArray++Builtin.zeroCells (Value.slice none 0 0).cells (n+m-i)++Builtin.zeroCells (Value.slice none 0 0).cells (grownCap w (n+m) c 24-(n+m))) 24)):=fun ty=>by
  have h:=Lib.run_append_grow_zeros w 125 3 ty 24 i0 _ .i64 .i64 tS tI hi0 hz0 (some ⟨b,off,none⟩) i c (cs.take i) hold (n+m-i) (by omega) (by omega) (by omega) (by omega) (by rw [hzb]; omega) (by rw [hzb,hik]; exact growslice_fits hroom hbig)
  rw [hik] at h
  rw [hkk]
  exact h
 obtain ⟨G,hG⟩:∃ G,G=grownCap w (n+m) c 24:=⟨_,rfl⟩
 obtain ⟨ROW,hROW⟩:∃ ROW:Array Value,ROW=(cs.take i).toArray++Builtin.zeroCells (Value.slice none 0 0).cells (n+m-i)++Builtin.zeroCells (Value.slice none 0 0).cells (G-(n+m)):=⟨_,rfl⟩
 rw [<- hG] at hrz ⊢
 rw [<- hROW] at hrz ⊢
 have hRl:n+m<=ROW.size:=by
  rw [hROW]
  simp [Builtin.zeroCells,Value.cells]
  omega
 obtain ⟨W1,hW1⟩:∃ W1,W1=w.drew.alloc (.cells ROW 24):=⟨_,rfl⟩
 rw [<- hW1] at hrz
 have hN:∀ j,j<n+m->(W1.cell? ⟨w.heap.size,j,none⟩).isSome=true:=fun j hj=>by
  rw [hW1,World.cell?_alloc_at (w:=w.drew) ROW _ w.heap.size j rfl,TL (by omega)]; rfl
 have hNf:∀ j,W1.frozen? ⟨w.heap.size,j,none⟩=false:=fun j=>by rw [hW1]; exact World.frozen?_alloc_at (w:=w.drew) ROW _ w.heap.size j rfl
 have hOb:∀ j v,w.cell? ⟨b,j,none⟩=some v->W1.cell? ⟨b,j,none⟩=some v:=fun j v h=>by rw [hW1,World.cell?_alloc_past (w:=w.drew) _ b j hbw]; exact h
 have hOv:∀ j v,w.cell? ⟨vb,j,none⟩=some v->W1.cell? ⟨vb,j,none⟩=some v:=fun j v h=>by rw [hW1,World.cell?_alloc_past (w:=w.drew) _ vb j hvw]; exact h
 have hcpA:∀ (W:World),(∀ x,W.cell? x=W1.cell? x)->(∀ x,W.frozen? x=W1.frozen? x)->∀ ty dc,(Builtin.copy_ #[125,125] ty #[.slice (some ⟨w.heap.size,i,none⟩) (n+m-i) dc,.slice (some ⟨vb,voff,none⟩) m vc]).run Tryz.prog W=.ok (goInt vs.length) (W.setCells w.heap.size i vs):=fun W hWc hWf ty dc =>
  run_copy_cells W _ _ ty 24 w.heap.size i (n+m-i) dc ⟨vb,voff,none⟩ m vc vs tS hsz (by rw [hvl]; simp only [Xv]; split <;> omega)
   (fun j v hj=>by rw [Addr.add_lit,hWc]; exact hOv _ v (hvs j v hj))
   (fun j hj=>by rw [hWc]; exact hN _ (by omega)) (fun j hj=>by rw [hWf]; exact hNf _) h1v
 have hGn:n+m<=G:=by rw [hG]; exact grownCap_ge w _ _ _
 have hG63:G<=9223372036854775807:=by
  have:=grownCap_le_maxLen w (n+m) c 24 (by unfold maxLen; omega)
  rw [<- hG] at this
  unfold maxLen at this
  omega
 have hGi:¬ (G=i):=by omega
 have hGim:¬ (G=i+m):=by omega
 have hci:¬ (c=i):=by omega
 have hbN:b≠w.heap.size:=by omega
 have hdl:(cs.drop i).length=n-i:=by rw [TN,hcl]
 have hcpB:∀ (W:World),(∀ x,W.cell? x=(W1.setCells w.heap.size i vs).cell? x)->(∀ x,W.frozen? x=(W1.setCells w.heap.size i vs).frozen? x)->∀ ty dc sc,(Builtin.copy_ #[125,125] ty #[.slice (some ⟨w.heap.size,i+m,none⟩) (n+m-(i+m)) dc,.slice (some ⟨b,off+i,none⟩) (n-i) sc]).run Tryz.prog W=.ok (goInt (cs.drop i).length) (W.setCells w.heap.size (i+m) (cs.drop i)):=fun W hWc hWf ty dc sc =>
  run_copy_cells W _ _ ty 24 w.heap.size (i+m) (n+m-(i+m)) dc ⟨b,off+i,none⟩ (n-i) sc (cs.drop i) tS hsz (by rw [hdl]; simp only [Xv]; split <;> omega)
   (fun j v hj=>by
    rw [Addr.add_lit,hWc,World.cell?_setCells_out _ _ _ _ _ (fun h _=>absurd h hbN),TA]
    exact hOb _ v (hcs (i+j) v (by rwa [SU] at hj)))
   (fun j hj=>by rw [hWc]; exact oV _ _ _ _ (fun t ht=>hN _ (by omega)) _ (hN _ (by omega)))
   (fun j hj=>by rw [hWf,World.frozen?_setCells]; exact hNf _) (fun v hv=>h1c v (Vi hv))
 subst hW1
 have hE1:∀ x,((w.alloc (.cells ROW 24)).drew).cell? x=(w.drew.alloc (.cells ROW 24)).cell? x:=fun x=>rfl
 have hE2:∀ x,((w.alloc (.cells ROW 24)).drew).frozen? x=(w.drew.alloc (.cells ROW 24)).frozen? x:=fun x=>rfl
 have hF1:∀ x,(((w.alloc (.cells ROW 24)).drew.setCells w.heap.size i vs).drew).cell? x=((w.drew.alloc (.cells ROW 24)).setCells w.heap.size i vs).cell? x:=fun x=>rfl
 have hF2:∀ x,(((w.alloc (.cells ROW 24)).drew.setCells w.heap.size i vs).drew).frozen? x=((w.drew.alloc (.cells ROW 24)).setCells w.heap.size i vs).frozen? x:=fun x=>rfl
 have hw1:IntKind.i64.wrap ((i:Int)+(m:Int))=(i:Int)+(m:Int):=by rw [IntKind.wrap_i64]; omega
 have hb1:(0:Int)<=(i:Int)+(m:Int):=by omega
 have hin:i<=n:=by omega
 have htn:((i:Int)+(m:Int)).toNat=i+m:=by omega
 have hb3:(i:Int)<=(n:Int):=by omega
 clear hkk hik hold hROW hG hRl
 have mixed:=Ch
 go_enter Tryz.func217,Tryz.ntmps217
 go_wp2_with (first
  | (at_builtin; refine Lib.wpList_append_run _ rfl _ _ _ _ rfl _ _ rfl rfl _ _ (hrz _) ?_)
  | (at_builtin; refine jC _ rfl _ _ 125 125 rfl _ _ rfl rfl (hcpA _ hE1 hE2 _ _) ?_)
  | (at_builtin; refine jC _ rfl _ _ 125 125 rfl _ _ rfl rfl (hcpB _ (fun _=>rfl) (fun _=>rfl) _ _ _) ?_))
 go_region_law_o (refine pf rfl _ _ 125 125 rfl (.slice (some ⟨w.heap.size,i+m,none⟩) (n+m-(i+m)) (G-(i+m))) (.slice (some ⟨b,off+i,none⟩) (n-i) (c-i)) (by simp [Act.eval,Act.put]) (by simp [Act.eval,Act.put]) (hcpB _ hF1 hF2 3 (G-(i+m)) (c-i)) ?_)
 go_wp2
 go_ret
 exact ⟨rfl,rfl⟩
end Go.Proofs.YthjdfjlhjnihfaaGreat.Ins217
namespace Go.Proofs.YthjdfjlhjnihfaaGreat.Ev.Ok217
open Go Go.Proofs.YthjdfjlhjnihfaaGreat.Ev
set_option linter.all false
def ri (A:Array Value):Nat->List Value->Array Value
 | _,[]=>A
 | o,v :: r=>ri (A.setIfInBounds o v) (o+1) r
theorem iG:∀ (vs:List Value) (o:Nat) (A:Array Value),(ri A o vs).size=A.size
 | [],o,A=>rfl
 | v :: r,o,A=>by rw [ri,iG r]; simp
theorem nr:∀ (vs:List Value) (o:Nat) (A:Array Value) (j:Nat),j<A.size->(ri A o vs)[j]? = if o<=j/\j<o+vs.length then vs[j-o]? else A[j]?
 | [],o,A,j,hj=>by rw [ri,if_neg (by simp only [UT]; omega)]
 | v :: r,o,A,j,hj=>by
  rw [ri,nr r (o+1) _ j (by simpa using hj)]
  by_cases h1:o+1<=j/\j<o+1+r.length
  ·rw [if_pos h1,if_pos (by simp; omega),show j-o=(j-(o+1))+1 by omega,Ub]
  ·rw [if_neg h1]
   by_cases h2:j=o
   ·subst h2
    rw [if_pos (by simp),Ww,TQ,Array.getElem?_setIfInBounds_self_of_lt hj]
   ·rw [if_neg (by simp; omega),Array.getElem?_setIfInBounds_ne (by omega)]
theorem l7 (b:Nat):∀ (vs:List Value) (o:Nat) (w:World) (arr:Array Value) (ty:TypeId) (fr:Nat × Nat),w.heap[b]? = some (.cells arr ty fr) ->
  (w.setCells b o vs).heap[b]? = some (.cells (ri arr o vs) ty fr)/\(∀ c,c≠b->(w.setCells b o vs).heap[c]? = w.heap[c]?)/\(w.setCells b o vs).heap.size=w.heap.size /\
   Tp w (w.setCells b o vs)/\(w.setCells b o vs).os=w.os/\(w.setCells b o vs).output=w.output
 | [],o,w,arr,ty,fr,h=>⟨h,fun _ _=>rfl,rfl,Yw rfl rfl,rfl,rfl⟩
 | v :: r,o,w,arr,ty,fr,h=>by
  have h1:(w.setCell ⟨b,o,none⟩ v).heap[b]? = some (.cells (arr.setIfInBounds o v) ty fr):=by
   simp [World.setCell,UF,h]
  obtain ⟨k1,k2,k3,k4,k5,k6⟩:=l7 b r (o+1) (w.setCell ⟨b,o,none⟩ v) _ ty fr h1
  refine ⟨k1,fun c hc=>(k2 c hc).trans ?_,k3.trans ?_,(Yw rfl rfl).trans k4,k5,k6⟩
  ·simp [World.setCell,UF,Ne.symm hc]
  ·simp [World.setCell]
theorem lX (w:World) (ty:TypeId):∀ (vs:List Value) (o:Nat) (A:Array Value),(w.alloc (.cells A ty)).setCells w.heap.size o vs=w.alloc (.cells (ri A o vs) ty)
 | [],o,A=>rfl
 | v :: r,o,A=>by
  have h1:(w.alloc (.cells A ty)).setCell ⟨w.heap.size,o,none⟩ v=w.alloc (.cells (A.setIfInBounds o v) ty):=by
   simp only [World.setCell,World.alloc]
   congr 1
   apply WF
   intro j
   rw [UF]
   by_cases hj:w.heap.size=j
   ·subst hj; simp
   ·rw [if_neg hj,Vn,Vn,if_neg (Ne.symm hj),if_neg (Ne.symm hj)]
  rw [World.setCells,h1,lX w ty r (o+1) _]; rfl
section
variable {P:Program} {μ:Mu} {F:Nat->Prop} {H:Heap} {w:World}
theorem yY {μ':Mu} {H':Heap} {w':World} (h:Stp (fun x=>x=H.next) P μ F { H with next:=H.next+1 } w μ' F H' w'):Stp qZ P μ F H w μ' F H' w' :=
 ⟨h.mu,h.fr,h.size,h.keep,h.rw,SM (S9 _ _) h.next,fun b hb _ hn=>h.new b (SP hb (S9 _ _)) (by omega) hn,h.rng,
  fun b e hb hl _=>h.old b e hb (SP hl (S9 _ _)) (by omega),h.alv,h.tape,h.os,h.out⟩
theorem HC {ty:Nat} {cs:List AV} {V:List Value} {A:Array Value} {w1:World} {k cap':Nat} {H1:Heap} (hH:HR P μ F H1 w) (hnx:H1.next=H.next+1) (hid:μ H.next=none) (hs:sizeOf? P ty=some 1)
  (hl:LR μ F w cs V) (hk:V.length=k) (hA:∀ j,j<k->A[j]? = V[j]?) (hcap:k<=cap') (hsz:A.size=cap')
  (h1:w1.heap=w.heap) (ht:Tp w w1) (hos:w1.os=w.os) (hout:w1.output=w.output) :
  ∃ μ',VR μ' F (w1.alloc (.cells A ty)) (.own H.next 0 k k 1 false) (.slice (some ⟨w.heap.size,0,none⟩) k cap')/\HR P μ' F (H1.put H.next (.cells cs ty true)) (w1.alloc (.cells A ty)) /\
   Stp (fun x=>x=H.next) P μ F H1 w μ' F (H1.put H.next (.cells cs ty true)) (w1.alloc (.cells A ty)):=by
 have hcl:cs.length=k:=hl.1.trans hk
 obtain ⟨q1,q2⟩:=kQ (I:=fun x=>x=H.next) hH hid (by omega) rfl (sz:=1) (arr:=A) (cs:=cs) hs (by omega)
  (fun i c v hc hv=>by
   have hi:i<k:=by rw [<- hcl]; exact (SI.1 hc).1
   rw [hA i hi] at hv
   exact hl.2 i c v hc hv) w1 h1 ht hos hout
 exact ⟨_,.own H.next 0 k k 1 false _ cap' (upd_same _ _) rfl (Sz _) hcap (fun h=>by cases h) (by simp [hsz]),q1,q2⟩
theorem Om {b ty:Nat} {L:Ak} {cs0 cs:List AV} {V:List Value} {A:Array Value} {w':World} {k cap:Nat} (hH:HR P μ F H w) (hb:H.get b=some (.cells cs0 ty true)) (hL:μ b=some L) (hLs:L.sz=1)
  (hl:LR μ F w cs V) (hk:V.length=k) (hA:∀ j,j<k->A[j]? = V[j]?) (hcap:k<=cap) (hsz:A.size=L.N) (hN:cap<=L.N)
  (hw:w'.heap[L.blk]? = some (.cells A ty (0,0))) (hoth:∀ c,c≠L.blk->w'.heap[c]? = w.heap[c]?) (hsize:w'.heap.size=w.heap.size) (ht:Tp w w') (hos:w'.os=w.os) (hout:w'.output=w.output) :
  ∃ μ',VR μ' F w' (.own H.next 0 k k 1 false) (.slice (some ⟨L.blk,0,none⟩) k cap)/\HR P μ' F (({ H with next:=H.next+1 }.kill b).put H.next (.cells cs ty true)) w' /\
   Stp qZ P μ F H w μ' F (({ H with next:=H.next+1 }.kill b).put H.next (.cells cs ty true)) w':=by
 have hcl:cs.length=k:=hl.1.trans hk
 have hid:μ H.next=none:=jN hH (Sz _)
 have hH1:=hH.bump 1
 have hb1:({ H with next:=H.next+1 }:Heap).get b=some (.cells cs0 ty true):=hb
 obtain ⟨arr,fr,g1,g2,g3,g4,g5,g6,g7⟩:=fN hH hb hL
 obtain ⟨p1,p2⟩:=iC (I:=fun x=>x=H.next) (e:=.cells cs ty true) hH1 hb1 rfl hL w' hoth hsize ht hos hout
  (fun hF=>⟨A,(0,0),hw,hsz,g3,by omega,fun i c v hc hv=>by
   have hi:i<k:=by rw [<- hcl]; exact (SI.1 hc).1
   rw [hA i hi] at hv
   exact (hl.2 i c v hc hv).mono (fun _ _ h=>h) (fun _ h=>h) hF,fun _=>⟨(g6 rfl).1,rfl⟩,fun h=>by cases h⟩) rfl
 obtain ⟨q4,q5⟩:=sW (I:=fun x=>x=H.next) p1 (b:=b) (id:=H.next) (L:=L) (by rw [X6,if_pos rfl]) hL hid (by show H.next<H.next+1; omega) rfl
 refine ⟨μ.upd H.next L,.own H.next 0 k k 1 false L cap (upd_same _ _) hLs (Sz _) hcap (fun h=>by cases h) (by simp; omega),?_,?_⟩
 ·refine q4.congr rfl fun x=>?_
  simp only [X6,X5]
  split
  ·rfl
  ·split
   ·rfl
   ·rename_i hx; rfl
 ·refine yY ((p2.trans q5).congr rfl fun x e he=>⟨e,?_,rfl⟩)
  simp only [X6,X5] at he ⊢
  split at he
  ·rename_i hx; rw [if_pos hx]; exact he
  ·rename_i hx
   rw [if_neg hx]
   split at he
   ·cases he
   ·rename_i hx2; rw [if_neg hx2,if_neg hx2]; exact he
end
theorem tu {vs:List Value} {w:World} {F:Fence} {rd:Bool} {n:Nat} {R:Value->World->Prop} (hF:FenceOK F rd) (h:Calls Tryz.prog 217 vs.toArray w fun e w'=>∃ u,e=.returned u/\R u w'):Runs F n Tryz.prog ((callFunc 217 vs.toArray).run Tryz.prog w) R:=by
 rw [qQ (P:=Tryz.prog) (f:=217) Tryz.func217 (by kernel_rfl) (of_decide_eq_true (by kernel_rfl))]
 unfold Runs
 simp only
 have key:CallsIn Fence.wide n Tryz.prog 217 vs.toArray w fun e w'=>∃ u,e=.returned u/\R u w':=callsIn_wide.2 h
 rcases hF with ⟨_,rfl⟩ | ⟨_,l,rfl⟩
 ·exact key
 ·exact key
theorem tf {w:World} {b:Nat} {arr:Array Value} {ty:TypeId} (h:w.heap[b]? = some (.cells arr ty (0,0))) (o:Nat):w.frozen? ⟨b,o,none⟩=false:=by
 simp [World.frozen?,h]
theorem On {H H':Heap} {size bytes ty:Nat} {args:List AV} {v:AV} (h:tF H (.insert size bytes ty) args=some (v,H')) :
  (∃ b2 off2 m c2 sz2 Gn news,args=[.nilSl,.int .i64 (.ofNat 0),.own b2 off2 m c2 sz2 Gn]/\aL H size m (.own b2 off2 m c2 sz2 Gn)=some news/\0<m/\m*bytes<=2^46/\m<2^62/\news.all AV.one=true /\
   v=.own H.next 0 m m size false/\H'=({ H with next:=H.next+1 }:Heap).put H.next (.cells news ty true)) \/
  (∃ b n c ex i b2 off2 m c2 sz2 Gn news cs cs2 ty2,args=[.own b 0 n c size ex,.int .i64 (.ofNat i),.own b2 off2 m c2 sz2 Gn]/\aL H size m (.own b2 off2 m c2 sz2 Gn)=some news/\H.get b=some (.cells cs ty true)/\H.get b2=some (.cells cs2 ty2 true) /\
   b≠b2/\0<m/\i<=n/\cs.length=n*size/\(n+m)*bytes<=2^46/\n+m<2^62/\news.all AV.one=true/\cs.all AV.one=true /\
   v=.own H.next 0 (n+m) (n+m) size false/\H'=(({ H with next:=H.next+1 }:Heap).kill b).put H.next (.cells (cs.take (i*size)++news++cs.drop (i*size)) ty true)):=by
 unfold tF at h
 split at h
 all_goals first | contradiction | skip
 ·rename_i heq
  cases heq
  split at h
  ·rename_i news hnews
   split at h
   ·rename_i hc
    obtain ⟨c1,c2',c3,c4,c5⟩:=hc
    cases h
    subst c1
    exact .inl ⟨_,_,_,_,_,_,news,rfl,hnews,c2',c3,c4,c5,rfl,rfl⟩
   ·cases h
  ·cases h
 ·rename_i heq
  cases heq
  split at h
  ·rename_i news cs ty' cs2 ty2 hnews hb hb2
   split at h
   ·rename_i hc
    obtain ⟨c1,c2',c3,c4,c5,c6,c7,c8,c9,c10,c11⟩:=hc
    cases h
    subst c1
    subst c2'
    subst c9
    exact .inr ⟨_,_,_,_,_,_,_,_,_,_,_,news,cs,cs2,ty2,rfl,hnews,hb,hb2,c3,c4,c5,c6,c7,c8,c10,c11,rfl,rfl⟩
   ·cases h
  ·cases h
 all_goals (cases h)
theorem DY {P:Program} {μ:Mu} {F:Nat->Prop} {H:Heap} {w:World} {b2 off2 m c2 sz2:Nat} {Gn:Bool} {news:List AV} {z:Value} (hH:HR P μ F H w) (hz:VR μ F w (.own b2 off2 m c2 sz2 Gn) z) (hnews:aL H 1 m (.own b2 off2 m c2 sz2 Gn)=some news) :
  ∃ L2 cap2 arr2 ty2 fr2 cs2 rw2,μ b2=some L2/\z=.slice (some ⟨L2.blk,off2,none⟩) m cap2/\H.get b2=some (.cells cs2 ty2 rw2)/\w.heap[L2.blk]? = some (.cells arr2 ty2 fr2)/\off2+m<=arr2.size/\(rw2=true->fr2=(0,0)) /\
   ((arr2.toList.drop off2).take m).length=m/\LR μ F w news ((arr2.toList.drop off2).take m)/\∀ j u,((arr2.toList.drop off2).take m)[j]? = some u->w.cell? ⟨L2.blk,off2+j,none⟩=some u:=by
 cases hz with
 | own _ _ _ _ _ _ L2 cap2 k1 k2 k3 k4 k5 k6 =>
 simp only [aL] at hnews
 split at hnews
 ·rename_i cs2 ty2 rw2 hb2
  split at hnews
  ·rename_i hcc
   obtain ⟨e1,e2,e3⟩:=hcc
   cases hnews
   obtain ⟨arr2,fr2,g1,g2,g3,g4,g5,g6,g7⟩:=fN hH hb2 k1
   have hvl:((arr2.toList.drop off2).take m).length=m:=by simp; omega
   refine ⟨L2,cap2,arr2,ty2,fr2,cs2,rw2,k1,rfl,hb2,g1,by omega,fun h=>(g6 h).2,hvl,⟨by simp; omega,fun i c u hi hu=>?_⟩,fun j u hj=>?_⟩
   ·rw [ST] at hi hu
    rw [TW] at hi
    split at hi
    ·rename_i him
     rw [if_pos him] at hu
     rw [SU] at hi hu
     exact g5 _ c u hi (by simpa using hu)
    ·cases hi
   ·rw [oI g1]
    rw [ST] at hj
    split at hj
    ·rw [SU] at hj; simpa using hj
    ·cases hj
  ·cases hnews
 ·cases hnews
theorem N3 {μ:Mu} {F:Nat->Prop} {w:World} {b n c sz:Nat} {ex:Bool} {x:Value} (h:VR μ F w (.own b 0 n c sz ex) x):∃ L cap,μ b=some L/\L.sz=sz/\n<=c/\c<=cap/\cap*sz<=L.N/\x=.slice (some ⟨L.blk,0,none⟩) n cap:=by
 cases h with
 | own _ _ _ _ _ _ L cap k1 k2 k3 k4 k5 k6=>exact ⟨L,cap,k1,k2,k3,k4,by omega,rfl⟩
theorem xZ {μ:Mu} {F:Nat->Prop} {w:World} {vs:List Value} {a b c:AV} (h:LR μ F w [a,b,c] vs):∃ x y z,vs=[x,y,z]/\VR μ F w a x/\VR μ F w b y/\VR μ F w c z:=by
 have hl:=h.1
 match vs,hl with
 | [x,y,z],_=>exact ⟨x,y,z,rfl,h.head,h.tail.head,h.tail.tail.head⟩
set_option maxRecDepth 100000 in
theorem extOK_insert:ExtOK Tryz.prog 217 (.insert 1 24 24):=by
 intro H args v H' h μ F w vs fence rd nn hF hH hl
 have hsE:sizeOf? Tryz.prog 24=some 1:=by
  obtain ⟨i0,hi,h0,h1,h2⟩:=info_parts Ins217.iE
  simp [sizeOf?,hi,h1]
 have hid:μ H.next=none:=jN hH (Sz _)
 have hzs:∀ k,(Builtin.zeroCells (Value.slice none 0 0).cells k).size=k:=fun k=>by rw [xx]; simp [Value.cells]
 rcases On h with ⟨b2,off2,m,c2,sz2,Gn,news,rfl,hnews,h1,h2,h3,h4,rfl,rfl⟩ | ⟨b,n,c,ex,i,b2,off2,m,c2,sz2,Gn,news,cs,cs2,ty2,rfl,hnews,hb,hb2,h1,h2,h3,h4,h5,h6,h7,h8,rfl,rfl⟩
 ·obtain ⟨x,y,z,rfl,hx,hy,hz⟩:=xZ hl
  cases hx
  cases hy
  obtain ⟨L2,cap2,arr2,ty2,fr2,cs2,rw2,k1,rfl,k3,g1,g2,-,hvl,hvr,hcell⟩:=DY hH hz hnews
  refine tu hF ((Ins217.end_grow none 0 0 L2.blk off2 m cap2 [] ((arr2.toList.drop off2).take m) w h1 (Sz _) (by omega) (by omega) rfl hvl (fun _=>rfl) (fun a h=>by cases h) hcell (hvr.one h4)).mono fun e w' ⟨he,hw⟩=>?_)
  subst hw
  rw [S8] at he
  have hge:=Go.grownCap_ge w m 0 24
  simp only [S8,UU]
  obtain ⟨μ',q1,q2,q3⟩:=HC (P:=Tryz.prog) (H:=H) (A:=((arr2.toList.drop off2).take m).toArray++Builtin.zeroCells (Value.slice none 0 0).cells (grownCap w m 0 24-m)) (w1:=w.drew) (k:=m) (cap':=grownCap w m 0 24) (hH.bump 1) rfl hid hsE hvr hvl
   (fun j hj=>by rw [TP (by simp [hvl]; omega)]; simp) hge (by simp only [UM,U5,hvl,hzs]; omega) rfl Tp.draw rfl rfl
  exact ⟨_,he,μ',q1,q2,yY q3⟩
 ·obtain ⟨x,y,z,rfl,hx,hy,hz⟩:=xZ hl
  obtain ⟨L,cap,r1,r2,r3,r4,r5,rfl⟩:=N3 hx
  cases hy
  obtain ⟨L2,cap2,arr2,ty2',fr2,cs2',rw2,k1,rfl,k3,g1,g2,gfr,hvl,hvr,hcell⟩:=DY hH hz hnews
  rw [hb2] at k3
  cases k3
  have hfr2:=gfr rfl
  subst hfr2
  obtain ⟨arr,fr,p1,p2,p3,p4,p5,p6,p7⟩:=fN hH hb r1
  obtain ⟨-,rfl⟩:=p6 rfl
  rw [TW] at h4 r5
  have hne:L2.blk≠L.blk:=fun e=>h1 (hH.inj b b2 _ _ L L2 hb hb2 r1 k1 e.symm)
  have hvsl:(arr.toList.take n).length=n:=by simp; omega
  have hcs:LR μ F w cs (arr.toList.take n):=by
   refine ⟨by simp; omega,fun i c u hi hu=>?_⟩
   rw [ST] at hu
   split at hu
   ·exact p5 i c u hi (by simpa using hu)
   ·cases hu
  have hcell0:∀ j u,(arr.toList.take n)[j]? = some u->w.cell? ⟨L.blk,0+j,none⟩=some u:=fun j u hj=>by
   rw [oI p1,S8]
   rw [ST] at hj
   split at hj
   ·simpa using hj
   ·cases hj
  have hV:LR μ F w (cs.take (i*1)++news++cs.drop (i*1)) ((arr.toList.take n).take i++(arr2.toList.drop off2).take m++(arr.toList.take n).drop i):=by
   rw [TW]
   exact ((hcs.take i).append hvr).append (hcs.drop i)
  have hVl:((arr.toList.take n).take i++(arr2.toList.drop off2).take m++(arr.toList.take n).drop i).length=n+m:=by
   simp only [SN,SY,TN,hvl,hvsl]
   have:=hvsl
   rw [SY] at this
   omega
  generalize hC:arr.toList.take n=C at *
  generalize hD:(arr2.toList.drop off2).take m=D at *
  have hCl:=hvsl
  have hDl:=hvl
  have harr:∀ j,j<n->arr[j]? = C[j]?:=fun j hj=>by rw [<- hC,ST,if_pos hj]; simp
  have hVat:∀ j,j<n+m->(C.take i++D++C.drop i)[j]? = if j<i then C[j]? else if j<i+m then D[j-i]? else C[j-m]?:=by
   intro j hj
   have e1:(C.take i).length=i:=by rw [SY]; omega
   by_cases q1:j<i
   ·rw [if_pos q1,S0 (by rw [SN,e1]; omega),S0 (by omega),ST,if_pos q1]
   ·rw [if_neg q1]
    by_cases q2:j<i+m
    ·rw [if_pos q2,S0 (by rw [SN,e1]; omega),Tn (by omega),e1]
    ·rw [if_neg q2,Tn (by rw [SN,e1]; omega),SN,e1,SU]
     congr 1; omega
  have hsp:∀ j,j<cap->(w.cell? ⟨L.blk,0+j,none⟩).isSome=true:=fun j hj=>by
   rw [oI p1,S8,TL (by omega)]; rfl
  by_cases hroom:n+m<=cap
  ·
   have fin:∀ (A:Array Value) (w':World),A.size=L.N->(∀ j,j<n+m->A[j]? = (C.take i++D++C.drop i)[j]?)->w'.heap[L.blk]? = some (.cells A 24 (0,0))->(∀ c,c≠L.blk->w'.heap[c]? = w.heap[c]?)->w'.heap.size=w.heap.size->Tp w w'->w'.os=w.os->w'.output=w.output ->
     ∃ μ',ie qZ Tryz.prog μ F H w (.own H.next 0 (n+m) (n+m) 1 false) (({ H with next:=H.next+1 }:Heap).kill b |>.put H.next (.cells (cs.take (i*1)++news++cs.drop (i*1)) 24 true)) (.slice (some ⟨L.blk,0,none⟩) (n+m) cap) w' μ':=by
    intro A w' a1 a2 a3 a4 a5 a6 a7 a8
    obtain ⟨μ',q1,q2,q3⟩:=Om (P:=Tryz.prog) (A:=A) (w':=w') (k:=n+m) (cap:=cap) hH hb r1 r2 hV hVl a2 hroom a1 r5 a3 a4 a5 a6 a7 a8
    exact ⟨μ',q1,q2,q3⟩
   by_cases hin:i=n
   ·subst hin
    refine tu hF ((Ins217.end_room L.blk 0 i cap L2.blk off2 m cap2 D w h2 hroom (by omega) hDl (fun j hj=>by rw [TA]; exact hsp _ (by omega)) (fun j _=>tf p1 _) hcell (hvr.one h7)).mono fun e w' ⟨he,hw⟩=>?_)
    subst hw
    obtain ⟨s1,s2,s3,s4,s5,s6⟩:=l7 L.blk D (0+i) w arr 24 (0,0) p1
    obtain ⟨μ',hd⟩:=fin _ _ ((iG _ _ _).trans p2) (fun j hj=>by
     rw [nr _ _ _ _ (by omega),hVat j hj,hDl,S8]
     by_cases q1:j<i
     ·rw [if_neg (by omega),if_pos q1,harr j q1]
     ·rw [if_pos (by omega),if_neg q1,if_pos (by omega)]) s1 s2 s3 s4 s5 s6
    exact ⟨_,he,μ',hd⟩
   ·refine tu hF ((Ins217.shift L.blk 0 n cap i L2.blk off2 m cap2 C D w (by omega) h2 hroom (by omega) hne hCl hDl hcell0 (fun j hj=>hsp j (by omega)) (fun j _=>tf p1 _) hcell (hcs.one h8) (hvr.one h7)
     ty2 24 arr2.size arr.size (by simp [World.shape?,g1]) (by simp [World.shape?,p1]) (by omega) (tf g1 _) (tf g1 _)).mono fun e w' ⟨he,hw⟩=>?_)
    subst hw
    obtain ⟨s1,s2,s3,s4,s5,s6⟩:=l7 L.blk (C.drop i) (0+(i+m)) w.drew arr 24 (0,0) p1
    obtain ⟨t1,t2,t3,t4,t5,t6⟩:=l7 L.blk D (0+i) _ _ 24 (0,0) s1
    obtain ⟨μ',hd⟩:=fin _ _ (by rw [iG,iG]; exact p2) (fun j hj=>by
     rw [nr _ _ _ _ (by rw [iG]; omega),nr _ _ _ _ (by omega),hVat j hj,hDl,S8,S8,TN,hCl]
     by_cases q1:j<i
     ·rw [if_neg (by omega),if_neg (by omega),if_pos q1,harr j (by omega)]
     ·by_cases q2:j<i+m
      ·rw [if_pos (by omega),if_neg q1,if_pos q2]
      ·rw [if_neg (by omega),if_pos (by omega),if_neg q1,if_neg q2,SU]
       congr 1; omega) t1 (fun c hc=>(t2 c hc).trans (s2 c hc)) (t3.trans s3) ((Tp.draw.trans s4).trans t4) (t5.trans s5) (t6.trans s6)
    exact ⟨_,he,μ',hd⟩
  ·
   have hge:=Go.grownCap_ge w (n+m) cap 24
   obtain ⟨z1,z2⟩:=sv (I:=fun x=>x=H.next) (hH.bump 1) b
   have fin:∀ (A:Array Value) (w1:World),A.size=grownCap w (n+m) cap 24->(∀ j,j<n+m->A[j]? = (C.take i++D++C.drop i)[j]?)->w1.heap=w.heap->Tp w w1->w1.os=w.os->w1.output=w.output ->
     ∃ μ',ie qZ Tryz.prog μ F H w (.own H.next 0 (n+m) (n+m) 1 false) (({ H with next:=H.next+1 }:Heap).kill b |>.put H.next (.cells (cs.take (i*1)++news++cs.drop (i*1)) 24 true)) (.slice (some ⟨w.heap.size,0,none⟩) (n+m) (grownCap w (n+m) cap 24)) (w1.alloc (.cells A 24)) μ':=by
    intro A w1 a1 a2 a3 a4 a5 a6
    obtain ⟨μ',q1,q2,q3⟩:=HC (P:=Tryz.prog) (H:=H) (A:=A) (w1:=w1) (k:=n+m) (cap':=grownCap w (n+m) cap 24) z1 rfl hid hsE hV hVl a2 hge a1 a3 a4 a5 a6
    exact ⟨μ',q1,q2,yY (z2.trans q3)⟩
   by_cases hin:i=n
   ·subst hin
    refine tu hF ((Ins217.end_grow (some ⟨L.blk,0,none⟩) i cap L2.blk off2 m cap2 C D w h2 (by omega) (by omega) (by omega) hCl hDl (fun h=>by cases h) (fun a ha j u hj=>by cases ha; rw [jl]; exact hcell0 j u hj) hcell (hvr.one h7)).mono fun e w' ⟨he,hw⟩=>?_)
    subst hw
    obtain ⟨μ',hd⟩:=fin ((C++D).toArray++Builtin.zeroCells (Value.slice none 0 0).cells (grownCap w (i+m) cap 24-(i+m))) w.drew (by simp only [UM,U5,SN,hCl,hDl,hzs]; omega) (fun j hj=>by
     rw [TP (by simp [hCl,hDl]; omega),hVat j hj]
     have e0:(C++D).toArray[j]? = (C++D)[j]?:=by simp
     rw [e0]
     by_cases q1:j<i
     ·rw [if_pos q1,S0 (by omega)]
     ·rw [if_neg q1,if_pos (by omega),Tn (by omega),hCl]) rfl Tp.draw rfl rfl
    exact ⟨_,he,μ',hd⟩
   ·refine tu hF ((Ins217.grow L.blk 0 n cap i L2.blk off2 m cap2 C D w (by omega) h2 (by omega) (by omega) (by omega) hCl hDl hcell0 hcell (hcs.one h8) (hvr.one h7)).mono fun e w' ⟨he,hw⟩=>?_)
    have e1:∀ A:Array Value,(((w.alloc (.cells A 24)).drew.setCells w.heap.size i D).drew).setCells w.heap.size (i+m) (C.drop i)=w.drew.drew.alloc (.cells (ri (ri A i D) (i+m) (C.drop i)) 24):=fun A=>by
     have a1:(w.alloc (.cells A 24)).drew=w.drew.alloc (.cells A 24):=rfl
     have a2:(w.drew.alloc (.cells A 24)).setCells w.heap.size i D=w.drew.alloc (.cells (ri A i D) 24):=lX w.drew 24 D i A
     have a3:(w.drew.alloc (.cells (ri A i D) 24)).drew=w.drew.drew.alloc (.cells (ri A i D) 24):=rfl
     rw [a1,a2,a3]
     exact lX w.drew.drew 24 (C.drop i) (i+m) (ri A i D)
    rw [e1] at hw
    subst hw
    obtain ⟨μ',hd⟩:=fin (ri (ri ((C.take i).toArray++Builtin.zeroCells (Value.slice none 0 0).cells (n+m-i)++Builtin.zeroCells (Value.slice none 0 0).cells (grownCap w (n+m) cap 24-(n+m))) i D) (i+m) (C.drop i)) w.drew.drew (by
      rw [iG,iG]
      simp only [UM,U5,SY,hCl,hzs]; omega) (fun j hj=>by
     have hA0:((C.take i).toArray++Builtin.zeroCells (Value.slice none 0 0).cells (n+m-i)++Builtin.zeroCells (Value.slice none 0 0).cells (grownCap w (n+m) cap 24-(n+m))).size=grownCap w (n+m) cap 24:=by
      simp only [UM,U5,SY,hCl,hzs]; omega
     rw [nr _ _ _ _ (by rw [iG,hA0]; omega),nr _ _ _ _ (by rw [hA0]; omega),hVat j hj,hDl,TN,hCl]
     by_cases q1:j<i
     ·rw [if_neg (by omega),if_neg (by omega),if_pos q1,TP (by simp only [UM,U5,SY,hCl,hzs]; omega),TP (by simp only [U5,SY,hCl]; omega)]
      simp [q1]
     ·by_cases q2:j<i+m
      ·rw [if_neg (by omega),if_pos (by omega),if_neg q1,if_pos q2]
      ·rw [if_pos (by omega),if_neg q1,if_neg q2,SU]
       congr 1; omega) rfl (Tp.draw.trans Tp.draw) rfl rfl
    exact ⟨_,he,μ',hd⟩
end Go.Proofs.YthjdfjlhjnihfaaGreat.Ev.Ok217
namespace Go.Proofs.YthjdfjlhjnihfaaGreat.Ev.So130
open Go Go.RowKit Go.Sort Go.Shelf Go.Lib Go.Proofs.YthjdfjlhjnihfaaGreat.Ev
set_option linter.all false
set_option maxRecDepth 100000
def Fu:Go.Shelf.Ren:=⟨fun | 6=>130 | 15=>172 | 14=>171 | 28=>207 | 29=>117 | 20=>199 | 21=>200 | 22=>201 | 23=>202 | 24=>203 | 25=>204 | 26=>205 | 27=>206 | 46=>222 | 47=>223 | 48=>224 | 49=>225 | 50=>226 | 57=>232 | n=>n,fun | 22=>125 | 24=>24 | 25=>113 | 3=>3 | 39=>180 | 0=>0 | 53=>252 | 55=>94 | 4=>4 | 46=>245 | 45=>244 | 50=>249 | 5=>5 | 9=>9 | 66=>268 | 70=>272 | 76=>276 | 77=>277 | n=>n,fun | n=>n⟩
theorem Lj:Go.Proofs.SlLaysF.n6 Tryz.prog Fu:={
 mixed:=by kernel_rfl
 f6:=⟨Tryz.f130.name,by decide,Tryz.func130.trans (congrArg some (by kernel_rfl))⟩
 f14:=⟨Tryz.f171.name,by decide,Tryz.func171.trans (congrArg some (by kernel_rfl))⟩
 f15:=Tryz.func172.trans (congrArg some (by kernel_rfl))
 f20:=⟨Tryz.f199.name,by decide,Tryz.func199.trans (congrArg some (by kernel_rfl))⟩
 f21:=⟨Tryz.f200.name,by decide,Tryz.func200.trans (congrArg some (by kernel_rfl))⟩
 f22:=⟨Tryz.f201.name,by decide,Tryz.func201.trans (congrArg some (by kernel_rfl))⟩
 f23:=⟨Tryz.f202.name,by decide,Tryz.func202.trans (congrArg some (by kernel_rfl))⟩
 f24:=⟨Tryz.f203.name,by decide,Tryz.func203.trans (congrArg some (by kernel_rfl))⟩
 f25:=⟨Tryz.f204.name,by decide,Tryz.func204.trans (congrArg some (by kernel_rfl))⟩
 f26:=⟨Tryz.f205.name,by decide,Tryz.func205.trans (congrArg some (by kernel_rfl))⟩
 f27:=⟨Tryz.f206.name,by decide,Tryz.func206.trans (congrArg some (by kernel_rfl))⟩
 f28:=Tryz.func207.trans (congrArg some (by kernel_rfl))
 f29:=Tryz.func117.trans (congrArg some (by kernel_rfl))
 f46:=⟨Tryz.f222.name,by decide,Tryz.func222.trans (congrArg some (by kernel_rfl))⟩
 f47:=Tryz.func223.trans (congrArg some (by kernel_rfl))
 f48:=Tryz.func224.trans (congrArg some (by kernel_rfl))
 f49:=⟨Tryz.f225.name,by decide,Tryz.func225.trans (congrArg some (by kernel_rfl))⟩
 f50:=⟨Tryz.f226.name,by decide,Tryz.func226.trans (congrArg some (by kernel_rfl))⟩
 f57:=⟨Tryz.f232.name,by decide,Tryz.func232.trans (congrArg some (by kernel_rfl))⟩
 t0:=Tryz.underlying0
 a0:=Tryz.isAgg0
 z0:=Tryz.sizeOf0
 v0:=Tryz.zeroValue0
 t3:=Tryz.underlying3
 a3:=Tryz.isAgg3
 z3:=Tryz.sizeOf3
 v3:=Tryz.zeroValue3
 t4:=Tryz.underlying4
 a4:=Tryz.isAgg4
 z4:=Tryz.sizeOf4
 v4:=Tryz.zeroValue4
 t5:=Tryz.underlying5
 a5:=Tryz.isAgg5
 z5:=Tryz.sizeOf5
 v5:=Tryz.zeroValue5
 t9:=Tryz.underlying9
 a9:=Tryz.isAgg9
 z9:=Tryz.sizeOf9
 v9:=Tryz.zeroValue9
 t22:=Tryz.underlying125
 a22:=Tryz.isAgg125
 z22:=Tryz.sizeOf125
 v22:=Tryz.zeroValue125
 a24:=Tryz.isAgg24
 z24:=Tryz.sizeOf24
 t25:=Tryz.underlying113
 a25:=Tryz.isAgg113
 z25:=Tryz.sizeOf113
 v25:=Tryz.zeroValue113
 t39:=Tryz.underlying180
 a39:=Tryz.isAgg180
 z39:=Tryz.sizeOf180
 v39:=Tryz.zeroValue180
 t45:=Tryz.underlying244
 a45:=Tryz.isAgg244
 z45:=Tryz.sizeOf244
 v45:=Tryz.zeroValue244
 t46:=Tryz.underlying245
 a46:=Tryz.isAgg245
 z46:=Tryz.sizeOf245
 v46:=Tryz.zeroValue245
 t50:=Tryz.underlying249
 a50:=Tryz.isAgg249
 z50:=Tryz.sizeOf249
 v50:=Tryz.zeroValue249
 t53:=Tryz.underlying252
 a53:=Tryz.isAgg252
 z53:=Tryz.sizeOf252
 v53:=Tryz.zeroValue252
 t55:=Tryz.underlying94
 a55:=Tryz.isAgg94
 z55:=Tryz.sizeOf94
 v55:=Tryz.zeroValue94
 t66:=Tryz.underlying268
 a66:=Tryz.isAgg268
 z66:=Tryz.sizeOf268
 v66:=Tryz.zeroValue268
 t70:=Tryz.underlying272
 a70:=Tryz.isAgg272
 z70:=Tryz.sizeOf272
 v70:=Tryz.zeroValue272
 t76:=Tryz.underlying276
 a76:=Tryz.isAgg276
 z76:=Tryz.sizeOf276
 v76:=Tryz.zeroValue276
 t77:=Tryz.underlying277
 a77:=Tryz.isAgg277
 z77:=Tryz.sizeOf277
 v77:=Tryz.zeroValue277 }
theorem PS:GJ Tryz.prog 130 [131]:=by
 refine ⟨⟨Tryz.f130,Tryz.func130,by kernel_rfl,by decide +kernel⟩,trivial,?_,?_,?_⟩
 ·intro g hg args w
  simp only [SX,List.not_mem_nil,or_false] at hg
  subst hg
  exact enters_of Tryz.func131 (by kernel_rfl) rfl args w
 ·intro p cap fv w
  exact AnyF.slices_SortFunc_none { Lj with } p cap fv w
 ·intro k enc cf g cb blk cap w hg h1 hO hT hcmp hH hblk hsz
  have eg:∀ args w,(callFunc g args).run Tryz.prog w=.ok (.enter g args) w:=by
   intro args w
   simp only [SX,List.not_mem_nil,or_false] at hg
   subst hg
   exact enters_of Tryz.func131 (by kernel_rfl) rfl args w
  have hs:(List.finRange (k+1)).toArray.size=k+1:=by simp
  have h:=Any.slices_SortFunc_total Lj enc h1 cf hO g cb blk 0 cap (List.finRange (k+1)).toArray w eg (by rw [hs]; exact hcmp) hH hblk (by rw [hs]; exact hsz) hT
  rw [hs] at h
  change Calls Tryz.prog 130 _ _ _ at h
  exact h
theorem extOK:ExtOK Tryz.prog 130 (.sortF 24 [131]):=PS
end Go.Proofs.YthjdfjlhjnihfaaGreat.Ev.So130
namespace Go.Proofs.YthjdfjlhjnihfaaGreat.Ev
open Go
set_option maxRecDepth 1000000
set_option maxHeartbeats 8000000
set_option linter.all false
def look:List (Nat × aw)->Nat->Option aw
 | [],_=>none
 | p :: r,f=>if f=p.1 then some p.2 else look r f
theorem DN:∀ {L:List (Nat × aw)} {f:Nat} {a:aw},look L f=some a->(f,a)∈L
 | p :: r,f,a,h=>by
  unfold look at h
  split at h
  ·rename_i e; cases h; subst e; exact SK ..
  ·exact SE _ (DN h)
theorem aq {f:Nat} {fn:Func} {a:aw} (hf:Tryz.prog.funcs[f]? = some fn) (hc:Qw Tryz.prog fn=some a:=by kernel_rfl) (he:a.ext.isNone=true:=by rfl):E5 Tryz.prog f a:=Le hf hc he
abbrev Rw (l:List (Nat × aw)):Prop:=∀ p∈l,E5 Tryz.prog p.1 p.2
theorem Lt:Rw []:=fun p hp=>by cases hp
theorem bi {f:Nat} {a:aw} {l:List (Nat × aw)} (h:E5 Tryz.prog f a) (hl:Rw l):Rw ((f,a) :: l):=List.forall_mem_cons.2 ⟨h,hl⟩
def R8:List (Nat × aw):=[(dH,c_facetroomlaw22_PolyEases),(fy,jf),(fT,jx),(pD,wW),(uL,Bj),(fO,js),(eN,il),(gu,ka),(pB,wU),(pC,wV),(pE,wX),(oh,tZ),(hZ,kz),(dG,gJ),(nw,Br),(fw,je),(oi,ui),(cL,dW),(bV,dj),(mc,wT)]
def R7:List (Nat × aw):=[(lz,qi),(nZ,tY),(gO,tX),(fP,jt),(yG,EJ),(cE,dQ),(pL,xh),(cF,dR),(rW,zw),(fu,jd),(fC,jh),(eP,rI),(jZ,xf),(mX,c_dual_points),(pJ,xg),(fq,i9),(pM,xl),(cd,dt),(cg,du),(ly,qh)]
def R6:List (Nat × aw):=[(pA,wS),(d9,gU),(dZ,gT),(bQ,eH),(fz,jg),(eO,rH),(lA,zJ),(pK,c_dual_cons),(bR,eI),(yI,EL),(nT,tO),(eB,gY),(bO,cU),(eA,gX),(pI,xe),(pO,c_cone_Gens),(bM,cS),(jJ,nF),(ot,ul),(ft,jc)]
def R5:List (Nat × aw):=[(gy,qm),(gw,qk),(aT,bB),(aS,bA),(cC,dM),(rZ,zB),(qL,Bh),(nU,tP),(fQ,ju),(eh,gW),(bN,cT),(ee,gV),(rY,zz),(oj,zA),(l9,wR),(lB,c_cone_checked),(pN,xo),(sr,zY),(cV,c_P_cone_under_add),(lx,qg)]
def R4:List (Nat × aw):=[(mR,rC),(dw,dx),(iV,qp),(b9,dl),(dF,gI),(mf,xc),(iS,mw),(mL,rv),(mJ,ru),(uI,Bf),(jS,rt),(nS,tN),(fR,jv),(ca,dr),(bc,bW),(iP,tQ),(cy,fJ),(lu,qe),(kE,tW),(fV,jA)]
def R3:List (Nat × aw):=[(iz,c_P_cone_under_cut),(h9,c_P_cone_under_fold),(mP,rA),(iy,lW),(rX,zy),(uK,Bi),(pu,wM),(px,wO),(fS,jw),(de,fk),(oB,zR),(j8,xm),(eY,kC),(mg,xn),(oz,zN),(oA,zP),(l8,wP),(cK,dV),(cD,dO),(fX,c_P_rows_form_put)]
def RZ:List (Nat × aw):=[(py,wQ),(nY,tV),(lv,qf),(nV,zx),(mM,rx),(aX,bS),(nX,tU),(kr,oW),(uP,Bo),(pp,wJ),(pz,c_sat_Signs),(sq,zQ),(pt,wL),(uJ,Bg),(lp,qa),(mQ,rB),(cB,dL),(mN,ry),(lq,qc),(mO,rz)]
def RY:List (Nat × aw):=[(cw,fl),(pw,wN),(g9,ky),(mU,rE),(uN,Bm),(uM,Bk),(nW,tT),(uQ,Bp),(mI,rr),(fd,nE),(pq,wK),(oo,uk),(pH,xd),(uO,Bn),(se,zI),(yJ,EM),(mS,rD),(ol,uj),(iU,mz),(iQ,mp)]
def RX:List (Nat × aw):=[(mV,rF),(uR,Bs),(jI,nD),(iR,mr),(r9,zH),(pF,wY),(mY,rJ),(sj,zM),(dE,gH),(yH,EK),(fU,jy),(gA,kb),(gB,ke),(sf,zL),(r8,zC),(gt,qj),(cO,eJ),(iT,my),(pG,wZ),(aY,dB)]
theorem Sn:Rw R8:=bi (aq Tryz.func4)<|bi (aq Tryz.func6)<|bi (aq Tryz.func7)<|bi (aq Tryz.func16)<|bi (aq Tryz.func12)<|bi (aq Tryz.func14)<|bi (aq Tryz.func24)<|bi (aq Tryz.func25)<|bi (aq Tryz.func10)<|bi (aq Tryz.func26)<|bi (aq Tryz.func27)<|bi (aq Tryz.func28)<|bi (aq Tryz.func29)<|bi (aq Tryz.func8)<|bi (aq Tryz.func30)<|bi (aq Tryz.func31)<|bi (aq Tryz.func33)<|bi (aq Tryz.func34)<|bi (aq Tryz.func43)<|bi (aq Tryz.func44)<|Lt
theorem Sl:Rw R7:=bi (aq Tryz.func36)<|bi (aq Tryz.func37)<|bi (aq Tryz.func38)<|bi (aq Tryz.func41)<|bi (aq Tryz.func58)<|bi (aq Tryz.func60)<|bi (aq Tryz.func59)<|bi (aq Tryz.func61)<|bi (aq Tryz.func62)<|bi (aq Tryz.func32)<|bi (aq Tryz.func63)<|bi (aq Tryz.func64)<|bi (aq Tryz.func65)<|bi (aq Tryz.func67)<|bi (aq Tryz.func66)<|bi (aq Tryz.func11)<|bi (aq Tryz.func68)<|bi (aq Tryz.func78)<|bi (aq Tryz.func79)<|bi (aq Tryz.func80)<|Lt
theorem Sk:Rw R6:=bi (aq Tryz.func69)<|bi (aq Tryz.func72)<|bi (aq Tryz.func73)<|bi (aq Tryz.func92)<|bi (aq Tryz.func74)<|bi (aq Tryz.func75)<|bi (aq Tryz.func76)<|bi (aq Tryz.func77)<|bi (aq Tryz.func93)<|bi (aq Tryz.func94)<|bi (aq Tryz.func88)<|bi (aq Tryz.func96)<|bi (aq Tryz.func95)<|bi (aq Tryz.func97)<|bi (aq Tryz.func98)<|bi (aq Tryz.func99)<|bi (aq Tryz.func100)<|bi (aq Tryz.func101)<|bi (aq Tryz.func102)<|bi (aq Tryz.func35)<|Lt
theorem Sj:Rw R5:=bi (aq Tryz.func103)<|bi (aq Tryz.func105)<|bi (aq Tryz.func106)<|bi (aq Tryz.func107)<|bi (aq Tryz.func116)<|bi (aq Tryz.func81)<|bi (aq Tryz.func18)<|bi (aq Tryz.func83)<|bi (aq Tryz.func112)<|bi (aq Tryz.func114)<|bi (aq Tryz.func113)<|bi (aq Tryz.func115)<|bi (aq Tryz.func104)<|bi (aq Tryz.func123)<|bi (aq Tryz.func45)<|bi (aq Tryz.func124)<|bi (aq Tryz.func125)<|bi (aq Tryz.func126)<|bi (aq Tryz.func127)<|bi (aq Tryz.func128)<|Lt
theorem Si:Rw R4:=bi (aq Tryz.func129)<|bi (qE rfl rfl So130.extOK)<|bi (aq Tryz.func131)<|bi (aq Tryz.func133)<|bi (aq Tryz.func9)<|bi (aq Tryz.func91)<|bi (aq Tryz.func117)<|bi (aq Tryz.func47)<|bi (aq Tryz.func49)<|bi (aq Tryz.func48)<|bi (aq Tryz.func54)<|bi (aq Tryz.func90)<|bi (aq Tryz.func143)<|bi (aq Tryz.func144)<|bi (aq Tryz.func134)<|bi (aq Tryz.func21)<|bi (aq Tryz.func161)<|bi (aq Tryz.func82)<|bi (aq Tryz.func162)<|bi (aq Tryz.func163)<|Lt
theorem Sh:Rw R3:=bi (aq Tryz.func166)<|bi (aq Tryz.func167)<|bi (aq Tryz.func168)<|bi (aq Tryz.func170)<|bi (aq Tryz.func169)<|bi (aq Tryz.func132)<|bi (aq Tryz.func85)<|bi (aq Tryz.func84)<|bi (aq Tryz.func175)<|bi (aq Tryz.func51)<|bi (aq Tryz.func165)<|bi (aq Tryz.func164)<|bi (aq Tryz.func186)<|bi (aq Tryz.func187)<|bi (aq Tryz.func189)<|bi (aq Tryz.func188)<|bi (aq Tryz.func190)<|bi (aq Tryz.func192)<|bi (aq Tryz.func191)<|bi (aq Tryz.func193)<|Lt
theorem Sg:Rw RZ:=bi (aq Tryz.func196)<|bi (aq Tryz.func198)<|bi (aq Tryz.func197)<|bi (aq Tryz.func194)<|bi (aq Tryz.func195)<|bi (aq Tryz.func173)<|bi (aq Tryz.func174)<|bi (aq Tryz.func118)<|bi (aq Tryz.func119)<|bi (aq Tryz.func87)<|bi (aq Tryz.func211)<|bi (aq Tryz.func212)<|bi (aq Tryz.func214)<|bi (aq Tryz.func213)<|bi (aq Tryz.func215)<|bi (aq Tryz.func216)<|bi (qE rfl rfl Ok217.extOK_insert)<|bi (aq Tryz.func218)<|bi (aq Tryz.func219)<|bi (aq Tryz.func221)<|Lt
theorem Sf:Rw RY:=bi (aq Tryz.func149)<|bi (aq Tryz.func53)<|bi (aq Tryz.func146)<|bi (aq Tryz.func145)<|bi (aq Tryz.func121)<|bi (aq Tryz.func122)<|bi (aq Tryz.func227)<|bi (aq Tryz.func230)<|bi (aq Tryz.func220)<|bi (aq Tryz.func231)<|bi (aq Tryz.func89)<|bi (aq Tryz.func176)<|bi (aq Tryz.func177)<|bi (aq Tryz.func179)<|bi (aq Tryz.func178)<|bi (aq Tryz.func180)<|bi (aq Tryz.func157)<|bi (aq Tryz.func158)<|bi (qE rfl rfl (Ei Tryz.func159 (by kernel_rfl) (by kernel_rfl) (by kernel_rfl) (by kernel_rfl)))<|bi (qE rfl rfl (Eh Tryz.func160 (by kernel_rfl) (by kernel_rfl) (by kernel_rfl) (by kernel_rfl)))<|Lt
theorem Se:Rw RX:=bi (aq Tryz.func234)<|bi (aq Tryz.func120)<|bi (aq Tryz.func86)<|bi (aq Tryz.func184)<|bi (aq Tryz.func208)<|bi (aq Tryz.func185)<|bi (aq Tryz.func147)<|bi (aq Tryz.func148)<|bi (aq Tryz.func150)<|bi (aq Tryz.func151)<|bi (aq Tryz.func152)<|bi (aq Tryz.func153)<|bi (aq Tryz.func154)<|bi (aq Tryz.func156)<|bi (aq Tryz.func155)<|bi (aq Tryz.func210)<|bi (aq Tryz.func181)<|bi (aq Tryz.func182)<|bi (aq Tryz.func183)<|bi (aq Tryz.func209)<|Lt
def PQ:List (Nat × aw):=R8++R7++R6++R5++R4++R3++RZ++RY++RX
theorem OV {l m:List (Nat × aw)} (h:Rw l) (h2:Rw m):Rw (l++m):=fun p hp=>(SQ.1 hp).elim (h p) (h2 p)
theorem NM:Rw PQ:=(OV (OV (OV (OV (OV (OV (OV (OV Sn Sl) Sk) Sj) Si) Sh) Sg) Sf) Se)
theorem tabOK:Id Tryz.prog (look PQ):=fun _ _ h=>NM _ (DN h)
theorem code:Code (look PQ):=by constructor <;> kernel_rfl
end Go.Proofs.YthjdfjlhjnihfaaGreat.Ev
