/- A part. -/
import Derived.Test.YtichbdepocojaaaGreatN33
import Derived.Test.YtichbdepocojaaaGreatEch
import Derived.ChangeArms
import Derived.DataReads
import Derived.Test.YtichbdepocojaaaGreatEvDraw5
import Derived.KernelRfl
import Derived.WalkKit
import Derived.ProofKit
import Derived.Test.YtichbdepocojaaaGreatProg
import Derived.Lib.Walk
import Derived.Lib.SliceRun
import Derived.Lib.JoinLaws
import Derived.Lib.AppendZeros
import Derived.Lib.AppendZerosOnto
import Derived.Lib.Overlaps
import Derived.Laws.Externs
import Derived.Laws.IdiomCopy
import Derived.Laws.NewBlocks
import Derived.Shelf.RegionOpenPlain
namespace Go.Proofs.YtichbdepocojaaaGreat.Ev
open Go Nn
set_option linter.all false
theorem Frm.wr {H0 H H':Heap} {v w:AV} {l m:List (List Int)} {c:Nat} (hf:Frm v H H') (h:Bl rowsE ae H0 H v l) (hw:Wr H0 H w m c) (hs:Sep v w):Wr H0 H' w m c:=by
 rcases hw with hw | ⟨b,cells,h1,h2,h3,h4,h5,h6⟩
 ·exact .inl hw
 ·exact .inr ⟨b,cells,h1,hf b _ h2 (fun e=>hs b e (by rw [h1]; rfl)),h3,h4,h5.mono (hf.subT h (by decide)),h6⟩
theorem A2 {α:Type} (p:α->Bool) (l:List α):(mQ p l<0/\l.findIdx? p=none)\/∃ i:Nat,mQ p l=(i:Int)/\l.findIdx? p=some i:=by
 unfold mQ
 cases h:l.findIdx? p with
 | none=>exact .inl ⟨by simp,rfl⟩
 | some i=>exact .inr ⟨i,rfl,rfl⟩
section
variable {tab:Nat->Option au} {H:Heap} {s:AV}
theorem zy (C:Code tab) (hw:Wf H) {w va:AV} {r a:List Int} {bx e f:Nat} (hr:RowV H w r) (hb:H.get bx=some (.cells [va] ae true)) (ha:RowV H va a) (hra:a.length=r.length) (h64:a.length<=64) (hae:∀ z∈a,Bt e z) (hrf:∀ z∈r,Bt f z) (hbt:e+f+7<=8796093022208) :
  Ans tab (.fn dy [w,.ptr bx 0]) H fun v H'=>v=.bool (!decide (Lin.dot a r=0))/\Kp H H':=by
 refine cL C.P_cone_under_add_f1 (by decide) fun T hl g0 g1=>?_
 refine zW (aX hl g0 g1 hb) ?_
 refine AnsH.use (cone_dot C zF (ha.mono (Kp.sub (H:=H) zK)) (hr.mono (Kp.sub (H:=H) zK)) hra h64 hae hrf hbt) ?_
 rintro v H2 ⟨hr2,hk2⟩
 obtain ⟨k2,_,w2⟩:=zT H zK hk2
 refine zW (aL hl g0 g1) ?_
 refine AnsH.eq (cone_sign C (z:=Lin.dot a r) zF (hr2.mono (Kp.sub (H:=H2) zK)) ((nH hae hrf hra h64).sm hbt)) fun H3 hk3=>?_
 have k3:Kp H H3:=Kp.trans k2 (Kp.trans zK hk3)
 have le_k3:=k3.le
 refine zW (aL hl g0 g1) ?_
 refine ⟨?_,zK⟩
 congr 1
 rw [Bool.eq_iff_iff]
 simp [ly]
theorem zz (C:Code tab) {H0:Heap} {ub:Nat} {u:Lin.Under} {va:AV} {a:List Int} {eq:Bool} {d e f:Nat} (hk:Kp H0 H) (hub0:H0.next<=ub) (hu:UnderV H0 H ub u) (ha:RowV H0 va a) (hd0:0<d) (hd:d<=64) (hal:a.length=d) (hL:∀ r∈u.lines,r.length=d/\∀ z∈r,Bt f z) (hR:∀ r∈u.rays,r.length=d/\∀ z∈r,Bt f z) (hD:∀ r∈u.done,r.length=d/\∀ z∈r,Bt e z) (hD1:u.done.length<=1024) (hae:∀ z∈a,Bt e z) (hb:2*(e+f+7)+2*f+1<=8796093022208) (hbigL:u.lines.length<=1048576) (hbig:u.rays.length<=1048576) :
  Ans tab (.fn ck [.ptr ub 0,va,.bool eq]) H fun v H'=>v=.tup []/\Kp H0 H'/\UnderV H0 H' ub (Lin.addU a eq u):=by
 have hw:=hk.wf
 have hle:=hk.le
 have oa:=ha.one
 have haH:=ha.mono hk.sub
 have hu0:=hu
 obtain ⟨ql,qr,qd,cl,hub,hql,hqr,hqd,s1,s2,s3⟩:=hu
 have lub:=hw _ _ hub
 refine Bv C.P_cone_under_add rfl rfl (by decide) fun T hl g=>?_
 have hl:T.length=48:=hl
 have hrs:c_P_cone_under_add.results=[]:=rfl
 have g0:af T 0=.ptr ub 0:=g 0 (by simp)
 have g1:af T 1=va:=g 1 (by simp)
 have g2:af T 2=.bool eq:=g 2 (by simp)
 refine dq ?_
 refine zW (dG hl g0 g1 g2 @br) ?_
 refine dq ?_
 refine zW (iC hl g0 g1 g2 @br hub) ?_
 refine AnsH.eq (vw C (l:=u.lines) zF (hql.sl.mono (Kp.sub (H:=H) zK)) (by omega) (fun r=>!decide (Lin.dot a r=0)) (fun r hr H' w hk' hw'=>zy C hk'.wf hw' (hk'.get (eG)) (haH.mono (Kp.sub (H:=H) (Kp.trans zK hk'))) (by rw [hal]; exact (hL r hr).1.symm) (by omega) hae (hL r hr).2 (by omega))) fun H2 hk2=>?_
 obtain ⟨k2,_,w2⟩:=zT H zK hk2
 have hbx:H2.get H.next=some (.cells [va] ae true):=hk2.get (eG)
 have hub2:=k2.get hub
 have n2:H.next+8<=H2.next:=hk2.le
 have k02:Kp H0 H2:=hk.trans k2
 have le_k02:=k02.le
 have hu2:UnderV H0 H2 ub u:=hu0.mono k2.sub
 refine zW (dG hl g0 g1 g2 @br) ?_
 refine gC (fun T' H'=>Kp H0 H'/\UnderV H0 H' ub ⟨(Lin.addU a eq u).lines,(Lin.addU a eq u).rays,u.done⟩/\H'.get H.next=some (.cells [va] ae true)) rfl ?_ ?_
 ·rcases A2 (fun r=>!decide (Lin.dot a r=0)) u.lines with ⟨hneg,hf⟩ | ⟨i,hi,hf⟩
  ·refine zW (iC hl g0 g1 g2 hneg hbx) ?_
   refine AnsH.use (Gy C (u:=u) (H0:=H0) zK hub0 (hu2.mono (Sub.bump H2 _)) (haH.mono (Kp.sub (H:=H) zK)) hd0 hd hal hR hD hD1 hae hb hbig) ?_
   rintro v H3 ⟨rfl,hk3,hu3,ho3⟩
   refine zW (aE hl @bG) ?_
   refine ⟨zK,?_,ho3 _ _ hbx (by omega)⟩
   have e:Lin.addU a eq u=⟨u.lines,Lin.cutL u.done a eq u.rays,u.done++if eq then [] else [a]⟩:=by unfold Lin.addU; rw [hf]
   rw [e]
   exact hu3
  ·obtain ⟨hil,-,-⟩:=List.findIdx?_eq_some_iff_getElem.1 hf
   have hnn:¬ ((i:Int)<0):=by omega
   have gi:u.lines.getD i []=u.lines[i]:=by simp [hil]
   refine zW (l5 hl g0 g1 g2 hi hnn hbx) ?_
   refine AnsH.use (DZ C (u:=u) (H0:=H0) (k02.up _) hub0 (hu2.mono (Sub.bump H2 _)) (haH.mono (Kp.sub (k2.up _))) hil hd hal hL hR hae hb (by omega) (by omega)) ?_
   rintro v H3 ⟨hk3,hrv,hu3,ho3,hq3⟩
   have w3:=hk3.wf
   have le_hk3:=hk3.le
   have orv:=hrv.one
   have hbx3:H3.get H.next=some (.cells [va] ae true):=ho3 _ _ hbx (by omega) fun q1 q2 q3 h=>by
    have h':H2.get ub=some (.cells [q1,q2,q3] aF true):=h
    rw [hub2] at h'
    cases h'
    intro hq
    have:=hqr.old hw hq
    omega
   have e:Lin.addU a eq u=⟨(u.lines.eraseIdx i).map (Lin.foldV a (Lin.upV a u.lines[i])),u.rays.map (Lin.foldV a (Lin.upV a u.lines[i]))++(if eq then [] else [Lin.upV a u.lines[i]]),u.done++if eq then [] else [a]⟩:=by
    unfold Lin.addU; rw [hf]; simp only [gi]
   rw [e]
   cases eq with
   | true =>
    refine zW (dG hl g0 g1 g2 @bG) ?_
    refine ⟨zK,?_,hbx3⟩
    try simp only [if_true,List.append_nil]
    exact hu3.mono (Sub.bump H3 2)
   | false =>
    obtain ⟨q1',hq1⟩:=hq3 ql qr qd hub2
    obtain ⟨ql3,qr3,qd3,cl3,hub3,hql3,hqr3,hqd3,t1,t2,t3⟩:=hu3
    have hub3':H3.get ub=some (.cells [ql3,qr3,qd3] aF true):=hub3
    rw [hq1] at hub3'
    cases hub3'
    have lub3:=w3 _ _ hub3
    have lbx3:=w3 _ _ hbx3
    have hqr3:Wr H0 H3 qr (u.rays.map (Lin.foldV a (Lin.upV a u.lines[i]))) (u.rays.map (Lin.foldV a (Lin.upV a u.lines[i]))).length:=hqr3
    have hrl:(u.rays.map (Lin.foldV a (Lin.upV a u.lines[i]))).length=u.rays.length:=by simp
    obtain ⟨n6,H6,e6,b6,k6,nx6,f6,u6⟩:=Bl.push1 (ty2:=ae) (bytes:=24) (id:=H3.next+9) (id2:=H3.next+8) (k:=13) (cs:=[v]) (a:=Lin.upV a u.lines[i]) hqr3.bl (by decide) hk3 ⟨v,rfl,hrv⟩ (by omega) (by omega) (by omega) (by omega) (by omega) (by omega) (by omega)
    have e6':fG ((H3.up 13).put (H3.next+8) (.cells [v] ae true)) (H3.next+9) 1 24 ae qr (.own (H3.next+8) 0 1 1 1 true)=some (.own (H3.next+9) 0 n6 n6 1 false,H6):=e6
    have hub6:=f6.other hqr3.bl hub3 (fun cs h=>by injection h with _ h2; exact absurd h2 (by decide))
    have lub6:=k6.wf _ _ hub6
    have w6:=k6.wf
    have hst:BL (some (.cells [q1',qr,qd] aF true)) 1 1 (.own (H3.next+9) 0 n6 n6 1 false)=some (.cells [q1',.own (H3.next+9) 0 n6 n6 1 false,qd] aF true):=lv (bN _ _ _ _ _ _).fits (by simp)
    refine zW (nZ hl g0 g1 g2 hub3 e6' hub6 hst @bG) ?_
    refine ⟨zK,⟨q1',.own (H3.next+9) 0 n6 n6 1 false,qd,cl3,aK _ _ _,(f6.wr hqr3.bl hql3 t1.symm).putT hub6 (by decide) (by decide),?_,(f6.wr hqr3.bl hqd3 t3).putT hub6 (by decide) (by decide),fun x hx hy=>?_,t2,fun x hx hy=>?_⟩,?_⟩
    ·simp only [Bool.false_eq_true,if_false]
     exact b6.wr.putT (e:=.cells [q1',.own (H3.next+9) 0 n6 n6 1 false,qd] aF true) hub6 (by decide) (by decide)
    ·cases hy
     have:=hql3.old w3 hx
     omega
    ·cases hx
     have:=hqd3.old w3 hy
     omega
    ·try rw [aw (by omega)]
     refine f6 _ _ hbx3 fun h=>?_
     have:=hqr.old hw h
     omega
 ·rintro T1 H1 hs1 ⟨k1,hu1,hbx1⟩
  have w1:=k1.wf
  have t0:af T1 0=.ptr ub 0:=(hs1.at_ 0 (by decide)).trans (zV (aE hl g0))
  have t2:af T1 2=.bool eq:=(hs1.at_ 2 (by decide)).trans (zV (aE hl g2))
  have t4:af T1 4=.ptr H.next 0:=(hs1.at_ 4 (by decide)).trans (zV hl)
  have hl1:T1.length=48:=hs1.len.trans (by simp only [List.length_set]; exact hl)
  have e:Lin.addU a eq u=⟨(Lin.addU a eq u).lines,(Lin.addU a eq u).rays,u.done++if eq then [] else [a]⟩:=by
   unfold Lin.addU; split <;> rfl
  rw [e]
  refine WC.wb ?_
  cases eq with
  | true =>
   refine zW (aL hl1 t2 hrs) ?_
   refine ⟨zK,?_⟩
   try simp only [if_true,List.append_nil]
   exact hu1.mono (Sub.bump H1 2)
  | false =>
   obtain ⟨ql3,qr3,qd3,cl3,hub3,hql3,hqr3,hqd3,s1',s2',s3'⟩:=hu1
   have lub3:=w1 _ _ hub3
   obtain ⟨n6,H6,e6,b6,k6,nx6,f6,u6⟩:=Bl.push1 (ty2:=ae) (bytes:=24) (id:=H1.next+9) (id2:=H1.next+8) (k:=13) (cs:=[va]) (a:=a) hqd3.bl (by decide) k1 ⟨va,rfl,ha.mono k1.sub⟩ (by omega) (by omega) (by omega) (by omega) (by omega) (by simp only; omega) (by simp only; omega)
   have e6':fG ((H1.up 13).put (H1.next+8) (.cells [va] ae true)) (H1.next+9) 1 24 ae qd3 (.own (H1.next+8) 0 1 1 1 true)=some (.own (H1.next+9) 0 n6 n6 1 false,H6):=e6
   have hub6:=f6.other hqd3.bl hub3 (fun cs h=>by injection h with _ h2; exact absurd h2 (by decide))
   have lub6:=k6.wf _ _ hub6
   have w6:=k6.wf
   refine zW (aE hl1 t2) ?_
   refine aW ?_
   have hst:BL (some (.cells [ql3,qr3,qd3] aF true)) 1 2 (.own (H1.next+9) 0 n6 n6 1 false)=some (.cells [ql3,qr3,.own (H1.next+9) 0 n6 n6 1 false] aF true):=lv (bN _ _ _ _ _ _).fits (Nat.le_refl 3)
   refine zD (pK hl1 t0 t4 hub3 hbx1 e6' hub6 hst @bL hrs) ?_
   refine ⟨zK,⟨ql3,qr3,.own (H1.next+9) 0 n6 n6 1 false,cl3,aK _ _ _,(f6.wr hqd3.bl hql3 s2'.symm).putT hub6 (by decide) (by decide),(f6.wr hqd3.bl hqr3 s3'.symm).putT hub6 (by decide) (by decide),?_,s1',fun x hx hy=>?_,fun x hx hy=>?_⟩⟩
   ·simp only [Bool.false_eq_true,if_false]
    exact b6.wr.putT (e:=.cells [ql3,qr3,.own (H1.next+9) 0 n6 n6 1 false] aF true) hub6 (by decide) (by decide)
   ·cases hy
    have:=hql3.old w1 hx
    omega
   ·cases hy
    have:=hqr3.old w1 hx
    omega
end
section
variable {tab:Nat->Option au} {H:Heap} {s:AV}
theorem cone_all (C:Code tab) (hw:Wf H) {d:Nat} (hd:d<=64):Ans tab (.fn mp [.int .i64 (d:Int)]) H fun v H'=>Bl rowsE ae H H' v (Lin.startU d).lines/\Kp H H':=by
 refine dZ C.cone_all (by decide) fun T hl g0=>?_
 refine zW (aE hl g0) ?_
 refine am H [2] (fun j vs H'=>∃ o,vs=[o]/\Bl rowsE ae H H' o ((List.range j).map (Lin.unitV d))) (a:=0) (N:=d) rfl (by refine zW (aE hl g0) ?_; rfl) (zV (aE hl g0)) (Nat.zero_le _) (by omega) (by simp only [List.length_set,hl]; rfl) rfl (fun j vs H' m ⟨o,h1,h2⟩=>⟨o,h1,h2.mono (Sub.bump H' m)⟩) zK ⟨.nilSl,by exact zV (aE hl g0),Bl.nil⟩ ?_ ?_
 ·rintro j T1 H1 _ hj hl1 hi1 hs1 hk1 ⟨o,hv,ho⟩
  have w1:=hk1.wf
  have le_hk1:=hk1.le
  have le1:=hk1.le
  simp only [List.map_cons,List.map_nil,List.cons.injEq,and_true] at hv
  have t0:af T1 0=.int .i64 (d:Int):=(hs1.at_ 0 (by decide)).trans (zV (aE hl g0))
  simp only [List.length_set,hl] at hl1
  obtain ⟨cells,hcells⟩:∃ cells,cells=(List.replicate d [AV.bool false,AV.nilSl]).flatten:=⟨_,rfl⟩
  have hmk:∀ H':Heap,Er H' (H1.next+3) aa 2 32 [.bool false,.nilSl] (.int .i64 (d:Int)) (.int .i64 (d:Int))=some (.own (H1.next+3) 0 d d 2 true,H'.put (H1.next+3) (.cells cells aa true)):=fun H'=>by rw [hcells]; exact jy _ _ _ _ _ _ _ _ _ (by omega) (by omega) rfl
  refine zW (aX hl1 t0 hi1 hmk) ?_
  refine AnsH.use (whole_Of C (n:=1) zF (by omega) (by omega)) ?_
  rintro v H2 ⟨⟨w,rfl,hn⟩,hk2⟩
  obtain ⟨k2,_,w2⟩:=zT H1 zK hk2
  have ow:=hn.one
  have hb2:=hk2.get (b:=H1.next+3) (e:=.cells cells aa true) (eG)
  have lt2:=w2 _ _ hb2
  have hclen:cells.length=d*2:=by rw [hcells]; simp
  have hst:BL (some (.cells cells aa true)) 2 (0+j*2) (.agg [.bool false,w])=some (.cells (cells.take (0+j*2)++[.bool false,w]++cells.drop (0+j*2+2)) aa true):=lv (Gm (aT _) ow) (by omega)
  have hio:fD 2 (.own (H1.next+3) 0 d d 2 true) (.int .i64 (j:Int))=some (.ptr (H1.next+3) (0+j*2)):=oC hj
  rw [Nat.zero_add] at hst hio
  obtain ⟨cells2,hc2⟩:∃ c,c=cells.take (j*2)++[.bool false,w]++cells.drop (j*2+2):=⟨_,rfl⟩
  rw [<- hc2] at hst
  have hz:intE.R H2 [.bool false,.nilSl] 0:=⟨.nilSl,by simp,gn H2⟩
  have hcl:Cells intE H2 cells (List.replicate d 0):=by rw [hcells]; exact qT hz _
  have hcl2:Cells intE H2 cells2 ((List.replicate d 0).set j 1):=by rw [hc2]; exact hcl.set (i:=j) (by simpa using hj) ⟨w,rfl,hn⟩
  have m3:NoTy [ad] H2 (H1.next+3):=NoTy.ty hb2 (by decide)
  obtain ⟨Hx,hHx⟩:∃ Hx,Hx=H2.put (H1.next+3) (.cells cells2 aa true):=⟨_,rfl⟩
  have kx:Kp H1 Hx:=by rw [hHx]; exact zK
  have k0x:Kp H Hx:=hk1.trans kx
  have nx:Hx.next=H2.next:=by rw [hHx]; rfl
  have hclx:Cells intE Hx cells2 ((List.replicate d 0).set j 1):=by rw [hHx]; exact Cells.mono (E:=intE) zS hcl2
  have hrow:RowV Hx (.own (H1.next+3) 0 d d 2 true) (Lin.unitV d j):=by
   have:Own intE aa H1 Hx (H1.next+3) true (.own (H1.next+3) 0 d d 2 true) ((List.replicate d 0).set j 1):=⟨cells2,by simp [intE],by rw [hHx]; exact aK _ _ _,hclx,by omega⟩
   exact this.sl
  have orr:=hrow.one
  obtain ⟨n6,H6,e6,b6,k6,nx6,f6,u6⟩:=Bl.push1 (ty2:=ae) (bytes:=24) (id:=Hx.next+3) (id2:=Hx.next+2) (k:=5) (cs:=[.own (H1.next+3) 0 d d 2 true]) (a:=Lin.unitV d j) (ho.mono kx.sub) (by decide) k0x ⟨_,rfl,hrow⟩ (by omega) (by omega) (by omega) (by omega) (by omega) (by simp; omega) (by simp; omega)
  have e6':fG ((((H2.up 5).put (H1.next+3) (.cells cells2 aa true))).put (H2.next+2) (.cells [.own (H1.next+3) 0 d d 2 true] ae true)) (H2.next+3) 1 24 ae o (.own (H2.next+2) 0 1 1 1 true)=some (.own (H2.next+3) 0 n6 n6 1 false,H6):=by rw [hHx] at e6; exact e6
  rw [nx] at b6
  refine zW (iC hl1 hio hb2 hst hv e6') ?_
  refine ⟨k6,_,rfl,?_⟩
  rw [List.range_succ,List.map_append]
  exact b6
 ·rintro T1 H1 hl1 hs1 hk1 ⟨o,hv,ho⟩
  have w1:=hk1.wf
  have le_hk1:=hk1.le
  simp only [List.map_cons,List.map_nil,List.cons.injEq,and_true] at hv
  simp only [List.length_set,hl] at hl1
  refine zW (aE hl1 hv) ?_
  exact ⟨ho,hk1⟩
abbrev Nd (H:Heap) (v:AV) (Ls:List (List (List Int))):Prop:=vp (oN rowsE ae) pO H v Ls
theorem cone_long (C:Code tab) (hw:Wf H) {Ls:List (List (List Int))} {d:Nat} (hs:Nd H s Ls) (hbig:Ls.length<1099511627776) (hd:∀ L∈Ls,∀ r∈L,r.length=d):Ans tab (.fn i8 [s]) H fun v H'=>v=.int .i64 (if Ls.any (fun L=>!L.isEmpty) then (d:Int) else -1)/\Kp H H':=by
 refine dZ C.cone_long (by decide) fun T hl g0=>?_
 refine zW (aL hl g0 hs.lenV) ?_
 refine am H [] (fun j _ _=>∀ k (h:k<Ls.length),k<j->Ls[k]=[]) (a:=0) (N:=Ls.length) rfl (by refine zW (aE hl g0) ?_; rfl) (zV (aE hl g0)) (Nat.zero_le _) (by omega) (by simp only [List.length_set,hl]; rfl) rfl (fun _ _ _ _ h=>h) zK (fun k _ h=>by omega) ?_ ?_
 ·intro j T1 H1 _ hj hl1 hi1 hs1 hk1 hP
  have w1:=hk1.wf
  have le_hk1:=hk1.le
  have t5:af T1 5=s:=(hs1.at_ 5 (by decide)).trans (zV (aE hl g0))
  obtain ⟨w,hr,hld⟩:=SlV.at1 (hs.mono hk1.sub) (List.getElem?_eq_getElem hj)
  have hr:cr H1 w Ls[j]:=hr
  have hix:=SlV.idx1 hs .i64 j hj
  simp only [List.length_set,hl] at hl1
  rcases Nat.eq_zero_or_pos (Ls[j]).length with h0 | h0
  ·have he:=List.length_eq_zero_iff.1 h0
   have hlv:lenV w=some (.int .i64 0):=by rw [hr.lenV,h0]; rfl
   refine zW (iC hl1 t5 hi1 hix hld hlv) ?_
   refine ⟨zK,fun k h hk=>?_⟩
   by_cases e:k=j
   ·subst e; exact he
   ·exact hP k h (by omega)
  ·obtain ⟨w0,hr0,hld0⟩:=dC hr h0
   have hix0:fD 1 w (.int .i64 0)=some (aS w 0):=SlV.idx1 hr .i64 0 h0
   have l0:lenV w0=some (.int .i64 (d:Int)):=by rw [hr0.lenV,hd _ (List.getElem_mem hj) _ (List.getElem_mem h0)]
   have hpos:(0:Int)<((Ls[j]).length:Int):=by omega
   refine zW (sE hl1 t5 hi1 hix hld hr.lenV hpos h0 hix0 hld0 l0) ?_
   refine ⟨?_,zK⟩
   rw [if_pos]
   rw [List.any_eq_true]
   exact ⟨_,List.getElem_mem hj,by cases h:Ls[j] with | nil=>rw [h] at h0; simp at h0 | cons a l=>rfl⟩
 ·intro T1 H1 hl1 hs1 hk1 hP
  simp only [List.length_set,hl] at hl1
  refine zW hl1 ?_
  refine ⟨?_,zK⟩
  rw [if_neg]
  rw [Bool.not_eq_true,List.any_eq_false]
  intro L hL
  obtain ⟨k,hk,rfl⟩:=List.getElem_of_mem hL
  rw [hP k hk hk]; simp
def bZ (A B:List (List (Bool × List Nat))):Int :=
 if bi A≠0 then bi A else if bi B≠0 then bi B else if A≠[]/\B≠[]/\(A.getD 0 []).length≠(B.getD 0 []).length then 70 else 0
theorem cone_checked (C:Code tab) (hw:Wf H) {va vb:AV} {A B:List (List (Bool × List Nat))} (ha:gw H va A) (hb:gw H vb B) (hA:A.length<1099511627776) (hB:B.length<1099511627776) (ba:∀ r∈A,zR r) (bb:∀ r∈B,zR r) :
  Ans tab (.fn fd [va,vb]) H fun v H'=>v=.int .i64 (bZ A B)/\Kp H H':=by
 have oa:=ha.one
 have ob:=hb.one
 refine Bv C.cone_checked rfl rfl (by decide) fun T hl g=>?_
 have hl:T.length=39:=hl
 have hrs:c_cone_checked.results=[(4,none)]:=rfl
 have g0:af T 0=va:=g 0 (by simp)
 have g1:af T 1=vb:=g 1 (by simp)
 refine dq ?_
 refine zW (aX hl g0 g1 @br) ?_
 refine gC (fun T' H'=>bi A=0/\bi B=0/\Kp H H') rfl ?_ ?_
 ·refine zW (aL hl g0 g1) ?_
  refine cj H [11] (fun k vs H'=>∃ i:Nat,vs=[.int .i64 (i:Int)]/\i+k=2/\(1<=i->bi A=0)/\(2<=i->bi B=0)) 2 (by simp only [List.length_set]; exact hl) rfl zK ⟨0,by refine zW hl ?_; rfl,rfl,by omega,by omega⟩ ?_
  rintro k T1 H1 hl1 hs1 hk1 ⟨i,hv,hik,hc1,hc2⟩
  have w1:=hk1.wf
  have le_hk1:=hk1.le
  simp only [List.map_cons,List.map_nil,List.cons.injEq,and_true] at hv
  have t10:af T1 10=.agg [va,vb]:=(hs1.at_ 10 (by decide)).trans (zV (aL hl g0 g1))
  have:i=0\/i=1\/i=2:=by omega
  rcases this with rfl | rfl | rfl
  ·have hv:af T1 11=.int .i64 0:=hv
   refine zW (aL hl1 hv t10) ?_
   refine AnsH.eq (rows_Check C zF (ha.mono (Kp.sub (H:=H) zK)) (by omega) ba) fun H2 hk2=>?_
   obtain ⟨k2,_,w2⟩:=zT H zK hk2
   by_cases h:bi A=0
   ·refine zW (aL hl1 hv h) ?_
    exact ⟨zK,1,by omega,1,rfl,rfl,(by first | exact fun _=>h | exact fun _=>trivial),by omega⟩
   ·refine zW (dG hl1 hv h @zx hrs) ?_
    exact ⟨by unfold bZ; rw [if_pos h],zK⟩
  ·have hv:af T1 11=.int .i64 1:=hv
   refine zW (aL hl1 hv t10) ?_
   refine AnsH.eq (rows_Check C zF (hb.mono (Kp.sub (H:=H) zK)) (by omega) bb) fun H2 hk2=>?_
   obtain ⟨k2,_,w2⟩:=zT H zK hk2
   have hA0:=hc1 (by omega)
   by_cases h:bi B=0
   ·refine zW (aL hl1 hv h) ?_
    exact ⟨zK,0,by omega,2,rfl,rfl,(by first | exact fun _=>hA0 | exact fun _=>trivial),(by first | exact fun _=>h | exact fun _=>trivial)⟩
   ·refine zW (dG hl1 hv h @zx hrs) ?_
    refine ⟨?_,zK⟩
    unfold bZ
    rw [if_neg (by simpa using hA0),if_pos h]
  ·have hv:af T1 11=.int .i64 2:=hv
   refine zW (aX hl1 hv t10 @bG) ?_
   exact ⟨hc1 (by omega),hc2 (by omega),zK⟩
 ·rintro T1 H1 hs1 ⟨c1,c2,k1⟩
  have w1:=k1.wf
  have t0:af T1 0=va:=(hs1.at_ 0 (by decide)).trans (zV (aE hl g0))
  have t1:af T1 1=vb:=(hs1.at_ 1 (by decide)).trans (zV (aE hl g1))
  have hl1:T1.length=39:=hs1.len.trans (by simp only [List.length_set]; exact hl)
  have hcode:bZ A B=if A≠[]/\B≠[]/\(A.getD 0 []).length≠(B.getD 0 []).length then 70 else 0:=by
   unfold bZ
   rw [if_neg (by simpa using c1),if_neg (by simpa using c2)]
  refine WC.wb ?_
  refine zW (aL hl1 t0 t1) ?_
  rcases Nat.eq_zero_or_pos A.length with a0 | a0
  ·have hlA:lenV va=some (.int .i64 0):=by rw [ha.lenV,a0]; rfl
   have hA0:=List.length_eq_zero_iff.1 a0
   refine aW ?_
   refine zD (iC hl1 t0 t1 hlA hrs @bL) ?_
   exact ⟨by rw [hcode,if_neg (fun h=>h.1 hA0)],zK⟩
  ·have posA:(0:Int)<(A.length:Int):=by omega
   have hAn:A≠[]:=fun e=>by rw [e] at a0; simp at a0
   rcases Nat.eq_zero_or_pos B.length with b0 | b0
   ·have hlB:lenV vb=some (.int .i64 0):=by rw [hb.lenV,b0]; rfl
    have hB0:=List.length_eq_zero_iff.1 b0
    refine aW ?_
    refine zD (nZ hl1 t0 t1 ha.lenV posA a0 hlB hrs @bL) ?_
    exact ⟨by rw [hcode,if_neg (fun h=>h.2.1 hB0)],zK⟩
   ·have posB:(0:Int)<(B.length:Int):=by omega
    have hBn:B≠[]:=fun e=>by rw [e] at b0; simp at b0
    obtain ⟨wa,hra,hlda⟩:=qU (ha.mono k1.sub) a0
    obtain ⟨wb,hrb,hldb⟩:=qU (hb.mono k1.sub) b0
    have xa:fD 1 va (.int .i64 0)=some (aS va 0):=SlV.idx1 ha .i64 0 a0
    have xb:fD 1 vb (.int .i64 0)=some (aS vb 0):=SlV.idx1 hb .i64 0 b0
    have la:=hra.lenV
    have lb:=hrb.lenV
    have ga:A.getD 0 []=A[0]:=by simp [a0]
    have gb:B.getD 0 []=B[0]:=by simp [b0]
    by_cases he:A[0].length=B[0].length
    ·have he':((A[0].length:Nat):Int)=((B[0].length:Nat):Int):=by omega
     refine aW ?_
     refine zD (Jh hl1 t0 t1 ha.lenV hb.lenV posA a0 posB @b0 xa xb hlda hldb la lb he' he hrs @bL) ?_
     exact ⟨by rw [hcode,ga,gb,if_neg (fun h=>h.2.2 he)],zK⟩
    ·have he':¬ ((A[0].length:Nat):Int)=((B[0].length:Nat):Int):=by omega
     refine aW ?_
     refine zD (Jh hl1 t0 t1 ha.lenV hb.lenV posA a0 posB @b0 xa xb hlda hldb la lb he' he hrs @bL) ?_
     exact ⟨by rw [hcode,ga,gb,if_pos ⟨hAn,hBn,he⟩],zK⟩
end
end Go.Proofs.YtichbdepocojaaaGreat.Ev
namespace Go.Proofs.YtichbdepocojaaaGreat.Lin
set_option linter.all false
theorem wO:∀ (n:Nat) (l:List (List Bool)),l.Nodup->(∀ b∈l,b.length=n)->l.length<=2^n
 | 0,[],_,_=>by simp
 | 0,[a],_,_=>by simp
 | 0,a :: b :: l,hn,h=>by
  have ha:=List.length_eq_zero_iff.1 (h a (by simp))
  have hb:=List.length_eq_zero_iff.1 (h b (by simp))
  subst ha; subst hb
  simp at hn
 | n+1,l,hn,h=>by
  have part:∀ v:Bool,((l.filter fun b=>b.head? == some v).map List.tail).length<=2^n:=fun v=>by
   refine wO n _ ?_ fun b hb=>?_
   ·refine List.pairwise_map.2 (List.Pairwise.imp_of_mem (fun {x y} hx hy hne e=>hne ?_) (List.Pairwise.filter _ hn))
    have hx:=(List.mem_filter.1 hx).2
    have hy:=(List.mem_filter.1 hy).2
    cases x with
    | nil=>simp at hx
    | cons a x =>
     cases y with
     | nil=>simp at hy
     | cons b y =>
      simp at hx hy e
      rw [hx,hy,e]
   ·obtain ⟨c,hc,rfl⟩:=List.mem_map.1 hb
    have:=h c (List.mem_filter.1 hc).1
    simp [this]
  have h1:=part true
  have h2:=part false
  rw [List.length_map] at h1 h2
  have h3:l.length=(l.filter fun b=>b.head? == some true).length+(l.filter fun b=>b.head? == some false).length:=by
   rw [<- List.countP_eq_length_filter,<- List.countP_eq_length_filter,List.length_eq_countP_add_countP (p:=fun b:List Bool=>b.head? == some true)]
   congr 1
   refine List.countP_congr fun b hb=>?_
   have:=h b hb
   cases b with
   | nil=>simp at this
   | cons a b=>cases a <;> simp
  rw [Nat.pow_succ]; omega
theorem DD.count {d:Nat} {E L:V->Prop} {dn R:List V} (h:DD d E (· ∈ dn) L R):R.length<=2^dn.length:=by
 have hn:(R.map fun r=>dn.map fun i=>decide (dot i r=0)).Nodup:=by
  refine List.pairwise_map.2 (h.apart.imp fun hne e=>hne fun i hi=>?_)
  have:=List.map_inj_left.1 e i hi
  simpa using this
 have:=wO dn.length _ hn fun b hb=>by obtain ⟨r,-,rfl⟩:=List.mem_map.1 hb; simp
 simpa using this
theorem gensU_done {d:Nat} {eqs ineqs:List V} (h1:∀ a∈eqs,a.length=d) (h2:∀ a∈ineqs,a.length=d):(gensU d eqs ineqs).done=ineqs:=by
 obtain ⟨g1,g2⟩:=sY eqs (startU d) _ lu h1
 obtain ⟨g3,g4⟩:=rt ineqs _ g1 h2
 exact g4.trans (by rw [g2]; simp [startU])
theorem uy {d:Nat} (eq:Bool):∀ (l:List V) (u:Under) (E:V->Prop) (ps:List (Nat × V)),DD d E (· ∈ u.done) (· ∈ u.lines) u.rays->Jc d ps u->(∀ a∈l,a.length=d)->∃ ps',Jc d ps' (l.foldl (fun u a=>addU a eq u) u)
 | [],u,E,ps,_,h,_=>⟨ps,h⟩
 | a :: l,u,E,ps,hdd,h,hl=>by
  obtain ⟨ps',h'⟩:=IE (a:=a) hdd h eq
  exact uy eq l (addU a eq u) _ ps' (Bx hdd (hl a (List.mem_cons_self ..)) eq) h' fun b hb=>hl b (List.mem_cons_of_mem _ hb)
theorem DE {d:Nat} {eqs ineqs:List V} (h1:∀ a∈eqs,a.length=d) (h2:∀ a∈ineqs,a.length=d):∃ ps,Jc d ps (gensU d eqs ineqs):=by
 obtain ⟨g1,-⟩:=sY eqs (startU d) _ lu h1
 obtain ⟨ps,hp⟩:=uy true eqs (startU d) _ _ lu (DX d) h1
 exact uy false ineqs _ _ ps g1 hp h2
theorem Em (a:V) (eq:Bool) (u:Under):(addU a eq u).lines.length<=u.lines.length:=by
 unfold addU
 split
 ·exact Nat.le_refl _
 ·simp only [List.length_map]
  exact List.length_eraseIdx_le ..
theorem pF (eq:Bool):∀ (l:List V) (u:Under),(l.foldl (fun u a=>addU a eq u) u).lines.length<=u.lines.length
 | [],u=>Nat.le_refl _
 | a :: l,u=>Nat.le_trans (pF eq l (addU a eq u)) (Em a eq u)
theorem gensU_lines (d:Nat) (eqs ineqs:List V):(gensU d eqs ineqs).lines.length<=d:=by
 refine Nat.le_trans (pF false ineqs _) (Nat.le_trans (pF true eqs _) ?_)
 simp [startU]
theorem gens_mid {d M:Nat} (hd:0<d) (hM:0<M) {eqs ineqs:List V} (h1:∀ a∈eqs,a.length=d/\Bd M a) (h2:∀ a∈ineqs,a.length=d/\Bd M a) :
  (∀ l∈(gensU d eqs ineqs).lines,l.length=d/\Bd ((2*d*M)^2^d) l)/\(∀ r∈(gensU d eqs ineqs).rays,r.length=d/\Bd ((2*d*M)^2^d) r)/\(gensU d eqs ineqs).rays.length<=2^ineqs.length:=by
 have e1:∀ a∈eqs,a.length=d:=fun a ha=>(h1 a ha).1
 have e2:∀ a∈ineqs,a.length=d:=fun a ha=>(h2 a ha).1
 have hdd:=zj e1 e2
 obtain ⟨ps,hp⟩:=DE e1 e2
 have hdn:=gensU_done e1 e2
 obtain ⟨b1,b2⟩:=Gv (Es:=eqs) hd hM (by rw [hdn]; exact hdd) hp h1 (by rw [hdn]; exact h2)
 exact ⟨fun l hl=>⟨hdd.lenL l hl,b1 l hl⟩,fun r hr=>⟨hdd.lenR r hr,b2 r hr⟩,hdd.count⟩
theorem Fo {d:Nat} {E I:V->Prop} {L R dn:List V} (h:vJ d E I L R):Jc d (L.map fun l=>(pv l,l)) ⟨L,R,dn⟩:=by
 refine ⟨by simp [List.map_map,Function.comp_def],fun q hq=>?_,fun q hq=>?_,?_,fun r hr q hq=>?_,h.form.cont,h.cont⟩
 ·obtain ⟨l,hl,rfl⟩:=List.mem_map.1 hq
  exact (h.form.pos hl).2.2
 ·obtain ⟨l,hl,rfl⟩:=List.mem_map.1 hq
  have:=(h.form.pos hl).2.1
  simp only
  omega
 ·exact List.pairwise_map.2 h.form.clear
 ·obtain ⟨l,hl,rfl⟩:=List.mem_map.1 hq
  exact h.rest r hr l hl
theorem told_bd {d M:Nat} (hd:0<d) (hM:0<M) {eqs ineqs L R:List V} (h:vJ d (· ∈ eqs) (· ∈ ineqs) L R) (h1:∀ a∈eqs,a.length=d/\Bd M a) (h2:∀ a∈ineqs,a.length=d/\Bd M a) :
  (∀ l∈L,Bd ((2*d*M)^2^d) l)/\(∀ r∈R,Bd ((2*d*M)^2^d) r) :=
 Gv (u:=⟨L,R,ineqs⟩) hd hM h.dd (Fo h) h1 h2
theorem pow_bd {d m:Nat} (hd:d<=6):(2*d*2^m)^2^d<=2^(64*(m+4)):=by
 have h1:2*d*2^m<=2^(m+4):=by
  rw [Nat.pow_add,Nat.mul_comm (2^m)]
  exact Nat.mul_le_mul_right _ (by omega)
 have h2:2^d<=2^6:=Nat.pow_le_pow_right (by decide) hd
 have h3:2^d*(m+4)<=64*(m+4):=Nat.mul_le_mul_right _ h2
 calc (2*d*2^m)^2^d<=(2^(m+4))^2^d:=Nat.pow_le_pow_left h1 _
  _=2^((m+4)*2^d):=(Nat.pow_mul ..).symm
  _<=2^(64*(m+4)):=Nat.pow_le_pow_right (by decide) (by rw [Nat.mul_comm]; exact h3)
theorem DQ {d:Nat} {E I:V->Prop} {L R A B:List V} (hE:∀ e,E e->e.length=d) (hI:∀ i,I i->i.length=d) (h:DD d E I (· ∈ L) R) (h':DD d (· ∈ L) (· ∈ R) (· ∈ A) B):∀ x,Keep d E I x ↔ Keep d (· ∈ A) (· ∈ B) x:=by
 intro x
 constructor
 ·intro hx
  have hc:=h.all x hx
  refine ⟨hx.len,fun a ha=>hc.dot_zero h.lenL h.lenR (fun l hl=>?_) (fun r hr=>?_),fun b hb=>hc.dot_nonneg h.lenL h.lenR (fun l hl=>?_) (fun r hr=>?_)⟩
  ·rw [dot_comm]; exact h'.lineE a ha l hl
  ·rw [dot_comm]; exact h'.lineI a ha r hr
  ·rw [dot_comm]; exact (h'.keep b hb).eq l hl
  ·rw [dot_comm]; exact (h'.keep b hb).ge r hr
 ·intro hx
  have key:∀ y,Keep d (· ∈ L) (· ∈ R) y->0<=dot x y:=fun y hy=>(h'.all y hy).dot_nonneg h'.lenL h'.lenR (fun l hl=>by rw [dot_comm]; exact hx.eq l hl) (fun r hr=>by rw [dot_comm]; exact hx.ge r hr)
  refine ⟨hx.len,fun e he=>?_,fun i hi=>?_⟩
  ·have k1:=key e ⟨hE e he,fun l hl=>by rw [dot_comm]; exact h.lineE l hl e he,fun r hr=>by rw [dot_comm,(h.keep r hr).eq e he]; exact Int.le_refl _⟩
   have k2:=key (scl (-1) e) ⟨ah (hE e he),fun l hl=>by rw [dot_scl,dot_comm,h.lineE l hl e he]; rfl,fun r hr=>by rw [dot_scl,dot_comm,(h.keep r hr).eq e he]; exact Int.le_refl _⟩
   rw [dot_scl] at k2
   rw [dot_comm]; omega
  ·rw [dot_comm]
   exact key i ⟨hI i hi,fun l hl=>by rw [dot_comm]; exact h.lineI l hl i hi,fun r hr=>by rw [dot_comm]; exact (h.keep r hr).ge i hi⟩
theorem cone_dual {d:Nat} {eqs ineqs:List V} (h1:∀ a∈eqs,a.length=d) (h2:∀ a∈ineqs,a.length=d) {L R A B:List V} (hL:L=gensL d eqs ineqs) (hR:R=gensR d eqs ineqs) (hA:A=gensL d L R) (hB:B=gensR d L R) :
  gensL d A B=L/\gensR d A B=R:=by
 have t1:=gens_told h1 h2
 rw [<- hL,<- hR] at t1
 have t2:=gens_told t1.dd.lenL t1.dd.lenR
 rw [<- hA,<- hB] at t2
 have t3:=gens_told t2.dd.lenL t2.dd.lenR
 have:=yv t1 t3 (DQ h1 h2 t1.dd t2.dd)
 exact ⟨this.1.symm,this.2.symm⟩
theorem told_nodup {d:Nat} {E I:V->Prop} {L R:List V} (h:vJ d E I L R):R.Nodup:=h.dd.apart.imp fun hne e=>hne fun i hi=>by rw [e]
end Go.Proofs.YtichbdepocojaaaGreat.Lin
namespace Go.Proofs.YtichbdepocojaaaGreat.Ev
open Go Nn
set_option linter.all false
theorem Gi (d:Nat) (E:List (List Int)) {j:Nat} (h:j<E.length):Lin.gensU d (E.take (j+1)) []=Lin.addU E[j] true (Lin.gensU d (E.take j) []):=by
 unfold Lin.gensU
 rw [List.take_succ_eq_append_getElem h,List.foldl_append]; rfl
theorem Gh (d:Nat) (E I:List (List Int)) {j:Nat} (h:j<I.length):Lin.gensU d E (I.take (j+1))=Lin.addU I[j] false (Lin.gensU d E (I.take j)):=by
 unfold Lin.gensU
 rw [List.take_succ_eq_append_getElem h,List.foldl_append]; rfl
theorem l3 {m:Nat} {x:List Int} (h:Lin.Bd (2^m) x):∀ z∈x,Bt (m+1) z:=fun z hz=>by
 have h1:=h.mem z hz
 have h2:0<2^m:=Nat.pow_pos (by decide)
 unfold Bt
 rw [Nat.pow_succ]
 omega
theorem DF {d:Nat} {l:List (List Int)} (hl:∀ r∈l,r.length=d):Lin.formF (Lin.formF l)=Lin.formF l:=by
 have h:=Lin.form_ech hl
 have h2:=Lin.form_ech h.1.len
 exact h2.1.unique h.1 h2.2
structure Jb (d f:Nat) (u:Lin.Under) (I:List (List Int)):Prop where
 lines:∀ l∈u.lines,l.length=d/\∀ z∈l,Bt f z
 rays:∀ r∈u.rays,r.length=d/\∀ z∈r,Bt f z
 few:u.rays.length<=2^I.length
 some:u.lines.length<=d
 done:u.done=I
theorem Ko {d m:Nat} (hd0:0<d) (hd:d<=6) {E I:List (List Int)} (h1:∀ a∈E,a.length=d/\Lin.Bd (2^m) a) (h2:∀ a∈I,a.length=d/\Lin.Bd (2^m) a):Jb d (64*(m+4)+1) (Lin.gensU d E I) I:=by
 obtain ⟨g1,g2,g3⟩:=Lin.gens_mid hd0 (Nat.pow_pos (n:=m) (show 0<2 by decide)) h1 h2
 exact ⟨fun l hl=>⟨(g1 l hl).1,l3 ((g1 l hl).2.mono (Lin.pow_bd hd))⟩,fun l hl=>⟨(g2 l hl).1,l3 ((g2 l hl).2.mono (Lin.pow_bd hd))⟩,g3,Lin.gensU_lines d E I,Lin.gensU_done (fun a ha=>(h1 a ha).1) (fun a ha=>(h2 a ha).1)⟩
theorem sP {d m:Nat} (hd0:0<d) (hd:d<=6) {E I:List (List Int)} (h1:∀ a∈E,a.length=d/\Lin.Bd (2^m) a) (h2:∀ a∈I,a.length=d/\Lin.Bd (2^m) a) :
  (∀ l∈Lin.gensL d E I,l.length=d/\Lin.Bd (2^(64*(m+4))) l)/\∀ r∈Lin.gensR d E I,r.length=d/\Lin.Bd (2^(64*(m+4))) r:=by
 have t:=Lin.gens_told (fun a ha=>(h1 a ha).1) (fun a ha=>(h2 a ha).1)
 obtain ⟨g1,g2⟩:=Lin.told_bd hd0 (Nat.pow_pos (n:=m) (show 0<2 by decide)) t h1 h2
 exact ⟨fun l hl=>⟨t.dd.lenL l hl,(g1 l hl).mono (Lin.pow_bd hd)⟩,fun l hl=>⟨t.dd.lenR l hl,(g2 l hl).mono (Lin.pow_bd hd)⟩⟩
theorem KA {e d:Nat} (hd:d<=6):ia e d<=1237*e+1957:=by
 refine Nat.le_trans (pA e hd) ?_
 simp only [ia]
 omega
theorem uF {d:Nat} {A B:List (List Int)} (h1:nY d A) (h2:nY d B) (hA:A.length<=1024) (hB:B.length<=1024):bZ (A.map fun r=>r.map kC) (B.map fun r=>r.map kC)=0:=by
 have code:∀ {L:List (List Int)},nY d L->L.length<=1024->bi (L.map fun r=>r.map kC)=0:=fun {L} hok hL=>by
  refine qR (by rw [List.length_map]; exact hL) (fun k hk=>?_) fun k hk=>?_
  ·rw [List.length_map] at hk
   have hm:=List.getElem_mem hk
   simp only [List.getElem_map]
   unfold qI
   rw [FM (by rw [hok.len _ hm]; exact hok.le),decide_eq_false (by rw [List.length_map,hok.len _ hm]; have:=hok.pos; omega)]
   rfl
  ·rw [List.length_map] at hk
   simp only [List.getElem_map,List.length_map]
   rw [hok.len _ (List.getElem_mem hk),hok.len _ (List.getElem_mem (by omega))]
 unfold bZ
 rw [code h1 hA,code h2 hB]
 simp only [ne_eq,not_true_eq_false,if_false]
 rw [if_neg]
 rintro ⟨ha,hb,hne⟩
 apply hne
 cases A with
 | nil=>simp at ha
 | cons a A =>
  cases B with
  | nil=>simp at hb
  | cons b B=>simp [h1.len a (by simp),h2.len b (by simp)]
theorem IF {a:AV} (ha:One a):kj [.nilSl,.nilSl,.nilSl] [((0,1),a)]=some (.agg [a,.nilSl,.nilSl]):=by
 simp [kj,de,ha.1,ha.2]
section
variable {tab:Nat->Option au} {H:Heap} {s:AV}
theorem cone_Gens_f1 (C:Code tab) (hw:Wf H) {a b:AV} {x y:List Int} (ha:RowV H a x) (hb:RowV H b y) (hxy:x.length=y.length) (h64:x.length<=64) (hx:∀ z∈x,fZ z) (hy:∀ z∈y,fZ z) :
  Ans tab (.fn fe [a,b]) H fun v H'=>v=.int .i64 (xY x y)/\Kp H H':=by
 have oa:=ha.one
 have ob:=hb.one
 refine cL C.cone_Gens_f1 (by decide) fun T hl g0 g1=>?_
 refine zW (aL hl g0 g1) ?_
 refine AnsH.eq (vec_Cmp C zF (ha.mono (Kp.sub (H:=H) zK)) (hb.mono (Kp.sub (H:=H) zK)) hxy h64 hx hy) fun H2 hk2=>?_
 obtain ⟨k2,_,_⟩:=zT H zK hk2
 refine zW (aL hl g0 g1) ?_
 exact zK
theorem cone_Gens (C:Code tab) (hw:Wf H) {va vb:AV} {E I:List (List Int)} {d m:Nat} (ha:cr H va E) (hb:cr H vb I) (hd0:0<d) (hd:d<=6) (he:E.length<=1024) (hi:I.length<=20) (h1:∀ a∈E,a.length=d/\Lin.Bd (2^m) a) (h2:∀ a∈I,a.length=d/\Lin.Bd (2^m) a) (hm:m<=300000) :
  Ans tab (.fn ee [.int .i64 (d:Int),va,vb]) H fun v H'=>∃ p q,v=.tup [p,q,.int .i64 0]/\cr H' p (Lin.gensL d E I)/\cr H' q (Lin.gensR d E I)/\Kp H H':=by
 have oa:=ha.one
 have ob:=hb.one
 obtain ⟨f,hf⟩:∃ f,f=64*(m+4)+1:=⟨_,rfl⟩
 have ok1:nY d E:=⟨hd0,by omega,fun r hr=>(h1 r hr).1,fun r hr z hz=>(l3 (h1 r hr).2 z hz).sm (by omega)⟩
 have ok2:nY d I:=⟨hd0,by omega,fun r hr=>(h2 r hr).1,fun r hr z hz=>(l3 (h2 r hr).2 z hz).sm (by omega)⟩
 have mid:∀ {A B:List (List Int)},(∀ a∈A,a.length=d/\Lin.Bd (2^m) a)->(∀ a∈B,a.length=d/\Lin.Bd (2^m) a)->Jb d f (Lin.gensU d A B) B:=fun hA hB=>by rw [hf]; exact Ko hd0 hd hA hB
 have hfb:=KA (e:=f) hd
 refine Bv C.cone_Gens rfl rfl (by decide) fun T hl g=>?_
 have hl:T.length=100:=hl
 have hrs:c_cone_Gens.results=[(6,none),(7,none),(8,none)]:=rfl
 have g0:af T 0=.int .i64 (d:Int):=g 0 (by simp)
 have g1:af T 1=va:=g 1 (by simp)
 have g2:af T 2=vb:=g 2 (by simp)
 refine dq ?_
 refine zW (dG hl g0 g1 g2 @br) ?_
 refine gC (fun T' H'=>Kp H H') rfl ?_ ?_
 ·refine zW (aX hl g0 g1 g2) ?_
  refine AnsH.eq (cone_checked C zF ((nl ha).mono (Kp.sub (H:=H) zK)) ((nl hb).mono (Kp.sub (H:=H) zK)) (by rw [List.length_map]; omega) (by rw [List.length_map]; omega) (fun r hr=>?_) (fun r hr=>?_)) fun H2 hk2=>?_
  ·obtain ⟨x,hx,rfl⟩:=List.mem_map.1 hr
   exact pV (by rw [ok1.len x hx]; omega) (ok1.sm x hx)
  ·obtain ⟨x,hx,rfl⟩:=List.mem_map.1 hr
   exact pV (by rw [ok2.len x hx]; omega) (ok2.sm x hx)
  rw [uF ok1 ok2 he (by omega)]
  obtain ⟨k2,_,_⟩:=zT H zK hk2
  refine zW (aE hl @bG) ?_
  exact zK
 intro T1 H1 hs1 k1
 have w1:=k1.wf
 have le1:=k1.le
 have t0:af T1 0=.int .i64 (d:Int):=(hs1.at_ 0 (by decide)).trans (zV (aE hl g0))
 have t1:af T1 1=va:=(hs1.at_ 1 (by decide)).trans (zV (aE hl g1))
 have t2:af T1 2=vb:=(hs1.at_ 2 (by decide)).trans (zV (aE hl g2))
 have t7:af T1 7=.nilSl:=(hs1.at_ 7 (by decide)).trans (zV hl)
 have hl1:T1.length=100:=hs1.len.trans (by simp only [List.length_set]; exact hl)
 refine gC (fun T' H'=>Kp H H'/\af T' 7=.nilSl) rfl ?_ ?_
 ·refine zW (aX hl1 t0 t1 t2) ?_
  refine AnsH.use (cone_long C (Ls:=[E,I]) (d:=d) zF (q9 (E:=rowsE) (t1:=ae) ha hb (Kp.sub (H:=H) zK) (eG)) (by simp) (fun L hL r hr=>?_)) ?_
  ·rcases List.mem_cons.1 hL with rfl | hL
   ·exact ok1.len r hr
   ·rcases List.mem_cons.1 hL with rfl | hL
    ·exact ok2.len r hr
    ·cases hL
  rintro v H2 ⟨rfl,hk2⟩
  obtain ⟨k2,_,_⟩:=zT H zK hk2
  have q1:¬ ((d:Int)<1):=by omega
  have q2:¬ ((64:Int)<(d:Int)):=by omega
  have q3:(0:Int)<=(d:Int):=by omega
  cases hany:[E,I].any (fun L=>!L.isEmpty) with
  | true =>
   refine zW (l5 hl1 t0 t7 q1 q2 q3 @bG) ?_
   exact zK
  | false =>
   refine zW (l5 hl1 t0 t7 q1 q2 q3 @bG) ?_
   exact zK
 rintro T2 H2 hs2 ⟨k2,u7⟩
 have w2:=k2.wf
 have le2:=k2.le
 have u0:af T2 0=.int .i64 (d:Int):=(hs2.at_ 0 (by decide)).trans t0
 have u1:af T2 1=va:=(hs2.at_ 1 (by decide)).trans t1
 have u2:af T2 2=vb:=(hs2.at_ 2 (by decide)).trans t2
 have hl2:T2.length=100:=hs2.len.trans hl1
 refine gC (fun T' H'=>af T' 10=.ptr (H2.next+3) 0/\Kp H H'/\UnderV H H' (H2.next+3) (Lin.gensU d [] [])) rfl ?_ ?_
 ·refine zW (aE hl2 u0) ?_
  refine AnsH.use (cone_all C (d:=d) zF (by omega)) ?_
  rintro v H3 ⟨bl3,hk3⟩
  obtain ⟨k23,_,_⟩:=zT H2 zK hk3
  have k3:Kp H H3:=k2.trans k23
  have le_k3:=k3.le
  have w3:=k3.wf
  have ov:=bl3.sl.one
  have h0:AV.one .nilSl=true:=rfl
  have hbv:sJ (.agg [v,.nilSl,.nilSl])=some [v,.nilSl,.nilSl]:=by simp [sJ,AV.cells,ov.2,h0]
  have n3:H2.next+5<=H3.next:=hk3.le
  have f3:H3.get (H2.next+3)=none:=hk3.free (show _<H2.next+5 by omega) (w2.fresh (b:=H2.next+3) (by omega))
  refine zW (aX hl2 (IF ov) hbv @bG) ?_
  have hbl:Wr H H3 v (Lin.startU d).lines (Lin.startU d).lines.length:=bl3.wr.base (show H.next<=H2.next+5 by omega)
  have hnb:jg v≠some (H2.next+3):=fun hx=>by
   have h2:H2.next+5<=H2.next+3:=bl3.ge hx
   omega
  exact ⟨zK,v,.nilSl,.nilSl,_,aK _ _ _,hbl.put hnb (NoTy.none f3),.inl ⟨rfl,rfl⟩,.inl ⟨rfl,rfl⟩,(fun x _ hy=>by cases hy),(fun x _ hy=>by cases hy),(fun x _ hy=>by cases hy)⟩
 obtain ⟨ub,hub⟩:∃ ub,ub=H2.next+3:=⟨_,rfl⟩
 rw [<- hub]
 have hubH:H.next<=ub:=by omega
 rintro T3 H3 hs3 ⟨eU,k3,hu3⟩
 have w3:=k3.wf
 have le3:=k3.le
 have v1:af T3 1=va:=(hs3.at_ 1 (by decide)).trans u1
 have v2:af T3 2=vb:=(hs3.at_ 2 (by decide)).trans u2
 have v7:af T3 7=.nilSl:=(hs3.at_ 7 (by decide)).trans u7
 have hl3:T3.length=100:=hs3.len.trans hl2
 refine dq ?_
 refine zW (aL hl3 eU @br) ?_
 refine gC (fun T' H'=>Kp H H'/\UnderV H H' ub (Lin.gensU d E [])) rfl ?_ ?_
 ·refine zW (aL hl3 v1 ha.lenV) ?_
  refine am H [] (fun j _ H'=>UnderV H H' ub (Lin.gensU d (E.take j) [])) (a:=0) (N:=E.length) rfl (by refine zW hl3 ?_; rfl) (zV hl3) (Nat.zero_le _) (by omega) (by simp only [List.length_set,hl3]; rfl) rfl (fun j vs H' m h=>h.mono (Sub.bump H' m)) zK (by exact hu3.mono (Sub.bump H3 _)) ?_ ?_
  ·rintro j T4 H4 _ hj hl4 hi4 hs4 hk4 hu4
   have w4:=hk4.wf
   have le_hk4:=hk4.le
   have le4:=hk4.le
   have t48:af T4 48=va:=(hs4.at_ 48 (by decide)).trans (zV (aE hl3 v1))
   have t11:af T4 11=.fn (.func ck) [.ptr ub 0] []:=(hs4.at_ 11 (by decide)).trans (zV hl3)
   obtain ⟨w,hr,hld⟩:=dC ha hj
   have hld4:=dF hk4.sub hld
   have hix:=SlV.idx1 ha .i64 j hj
   have mk:=mid (A:=E.take j) (B:=[]) (fun a h=>h1 a (List.mem_of_mem_take h)) (fun a h=>by cases h)
   have hEj:=h1 _ (List.getElem_mem hj)
   have hso:=mk.some
   have hfe:=mk.few
   simp only [List.length_nil,Nat.pow_zero] at hfe
   simp only [List.length_set,hl3] at hl4
   refine zW (iC hl4 t48 t11 hi4 hix hld4) ?_
   refine AnsH.use (zz C (H0:=H) (u:=Lin.gensU d (E.take j) []) (e:=f) (f:=f) (hk4.up _) hubH (hu4.mono (Sub.bump H4 _)) hr hd0 (by omega) hEj.1 mk.lines mk.rays (fun r hr=>by rw [mk.done] at hr; cases hr) (by rw [mk.done]; simp) (fun z hz=>(l3 hEj.2 z hz).mono (by omega)) (by omega) (by omega) (by omega)) ?_
   rintro v H5 ⟨rfl,hk5,hu5⟩
   refine zW hl4 ?_
   exact ⟨hk5,by rw [Gi d E hj]; exact hu5⟩
  ·rintro T4 H4 hl4 hs4 hk4 hu4
   rw [List.take_length] at hu4
   refine zW (aE hl4 @bG) ?_
   exact ⟨hk4,hu4⟩
 rintro T4 H4 hs4 ⟨k4,hu4⟩
 have w4:=k4.wf
 have le4:=k4.le
 have x2:af T4 2=vb:=(hs4.at_ 2 (by decide)).trans (zV (aE hl3 v2))
 have x7:af T4 7=.nilSl:=(hs4.at_ 7 (by decide)).trans (zV (aE hl3 v7))
 have x10:af T4 10=.ptr ub 0:=(hs4.at_ 10 (by decide)).trans (zV (aE hl3 eU))
 have x11:af T4 11=.fn (.func ck) [.ptr ub 0] []:=(hs4.at_ 11 (by decide)).trans (zV hl3)
 have hl4:T4.length=100:=hs4.len.trans (by simp only [List.length_set]; exact hl3)
 refine gC (fun T' H'=>Kp H H'/\UnderV H H' ub (Lin.gensU d E I)) rfl ?_ ?_
 ·refine zW (aL hl4 x2 hb.lenV) ?_
  refine am H [] (fun j _ H'=>UnderV H H' ub (Lin.gensU d E (I.take j))) (a:=0) (N:=I.length) rfl (by refine zW hl4 ?_; rfl) (zV hl4) (Nat.zero_le _) (by omega) (by simp only [List.length_set,hl4]; rfl) rfl (fun j vs H' m h=>h.mono (Sub.bump H' m)) zK (by exact hu4.mono (Sub.bump H4 _)) ?_ ?_
  ·rintro j T5 H5 _ hj hl5 hi5 hs5 hk5 hu5
   have w5:=hk5.wf
   have le_hk5:=hk5.le
   have le5:=hk5.le
   have t58:af T5 58=vb:=(hs5.at_ 58 (by decide)).trans (zV (aE hl4 x2))
   have t11:af T5 11=.fn (.func ck) [.ptr ub 0] []:=(hs5.at_ 11 (by decide)).trans (zV (aE hl4 x11))
   obtain ⟨w,hr,hld⟩:=dC hb hj
   have hld5:=dF hk5.sub hld
   have hix:=SlV.idx1 hb .i64 j hj
   have hIt:∀ a∈I.take j,a.length=d/\Lin.Bd (2^m) a:=fun a h=>h2 a (List.mem_of_mem_take h)
   have mk:=mid (A:=E) (B:=I.take j) h1 hIt
   have hIj:=h2 _ (List.getElem_mem hj)
   have hso:=mk.some
   have hfe:=mk.few
   have hp:2^(I.take j).length<=2^20:=Nat.pow_le_pow_right (by decide) (by rw [List.length_take]; omega)
   have hp2:(2:Nat)^20=1048576:=by decide
   simp only [List.length_set,hl4] at hl5
   refine zW (iC hl5 t58 t11 hi5 hix hld5) ?_
   refine AnsH.use (zz C (H0:=H) (u:=Lin.gensU d E (I.take j)) (e:=f) (f:=f) (hk5.up _) hubH (hu5.mono (Sub.bump H5 _)) hr hd0 (by omega) hIj.1 mk.lines mk.rays (fun r hr=>by rw [mk.done] at hr; exact ⟨(hIt r hr).1,fun z hz=>(l3 (hIt r hr).2 z hz).mono (by omega)⟩) (by rw [mk.done,List.length_take]; omega) (fun z hz=>(l3 hIj.2 z hz).mono (by omega)) (by omega) (by omega) (by omega)) ?_
   rintro v H6 ⟨rfl,hk6,hu6⟩
   refine zW hl5 ?_
   exact ⟨hk6,by rw [Gh d E I hj]; exact hu6⟩
  ·rintro T5 H5 hl5 hs5 hk5 hu5
   rw [List.take_length] at hu5
   refine zW (aE hl5 @bG) ?_
   exact ⟨hk5,hu5⟩
 rintro T5 H5 hs5 ⟨k5,hu5⟩
 have w5:=k5.wf
 have le5:=k5.le
 have y7:af T5 7=.nilSl:=(hs5.at_ 7 (by decide)).trans x7
 have y10:af T5 10=.ptr ub 0:=(hs5.at_ 10 (by decide)).trans x10
 have hl5:T5.length=100:=hs5.len.trans hl4
 have mk:=mid h1 h2
 have hso:=mk.some
 have hfe:=mk.few
 have hp:2^I.length<=2^20:=Nat.pow_le_pow_right (by decide) hi
 have hp2:(2:Nat)^20=1048576:=by decide
 obtain ⟨ql,qr,qd,cl,hub5,hql,hqr,hqd,-,-,-⟩:=hu5
 have lub5:=w5 _ _ hub5
 obtain ⟨tL,tR⟩:=sP hd0 hd h1 h2
 have hT:=Lin.gens_told (fun a ha=>(h1 a ha).1) (fun a ha=>(h2 a ha).1)
 obtain ⟨L,hL⟩:∃ L,L=Lin.gensL d E I:=⟨_,rfl⟩
 have hLf:Lin.formF (Lin.gensU d E I).lines=L:=by rw [hL]; rfl
 have hLL:Lin.formF L=L:=by rw [<- hLf]; exact DF (fun r hr=>(mk.lines r hr).1)
 have hLlen:L.length<=d:=by rw [hL]; exact mA hT.form
 have hLm:∀ r∈L,r.length=d/\∀ z∈r,Bt f z:=fun r hr=>by
  rw [hL] at hr
  exact ⟨(tL r hr).1,fun z hz=>by rw [hf]; exact l3 (tL r hr).2 z hz⟩
 refine gC (fun T' H'=>∃ q6,af T' 6=q6/\Kp H5 H'/\cr H' q6 L) rfl ?_ ?_
 ·refine zW (aL hl5 y10 hub5) ?_
  refine AnsH.use (rows_Echelon C (d:=d) (e:=f) zF (hql.sl.mono (Sub.bump H5 _)) (by omega) hd0 (by omega) (fun r hr=>(mk.lines r hr).1) (fun r hr=>(mk.lines r hr).2) (by omega)) ?_
  rintro v H6 ⟨q6,rfl,hr6,hk6⟩
  have k6:Kp H5 H6:=Kp.trans (Kp.up (Kp.refl w5) _) hk6
  have le_k6:=k6.le
  rw [hLf] at hr6
  refine zW (aE hl5 @bG) ?_
  exact ⟨q6,rfl,k6,hr6⟩
 rintro T6 H6 hs6 ⟨q6,z6,k56,hr6⟩
 have w6:=k56.wf
 have le6:=k56.le
 have z7:af T6 7=.nilSl:=(hs6.at_ 7 (by decide)).trans y7
 have z10:af T6 10=.ptr ub 0:=(hs6.at_ 10 (by decide)).trans y10
 have hl6:T6.length=100:=hs6.len.trans hl5
 have hub6:=k56.get hub5
 have hqr6:cr H6 qr (Lin.gensU d E I).rays:=hqr.sl.mono k56.sub
 obtain ⟨R,hR⟩:∃ R,R=(Lin.gensU d E I).rays:=⟨_,rfl⟩
 have hRm:∀ r∈R,r.length=d/\∀ z∈r,Bt f z:=fun r hr=>mk.rays r (by rw [<- hR]; exact hr)
 have hRl:R.length<=1048576:=by rw [hR]; omega
 rw [<- hR] at hqr6
 refine gC (fun T' H'=>∃ o,af T' 7=o/\Kp H6 H'/\Bl rowsE ae H6 H' o (R.map (Lin.restF L))) rfl ?_ ?_
 ·refine zW (aX hl6 z10 hub6 hqr6.lenV) ?_
  refine am H6 [7] (fun j vs H'=>∃ o,vs=[o]/\Bl rowsE ae H6 H' o ((R.take j).map (Lin.restF L))) (a:=0) (N:=R.length) rfl (by refine zW hl6 ?_; rfl) (zV hl6) (Nat.zero_le _) (by omega) (by simp only [List.length_set,hl6]; rfl) rfl (fun j vs H' m ⟨o,q1,q2⟩=>⟨o,q1,q2.mono (Sub.bump H' m)⟩) (Kp.up (Kp.refl w6) _) ⟨.nilSl,by exact zV (aE hl6 z7),Bl.nil⟩ ?_ ?_
  ·rintro j T7 H7 _ hj hl7 hi7 hs7 hk7 ⟨o,hv,ho⟩
   have w7:=hk7.wf
   have le_hk7:=hk7.le
   have le7:=hk7.le
   simp only [List.map_cons,List.map_nil,List.cons.injEq,and_true] at hv
   have t79:af T7 79=qr:=(hs7.at_ 79 (by decide)).trans (zV hl6)
   have t6:af T7 6=q6:=(hs7.at_ 6 (by decide)).trans (zV (aE hl6 z6))
   obtain ⟨w,hr,hld⟩:=dC (hqr6.mono hk7.sub) hj
   have hix:=SlV.idx1 hqr6 .i64 j hj
   have hRj:=hRm _ (List.getElem_mem hj)
   simp only [List.length_set,hl6] at hl7
   refine zW (iC hl7 t79 t6 hi7 hix hld) ?_
   refine AnsH.use (rows_Reduce C (d:=d) (e:=f) zF (hr.mono (Sub.bump H7 _)) ((hr6.mono hk7.sub).mono (Sub.bump H7 _)) (by omega) hd0 (by omega) hRj.1 (fun r hr=>(hLm r hr).1) hRj.2 (fun r hr=>(hLm r hr).2) (by omega)) ?_
   rintro v H8 ⟨q,rfl,hrq,hk8⟩
   have k78:Kp H7 H8:=Kp.trans (Kp.up (Kp.refl w7) _) hk8
   have le_k78:=k78.le
   have k68:Kp H6 H8:=hk7.trans k78
   have le_k68:=k68.le
   have w8:=k68.wf
   rw [hLL] at hrq
   have oq:=hrq.one
   have hlen:((R.take j).map (Lin.restF L)).length<=R.length:=by simp; omega
   obtain ⟨n6,H9,e6,b6,k6,nx6,f6,u6⟩:=Bl.push1 (ty2:=ae) (bytes:=24) (id:=H8.next+3) (id2:=H8.next+2) (k:=5) (cs:=[q]) (a:=Lin.restF L R[j]) (ho.mono k78.sub) (by decide) k68 ⟨q,rfl,hrq⟩ (by omega) (by omega) (by omega) (by omega) (by omega) (by omega) (by omega)
   have e6':fG ((H8.up 5).put (H8.next+2) (.cells [q] ae true)) (H8.next+3) 1 24 ae o (.own (H8.next+2) 0 1 1 1 true)=some (.own (H8.next+3) 0 n6 n6 1 false,H9):=e6
   refine zW (aL hl7 hv e6') ?_
   refine ⟨k6,_,rfl,?_⟩
   rw [List.take_succ_eq_append_getElem hj,List.map_append]
   exact b6
  ·rintro T7 H7 hl7 hs7 hk7 ⟨o,hv,ho⟩
   simp only [List.map_cons,List.map_nil,List.cons.injEq,and_true] at hv
   rw [List.take_length] at ho
   refine zW (aE hl7 @bG) ?_
   exact ⟨o,hv,hk7,ho⟩
 rintro T7 H7 hs7 ⟨o,a7,k67,bl7⟩
 have w7:=k67.wf
 have a6:af T7 6=q6:=(hs7.at_ 6 (by decide)).trans z6
 have hl7:T7.length=100:=hs7.len.trans hl6
 have hGR:(R.map (Lin.restF L)).mergeSort Lin.cmpV=Lin.gensR d E I:=by rw [hR,hL]; rfl
 have hperm:(Lin.gensR d E I).Perm (R.map (Lin.restF L)):=by rw [<- hGR]; exact List.mergeSort_perm _ _
 have hMm:∀ r∈R.map (Lin.restF L),r.length=d/\∀ z∈r,fZ z:=fun r hr=>by
  have h:=tR r (hperm.mem_iff.2 hr)
  exact ⟨h.1,fun z hz=>(l3 h.2 z hz).sm (by omega)⟩
 refine dq ?_
 refine zW (aL hl7 @a7 @br) ?_
 refine AnsH.use (vK C.slices_SortFunc_Sl_api_Vec_api_Vec rfl (H0:=H6) (d:=d) (k67.up _) (bl7.mono (Sub.bump H7 _)) (fun r hr=>(hMm r hr).1) (hperm.nodup_iff.1 (Lin.told_nodup hT)) (by rw [List.length_map]; omega) fun D a b hD x hx y hy hxa hyb=>(cone_Gens_f1 C hD hxa hyb ((hMm x hx).1.trans (hMm y hy).1.symm) (by rw [(hMm x hx).1]; omega) (hMm x hx).2 (hMm y hy).2).mono fun _ _ h=>h.1) ?_
 rintro v H8 ⟨rfl,hk8,bl8⟩
 rw [hGR] at bl8
 refine zW (aE hl7 @br) ?_
 refine dq ?_
 refine zW (aX hl7 @a6 @a7 @br) ?_
 refine WC.wb ?_
 refine zW (aE hl7 hrs) ?_
 have k08:Kp H H8:=(k5.trans k56).trans hk8
 have le_k08:=k08.le
 rw [<- hL]
 exact ⟨_,_,rfl,(hr6.mono hk8.sub).mono (Sub.bump H8 _),bl8.sl.mono (Sub.bump H8 _),k08.up _⟩
end
theorem rc {α:Type} {l m:List α} (he:l.length=m.length) (h:∀ q (h:q<l.length) (h':q<m.length),l[q]=m[q]):l=m :=
 List.ext_getElem he fun q h1 h2=>h q h1 h2
def mz (many ag:Nat) (r:List (Bool × List Nat)):Bool:=decide (many<r.length) || r.any fun z=>decide (ag<z.2.length)
def cx (n many ag:Nat) (ls:List (List (Bool × List Nat))):Bool:=decide (n<ls.length) || ls.any (mz many ag)
section
variable {tab:Nat->Option au} {H:Heap} {s:AV}
theorem AF (C:Code tab) (hw:Wf H) {a b:AV} {l m:List Nat} (ha:Lb H a l) (hb:Lb H b m) (hl':l.length<4611686018427387904) :
  Ans tab (.fn dw [a,b]) H fun v H'=>v=.bool (decide (l=m))/\Kp H H':=by
 refine cL C.facetroomref01_Same (by decide) fun T hl g0 g1=>?_
 by_cases he:l.length=m.length
 ·have lb:lenV b=some (.int .i64 (l.length:Int)):=by rw [hb.lenV,he]
  refine zW (dG hl g0 g1 ha.lenV lb) ?_
  refine cj H [5] (fun k vs H'=>∃ i:Nat,vs=[.int .i64 (i:Int)]/\i+k=l.length/\∀ q (h:q<l.length) (h':q<m.length),q<i->l[q]=m[q]) l.length (by simp only [List.length_set]; exact hl) rfl zK ⟨0,by refine zW (aL hl g0 g1) ?_; rfl,by omega,fun q _ _ h=>by omega⟩ ?_
  rintro k T1 H1 hl1 hs1 hk1 ⟨i,hv,hik,hP⟩
  have w1:=hk1.wf
  have le_hk1:=hk1.le
  simp only [List.map_cons,List.map_nil,List.cons.injEq,and_true] at hv
  have t0:af T1 0=a:=(hs1.at_ 0 (by decide)).trans (zV (aE hl g0))
  have t1:af T1 1=b:=(hs1.at_ 1 (by decide)).trans (zV (aX hl g0 g1 g1))
  by_cases hi:i<l.length
  ·have hii:(i:Int)<(l.length:Int):=by omega
   have hi':i<m.length:=by omega
   obtain ⟨w,hr,hld⟩:=SlV.at1 (ha.mono hk1.sub) (List.getElem?_eq_getElem hi)
   obtain ⟨w',hr',hld'⟩:=SlV.at1 (hb.mono hk1.sub) (List.getElem?_eq_getElem hi')
   have hr:w=.int .u64 ((l[i]:Nat):Int):=hr
   have hr':w'=.int .u64 ((m[i]:Nat):Int):=hr'
   subst hr; subst hr'
   have hix:=SlV.idx1 ha .i64 i hi
   have hix':=SlV.idx1 hb .i64 i hi'
   have e:IntKind.i64.wrap ((i:Int)+1)=((i+1:Nat):Int):=by rw [wrap_i64] <;> omega
   refine zW (l5 hl1 hv t0 t1 ha.lenV hii hi) ?_
   refine aW ?_
   by_cases hq:l[i]=m[i]
   ·have hq':((l[i]:Nat):Int)=((m[i]:Nat):Int):=by omega
    refine zD (pK hl1 hv t0 t1 hix hld hix' hld' hq' e) ?_
    refine ⟨zK,k-1,by omega,i+1,rfl,by omega,fun q h h' hqi=>?_⟩
    by_cases eq:q=i
    ·subst eq; exact hq
    ·exact hP q h h' (by omega)
   ·have hq':¬ ((l[i]:Nat):Int)=((m[i]:Nat):Int):=by omega
    refine zD (sE hl1 hv t0 t1 hix hld hix' hld' hq' hq e) ?_
    refine ⟨?_,zK⟩
    rw [decide_eq_false]
    intro e; subst e; exact hq rfl
  ·have hii:¬ (i:Int)<(l.length:Int):=by omega
   refine zW (l5 hl1 hv t0 t1 ha.lenV hii hi) ?_
   refine ⟨?_,zK⟩
   rw [decide_eq_true (rc he fun q h h'=>hP q h h' (by omega))]
 ·have he':¬ (l.length:Int)=(m.length:Int):=by omega
  refine zW (l5 hl g0 g1 ha.lenV hb.lenV he' he) ?_
  refine ⟨?_,zK⟩
  rw [decide_eq_false]
  intro e; subst e; exact he rfl
theorem Dq {x y:Nat} (h:ag x=ag y):x=y:=by
 have:=congrArg val h
 rwa [bA,bA] at this
theorem AE (C:Code tab) (hw:Wf H) {a b:AV} {x y:Int} (ha:IntV H a x) (hb:IntV H b y) (hx:fZ x) :
  Ans tab (.fn du [a,b]) H fun v H'=>v=.bool (decide (x=y))/\Kp H H':=by
 obtain ⟨p,rfl,hp⟩:=ha
 obtain ⟨q,rfl,hq⟩:=hb
 have op:=hp.one
 have oq:=hq.one
 unfold fZ Sm at hx
 refine cL C.facetroomref05_Same (by decide) fun T hl g0 g1=>?_
 by_cases h:decide (x<0)=decide (y<0)
 ·have h':(decide (x<0) == decide (y<0))=true:=by rw [h]; simp
  refine zW (aX hl g0 g1 h') ?_
  refine AnsH.eq (AF C zF (hp.mono (Kp.sub (H:=H) zK)) (hq.mono (Kp.sub (H:=H) zK)) (by omega)) fun H2 hk2=>?_
  obtain ⟨k2,_,_⟩:=zT H zK hk2
  refine zW (aL hl g0 g1) ?_
  refine ⟨?_,zK⟩
  by_cases e:x=y
  ·rw [decide_eq_true e,decide_eq_true (by rw [e])]
  ·rw [decide_eq_false e,decide_eq_false]
   intro h2
   have:=Dq h2
   have h3:(x<0) ↔ (y<0):=by simpa using h
   omega
 ·have h':(decide (x<0) == decide (y<0))=false:=by simpa using h
  refine zW (aX hl g0 g1 h') ?_
  refine ⟨?_,zK⟩
  rw [decide_eq_false]
  intro e; subst e; exact h rfl
theorem AD (C:Code tab) (hw:Wf H) {a b:AV} {l m:List Int} (ha:RowV H a l) (hb:RowV H b m) (hl':l.length<1099511627776) (hz:∀ z∈l,fZ z) :
  Ans tab (.fn dt [a,b]) H fun v H'=>v=.bool (decide (l=m))/\Kp H H':=by
 refine cL C.facetroomref07_Same (by decide) fun T hl g0 g1=>?_
 by_cases he:l.length=m.length
 ·have lb:lenV b=some (.int .i64 (l.length:Int)):=by rw [hb.lenV,he]
  refine zW (dG hl g0 g1 ha.lenV lb) ?_
  refine cj H [5] (fun k vs H'=>∃ i:Nat,vs=[.int .i64 (i:Int)]/\i+k=l.length/\∀ q (h:q<l.length) (h':q<m.length),q<i->l[q]=m[q]) l.length (by simp only [List.length_set]; exact hl) rfl zK ⟨0,by refine zW (aL hl g0 g1) ?_; rfl,by omega,fun q _ _ h=>by omega⟩ ?_
  rintro k T1 H1 hl1 hs1 hk1 ⟨i,hv,hik,hP⟩
  have w1:=hk1.wf
  have le_hk1:=hk1.le
  simp only [List.map_cons,List.map_nil,List.cons.injEq,and_true] at hv
  have t0:af T1 0=a:=(hs1.at_ 0 (by decide)).trans (zV (aE hl g0))
  have t1:af T1 1=b:=(hs1.at_ 1 (by decide)).trans (zV (aX hl g0 g1 g1))
  by_cases hi:i<l.length
  ·have hii:(i:Int)<(l.length:Int):=by omega
   have hi':i<m.length:=by omega
   obtain ⟨w,hn,L,hix⟩:=oB w1 (ha.mono hk1.sub) hi
   obtain ⟨w',hn',L',hix'⟩:=oB w1 (hb.mono hk1.sub) hi'
   have hld:=L.ld
   have hld':=L'.ld
   have e:IntKind.i64.wrap ((i:Int)+1)=((i+1:Nat):Int):=by rw [wrap_i64] <;> omega
   refine zW (l5 hl1 hv t0 t1 ha.lenV hii hi) ?_
   refine aW ?_
   refine zD (mU hl1 hv t0 t1 hix hld hix' hld') ?_
   refine AnsH.eq (AE C zF ⟨w,rfl,hn.mono (Kp.sub (H:=H1) zK)⟩ ⟨w',rfl,hn'.mono (Kp.sub (H:=H1) zK)⟩ (hz _ (List.getElem_mem hi))) fun H2 hk2=>?_
   obtain ⟨k12,_,_⟩:=zT H1 zK hk2
   have k2:Kp H H2:=Kp.trans hk1 k12
   have le_k2:=k2.le
   cases hq:decide (l[i]=m[i]) with
   | true =>
    have hq:=of_decide_eq_true hq
    refine zD (nZ hl1 hv t0 t1 hix hld hix' hld' e) ?_
    refine ⟨zK,k-1,by omega,i+1,rfl,by omega,fun q h h' hqi=>?_⟩
    by_cases eq:q=i
    ·subst eq; exact hq
    ·exact hP q h h' (by omega)
   | false =>
    have hq:=of_decide_eq_false hq
    refine zD (nZ hl1 hv t0 t1 hix hld hix' hld' e) ?_
    refine ⟨?_,zK⟩
    rw [decide_eq_false]
    intro e; subst e; exact hq rfl
  ·have hii:¬ (i:Int)<(l.length:Int):=by omega
   refine zW (l5 hl1 hv t0 t1 ha.lenV hii hi) ?_
   refine ⟨?_,zK⟩
   rw [decide_eq_true (rc he fun q h h'=>hP q h h' (by omega))]
 ·have he':¬ (l.length:Int)=(m.length:Int):=by omega
  refine zW (l5 hl g0 g1 ha.lenV hb.lenV he' he) ?_
  refine ⟨?_,zK⟩
  rw [decide_eq_false]
  intro e; subst e; exact he rfl
theorem mg (C:Code tab) (hw:Wf H) {a b:AV} {l m:List (List Int)} (ha:cr H a l) (hb:cr H b m) (hl':l.length<1099511627776) (hz:∀ r∈l,r.length<1099511627776/\∀ z∈r,fZ z) :
  Ans tab (.fn dr [a,b]) H fun v H'=>v=.bool (decide (l=m))/\Kp H H':=by
 refine cL C.facetroomref18_Same (by decide) fun T hl g0 g1=>?_
 by_cases he:l.length=m.length
 ·have lb:lenV b=some (.int .i64 (l.length:Int)):=by rw [hb.lenV,he]
  refine zW (dG hl g0 g1 ha.lenV lb) ?_
  refine cj H [5] (fun k vs H'=>∃ i:Nat,vs=[.int .i64 (i:Int)]/\i+k=l.length/\∀ q (h:q<l.length) (h':q<m.length),q<i->l[q]=m[q]) l.length (by simp only [List.length_set]; exact hl) rfl zK ⟨0,by refine zW (aL hl g0 g1) ?_; rfl,by omega,fun q _ _ h=>by omega⟩ ?_
  rintro k T1 H1 hl1 hs1 hk1 ⟨i,hv,hik,hP⟩
  have w1:=hk1.wf
  have le_hk1:=hk1.le
  simp only [List.map_cons,List.map_nil,List.cons.injEq,and_true] at hv
  have t0:af T1 0=a:=(hs1.at_ 0 (by decide)).trans (zV (aE hl g0))
  have t1:af T1 1=b:=(hs1.at_ 1 (by decide)).trans (zV (aX hl g0 g1 g1))
  by_cases hi:i<l.length
  ·have hii:(i:Int)<(l.length:Int):=by omega
   have hi':i<m.length:=by omega
   obtain ⟨w,hr,hld⟩:=dC (ha.mono hk1.sub) hi
   obtain ⟨w',hr',hld'⟩:=dC (hb.mono hk1.sub) hi'
   have hix:=SlV.idx1 ha .i64 i hi
   have hix':=SlV.idx1 hb .i64 i hi'
   have hzi:=hz _ (List.getElem_mem hi)
   have e:IntKind.i64.wrap ((i:Int)+1)=((i+1:Nat):Int):=by rw [wrap_i64] <;> omega
   refine zW (l5 hl1 hv t0 t1 ha.lenV hii hi) ?_
   refine aW ?_
   refine zD (mU hl1 hv t0 t1 hix hld hix' hld') ?_
   refine AnsH.eq (AD C zF (hr.mono (Kp.sub (H:=H1) zK)) (hr'.mono (Kp.sub (H:=H1) zK)) hzi.1 hzi.2) fun H2 hk2=>?_
   obtain ⟨k12,_,_⟩:=zT H1 zK hk2
   have k2:Kp H H2:=Kp.trans hk1 k12
   have le_k2:=k2.le
   cases hq:decide (l[i]=m[i]) with
   | true =>
    have hq:=of_decide_eq_true hq
    refine zD (nZ hl1 hv t0 t1 hix hld hix' hld' e) ?_
    refine ⟨zK,k-1,by omega,i+1,rfl,by omega,fun q h h' hqi=>?_⟩
    by_cases eq:q=i
    ·subst eq; exact hq
    ·exact hP q h h' (by omega)
   | false =>
    have hq:=of_decide_eq_false hq
    refine zD (nZ hl1 hv t0 t1 hix hld hix' hld' e) ?_
    refine ⟨?_,zK⟩
    rw [decide_eq_false]
    intro e; subst e; exact hq rfl
  ·have hii:¬ (i:Int)<(l.length:Int):=by omega
   refine zW (l5 hl1 hv t0 t1 ha.lenV hii hi) ?_
   refine ⟨?_,zK⟩
   rw [decide_eq_true (rc he fun q h h'=>hP q h h' (by omega))]
 ·have he':¬ (l.length:Int)=(m.length:Int):=by omega
  refine zW (l5 hl g0 g1 ha.lenV hb.lenV he' he) ?_
  refine ⟨?_,zK⟩
  rw [decide_eq_false]
  intro e; subst e; exact he rfl
theorem yO (C:Code tab) (hw:Wf H) {a:AV} {r:List (Bool × List Nat)} {many lim:Nat} (ha:SlV rawE aa H a r) (hm:many<4611686018427387904) :
  Ans tab (.fn cO [a,.int .i64 (many:Int),.int .i64 (lim:Int)]) H fun v H'=>v=.bool (mz many lim r)/\Kp H H':=by
 refine nC C.facetroomref07_Great (by decide) fun T hl g0 g1 g2=>?_
 by_cases he:many<r.length
 ·have he':(many:Int)<(r.length:Int):=by omega
  refine zW (iC hl g0 g1 ha.lenV he' he) ?_
  exact ⟨by unfold mz; rw [decide_eq_true he]; rfl,zK⟩
 ·have he':¬ (many:Int)<(r.length:Int):=by omega
  refine zW (l5 hl g0 g1 g2 ha.lenV he' he) ?_
  refine cj H [7] (fun k vs H'=>∃ i:Nat,vs=[.int .i64 (i:Int)]/\i+k=r.length/\∀ q (h:q<r.length),q<i->¬ lim<(r[q]).2.length) r.length (by simp only [List.length_set]; exact hl) rfl zK ⟨0,by refine zW (aX hl g0 g1 g2) ?_; rfl,by omega,fun q _ h=>by omega⟩ ?_
  rintro k T1 H1 hl1 hs1 hk1 ⟨i,hv,hik,hP⟩
  have w1:=hk1.wf
  have le_hk1:=hk1.le
  simp only [List.map_cons,List.map_nil,List.cons.injEq,and_true] at hv
  have t0:af T1 0=a:=(hs1.at_ 0 (by decide)).trans (zV (aE hl g0))
  have t2:af T1 2=.int .i64 (lim:Int):=(hs1.at_ 2 (by decide)).trans (zV (dG hl g0 g1 g2 g2))
  by_cases hi:i<r.length
  ·have hii:(i:Int)<(r.length:Int):=by omega
   obtain ⟨cs,⟨w,rfl,hn⟩,-,h2,-⟩:=(ha.mono hk1.sub).at (List.getElem?_eq_getElem hi)
   have hld:b9 H1 none (aS a (i*2+1))=some w:=h2 1 w rfl
   have hix:fD 2 a (.int .i64 (i:Int))=some (aS a (i*2)):=SlV.idx ha .i64 i hi
   have hfa:Eu 1 (aS a (i*2))=some (aS a (i*2+1)):=ha.fa (by omega) 1 (i*2)
   have e:IntKind.i64.wrap ((i:Int)+1)=((i+1:Nat):Int):=by rw [wrap_i64] <;> omega
   by_cases hq:lim<(r[i]).2.length
   ·have hq':(lim:Int)<((r[i]).2.length:Int):=by omega
    refine zW (Hb hl1 hv t0 t2 ha.lenV hii hi hix hfa hld hn.lenV hq' hq) ?_
    refine ⟨?_,zK⟩
    unfold mz
    rw [List.any_eq_true.2 ⟨_,List.getElem_mem hi,by rw [decide_eq_true hq]⟩,Bool.or_true]
   ·have hq':¬ (lim:Int)<((r[i]).2.length:Int):=by omega
    refine zW (Ha hl1 hv t0 t2 ha.lenV hii hi hix hfa hld hn.lenV hq' hq e) ?_
    refine ⟨zK,k-1,by omega,i+1,rfl,by omega,fun q h hqi=>?_⟩
    by_cases eq:q=i
    ·subst eq; exact hq
    ·exact hP q h (by omega)
  ·have hii:¬ (i:Int)<(r.length:Int):=by omega
   refine zW (l5 hl1 hv t0 t2 ha.lenV hii hi) ?_
   refine ⟨?_,zK⟩
   have e:(r.any fun z=>decide (lim<z.2.length))=false:=by
    rw [List.any_eq_false]
    intro z hz
    obtain ⟨q,hq,rfl⟩:=List.getElem_of_mem hz
    simpa using hP q hq (by omega)
   unfold mz
   rw [decide_eq_false he,Bool.false_or,e]
theorem rB (C:Code tab) (hw:Wf H) {a:AV} {ls:List (List (Bool × List Nat))} {n many lim:Nat} (ha:gw H a ls) (hn:n<4611686018427387904) (hm:many<4611686018427387904) :
  Ans tab (.fn cp [a,.int .i64 (n:Int),.int .i64 (many:Int),.int .i64 (lim:Int)]) H fun v H'=>v=.bool (cx n many lim ls)/\Kp H H':=by
 refine Ix C.facetroomref18_Great (by decide) fun T hl g0 g1 g2 g3=>?_
 by_cases he:n<ls.length
 ·have he':(n:Int)<(ls.length:Int):=by omega
  refine zW (iC hl g0 g1 ha.lenV he' he) ?_
  exact ⟨by unfold cx; rw [decide_eq_true he]; rfl,zK⟩
 ·have he':¬ (n:Int)<(ls.length:Int):=by omega
  refine zW (mU hl g0 g1 g2 g3 ha.lenV he' he) ?_
  refine cj H [9] (fun k vs H'=>∃ i:Nat,vs=[.int .i64 (i:Int)]/\i+k=ls.length/\∀ q (h:q<ls.length),q<i->mz many lim ls[q]=false) ls.length (by simp only [List.length_set]; exact hl) rfl zK ⟨0,by refine zW (dG hl g0 g1 g2 g3) ?_; rfl,by omega,fun q _ h=>by omega⟩ ?_
  rintro k T1 H1 hl1 hs1 hk1 ⟨i,hv,hik,hP⟩
  have w1:=hk1.wf
  have le_hk1:=hk1.le
  simp only [List.map_cons,List.map_nil,List.cons.injEq,and_true] at hv
  have t0:af T1 0=a:=(hs1.at_ 0 (by decide)).trans (zV (aE hl g0))
  have t2:af T1 2=.int .i64 (many:Int):=(hs1.at_ 2 (by decide)).trans (zV (iC hl g0 g1 g2 g3 g2))
  have t3:af T1 3=.int .i64 (lim:Int):=(hs1.at_ 3 (by decide)).trans (zV (iC hl g0 g1 g2 g3 g3))
  by_cases hi:i<ls.length
  ·have hii:(i:Int)<(ls.length:Int):=by omega
   obtain ⟨w,hr,hld⟩:=qU (ha.mono hk1.sub) hi
   have hix:=SlV.idx1 ha .i64 i hi
   have e:IntKind.i64.wrap ((i:Int)+1)=((i+1:Nat):Int):=by rw [wrap_i64] <;> omega
   refine zW (pK hl1 hv t0 t2 t3 ha.lenV hii hi hix hld) ?_
   refine AnsH.eq (yO C zF (hr.mono (Kp.sub (H:=H1) zK)) hm) fun H2 hk2=>?_
   obtain ⟨k12,_,_⟩:=zT H1 zK hk2
   have k2:Kp H H2:=Kp.trans hk1 k12
   have le_k2:=k2.le
   cases hq:mz many lim ls[i] with
   | true =>
    refine zW hl1 ?_
    refine ⟨?_,zK⟩
    unfold cx
    rw [List.any_eq_true.2 ⟨_,List.getElem_mem hi,hq⟩,Bool.or_true]
   | false =>
    refine zW (aL hl1 hv e) ?_
    refine ⟨zK,k-1,by omega,i+1,rfl,by omega,fun q h hqi=>?_⟩
    by_cases eq:q=i
    ·subst eq; exact hq
    ·exact hP q h (by omega)
  ·have hii:¬ (i:Int)<(ls.length:Int):=by omega
   refine zW (mU hl1 hv t0 t2 t3 ha.lenV hii hi) ?_
   refine ⟨?_,zK⟩
   have e:ls.any (mz many lim)=false:=by
    rw [List.any_eq_false]
    intro z hz
    obtain ⟨q,hq,rfl⟩:=List.getElem_of_mem hz
    rw [hP q hq (by omega)]; simp
   unfold cx
   rw [decide_eq_false he,Bool.false_or,e]
theorem yN (C:Code tab) (hw:Wf H) {a b:AV} {A B:List (List (Bool × List Nat))} (ha:gw H a A) (hb:gw H b B) :
  Ans tab (.fn cN [a,b]) H fun v H'=>v=.bool (cx 4 5 1 A || cx 7 5 1 B)/\Kp H H':=by
 refine cL C.facetroomref20_Great (by decide) fun T hl g0 g1=>?_
 refine zW (aL hl g0 g1) ?_
 refine AnsH.eq (rB C (n:=4) (many:=5) (lim:=1) zF (ha.mono (Kp.sub (H:=H) zK)) (by omega) (by omega)) fun H2 hk2=>?_
 obtain ⟨k2,_,w2⟩:=zT H zK hk2
 cases h:cx 4 5 1 A with
 | true =>
  refine zW (aL hl g0 g1) ?_
  exact ⟨by simp,zK⟩
 | false =>
  refine zW (aL hl g0 g1) ?_
  refine AnsH.eq (rB C (n:=7) (many:=5) (lim:=1) zF (hb.mono (Kp.sub (H:=H) zK)) (by omega) (by omega)) fun H3 hk3=>?_
  obtain ⟨k3,_,_⟩:=zT H zK hk3
  refine zW (aL hl g0 g1) ?_
  exact ⟨by simp,zK⟩
theorem vec_Of (C:Code tab) (hw:Wf H) {l:List Int} {ty:Nat} (hs:vp (Dx .i64) ty H s l) (h64:l.length<=64) (hz:∀ z∈l,-9223372036854775808<=z/\z<9223372036854775808) :
  Ans tab (.fn nu [s]) H fun v H'=>RowV H' v l/\Kp H H':=by
 refine dZ C.vec_Of (by decide) fun T hl g0=>?_
 obtain ⟨cells,hcells⟩:∃ cells,cells=(List.replicate l.length [AV.bool false,AV.nilSl]).flatten:=⟨_,rfl⟩
 have hmk:∀ H':Heap,Er H' (H.next+3) aa 2 32 [.bool false,.nilSl] (.int .i64 (l.length:Int)) (.int .i64 (l.length:Int))=some (.own (H.next+3) 0 l.length l.length 2 true,H'.put (H.next+3) (.cells cells aa true)):=fun H'=>by rw [hcells]; exact jy _ _ _ _ _ _ _ _ _ (by omega) (by omega) rfl
 refine zW (aX hl g0 hs.lenV hmk) ?_
 have hz0:intE.R H [.bool false,.nilSl] 0:=⟨.nilSl,by simp,gn H⟩
 have hcl0:Cells intE H cells (List.replicate l.length 0):=by rw [hcells]; exact qT hz0 _
 refine am H [3] (fun j vs H'=>vs=[.own (H.next+3) 0 l.length l.length 2 true]/\∃ cs,H'.get (H.next+3)=some (.cells cs aa true)/\Cells intE H' cs (l.take j++List.replicate (l.length-j) 0)) (a:=0) (N:=l.length) rfl (by refine zW (aE hl g0) ?_; rfl) (zV (aE hl g0)) (Nat.zero_le _) (by omega) (by simp only [List.length_set,hl]; rfl) rfl (fun j vs H' m ⟨h0,cs,h1,h2⟩=>⟨h0,cs,h1,Cells.mono (E:=intE) ((Sub.bump H' m).t _) h2⟩) zK ⟨by exact zV (aE hl g0),cells,by exact eG,by
  have e:List.take 0 l++List.replicate (l.length-0) 0=List.replicate l.length 0:=by simp
  rw [e]
  exact Cells.mono (E:=intE) zS hcl0⟩ ?_ ?_
 ·rintro j T1 H1 _ hj hl1 hi1 hs1 hk1 ⟨hv,cs,hb1,hc1⟩
  have w1:=hk1.wf
  have le_hk1:=hk1.le
  have le1:=hk1.le
  simp only [List.map_cons,List.map_nil,List.cons.injEq,and_true] at hv
  have t9:af T1 9=s:=(hs1.at_ 9 (by decide)).trans (zV (aE hl g0))
  obtain ⟨w,hr,hld⟩:=SlV.at1 (hs.mono hk1.sub) (List.getElem?_eq_getElem hj)
  have hr:w=.int .i64 l[j]:=hr
  subst hr
  have hix:=SlV.idx1 hs .i64 j hj
  have hzj:=hz _ (List.getElem_mem hj)
  simp only [List.length_set,hl] at hl1
  refine zW (iC hl1 t9 hi1 hix hld hv) ?_
  refine AnsH.use (whole_Of C zF hzj.1 hzj.2) ?_
  rintro v H2 ⟨⟨w,rfl,hn⟩,hk2⟩
  obtain ⟨k2,_,w2⟩:=zT H1 zK hk2
  have ow:=hn.one
  have hb2:=k2.get hb1
  have lt2:=w2 _ _ hb2
  have hclen:cs.length=l.length*2:=by
   have:=hc1.1
   rw [List.length_append,List.length_take,List.length_replicate] at this
   have e:intE.sz=2:=rfl
   rw [e] at this
   rw [this]; congr 1; omega
  have hst:BL (some (.cells cs aa true)) 2 (0+j*2) (.agg [.bool (decide (l[j]<0)),w])=some (.cells (cs.take (0+j*2)++[.bool (decide (l[j]<0)),w]++cs.drop (0+j*2+2)) aa true):=lv (Gm (aT _) ow) (by omega)
  have hio:fD 2 (.own (H.next+3) 0 l.length l.length 2 true) (.int .i64 (j:Int))=some (.ptr (H.next+3) (0+j*2)):=oC hj
  rw [Nat.zero_add] at hst hio
  have hcl2:Cells intE H2 (cs.take (j*2)++[.bool (decide (l[j]<0)),w]++cs.drop (j*2+2)) ((l.take j++List.replicate (l.length-j) 0).set j l[j]):=(Cells.mono (E:=intE) (k2.sub.t _) hc1).set (i:=j) (by simp; omega) ⟨w,rfl,hn⟩
  have elist:(l.take j++List.replicate (l.length-j) 0).set j l[j]=l.take (j+1)++List.replicate (l.length-(j+1)) 0:=by
   have e1:l.length-j=(l.length-(j+1))+1:=by omega
   have e2:j-(List.take j l).length=0:=by simp; omega
   rw [e1,List.replicate_succ,List.set_append,if_neg (by simp; omega),e2,List.set_cons_zero,List.take_succ_eq_append_getElem hj,List.append_assoc]
   rfl
  rw [elist] at hcl2
  have m3:NoTy [ad] H2 (H.next+3):=NoTy.ty hb2 (by decide)
  refine zW (dG hl1 hv hio hb2 hst) ?_
  have kH2:Kp H H2:=hk1.trans k2
  exact ⟨zK,_,rfl,Cells.mono (E:=intE) zS hcl2⟩
 ·rintro T1 H1 hl1 hs1 hk1 ⟨hv,cs,hb1,hc1⟩
  have w1:=hk1.wf
  have le_hk1:=hk1.le
  simp only [List.map_cons,List.map_nil,List.cons.injEq,and_true] at hv
  simp only [List.length_set,hl] at hl1
  refine zW (aE hl1 hv) ?_
  refine ⟨?_,zK⟩
  have e:List.take l.length l++List.replicate (l.length-l.length) 0=l:=by simp
  rw [e] at hc1
  have:Own intE aa H H1 (H.next+3) true (.own (H.next+3) 0 l.length l.length 2 true) l:=⟨cs,rfl,hb1,hc1,by omega⟩
  exact this.sl.mono (Sub.bump H1 _)
end
theorem rJ {β:Type} {P:Nat->β->Prop}:∀ n,(∀ i,i<n->∃ y,P i y)->∃ l:List β,l.length=n/\∀ i (h:i<l.length),P i l[i]
 | 0,_=>⟨[],rfl,fun i h=>by simp at h⟩
 | n+1,h=>by
  obtain ⟨l,h1,h2⟩:=rJ n fun i hi=>h i (by omega)
  obtain ⟨y,hy⟩:=h n (by omega)
  refine ⟨l++[y],by simp [h1],fun i hi=>?_⟩
  by_cases hin:i<l.length
  ·rw [List.getElem_append_left hin]; exact h2 i hin
  ·have:i=n:=by rw [List.length_append] at hi; simp at hi; omega
   subst this
   rw [List.getElem_append_right (by omega)]
   simpa [h1] using hy
theorem Cd {β:Type} {sz:Nat} {f:β->List AV}:∀ (l:List β),(∀ y∈l,(f y).length=sz)->(l.flatMap f).length=l.length*sz/\∀ i (h:i<l.length) k,k<sz->(l.flatMap f)[i*sz+k]? = (f l[i])[k]?
 | [],_=>⟨by simp,fun i h=>by simp at h⟩
 | y :: l,h=>by
  obtain ⟨h1,h2⟩:=Cd l fun z hz=>h z (List.mem_cons_of_mem _ hz)
  have hy:=h y (List.mem_cons_self ..)
  refine ⟨by rw [List.flatMap_cons,List.length_append,h1,hy,List.length_cons,Nat.succ_mul]; omega,fun i hi k hk=>?_⟩
  rw [List.flatMap_cons]
  cases i with
  | zero=>rw [List.getElem?_append_left (by omega)]; simp
  | succ i =>
   rw [List.getElem?_append_right (by rw [Nat.succ_mul]; omega),hy]
   have e:(i+1)*sz+k-sz=i*sz+k:=by rw [Nat.succ_mul]; omega
   rw [e,h2 i (by simpa using hi) k hk]
   simp
section
variable {HT:Type} {enc:TypeId × Value->HT} {P:Program} {w:World} {base:Nat} {sp:Nat->Bool} {held:Bool} {μ:Mu} {F:Nat->Prop} {H:Heap} {α:Type}
theorem xd {E:gy α} {ty:Nat} {good:α->Prop} {t e:TypeId} (hF:∀ c,c<w.heap.size->F c) (ht:P.underlying t=some (.slice e)) (hsz:P.cellsOf e=E.sz)
  (helem:∀ fuel cs x,DataW.trod enc P w base sp held fuel e cs=some x->∃ acs z,LR μ F w acs cs/\E.R H acs z/\good z)
  {fuel:Nat} {cs:List Value} {x:DataW HT × List MemPlace} (h:DataW.trod enc P w base sp held fuel t cs=some x) :
  ∃ v av zs,cs=[v]/\VR μ F w av v/\SlV E ty H av zs/\(∀ z∈zs,good z)/\zs.length<=maxLen:=by
 rcases DataW.trod_slice ht h with ⟨rfl,-⟩ | ⟨a,len,cap,elems,rest,n,-,rfl,-,hb,hl,hc,hlen,hel,-⟩
 ·exact ⟨_,.nilSl,[],rfl,.nilSl,SlV.nil _ _ _,(fun z h=>by cases h),Nat.zero_le _⟩
 ·rcases Nat.eq_zero_or_pos len with h0 | h0
  ·subst h0
   refine ⟨_,.sl [] 0,[],rfl,.sl0 a cap,⟨[],⟨trivial,(fun s h=>by cases h),0,rfl,by simp [aG]⟩,(fun _ _ _ _ _ _ e=>by cases e),by simp,fun i a h=>by simp at h⟩,fun z h=>(by cases h),Nat.zero_le _⟩
  ·have hp:=E.pos
   obtain ⟨L,hL1,hL2⟩:=rJ (P:=fun i (y:List AV × List Value × α)=>w.cells? base (a.add (i*E.sz)) E.sz=some y.2.1/\LR μ F w y.1 y.2.1/\E.R H y.1 y.2.2/\good y.2.2) len fun i hi=>by
    have h1:=hel i hi
    rw [List.getElem?_eq_getElem (by omega),hsz] at h1
    obtain ⟨cs,h2,h3⟩:=Option.bind_eq_some_iff.1 h1
    obtain ⟨acs,z,h4,h5,h6⟩:=helem _ _ _ h3
    exact ⟨(acs,cs,z),h2,h4,h5,h6⟩
   have hsizes:∀ y∈L,y.1.length=E.sz:=fun y hy=>by
    obtain ⟨i,hi,rfl⟩:=List.getElem_of_mem hy
    exact (E.len (hL2 i hi).2.2.1).1
   obtain ⟨hfl,hfa⟩:=Cd (f:=fun y:List AV × List Value × α=>y.1) L hsizes
   have hcell:∀ i (hi:i<L.length) k,k<E.sz->w.cell? (a.add (i*E.sz) |>.add k)=(L[i]).2.1[k]?:=fun i hi k hk=>((World.cells?_some (hL2 i hi).1).2.2 k hk)
   obtain ⟨v0,hv0⟩:∃ v0,w.cell? a=some v0:=by
    have h1:=hcell 0 (by omega) 0 hp
    have h2:=(World.cells?_some (hL2 0 (by omega)).1).2.1
    rw [List.getElem?_eq_getElem (by omega)] at h1
    simp [Addr.add] at h1
    exact ⟨_,h1⟩
   obtain ⟨arr,ety,fr,hblk,hspot⟩:∃ arr ety fr,w.heap[a.block]? = some (.cells arr ety fr)/\a.spot=none:=by
    unfold World.cell? at hv0
    split at hv0
    ·rename_i c ety fr hb
     refine ⟨c,ety,fr,hb,?_⟩
     cases hs:a.spot with
     | none=>rfl
     | some s=>rw [hs] at hv0; simp at hv0
    ·cases hv0
   obtain ⟨blk,off,spot⟩:=a
   simp only at hspot hblk hb
   subst hspot
   have hat:∀ i (hi:i<L.length) k,k<E.sz->arr[off+(i*E.sz+k)]? = (L[i]).2.1[k]?:=fun i hi k hk=>by
    rw [<- hcell i hi k hk]
    have e:((⟨blk,off,none⟩:Addr).add (i*E.sz) |>.add k)=⟨blk,off+(i*E.sz+k),none⟩:=by
     unfold Addr.add
     by_cases h1:i*E.sz=0
     ·by_cases h2:k=0
      ·simp [h1,h2]
      ·simp [h1,h2]
     ·by_cases h2:k=0
      ·simp [h1,h2]
      ·simp [h1,h2]; omega
    rw [e]
    simp [World.cell?,hblk]
   have hvl:∀ i (hi:i<L.length),(L[i]).2.1.length=E.sz:=fun i hi=>(World.cells?_some (hL2 i hi).1).2.1
   have hsize:off+(L.flatMap fun y=>y.1).length<=arr.size:=by
    have h1:=hat (len-1) (by omega) (E.sz-1) (by omega)
    rw [List.getElem?_eq_getElem (by have:=hvl (len-1) (by omega); omega)] at h1
    have h2:=(Array.getElem?_eq_some_iff.1 h1).1
    rw [hfl,hL1]
    have h3:len*E.sz=(len-1)*E.sz+E.sz:=by
     obtain ⟨m,rfl⟩:∃ m,len=m+1:=⟨len-1,by omega⟩
     rw [Nat.succ_mul,Nat.add_sub_cancel]
    omega
   refine ⟨_,.sl (L.flatMap fun y=>y.1) len,L.map fun y=>y.2.2,rfl,.sl _ _ _ blk off arr ety fr (hF _ (Array.getElem?_eq_some_iff.1 hblk).1) hblk hl hsize fun j c v hc hv=>?_,⟨L.flatMap fun y=>y.1,⟨trivial,(fun s h=>by cases h),len,rfl,?_⟩,(fun _ _ _ _ _ _ e=>by cases e),?_,fun i z hz=>?_⟩,fun z hz=>?_,by rw [List.length_map,hL1]; omega⟩
   ·have hj:=(List.getElem?_eq_some_iff.1 hc).1
    rw [hfl] at hj
    have hi:j / E.sz<L.length:=(Nat.div_lt_iff_lt_mul hp).2 hj
    have hk:j % E.sz<E.sz:=Nat.mod_lt _ hp
    have hjk:j / E.sz*E.sz+j % E.sz=j:=Nat.div_add_mod' j E.sz
    have h1:=hfa _ hi _ hk
    have h2:=hat _ hi _ hk
    rw [hjk] at h1 h2
    rw [hc] at h1
    rw [hv] at h2
    exact (hL2 _ hi).2.1.2 _ _ _ h1.symm h2.symm
   ·simp only [aG]
    rw [if_pos ⟨Nat.le_refl _,by rw [hfl,hL1]; exact Nat.le_refl _⟩,List.take_of_length_le (by rw [hfl,hL1]; exact Nat.le_refl _)]
   ·rw [hfl,List.length_map]
   ·rw [List.getElem?_map,Option.map_eq_some_iff] at hz
    obtain ⟨y,hy,rfl⟩:=hz
    obtain ⟨hi,rfl⟩:=List.getElem?_eq_some_iff.1 hy
    have e:(((L.flatMap fun y=>y.1).drop (i*E.sz)).take E.sz)=L[i].1:=by
     apply List.ext_getElem?
     intro k
     rw [List.getElem?_take]
     have hl1:=hsizes _ (List.getElem_mem hi)
     split
     ·rename_i hk
      rw [List.getElem?_drop]; exact hfa i hi k hk
     ·exact (List.getElem?_eq_none (by omega)).symm
    rw [e]
    exact (hL2 i hi).2.2.1
   ·obtain ⟨y,hy,rfl⟩:=List.mem_map.1 hz
    obtain ⟨i,hi,rfl⟩:=List.getElem_of_mem hy
    exact (hL2 i hi).2.2.2
theorem CU {t:TypeId} (ht:P.underlying t=some (.int .u64)) {fuel:Nat} {cs:List Value} {x:DataW HT × List MemPlace} (h:DataW.trod enc P w base sp held fuel t cs=some x) :
  ∃ acs z,LR μ F w acs cs/\(bB bY).R H acs z/\z<18446744073709551616:=by
 obtain ⟨n,rfl,-,hw⟩:=DataW.trod_int ht h
 have hr:0<=n/\n<18446744073709551616:=by
  have h1:IntKind.u64.min=0:=by decide
  have h2:IntKind.u64.max=18446744073709551615:=by decide
  unfold Lit.wf at hw
  simp [h1,h2] at hw
  omega
 refine ⟨[.int .u64 n],n.toNat,LR.cons (.int _ _) LR.nil,⟨_,rfl,?_⟩,by omega⟩
 show AV.int .u64 n=.int .u64 (n.toNat:Int)
 rw [Int.toNat_of_nonneg hr.1]
theorem Fm {t e:TypeId} (hF:∀ c,c<w.heap.size->F c) (ht:P.underlying t=some (.slice e)) (he:P.underlying e=some (.int .u64)) (hsz:P.cellsOf e=1) {fuel:Nat} {cs:List Value} {x:DataW HT × List MemPlace} (h:DataW.trod enc P w base sp held fuel t cs=some x) :
  ∃ v av zs,cs=[v]/\VR μ F w av v/\SlV (bB bY) ad H av zs/\(∀ z∈zs,z<18446744073709551616)/\zs.length<=maxLen :=
 xd (E:=bB bY) hF ht hsz (fun fuel cs x h=>CU he h) h
def xQ (z:Bool × List Nat):Prop:=(∀ x∈z.2,x<18446744073709551616)/\z.2.length<=maxLen
theorem Fl {t e:TypeId} {fs:Array Field} {f0 f1:Field} (hF:∀ c,c<w.heap.size->F c) (ht:P.underlying t=some (.struct fs)) (hfs:fs = #[f0,f1]) (h0:f0.offset=0) (h1:f1.offset=1) (hc:P.cellsOf t=2) (hb:P.underlying f0.type=some .bool) (hcb:P.cellsOf f0.type=1) (hn:P.underlying f1.type=some (.slice e)) (hcn:P.cellsOf f1.type=1) (he:P.underlying e=some (.int .u64)) (hce:P.cellsOf e=1)
  {fuel:Nat} {cs:List Value} {x:DataW HT × List MemPlace} (h:DataW.trod enc P w base sp held fuel t cs=some x) :
  ∃ acs z,LR μ F w acs cs/\rawE.R H acs z/\xQ z:=by
 subst hfs
 obtain ⟨xs,n,-,-,hl,hxl,hx⟩:=DataW.trod_struct ht h
 have hxl:xs.length=2:=by simpa using hxl
 rw [hc] at hl
 match cs,hl with
 | [c0,c1],_ =>
  have e0:=hx 0 f0 rfl
  have e1:=hx 1 f1 rfl
  rw [List.getElem?_eq_getElem (by omega),h0,hcb] at e0
  rw [List.getElem?_eq_getElem (by omega),h1,hcn] at e1
  obtain ⟨b,g0,-⟩:=DataW.trod_bool hb e0
  obtain ⟨v,av,zs,g1,g2,g3,g4,g5⟩:=Fm (H:=H) (μ:=μ) hF hn he hce e1
  have q0:c0=.bool b:=by simpa using g0
  have q1:c1=v:=by simpa using g1
  clear g0 g1
  subst q0; subst q1
  exact ⟨[.bool b,av],(b,zs),LR.cons (.bool _) (LR.cons g2 LR.nil),⟨av,rfl,g3⟩,g4,g5⟩
structure RowTys (P:Program) (tvs tv ti te:TypeId):Prop where
 vs:P.underlying tvs=some (.slice tv)
 cv:P.cellsOf tv=1
 v:P.underlying tv=some (.slice ti)
 ci:P.cellsOf ti=2
 i:∃ f0 f1:Field,P.underlying ti=some (.struct #[f0,f1])/\f0.offset=0/\f1.offset=1/\P.underlying f0.type=some .bool/\P.cellsOf f0.type=1/\P.underlying f1.type=some (.slice te)/\P.cellsOf f1.type=1
 e:P.underlying te=some (.int .u64)
 ce:P.cellsOf te=1
abbrev MS (H:Heap) (v:AV) (l:List (Bool × List Nat)):Prop:=SlV rawE aa H v l
def gQ (l:List (Bool × List Nat)):Prop:=(∀ z∈l,xQ z)/\l.length<=maxLen
theorem Fk {tvs tv ti te:TypeId} (hP:RowTys P tvs tv ti te) (hF:∀ c,c<w.heap.size->F c) {fuel:Nat} {cs:List Value} {x:DataW HT × List MemPlace} (h:DataW.trod enc P w base sp held fuel tv cs=some x) :
  ∃ v av l,cs=[v]/\VR μ F w av v/\MS H av l/\gQ l:=by
 obtain ⟨f0,f1,i1,i2,i3,i4,i5,i6,i7⟩:=hP.i
 obtain ⟨v,av,l,g1,g2,g3,g4,g5⟩:=xd (E:=rawE) (ty:=aa) (H:=H) (μ:=μ) (good:=xQ) hF hP.v hP.ci (fun fuel cs x h=>Fl hF i1 rfl i2 i3 hP.ci i4 i5 i6 i7 hP.e hP.ce h) h
 exact ⟨v,av,l,g1,g2,g3,g4,g5⟩
theorem CT {tvs tv ti te:TypeId} (hP:RowTys P tvs tv ti te) (hF:∀ c,c<w.heap.size->F c) {fuel:Nat} {cs:List Value} {x:DataW HT × List MemPlace} (h:DataW.trod enc P w base sp held fuel tvs cs=some x) :
  ∃ v av l,cs=[v]/\VR μ F w av v/\gw H av l/\(∀ r∈l,gQ r)/\l.length<=maxLen :=
 xd (E:=bB (oN rawE aa)) (ty:=ae) (good:=gQ) hF hP.vs hP.cv (fun fuel cs x h=>by
  obtain ⟨v,av,l,rfl,g2,g3,g4⟩:=Fk (H:=H) (μ:=μ) hP hF h
  exact ⟨[av],l,LR.cons g2 LR.nil,⟨av,rfl,g3⟩,g4⟩) h
end
def iz (z:Bool × List Nat):Int:=if z.1=true then -(val z.2:Int) else (val z.2:Int)
theorem vW:∀ {z:Bool × List Nat},nV z=false->Lim z.2->kC (iz z)=z
 | (b,l),hb,hl=>by
  simp only [nV,Bool.or_eq_false_iff,decide_eq_false_iff_not,Bool.and_eq_false_iff] at hb
  obtain ⟨h1,h2⟩:=hb
  have hn:Ez l:=h1
  have hv:=re hl hn
  cases b with
  | false =>
   have e:iz (false,l)=(val l:Int):=rfl
   rw [e]
   unfold kC
   rw [decide_eq_false (by omega),Int.natAbs_natCast,hv]
  | true =>
   have e:iz (true,l) = -(val l:Int):=rfl
   have hne:l≠[]:=fun e=>by subst e; simp at h2
   have hp:0<B^(l.length-1):=Nat.pow_pos (by decide)
   have hq:=sQ hn hne
   rw [e]
   unfold kC
   rw [decide_eq_true (by omega),Int.natAbs_neg,Int.natAbs_natCast,hv]
theorem SlV.int {ty:Nat} {H:Heap} {v:AV} {l:List (Bool × List Nat)} (h:SlV rawE ty H v l) (hb:∀ z∈l,nV z=false/\Lim z.2):SlV intE ty H v (l.map iz):=by
 obtain ⟨cells,hr,ht,hc,ha⟩:=h
 refine ⟨cells,hr,ht,by rw [hc,List.length_map]; rfl,fun i a hi=>?_⟩
 rw [List.getElem?_map,Option.map_eq_some_iff] at hi
 obtain ⟨z,hz,rfl⟩:=hi
 obtain ⟨w,h1,h2⟩:=ha i z hz
 have hm:=hb z (List.mem_of_getElem? hz)
 have e:=vW hm.1 hm.2
 have e1:decide (iz z<0)=z.1:=congrArg Prod.fst e
 have e2:ag (iz z).natAbs=z.2:=congrArg Prod.snd e
 refine ⟨w,by rw [e1]; exact h1,?_⟩
 show Lb H w (ag (iz z).natAbs)
 rw [e2]; exact h2
theorem FF {H:Heap} {v:AV} {l:List (List (Bool × List Nat))} (h:gw H v l) (hb:∀ r∈l,∀ z∈r,nV z=false/\Lim z.2):cr H v (l.map fun r=>r.map iz):=by
 obtain ⟨cells,hr,ht,hc,ha⟩:=h
 refine ⟨cells,hr,ht,by rw [hc,List.length_map]; rfl,fun i a hi=>?_⟩
 rw [List.getElem?_map,Option.map_eq_some_iff] at hi
 obtain ⟨z,hz,rfl⟩:=hi
 obtain ⟨w,h1,h2⟩:=ha i z hz
 exact ⟨w,h1,SlV.int h2 (hb z (List.mem_of_getElem? hz))⟩
section
open Go.ChangeShapes Go.WideShapes
variable {HT:Type} {enc:TypeId × Value->HT} {P:Program} {w:World} {base base':Nat} {sp:Nat->Bool} {held:Bool} {μ:Mu} {F:Nat->Prop} {H:Heap}
theorem open_rows {tvs tv ti te:TypeId} (hP:RowTys P tvs tv ti te) (hF:∀ c,c<w.heap.size->F c) {r:Reach} {v:Value} {d:DataW HT} {ps:List MemPlace} (hval:Value.okWide P w r base' tvs v) (hd:DataW.Trod enc P w base sp held tvs v d ps) :
  ∃ av l,VR μ F w av v/\gw H av l/\(∀ r∈l,gQ r)/\l.length<=maxLen:=by
 obtain ⟨a,n,c,rfl⟩:=okWide_slice hP.vs hval
 obtain ⟨fuel,h⟩:=hd
 obtain ⟨v',av,l,e,g⟩:=CT (H:=H) (μ:=μ) hP hF h
 have e:v'=.slice a n c:=by simpa [Value.cells] using e.symm
 subst e
 exact ⟨av,l,g⟩
end
theorem int_range {n:Int} (h:(Lit.int .i64 n).wf=true) : -9223372036854775808<=n/\n<9223372036854775808:=by
 have h1:IntKind.i64.min = -9223372036854775808:=by decide
 have h2:IntKind.i64.max=9223372036854775807:=by decide
 unfold Lit.wf at h
 simp [h1,h2] at h
 omega
theorem wf_nil:Wf (Heap.nil 0):=fun b e h=>by rw [Tr.nil_get] at h; cases h
theorem lU {H:Heap} {b:Nat} {x y:Int} {r:Bool} (h:H.get b=some (.cells [.int .i64 x,.int .i64 y] dA r)):vp (Dx .i64) dA H (.own b 0 2 2 1 true) [x,y] :=
 ⟨[_,_],Rd.own h rfl (Nat.le_refl _),fun _ _ _ _ _ _ e=>by cases e; exact ⟨_,_,h⟩,rfl,fun i a hi=>by
  match i with
  | 0=>simp at hi; subst hi; exact ⟨_,rfl,rfl⟩
  | 1=>simp at hi; subst hi; exact ⟨_,rfl,rfl⟩
  | i+2=>simp at hi⟩
def Emp (H:Heap) (a e:Nat):Prop:=e<=H.next/\∀ c,a<=c->c<e->H.get c=none
theorem Emp.start {H:Heap} (hw:Wf H) {k:Nat}:Emp (H.up k) H.next (H.next+k):=⟨Nat.le_refl _,fun c h _=>hw.fresh h⟩
theorem Emp.next {G H2:Heap} {a e p a':Nat} {x:Ent} (hf:Emp G a e) (hk:Kp (G.put p x) H2) (hp:p<a') (ha:a<=a'):Emp H2 a' e :=
 ⟨Nat.le_trans hf.1 hk.le,fun c h1 h2=>hk.free (by rw [next_put]; exact Nat.lt_of_lt_of_le h2 hf.1) (by rw [aw (by omega)]; exact hf.2 c (by omega) h2)⟩
theorem Emp.keep {G H2:Heap} {a e:Nat} (hf:Emp G a e) (hk:Kp G H2):Emp H2 a e :=
 ⟨Nat.le_trans hf.1 hk.le,fun c h1 h2=>hk.free (Nat.lt_of_lt_of_le h2 hf.1) (hf.2 c h1 h2)⟩
theorem Emp.sub {G:Heap} {a e p:Nat} {x:Ent} (hf:Emp G a e) (h1:a<=p) (h2:p<e):Sub G (G.put p x):=ca (hf.2 p h1 h2)
section
variable {tab:Nat->Option au} {H:Heap} {s:AV}
theorem jO (C:Code tab) (hw:Wf H) {x y:Int} (hx : -9223372036854775808<=x/\x<9223372036854775808) (hy : -9223372036854775808<=y/\y<9223372036854775808) :
  Ans tab (.fn bF [.int .i64 x,.int .i64 y]) H fun v H'=>cr H' v [[x,y]]/\Kp H H':=by
 refine cL C.facetroomlaw20_one (by decide) fun T hl g0 g1=>?_
 refine zW (aL hl g0 g1) ?_
 refine AnsH.use (vec_Of C (l:=[x,y]) zF (lU (by refine sM ?_; rfl)) (by simp) (by simp [hx,hy])) ?_
 rintro v H2 ⟨hr,hk2⟩
 obtain ⟨k2,_,w2⟩:=zT H zK hk2
 have ov:=hr.one
 have f4:H2.get (H.next+5)=none:=hk2.free (by refine sM ?_; omega) (by refine sM ?_; exact hw.fresh (by omega))
 have lt4:H.next+7<=H2.next:=hk2.le
 refine zW (aL hl g0 g1) ?_
 refine ⟨?_,zK⟩
 exact Ip (E:=intE) (t1:=aa) hr (ca f4) (aK _ _ _)
theorem nA (C:Code tab) (hw:Wf H) {va vb vc vd:AV} {E I L R:List (List Int)} {m:Nat} (ha:cr H va E) (hb:cr H vb I) (hc:cr H vc L) (hd:cr H vd R) (he:E.length<=1024) (hi:I.length<=20) (h1:∀ a∈E,a.length=2/\Lin.Bd (2^m) a) (h2:∀ a∈I,a.length=2/\Lin.Bd (2^m) a) (hm:m<=3000) :
  Ans tab (.fn bO [va,vb,vc,vd]) H fun v H'=>v=.bool (decide (Lin.gensL 2 E I=L) && decide (Lin.gensR 2 E I=R))/\Kp H H':=by
 obtain ⟨o1,o2⟩:=sP (d:=2) (m:=m) (by omega) (by omega) h1 h2
 refine Ix C.facetroomlaw20_gives (by decide) fun T hl g0 g1 g2 g3=>?_
 refine zW (aL hl g0 g1) ?_
 refine AnsH.use (cone_Gens C (d:=2) (m:=m) zF (ha.mono (Kp.sub (H:=H) zK)) (hb.mono (Kp.sub (H:=H) zK)) (by omega) (by omega) he hi h1 h2 (by omega)) ?_
 rintro v H2 ⟨p,q,rfl,hp,hq,hk2⟩
 obtain ⟨k2,_,w2⟩:=zT H zK hk2
 refine zW (l5 hl g0 g1 g2 g3 g2 g3) ?_
 refine AnsH.eq (mg C zF (hp.mono (Kp.sub (H:=H2) zK)) (hc.mono (Kp.sub (H:=H) zK)) ?_ ?_) fun H3 hk3=>?_
 ·have:=mA (Lin.gens_told (d:=2) (fun a ha=>(h1 a ha).1) (fun a ha=>(h2 a ha).1)).form
  omega
 ·exact fun r hr=>⟨by rw [(o1 r hr).1]; omega,fun z hz=>(l3 (o1 r hr).2 z hz).sm (by omega)⟩
 obtain ⟨k3,_,_⟩:=zT H zK hk3
 have k23:Kp H2 H3:=Kp.trans zK hk3
 have le_k23:=k23.le
 have w3:=k3.wf
 cases hs:decide (Lin.gensL 2 E I=L) with
 | false =>
  refine zW (dG hl g0 g1 g2 g3) ?_
  exact zK
 | true =>
  refine zW (iC hl g0 g1 g2 g3 g3) ?_
  refine AnsH.eq (mg C zF ((hq.mono k23.sub).mono (Kp.sub (H:=H3) zK)) (hd.mono (Kp.sub (H:=H) zK)) ?_ ?_) fun H4 hk4=>?_
  ·have:=(Lin.gens_told (d:=2) (fun a ha=>(h1 a ha).1) (fun a ha=>(h2 a ha).1)).dd.count
   have hp:2^I.length<=2^20:=Nat.pow_le_pow_right (by decide) hi
   have hp2:(2:Nat)^20=1048576:=by decide
   omega
  ·exact fun r hr=>⟨by rw [(o2 r hr).1]; omega,fun z hz=>(l3 (o2 r hr).2 z hz).sm (by omega)⟩
  obtain ⟨k4,_,_⟩:=zT H zK hk4
  refine zW (dG hl g0 g1 g2 g3) ?_
  exact zK
end
end Go.Proofs.YtichbdepocojaaaGreat.Ev
namespace Go.Proofs.YtichbdepocojaaaGreat.Lin
set_option linter.all false
theorem bd_small {x:V} (h:x.all (fun a=>decide (a.natAbs<=2))=true):Bd (2^1) x:=fun i=>by
 by_cases hi:i<x.length
 ·have:at_ x i=x[i]:=by simp [at_,hi]
  rw [this]
  simpa using List.all_eq_true.1 h _ (List.getElem_mem hi)
 ·have:at_ x i=0:=by simp [at_,hi]
  rw [this]; simp
theorem ex1:gensL 2 [] [[1,0],[0,1]]=[]/\gensR 2 [] [[1,0],[0,1]]=[[0,1],[1,0]]:=by
 have r:(gensU 2 [] [[1,0],[0,1]]).rays.map (restF (gensL 2 [] [[1,0],[0,1]]))=[[1,0],[0,1]]:=by decide +kernel
 refine ⟨by decide +kernel,?_⟩
 unfold gensR; rw [r]
 simp [List.mergeSort,List.MergeSort.Internal.splitInTwo,cmpV]
theorem ex2:gensL 2 [] [[1,1]]=[[-1,1]]/\gensR 2 [] [[1,1]]=[[1,0]]:=by
 have r:(gensU 2 [] [[1,1]]).rays.map (restF (gensL 2 [] [[1,1]]))=[[1,0]]:=by decide +kernel
 refine ⟨by decide +kernel,?_⟩
 unfold gensR; rw [r]; simp
theorem ex3:gensL 2 [[0,1]] [[1,0]]=[]/\gensR 2 [[0,1]] [[1,0]]=[[1,0]]:=by
 have r:(gensU 2 [[0,1]] [[1,0]]).rays.map (restF (gensL 2 [[0,1]] [[1,0]]))=[[1,0]]:=by decide +kernel
 refine ⟨by decide +kernel,?_⟩
 unfold gensR; rw [r]; simp
end Go.Proofs.YtichbdepocojaaaGreat.Lin
namespace Go.Proofs.YtichbdepocojaaaGreat.Ev
open Go Nn
set_option linter.all false
theorem Emp.put {G:Heap} {a e p a':Nat} {x:Ent} (hf:Emp G a e) (hp:p<a') (ha:a<=a'):Emp (G.put p x) a' e :=
 ⟨hf.1,fun c h1 h2=>by rw [aw (by omega)]; exact hf.2 c (by omega) h2⟩
theorem xl {A:List (List Int)} (h:A.all (fun x=>decide (x.length=2) && x.all (fun a=>decide (a.natAbs<=2)))=true):∀ a∈A,a.length=2/\Lin.Bd (2^1) a:=fun a ha=>by
 have:=List.all_eq_true.1 h a ha
 simp only [Bool.and_eq_true,decide_eq_true_eq] at this
 exact ⟨this.1,Lin.bd_small this.2⟩
section
variable {tab:Nat->Option au} {H:Heap} {s:AV}
theorem za (C:Code tab) (hw:Wf H):Ans tab (.fn cQ []) H fun v H'=>v=.bool true/\Kp H H':=by
 refine ML C.facetroomlaw20_alive fun T hl=>?_
 refine zW hl ?_
 have e0:Emp (H.up 13) H.next (H.next+13):=Emp.start hw
 refine AnsH.use (vec_Of C (l:=[1,0]) zF (lU (by refine sM ?_; rfl)) (by simp) (by simp)) ?_
 rintro v3 H2 ⟨r3,hk2⟩
 obtain ⟨k2,_,w2⟩:=zT H zK hk2
 have e2:Emp H2 (H.next+2) (H.next+13):=(e0.put (by omega) (by omega)).keep hk2
 have n2:=e2.1
 have o3:=r3.one
 refine zW hl ?_
 refine AnsH.use (vec_Of C (l:=[0,1]) zF (lU (by refine sM ?_; rfl)) (by simp) (by simp)) ?_
 rintro v5 H3 ⟨r5,hk3⟩
 obtain ⟨k3,_,w3⟩:=zT H zK hk3
 have e3:Emp H3 (H.next+4) (H.next+13):=(e2.put (by omega) (by omega)).keep hk3
 have n3:=e3.1
 have s23:Sub H2 H3:=(e2.sub (p:=H.next+3) (by omega) (by omega)).trans hk3.sub
 have o5:=r5.one
 refine zW hl ?_
 obtain ⟨G3,hG3⟩:∃ G,G=H3.put (H.next+5) (.cells [v3,v5] ae true):=⟨_,rfl⟩
 rw [<- hG3]
 have e3':Emp G3 (H.next+6) (H.next+13):=by rw [hG3]; exact e3.put (by omega) (by omega)
 have s3:Sub H3 G3:=by rw [hG3]; exact e3.sub (by omega) (by omega)
 have k3':Kp H G3:=by rw [hG3]; exact zK
 have w3':=k3'.wf
 have n3':=e3'.1
 have R1:cr G3 (.own (H.next+5) 0 2 2 1 true) [[1,0],[0,1]]:=q9 (E:=intE) (t1:=aa) (r3.mono s23) r5 s3 (by rw [hG3]; exact aK _ _ _)
 refine AnsH.use (vec_Of C (l:=[0,1]) zF (lU (by refine sM ?_; rfl)) (by simp) (by simp)) ?_
 rintro v8 H4 ⟨r8,hk4⟩
 obtain ⟨k4,_,w4⟩:=zT H zK hk4
 have e4:Emp H4 (H.next+7) (H.next+13):=(e3'.put (by omega) (by omega)).keep hk4
 have n4:=e4.1
 have s4:Sub G3 H4:=(e3'.sub (p:=H.next+6) (by omega) (by omega)).trans hk4.sub
 have o8:=r8.one
 refine zW hl ?_
 refine AnsH.use (vec_Of C (l:=[1,0]) zF (lU (by refine sM ?_; rfl)) (by simp) (by simp)) ?_
 rintro eU H5 ⟨r10,hk5⟩
 obtain ⟨k5,_,w5⟩:=zT H zK hk5
 have e5:Emp H5 (H.next+9) (H.next+13):=(e4.put (by omega) (by omega)).keep hk5
 have n5:=e5.1
 have s5:Sub H4 H5:=(e4.sub (p:=H.next+8) (by omega) (by omega)).trans hk5.sub
 have o10:=r10.one
 refine zW hl ?_
 obtain ⟨G5,hG5⟩:∃ G,G=H5.put (H.next+10) (.cells [v8,eU] ae true):=⟨_,rfl⟩
 rw [<- hG5]
 have s5':Sub H5 G5:=by rw [hG5]; exact e5.sub (by omega) (by omega)
 have k5':Kp H G5:=by rw [hG5]; exact zK
 have w5':=k5'.wf
 have n5':H5.next=G5.next:=by rw [hG5]; rfl
 have R2:cr G5 (.own (H.next+10) 0 2 2 1 true) [[0,1],[1,0]]:=q9 (E:=intE) (t1:=aa) (r8.mono s5) r10 s5' (by rw [hG5]; exact aK _ _ _)
 have R1':=R1.mono ((s4.trans s5).trans s5')
 refine AnsH.eq (nA C (m:=1) zF (SlV.nil _ _ _) R1' (SlV.nil _ _ _) R2 (by simp) (by simp) (by simp) (xl (by decide)) (by omega)) fun H6 hk6=>?_
 obtain ⟨k6,_,w6⟩:=zT H zK hk6
 rw [decide_eq_true Lin.ex1.1,decide_eq_true Lin.ex1.2]
 refine zW hl ?_
 refine AnsH.use (jO C (x:=1) (y:=1) zF (by omega) (by omega)) ?_
 rintro kU H7 ⟨r15,hk7⟩
 obtain ⟨k7,_,w7⟩:=zT H zK hk7
 refine zW hl ?_
 refine AnsH.use (jO C (x:=-1) (y:=1) zF (by omega) (by omega)) ?_
 rintro l8 H8 ⟨r16,hk8⟩
 obtain ⟨k8,_,w8⟩:=zT H zK hk8
 refine zW hl ?_
 refine AnsH.use (jO C (x:=1) (y:=0) zF (by omega) (by omega)) ?_
 rintro l6 H9 ⟨r17,hk9⟩
 obtain ⟨k9,_,w9⟩:=zT H zK hk9
 refine zW hl ?_
 refine AnsH.eq (nA C (m:=1) zF (SlV.nil _ _ _) (r15.mono (hk8.sub.trans hk9.sub)) (r16.mono hk9.sub) r17 (by simp) (by simp) (by simp) (xl (by decide)) (by omega)) fun H10 hk10=>?_
 obtain ⟨k10,_,w10⟩:=zT H zK hk10
 rw [decide_eq_true Lin.ex2.1,decide_eq_true Lin.ex2.2]
 refine zW hl ?_
 refine AnsH.use (jO C (x:=0) (y:=1) zF (by omega) (by omega)) ?_
 rintro tj H11 ⟨r21,hk11⟩
 obtain ⟨k11,_,w11⟩:=zT H zK hk11
 refine zW hl ?_
 refine AnsH.use (jO C (x:=1) (y:=0) zF (by omega) (by omega)) ?_
 rintro tg H12 ⟨r22,hk12⟩
 obtain ⟨k12,_,w12⟩:=zT H zK hk12
 refine zW hl ?_
 refine AnsH.use (jO C (x:=1) (y:=0) zF (by omega) (by omega)) ?_
 rintro yh H13 ⟨r23,hk13⟩
 obtain ⟨k13,_,w13⟩:=zT H zK hk13
 refine zW hl ?_
 refine AnsH.eq (nA C (m:=1) zF (r21.mono (hk12.sub.trans hk13.sub)) (r22.mono hk13.sub) (SlV.nil _ _ _) r23 (by simp) (by simp) (xl (by decide)) (xl (by decide)) (by omega)) fun H14 hk14=>?_
 obtain ⟨k14,_,w14⟩:=zT H zK hk14
 have n14:H6.next+20<=H14.next:=Nat.le_trans hk7.le (Nat.le_trans hk8.le (Nat.le_trans hk9.le (Nat.le_trans hk10.le (Nat.le_trans hk11.le (Nat.le_trans hk12.le (Nat.le_trans hk13.le hk14.le))))))
 rw [decide_eq_true Lin.ex3.1,decide_eq_true Lin.ex3.2]
 refine zW hl ?_
 refine AnsH.use (vec_Of C (l:=[1,2]) zF (lU (by refine sM ?_; rfl)) (by simp) (by simp)) ?_
 rintro yo H15 ⟨r28,hk15⟩
 obtain ⟨k15,_,_⟩:=zT H zK hk15
 have l28:lenV yo=some (.int .i64 2):=r28.lenV
 refine zW (aE hl l28) ?_
 exact zK
theorem y9 (C:Code tab) (hw:Wf H) {a b:AV} {A B:List (List (Bool × List Nat))} {d:Int} (ha:gw H a A) (hb:gw H b B) :
  Ans tab (.fn cP [.int .i64 d,a,b]) H fun v H'=>v=.bool (cx 4 5 1 A || cx 7 5 1 B || decide (5<d))/\Kp H H':=by
 refine nC C.facetroomlaw20_great (by decide) fun T hl g0 g1 g2=>?_
 refine zW (aX hl g0 g1 g2) ?_
 refine AnsH.eq (yN C zF (ha.mono (Kp.sub (H:=H) zK)) (hb.mono (Kp.sub (H:=H) zK))) fun H2 hk2=>?_
 obtain ⟨k2,_,_⟩:=zT H zK hk2
 cases h:cx 4 5 1 A || cx 7 5 1 B with
 | true =>
  refine zW (aE hl g0) ?_
  exact ⟨by simp,zK⟩
 | false =>
  refine zW (aE hl g0) ?_
  exact ⟨by simp,zK⟩
structure wS (d n:Nat) (l:List (List Int)):Prop where
 len:l.length<=n
 row:∀ a∈l,a.length=d/\Lin.Bd (2^64) a
theorem ME {z:Bool × List Nat} (h1:¬ 1<z.2.length) (hl:Lim z.2):(iz z).natAbs<=2^64:=by
 have h2:=qL hl
 have h3:B^z.2.length<=B^1:=Nat.pow_le_pow_right (by decide) (by omega)
 have h4:B^1=2^64:=by decide
 unfold iz
 split
 ·rw [Int.natAbs_neg,Int.natAbs_natCast]; omega
 ·rw [Int.natAbs_natCast]; omega
theorem eK {n m k:Nat} {A:List (List (Bool × List Nat))} (h:cx n m k A=false):A.length<=n/\∀ r∈A,r.length<=m/\∀ z∈r,¬ k<z.2.length:=by
 simp only [cx,Bool.or_eq_false_iff,decide_eq_false_iff_not,List.any_eq_false,Bool.not_eq_true] at h
 refine ⟨by omega,fun r hr=>?_⟩
 have:=h.2 r hr
 simp only [mz,Bool.or_eq_false_iff,decide_eq_false_iff_not,List.any_eq_false,Bool.not_eq_true] at this
 exact ⟨by omega,fun z hz=>by simpa using this.2 z hz⟩
theorem kX {A:List (List (Bool × List Nat))} (h:bi A=0):∀ r∈A,(∀ z∈r,nV z=false)/\0<r.length/\r.length=(A.headD []).length:=fun r hr=>by
 unfold bi at h
 split at h
 ·cases h
 ·split at h
  ·cases h
  ·rename_i h2
   split at h
   ·cases h
   ·rename_i h3
    rw [Bool.not_eq_true,List.any_eq_false] at h2 h3
    have e2:=h2 r hr
    have e3:=h3 r hr
    simp only [qI,FT,Bool.or_eq_true,Bool.not_eq_true',decide_eq_true_eq,not_or,Bool.not_eq_false,Bool.and_eq_true,List.any_eq_false] at e2
    refine ⟨fun z hz=>by simpa using e2.1.2 z hz,by omega,?_⟩
    simpa using e3
theorem vU {v:AV} {A:List (List (Bool × List Nat))} {n:Nat} (ha:gw H v A) (gA:∀ r∈A,gQ r) (h1:cx n 5 1 A=false) (hc:bi A=0) :
  ∃ E,cr H v E/\A=E.map (fun r=>r.map kC)/\E.length<=n/\E.length=A.length/\(∀ r∈E,0<r.length/\r.length<=5/\r.length=(A.headD []).length/\Lin.Bd (2^64) r):=by
 obtain ⟨g1,g2⟩:=eK h1
 have hz:=kX hc
 have hlim:∀ r∈A,∀ z∈r,nV z=false/\Lim z.2:=fun r hr z hzr=>⟨(hz r hr).1 z hzr,fun x hx=>((gA r hr).1 z hzr).1 x hx⟩
 refine ⟨A.map fun r=>r.map iz,FF ha hlim,?_,by simpa using g1,by simp,fun r hr=>?_⟩
 ·rw [List.map_map]
  conv=>lhs; rw [<- List.map_id A]
  refine List.map_congr_left fun r hr=>?_
  rw [id,Function.comp,List.map_map]
  conv=>lhs; rw [<- List.map_id r]
  exact List.map_congr_left fun z hzr=>(vW (hlim r hr z hzr).1 (hlim r hr z hzr).2).symm
 ·obtain ⟨q,hq,rfl⟩:=List.mem_map.1 hr
  have h3:=hz q hq
  refine ⟨by rw [List.length_map]; exact h3.2.1,by rw [List.length_map]; exact (g2 q hq).1,by rw [List.length_map]; exact h3.2.2,fun i=>?_⟩
  by_cases hi:i<(q.map iz).length
  ·rw [mH hi,List.getElem_map]
   have hi':i<q.length:=by simpa using hi
   exact ME ((g2 q hq).2 _ (List.getElem_mem hi')) (hlim q hq _ (List.getElem_mem hi')).2
  ·have:Lin.at_ (q.map iz) i=0:=by
    unfold Lin.at_
    rw [List.getD_eq_getElem?_getD,List.getElem?_eq_none (by omega)]; rfl
   rw [this]; exact Nat.zero_le _
theorem AG {a b:AV} {A B:List (List (Bool × List Nat))} (ha:gw H a A) (hb:gw H b B) (gA:∀ r∈A,gQ r) (gB:∀ r∈B,gQ r) (h1:cx 4 5 1 A=false) (h2:cx 7 5 1 B=false) :
  bZ A B≠0\/bZ A B=0/\∃ dd E I,cr H a E/\cr H b I/\0<dd/\dd<=5/\wS dd 4 E/\wS dd 7 I:=by
 by_cases hc:bZ A B=0
 ·refine .inr ⟨hc,?_⟩
  unfold bZ at hc
  split at hc
  ·rename_i h; exact absurd hc h
  rename_i hA
  split at hc
  ·rename_i h; exact absurd hc h
  rename_i hB
  split at hc
  ·cases hc
  rename_i hne
  have hA:bi A=0:=by simpa using hA
  have hB:bi B=0:=by simpa using hB
  obtain ⟨E,e1,e2,e3,e4,e5⟩:=vU ha gA h1 hA
  obtain ⟨I,i1,i2,i3,i4,i5⟩:=vU hb gB h2 hB
  cases A with
  | nil =>
   have hE:E=[]:=List.eq_nil_of_length_eq_zero (by simpa using e4)
   subst hE
   cases B with
   | nil =>
    have hI:I=[]:=List.eq_nil_of_length_eq_zero (by simpa using i4)
    subst hI
    exact ⟨1,[],[],e1,i1,by omega,by omega,⟨by simp,fun _ h=>by cases h⟩,⟨by simp,fun _ h=>by cases h⟩⟩
   | cons x B =>
    have hx:=kX hB x (List.mem_cons_self ..)
    have hx5:=(eK h2).2 x (List.mem_cons_self ..)
    exact ⟨x.length,[],I,e1,i1,hx.2.1,hx5.1,⟨by simp,fun _ h=>by cases h⟩,⟨i3,fun r hr=>⟨(i5 r hr).2.2.1,(i5 r hr).2.2.2⟩⟩⟩
  | cons x A =>
   have hx:=kX hA x (List.mem_cons_self ..)
   have hx5:=(eK h1).2 x (List.mem_cons_self ..)
   refine ⟨x.length,E,I,e1,i1,hx.2.1,hx5.1,⟨e3,fun r hr=>⟨(e5 r hr).2.2.1,(e5 r hr).2.2.2⟩⟩,⟨i3,fun r hr=>⟨?_,(i5 r hr).2.2.2⟩⟩⟩
   cases B with
   | nil =>
    have hI:I=[]:=List.eq_nil_of_length_eq_zero (by simpa using i4)
    subst hI
    cases hr
   | cons y B =>
    rw [(i5 r hr).2.2.1]
    have:=hne
    simp at this
    exact this.symm
 ·exact .inl hc
end
theorem ww {n m k:Nat} {A:List (List (Bool × List Nat))} (h:cx n m k A=false) (hm:m<=1000) (hk:k<=1000):∀ r∈A,zR r:=fun r hr=>by
 have:=(eK h).2 r hr
 exact ⟨by omega,fun z hz=>by have:=this.2 z hz; omega⟩
section
variable {tab:Nat->Option au} {H:Heap} {s:AV}
theorem uC (C:Code tab) (hw:Wf H) {va vb:AV} {d:Int} {A B:List (List (Bool × List Nat))} (ha:gw H va A) (hb:gw H vb B) (hA:A.length<1099511627776) (hB:B.length<1099511627776) (ba:∀ r∈A,zR r) (bb:∀ r∈B,zR r) (hc:bZ A B≠0) :
  Ans tab (.fn ee [.int .i64 d,va,vb]) H fun v H'=>v=.tup [.nilSl,.nilSl,.int .i64 (bZ A B)]/\Kp H H':=by
 refine nC C.cone_Gens (by decide) fun T hl g0 g1 g2=>?_
 refine zW (aX hl g0 g1 g2) ?_
 refine AnsH.eq (cone_checked C zF (ha.mono (Kp.sub (H:=H) zK)) (hb.mono (Kp.sub (H:=H) zK)) hA hB ba bb) fun H2 hk2=>?_
 obtain ⟨k2,_,_⟩:=zT H zK hk2
 have hc:¬ bZ A B=0:=hc
 refine zW (dG hl g0 g1 g2 hc) ?_
 exact zK
theorem uB (C:Code tab) (hw:Wf H) {va vb:AV} {d:Int} {dd:Nat} {E I:List (List Int)} (ha:cr H va E) (hb:cr H vb I) (d0:0<dd) (d5:dd<=5) (gE:wS dd 4 E) (gI:wS dd 7 I) (hbad:d<1\/64<d\/(d≠(dd:Int)/\(E≠[]\/I≠[]))) :
  Ans tab (.fn ee [.int .i64 d,va,vb]) H fun v H'=>∃ e,e≠0/\v=.tup [.nilSl,.nilSl,.int .i64 e]/\Kp H H':=by
 have oa:=ha.one
 have ob:=hb.one
 have lE:=gE.len
 have lI:=gI.len
 have sm:∀ {z:Int} {r:List Int},Lin.Bd (2^64) r->z∈r->fZ z:=fun hb hz=>(l3 hb _ hz).sm (by omega)
 have ok1:nY dd E:=⟨d0,by omega,fun r hr=>(gE.row r hr).1,fun r hr z hz=>sm (gE.row r hr).2 hz⟩
 have ok2:nY dd I:=⟨d0,by omega,fun r hr=>(gI.row r hr).1,fun r hr z hz=>sm (gI.row r hr).2 hz⟩
 refine nC C.cone_Gens (by decide) fun T hl g0 g1 g2=>?_
 refine zW (aX hl g0 g1 g2) ?_
 refine AnsH.eq (cone_checked C zF ((nl ha).mono (Kp.sub (H:=H) zK)) ((nl hb).mono (Kp.sub (H:=H) zK)) (by rw [List.length_map]; omega) (by rw [List.length_map]; omega) (fun r hr=>?_) (fun r hr=>?_)) fun H2 hk2=>?_
 ·obtain ⟨x,hx,rfl⟩:=List.mem_map.1 hr
  exact pV (by rw [ok1.len x hx]; omega) (ok1.sm x hx)
 ·obtain ⟨x,hx,rfl⟩:=List.mem_map.1 hr
  exact pV (by rw [ok2.len x hx]; omega) (ok2.sm x hx)
 rw [uF ok1 ok2 (by omega) (by omega)]
 obtain ⟨k2,_,w2⟩:=zT H zK hk2
 refine zW (aX hl g0 g1 g2) ?_
 refine AnsH.eq (cone_long C (Ls:=[E,I]) (d:=dd) zF (q9 (E:=rowsE) (t1:=ae) (ha.mono k2.sub) (hb.mono k2.sub) (Kp.sub (H:=H2) zK) (eG)) (by simp) (fun L hL r hr=>?_)) fun H3 hk3=>?_
 ·rcases List.mem_cons.1 hL with rfl | hL
  ·exact ok1.len r hr
  ·rcases List.mem_cons.1 hL with rfl | hL
   ·exact ok2.len r hr
   ·cases hL
 obtain ⟨k3,_,w3⟩:=zT H zK hk3
 by_cases q1:d<1
 ·refine zW (aL hl g0 q1) ?_
  exact ⟨2,by omega,rfl,zK⟩
 by_cases q2:(64:Int)<d
 ·refine zW (aX hl g0 q1 q2) ?_
  exact ⟨2,by omega,rfl,zK⟩
 have hb3:d≠(dd:Int)/\(E≠[]\/I≠[]):=by
  rcases hbad with h | h | h
  ·exact absurd h q1
  ·exact absurd h q2
  ·exact h
 have hany:[E,I].any (fun L=>!L.isEmpty)=true:=by
  rw [List.any_eq_true]
  rcases hb3.2 with h | h
  ·exact ⟨E,by simp,by cases E <;> simp_all⟩
  ·exact ⟨I,by simp,by cases I <;> simp_all⟩
 have q3:(0:Int)<=(dd:Int):=by omega
 have q4:¬ (dd:Int)=d:=fun e=>hb3.1 e.symm
 rw [hany]
 refine zW (iC hl g0 q1 q2 q3 q4) ?_
 exact ⟨70,by omega,rfl,zK⟩
theorem DC (C:Code tab) {va vb:AV} {d:Int} {A B:List (List (Bool × List Nat))} (ha:gw H va A) (hb:gw H vb B) (gA:∀ r∈A,gQ r) (gB:∀ r∈B,gQ r) (h1:cx 4 5 1 A=false) (h2:cx 7 5 1 B=false) (h5:¬ 5<d) :
  (∀ H1,Wf H1->Sub H H1->Ans tab (.fn ee [.int .i64 d,va,vb]) H1 fun v H'=>∃ e,e≠0/\v=.tup [.nilSl,.nilSl,.int .i64 e]/\Kp H1 H') \/
  ∃ (dd:Nat) (E I:List (List Int)),d=(dd:Int)/\0<dd/\dd<=5/\cr H va E/\cr H vb I/\wS dd 4 E/\wS dd 7 I:=by
 have lA:=(eK h1).1
 have lB:=(eK h2).1
 rcases AG ha hb gA gB h1 h2 with hc | ⟨hc,dd,E,I,hE,hI,d0,d5,gE,gI⟩
 ·refine .inl fun H1 hw hs=>(uC C hw (ha.mono hs) (hb.mono hs) (by omega) (by omega) (ww h1 (by omega) (by omega)) (ww h2 (by omega) (by omega)) hc).mono ?_
  rintro v H' ⟨rfl,hk⟩
  exact ⟨_,hc,rfl,hk⟩
 ·by_cases hbad:d<1\/64<d\/(d≠(dd:Int)/\(E≠[]\/I≠[]))
  ·exact .inl fun H1 hw hs=>uB C hw (hE.mono hs) (hI.mono hs) d0 d5 gE gI hbad
  ·have q1:¬ d<1:=fun h=>hbad (.inl h)
   have q3:d=(dd:Int)\/E=[]/\I=[]:=by
    by_cases e:d=(dd:Int)
    ·exact .inl e
    ·refine .inr ⟨?_,?_⟩
     ·by_cases h:E=[]
      ·exact h
      ·exact absurd (.inr (.inr ⟨e,.inl h⟩)) hbad
     ·by_cases h:I=[]
      ·exact h
      ·exact absurd (.inr (.inr ⟨e,.inr h⟩)) hbad
   rcases q3 with e | ⟨rfl,rfl⟩
   ·exact .inr ⟨dd,E,I,e,d0,d5,hE,hI,gE,gI⟩
   ·exact .inr ⟨d.toNat,[],[],by omega,by omega,by omega,hE,hI,⟨by simp,fun _ h=>by cases h⟩,⟨by simp,fun _ h=>by cases h⟩⟩
set_option maxHeartbeats 2000000 in
theorem law20_ConeDual (C:Code tab) (hw:Wf H) {va vb:AV} {d:Int} {A B:List (List (Bool × List Nat))} (ha:gw H va A) (hb:gw H vb B) (gA:∀ r∈A,gQ r) (gB:∀ r∈B,gQ r) (_ : -9223372036854775808<=d/\d<9223372036854775808) :
  Ans tab (.fn dD [.int .i64 d,va,vb]) H fun v H'=>v=.bool true/\Kp H H':=by
 refine nC C.facetroomlaw20_ConeDual (by decide) fun T hl g0 g1 g2=>?_
 refine zW (aX hl g0 g1 g2) ?_
 refine AnsH.eq (za C zF) fun H2 hk2=>?_
 obtain ⟨k2,_,w2⟩:=zT H zK hk2
 refine zW (aX hl g0 g1 g2) ?_
 refine AnsH.eq (y9 C zF (ha.mono (Kp.sub (H:=H) zK)) (hb.mono (Kp.sub (H:=H) zK))) fun H3 hk3=>?_
 obtain ⟨k3,_,w3⟩:=zT H zK hk3
 cases hg:cx 4 5 1 A || cx 7 5 1 B || decide (5<d) with
 | true =>
  refine zW (aX hl g0 g1 g2) ?_
  exact zK
 | false =>
  simp only [Bool.or_eq_false_iff,decide_eq_false_iff_not] at hg
  obtain ⟨⟨q1,q2⟩,q3⟩:=hg
  refine zW (aX hl g0 g1 g2) ?_
  rcases DC C ha hb gA gB q1 q2 q3 with hbad | ⟨dd,E,I,rfl,d0,d5,hE,hI,gE,gI⟩
  ·refine AnsH.use (hbad _ zF (Kp.sub (H:=H) zK)) ?_
   rintro v H4 ⟨e,he,rfl,hk4⟩
   obtain ⟨k4,_,w4⟩:=zT H zK hk4
   refine zW (dG hl g0 g1 g2 he) ?_
   have l0:lenV .nilSl=some (.int .i64 0):=rfl
   refine zW (dG hl g0 g1 g2 l0) ?_
   exact zK
  ·refine AnsH.use (cone_Gens C (d:=dd) (m:=64) zF (hE.mono (Kp.sub (H:=H) zK)) (hI.mono (Kp.sub (H:=H) zK)) d0 (by omega) (by have:=gE.len; omega) (by have:=gI.len; omega) gE.row gI.row (by omega)) ?_
   rintro v H4 ⟨p,q,rfl,hp,hq,hk4⟩
   obtain ⟨k4,_,w4⟩:=zT H zK hk4
   obtain ⟨o1,o2⟩:=sP (m:=64) d0 (by omega) gE.row gI.row
   have t1:=Lin.gens_told (d:=dd) (fun a ha=>(gE.row a ha).1) (fun a ha=>(gI.row a ha).1)
   have lL:=mA t1.form
   have lR:=t1.dd.count
   have h27:2^I.length<=2^7:=Nat.pow_le_pow_right (by decide) gI.len
   obtain ⟨L,hL⟩:∃ L,L=Lin.gensL dd E I:=⟨_,rfl⟩
   obtain ⟨R,hR⟩:∃ R,R=Lin.gensR dd E I:=⟨_,rfl⟩
   rw [<- hL] at hp o1 lL
   rw [<- hR] at hq o2 lR
   by_cases h20:(20:Int)<(R.length:Int)
   ·refine zW (iC hl g0 g1 g2 hq.lenV h20) ?_
    exact zK
   have l20:R.length<=20:=by omega
   refine zW (aX hl g0 hq.lenV h20) ?_
   refine AnsH.use (cone_Gens C (d:=dd) (m:=64*(64+4)) zF (hp.mono (Kp.sub (H:=H4) zK)) (hq.mono (Kp.sub (H:=H4) zK)) d0 (by omega) (by omega) l20 o1 o2 (by omega)) ?_
   rintro v H5 ⟨p2,q2,rfl,hp2,hq2,hk5⟩
   obtain ⟨k5,_,_⟩:=zT H zK hk5
   have k45:Kp H4 H5:=Kp.trans zK hk5
   have le_k45:=k45.le
   have w5:=k5.wf
   obtain ⟨o3,o4⟩:=sP (m:=64*(64+4)) d0 (by omega) o1 o2
   have t2:=Lin.gens_told (d:=dd) (fun a ha=>(o1 a ha).1) (fun a ha=>(o2 a ha).1)
   have lL2:=mA t2.form
   obtain ⟨L2,hL2⟩:∃ L2,L2=Lin.gensL dd L R:=⟨_,rfl⟩
   obtain ⟨R2,hR2⟩:∃ R2,R2=Lin.gensR dd L R:=⟨_,rfl⟩
   rw [<- hL2] at hp2 o3 lL2
   rw [<- hR2] at hq2 o4
   by_cases h20':(20:Int)<(R2.length:Int)
   ·refine zW (iC hl g0 g1 g2 hq2.lenV h20') ?_
    exact zK
   have l20':R2.length<=20:=by omega
   refine zW (aX hl g0 hq2.lenV h20') ?_
   refine AnsH.use (cone_Gens C (d:=dd) (m:=64*(64*(64+4)+4)) zF (hp2.mono (Kp.sub (H:=H5) zK)) (hq2.mono (Kp.sub (H:=H5) zK)) d0 (by omega) (by omega) l20' o3 o4 (by omega)) ?_
   rintro v H6 ⟨p3,q3,rfl,hp3,hq3,hk6⟩
   obtain ⟨k6,_,_⟩:=zT H zK hk6
   have k56:Kp H5 H6:=Kp.trans zK hk6
   have le_k56:=k56.le
   have w6:=k6.wf
   obtain ⟨c1,c2⟩:=Lin.cone_dual (d:=dd) (fun a ha=>(gE.row a ha).1) (fun a ha=>(gI.row a ha).1) hL hR hL2 hR2
   rw [c1] at hp3
   rw [c2] at hq3
   have sm:∀ {X:List (List Int)},(∀ r∈X,r.length=dd/\Lin.Bd (2^(64*(64+4))) r)->∀ r∈X,r.length<1099511627776/\∀ z∈r,fZ z:=fun h r hr=>⟨by rw [(h r hr).1]; omega,fun z hz=>(l3 (h r hr).2 z hz).sm (by omega)⟩
   refine zW (aX hl g0 g1 g2) ?_
   refine AnsH.eq (mg C zF (((hp.mono k45.sub).mono k56.sub).mono (Kp.sub (H:=H6) zK)) (hp3.mono (Kp.sub (H:=H6) zK)) (by omega) (sm o1)) fun H7 hk7=>?_
   obtain ⟨k7,_,_⟩:=zT H zK hk7
   have k67:Kp H6 H7:=Kp.trans zK hk7
   have le_k67:=k67.le
   have w7:=k7.wf
   rw [decide_eq_true rfl]
   refine zW (aX hl g0 g1 g2) ?_
   refine AnsH.eq (mg C zF ((((hq.mono k45.sub).mono k56.sub).mono k67.sub).mono (Kp.sub (H:=H7) zK)) ((hq3.mono k67.sub).mono (Kp.sub (H:=H7) zK)) (by omega) (sm o2)) fun H8 hk8=>?_
   obtain ⟨k8,_,_⟩:=zT H zK hk8
   rw [decide_eq_true rfl]
   refine zW (aX hl g0 g1 g2) ?_
   exact zK
end
open Go
theorem FZ {P:Program}:BA P dS:=trivial
theorem Ie {P:Program} {w:World} (hG:GlobW w):HR P (fun _=>none) (fun c=>c<w.heap.size) (Heap.nil 0) w:=by
 have h:=Fv (P:=P) hG
 refine ⟨h.dom,fun c hc=>hc,fun b e hb=>?_,h.inj,fun g cs hg=>(h.gl g cs hg).mono (fun _ _ h=>h) (fun c hc=>h.fb c hc) fun _ _=>rfl⟩
 rw [Tr.nil_get] at hb; cases hb
theorem open_calls {P:Program} (hmix:P.follows .mixedOrders=true) {tab:Nat->Option au} (ht:Cw P tab) {f:Nat} {afn:au} (haf:tab f=some afn) (hext:afn.ext=none) {args:List AV} {vs:List Value} {w:World} (hG:GlobW w)
  (hl:LR (fun _=>none) (fun c=>c<w.heap.size) w args vs) (h:Ans tab (.fn f args) (Heap.nil 0) fun v _=>v=.bool true) :
  Calls P f vs.toArray w fun e w'=>e=.returned (.bool true)/\w'.os=w.os/\w'.output=w.output/\w.heap.size<=w'.heap.size/\∀ c,c<w.heap.size->w'.heap[c]? = w.heap[c]?:=by
 obtain ⟨v,H',⟨N,hN⟩,rfl⟩:=h
 have h1:=hN (N+1) (N+1) (by omega) (by omega)
 simp only [js,h9,haf,hext] at h1
 obtain ⟨-,ht2⟩:=ht f afn haf
 obtain ⟨fn,hfn,hc⟩:=ht2 fun e h=>by rw [hext] at h; cases h
 obtain ⟨c1,c2,c3,c4,-⟩:=xZ hc hext
 have hH:=Ie (P:=P) hG
 have hin:=nk (tH FZ hmix ht N) hmix hfn c1 c2 c3 c4 h1 hl hH 0 (fence:=Fence.wide) (rd:=false) (.inl ⟨rfl,rfl⟩)
 refine (hin.calls fun k=>room_wide k).mono fun e w' ⟨u,he,μ',hv,_,hS⟩=>?_
 cases hv
 refine ⟨he,hS.os,hS.out,hS.size,fun c hc=>hS.keep c hc fun b L ⟨e,h,_⟩=>?_⟩
 rw [Tr.nil_get] at h; cases h
theorem Gd {w w':World} (h1:w'.os=w.os) (h2:w'.output=w.output) (h:∀ c,c<w.heap.size->w'.heap[c]? = w.heap[c]?) (may:MemPlace->Prop):w.keptBut w' may:=by
 refine ⟨h1,h2,fun i hi=>?_⟩
 rw [h i hi]
 split
 ·rename_i e1 e2
  cases e1.symm.trans e2
  exact ⟨rfl,rfl,rfl,fun _ _=>rfl⟩
 ·rename_i e1 e2
  cases e1.symm.trans e2
  exact .inr ⟨rfl,rfl⟩
 ·rfl
section
open Go.ChangeShapes Go.WideShapes Go.ChangeAt Go.RowKit
variable {HT:Type} {enc:TypeId × Value->HT} {P:Program}
theorem stays {t:TypeId} (hl:laidOutB P=true) (hr:P.readableRec t=true) (hrow:t<P.types.size) {W W':World} {sp:Nat->Bool} {v:Value} {d:DataW HT} {ps:List MemPlace}
  (h:DataW.Trod enc P W 0 (fun _=>true) true t v d ps) (hk:∀ c,c<W.heap.size->W'.heap[c]? = W.heap[c]?) (hlt:∀ x∈ps,x.block<W.heap.size) (hs:∀ p∈ps,sp p.block=true):DataW.Trod enc P W' 0 sp true t v d ps :=
 WideElems.Trod_stays hl hr hrow h (fun p hp=>by
  have hb:=hk p.block (hlt p hp)
  cases p with
  | cell b o=>exact World.cell?_of_block (w:=W) hb
  | map b=>exact hb) hs
theorem post_kept {f:Func} {s:ChangeSpec} {apart fresh handsOn again:Bool} {W W':World} {args:Array Value} {v:Value} {ds gs:List (DataW HT)} {before:List MemPlace}
  (hW:DataW.Whole enc P f.params.toList s.vars apart W args.toList ds gs before)
  (hres:∀ (b:Nat) (sp:Nat->Bool) (hd:Bool),DataW.TrodAll enc P W' b sp hd f.resultTypes.toList (v.resultList f.resultTypes.size) (s.fn HT (ds++gs)).results [])
  (hargs:∀ sp:Nat->Bool,(∀ p∈before,sp p.block=true)->DataW.TrodAll enc P W' 0 sp true f.params.toList args.toList (s.fn HT (ds++gs)).args before)
  (hvars:∀ sp:Nat->Bool,DataW.TrodVars enc P W' sp s.vars (s.fn HT (ds++gs)).vars [])
  (h1:W'.os=W.os) (h2:W'.output=W.output) (hk:∀ c,c<W.heap.size->W'.heap[c]? = W.heap[c]?)
  (hok:∀ (j:Nat) (t:TypeId) (r:Value),f.resultTypes[j]? = some t->(v.resultList f.resultTypes.size)[j]? = some r->Value.okWide P W' .any 0 t r) :
  s.post enc P f apart fresh handsOn again W args v W':=by
 have hold:∀ p∈before,(fun b=>decide (b<W.heap.size)) p.block=true:=fun p hp=>by simpa using hW.lt p hp
 have hlt:∀ p∈before,p.block<W.heap.size:=fun p hp=>hW.lt p hp
 refine ⟨ds,gs,before,[],before,[],hW,hres _ _ _,hargs _ hold,hvars _,Gd h1 h2 hk _,fun _=>?_⟩
 obtain ⟨_,_,_,_,e,hz,hn⟩:=hW
 refine ⟨hok,_,_,([]++before)++[],⟨[]++before,[],trodAll_append (hargs _ (fun _ _=>rfl)) (hres _ _ _),hvars _,rfl,?_,?_⟩,?_⟩
 ·intro b off hp
  have hp':MemPlace.cell b off∈before:=by simpa using hp
  have hb:=hlt _ hp'
  rw [World.frozen?_of_block (w:=W) (hk b hb)]
  exact hz b off hp'
 ·intro ha
  have:=hn ha
  simpa using this
 ·intro p hp _
  simpa using hp
end
end Go.Proofs.YtichbdepocojaaaGreat.Ev
namespace Go.Proofs.YtichbdepocojaaaGreat.Ins108
open Go Go.RowKit Go.Lib Go.Proofs
set_option linter.all false
variable {P:Program}
theorem tS:Tryz.prog.underlying 22=some (.slice 30):=by kernel_rfl
theorem iE:(Tryz.prog.info? 30).map (fun i=>(i.zero,i.size,i.bytes))=some (some (Value.slice none 0 0),1,24):=by kernel_rfl
theorem zE:∀ w,(Go.sizeOf 30).run Tryz.prog w=.ok 1 w:=fun w=>by
 obtain ⟨i0,hi,h0,h1,h2⟩:=info_parts iE
 simp [Go.sizeOf,typeInfo,hi,h1]
theorem tI:Tryz.prog.underlying 3=some (.int .i64):=by kernel_rfl
theorem xD:Tryz.prog.follows .mixedOrders=true:=by kernel_rfl
theorem wV (w:World) {o:Oper} {a:Act} {K:Act->World->Prop} {Q:Exit->Act->World->Prop} (d s:Operand) (t t':TypeId)
  (ho:o.op=.call { callee:=.builtin .copy,args:=#[d,s],argTypes:=#[t,t'] }) (v u:Value) (hd:a.eval d=v) (hs:a.eval s=u) {v':Value} {w':World}
  (hr:(Builtin.copy_ #[t,t'] o.type #[v,u]).run P w=.ok v' w') (h:K (a.put o.dst v') w'):o.wp P a w K Q:=by
 unfold Oper.wp execOp
 simp only [ho,resolve,invoke,builtin,Sem.run_bind,Sem.run_pure,Result.andThen_ok,List.map_toArray,List.map_cons,List.map_nil,hd,hs,hr]
 exact h
theorem ik (w:World) {ops:Array Oper} {rest:List Oper} {o:Oper} {a:Act} {Q:Exit->Act->World->Prop} (hgd:o.guard=none) (d s:Operand) (t t':TypeId)
  (ho:o.op=.call { callee:=.builtin .copy,args:=#[d,s],argTypes:=#[t,t'] }) (v u:Value) (hd:a.eval d=v) (hs:a.eval s=u) {v':Value} {w':World}
  (hr:(Builtin.copy_ #[t,t'] o.type #[v,u]).run P w=.ok v' w') (h:wpList P ops Q rest (a.put o.dst v') w'):wpList P ops Q (o :: rest) a w :=
 wpList_plain hgd fun _ hK=>wV w d s t t' ho v u hd hs hr (hK _ _ h)
theorem nh {ops:Array Oper} {o:Oper} {a:Act} {w:World} {K:Act->World->Prop} {Q:Exit->Act->World->Prop} {E:Prop}
  (hg:o.guard=none) (d x:Operand) (dT sT:TypeId) (hop:o.op=Op.call { callee:=Callee.builtin Builtin.copy,args:=#[d,x],argTypes:=#[dT,sT] })
  (v u:Value) (hd:a.eval d=v) (hx:a.eval x=u) {v':Value} {w':World} (hr:(Builtin.copy_ #[dT,sT] o.type #[v,u]).run P w=.ok v' w') (hK:K (a.put o.dst v') w') :
  if Region.wanted o (yielded ops a.tmps)=true then Oper.wp P o a w K Q else E:=by
 have hw:Region.wanted o (yielded ops a.tmps)=true:=by simp [Region.wanted,hg]
 rw [if_pos hw]
 unfold Oper.wp
 simp [execOp,hop,resolve,invoke,builtin,hd,hx,hr,Result.andThen]
 exact hK
theorem mP (b:Nat) (vs:List Value) (o:Nat) (w:World) (h:∀ j,j<vs.length->(w.cell? ⟨b,o+j,none⟩).isSome=true) (k:Nat) (hk:(w.cell? ⟨b,k,none⟩).isSome=true):((w.setCells b o vs).cell? ⟨b,k,none⟩).isSome=true:=by
 by_cases hin:o<=k/\k<o+vs.length
 ·have:=World.cell?_setCells_in b vs o w h (k-o) (by omega)
  rw [show o+(k-o)=k by omega] at this
  rw [this]; rfl
 ·rw [World.cell?_setCells_out b vs o w ⟨b,k,none⟩ (fun _ _=>by show k<o\/o+vs.length<=k; omega)]
  exact hk
set_option maxHeartbeats 4000000 in
set_option maxRecDepth 100000 in
theorem shift (b off n c i vb voff m vc:Nat) (cs vs:List Value) (w:World) (hi:i<n) (hm:0<m) (hroom:n+m<=c) (hc63:n+m<=9223372036854775807) (hvb:vb≠b)
  (hcl:cs.length=n) (hvl:vs.length=m)
  (hcs:∀ j v,cs[j]? = some v->w.cell? ⟨b,off+j,none⟩=some v) (hsp:∀ j,j<n+m->(w.cell? ⟨b,off+j,none⟩).isSome=true) (hfz:∀ j,j<n+m->w.frozen? ⟨b,off+j,none⟩=false)
  (hvs:∀ j v,vs[j]? = some v->w.cell? ⟨vb,voff+j,none⟩=some v) (h1c:∀ v∈cs,v.oneCell'=true) (h1v:∀ v∈vs,v.oneCell'=true)
  (tA tB:TypeId) (kA kB:Nat) (hsa:w.shape? vb=some (tA,kA)) (hsb:w.shape? b=some (tB,kB)) (hkB:kB≠0) (hfa:w.frozen? ⟨vb,voff,none⟩=false) (hfe:w.frozen? ⟨vb,kA,none⟩=false) :
  Calls Tryz.prog 108 #[.slice (some ⟨b,off,none⟩) n c,.int .i64 i,.slice (some ⟨vb,voff,none⟩) m vc] w fun e w' =>
   e=.returned (.slice (some ⟨b,off,none⟩) (n+m) c)/\w'=(w.drew.setCells b (off+(i+m)) (cs.drop i)).setCells b (off+i) vs:=by
 have hz1:¬ ((m:Int)=0):=by omega
 have hz2:¬ ((i:Int)=(n:Int)):=by omega
 have hsz:(Tryz.prog.info? 30).map (·.size)=some 1:=by
  obtain ⟨i0,hi0,h0,h1,h2⟩:=info_parts iE
  rw [hi0]; simp [h1]
 have hov:∀ lb cb,(callFunc 126 #[.slice (some ⟨vb,voff,none⟩) m vc,.slice (some ⟨b,off+(i+m),none⟩) lb cb]).run Tryz.prog w=.ok (.value (.bool false)) w:=fun lb cb=>by
  rw [run_callFunc_extern Tryz.func126 (by kernel_rfl) (by kernel_rfl) (by kernel_rfl) (e:=Extern.SlicesOverlaps.overlaps #[22,22] #[4]) (by kernel_rfl),
   Lib.run_overlaps_apart w 22 4 30 tS 1 zE ⟨vb,voff,none⟩ ⟨b,off+(i+m),none⟩ m vc lb cb hvb tA tB kA kB hsa hsb hkB hfa hfe]
  rfl
 have hdl:(cs.drop i).length=n-i:=by rw [List.length_drop,hcl]
 have hw1:IntKind.i64.wrap ((i:Int)+(m:Int))=(i:Int)+(m:Int):=by rw [IntKind.wrap_i64]; omega
 have hb1:(0:Int)<=(i:Int)+(m:Int):=by omega
 have hin:i<=n:=by omega
 have htn:((i:Int)+(m:Int)).toNat=i+m:=by omega
 have hb2:¬ (c=i+m):=by omega
 have hb3:(i:Int)<=(n:Int)+(m:Int):=by omega
 have hb4:¬ (c=i):=by omega
 have hcp1:∀ ty dc sc,(Builtin.copy_ #[22,22] ty #[.slice (some ⟨b,off+(i+m),none⟩) (n+m-(i+m)) dc,.slice (some ⟨b,off+i,none⟩) (n+m-i) sc]).run Tryz.prog w.drew=.ok (goInt (cs.drop i).length) (w.drew.setCells b (off+(i+m)) (cs.drop i)):=fun ty dc sc =>
  run_copy_cells w.drew _ _ ty 30 b (off+(i+m)) (n+m-(i+m)) dc ⟨b,off+i,none⟩ (n+m-i) sc (cs.drop i) tS hsz (by rw [hdl]; simp only [Nat.min_def]; split <;> omega)
   (fun j v hj=>by rw [Addr.add_lit,Nat.add_assoc]; exact hcs (i+j) v (by rwa [List.getElem?_drop] at hj))
   (fun j hj=>by rw [Nat.add_assoc]; exact hsp _ (by omega)) (fun j hj=>by rw [Nat.add_assoc]; exact hfz _ (by omega)) (fun v hv=>h1c v (List.mem_of_mem_drop hv))
 obtain ⟨W1,hW1⟩:∃ W1,W1=w.drew.setCells b (off+(i+m)) (cs.drop i):=⟨_,rfl⟩
 have hsp1:∀ k,k<n+m->(W1.cell? ⟨b,off+k,none⟩).isSome=true:=fun k hk=>by
  rw [hW1]
  exact mP b _ _ _ (fun j hj=>by rw [Nat.add_assoc]; exact hsp _ (by omega)) _ (hsp k hk)
 have hcp2:∀ (W:World),(∀ x,W.cell? x=W1.cell? x)->(∀ x,W.frozen? x=W1.frozen? x)->∀ ty dc,(Builtin.copy_ #[22,22] ty #[.slice (some ⟨b,off+i,none⟩) (n+m-i) dc,.slice (some ⟨vb,voff,none⟩) m vc]).run Tryz.prog W=.ok (goInt vs.length) (W.setCells b (off+i) vs):=fun W hWc hWf ty dc =>
  run_copy_cells W _ _ ty 30 b (off+i) (n+m-i) dc ⟨vb,voff,none⟩ m vc vs tS hsz (by rw [hvl]; simp only [Nat.min_def]; split <;> omega)
   (fun j v hj=>by
    rw [Addr.add_lit,hWc,hW1,World.cell?_setCells_out b _ _ _ _ (fun h _=>absurd h hvb)]
    exact hvs j v hj)
   (fun j hj=>by rw [hWc,Nat.add_assoc]; exact hsp1 _ (by omega)) (fun j hj=>by rw [hWf,hW1,World.frozen?_setCells,Nat.add_assoc]; exact hfz _ (by omega)) h1v
 rw [<- hW1] at hcp1
 have mixed:=xD
 go_enter Tryz.func108,Tryz.ntmps108
 go_wp2_with (simp only [hov])
 go_region_law_o (refine nh rfl _ _ 22 22 rfl _ _ (by simp [Act.eval,Act.put]) (by simp [Act.eval,Act.put]) (hcp1 _ _ _) ?_)
 go_wp2_with (at_builtin; refine ik _ rfl _ _ 22 22 rfl _ _ rfl rfl (hcp2 _ (fun _=>rfl) (fun _=>rfl) _ _) ?_)
 go_ret
 first | exact ⟨rfl,rfl⟩ | exact ⟨rfl,by rw [hW1]⟩
set_option maxHeartbeats 4000000 in
set_option maxRecDepth 100000 in
theorem end_room (b off n c vb voff m vc:Nat) (vs:List Value) (w:World) (hm:0<m) (hroom:n+m<=c) (hc63:n+m<=9223372036854775807)
  (hvl:vs.length=m) (hsp:∀ j,j<m->(w.cell? ⟨b,off+n+j,none⟩).isSome=true) (hfz:∀ j,j<m->w.frozen? ⟨b,off+n+j,none⟩=false)
  (hvs:∀ j v,vs[j]? = some v->w.cell? ⟨vb,voff+j,none⟩=some v) (h1v:∀ v∈vs,v.oneCell'=true) :
  Calls Tryz.prog 108 #[.slice (some ⟨b,off,none⟩) n c,.int .i64 n,.slice (some ⟨vb,voff,none⟩) m vc] w fun e w' =>
   e=.returned (.slice (some ⟨b,off,none⟩) (n+m) c)/\w'=w.setCells b (off+n) vs:=by
 have hz1:¬ ((m:Int)=0):=by omega
 have hsrc:Src Tryz.prog 1 22 (.slice (some ⟨vb,voff,none⟩) m vc) m vs w:=Src.ofSlice w tS ⟨vb,voff,none⟩ m vc vs (by omega) (fun j u hj=>by rw [Addr.add_lit]; exact hvs j u hj) h1v
 have mixed:=xD
 go_enter Tryz.func108,Tryz.ntmps108
 go_wp2_with (at_builtin; refine wpList_append_room1 _ rfl _ _ 22 22 rfl 30 _ _ tS iE b off n c rfl _ rfl m vs hsrc hroom (by rw [hvl]; exact hsp) (by rw [hvl]; exact hfz) ?_)
 go_ret
 exact ⟨rfl,rfl⟩
set_option maxHeartbeats 4000000 in
set_option maxRecDepth 100000 in
theorem end_grow (base:Option Addr) (n c vb voff m vc:Nat) (cs vs:List Value) (w:World) (hm:0<m) (hnc:n<=c) (hroom:c<n+m) (hbig:(n+m)*24<=140737488355328)
  (hcl:cs.length=n) (hvl:vs.length=m) (hnil:base=none->n=0)
  (hcs:∀ a,base=some a->∀ j v,cs[j]? = some v->w.cell? (a.add j)=some v)
  (hvs:∀ j v,vs[j]? = some v->w.cell? ⟨vb,voff+j,none⟩=some v) (h1v:∀ v∈vs,v.oneCell'=true) :
  Calls Tryz.prog 108 #[.slice base n c,.int .i64 n,.slice (some ⟨vb,voff,none⟩) m vc] w fun e w' =>
   e=.returned (.slice (some ⟨w.heap.size,0,none⟩) (n+m) (grownCap w (n+m) c 30)) /\
   w'=w.drew.alloc (.cells ((cs++vs).toArray++Builtin.zeroCells (Value.slice none 0 0).cells (grownCap w (n+m) c 30-(n+m))) 30):=by
 obtain ⟨i0,hi0,hz0,hzs,hzb⟩:=info_parts iE
 have hz1:¬ ((m:Int)=0):=by omega
 have hsrc:Src Tryz.prog i0.size 22 (.slice (some ⟨vb,voff,none⟩) m vc) m vs w:=by
  rw [hzs]
  exact Src.ofSlice w tS ⟨vb,voff,none⟩ m vc vs (by omega) (fun j u hj=>by rw [Addr.add_lit]; exact hvs j u hj) h1v
 have hold:(Builtin.firstCells i0.size n (.slice base n c)).run Tryz.prog w.drew=.ok cs.toArray w.drew:=by
  rw [hzs]
  cases base with
  | none =>
   have h0:=hnil rfl
   subst h0
   rw [List.length_eq_zero_iff.1 hcl]
   exact run_firstCells_none w.drew 1 0 0 c
  | some a=>exact run_firstCells_some w.drew 1 n a n c cs (by omega) (fun j v hj=>hcs a rfl j v hj)
 have hrun:∀ ty,(Builtin.append_ #[22,22] ty #[.slice base n c,.slice (some ⟨vb,voff,none⟩) m vc]).run Tryz.prog w=_:=fun ty =>
  run_append_grow_src w 22 22 ty 30 i0 _ tS hi0 hz0 base n c cs hold _ m vs hsrc hroom (by omega) (by rw [hzb]; exact growslice_fits hroom hbig)
 have mixed:=xD
 go_enter Tryz.func108,Tryz.ntmps108
 cases base with
 | none =>
  have h0:=hnil rfl
  subst h0
  go_wp2_with (at_builtin; refine Lib.wpList_append_run _ rfl _ _ _ _ rfl _ _ rfl rfl _ _ (hrun _) ?_)
  go_ret
  exact ⟨rfl,rfl⟩
 | some a =>
  obtain ⟨ab,ao,asp⟩:=a
  go_wp2_with (at_builtin; refine Lib.wpList_append_run _ rfl _ _ _ _ rfl _ _ rfl rfl _ _ (hrun _) ?_)
  all_goals (go_ret; exact ⟨rfl,rfl⟩)
set_option maxHeartbeats 4000000 in
set_option maxRecDepth 100000 in
theorem grow (b off n c i vb voff m vc:Nat) (cs vs:List Value) (w:World) (hi:i<n) (hm:0<m) (hnc:n<=c) (hroom:c<n+m) (hbig:(n+m)*24<=140737488355328)
  (hcl:cs.length=n) (hvl:vs.length=m)
  (hcs:∀ j v,cs[j]? = some v->w.cell? ⟨b,off+j,none⟩=some v)
  (hvs:∀ j v,vs[j]? = some v->w.cell? ⟨vb,voff+j,none⟩=some v) (h1c:∀ v∈cs,v.oneCell'=true) (h1v:∀ v∈vs,v.oneCell'=true) :
  Calls Tryz.prog 108 #[.slice (some ⟨b,off,none⟩) n c,.int .i64 i,.slice (some ⟨vb,voff,none⟩) m vc] w fun e w' =>
   e=.returned (.slice (some ⟨w.heap.size,0,none⟩) (n+m) (grownCap w (n+m) c 30)) /\
   w'=(((w.alloc (.cells ((cs.take i).toArray++Builtin.zeroCells (Value.slice none 0 0).cells (n+m-i)++Builtin.zeroCells (Value.slice none 0 0).cells (grownCap w (n+m) c 30-(n+m))) 30)).drew.setCells w.heap.size i vs).drew).setCells w.heap.size (i+m) (cs.drop i):=by
 obtain ⟨i0,hi0,hz0,hzs,hzb⟩:=info_parts iE
 have hz1:¬ ((m:Int)=0):=by omega
 have hz2:¬ ((i:Int)=(n:Int)):=by omega
 have hz3:(c:Int)<(n:Int)+(m:Int):=by omega
 have hsz:(Tryz.prog.info? 30).map (·.size)=some 1:=by rw [hi0]; simp [hzs]
 have hbw:b<w.heap.size:=block_lt_of_cell (hcs 0 _ (List.getElem?_eq_getElem (by omega)))
 have hvw:vb<w.heap.size:=block_lt_of_cell (hvs 0 _ (List.getElem?_eq_getElem (by omega)))
 have hkk:(n:Int)+(m:Int)-(i:Int)=((n+m-i:Nat):Int):=by omega
 have hik:i+(n+m-i)=n+m:=by omega
 have hold:(Builtin.firstCells i0.size i (.slice (some ⟨b,off,none⟩) i c)).run Tryz.prog w.drew=.ok (cs.take i).toArray w.drew:=by
  rw [hzs]
  exact run_firstCells_some w.drew 1 i ⟨b,off,none⟩ i c (cs.take i) (by rw [List.length_take]; omega) (fun j v hj=>by
   rw [Addr.add_lit]
   rw [List.getElem?_take] at hj
   split at hj
   ·exact hcs j v hj
   ·cases hj)
 have hrz:∀ ty,(Builtin.append_ #[22,3] ty #[.slice (some ⟨b,off,none⟩) i c,.int .i64 ((n:Int)+(m:Int)-(i:Int))]).run Tryz.prog w =
   .ok (.slice (some ⟨w.heap.size,0,none⟩) (n+m) (grownCap w (n+m) c 30)) (w.drew.alloc (.cells ((cs.take i).toArray++Builtin.zeroCells (Value.slice none 0 0).cells (n+m-i)++Builtin.zeroCells (Value.slice none 0 0).cells (grownCap w (n+m) c 30-(n+m))) 30)):=fun ty=>by
  have h:=Lib.run_append_grow_zeros w 22 3 ty 30 i0 _ .i64 .i64 tS tI hi0 hz0 (some ⟨b,off,none⟩) i c (cs.take i) hold (n+m-i) (by omega) (by omega) (by omega) (by omega) (by rw [hzb]; omega) (by rw [hzb,hik]; exact growslice_fits hroom hbig)
  rw [hik] at h
  rw [hkk]
  exact h
 obtain ⟨G,hG⟩:∃ G,G=grownCap w (n+m) c 30:=⟨_,rfl⟩
 obtain ⟨ROW,hROW⟩:∃ ROW:Array Value,ROW=(cs.take i).toArray++Builtin.zeroCells (Value.slice none 0 0).cells (n+m-i)++Builtin.zeroCells (Value.slice none 0 0).cells (G-(n+m)):=⟨_,rfl⟩
 rw [<- hG] at hrz ⊢
 rw [<- hROW] at hrz ⊢
 have hRl:n+m<=ROW.size:=by
  rw [hROW]
  simp [Builtin.zeroCells,Value.cells]
  omega
 obtain ⟨W1,hW1⟩:∃ W1,W1=w.drew.alloc (.cells ROW 30):=⟨_,rfl⟩
 rw [<- hW1] at hrz
 have hN:∀ j,j<n+m->(W1.cell? ⟨w.heap.size,j,none⟩).isSome=true:=fun j hj=>by
  rw [hW1,World.cell?_alloc_at (w:=w.drew) ROW _ w.heap.size j rfl,Array.getElem?_eq_getElem (by omega)]; rfl
 have hNf:∀ j,W1.frozen? ⟨w.heap.size,j,none⟩=false:=fun j=>by rw [hW1]; exact World.frozen?_alloc_at (w:=w.drew) ROW _ w.heap.size j rfl
 have hOb:∀ j v,w.cell? ⟨b,j,none⟩=some v->W1.cell? ⟨b,j,none⟩=some v:=fun j v h=>by rw [hW1,World.cell?_alloc_past (w:=w.drew) _ b j hbw]; exact h
 have hOv:∀ j v,w.cell? ⟨vb,j,none⟩=some v->W1.cell? ⟨vb,j,none⟩=some v:=fun j v h=>by rw [hW1,World.cell?_alloc_past (w:=w.drew) _ vb j hvw]; exact h
 have hcpA:∀ (W:World),(∀ x,W.cell? x=W1.cell? x)->(∀ x,W.frozen? x=W1.frozen? x)->∀ ty dc,(Builtin.copy_ #[22,22] ty #[.slice (some ⟨w.heap.size,i,none⟩) (n+m-i) dc,.slice (some ⟨vb,voff,none⟩) m vc]).run Tryz.prog W=.ok (goInt vs.length) (W.setCells w.heap.size i vs):=fun W hWc hWf ty dc =>
  run_copy_cells W _ _ ty 30 w.heap.size i (n+m-i) dc ⟨vb,voff,none⟩ m vc vs tS hsz (by rw [hvl]; simp only [Nat.min_def]; split <;> omega)
   (fun j v hj=>by rw [Addr.add_lit,hWc]; exact hOv _ v (hvs j v hj))
   (fun j hj=>by rw [hWc]; exact hN _ (by omega)) (fun j hj=>by rw [hWf]; exact hNf _) h1v
 have hGn:n+m<=G:=by rw [hG]; exact grownCap_ge w _ _ _
 have hG63:G<=9223372036854775807:=by
  have:=grownCap_le_maxLen w (n+m) c 30 (by unfold maxLen; omega)
  rw [<- hG] at this
  unfold maxLen at this
  omega
 have hGi:¬ (G=i):=by omega
 have hGim:¬ (G=i+m):=by omega
 have hci:¬ (c=i):=by omega
 have hbN:b≠w.heap.size:=by omega
 have hdl:(cs.drop i).length=n-i:=by rw [List.length_drop,hcl]
 have hcpB:∀ (W:World),(∀ x,W.cell? x=(W1.setCells w.heap.size i vs).cell? x)->(∀ x,W.frozen? x=(W1.setCells w.heap.size i vs).frozen? x)->∀ ty dc sc,(Builtin.copy_ #[22,22] ty #[.slice (some ⟨w.heap.size,i+m,none⟩) (n+m-(i+m)) dc,.slice (some ⟨b,off+i,none⟩) (n-i) sc]).run Tryz.prog W=.ok (goInt (cs.drop i).length) (W.setCells w.heap.size (i+m) (cs.drop i)):=fun W hWc hWf ty dc sc =>
  run_copy_cells W _ _ ty 30 w.heap.size (i+m) (n+m-(i+m)) dc ⟨b,off+i,none⟩ (n-i) sc (cs.drop i) tS hsz (by rw [hdl]; simp only [Nat.min_def]; split <;> omega)
   (fun j v hj=>by
    rw [Addr.add_lit,hWc,World.cell?_setCells_out _ _ _ _ _ (fun h _=>absurd h hbN),Nat.add_assoc]
    exact hOb _ v (hcs (i+j) v (by rwa [List.getElem?_drop] at hj)))
   (fun j hj=>by rw [hWc]; exact mP _ _ _ _ (fun t ht=>hN _ (by omega)) _ (hN _ (by omega)))
   (fun j hj=>by rw [hWf,World.frozen?_setCells]; exact hNf _) (fun v hv=>h1c v (List.mem_of_mem_drop hv))
 subst hW1
 have hE1:∀ x,((w.alloc (.cells ROW 30)).drew).cell? x=(w.drew.alloc (.cells ROW 30)).cell? x:=fun x=>rfl
 have hE2:∀ x,((w.alloc (.cells ROW 30)).drew).frozen? x=(w.drew.alloc (.cells ROW 30)).frozen? x:=fun x=>rfl
 have hF1:∀ x,(((w.alloc (.cells ROW 30)).drew.setCells w.heap.size i vs).drew).cell? x=((w.drew.alloc (.cells ROW 30)).setCells w.heap.size i vs).cell? x:=fun x=>rfl
 have hF2:∀ x,(((w.alloc (.cells ROW 30)).drew.setCells w.heap.size i vs).drew).frozen? x=((w.drew.alloc (.cells ROW 30)).setCells w.heap.size i vs).frozen? x:=fun x=>rfl
 have hw1:IntKind.i64.wrap ((i:Int)+(m:Int))=(i:Int)+(m:Int):=by rw [IntKind.wrap_i64]; omega
 have hb1:(0:Int)<=(i:Int)+(m:Int):=by omega
 have hin:i<=n:=by omega
 have htn:((i:Int)+(m:Int)).toNat=i+m:=by omega
 have hb3:(i:Int)<=(n:Int):=by omega
 clear hkk hik hold hROW hG hRl
 have mixed:=xD
 go_enter Tryz.func108,Tryz.ntmps108
 go_wp2_with (first
  | (at_builtin; refine Lib.wpList_append_run _ rfl _ _ _ _ rfl _ _ rfl rfl _ _ (hrz _) ?_)
  | (at_builtin; refine ik _ rfl _ _ 22 22 rfl _ _ rfl rfl (hcpA _ hE1 hE2 _ _) ?_)
  | (at_builtin; refine ik _ rfl _ _ 22 22 rfl _ _ rfl rfl (hcpB _ (fun _=>rfl) (fun _=>rfl) _ _ _) ?_))
 go_region_law_o (refine nh rfl _ _ 22 22 rfl (.slice (some ⟨w.heap.size,i+m,none⟩) (n+m-(i+m)) (G-(i+m))) (.slice (some ⟨b,off+i,none⟩) (n-i) (c-i)) (by simp [Act.eval,Act.put]) (by simp [Act.eval,Act.put]) (hcpB _ hF1 hF2 3 (G-(i+m)) (c-i)) ?_)
 go_wp2
 go_ret
 exact ⟨rfl,rfl⟩
end Go.Proofs.YtichbdepocojaaaGreat.Ins108
namespace Go.Proofs.YtichbdepocojaaaGreat.Ev.Ok108
open Go Go.Proofs.YtichbdepocojaaaGreat.Ev
set_option linter.all false
def oO (A:Array Value):Nat->List Value->Array Value
 | _,[]=>A
 | o,v :: r=>oO (A.setIfInBounds o v) (o+1) r
theorem gm:∀ (vs:List Value) (o:Nat) (A:Array Value),(oO A o vs).size=A.size
 | [],o,A=>rfl
 | v :: r,o,A=>by rw [oO,gm r]; simp
theorem lG:∀ (vs:List Value) (o:Nat) (A:Array Value) (j:Nat),j<A.size->(oO A o vs)[j]? = if o<=j/\j<o+vs.length then vs[j-o]? else A[j]?
 | [],o,A,j,hj=>by rw [oO,if_neg (by simp only [List.length_nil]; omega)]
 | v :: r,o,A,j,hj=>by
  rw [oO,lG r (o+1) _ j (by simpa using hj)]
  by_cases h1:o+1<=j/\j<o+1+r.length
  ·rw [if_pos h1,if_pos (by simp; omega),show j-o=(j-(o+1))+1 by omega,List.getElem?_cons_succ]
  ·rw [if_neg h1]
   by_cases h2:j=o
   ·subst h2
    rw [if_pos (by simp),Nat.sub_self,List.getElem?_cons_zero,Array.getElem?_setIfInBounds_self_of_lt hj]
   ·rw [if_neg (by simp; omega),Array.getElem?_setIfInBounds_ne (by omega)]
theorem kz (b:Nat):∀ (vs:List Value) (o:Nat) (w:World) (arr:Array Value) (ty:TypeId) (fr:Nat × Nat),w.heap[b]? = some (.cells arr ty fr) ->
  (w.setCells b o vs).heap[b]? = some (.cells (oO arr o vs) ty fr)/\(∀ c,c≠b->(w.setCells b o vs).heap[c]? = w.heap[c]?)/\(w.setCells b o vs).heap.size=w.heap.size /\
   Tp w (w.setCells b o vs)/\(w.setCells b o vs).os=w.os/\(w.setCells b o vs).output=w.output
 | [],o,w,arr,ty,fr,h=>⟨h,fun _ _=>rfl,rfl,Tp.same rfl rfl,rfl,rfl⟩
 | v :: r,o,w,arr,ty,fr,h=>by
  have h1:(w.setCell ⟨b,o,none⟩ v).heap[b]? = some (.cells (arr.setIfInBounds o v) ty fr):=by
   simp [World.setCell,Array.getElem?_modify,h]
  obtain ⟨k1,k2,k3,k4,k5,k6⟩:=kz b r (o+1) (w.setCell ⟨b,o,none⟩ v) _ ty fr h1
  refine ⟨k1,fun c hc=>(k2 c hc).trans ?_,k3.trans ?_,(Tp.same rfl rfl).trans k4,k5,k6⟩
  ·simp [World.setCell,Array.getElem?_modify,Ne.symm hc]
  ·simp [World.setCell]
theorem km (w:World) (ty:TypeId):∀ (vs:List Value) (o:Nat) (A:Array Value),(w.alloc (.cells A ty)).setCells w.heap.size o vs=w.alloc (.cells (oO A o vs) ty)
 | [],o,A=>rfl
 | v :: r,o,A=>by
  have h1:(w.alloc (.cells A ty)).setCell ⟨w.heap.size,o,none⟩ v=w.alloc (.cells (A.setIfInBounds o v) ty):=by
   simp only [World.setCell,World.alloc]
   congr 1
   apply Array.ext_getElem?
   intro j
   rw [Array.getElem?_modify]
   by_cases hj:w.heap.size=j
   ·subst hj; simp
   ·rw [if_neg hj,Array.getElem?_push,Array.getElem?_push,if_neg (Ne.symm hj),if_neg (Ne.symm hj)]
  rw [World.setCells,h1,km w ty r (o+1) _]; rfl
section
variable {P:Program} {μ:Mu} {F:Nat->Prop} {H:Heap} {w:World}
theorem uq {μ':Mu} {H':Heap} {w':World} (h:Stp (fun x=>x=H.next) P μ F { H with next:=H.next+1 } w μ' F H' w'):Stp oK P μ F H w μ' F H' w' :=
 ⟨h.mu,h.fr,h.size,h.keep,h.rw,Nat.le_trans (Nat.le_add_right _ _) h.next,fun b hb _ hn=>h.new b (Nat.lt_of_lt_of_le hb (Nat.le_add_right _ _)) (by omega) hn,h.rng,
  fun b e hb hl _=>h.old b e hb (Nat.lt_of_lt_of_le hl (Nat.le_add_right _ _)) (by omega),h.alv,h.tape,h.os,h.out⟩
theorem B8 {ty:Nat} {cs:List AV} {V:List Value} {A:Array Value} {w1:World} {k cap':Nat} {H1:Heap} (hH:HR P μ F H1 w) (hnx:H1.next=H.next+1) (hid:μ H.next=none) (hs:sizeOf? P ty=some 1)
  (hl:LR μ F w cs V) (hk:V.length=k) (hA:∀ j,j<k->A[j]? = V[j]?) (hcap:k<=cap') (hsz:A.size=cap')
  (h1:w1.heap=w.heap) (ht:Tp w w1) (hos:w1.os=w.os) (hout:w1.output=w.output) :
  ∃ μ',VR μ' F (w1.alloc (.cells A ty)) (.own H.next 0 k k 1 false) (.slice (some ⟨w.heap.size,0,none⟩) k cap')/\HR P μ' F (H1.put H.next (.cells cs ty true)) (w1.alloc (.cells A ty)) /\
   Stp (fun x=>x=H.next) P μ F H1 w μ' F (H1.put H.next (.cells cs ty true)) (w1.alloc (.cells A ty)):=by
 have hcl:cs.length=k:=hl.1.trans hk
 obtain ⟨q1,q2⟩:=jJ (I:=fun x=>x=H.next) hH hid (by omega) rfl (sz:=1) (arr:=A) (cs:=cs) hs (by omega)
  (fun i c v hc hv=>by
   have hi:i<k:=by rw [<- hcl]; exact (List.getElem?_eq_some_iff.1 hc).1
   rw [hA i hi] at hv
   exact hl.2 i c v hc hv) w1 h1 ht hos hout
 exact ⟨_,.own H.next 0 k k 1 false _ cap' (upd_same _ _) rfl (Nat.le_refl _) hcap (fun h=>by cases h) (by simp [hsz]),q1,q2⟩
theorem Iu {b ty:Nat} {L:vz} {cs0 cs:List AV} {V:List Value} {A:Array Value} {w':World} {k cap:Nat} (hH:HR P μ F H w) (hb:H.get b=some (.cells cs0 ty true)) (hL:μ b=some L) (hLs:L.sz=1)
  (hl:LR μ F w cs V) (hk:V.length=k) (hA:∀ j,j<k->A[j]? = V[j]?) (hcap:k<=cap) (hsz:A.size=L.N) (hN:cap<=L.N)
  (hw:w'.heap[L.blk]? = some (.cells A ty (0,0))) (hoth:∀ c,c≠L.blk->w'.heap[c]? = w.heap[c]?) (hsize:w'.heap.size=w.heap.size) (ht:Tp w w') (hos:w'.os=w.os) (hout:w'.output=w.output) :
  ∃ μ',VR μ' F w' (.own H.next 0 k k 1 false) (.slice (some ⟨L.blk,0,none⟩) k cap)/\HR P μ' F (({ H with next:=H.next+1 }.kill b).put H.next (.cells cs ty true)) w' /\
   Stp oK P μ F H w μ' F (({ H with next:=H.next+1 }.kill b).put H.next (.cells cs ty true)) w':=by
 have hcl:cs.length=k:=hl.1.trans hk
 have hid:μ H.next=none:=iA hH (Nat.le_refl _)
 have hH1:=hH.bump 1
 have hb1:({ H with next:=H.next+1 }:Heap).get b=some (.cells cs0 ty true):=hb
 obtain ⟨arr,fr,g1,g2,g3,g4,g5,g6,g7⟩:=eM hH hb hL
 obtain ⟨p1,p2⟩:=gf (I:=fun x=>x=H.next) (e:=.cells cs ty true) hH1 hb1 rfl hL w' hoth hsize ht hos hout
  (fun hF=>⟨A,(0,0),hw,hsz,g3,by omega,fun i c v hc hv=>by
   have hi:i<k:=by rw [<- hcl]; exact (List.getElem?_eq_some_iff.1 hc).1
   rw [hA i hi] at hv
   exact (hl.2 i c v hc hv).mono (fun _ _ h=>h) (fun _ h=>h) hF,fun _=>⟨(g6 rfl).1,rfl⟩,fun h=>by cases h⟩) rfl
 obtain ⟨q4,q5⟩:=pU (I:=fun x=>x=H.next) p1 (b:=b) (id:=H.next) (L:=L) (by rw [Heap.get_put,if_pos rfl]) hL hid (by show H.next<H.next+1; omega) rfl
 refine ⟨μ.upd H.next L,.own H.next 0 k k 1 false L cap (upd_same _ _) hLs (Nat.le_refl _) hcap (fun h=>by cases h) (by simp; omega),?_,?_⟩
 ·refine q4.congr rfl fun x=>?_
  simp only [Heap.get_put,Heap.get_kill]
  split
  ·rfl
  ·split
   ·rfl
   ·rename_i hx; rfl
 ·refine uq ((p2.trans q5).congr rfl fun x e he=>⟨e,?_,rfl⟩)
  simp only [Heap.get_put,Heap.get_kill] at he ⊢
  split at he
  ·rename_i hx; rw [if_pos hx]; exact he
  ·rename_i hx
   rw [if_neg hx]
   split at he
   ·cases he
   ·rename_i hx2; rw [if_neg hx2,if_neg hx2]; exact he
end
theorem qf {vs:List Value} {w:World} {F:Fence} {rd:Bool} {n:Nat} {R:Value->World->Prop} (hF:FenceOK F rd) (h:Calls Tryz.prog 108 vs.toArray w fun e w'=>∃ u,e=.returned u/\R u w'):Runs F n Tryz.prog ((callFunc 108 vs.toArray).run Tryz.prog w) R:=by
 rw [oD (P:=Tryz.prog) (f:=108) Tryz.func108 (by kernel_rfl) (of_decide_eq_true (by kernel_rfl))]
 unfold Runs
 simp only
 have key:CallsIn Fence.wide n Tryz.prog 108 vs.toArray w fun e w'=>∃ u,e=.returned u/\R u w':=callsIn_wide.2 h
 rcases hF with ⟨_,rfl⟩ | ⟨_,l,rfl⟩
 ·exact key
 ·exact key
theorem pY {w:World} {b:Nat} {arr:Array Value} {ty:TypeId} (h:w.heap[b]? = some (.cells arr ty (0,0))) (o:Nat):w.frozen? ⟨b,o,none⟩=false:=by
 simp [World.frozen?,h]
theorem Iv {H H':Heap} {size bytes ty:Nat} {args:List AV} {v:AV} (h:qi H (.insert size bytes ty) args=some (v,H')) :
  (∃ b2 off2 m c2 sz2 ex2 news,args=[.nilSl,.int .i64 (.ofNat 0),.own b2 off2 m c2 sz2 ex2]/\aG H size m (.own b2 off2 m c2 sz2 ex2)=some news/\0<m/\m*bytes<=2^46/\m<2^62/\news.all AV.one=true /\
   v=.own H.next 0 m m size false/\H'=({ H with next:=H.next+1 }:Heap).put H.next (.cells news ty true)) \/
  (∃ b n c ex i b2 off2 m c2 sz2 ex2 news cs cs2 ty2,args=[.own b 0 n c size ex,.int .i64 (.ofNat i),.own b2 off2 m c2 sz2 ex2]/\aG H size m (.own b2 off2 m c2 sz2 ex2)=some news/\H.get b=some (.cells cs ty true)/\H.get b2=some (.cells cs2 ty2 true) /\
   b≠b2/\0<m/\i<=n/\cs.length=n*size/\(n+m)*bytes<=2^46/\n+m<2^62/\news.all AV.one=true/\cs.all AV.one=true /\
   v=.own H.next 0 (n+m) (n+m) size false/\H'=(({ H with next:=H.next+1 }:Heap).kill b).put H.next (.cells (cs.take (i*size)++news++cs.drop (i*size)) ty true)):=by
 unfold qi at h
 split at h
 all_goals first | contradiction | skip
 ·rename_i heq
  cases heq
  split at h
  ·rename_i news hnews
   split at h
   ·rename_i hc
    obtain ⟨c1,c2',c3,c4,c5⟩:=hc
    cases h
    subst c1
    exact .inl ⟨_,_,_,_,_,_,news,rfl,hnews,c2',c3,c4,c5,rfl,rfl⟩
   ·cases h
  ·cases h
 ·rename_i heq
  cases heq
  split at h
  ·rename_i news cs ty' cs2 ty2 hnews hb hb2
   split at h
   ·rename_i hc
    obtain ⟨c1,c2',c3,c4,c5,c6,c7,c8,c9,c10,c11⟩:=hc
    cases h
    subst c1
    subst c2'
    subst c9
    exact .inr ⟨_,_,_,_,_,_,_,_,_,_,_,news,cs,cs2,ty2,rfl,hnews,hb,hb2,c3,c4,c5,c6,c7,c8,c10,c11,rfl,rfl⟩
   ·cases h
  ·cases h
 all_goals (cases h)
theorem zd {P:Program} {μ:Mu} {F:Nat->Prop} {H:Heap} {w:World} {b2 off2 m c2 sz2:Nat} {ex2:Bool} {news:List AV} {z:Value} (hH:HR P μ F H w) (hz:VR μ F w (.own b2 off2 m c2 sz2 ex2) z) (hnews:aG H 1 m (.own b2 off2 m c2 sz2 ex2)=some news) :
  ∃ L2 cap2 arr2 ty2 fr2 cs2 rw2,μ b2=some L2/\z=.slice (some ⟨L2.blk,off2,none⟩) m cap2/\H.get b2=some (.cells cs2 ty2 rw2)/\w.heap[L2.blk]? = some (.cells arr2 ty2 fr2)/\off2+m<=arr2.size/\(rw2=true->fr2=(0,0)) /\
   ((arr2.toList.drop off2).take m).length=m/\LR μ F w news ((arr2.toList.drop off2).take m)/\∀ j u,((arr2.toList.drop off2).take m)[j]? = some u->w.cell? ⟨L2.blk,off2+j,none⟩=some u:=by
 cases hz with
 | own _ _ _ _ _ _ L2 cap2 k1 k2 k3 k4 k5 k6 =>
 simp only [aG] at hnews
 split at hnews
 ·rename_i cs2 ty2 rw2 hb2
  split at hnews
  ·rename_i hcc
   obtain ⟨e1,e2,e3⟩:=hcc
   cases hnews
   obtain ⟨arr2,fr2,g1,g2,g3,g4,g5,g6,g7⟩:=eM hH hb2 k1
   have hvl:((arr2.toList.drop off2).take m).length=m:=by simp; omega
   refine ⟨L2,cap2,arr2,ty2,fr2,cs2,rw2,k1,rfl,hb2,g1,by omega,fun h=>(g6 h).2,hvl,⟨by simp; omega,fun i c u hi hu=>?_⟩,fun j u hj=>?_⟩
   ·rw [List.getElem?_take] at hi hu
    rw [Nat.mul_one] at hi
    split at hi
    ·rename_i him
     rw [if_pos him] at hu
     rw [List.getElem?_drop] at hi hu
     exact g5 _ c u hi (by simpa using hu)
    ·cases hi
   ·rw [mD g1]
    rw [List.getElem?_take] at hj
    split at hj
    ·rw [List.getElem?_drop] at hj; simpa using hj
    ·cases hj
  ·cases hnews
 ·cases hnews
theorem Id {μ:Mu} {F:Nat->Prop} {w:World} {b n c sz:Nat} {ex:Bool} {x:Value} (h:VR μ F w (.own b 0 n c sz ex) x):∃ L cap,μ b=some L/\L.sz=sz/\n<=c/\c<=cap/\cap*sz<=L.N/\x=.slice (some ⟨L.blk,0,none⟩) n cap:=by
 cases h with
 | own _ _ _ _ _ _ L cap k1 k2 k3 k4 k5 k6=>exact ⟨L,cap,k1,k2,k3,k4,by omega,rfl⟩
theorem tp {μ:Mu} {F:Nat->Prop} {w:World} {vs:List Value} {a b c:AV} (h:LR μ F w [a,b,c] vs):∃ x y z,vs=[x,y,z]/\VR μ F w a x/\VR μ F w b y/\VR μ F w c z:=by
 have hl:=h.1
 match vs,hl with
 | [x,y,z],_=>exact ⟨x,y,z,rfl,h.head,h.tail.head,h.tail.tail.head⟩
set_option maxRecDepth 100000 in
theorem extOK_insert:ExtOK Tryz.prog 108 (.insert 1 24 30):=by
 intro H args v H' h μ F w vs fence rd nn hF hH hl
 have hsE:sizeOf? Tryz.prog 30=some 1:=by
  obtain ⟨i0,hi,h0,h1,h2⟩:=info_parts Ins108.iE
  simp [sizeOf?,hi,h1]
 have hid:μ H.next=none:=iA hH (Nat.le_refl _)
 have hzs:∀ k,(Builtin.zeroCells (Value.slice none 0 0).cells k).size=k:=fun k=>by rw [sL]; simp [Value.cells]
 rcases Iv h with ⟨b2,off2,m,c2,sz2,ex2,news,rfl,hnews,h1,h2,h3,h4,rfl,rfl⟩ | ⟨b,n,c,ex,i,b2,off2,m,c2,sz2,ex2,news,cs,cs2,ty2,rfl,hnews,hb,hb2,h1,h2,h3,h4,h5,h6,h7,h8,rfl,rfl⟩
 ·obtain ⟨x,y,z,rfl,hx,hy,hz⟩:=tp hl
  cases hx
  cases hy
  obtain ⟨L2,cap2,arr2,ty2,fr2,cs2,rw2,k1,rfl,k3,g1,g2,-,hvl,hvr,hcell⟩:=zd hH hz hnews
  refine qf hF ((Ins108.end_grow none 0 0 L2.blk off2 m cap2 [] ((arr2.toList.drop off2).take m) w h1 (Nat.le_refl _) (by omega) (by omega) rfl hvl (fun _=>rfl) (fun a h=>by cases h) hcell (hvr.one h4)).mono fun e w' ⟨he,hw⟩=>?_)
  subst hw
  rw [Nat.zero_add] at he
  have hge:=Go.grownCap_ge w m 0 30
  simp only [Nat.zero_add,List.nil_append]
  obtain ⟨μ',q1,q2,q3⟩:=B8 (P:=Tryz.prog) (H:=H) (A:=((arr2.toList.drop off2).take m).toArray++Builtin.zeroCells (Value.slice none 0 0).cells (grownCap w m 0 30-m)) (w1:=w.drew) (k:=m) (cap':=grownCap w m 0 30) (hH.bump 1) rfl hid hsE hvr hvl
   (fun j hj=>by rw [Array.getElem?_append_left (by simp [hvl]; omega)]; simp) hge (by simp only [Array.size_append,List.size_toArray,hvl,hzs]; omega) rfl Tp.draw rfl rfl
  exact ⟨_,he,μ',q1,q2,uq q3⟩
 ·obtain ⟨x,y,z,rfl,hx,hy,hz⟩:=tp hl
  obtain ⟨L,cap,r1,r2,r3,r4,r5,rfl⟩:=Id hx
  cases hy
  obtain ⟨L2,cap2,arr2,ty2',fr2,cs2',rw2,k1,rfl,k3,g1,g2,gfr,hvl,hvr,hcell⟩:=zd hH hz hnews
  rw [hb2] at k3
  cases k3
  have hfr2:=gfr rfl
  subst hfr2
  obtain ⟨arr,fr,p1,p2,p3,p4,p5,p6,p7⟩:=eM hH hb r1
  obtain ⟨-,rfl⟩:=p6 rfl
  rw [Nat.mul_one] at h4 r5
  have hne:L2.blk≠L.blk:=fun e=>h1 (hH.inj b b2 _ _ L L2 hb hb2 r1 k1 e.symm)
  have hvsl:(arr.toList.take n).length=n:=by simp; omega
  have hcs:LR μ F w cs (arr.toList.take n):=by
   refine ⟨by simp; omega,fun i c u hi hu=>?_⟩
   rw [List.getElem?_take] at hu
   split at hu
   ·exact p5 i c u hi (by simpa using hu)
   ·cases hu
  have hcell0:∀ j u,(arr.toList.take n)[j]? = some u->w.cell? ⟨L.blk,0+j,none⟩=some u:=fun j u hj=>by
   rw [mD p1,Nat.zero_add]
   rw [List.getElem?_take] at hj
   split at hj
   ·simpa using hj
   ·cases hj
  have hV:LR μ F w (cs.take (i*1)++news++cs.drop (i*1)) ((arr.toList.take n).take i++(arr2.toList.drop off2).take m++(arr.toList.take n).drop i):=by
   rw [Nat.mul_one]
   exact ((hcs.take i).append hvr).append (hcs.drop i)
  have hVl:((arr.toList.take n).take i++(arr2.toList.drop off2).take m++(arr.toList.take n).drop i).length=n+m:=by
   simp only [List.length_append,List.length_take,List.length_drop,hvl,hvsl]
   have:=hvsl
   rw [List.length_take] at this
   omega
  generalize hC:arr.toList.take n=C at *
  generalize hD:(arr2.toList.drop off2).take m=D at *
  have hCl:=hvsl
  have hDl:=hvl
  have harr:∀ j,j<n->arr[j]? = C[j]?:=fun j hj=>by rw [<- hC,List.getElem?_take,if_pos hj]; simp
  have hVat:∀ j,j<n+m->(C.take i++D++C.drop i)[j]? = if j<i then C[j]? else if j<i+m then D[j-i]? else C[j-m]?:=by
   intro j hj
   have e1:(C.take i).length=i:=by rw [List.length_take]; omega
   by_cases q1:j<i
   ·rw [if_pos q1,List.getElem?_append_left (by rw [List.length_append,e1]; omega),List.getElem?_append_left (by omega),List.getElem?_take,if_pos q1]
   ·rw [if_neg q1]
    by_cases q2:j<i+m
    ·rw [if_pos q2,List.getElem?_append_left (by rw [List.length_append,e1]; omega),List.getElem?_append_right (by omega),e1]
    ·rw [if_neg q2,List.getElem?_append_right (by rw [List.length_append,e1]; omega),List.length_append,e1,List.getElem?_drop]
     congr 1; omega
  have hsp:∀ j,j<cap->(w.cell? ⟨L.blk,0+j,none⟩).isSome=true:=fun j hj=>by
   rw [mD p1,Nat.zero_add,Array.getElem?_eq_getElem (by omega)]; rfl
  by_cases hroom:n+m<=cap
  ·
   have fin:∀ (A:Array Value) (w':World),A.size=L.N->(∀ j,j<n+m->A[j]? = (C.take i++D++C.drop i)[j]?)->w'.heap[L.blk]? = some (.cells A 30 (0,0))->(∀ c,c≠L.blk->w'.heap[c]? = w.heap[c]?)->w'.heap.size=w.heap.size->Tp w w'->w'.os=w.os->w'.output=w.output ->
     ∃ μ',fH oK Tryz.prog μ F H w (.own H.next 0 (n+m) (n+m) 1 false) (({ H with next:=H.next+1 }:Heap).kill b |>.put H.next (.cells (cs.take (i*1)++news++cs.drop (i*1)) 30 true)) (.slice (some ⟨L.blk,0,none⟩) (n+m) cap) w' μ':=by
    intro A w' a1 a2 a3 a4 a5 a6 a7 a8
    obtain ⟨μ',q1,q2,q3⟩:=Iu (P:=Tryz.prog) (A:=A) (w':=w') (k:=n+m) (cap:=cap) hH hb r1 r2 hV hVl a2 hroom a1 r5 a3 a4 a5 a6 a7 a8
    exact ⟨μ',q1,q2,q3⟩
   by_cases hin:i=n
   ·subst hin
    refine qf hF ((Ins108.end_room L.blk 0 i cap L2.blk off2 m cap2 D w h2 hroom (by omega) hDl (fun j hj=>by rw [Nat.add_assoc]; exact hsp _ (by omega)) (fun j _=>pY p1 _) hcell (hvr.one h7)).mono fun e w' ⟨he,hw⟩=>?_)
    subst hw
    obtain ⟨s1,s2,s3,s4,s5,s6⟩:=kz L.blk D (0+i) w arr 30 (0,0) p1
    obtain ⟨μ',hd⟩:=fin _ _ ((gm _ _ _).trans p2) (fun j hj=>by
     rw [lG _ _ _ _ (by omega),hVat j hj,hDl,Nat.zero_add]
     by_cases q1:j<i
     ·rw [if_neg (by omega),if_pos q1,harr j q1]
     ·rw [if_pos (by omega),if_neg q1,if_pos (by omega)]) s1 s2 s3 s4 s5 s6
    exact ⟨_,he,μ',hd⟩
   ·refine qf hF ((Ins108.shift L.blk 0 n cap i L2.blk off2 m cap2 C D w (by omega) h2 hroom (by omega) hne hCl hDl hcell0 (fun j hj=>hsp j (by omega)) (fun j _=>pY p1 _) hcell (hcs.one h8) (hvr.one h7)
     ty2 30 arr2.size arr.size (by simp [World.shape?,g1]) (by simp [World.shape?,p1]) (by omega) (pY g1 _) (pY g1 _)).mono fun e w' ⟨he,hw⟩=>?_)
    subst hw
    obtain ⟨s1,s2,s3,s4,s5,s6⟩:=kz L.blk (C.drop i) (0+(i+m)) w.drew arr 30 (0,0) p1
    obtain ⟨t1,t2,t3,t4,t5,t6⟩:=kz L.blk D (0+i) _ _ 30 (0,0) s1
    obtain ⟨μ',hd⟩:=fin _ _ (by rw [gm,gm]; exact p2) (fun j hj=>by
     rw [lG _ _ _ _ (by rw [gm]; omega),lG _ _ _ _ (by omega),hVat j hj,hDl,Nat.zero_add,Nat.zero_add,List.length_drop,hCl]
     by_cases q1:j<i
     ·rw [if_neg (by omega),if_neg (by omega),if_pos q1,harr j (by omega)]
     ·by_cases q2:j<i+m
      ·rw [if_pos (by omega),if_neg q1,if_pos q2]
      ·rw [if_neg (by omega),if_pos (by omega),if_neg q1,if_neg q2,List.getElem?_drop]
       congr 1; omega) t1 (fun c hc=>(t2 c hc).trans (s2 c hc)) (t3.trans s3) ((Tp.draw.trans s4).trans t4) (t5.trans s5) (t6.trans s6)
    exact ⟨_,he,μ',hd⟩
  ·
   have hge:=Go.grownCap_ge w (n+m) cap 30
   obtain ⟨z1,z2⟩:=py (I:=fun x=>x=H.next) (hH.bump 1) b
   have fin:∀ (A:Array Value) (w1:World),A.size=grownCap w (n+m) cap 30->(∀ j,j<n+m->A[j]? = (C.take i++D++C.drop i)[j]?)->w1.heap=w.heap->Tp w w1->w1.os=w.os->w1.output=w.output ->
     ∃ μ',fH oK Tryz.prog μ F H w (.own H.next 0 (n+m) (n+m) 1 false) (({ H with next:=H.next+1 }:Heap).kill b |>.put H.next (.cells (cs.take (i*1)++news++cs.drop (i*1)) 30 true)) (.slice (some ⟨w.heap.size,0,none⟩) (n+m) (grownCap w (n+m) cap 30)) (w1.alloc (.cells A 30)) μ':=by
    intro A w1 a1 a2 a3 a4 a5 a6
    obtain ⟨μ',q1,q2,q3⟩:=B8 (P:=Tryz.prog) (H:=H) (A:=A) (w1:=w1) (k:=n+m) (cap':=grownCap w (n+m) cap 30) z1 rfl hid hsE hV hVl a2 hge a1 a3 a4 a5 a6
    exact ⟨μ',q1,q2,uq (z2.trans q3)⟩
   by_cases hin:i=n
   ·subst hin
    refine qf hF ((Ins108.end_grow (some ⟨L.blk,0,none⟩) i cap L2.blk off2 m cap2 C D w h2 (by omega) (by omega) (by omega) hCl hDl (fun h=>by cases h) (fun a ha j u hj=>by cases ha; rw [g8]; exact hcell0 j u hj) hcell (hvr.one h7)).mono fun e w' ⟨he,hw⟩=>?_)
    subst hw
    obtain ⟨μ',hd⟩:=fin ((C++D).toArray++Builtin.zeroCells (Value.slice none 0 0).cells (grownCap w (i+m) cap 30-(i+m))) w.drew (by simp only [Array.size_append,List.size_toArray,List.length_append,hCl,hDl,hzs]; omega) (fun j hj=>by
     rw [Array.getElem?_append_left (by simp [hCl,hDl]; omega),hVat j hj]
     have e0:(C++D).toArray[j]? = (C++D)[j]?:=by simp
     rw [e0]
     by_cases q1:j<i
     ·rw [if_pos q1,List.getElem?_append_left (by omega)]
     ·rw [if_neg q1,if_pos (by omega),List.getElem?_append_right (by omega),hCl]) rfl Tp.draw rfl rfl
    exact ⟨_,he,μ',hd⟩
   ·refine qf hF ((Ins108.grow L.blk 0 n cap i L2.blk off2 m cap2 C D w (by omega) h2 (by omega) (by omega) (by omega) hCl hDl hcell0 hcell (hcs.one h8) (hvr.one h7)).mono fun e w' ⟨he,hw⟩=>?_)
    have e1:∀ A:Array Value,(((w.alloc (.cells A 30)).drew.setCells w.heap.size i D).drew).setCells w.heap.size (i+m) (C.drop i)=w.drew.drew.alloc (.cells (oO (oO A i D) (i+m) (C.drop i)) 30):=fun A=>by
     have a1:(w.alloc (.cells A 30)).drew=w.drew.alloc (.cells A 30):=rfl
     have a2:(w.drew.alloc (.cells A 30)).setCells w.heap.size i D=w.drew.alloc (.cells (oO A i D) 30):=km w.drew 30 D i A
     have a3:(w.drew.alloc (.cells (oO A i D) 30)).drew=w.drew.drew.alloc (.cells (oO A i D) 30):=rfl
     rw [a1,a2,a3]
     exact km w.drew.drew 30 (C.drop i) (i+m) (oO A i D)
    rw [e1] at hw
    subst hw
    obtain ⟨μ',hd⟩:=fin (oO (oO ((C.take i).toArray++Builtin.zeroCells (Value.slice none 0 0).cells (n+m-i)++Builtin.zeroCells (Value.slice none 0 0).cells (grownCap w (n+m) cap 30-(n+m))) i D) (i+m) (C.drop i)) w.drew.drew (by
      rw [gm,gm]
      simp only [Array.size_append,List.size_toArray,List.length_take,hCl,hzs]; omega) (fun j hj=>by
     have hA0:((C.take i).toArray++Builtin.zeroCells (Value.slice none 0 0).cells (n+m-i)++Builtin.zeroCells (Value.slice none 0 0).cells (grownCap w (n+m) cap 30-(n+m))).size=grownCap w (n+m) cap 30:=by
      simp only [Array.size_append,List.size_toArray,List.length_take,hCl,hzs]; omega
     rw [lG _ _ _ _ (by rw [gm,hA0]; omega),lG _ _ _ _ (by rw [hA0]; omega),hVat j hj,hDl,List.length_drop,hCl]
     by_cases q1:j<i
     ·rw [if_neg (by omega),if_neg (by omega),if_pos q1,Array.getElem?_append_left (by simp only [Array.size_append,List.size_toArray,List.length_take,hCl,hzs]; omega),Array.getElem?_append_left (by simp only [List.size_toArray,List.length_take,hCl]; omega)]
      simp [q1]
     ·by_cases q2:j<i+m
      ·rw [if_neg (by omega),if_pos (by omega),if_neg q1,if_pos q2]
      ·rw [if_pos (by omega),if_neg q1,if_neg q2,List.getElem?_drop]
       congr 1; omega) rfl (Tp.draw.trans Tp.draw) rfl rfl
    exact ⟨_,he,μ',hd⟩
end Go.Proofs.YtichbdepocojaaaGreat.Ev.Ok108
