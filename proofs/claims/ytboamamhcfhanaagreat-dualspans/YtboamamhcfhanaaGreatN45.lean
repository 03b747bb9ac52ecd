/- A part. -/
import Derived.Test.YtboamamhcfhanaaGreatN33
import Derived.Test.YtboamamhcfhanaaGreatEch
import Derived.ChangeArms
import Derived.DataReads
namespace Go.Proofs.YtboamamhcfhanaaGreat.Ev
open Go Nn
set_option linter.all false
theorem Frm.wr {H0 H H':Heap} {v w:AV} {l m:List (List Int)} {c:Nat} (hf:Frm v H H') (h:Bl rowsE af H0 H v l) (hw:Wr H0 H w m c) (hs:Sep v w):Wr H0 H' w m c:=by
 rcases hw with hw | ⟨b,cells,h1,h2,h3,h4,h5,h6⟩
 ·exact .inl hw
 ·exact .inr ⟨b,cells,h1,hf b _ h2 (fun e=>hs b e (by rw [h1]; rfl)),h3,h4,h5.mono (hf.subT h (by decide)),h6⟩
theorem Cq {α:Type} (p:α->Bool) (l:List α):(mf p l<0/\l.findIdx? p=none)\/∃ i:Nat,mf p l=(i:Int)/\l.findIdx? p=some i:=by
 unfold mf
 cases h:l.findIdx? p with
 | none=>exact .inl ⟨by simp,rfl⟩
 | some i=>exact .inr ⟨i,rfl,rfl⟩
section
variable {tab:Nat->Option aq} {H:Heap} {s:AV}
theorem A3 (C:Code tab) (hw:Wf H) {w va:AV} {r a:List Int} {bx e f:Nat} (hr:RowV H w r) (hb:H.get bx=some (.cells [va] af true)) (ha:RowV H va a) (hra:a.length=r.length) (h64:a.length<=64) (hae:∀ z∈a,Bt e z) (hrf:∀ z∈r,Bt f z) (hbt:e+f+7<=8796093022208) :
  Ans tab (.fn eQ [w,.ptr bx 0]) H fun v H'=>v=.bool (!decide (Lin.dot a r=0))/\Kp H H':=by
 refine ca C.P_cone_under_add_f1 (by decide) fun T hl g0 g1=>?_
 refine zW (bg hl g0 g1 hb) ?_
 refine AnsH.use (cone_dot C zF (ha.mono (Kp.sub (H:=H) zK)) (hr.mono (Kp.sub (H:=H) zK)) hra h64 hae hrf hbt) ?_
 rintro v H2 ⟨hr2,hk2⟩
 obtain ⟨k2,_,w2⟩:=zT H zK hk2
 refine zW (aC hl g0 g1) ?_
 refine AnsH.eq (cone_sign C (z:=Lin.dot a r) zF (hr2.mono (Kp.sub (H:=H2) zK)) ((mY hae hrf hra h64).sm hbt)) fun H3 hk3=>?_
 have k3:Kp H H3:=Kp.trans k2 (Kp.trans zK hk3)
 have le_k3:=k3.le
 refine zW (aC hl g0 g1) ?_
 refine ⟨?_,zK⟩
 congr 1
 rw [Bool.eq_iff_iff]
 simp [gq]
theorem A4 (C:Code tab) {H0:Heap} {ub:Nat} {u:Lin.Under} {va:AV} {a:List Int} {eq:Bool} {d e f:Nat} (hk:Kp H0 H) (hub0:H0.next<=ub) (hu:UnderV H0 H ub u) (ha:RowV H0 va a) (hd0:0<d) (hd:d<=64) (hal:a.length=d) (hL:∀ r∈u.lines,r.length=d/\∀ z∈r,Bt f z) (hR:∀ r∈u.rays,r.length=d/\∀ z∈r,Bt f z) (hD:∀ r∈u.done,r.length=d/\∀ z∈r,Bt e z) (hD1:u.done.length<=1024) (hae:∀ z∈a,Bt e z) (hb:2*(e+f+7)+2*f+1<=8796093022208) (hbigL:u.lines.length<=1048576) (hbig:u.rays.length<=1099000000000) (hnx:(Lin.addU a eq u).rays.length<=1099000000000) :
  Ans tab (.fn cC [.ptr ub 0,va,.bool eq]) H fun v H'=>v=.tup []/\Kp H0 H'/\UnderV H0 H' ub (Lin.addU a eq u):=by
 have hw:=hk.wf
 have hle:=hk.le
 have oa:=ha.one
 have haH:=ha.mono hk.sub
 have hu0:=hu
 obtain ⟨ql,qr,qd,cl,hub,hql,hqr,hqd,s1,s2,s3⟩:=hu
 have lub:=hw _ _ hub
 refine xw C.P_cone_under_add rfl rfl (by decide) fun T hl g=>?_
 have hl:T.length=48:=hl
 have hrs:c_P_cone_under_add.results=[]:=rfl
 have g0:ae T 0=.ptr ub 0:=g 0 (by simp)
 have g1:ae T 1=va:=g 1 (by simp)
 have g2:ae T 2=.bool eq:=g 2 (by simp)
 refine br ?_
 refine zW (cJ hl g0 g1 g2 @aK) ?_
 refine br ?_
 refine zW (fW hl g0 g1 g2 @aK hub) ?_
 refine AnsH.eq (oV C (l:=u.lines) zF (hql.sl.mono (Kp.sub (H:=H) zK)) (by omega) (fun r=>!decide (Lin.dot a r=0)) (fun r hr H' w hk' hw'=>A3 C hk'.wf hw' (hk'.get (dC)) (haH.mono (Kp.sub (H:=H) (Kp.trans zK hk'))) (by rw [hal]; exact (hL r hr).1.symm) (by omega) hae (hL r hr).2 (by omega))) fun H2 hk2=>?_
 obtain ⟨k2,_,w2⟩:=zT H zK hk2
 have hbx:H2.get H.next=some (.cells [va] af true):=hk2.get (dC)
 have hub2:=k2.get hub
 have n2:H.next+8<=H2.next:=hk2.le
 have k02:Kp H0 H2:=hk.trans k2
 have le_k02:=k02.le
 have hu2:UnderV H0 H2 ub u:=hu0.mono k2.sub
 refine zW (cJ hl g0 g1 g2 @aK) ?_
 refine OF (fun T' H'=>Kp H0 H'/\UnderV H0 H' ub ⟨(Lin.addU a eq u).lines,(Lin.addU a eq u).rays,u.done⟩/\H'.get H.next=some (.cells [va] af true)) rfl ?_ ?_
 ·rcases Cq (fun r=>!decide (Lin.dot a r=0)) u.lines with ⟨hneg,hf⟩ | ⟨i,hi,hf⟩
  ·have hcl:(Lin.cutL u.done a eq u.rays).length<=1099000000000:=by
    have e:Lin.addU a eq u=⟨u.lines,Lin.cutL u.done a eq u.rays,u.done++if eq then [] else [a]⟩:=by unfold Lin.addU; rw [hf]
    rw [e] at hnx
    exact hnx
   refine zW (fW hl g0 g1 g2 hneg hbx) ?_
   refine AnsH.use (Il C (u:=u) (H0:=H0) zK hub0 (hu2.mono (Sub.bump H2 _)) (haH.mono (Kp.sub (H:=H) zK)) hd0 hd hal hR hD hD1 hae hb hbig hcl) ?_
   rintro v H3 ⟨rfl,hk3,hu3,ho3⟩
   refine zW (az hl @aQ) ?_
   refine ⟨zK,?_,ho3 _ _ hbx (by omega)⟩
   have e:Lin.addU a eq u=⟨u.lines,Lin.cutL u.done a eq u.rays,u.done++if eq then [] else [a]⟩:=by unfold Lin.addU; rw [hf]
   rw [e]
   exact hu3
  ·obtain ⟨hil,-,-⟩:=List.findIdx?_eq_some_iff_getElem.1 hf
   have hnn:¬ ((i:Int)<0):=by omega
   have gi:u.lines.getD i []=u.lines[i]:=by simp [hil]
   refine zW (jm hl g0 g1 g2 hi hnn hbx) ?_
   refine AnsH.use (FG C (u:=u) (H0:=H0) (k02.up _) hub0 (hu2.mono (Sub.bump H2 _)) (haH.mono (Kp.sub (k2.up _))) hil hd hal hL hR hae hb (by omega) (by omega)) ?_
   rintro v H3 ⟨hk3,hrv,hu3,ho3,hq3⟩
   have w3:=hk3.wf
   have le_hk3:=hk3.le
   have orv:=hrv.one
   have hbx3:H3.get H.next=some (.cells [va] af true):=ho3 _ _ hbx (by omega) fun q1 q2 q3 h=>by
    have h':H2.get ub=some (.cells [q1,q2,q3] aN true):=h
    rw [hub2] at h'
    cases h'
    intro hq
    have:=hqr.old hw hq
    omega
   have e:Lin.addU a eq u=⟨(u.lines.eraseIdx i).map (Lin.foldV a (Lin.upV a u.lines[i])),u.rays.map (Lin.foldV a (Lin.upV a u.lines[i]))++(if eq then [] else [Lin.upV a u.lines[i]]),u.done++if eq then [] else [a]⟩:=by
    unfold Lin.addU; rw [hf]; simp only [gi]
   rw [e]
   cases eq with
   | true =>
    refine zW (cJ hl g0 g1 g2 @aQ) ?_
    refine ⟨zK,?_,hbx3⟩
    try simp only [if_true,List.append_nil]
    exact hu3.mono (Sub.bump H3 2)
   | false =>
    obtain ⟨q1',hq1⟩:=hq3 ql qr qd hub2
    obtain ⟨ql3,qr3,qd3,cl3,hub3,hql3,hqr3,hqd3,t1,t2,t3⟩:=hu3
    have hub3':H3.get ub=some (.cells [ql3,qr3,qd3] aN true):=hub3
    rw [hq1] at hub3'
    cases hub3'
    have lub3:=w3 _ _ hub3
    have lbx3:=w3 _ _ hbx3
    have hqr3:Wr H0 H3 qr (u.rays.map (Lin.foldV a (Lin.upV a u.lines[i]))) (u.rays.map (Lin.foldV a (Lin.upV a u.lines[i]))).length:=hqr3
    have hrl:(u.rays.map (Lin.foldV a (Lin.upV a u.lines[i]))).length=u.rays.length:=by simp
    obtain ⟨n6,H6,e6,b6,k6,nx6,f6,u6⟩:=Bl.push1 (ty2:=af) (bytes:=24) (id:=H3.next+9) (id2:=H3.next+8) (k:=13) (cs:=[v]) (a:=Lin.upV a u.lines[i]) hqr3.bl (by decide) hk3 ⟨v,rfl,hrv⟩ (by omega) (by omega) (by omega) (by omega) (by omega) (by omega) (by omega)
    have e6':OC ((H3.up 13).put (H3.next+8) (.cells [v] af true)) (H3.next+9) 1 24 af qr (.own (H3.next+8) 0 1 1 1 true)=some (.own (H3.next+9) 0 n6 n6 1 false,H6):=e6
    have hub6:=f6.other hqr3.bl hub3 (fun cs h=>by injection h with _ h2; exact absurd h2 (by decide))
    have lub6:=k6.wf _ _ hub6
    have w6:=k6.wf
    have hst:By (some (.cells [q1',qr,qd] aN true)) 1 1 (.own (H3.next+9) 0 n6 n6 1 false)=some (.cells [q1',.own (H3.next+9) 0 n6 n6 1 false,qd] aN true):=i9 (aU _ _ _ _ _ _).fits (by simp)
    refine zW (kU hl g0 g1 g2 hub3 e6' hub6 hst @aQ) ?_
    refine ⟨zK,⟨q1',.own (H3.next+9) 0 n6 n6 1 false,qd,cl3,aA _ _ _,(f6.wr hqr3.bl hql3 t1.symm).putT hub6 (by decide) (by decide),?_,(f6.wr hqr3.bl hqd3 t3).putT hub6 (by decide) (by decide),fun x hx hy=>?_,t2,fun x hx hy=>?_⟩,?_⟩
    ·simp only [Bool.false_eq_true,if_false]
     exact b6.wr.putT (e:=.cells [q1',.own (H3.next+9) 0 n6 n6 1 false,qd] aN true) hub6 (by decide) (by decide)
    ·cases hy
     have:=hql3.old w3 hx
     omega
    ·cases hx
     have:=hqd3.old w3 hy
     omega
    ·try rw [au (by omega)]
     refine f6 _ _ hbx3 fun h=>?_
     have:=hqr.old hw h
     omega
 ·rintro T1 H1 hs1 ⟨k1,hu1,hbx1⟩
  have w1:=k1.wf
  have t0:ae T1 0=.ptr ub 0:=(hs1.at_ 0 (by decide)).trans (zV (az hl g0))
  have t2:ae T1 2=.bool eq:=(hs1.at_ 2 (by decide)).trans (zV (az hl g2))
  have t4:ae T1 4=.ptr H.next 0:=(hs1.at_ 4 (by decide)).trans (zV hl)
  have hl1:T1.length=48:=hs1.len.trans (by simp only [List.length_set]; exact hl)
  have e:Lin.addU a eq u=⟨(Lin.addU a eq u).lines,(Lin.addU a eq u).rays,u.done++if eq then [] else [a]⟩:=by
   unfold Lin.addU; split <;> rfl
  rw [e]
  refine WC.wb ?_
  cases eq with
  | true =>
   refine zW (aC hl1 t2 hrs) ?_
   refine ⟨zK,?_⟩
   try simp only [if_true,List.append_nil]
   exact hu1.mono (Sub.bump H1 2)
  | false =>
   obtain ⟨ql3,qr3,qd3,cl3,hub3,hql3,hqr3,hqd3,s1',s2',s3'⟩:=hu1
   have lub3:=w1 _ _ hub3
   obtain ⟨n6,H6,e6,b6,k6,nx6,f6,u6⟩:=Bl.push1 (ty2:=af) (bytes:=24) (id:=H1.next+9) (id2:=H1.next+8) (k:=13) (cs:=[va]) (a:=a) hqd3.bl (by decide) k1 ⟨va,rfl,ha.mono k1.sub⟩ (by omega) (by omega) (by omega) (by omega) (by omega) (by simp only; omega) (by simp only; omega)
   have e6':OC ((H1.up 13).put (H1.next+8) (.cells [va] af true)) (H1.next+9) 1 24 af qd3 (.own (H1.next+8) 0 1 1 1 true)=some (.own (H1.next+9) 0 n6 n6 1 false,H6):=e6
   have hub6:=f6.other hqd3.bl hub3 (fun cs h=>by injection h with _ h2; exact absurd h2 (by decide))
   have lub6:=k6.wf _ _ hub6
   have w6:=k6.wf
   refine zW (az hl1 t2) ?_
   refine aO ?_
   have hst:By (some (.cells [ql3,qr3,qd3] aN true)) 1 2 (.own (H1.next+9) 0 n6 n6 1 false)=some (.cells [ql3,qr3,.own (H1.next+9) 0 n6 n6 1 false] aN true):=i9 (aU _ _ _ _ _ _).fits (Nat.le_refl 3)
   refine zD (nE hl1 t0 t4 hub3 hbx1 e6' hub6 hst @bQ hrs) ?_
   refine ⟨zK,⟨ql3,qr3,.own (H1.next+9) 0 n6 n6 1 false,cl3,aA _ _ _,(f6.wr hqd3.bl hql3 s2'.symm).putT hub6 (by decide) (by decide),(f6.wr hqd3.bl hqr3 s3'.symm).putT hub6 (by decide) (by decide),?_,s1',fun x hx hy=>?_,fun x hx hy=>?_⟩⟩
   ·simp only [Bool.false_eq_true,if_false]
    exact b6.wr.putT (e:=.cells [ql3,qr3,.own (H1.next+9) 0 n6 n6 1 false] aN true) hub6 (by decide) (by decide)
   ·cases hy
    have:=hql3.old w1 hx
    omega
   ·cases hy
    have:=hqr3.old w1 hx
    omega
end
section
variable {tab:Nat->Option aq} {H:Heap} {s:AV}
theorem cone_all (C:Code tab) (hw:Wf H) {d:Nat} (hd:d<=64):Ans tab (.fn qx [.int .i64 (d:Int)]) H fun v H'=>Bl rowsE af H H' v (Lin.startU d).lines/\Kp H H':=by
 refine OD C.cone_all (by decide) fun T hl g0=>?_
 refine zW (az hl g0) ?_
 refine ak H [2] (fun j vs H'=>∃ o,vs=[o]/\Bl rowsE af H H' o ((List.range j).map (Lin.unitV d))) (a:=0) (N:=d) rfl (by refine zW (az hl g0) ?_; rfl) (zV (az hl g0)) (Nat.zero_le _) (by omega) (by simp only [List.length_set,hl]; rfl) rfl (fun j vs H' m ⟨o,h1,h2⟩=>⟨o,h1,h2.mono (Sub.bump H' m)⟩) zK ⟨.nilSl,by exact zV (az hl g0),Bl.nil⟩ ?_ ?_
 ·rintro j T1 H1 _ hj hl1 hi1 hs1 hk1 ⟨o,hv,ho⟩
  have w1:=hk1.wf
  have le_hk1:=hk1.le
  have le1:=hk1.le
  simp only [List.map_cons,List.map_nil,List.cons.injEq,and_true] at hv
  have t0:ae T1 0=.int .i64 (d:Int):=(hs1.at_ 0 (by decide)).trans (zV (az hl g0))
  simp only [List.length_set,hl] at hl1
  obtain ⟨cells,hcells⟩:∃ cells,cells=(List.replicate d [AV.bool false,AV.nilSl]).flatten:=⟨_,rfl⟩
  have hmk:∀ H':Heap,E3 H' (H1.next+3) aa 2 32 [.bool false,.nilSl] (.int .i64 (d:Int)) (.int .i64 (d:Int))=some (.own (H1.next+3) 0 d d 2 true,H'.put (H1.next+3) (.cells cells aa true)):=fun H'=>by rw [hcells]; exact iZ _ _ _ _ _ _ _ _ _ (by omega) (by omega) rfl
  refine zW (bg hl1 t0 hi1 hmk) ?_
  refine AnsH.use (whole_Of C (n:=1) zF (by omega) (by omega)) ?_
  rintro v H2 ⟨⟨w,rfl,hn⟩,hk2⟩
  obtain ⟨k2,_,w2⟩:=zT H1 zK hk2
  have ow:=hn.one
  have hb2:=hk2.get (b:=H1.next+3) (e:=.cells cells aa true) (dC)
  have lt2:=w2 _ _ hb2
  have hclen:cells.length=d*2:=by rw [hcells]; simp
  have hst:By (some (.cells cells aa true)) 2 (0+j*2) (.agg [.bool false,w])=some (.cells (cells.take (0+j*2)++[.bool false,w]++cells.drop (0+j*2+2)) aa true):=i9 (DG (aF _) ow) (by omega)
  have hio:Ox 2 (.own (H1.next+3) 0 d d 2 true) (.int .i64 (j:Int))=some (.ptr (H1.next+3) (0+j*2)):=mU hj
  rw [Nat.zero_add] at hst hio
  obtain ⟨cells2,hc2⟩:∃ c,c=cells.take (j*2)++[.bool false,w]++cells.drop (j*2+2):=⟨_,rfl⟩
  rw [<- hc2] at hst
  have hz:intE.R H2 [.bool false,.nilSl] 0:=⟨.nilSl,by simp,dQ H2⟩
  have hcl:Cells intE H2 cells (List.replicate d 0):=by rw [hcells]; exact dD hz _
  have hcl2:Cells intE H2 cells2 ((List.replicate d 0).set j 1):=by rw [hc2]; exact hcl.set (i:=j) (by simpa using hj) ⟨w,rfl,hn⟩
  have m3:NoTy [ad] H2 (H1.next+3):=NoTy.ty hb2 (by decide)
  obtain ⟨Hx,hHx⟩:∃ Hx,Hx=H2.put (H1.next+3) (.cells cells2 aa true):=⟨_,rfl⟩
  have kx:Kp H1 Hx:=by rw [hHx]; exact zK
  have k0x:Kp H Hx:=hk1.trans kx
  have nx:Hx.next=H2.next:=by rw [hHx]; rfl
  have hclx:Cells intE Hx cells2 ((List.replicate d 0).set j 1):=by rw [hHx]; exact Cells.mono (E:=intE) zS hcl2
  have hrow:RowV Hx (.own (H1.next+3) 0 d d 2 true) (Lin.unitV d j):=by
   have:Own intE aa H1 Hx (H1.next+3) true (.own (H1.next+3) 0 d d 2 true) ((List.replicate d 0).set j 1):=⟨cells2,by simp [intE],by rw [hHx]; exact aA _ _ _,hclx,by omega⟩
   exact this.sl
  have orr:=hrow.one
  obtain ⟨n6,H6,e6,b6,k6,nx6,f6,u6⟩:=Bl.push1 (ty2:=af) (bytes:=24) (id:=Hx.next+3) (id2:=Hx.next+2) (k:=5) (cs:=[.own (H1.next+3) 0 d d 2 true]) (a:=Lin.unitV d j) (ho.mono kx.sub) (by decide) k0x ⟨_,rfl,hrow⟩ (by omega) (by omega) (by omega) (by omega) (by omega) (by simp; omega) (by simp; omega)
  have e6':OC ((((H2.up 5).put (H1.next+3) (.cells cells2 aa true))).put (H2.next+2) (.cells [.own (H1.next+3) 0 d d 2 true] af true)) (H2.next+3) 1 24 af o (.own (H2.next+2) 0 1 1 1 true)=some (.own (H2.next+3) 0 n6 n6 1 false,H6):=by rw [hHx] at e6; exact e6
  rw [nx] at b6
  refine zW (fW hl1 hio hb2 hst hv e6') ?_
  refine ⟨k6,_,rfl,?_⟩
  rw [List.range_succ,List.map_append]
  exact b6
 ·rintro T1 H1 hl1 hs1 hk1 ⟨o,hv,ho⟩
  have w1:=hk1.wf
  have le_hk1:=hk1.le
  simp only [List.map_cons,List.map_nil,List.cons.injEq,and_true] at hv
  simp only [List.length_set,hl] at hl1
  refine zW (az hl1 hv) ?_
  exact ⟨ho,hk1⟩
abbrev NR (H:Heap) (v:AV) (Ls:List (List (List Int))):Prop:=tX (pE rowsE af) yE H v Ls
theorem cone_long (C:Code tab) (hw:Wf H) {Ls:List (List (List Int))} {d:Nat} (hs:NR H s Ls) (hbig:Ls.length<1099511627776) (hd:∀ L∈Ls,∀ r∈L,r.length=d):Ans tab (.fn oo [s]) H fun v H'=>v=.int .i64 (if Ls.any (fun L=>!L.isEmpty) then (d:Int) else -1)/\Kp H H':=by
 refine OD C.cone_long (by decide) fun T hl g0=>?_
 refine zW (aC hl g0 hs.lenV) ?_
 refine ak H [] (fun j _ _=>∀ k (h:k<Ls.length),k<j->Ls[k]=[]) (a:=0) (N:=Ls.length) rfl (by refine zW (az hl g0) ?_; rfl) (zV (az hl g0)) (Nat.zero_le _) (by omega) (by simp only [List.length_set,hl]; rfl) rfl (fun _ _ _ _ h=>h) zK (fun k _ h=>by omega) ?_ ?_
 ·intro j T1 H1 _ hj hl1 hi1 hs1 hk1 hP
  have w1:=hk1.wf
  have le_hk1:=hk1.le
  have t5:ae T1 5=s:=(hs1.at_ 5 (by decide)).trans (zV (az hl g0))
  obtain ⟨w,hr,hld⟩:=SlV.at1 (hs.mono hk1.sub) (List.getElem?_eq_getElem hj)
  have hr:cI H1 w Ls[j]:=hr
  have hix:=SlV.idx1 hs .i64 j hj
  simp only [List.length_set,hl] at hl1
  rcases Nat.eq_zero_or_pos (Ls[j]).length with h0 | h0
  ·have he:=List.length_eq_zero_iff.1 h0
   have hlv:lenV w=some (.int .i64 0):=by rw [hr.lenV,h0]; rfl
   refine zW (fW hl1 t5 hi1 hix hld hlv) ?_
   refine ⟨zK,fun k h hk=>?_⟩
   by_cases e:k=j
   ·subst e; exact he
   ·exact hP k h (by omega)
  ·obtain ⟨w0,hr0,hld0⟩:=cV hr h0
   have hix0:Ox 1 w (.int .i64 0)=some (al w 0):=SlV.idx1 hr .i64 0 h0
   have l0:lenV w0=some (.int .i64 (d:Int)):=by rw [hr0.lenV,hd _ (List.getElem_mem hj) _ (List.getElem_mem h0)]
   have hpos:(0:Int)<((Ls[j]).length:Int):=by omega
   refine zW (p9 hl1 t5 hi1 hix hld hr.lenV hpos h0 hix0 hld0 l0) ?_
   refine ⟨?_,zK⟩
   rw [if_pos]
   rw [List.any_eq_true]
   exact ⟨_,List.getElem_mem hj,by cases h:Ls[j] with | nil=>rw [h] at h0; simp at h0 | cons a l=>rfl⟩
 ·intro T1 H1 hl1 hs1 hk1 hP
  simp only [List.length_set,hl] at hl1
  refine zW hl1 ?_
  refine ⟨?_,zK⟩
  rw [if_neg]
  rw [Bool.not_eq_true,List.any_eq_false]
  intro L hL
  obtain ⟨k,hk,rfl⟩:=List.getElem_of_mem hL
  rw [hP k hk hk]; simp
def fq (A B:List (List (Bool × List Nat))):Int :=
 if cq A≠0 then cq A else if cq B≠0 then cq B else if A≠[]/\B≠[]/\(A.getD 0 []).length≠(B.getD 0 []).length then 70 else 0
theorem cone_checked (C:Code tab) (hw:Wf H) {va vb:AV} {A B:List (List (Bool × List Nat))} (ha:IF H va A) (hb:IF H vb B) (hA:A.length<1099511627776) (hB:B.length<1099511627776) (ba:∀ r∈A,xq r) (bb:∀ r∈B,xq r) :
  Ans tab (.fn kg [va,vb]) H fun v H'=>v=.int .i64 (fq A B)/\Kp H H':=by
 have oa:=ha.one
 have ob:=hb.one
 refine xw C.cone_checked rfl rfl (by decide) fun T hl g=>?_
 have hl:T.length=39:=hl
 have hrs:c_cone_checked.results=[(4,none)]:=rfl
 have g0:ae T 0=va:=g 0 (by simp)
 have g1:ae T 1=vb:=g 1 (by simp)
 refine br ?_
 refine zW (bg hl g0 g1 @aK) ?_
 refine OF (fun T' H'=>cq A=0/\cq B=0/\Kp H H') rfl ?_ ?_
 ·refine zW (aC hl g0 g1) ?_
  refine bf H [11] (fun k vs H'=>∃ i:Nat,vs=[.int .i64 (i:Int)]/\i+k=2/\(1<=i->cq A=0)/\(2<=i->cq B=0)) 2 (by simp only [List.length_set]; exact hl) rfl zK ⟨0,by refine zW hl ?_; rfl,rfl,by omega,by omega⟩ ?_
  rintro k T1 H1 hl1 hs1 hk1 ⟨i,hv,hik,hc1,hc2⟩
  have w1:=hk1.wf
  have le_hk1:=hk1.le
  simp only [List.map_cons,List.map_nil,List.cons.injEq,and_true] at hv
  have t10:ae T1 10=.agg [va,vb]:=(hs1.at_ 10 (by decide)).trans (zV (aC hl g0 g1))
  have:i=0\/i=1\/i=2:=by omega
  rcases this with rfl | rfl | rfl
  ·have hv:ae T1 11=.int .i64 0:=hv
   refine zW (aC hl1 hv t10) ?_
   refine AnsH.eq (rows_Check C zF (ha.mono (Kp.sub (H:=H) zK)) (by omega) ba) fun H2 hk2=>?_
   obtain ⟨k2,_,w2⟩:=zT H zK hk2
   by_cases h:cq A=0
   ·refine zW (aC hl1 hv h) ?_
    exact ⟨zK,1,by omega,1,rfl,rfl,(by first | exact fun _=>h | exact fun _=>trivial),by omega⟩
   ·refine zW (cJ hl1 hv h @oE hrs) ?_
    exact ⟨by unfold fq; rw [if_pos h],zK⟩
  ·have hv:ae T1 11=.int .i64 1:=hv
   refine zW (aC hl1 hv t10) ?_
   refine AnsH.eq (rows_Check C zF (hb.mono (Kp.sub (H:=H) zK)) (by omega) bb) fun H2 hk2=>?_
   obtain ⟨k2,_,w2⟩:=zT H zK hk2
   have hA0:=hc1 (by omega)
   by_cases h:cq B=0
   ·refine zW (aC hl1 hv h) ?_
    exact ⟨zK,0,by omega,2,rfl,rfl,(by first | exact fun _=>hA0 | exact fun _=>trivial),(by first | exact fun _=>h | exact fun _=>trivial)⟩
   ·refine zW (cJ hl1 hv h @oE hrs) ?_
    refine ⟨?_,zK⟩
    unfold fq
    rw [if_neg (by simpa using hA0),if_pos h]
  ·have hv:ae T1 11=.int .i64 2:=hv
   refine zW (bg hl1 hv t10 @aQ) ?_
   exact ⟨hc1 (by omega),hc2 (by omega),zK⟩
 ·rintro T1 H1 hs1 ⟨c1,c2,k1⟩
  have w1:=k1.wf
  have t0:ae T1 0=va:=(hs1.at_ 0 (by decide)).trans (zV (az hl g0))
  have t1:ae T1 1=vb:=(hs1.at_ 1 (by decide)).trans (zV (az hl g1))
  have hl1:T1.length=39:=hs1.len.trans (by simp only [List.length_set]; exact hl)
  have hcode:fq A B=if A≠[]/\B≠[]/\(A.getD 0 []).length≠(B.getD 0 []).length then 70 else 0:=by
   unfold fq
   rw [if_neg (by simpa using c1),if_neg (by simpa using c2)]
  refine WC.wb ?_
  refine zW (aC hl1 t0 t1) ?_
  rcases Nat.eq_zero_or_pos A.length with a0 | a0
  ·have hlA:lenV va=some (.int .i64 0):=by rw [ha.lenV,a0]; rfl
   have hA0:=List.length_eq_zero_iff.1 a0
   refine aO ?_
   refine zD (fW hl1 t0 t1 hlA hrs @bQ) ?_
   exact ⟨by rw [hcode,if_neg (fun h=>h.1 hA0)],zK⟩
  ·have posA:(0:Int)<(A.length:Int):=by omega
   have hAn:A≠[]:=fun e=>by rw [e] at a0; simp at a0
   rcases Nat.eq_zero_or_pos B.length with b0 | b0
   ·have hlB:lenV vb=some (.int .i64 0):=by rw [hb.lenV,b0]; rfl
    have hB0:=List.length_eq_zero_iff.1 b0
    refine aO ?_
    refine zD (kU hl1 t0 t1 ha.lenV posA a0 hlB hrs @bQ) ?_
    exact ⟨by rw [hcode,if_neg (fun h=>h.2.1 hB0)],zK⟩
   ·have posB:(0:Int)<(B.length:Int):=by omega
    have hBn:B≠[]:=fun e=>by rw [e] at b0; simp at b0
    obtain ⟨wa,hra,hlda⟩:=vp (ha.mono k1.sub) a0
    obtain ⟨wb,hrb,hldb⟩:=vp (hb.mono k1.sub) b0
    have xa:Ox 1 va (.int .i64 0)=some (al va 0):=SlV.idx1 ha .i64 0 a0
    have xb:Ox 1 vb (.int .i64 0)=some (al vb 0):=SlV.idx1 hb .i64 0 b0
    have la:=hra.lenV
    have lb:=hrb.lenV
    have ga:A.getD 0 []=A[0]:=by simp [a0]
    have gb:B.getD 0 []=B[0]:=by simp [b0]
    by_cases he:A[0].length=B[0].length
    ·have he':((A[0].length:Nat):Int)=((B[0].length:Nat):Int):=by omega
     refine aO ?_
     refine zD (KL hl1 t0 t1 ha.lenV hb.lenV posA a0 posB @b0 xa xb hlda hldb la lb he' he hrs @bQ) ?_
     exact ⟨by rw [hcode,ga,gb,if_neg (fun h=>h.2.2 he)],zK⟩
    ·have he':¬ ((A[0].length:Nat):Int)=((B[0].length:Nat):Int):=by omega
     refine aO ?_
     refine zD (KL hl1 t0 t1 ha.lenV hb.lenV posA a0 posB @b0 xa xb hlda hldb la lb he' he hrs @bQ) ?_
     exact ⟨by rw [hcode,ga,gb,if_pos ⟨hAn,hBn,he⟩],zK⟩
end
end Go.Proofs.YtboamamhcfhanaaGreat.Ev
namespace Go.Proofs.YtboamamhcfhanaaGreat.Lin
set_option linter.all false
theorem yo:∀ (n:Nat) (l:List (List Bool)),l.Nodup->(∀ b∈l,b.length=n)->l.length<=2^n
 | 0,[],_,_=>by simp
 | 0,[a],_,_=>by simp
 | 0,a :: b :: l,hn,h=>by
  have ha:=List.length_eq_zero_iff.1 (h a (by simp))
  have hb:=List.length_eq_zero_iff.1 (h b (by simp))
  subst ha; subst hb
  simp at hn
 | n+1,l,hn,h=>by
  have part:∀ v:Bool,((l.filter fun b=>b.head? == some v).map List.tail).length<=2^n:=fun v=>by
   refine yo n _ ?_ fun b hb=>?_
   ·refine List.pairwise_map.2 (List.Pairwise.imp_of_mem (fun {x y} hx hy hne e=>hne ?_) (List.Pairwise.filter _ hn))
    have hx:=(List.mem_filter.1 hx).2
    have hy:=(List.mem_filter.1 hy).2
    cases x with
    | nil=>simp at hx
    | cons a x =>
     cases y with
     | nil=>simp at hy
     | cons b y =>
      simp at hx hy e
      rw [hx,hy,e]
   ·obtain ⟨c,hc,rfl⟩:=List.mem_map.1 hb
    have:=h c (List.mem_filter.1 hc).1
    simp [this]
  have h1:=part true
  have h2:=part false
  rw [List.length_map] at h1 h2
  have h3:l.length=(l.filter fun b=>b.head? == some true).length+(l.filter fun b=>b.head? == some false).length:=by
   rw [<- List.countP_eq_length_filter,<- List.countP_eq_length_filter,List.length_eq_countP_add_countP (p:=fun b:List Bool=>b.head? == some true)]
   congr 1
   refine List.countP_congr fun b hb=>?_
   have:=h b hb
   cases b with
   | nil=>simp at this
   | cons a b=>cases a <;> simp
  rw [Nat.pow_succ]; omega
theorem DD.count {d:Nat} {E L:V->Prop} {dn R:List V} (h:DD d E (· ∈ dn) L R):R.length<=2^dn.length:=by
 have hn:(R.map fun r=>dn.map fun i=>decide (dot i r=0)).Nodup:=by
  refine List.pairwise_map.2 (h.apart.imp fun hne e=>hne fun i hi=>?_)
  have:=List.map_inj_left.1 e i hi
  simpa using this
 have:=yo dn.length _ hn fun b hb=>by obtain ⟨r,-,rfl⟩:=List.mem_map.1 hb; simp
 simpa using this
theorem gensU_done {d:Nat} {eqs ineqs:List V} (h1:∀ a∈eqs,a.length=d) (h2:∀ a∈ineqs,a.length=d):(gensU d eqs ineqs).done=ineqs:=by
 obtain ⟨g1,g2⟩:=ux eqs (startU d) _ lV h1
 obtain ⟨g3,g4⟩:=sN ineqs _ g1 h2
 exact g4.trans (by rw [g2]; simp [startU])
theorem wq {d:Nat} (eq:Bool):∀ (l:List V) (u:Under) (E:V->Prop) (ps:List (Nat × V)),DD d E (· ∈ u.done) (· ∈ u.lines) u.rays->KG d ps u->(∀ a∈l,a.length=d)->∃ ps',KG d ps' (l.foldl (fun u a=>addU a eq u) u)
 | [],u,E,ps,_,h,_=>⟨ps,h⟩
 | a :: l,u,E,ps,hdd,h,hl=>by
  obtain ⟨ps',h'⟩:=J9 (a:=a) hdd h eq
  exact wq eq l (addU a eq u) _ ps' (CV hdd (hl a (List.mem_cons_self ..)) eq) h' fun b hb=>hl b (List.mem_cons_of_mem _ hb)
theorem Fk {d:Nat} {eqs ineqs:List V} (h1:∀ a∈eqs,a.length=d) (h2:∀ a∈ineqs,a.length=d):∃ ps,KG d ps (gensU d eqs ineqs):=by
 obtain ⟨g1,-⟩:=ux eqs (startU d) _ lV h1
 obtain ⟨ps,hp⟩:=wq true eqs (startU d) _ _ lV (FC d) h1
 exact wq false ineqs _ _ ps g1 hp h2
theorem FV (a:V) (eq:Bool) (u:Under):(addU a eq u).lines.length<=u.lines.length:=by
 unfold addU
 split
 ·exact Nat.le_refl _
 ·simp only [List.length_map]
  exact List.length_eraseIdx_le ..
theorem qJ (eq:Bool):∀ (l:List V) (u:Under),(l.foldl (fun u a=>addU a eq u) u).lines.length<=u.lines.length
 | [],u=>Nat.le_refl _
 | a :: l,u=>Nat.le_trans (qJ eq l (addU a eq u)) (FV a eq u)
theorem gensU_lines (d:Nat) (eqs ineqs:List V):(gensU d eqs ineqs).lines.length<=d:=by
 refine Nat.le_trans (qJ false ineqs _) (Nat.le_trans (qJ true eqs _) ?_)
 simp [startU]
theorem gens_mid {d M:Nat} (hd:0<d) (hM:0<M) {eqs ineqs:List V} (h1:∀ a∈eqs,a.length=d/\Bd M a) (h2:∀ a∈ineqs,a.length=d/\Bd M a) :
  (∀ l∈(gensU d eqs ineqs).lines,l.length=d/\Bd ((2*d*M)^2^d) l)/\(∀ r∈(gensU d eqs ineqs).rays,r.length=d/\Bd ((2*d*M)^2^d) r)/\(gensU d eqs ineqs).rays.length<=2^ineqs.length:=by
 have e1:∀ a∈eqs,a.length=d:=fun a ha=>(h1 a ha).1
 have e2:∀ a∈ineqs,a.length=d:=fun a ha=>(h2 a ha).1
 have hdd:=gensU_dd e1 e2
 obtain ⟨ps,hp⟩:=Fk e1 e2
 have hdn:=gensU_done e1 e2
 obtain ⟨b1,b2⟩:=Ig (Es:=eqs) hd hM (by rw [hdn]; exact hdd) hp h1 (by rw [hdn]; exact h2)
 exact ⟨fun l hl=>⟨hdd.lenL l hl,b1 l hl⟩,fun r hr=>⟨hdd.lenR r hr,b2 r hr⟩,hdd.count⟩
theorem GM {d:Nat} {E I:V->Prop} {L R dn:List V} (h:Kn d E I L R):KG d (L.map fun l=>(pv l,l)) ⟨L,R,dn⟩:=by
 refine ⟨by simp [List.map_map,Function.comp_def],fun q hq=>?_,fun q hq=>?_,?_,fun r hr q hq=>?_,h.form.cont,h.cont⟩
 ·obtain ⟨l,hl,rfl⟩:=List.mem_map.1 hq
  exact (h.form.pos hl).2.2
 ·obtain ⟨l,hl,rfl⟩:=List.mem_map.1 hq
  have:=(h.form.pos hl).2.1
  simp only
  omega
 ·exact List.pairwise_map.2 h.form.clear
 ·obtain ⟨l,hl,rfl⟩:=List.mem_map.1 hq
  exact h.rest r hr l hl
theorem told_bd {d M:Nat} (hd:0<d) (hM:0<M) {eqs ineqs L R:List V} (h:Kn d (· ∈ eqs) (· ∈ ineqs) L R) (h1:∀ a∈eqs,a.length=d/\Bd M a) (h2:∀ a∈ineqs,a.length=d/\Bd M a) :
  (∀ l∈L,Bd ((2*d*M)^2^d) l)/\(∀ r∈R,Bd ((2*d*M)^2^d) r) :=
 Ig (u:=⟨L,R,ineqs⟩) hd hM h.dd (GM h) h1 h2
theorem pow_bd {d m:Nat} (hd:d<=6):(2*d*2^m)^2^d<=2^(64*(m+4)):=by
 have h1:2*d*2^m<=2^(m+4):=by
  rw [Nat.pow_add,Nat.mul_comm (2^m)]
  exact Nat.mul_le_mul_right _ (by omega)
 have h2:2^d<=2^6:=Nat.pow_le_pow_right (by decide) hd
 have h3:2^d*(m+4)<=64*(m+4):=Nat.mul_le_mul_right _ h2
 calc (2*d*2^m)^2^d<=(2^(m+4))^2^d:=Nat.pow_le_pow_left h1 _
  _=2^((m+4)*2^d):=(Nat.pow_mul ..).symm
  _<=2^(64*(m+4)):=Nat.pow_le_pow_right (by decide) (by rw [Nat.mul_comm]; exact h3)
theorem Fw {d:Nat} {E I:V->Prop} {L R A B:List V} (hE:∀ e,E e->e.length=d) (hI:∀ i,I i->i.length=d) (h:DD d E I (· ∈ L) R) (h':DD d (· ∈ L) (· ∈ R) (· ∈ A) B):∀ x,Keep d E I x ↔ Keep d (· ∈ A) (· ∈ B) x:=by
 intro x
 constructor
 ·intro hx
  have hc:=h.all x hx
  refine ⟨hx.len,fun a ha=>hc.dot_zero h.lenL h.lenR (fun l hl=>?_) (fun r hr=>?_),fun b hb=>hc.dot_nonneg h.lenL h.lenR (fun l hl=>?_) (fun r hr=>?_)⟩
  ·rw [dot_comm]; exact h'.lineE a ha l hl
  ·rw [dot_comm]; exact h'.lineI a ha r hr
  ·rw [dot_comm]; exact (h'.keep b hb).eq l hl
  ·rw [dot_comm]; exact (h'.keep b hb).ge r hr
 ·intro hx
  have key:∀ y,Keep d (· ∈ L) (· ∈ R) y->0<=dot x y:=fun y hy=>(h'.all y hy).dot_nonneg h'.lenL h'.lenR (fun l hl=>by rw [dot_comm]; exact hx.eq l hl) (fun r hr=>by rw [dot_comm]; exact hx.ge r hr)
  refine ⟨hx.len,fun e he=>?_,fun i hi=>?_⟩
  ·have k1:=key e ⟨hE e he,fun l hl=>by rw [dot_comm]; exact h.lineE l hl e he,fun r hr=>by rw [dot_comm,(h.keep r hr).eq e he]; exact Int.le_refl _⟩
   have k2:=key (scl (-1) e) ⟨ah (hE e he),fun l hl=>by rw [dot_scl,dot_comm,h.lineE l hl e he]; rfl,fun r hr=>by rw [dot_scl,dot_comm,(h.keep r hr).eq e he]; exact Int.le_refl _⟩
   rw [dot_scl] at k2
   rw [dot_comm]; omega
  ·rw [dot_comm]
   exact key i ⟨hI i hi,fun l hl=>by rw [dot_comm]; exact h.lineI l hl i hi,fun r hr=>by rw [dot_comm]; exact (h.keep r hr).ge i hi⟩
theorem Ol {d:Nat} {eqs ineqs:List V} (h1:∀ a∈eqs,a.length=d) (h2:∀ a∈ineqs,a.length=d):∀ l∈gensL d eqs ineqs,l.length=d:=(gens_told h1 h2).dd.lenL
theorem Ok {d:Nat} {eqs ineqs:List V} (h1:∀ a∈eqs,a.length=d) (h2:∀ a∈ineqs,a.length=d):∀ r∈gensR d eqs ineqs,r.length=d:=(gens_told h1 h2).dd.lenR
theorem told_nodup {d:Nat} {E I:V->Prop} {L R:List V} (h:Kn d E I L R):R.Nodup:=h.dd.apart.imp fun hne e=>hne fun i hi=>by rw [e]
def gh:List V->List V->List V
 | _,[]=>[]
 | F,a :: l=>match pivot (restF F a) with
  | none=>gh F l
  | some _=>a :: gh (putF F a) l
theorem insP_len (x:V) (p:Nat):∀ F:List V,(insP x p F).length=F.length+1
 | []=>rfl
 | r :: F=>by
  unfold insP
  split
  ·rw [List.length_cons,insP_len x p F,List.length_cons]
  ·rfl
theorem rD:∀ (l F:List V),(gh F l).foldl putF F=l.foldl putF F/\(l.foldl putF F).length=F.length+(gh F l).length
 | [],F=>⟨rfl,rfl⟩
 | a :: l,F=>by
  unfold gh
  cases h:pivot (restF F a) with
  | none =>
   have e:putF F a=F:=by unfold putF; rw [h]
   simp only [List.foldl_cons,e]
   exact rD l F
  | some p =>
   have e:(putF F a).length=F.length+1:=by unfold putF; rw [h]; simp only; rw [insP_len,List.length_map]
   obtain ⟨h1,h2⟩:=rD l (putF F a)
   simp only [List.foldl_cons,List.length_cons]
   exact ⟨h1,by rw [h2,e]; omega⟩
theorem ni:∀ (l F:List V),∀ x∈gh F l,x∈l
 | [],F,x,h=>by cases h
 | a :: l,F,x,h=>by
  unfold gh at h
  split at h
  ·exact List.mem_cons_of_mem _ (ni l F x h)
  ·rcases List.mem_cons.1 h with rfl | h
   ·exact List.mem_cons_self ..
   ·exact List.mem_cons_of_mem _ (ni l _ x h)
theorem D7 {d:Nat} {l:List V} (hl:∀ a∈l,a.length=d):(gh [] l).length<=d/\∀ x,Spn d (· ∈ gh [] l) x ↔ Spn d (· ∈ l) x:=by
 obtain ⟨h1,h2⟩:=rD l []
 obtain ⟨h3,h4⟩:=form_ech hl
 obtain ⟨-,h5⟩:=form_ech (d:=d) (l:=gh [] l) fun a ha=>hl a (ni l [] a ha)
 have e:formF (gh [] l)=formF l:=h1
 have h6:=Ev.ech_len h3
 have e2:(formF l).length=([]:List V).length+(gh [] l).length:=h2
 refine ⟨by simp at e2; omega,fun x=>?_⟩
 rw [<- h5 x,e,h4 x]
theorem xT {α:Type} [DecidableEq α] (M:Nat):∀ (A:List α) (l:List (List α)),(∀ b∈l,∃ a∈A,b.head? = some a)->(∀ a∈A,(l.filter fun b=>b.head? == some a).length<=M)->l.length<=A.length*M
 | [],l,h,_=>by
  cases l with
  | nil=>simp
  | cons b l=>obtain ⟨a,ha,_⟩:=h b (List.mem_cons_self ..); cases ha
 | a :: A,l,h,hM=>by
  have h1:=hM a (List.mem_cons_self ..)
  have h2:=xT M A (l.filter fun b=>!(b.head? == some a)) (fun b hb=>by
   obtain ⟨hb,hn⟩:=List.mem_filter.1 hb
   obtain ⟨c,hc,e⟩:=h b hb
   rcases List.mem_cons.1 hc with rfl | hc
   ·simp [e] at hn
   ·exact ⟨c,hc,e⟩) fun c hc=>by
    refine Nat.le_trans ?_ (hM c (List.mem_cons_of_mem _ hc))
    exact (List.Sublist.filter _ List.filter_sublist).length_le
  have h3:l.length=(l.filter fun b=>b.head? == some a).length+(l.filter fun b=>!(b.head? == some a)).length:=by
   rw [<- List.countP_eq_length_filter,<- List.countP_eq_length_filter,List.length_eq_countP_add_countP (p:=fun b:List α=>b.head? == some a)]
   congr 1
   refine List.countP_congr fun b _=>?_
   simp
  rw [List.length_cons,Nat.succ_mul]
  omega
theorem xO {α:Type} [DecidableEq α] (A:List α):∀ (k:Nat) (l:List (List α)),l.Nodup->(∀ b∈l,b.length=k/\∀ x∈b,x∈A)->l.length<=A.length^k
 | 0,[],_,_=>by simp
 | 0,[a],_,_=>by simp
 | 0,a :: b :: l,hn,h=>by
  have ha:=List.length_eq_zero_iff.1 (h a (by simp)).1
  have hb:=List.length_eq_zero_iff.1 (h b (by simp)).1
  subst ha; subst hb
  simp at hn
 | k+1,l,hn,h=>by
  have:=xT (A.length^k) A l (fun b hb=>by
   obtain ⟨h1,h2⟩:=h b hb
   cases b with
   | nil=>simp at h1
   | cons x b=>exact ⟨x,h2 x (List.mem_cons_self ..),rfl⟩) fun v _=>by
    have:=xO A k ((l.filter fun b=>b.head? == some v).map List.tail) (by
     refine List.pairwise_map.2 (List.Pairwise.imp_of_mem (fun {x y} hx hy hne e=>hne ?_) (List.Pairwise.filter _ hn))
     have hx:=(List.mem_filter.1 hx).2
     have hy:=(List.mem_filter.1 hy).2
     cases x with
     | nil=>simp at hx
     | cons a x =>
      cases y with
      | nil=>simp at hy
      | cons b y =>
       simp at hx hy e
       rw [hx,hy,e]) fun b hb=>by
     obtain ⟨c,hc,rfl⟩:=List.mem_map.1 hb
     obtain ⟨h1,h2⟩:=h c (List.mem_filter.1 hc).1
     refine ⟨by simp [h1],fun x hx=>h2 x (List.mem_of_mem_tail hx)⟩
    rwa [List.length_map] at this
  rw [Nat.pow_succ,Nat.mul_comm]; exact this
theorem gA:∀ x:V,0<=dot x x/\(dot x x=0->∀ y:V,dot y x=0)
 | []=>⟨by simp [dot],fun _ y=>by cases y <;> simp [dot]⟩
 | a :: x=>by
  obtain ⟨h1,h2⟩:=gA x
  have h3:0<=a*a:=by
   rcases Int.le_total 0 a with h | h
   ·exact Int.mul_nonneg h h
   ·exact Int.mul_nonneg_of_nonpos_of_nonpos h h
  have e:dot (a :: x) (a :: x)=a*a+dot x x:=by simp [dot]
  rw [e]
  refine ⟨by omega,fun h0 y=>?_⟩
  have ha:a=0:=by
   have:a*a=0:=by omega
   rcases Int.mul_eq_zero.1 this with h | h <;> exact h
  cases y with
  | nil=>simp [dot]
  | cons b y =>
   have:=h2 (by omega) y
   simp [dot,ha] at this ⊢
   exact this
theorem Iw {d:Nat} {l:List V} (hl:∀ a∈l,a.length=d) {r i:V} (hr:r.length=d) (hz:∀ a∈l,dot a r=0) (hn:dot i r≠0):(gh [] l).length+1<=d:=by
 obtain ⟨h1,h2⟩:=form_ech hl
 obtain ⟨h3,h4⟩:=put_ech h1 hr
 have e2:(formF l).length=([]:List V).length+(gh [] l).length:=(rD l []).2
 cases hp:pivot (restF (formF l) r) with
 | some p =>
  have e:(putF (formF l) r).length=(formF l).length+1:=by unfold putF; rw [hp]; simp only; rw [insP_len,List.length_map]
  have:=Ev.ech_len h3
  simp at e2
  omega
 | none =>
  exfalso
  have e:putF (formF l) r=formF l:=by unfold putF; rw [hp]
  have h5:Spn d (· ∈ l) r:=(h2 r).1 (by
   have:=(h4 r).2 (dw hr (.inr rfl))
   rw [e] at this
   exact this)
  have h6:=Con.dot_zero (a:=r) hl (fun r h=>h.elim) (fun a ha=>by rw [dot_comm]; exact hz a ha) (fun r h=>h.elim) h5
  exact hn ((gA r).2 h6 i)
theorem DD.count3 {d:Nat} {E L:V->Prop} {dn R:List V} (h:DD d E (· ∈ dn) L R) (hdn:∀ i∈dn,i.length=d):R.length<=1\/R.length<=dn.length^(d-1):=by
 obtain ⟨T,hT⟩:∃ T:V->List V,T=fun r=>dn.filter fun i=>decide (dot i r=0):=⟨_,rfl⟩
 have mT:∀ r i,i∈T r ↔ i∈dn/\dot i r=0:=fun r i=>by rw [hT,List.mem_filter]; simp
 have lT:∀ r,∀ i∈T r,i.length=d:=fun r i hi=>hdn i ((mT r i).1 hi).1
 by_cases he:∃ r∈R,gh [] (T r)=[]
 ·left
  obtain ⟨r,hr,hb⟩:=he
  have hz:∀ i,i∈dn->dot i r=0->∀ y,dot i y=0:=fun i hi h0 y=>by
   have h1:Spn d (· ∈ gh [] (T r)) i:=((D7 (lT r)).2 i).2 (dw (hdn i hi) ((mT r i).2 ⟨hi,h0⟩))
   rw [dot_comm]
   exact Con.dot_zero (fun l hl=>lT r l (ni _ _ l hl)) (fun r h=>h.elim) (fun l hl=>by rw [hb] at hl; cases hl) (fun r h=>h.elim) h1
  have hsame:∀ s∈R,∀ i,i∈dn->(dot i s=0 ↔ dot i r=0):=fun s hs=>by
   obtain ⟨k,c,hk,hc,hsp⟩:=h.ext r hr s (h.keep s hs) fun i hi h0=>hz i hi h0 s
   have hls:=h.lenR s hs
   have hlr:=h.lenR r hr
   have hdot:∀ i,i∈dn->k*dot i s=c*dot i r:=fun i hi=>by
    have:=Con.dot_zero (a:=i) h.lenL (fun r h=>h.elim) (fun l hl=>h.lineI l hl i hi) (fun r h=>h.elim) hsp
    rw [bj _ _ _ (hls.trans hlr.symm),Int.neg_mul] at this
    omega
   have hc':c≠0:=fun e=>by
    obtain ⟨i,hi,hn⟩:=h.off s hs
    have:=hdot i hi
    rw [e,Int.zero_mul] at this
    rcases Int.mul_eq_zero.1 this with h1 | h1
    ·omega
    ·exact hn h1
   intro i hi
   have:=hdot i hi
   constructor
   ·intro e
    rw [e,Int.mul_zero] at this
    rcases Int.mul_eq_zero.1 this.symm with h1 | h1
    ·exact absurd h1 hc'
    ·exact h1
   ·intro e
    rw [e,Int.mul_zero] at this
    rcases Int.mul_eq_zero.1 this with h1 | h1
    ·omega
    ·exact h1
  have ha:=h.apart
  match R,ha,hsame with
  | [],_,_=>simp
  | [x],_,_=>simp
  | x :: y :: R',ha,hsame =>
   exfalso
   have h1:=List.rel_of_pairwise_cons ha (List.mem_cons_self (a:=y) (l:=R'))
   exact h1 fun i hi=>(hsame x (by simp) i hi).trans (hsame y (by simp) i hi).symm
 ·right
  have hne:∀ r∈R,gh [] (T r)≠[]:=fun r hr e=>he ⟨r,hr,e⟩
  have hd:∀ b:List V,b≠[]->b.headD []∈b:=fun b hb=>by
   cases b with
   | nil=>exact absurd rfl hb
   | cons a b=>exact List.mem_cons_self ..
  have hn:(R.map fun r=>gh [] (T r)++List.replicate (d-1-(gh [] (T r)).length) ((gh [] (T r)).headD [])).Nodup:=by
   have half:∀ r s:V,gh [] (T s)≠[]->gh [] (T r)++List.replicate (d-1-(gh [] (T r)).length) ((gh [] (T r)).headD [])=gh [] (T s)++List.replicate (d-1-(gh [] (T s)).length) ((gh [] (T s)).headD [])->∀ i,i∈dn->dot i r=0->dot i s=0:=fun r s hs e i hi hz=>by
    have h1:Spn d (· ∈ gh [] (T r)) i:=((D7 (lT r)).2 i).2 (dw (hdn i hi) ((mT r i).2 ⟨hi,hz⟩))
    rw [dot_comm]
    refine Con.dot_zero (fun l hl=>lT r l (ni _ _ l hl)) (fun r h=>h.elim) (fun l hl=>?_) (fun r h=>h.elim) h1
    have h2:l∈gh [] (T s)++List.replicate (d-1-(gh [] (T s)).length) ((gh [] (T s)).headD []):=by rw [<- e]; exact List.mem_append_left _ hl
    have h3:l∈gh [] (T s):=by
     rcases List.mem_append.1 h2 with h2 | h2
     ·exact h2
     ·rw [List.eq_of_mem_replicate h2]; exact hd _ hs
    rw [dot_comm]; exact ((mT s l).1 (ni _ _ l h3)).2
   exact List.pairwise_map.2 (h.apart.imp_of_mem fun {r s} hr hs hap e=>hap fun i hi=>⟨half _ _ (hne s hs) e i hi,half _ _ (hne r hr) e.symm i hi⟩)
  have:=xO dn (d-1) _ hn fun b hb=>by
   obtain ⟨r,hr,rfl⟩:=List.mem_map.1 hb
   obtain ⟨i,hi,hni⟩:=h.off r hr
   have h1:=Iw (lT r) (h.lenR r hr) (fun a ha=>((mT r a).1 ha).2) hni
   refine ⟨by rw [List.length_append,List.length_replicate]; omega,fun x hx=>?_⟩
   have hm:x∈gh [] (T r):=by
    rcases List.mem_append.1 hx with hx | hx
    ·exact hx
    ·rw [List.eq_of_mem_replicate hx]; exact hd _ (hne r hr)
   exact ((mT r x).1 (ni _ _ x hm)).1
  simpa using this
end Go.Proofs.YtboamamhcfhanaaGreat.Lin
namespace Go.Proofs.YtboamamhcfhanaaGreat.Ev
open Go Nn
set_option linter.all false
theorem AN (d:Nat) (E:List (List Int)) {j:Nat} (h:j<E.length):Lin.gensU d (E.take (j+1)) []=Lin.addU E[j] true (Lin.gensU d (E.take j) []):=by
 unfold Lin.gensU
 rw [List.take_succ_eq_append_getElem h,List.foldl_append]; rfl
theorem AM (d:Nat) (E I:List (List Int)) {j:Nat} (h:j<I.length):Lin.gensU d E (I.take (j+1))=Lin.addU I[j] false (Lin.gensU d E (I.take j)):=by
 unfold Lin.gensU
 rw [List.take_succ_eq_append_getElem h,List.foldl_append]; rfl
theorem fz {m:Nat} {x:List Int} (h:Lin.Bd (2^m) x):∀ z∈x,Bt (m+1) z:=fun z hz=>by
 have h1:=h.mem z hz
 have h2:0<2^m:=Nat.pow_pos (by decide)
 unfold Bt
 rw [Nat.pow_succ]
 omega
theorem Fl {d:Nat} {l:List (List Int)} (hl:∀ r∈l,r.length=d):Lin.formF (Lin.formF l)=Lin.formF l:=by
 have h:=Lin.form_ech hl
 have h2:=Lin.form_ech h.1.len
 exact h2.1.unique h.1 h2.2
structure KE (d f:Nat) (u:Lin.Under) (I:List (List Int)):Prop where
 lines:∀ l∈u.lines,l.length=d/\∀ z∈l,Bt f z
 rays:∀ r∈u.rays,r.length=d/\∀ z∈r,Bt f z
 few:u.rays.length<=I.length^(d-1)+1
 some:u.lines.length<=d
 done:u.done=I
theorem LL {d m:Nat} (hd0:0<d) (hd:d<=6) {E I:List (List Int)} (h1:∀ a∈E,a.length=d/\Lin.Bd (2^m) a) (h2:∀ a∈I,a.length=d/\Lin.Bd (2^m) a):KE d (64*(m+4)+1) (Lin.gensU d E I) I:=by
 obtain ⟨g1,g2,g3⟩:=Lin.gens_mid hd0 (Nat.pow_pos (n:=m) (show 0<2 by decide)) h1 h2
 exact ⟨fun l hl=>⟨(g1 l hl).1,fz ((g1 l hl).2.mono (Lin.pow_bd hd))⟩,fun l hl=>⟨(g2 l hl).1,fz ((g2 l hl).2.mono (Lin.pow_bd hd))⟩,by rcases (Lin.gensU_dd (fun a ha=>(h1 a ha).1) (fun a ha=>(h2 a ha).1)).count3 (fun a ha=>(h2 a ha).1) with h | h <;> omega,Lin.gensU_lines d E I,Lin.gensU_done (fun a ha=>(h1 a ha).1) (fun a ha=>(h2 a ha).1)⟩
theorem qR {d m:Nat} (hd0:0<d) (hd:d<=6) {E I:List (List Int)} (h1:∀ a∈E,a.length=d/\Lin.Bd (2^m) a) (h2:∀ a∈I,a.length=d/\Lin.Bd (2^m) a) :
  (∀ l∈Lin.gensL d E I,l.length=d/\Lin.Bd (2^(64*(m+4))) l)/\∀ r∈Lin.gensR d E I,r.length=d/\Lin.Bd (2^(64*(m+4))) r:=by
 have t:=Lin.gens_told (fun a ha=>(h1 a ha).1) (fun a ha=>(h2 a ha).1)
 obtain ⟨g1,g2⟩:=Lin.told_bd hd0 (Nat.pow_pos (n:=m) (show 0<2 by decide)) t h1 h2
 exact ⟨fun l hl=>⟨t.dd.lenL l hl,(g1 l hl).mono (Lin.pow_bd hd)⟩,fun l hl=>⟨t.dd.lenR l hl,(g2 l hl).mono (Lin.pow_bd hd)⟩⟩
theorem LZ {e d:Nat} (hd:d<=6):iy e d<=1237*e+1957:=by
 refine Nat.le_trans (qD e hd) ?_
 simp only [iy]
 omega
theorem CO {d:Nat} {A B:List (List Int)} (h1:sP d A) (h2:sP d B) (hA:A.length<=1024) (hB:B.length<=1024):fq (A.map fun r=>r.map jv) (B.map fun r=>r.map jv)=0:=by
 have code:∀ {L:List (List Int)},sP d L->L.length<=1024->cq (L.map fun r=>r.map jv)=0:=fun {L} hok hL=>by
  refine rM (by rw [List.length_map]; exact hL) (fun k hk=>?_) fun k hk=>?_
  ·rw [List.length_map] at hk
   have hm:=List.getElem_mem hk
   simp only [List.getElem_map]
   unfold sK
   rw [B3 (by rw [hok.len _ hm]; exact hok.le),decide_eq_false (by rw [List.length_map,hok.len _ hm]; have:=hok.pos; omega)]
   rfl
  ·rw [List.length_map] at hk
   simp only [List.getElem_map,List.length_map]
   rw [hok.len _ (List.getElem_mem hk),hok.len _ (List.getElem_mem (by omega))]
 unfold fq
 rw [code h1 hA,code h2 hB]
 simp only [ne_eq,not_true_eq_false,if_false]
 rw [if_neg]
 rintro ⟨ha,hb,hne⟩
 apply hne
 cases A with
 | nil=>simp at ha
 | cons a A =>
  cases B with
  | nil=>simp at hb
  | cons b B=>simp [h1.len a (by simp),h2.len b (by simp)]
theorem Ka {a:AV} (ha:One a):gH [.nilSl,.nilSl,.nilSl] [((0,1),a)]=some (.agg [a,.nilSl,.nilSl]):=by
 simp [gH,cM,ha.1,ha.2]
section
variable {tab:Nat->Option aq} {H:Heap} {s:AV}
theorem cone_Gens_f1 (C:Code tab) (hw:Wf H) {a b:AV} {x y:List Int} (ha:RowV H a x) (hb:RowV H b y) (hxy:x.length=y.length) (h64:x.length<=64) (hx:∀ z∈x,OV z) (hy:∀ z∈y,OV z) :
  Ans tab (.fn h9 [a,b]) H fun v H'=>v=.int .i64 (zw x y)/\Kp H H':=by
 have oa:=ha.one
 have ob:=hb.one
 refine ca C.cone_Gens_f1 (by decide) fun T hl g0 g1=>?_
 refine zW (aC hl g0 g1) ?_
 refine AnsH.eq (vec_Cmp C zF (ha.mono (Kp.sub (H:=H) zK)) (hb.mono (Kp.sub (H:=H) zK)) hxy h64 hx hy) fun H2 hk2=>?_
 obtain ⟨k2,_,_⟩:=zT H zK hk2
 refine zW (aC hl g0 g1) ?_
 exact zK
theorem qF (C:Code tab) (hw:Wf H) {va vb:AV} {E I:List (List Int)} {d m:Nat} (ha:cI H va E) (hb:cI H vb I) (hd0:0<d) (hd:d<=6) (he:E.length<=1024) (hi:I.length<=1024) (hcnt:I.length^(d-1)<1099000000000) (h1:∀ a∈E,a.length=d/\Lin.Bd (2^m) a) (h2:∀ a∈I,a.length=d/\Lin.Bd (2^m) a) (hm:m<=300000) :
  Ans tab (.fn Qh [.int .i64 (d:Int),va,vb]) H fun v H'=>∃ p q,v=.tup [p,q,.int .i64 0]/\cI H' p (Lin.gensL d E I)/\cI H' q (Lin.gensR d E I)/\Kp H H':=by
 have oa:=ha.one
 have ob:=hb.one
 obtain ⟨f,hf⟩:∃ f,f=64*(m+4)+1:=⟨_,rfl⟩
 have ok1:sP d E:=⟨hd0,by omega,fun r hr=>(h1 r hr).1,fun r hr z hz=>(fz (h1 r hr).2 z hz).sm (by omega)⟩
 have ok2:sP d I:=⟨hd0,by omega,fun r hr=>(h2 r hr).1,fun r hr z hz=>(fz (h2 r hr).2 z hz).sm (by omega)⟩
 have mid:∀ {A B:List (List Int)},(∀ a∈A,a.length=d/\Lin.Bd (2^m) a)->(∀ a∈B,a.length=d/\Lin.Bd (2^m) a)->KE d f (Lin.gensU d A B) B:=fun hA hB=>by rw [hf]; exact LL hd0 hd hA hB
 have hfb:=LZ (e:=f) hd
 refine xw C.cone_Gens rfl rfl (by decide) fun T hl g=>?_
 have hl:T.length=100:=hl
 have hrs:c_cone_Gens.results=[(6,none),(7,none),(8,none)]:=rfl
 have g0:ae T 0=.int .i64 (d:Int):=g 0 (by simp)
 have g1:ae T 1=va:=g 1 (by simp)
 have g2:ae T 2=vb:=g 2 (by simp)
 refine br ?_
 refine zW (cJ hl g0 g1 g2 @aK) ?_
 refine OF (fun T' H'=>Kp H H') rfl ?_ ?_
 ·refine zW (bg hl g0 g1 g2) ?_
  refine AnsH.eq (cone_checked C zF ((uX ha).mono (Kp.sub (H:=H) zK)) ((uX hb).mono (Kp.sub (H:=H) zK)) (by rw [List.length_map]; omega) (by rw [List.length_map]; omega) (fun r hr=>?_) (fun r hr=>?_)) fun H2 hk2=>?_
  ·obtain ⟨x,hx,rfl⟩:=List.mem_map.1 hr
   exact uo (by rw [ok1.len x hx]; omega) (ok1.sm x hx)
  ·obtain ⟨x,hx,rfl⟩:=List.mem_map.1 hr
   exact uo (by rw [ok2.len x hx]; omega) (ok2.sm x hx)
  rw [CO ok1 ok2 he hi]
  obtain ⟨k2,_,_⟩:=zT H zK hk2
  refine zW (az hl @aQ) ?_
  exact zK
 intro T1 H1 hs1 k1
 have w1:=k1.wf
 have le1:=k1.le
 have t0:ae T1 0=.int .i64 (d:Int):=(hs1.at_ 0 (by decide)).trans (zV (az hl g0))
 have t1:ae T1 1=va:=(hs1.at_ 1 (by decide)).trans (zV (az hl g1))
 have t2:ae T1 2=vb:=(hs1.at_ 2 (by decide)).trans (zV (az hl g2))
 have t7:ae T1 7=.nilSl:=(hs1.at_ 7 (by decide)).trans (zV hl)
 have hl1:T1.length=100:=hs1.len.trans (by simp only [List.length_set]; exact hl)
 refine OF (fun T' H'=>Kp H H'/\ae T' 7=.nilSl) rfl ?_ ?_
 ·refine zW (bg hl1 t0 t1 t2) ?_
  refine AnsH.use (cone_long C (Ls:=[E,I]) (d:=d) zF (el (E:=rowsE) (t1:=af) ha hb (Kp.sub (H:=H) zK) (dC)) (by simp) (fun L hL r hr=>?_)) ?_
  ·rcases List.mem_cons.1 hL with rfl | hL
   ·exact ok1.len r hr
   ·rcases List.mem_cons.1 hL with rfl | hL
    ·exact ok2.len r hr
    ·cases hL
  rintro v H2 ⟨rfl,hk2⟩
  obtain ⟨k2,_,_⟩:=zT H zK hk2
  have q1:¬ ((d:Int)<1):=by omega
  have q2:¬ ((64:Int)<(d:Int)):=by omega
  have q3:(0:Int)<=(d:Int):=by omega
  cases hany:[E,I].any (fun L=>!L.isEmpty) with
  | true =>
   refine zW (jm hl1 t0 t7 q1 q2 q3 @aQ) ?_
   exact zK
  | false =>
   refine zW (jm hl1 t0 t7 q1 q2 q3 @aQ) ?_
   exact zK
 rintro T2 H2 hs2 ⟨k2,u7⟩
 have w2:=k2.wf
 have le2:=k2.le
 have u0:ae T2 0=.int .i64 (d:Int):=(hs2.at_ 0 (by decide)).trans t0
 have u1:ae T2 1=va:=(hs2.at_ 1 (by decide)).trans t1
 have u2:ae T2 2=vb:=(hs2.at_ 2 (by decide)).trans t2
 have hl2:T2.length=100:=hs2.len.trans hl1
 refine OF (fun T' H'=>ae T' 10=.ptr (H2.next+3) 0/\Kp H H'/\UnderV H H' (H2.next+3) (Lin.gensU d [] [])) rfl ?_ ?_
 ·refine zW (az hl2 u0) ?_
  refine AnsH.use (cone_all C (d:=d) zF (by omega)) ?_
  rintro v H3 ⟨bl3,hk3⟩
  obtain ⟨k23,_,_⟩:=zT H2 zK hk3
  have k3:Kp H H3:=k2.trans k23
  have le_k3:=k3.le
  have w3:=k3.wf
  have ov:=bl3.sl.one
  have h0:AV.one .nilSl=true:=rfl
  have hbv:iq (.agg [v,.nilSl,.nilSl])=some [v,.nilSl,.nilSl]:=by simp [iq,AV.cells,ov.2,h0]
  have n3:H2.next+5<=H3.next:=hk3.le
  have f3:H3.get (H2.next+3)=none:=hk3.free (show _<H2.next+5 by omega) (w2.fresh (b:=H2.next+3) (by omega))
  refine zW (bg hl2 (Ka ov) hbv @aQ) ?_
  have hbl:Wr H H3 v (Lin.startU d).lines (Lin.startU d).lines.length:=bl3.wr.base (show H.next<=H2.next+5 by omega)
  have hnb:iH v≠some (H2.next+3):=fun hx=>by
   have h2:H2.next+5<=H2.next+3:=bl3.ge hx
   omega
  exact ⟨zK,v,.nilSl,.nilSl,_,aA _ _ _,hbl.put hnb (NoTy.none f3),.inl ⟨rfl,rfl⟩,.inl ⟨rfl,rfl⟩,(fun x _ hy=>by cases hy),(fun x _ hy=>by cases hy),(fun x _ hy=>by cases hy)⟩
 obtain ⟨ub,hub⟩:∃ ub,ub=H2.next+3:=⟨_,rfl⟩
 rw [<- hub]
 have hubH:H.next<=ub:=by omega
 rintro T3 H3 hs3 ⟨v10,k3,hu3⟩
 have w3:=k3.wf
 have le3:=k3.le
 have v1:ae T3 1=va:=(hs3.at_ 1 (by decide)).trans u1
 have v2:ae T3 2=vb:=(hs3.at_ 2 (by decide)).trans u2
 have v7:ae T3 7=.nilSl:=(hs3.at_ 7 (by decide)).trans u7
 have hl3:T3.length=100:=hs3.len.trans hl2
 refine br ?_
 refine zW (aC hl3 v10 @aK) ?_
 refine OF (fun T' H'=>Kp H H'/\UnderV H H' ub (Lin.gensU d E [])) rfl ?_ ?_
 ·refine zW (aC hl3 v1 ha.lenV) ?_
  refine ak H [] (fun j _ H'=>UnderV H H' ub (Lin.gensU d (E.take j) [])) (a:=0) (N:=E.length) rfl (by refine zW hl3 ?_; rfl) (zV hl3) (Nat.zero_le _) (by omega) (by simp only [List.length_set,hl3]; rfl) rfl (fun j vs H' m h=>h.mono (Sub.bump H' m)) zK (by exact hu3.mono (Sub.bump H3 _)) ?_ ?_
  ·rintro j T4 H4 _ hj hl4 hi4 hs4 hk4 hu4
   have w4:=hk4.wf
   have le_hk4:=hk4.le
   have le4:=hk4.le
   have t48:ae T4 48=va:=(hs4.at_ 48 (by decide)).trans (zV (az hl3 v1))
   have t11:ae T4 11=.fn (.func cC) [.ptr ub 0] []:=(hs4.at_ 11 (by decide)).trans (zV hl3)
   obtain ⟨w,hr,hld⟩:=cV ha hj
   have hld4:=aH hk4.sub hld
   have hix:=SlV.idx1 ha .i64 j hj
   have mk:=mid (A:=E.take j) (B:=[]) (fun a h=>h1 a (List.mem_of_mem_take h)) (fun a h=>by cases h)
   have hEj:=h1 _ (List.getElem_mem hj)
   have hso:=mk.some
   have hfe:=mk.few
   have h01:0^(d-1)<=1:=Nat.le_trans (Nat.pow_le_pow_left (Nat.zero_le 1) _) (by rw [Nat.one_pow]; exact Nat.le_refl _)
   simp only [List.length_nil] at hfe
   have hnx:(Lin.addU E[j] true (Lin.gensU d (E.take j) [])).rays.length<=1099000000000:=by
    rw [<- AN d E hj]
    have:=(mid (A:=E.take (j+1)) (B:=[]) (fun a h=>h1 a (List.mem_of_mem_take h)) (fun a h=>by cases h)).few
    simp only [List.length_nil] at this
    omega
   simp only [List.length_set,hl3] at hl4
   refine zW (fW hl4 t48 t11 hi4 hix hld4) ?_
   refine AnsH.use (A4 C (H0:=H) (u:=Lin.gensU d (E.take j) []) (e:=f) (f:=f) (hk4.up _) hubH (hu4.mono (Sub.bump H4 _)) hr hd0 (by omega) hEj.1 mk.lines mk.rays (fun r hr=>by rw [mk.done] at hr; cases hr) (by rw [mk.done]; simp) (fun z hz=>(fz hEj.2 z hz).mono (by omega)) (by omega) (by omega) (by omega) hnx) ?_
   rintro v H5 ⟨rfl,hk5,hu5⟩
   refine zW hl4 ?_
   exact ⟨hk5,by rw [AN d E hj]; exact hu5⟩
  ·rintro T4 H4 hl4 hs4 hk4 hu4
   rw [List.take_length] at hu4
   refine zW (az hl4 @aQ) ?_
   exact ⟨hk4,hu4⟩
 rintro T4 H4 hs4 ⟨k4,hu4⟩
 have w4:=k4.wf
 have le4:=k4.le
 have x2:ae T4 2=vb:=(hs4.at_ 2 (by decide)).trans (zV (az hl3 v2))
 have x7:ae T4 7=.nilSl:=(hs4.at_ 7 (by decide)).trans (zV (az hl3 v7))
 have x10:ae T4 10=.ptr ub 0:=(hs4.at_ 10 (by decide)).trans (zV (az hl3 v10))
 have x11:ae T4 11=.fn (.func cC) [.ptr ub 0] []:=(hs4.at_ 11 (by decide)).trans (zV hl3)
 have hl4:T4.length=100:=hs4.len.trans (by simp only [List.length_set]; exact hl3)
 refine OF (fun T' H'=>Kp H H'/\UnderV H H' ub (Lin.gensU d E I)) rfl ?_ ?_
 ·refine zW (aC hl4 x2 hb.lenV) ?_
  refine ak H [] (fun j _ H'=>UnderV H H' ub (Lin.gensU d E (I.take j))) (a:=0) (N:=I.length) rfl (by refine zW hl4 ?_; rfl) (zV hl4) (Nat.zero_le _) (by omega) (by simp only [List.length_set,hl4]; rfl) rfl (fun j vs H' m h=>h.mono (Sub.bump H' m)) zK (by exact hu4.mono (Sub.bump H4 _)) ?_ ?_
  ·rintro j T5 H5 _ hj hl5 hi5 hs5 hk5 hu5
   have w5:=hk5.wf
   have le_hk5:=hk5.le
   have le5:=hk5.le
   have t58:ae T5 58=vb:=(hs5.at_ 58 (by decide)).trans (zV (az hl4 x2))
   have t11:ae T5 11=.fn (.func cC) [.ptr ub 0] []:=(hs5.at_ 11 (by decide)).trans (zV (az hl4 x11))
   obtain ⟨w,hr,hld⟩:=cV hb hj
   have hld5:=aH hk5.sub hld
   have hix:=SlV.idx1 hb .i64 j hj
   have hIt:∀ a∈I.take j,a.length=d/\Lin.Bd (2^m) a:=fun a h=>h2 a (List.mem_of_mem_take h)
   have mk:=mid (A:=E) (B:=I.take j) h1 hIt
   have hIj:=h2 _ (List.getElem_mem hj)
   have hso:=mk.some
   have hfe:=mk.few
   have hp:(I.take j).length^(d-1)<=I.length^(d-1):=Nat.pow_le_pow_left (by rw [List.length_take]; omega) _
   have hnx:(Lin.addU I[j] false (Lin.gensU d E (I.take j))).rays.length<=1099000000000:=by
    rw [<- AM d E I hj]
    have h3:=(mid (A:=E) (B:=I.take (j+1)) h1 (fun a h=>h2 a (List.mem_of_mem_take h))).few
    have h4:(I.take (j+1)).length^(d-1)<=I.length^(d-1):=Nat.pow_le_pow_left (by rw [List.length_take]; omega) _
    omega
   simp only [List.length_set,hl4] at hl5
   refine zW (fW hl5 t58 t11 hi5 hix hld5) ?_
   refine AnsH.use (A4 C (H0:=H) (u:=Lin.gensU d E (I.take j)) (e:=f) (f:=f) (hk5.up _) hubH (hu5.mono (Sub.bump H5 _)) hr hd0 (by omega) hIj.1 mk.lines mk.rays (fun r hr=>by rw [mk.done] at hr; exact ⟨(hIt r hr).1,fun z hz=>(fz (hIt r hr).2 z hz).mono (by omega)⟩) (by rw [mk.done,List.length_take]; omega) (fun z hz=>(fz hIj.2 z hz).mono (by omega)) (by omega) (by omega) (by omega) hnx) ?_
   rintro v H6 ⟨rfl,hk6,hu6⟩
   refine zW hl5 ?_
   exact ⟨hk6,by rw [AM d E I hj]; exact hu6⟩
  ·rintro T5 H5 hl5 hs5 hk5 hu5
   rw [List.take_length] at hu5
   refine zW (az hl5 @aQ) ?_
   exact ⟨hk5,hu5⟩
 rintro T5 H5 hs5 ⟨k5,hu5⟩
 have w5:=k5.wf
 have le5:=k5.le
 have y7:ae T5 7=.nilSl:=(hs5.at_ 7 (by decide)).trans x7
 have y10:ae T5 10=.ptr ub 0:=(hs5.at_ 10 (by decide)).trans x10
 have hl5:T5.length=100:=hs5.len.trans hl4
 have mk:=mid h1 h2
 have hso:=mk.some
 have hfe:=mk.few
 obtain ⟨ql,qr,qd,cl,hub5,hql,hqr,hqd,-,-,-⟩:=hu5
 have lub5:=w5 _ _ hub5
 obtain ⟨tL,tR⟩:=qR hd0 hd h1 h2
 have hT:=Lin.gens_told (fun a ha=>(h1 a ha).1) (fun a ha=>(h2 a ha).1)
 obtain ⟨L,hL⟩:∃ L,L=Lin.gensL d E I:=⟨_,rfl⟩
 have hLf:Lin.formF (Lin.gensU d E I).lines=L:=by rw [hL]; rfl
 have hLL:Lin.formF L=L:=by rw [<- hLf]; exact Fl (fun r hr=>(mk.lines r hr).1)
 have hLlen:L.length<=d:=by rw [hL]; exact ech_len hT.form
 have hLm:∀ r∈L,r.length=d/\∀ z∈r,Bt f z:=fun r hr=>by
  rw [hL] at hr
  exact ⟨(tL r hr).1,fun z hz=>by rw [hf]; exact fz (tL r hr).2 z hz⟩
 refine OF (fun T' H'=>∃ q6,ae T' 6=q6/\Kp H5 H'/\cI H' q6 L) rfl ?_ ?_
 ·refine zW (aC hl5 y10 hub5) ?_
  refine AnsH.use (rows_Echelon C (d:=d) (e:=f) zF (hql.sl.mono (Sub.bump H5 _)) (by omega) hd0 (by omega) (fun r hr=>(mk.lines r hr).1) (fun r hr=>(mk.lines r hr).2) (by omega)) ?_
  rintro v H6 ⟨q6,rfl,hr6,hk6⟩
  have k6:Kp H5 H6:=Kp.trans (Kp.up (Kp.refl w5) _) hk6
  have le_k6:=k6.le
  rw [hLf] at hr6
  refine zW (az hl5 @aQ) ?_
  exact ⟨q6,rfl,k6,hr6⟩
 rintro T6 H6 hs6 ⟨q6,z6,k56,hr6⟩
 have w6:=k56.wf
 have le6:=k56.le
 have z7:ae T6 7=.nilSl:=(hs6.at_ 7 (by decide)).trans y7
 have z10:ae T6 10=.ptr ub 0:=(hs6.at_ 10 (by decide)).trans y10
 have hl6:T6.length=100:=hs6.len.trans hl5
 have hub6:=k56.get hub5
 have hqr6:cI H6 qr (Lin.gensU d E I).rays:=hqr.sl.mono k56.sub
 obtain ⟨R,hR⟩:∃ R,R=(Lin.gensU d E I).rays:=⟨_,rfl⟩
 have hRm:∀ r∈R,r.length=d/\∀ z∈r,Bt f z:=fun r hr=>mk.rays r (by rw [<- hR]; exact hr)
 have hRl:R.length<=1099000000000:=by rw [hR]; omega
 rw [<- hR] at hqr6
 refine OF (fun T' H'=>∃ o,ae T' 7=o/\Kp H6 H'/\Bl rowsE af H6 H' o (R.map (Lin.restF L))) rfl ?_ ?_
 ·refine zW (bg hl6 z10 hub6 hqr6.lenV) ?_
  refine ak H6 [7] (fun j vs H'=>∃ o,vs=[o]/\Bl rowsE af H6 H' o ((R.take j).map (Lin.restF L))) (a:=0) (N:=R.length) rfl (by refine zW hl6 ?_; rfl) (zV hl6) (Nat.zero_le _) (by omega) (by simp only [List.length_set,hl6]; rfl) rfl (fun j vs H' m ⟨o,q1,q2⟩=>⟨o,q1,q2.mono (Sub.bump H' m)⟩) (Kp.up (Kp.refl w6) _) ⟨.nilSl,by exact zV (az hl6 z7),Bl.nil⟩ ?_ ?_
  ·rintro j T7 H7 _ hj hl7 hi7 hs7 hk7 ⟨o,hv,ho⟩
   have w7:=hk7.wf
   have le_hk7:=hk7.le
   have le7:=hk7.le
   simp only [List.map_cons,List.map_nil,List.cons.injEq,and_true] at hv
   have t79:ae T7 79=qr:=(hs7.at_ 79 (by decide)).trans (zV hl6)
   have t6:ae T7 6=q6:=(hs7.at_ 6 (by decide)).trans (zV (az hl6 z6))
   obtain ⟨w,hr,hld⟩:=cV (hqr6.mono hk7.sub) hj
   have hix:=SlV.idx1 hqr6 .i64 j hj
   have hRj:=hRm _ (List.getElem_mem hj)
   simp only [List.length_set,hl6] at hl7
   refine zW (fW hl7 t79 t6 hi7 hix hld) ?_
   refine AnsH.use (rows_Reduce C (d:=d) (e:=f) zF (hr.mono (Sub.bump H7 _)) ((hr6.mono hk7.sub).mono (Sub.bump H7 _)) (by omega) hd0 (by omega) hRj.1 (fun r hr=>(hLm r hr).1) hRj.2 (fun r hr=>(hLm r hr).2) (by omega)) ?_
   rintro v H8 ⟨q,rfl,hrq,hk8⟩
   have k78:Kp H7 H8:=Kp.trans (Kp.up (Kp.refl w7) _) hk8
   have le_k78:=k78.le
   have k68:Kp H6 H8:=hk7.trans k78
   have le_k68:=k68.le
   have w8:=k68.wf
   rw [hLL] at hrq
   have oq:=hrq.one
   have hlen:((R.take j).map (Lin.restF L)).length<=R.length:=by simp; omega
   obtain ⟨n6,H9,e6,b6,k6,nx6,f6,u6⟩:=Bl.push1 (ty2:=af) (bytes:=24) (id:=H8.next+3) (id2:=H8.next+2) (k:=5) (cs:=[q]) (a:=Lin.restF L R[j]) (ho.mono k78.sub) (by decide) k68 ⟨q,rfl,hrq⟩ (by omega) (by omega) (by omega) (by omega) (by omega) (by omega) (by omega)
   have e6':OC ((H8.up 5).put (H8.next+2) (.cells [q] af true)) (H8.next+3) 1 24 af o (.own (H8.next+2) 0 1 1 1 true)=some (.own (H8.next+3) 0 n6 n6 1 false,H9):=e6
   refine zW (aC hl7 hv e6') ?_
   refine ⟨k6,_,rfl,?_⟩
   rw [List.take_succ_eq_append_getElem hj,List.map_append]
   exact b6
  ·rintro T7 H7 hl7 hs7 hk7 ⟨o,hv,ho⟩
   simp only [List.map_cons,List.map_nil,List.cons.injEq,and_true] at hv
   rw [List.take_length] at ho
   refine zW (az hl7 @aQ) ?_
   exact ⟨o,hv,hk7,ho⟩
 rintro T7 H7 hs7 ⟨o,a7,k67,bl7⟩
 have w7:=k67.wf
 have a6:ae T7 6=q6:=(hs7.at_ 6 (by decide)).trans z6
 have hl7:T7.length=100:=hs7.len.trans hl6
 have hGR:(R.map (Lin.restF L)).mergeSort Lin.cmpV=Lin.gensR d E I:=by rw [hR,hL]; rfl
 have hperm:(Lin.gensR d E I).Perm (R.map (Lin.restF L)):=by rw [<- hGR]; exact List.mergeSort_perm _ _
 have hMm:∀ r∈R.map (Lin.restF L),r.length=d/\∀ z∈r,OV z:=fun r hr=>by
  have h:=tR r (hperm.mem_iff.2 hr)
  exact ⟨h.1,fun z hz=>(fz h.2 z hz).sm (by omega)⟩
 refine br ?_
 refine zW (aC hl7 @a7 @aK) ?_
 refine AnsH.use (xx C.slices_SortFunc_Sl_api_Vec_api_Vec rfl (H0:=H6) (d:=d) (k67.up _) (bl7.mono (Sub.bump H7 _)) (fun r hr=>(hMm r hr).1) (hperm.nodup_iff.1 (Lin.told_nodup hT)) (by rw [List.length_map]; omega) fun D a b hD x hx y hy hxa hyb=>(cone_Gens_f1 C hD hxa hyb ((hMm x hx).1.trans (hMm y hy).1.symm) (by rw [(hMm x hx).1]; omega) (hMm x hx).2 (hMm y hy).2).mono fun _ _ h=>h.1) ?_
 rintro v H8 ⟨rfl,hk8,bl8⟩
 rw [hGR] at bl8
 refine zW (az hl7 @aK) ?_
 refine br ?_
 refine zW (bg hl7 @a6 @a7 @aK) ?_
 refine WC.wb ?_
 refine zW (az hl7 hrs) ?_
 have k08:Kp H H8:=(k5.trans k56).trans hk8
 have le_k08:=k08.le
 rw [<- hL]
 exact ⟨_,_,rfl,(hr6.mono hk8.sub).mono (Sub.bump H8 _),bl8.sl.mono (Sub.bump H8 _),k08.up _⟩
theorem cone_Gens (C:Code tab) (hw:Wf H) {va vb:AV} {E I:List (List Int)} {d m:Nat} (ha:cI H va E) (hb:cI H vb I) (hd0:0<d) (hd:d<=6) (he:E.length<=1024) (hi:I.length<=20) (h1:∀ a∈E,a.length=d/\Lin.Bd (2^m) a) (h2:∀ a∈I,a.length=d/\Lin.Bd (2^m) a) (hm:m<=300000) :
  Ans tab (.fn Qh [.int .i64 (d:Int),va,vb]) H fun v H'=>∃ p q,v=.tup [p,q,.int .i64 0]/\cI H' p (Lin.gensL d E I)/\cI H' q (Lin.gensR d E I)/\Kp H H':=by
 refine qF C hw ha hb hd0 hd he (by omega) ?_ h1 h2 hm
 have g1:I.length^(d-1)<=21^(d-1):=Nat.pow_le_pow_left (by omega) _
 have g2:21^(d-1)<=21^5:=Nat.pow_le_pow_right (by decide) (by omega)
 have g3:21^5=4084101:=by decide
 omega
end
theorem jO {α:Type} {l m:List α} (he:l.length=m.length) (h:∀ q (h:q<l.length) (h':q<m.length),l[q]=m[q]):l=m :=
 List.ext_getElem he fun q h1 h2=>h q h1 h2
def lJ (many ag:Nat) (r:List (Bool × List Nat)):Bool:=decide (many<r.length) || r.any fun z=>decide (ag<z.2.length)
section
variable {tab:Nat->Option aq} {H:Heap} {s:AV}
theorem B2 (C:Code tab) (hw:Wf H) {a b:AV} {l m:List Nat} (ha:Lb H a l) (hb:Lb H b m) (hl':l.length<4611686018427387904) :
  Ans tab (.fn cX [a,b]) H fun v H'=>v=.bool (decide (l=m))/\Kp H H':=by
 refine ca C.facetroomref01_Same (by decide) fun T hl g0 g1=>?_
 by_cases he:l.length=m.length
 ·have lb:lenV b=some (.int .i64 (l.length:Int)):=by rw [hb.lenV,he]
  refine zW (cJ hl g0 g1 ha.lenV lb) ?_
  refine bf H [5] (fun k vs H'=>∃ i:Nat,vs=[.int .i64 (i:Int)]/\i+k=l.length/\∀ q (h:q<l.length) (h':q<m.length),q<i->l[q]=m[q]) l.length (by simp only [List.length_set]; exact hl) rfl zK ⟨0,by refine zW (aC hl g0 g1) ?_; rfl,by omega,fun q _ _ h=>by omega⟩ ?_
  rintro k T1 H1 hl1 hs1 hk1 ⟨i,hv,hik,hP⟩
  have w1:=hk1.wf
  have le_hk1:=hk1.le
  simp only [List.map_cons,List.map_nil,List.cons.injEq,and_true] at hv
  have t0:ae T1 0=a:=(hs1.at_ 0 (by decide)).trans (zV (az hl g0))
  have t1:ae T1 1=b:=(hs1.at_ 1 (by decide)).trans (zV (bg hl g0 g1 g1))
  by_cases hi:i<l.length
  ·have hii:(i:Int)<(l.length:Int):=by omega
   have hi':i<m.length:=by omega
   obtain ⟨w,hr,hld⟩:=SlV.at1 (ha.mono hk1.sub) (List.getElem?_eq_getElem hi)
   obtain ⟨w',hr',hld'⟩:=SlV.at1 (hb.mono hk1.sub) (List.getElem?_eq_getElem hi')
   have hr:w=.int .u64 ((l[i]:Nat):Int):=hr
   have hr':w'=.int .u64 ((m[i]:Nat):Int):=hr'
   subst hr; subst hr'
   have hix:=SlV.idx1 ha .i64 i hi
   have hix':=SlV.idx1 hb .i64 i hi'
   have e:IntKind.i64.wrap ((i:Int)+1)=((i+1:Nat):Int):=by rw [wrap_i64] <;> omega
   refine zW (jm hl1 hv t0 t1 ha.lenV hii hi) ?_
   refine aO ?_
   by_cases hq:l[i]=m[i]
   ·have hq':((l[i]:Nat):Int)=((m[i]:Nat):Int):=by omega
    refine zD (nE hl1 hv t0 t1 hix hld hix' hld' hq' e) ?_
    refine ⟨zK,k-1,by omega,i+1,rfl,by omega,fun q h h' hqi=>?_⟩
    by_cases eq:q=i
    ·subst eq; exact hq
    ·exact hP q h h' (by omega)
   ·have hq':¬ ((l[i]:Nat):Int)=((m[i]:Nat):Int):=by omega
    refine zD (p9 hl1 hv t0 t1 hix hld hix' hld' hq' hq e) ?_
    refine ⟨?_,zK⟩
    rw [decide_eq_false]
    intro e; subst e; exact hq rfl
  ·have hii:¬ (i:Int)<(l.length:Int):=by omega
   refine zW (jm hl1 hv t0 t1 ha.lenV hii hi) ?_
   refine ⟨?_,zK⟩
   rw [decide_eq_true (jO he fun q h h'=>hP q h h' (by omega))]
 ·have he':¬ (l.length:Int)=(m.length:Int):=by omega
  refine zW (jm hl g0 g1 ha.lenV hb.lenV he' he) ?_
  refine ⟨?_,zK⟩
  rw [decide_eq_false]
  intro e; subst e; exact he rfl
theorem xP {x y:Nat} (h:ag x=ag y):x=y:=by
 have:=congrArg val h
 rwa [bJ,bJ] at this
theorem B0 (C:Code tab) (hw:Wf H) {a b:AV} {x y:Int} (ha:IntV H a x) (hb:IntV H b y) (hx:OV x) :
  Ans tab (.fn eN [a,b]) H fun v H'=>v=.bool (decide (x=y))/\Kp H H':=by
 obtain ⟨p,rfl,hp⟩:=ha
 obtain ⟨q,rfl,hq⟩:=hb
 have op:=hp.one
 have oq:=hq.one
 unfold OV Sm at hx
 refine ca C.facetroomref05_Same (by decide) fun T hl g0 g1=>?_
 by_cases h:decide (x<0)=decide (y<0)
 ·have h':(decide (x<0) == decide (y<0))=true:=by rw [h]; simp
  refine zW (bg hl g0 g1 h') ?_
  refine AnsH.eq (B2 C zF (hp.mono (Kp.sub (H:=H) zK)) (hq.mono (Kp.sub (H:=H) zK)) (by omega)) fun H2 hk2=>?_
  obtain ⟨k2,_,_⟩:=zT H zK hk2
  refine zW (aC hl g0 g1) ?_
  refine ⟨?_,zK⟩
  by_cases e:x=y
  ·rw [decide_eq_true e,decide_eq_true (by rw [e])]
  ·rw [decide_eq_false e,decide_eq_false]
   intro h2
   have:=xP h2
   have h3:(x<0) ↔ (y<0):=by simpa using h
   omega
 ·have h':(decide (x<0) == decide (y<0))=false:=by simpa using h
  refine zW (bg hl g0 g1 h') ?_
  refine ⟨?_,zK⟩
  rw [decide_eq_false]
  intro e; subst e; exact h rfl
theorem vj (C:Code tab) (hw:Wf H) {a b:AV} {l m:List Int} (ha:RowV H a l) (hb:RowV H b m) (hl':l.length<1099511627776) (hz:∀ z∈l,OV z) :
  Ans tab (.fn eM [a,b]) H fun v H'=>v=.bool (decide (l=m))/\Kp H H':=by
 refine ca C.facetroomref07_Same (by decide) fun T hl g0 g1=>?_
 by_cases he:l.length=m.length
 ·have lb:lenV b=some (.int .i64 (l.length:Int)):=by rw [hb.lenV,he]
  refine zW (cJ hl g0 g1 ha.lenV lb) ?_
  refine bf H [5] (fun k vs H'=>∃ i:Nat,vs=[.int .i64 (i:Int)]/\i+k=l.length/\∀ q (h:q<l.length) (h':q<m.length),q<i->l[q]=m[q]) l.length (by simp only [List.length_set]; exact hl) rfl zK ⟨0,by refine zW (aC hl g0 g1) ?_; rfl,by omega,fun q _ _ h=>by omega⟩ ?_
  rintro k T1 H1 hl1 hs1 hk1 ⟨i,hv,hik,hP⟩
  have w1:=hk1.wf
  have le_hk1:=hk1.le
  simp only [List.map_cons,List.map_nil,List.cons.injEq,and_true] at hv
  have t0:ae T1 0=a:=(hs1.at_ 0 (by decide)).trans (zV (az hl g0))
  have t1:ae T1 1=b:=(hs1.at_ 1 (by decide)).trans (zV (bg hl g0 g1 g1))
  by_cases hi:i<l.length
  ·have hii:(i:Int)<(l.length:Int):=by omega
   have hi':i<m.length:=by omega
   obtain ⟨w,hn,L,hix⟩:=kJ w1 (ha.mono hk1.sub) hi
   obtain ⟨w',hn',L',hix'⟩:=kJ w1 (hb.mono hk1.sub) hi'
   have hld:=L.ld
   have hld':=L'.ld
   have e:IntKind.i64.wrap ((i:Int)+1)=((i+1:Nat):Int):=by rw [wrap_i64] <;> omega
   refine zW (jm hl1 hv t0 t1 ha.lenV hii hi) ?_
   refine aO ?_
   refine zD (mw hl1 hv t0 t1 hix hld hix' hld') ?_
   refine AnsH.eq (B0 C zF ⟨w,rfl,hn.mono (Kp.sub (H:=H1) zK)⟩ ⟨w',rfl,hn'.mono (Kp.sub (H:=H1) zK)⟩ (hz _ (List.getElem_mem hi))) fun H2 hk2=>?_
   obtain ⟨k12,_,_⟩:=zT H1 zK hk2
   have k2:Kp H H2:=Kp.trans hk1 k12
   have le_k2:=k2.le
   cases hq:decide (l[i]=m[i]) with
   | true =>
    have hq:=of_decide_eq_true hq
    refine zD (kU hl1 hv t0 t1 hix hld hix' hld' e) ?_
    refine ⟨zK,k-1,by omega,i+1,rfl,by omega,fun q h h' hqi=>?_⟩
    by_cases eq:q=i
    ·subst eq; exact hq
    ·exact hP q h h' (by omega)
   | false =>
    have hq:=of_decide_eq_false hq
    refine zD (kU hl1 hv t0 t1 hix hld hix' hld' e) ?_
    refine ⟨?_,zK⟩
    rw [decide_eq_false]
    intro e; subst e; exact hq rfl
  ·have hii:¬ (i:Int)<(l.length:Int):=by omega
   refine zW (jm hl1 hv t0 t1 ha.lenV hii hi) ?_
   refine ⟨?_,zK⟩
   rw [decide_eq_true (jO he fun q h h'=>hP q h h' (by omega))]
 ·have he':¬ (l.length:Int)=(m.length:Int):=by omega
  refine zW (jm hl g0 g1 ha.lenV hb.lenV he' he) ?_
  refine ⟨?_,zK⟩
  rw [decide_eq_false]
  intro e; subst e; exact he rfl
theorem Al (C:Code tab) (hw:Wf H) {a:AV} {r:List (Bool × List Nat)} {many lim:Nat} (ha:SlV rawE aa H a r) (hm:many<4611686018427387904) :
  Ans tab (.fn dZ [a,.int .i64 (many:Int),.int .i64 (lim:Int)]) H fun v H'=>v=.bool (lJ many lim r)/\Kp H H':=by
 refine Qg C.facetroomref07_Great (by decide) fun T hl g0 g1 g2=>?_
 by_cases he:many<r.length
 ·have he':(many:Int)<(r.length:Int):=by omega
  refine zW (fW hl g0 g1 ha.lenV he' he) ?_
  exact ⟨by unfold lJ; rw [decide_eq_true he]; rfl,zK⟩
 ·have he':¬ (many:Int)<(r.length:Int):=by omega
  refine zW (jm hl g0 g1 g2 ha.lenV he' he) ?_
  refine bf H [7] (fun k vs H'=>∃ i:Nat,vs=[.int .i64 (i:Int)]/\i+k=r.length/\∀ q (h:q<r.length),q<i->¬ lim<(r[q]).2.length) r.length (by simp only [List.length_set]; exact hl) rfl zK ⟨0,by refine zW (bg hl g0 g1 g2) ?_; rfl,by omega,fun q _ h=>by omega⟩ ?_
  rintro k T1 H1 hl1 hs1 hk1 ⟨i,hv,hik,hP⟩
  have w1:=hk1.wf
  have le_hk1:=hk1.le
  simp only [List.map_cons,List.map_nil,List.cons.injEq,and_true] at hv
  have t0:ae T1 0=a:=(hs1.at_ 0 (by decide)).trans (zV (az hl g0))
  have t2:ae T1 2=.int .i64 (lim:Int):=(hs1.at_ 2 (by decide)).trans (zV (cJ hl g0 g1 g2 g2))
  by_cases hi:i<r.length
  ·have hii:(i:Int)<(r.length:Int):=by omega
   obtain ⟨cs,⟨w,rfl,hn⟩,-,h2,-⟩:=(ha.mono hk1.sub).at (List.getElem?_eq_getElem hi)
   have hld:aZ H1 none (al a (i*2+1))=some w:=h2 1 w rfl
   have hix:Ox 2 a (.int .i64 (i:Int))=some (al a (i*2)):=SlV.idx ha .i64 i hi
   have hfa:vZ 1 (al a (i*2))=some (al a (i*2+1)):=ha.fa (by omega) 1 (i*2)
   have e:IntKind.i64.wrap ((i:Int)+1)=((i+1:Nat):Int):=by rw [wrap_i64] <;> omega
   by_cases hq:lim<(r[i]).2.length
   ·have hq':(lim:Int)<((r[i]).2.length:Int):=by omega
    refine zW (Ei hl1 hv t0 t2 ha.lenV hii hi hix hfa hld hn.lenV hq' hq) ?_
    refine ⟨?_,zK⟩
    unfold lJ
    rw [List.any_eq_true.2 ⟨_,List.getElem_mem hi,by rw [decide_eq_true hq]⟩,Bool.or_true]
   ·have hq':¬ (lim:Int)<((r[i]).2.length:Int):=by omega
    refine zW (Eh hl1 hv t0 t2 ha.lenV hii hi hix hfa hld hn.lenV hq' hq e) ?_
    refine ⟨zK,k-1,by omega,i+1,rfl,by omega,fun q h hqi=>?_⟩
    by_cases eq:q=i
    ·subst eq; exact hq
    ·exact hP q h (by omega)
  ·have hii:¬ (i:Int)<(r.length:Int):=by omega
   refine zW (jm hl1 hv t0 t2 ha.lenV hii hi) ?_
   refine ⟨?_,zK⟩
   have e:(r.any fun z=>decide (lim<z.2.length))=false:=by
    rw [List.any_eq_false]
    intro z hz
    obtain ⟨q,hq,rfl⟩:=List.getElem_of_mem hz
    simpa using hP q hq (by omega)
   unfold lJ
   rw [decide_eq_false he,Bool.false_or,e]
theorem vec_Of (C:Code tab) (hw:Wf H) {l:List Int} {ty:Nat} (hs:tX (zi .i64) ty H s l) (h64:l.length<=64) (hz:∀ z∈l,-9223372036854775808<=z/\z<9223372036854775808) :
  Ans tab (.fn vD [s]) H fun v H'=>RowV H' v l/\Kp H H':=by
 refine OD C.vec_Of (by decide) fun T hl g0=>?_
 obtain ⟨cells,hcells⟩:∃ cells,cells=(List.replicate l.length [AV.bool false,AV.nilSl]).flatten:=⟨_,rfl⟩
 have hmk:∀ H':Heap,E3 H' (H.next+3) aa 2 32 [.bool false,.nilSl] (.int .i64 (l.length:Int)) (.int .i64 (l.length:Int))=some (.own (H.next+3) 0 l.length l.length 2 true,H'.put (H.next+3) (.cells cells aa true)):=fun H'=>by rw [hcells]; exact iZ _ _ _ _ _ _ _ _ _ (by omega) (by omega) rfl
 refine zW (bg hl g0 hs.lenV hmk) ?_
 have hz0:intE.R H [.bool false,.nilSl] 0:=⟨.nilSl,by simp,dQ H⟩
 have hcl0:Cells intE H cells (List.replicate l.length 0):=by rw [hcells]; exact dD hz0 _
 refine ak H [3] (fun j vs H'=>vs=[.own (H.next+3) 0 l.length l.length 2 true]/\∃ cs,H'.get (H.next+3)=some (.cells cs aa true)/\Cells intE H' cs (l.take j++List.replicate (l.length-j) 0)) (a:=0) (N:=l.length) rfl (by refine zW (az hl g0) ?_; rfl) (zV (az hl g0)) (Nat.zero_le _) (by omega) (by simp only [List.length_set,hl]; rfl) rfl (fun j vs H' m ⟨h0,cs,h1,h2⟩=>⟨h0,cs,h1,Cells.mono (E:=intE) ((Sub.bump H' m).t _) h2⟩) zK ⟨by exact zV (az hl g0),cells,by exact dC,by
  have e:List.take 0 l++List.replicate (l.length-0) 0=List.replicate l.length 0:=by simp
  rw [e]
  exact Cells.mono (E:=intE) zS hcl0⟩ ?_ ?_
 ·rintro j T1 H1 _ hj hl1 hi1 hs1 hk1 ⟨hv,cs,hb1,hc1⟩
  have w1:=hk1.wf
  have le_hk1:=hk1.le
  have le1:=hk1.le
  simp only [List.map_cons,List.map_nil,List.cons.injEq,and_true] at hv
  have t9:ae T1 9=s:=(hs1.at_ 9 (by decide)).trans (zV (az hl g0))
  obtain ⟨w,hr,hld⟩:=SlV.at1 (hs.mono hk1.sub) (List.getElem?_eq_getElem hj)
  have hr:w=.int .i64 l[j]:=hr
  subst hr
  have hix:=SlV.idx1 hs .i64 j hj
  have hzj:=hz _ (List.getElem_mem hj)
  simp only [List.length_set,hl] at hl1
  refine zW (fW hl1 t9 hi1 hix hld hv) ?_
  refine AnsH.use (whole_Of C zF hzj.1 hzj.2) ?_
  rintro v H2 ⟨⟨w,rfl,hn⟩,hk2⟩
  obtain ⟨k2,_,w2⟩:=zT H1 zK hk2
  have ow:=hn.one
  have hb2:=k2.get hb1
  have lt2:=w2 _ _ hb2
  have hclen:cs.length=l.length*2:=by
   have:=hc1.1
   rw [List.length_append,List.length_take,List.length_replicate] at this
   have e:intE.sz=2:=rfl
   rw [e] at this
   rw [this]; congr 1; omega
  have hst:By (some (.cells cs aa true)) 2 (0+j*2) (.agg [.bool (decide (l[j]<0)),w])=some (.cells (cs.take (0+j*2)++[.bool (decide (l[j]<0)),w]++cs.drop (0+j*2+2)) aa true):=i9 (DG (aF _) ow) (by omega)
  have hio:Ox 2 (.own (H.next+3) 0 l.length l.length 2 true) (.int .i64 (j:Int))=some (.ptr (H.next+3) (0+j*2)):=mU hj
  rw [Nat.zero_add] at hst hio
  have hcl2:Cells intE H2 (cs.take (j*2)++[.bool (decide (l[j]<0)),w]++cs.drop (j*2+2)) ((l.take j++List.replicate (l.length-j) 0).set j l[j]):=(Cells.mono (E:=intE) (k2.sub.t _) hc1).set (i:=j) (by simp; omega) ⟨w,rfl,hn⟩
  have elist:(l.take j++List.replicate (l.length-j) 0).set j l[j]=l.take (j+1)++List.replicate (l.length-(j+1)) 0:=by
   have e1:l.length-j=(l.length-(j+1))+1:=by omega
   have e2:j-(List.take j l).length=0:=by simp; omega
   rw [e1,List.replicate_succ,List.set_append,if_neg (by simp; omega),e2,List.set_cons_zero,List.take_succ_eq_append_getElem hj,List.append_assoc]
   rfl
  rw [elist] at hcl2
  have m3:NoTy [ad] H2 (H.next+3):=NoTy.ty hb2 (by decide)
  refine zW (cJ hl1 hv hio hb2 hst) ?_
  have kH2:Kp H H2:=hk1.trans k2
  exact ⟨zK,_,rfl,Cells.mono (E:=intE) zS hcl2⟩
 ·rintro T1 H1 hl1 hs1 hk1 ⟨hv,cs,hb1,hc1⟩
  have w1:=hk1.wf
  have le_hk1:=hk1.le
  simp only [List.map_cons,List.map_nil,List.cons.injEq,and_true] at hv
  simp only [List.length_set,hl] at hl1
  refine zW (az hl1 hv) ?_
  refine ⟨?_,zK⟩
  have e:List.take l.length l++List.replicate (l.length-l.length) 0=l:=by simp
  rw [e] at hc1
  have:Own intE aa H H1 (H.next+3) true (.own (H.next+3) 0 l.length l.length 2 true) l:=⟨cs,rfl,hb1,hc1,by omega⟩
  exact this.sl.mono (Sub.bump H1 _)
end
theorem td {β:Type} {P:Nat->β->Prop}:∀ n,(∀ i,i<n->∃ y,P i y)->∃ l:List β,l.length=n/\∀ i (h:i<l.length),P i l[i]
 | 0,_=>⟨[],rfl,fun i h=>by simp at h⟩
 | n+1,h=>by
  obtain ⟨l,h1,h2⟩:=td n fun i hi=>h i (by omega)
  obtain ⟨y,hy⟩:=h n (by omega)
  refine ⟨l++[y],by simp [h1],fun i hi=>?_⟩
  by_cases hin:i<l.length
  ·rw [List.getElem_append_left hin]; exact h2 i hin
  ·have:i=n:=by rw [List.length_append] at hi; simp at hi; omega
   subst this
   rw [List.getElem_append_right (by omega)]
   simpa [h1] using hy
theorem DF {β:Type} {sz:Nat} {f:β->List AV}:∀ (l:List β),(∀ y∈l,(f y).length=sz)->(l.flatMap f).length=l.length*sz/\∀ i (h:i<l.length) k,k<sz->(l.flatMap f)[i*sz+k]? = (f l[i])[k]?
 | [],_=>⟨by simp,fun i h=>by simp at h⟩
 | y :: l,h=>by
  obtain ⟨h1,h2⟩:=DF l fun z hz=>h z (List.mem_cons_of_mem _ hz)
  have hy:=h y (List.mem_cons_self ..)
  refine ⟨by rw [List.flatMap_cons,List.length_append,h1,hy,List.length_cons,Nat.succ_mul]; omega,fun i hi k hk=>?_⟩
  rw [List.flatMap_cons]
  cases i with
  | zero=>rw [List.getElem?_append_left (by omega)]; simp
  | succ i =>
   rw [List.getElem?_append_right (by rw [Nat.succ_mul]; omega),hy]
   have e:(i+1)*sz+k-sz=i*sz+k:=by rw [Nat.succ_mul]; omega
   rw [e,h2 i (by simpa using hi) k hk]
   simp
def sw {HT:Type}:DataW HT->List (DataW HT)
 | .slice l _=>l
 | _=>[]
def LF {HT:Type}:DataW HT->List (DataW HT)
 | .agg l=>l
 | _=>[]
def Cn {HT:Type} (y:DataW HT) (z:Bool × List Nat):Prop:=∃ y2∈LF y,z.2.length<=(sw y2).length
section
variable {HT:Type} {enc:TypeId × Value->HT} {P:Program} {w:World} {base:Nat} {sp:Nat->Bool} {held:Bool} {μ:Mu} {F:Nat->Prop} {H:Heap} {α:Type}
theorem uF {E:eU α} {ty:Nat} {good:DataW HT->α->Prop} {t e:TypeId} (hF:∀ c,c<w.heap.size->F c) (ht:P.underlying t=some (.slice e)) (hsz:P.cellsOf e=E.sz)
  (helem:∀ fuel cs x,DataW.trod enc P w base sp held fuel e cs=some x->∃ acs z,LR μ F w acs cs/\E.R H acs z/\good x.1 z)
  {fuel:Nat} {cs:List Value} {x:DataW HT × List MemPlace} (h:DataW.trod enc P w base sp held fuel t cs=some x) :
  ∃ v av zs,cs=[v]/\VR μ F w av v/\SlV E ty H av zs/\(∀ z∈zs,∃ y∈sw x.1,good y z)/\zs.length<=maxLen/\zs.length<=(sw x.1).length:=by
 rcases DataW.trod_slice ht h with ⟨rfl,-⟩ | ⟨a,len,cap,elems,rest,n,-,rfl,ex,hb,hl,hc,hlen,hel,-⟩
 ·exact ⟨_,.nilSl,[],rfl,.nilSl,SlV.nil _ _ _,(fun z h=>by cases h),Nat.zero_le _,Nat.zero_le _⟩
 ·rcases Nat.eq_zero_or_pos len with h0 | h0
  ·subst h0
   refine ⟨_,.sl [] 0,[],rfl,.sl0 a cap,⟨[],⟨trivial,(fun s h=>by cases h),0,rfl,by simp [aJ]⟩,(fun _ _ _ _ _ _ e=>by cases e),by simp,fun i a h=>by simp at h⟩,fun z h=>(by cases h),Nat.zero_le _,Nat.zero_le _⟩
  ·have hp:=E.pos
   obtain ⟨L,hL1,hL2⟩:=td (P:=fun i (y:List AV × List Value × α)=>w.cells? base (a.add (i*E.sz)) E.sz=some y.2.1/\LR μ F w y.1 y.2.1/\E.R H y.1 y.2.2/\∃ h:i<elems.length,good elems[i].1 y.2.2) len fun i hi=>by
    have h1:=hel i hi
    rw [List.getElem?_eq_getElem (by omega),hsz] at h1
    obtain ⟨cs,h2,h3⟩:=Option.bind_eq_some_iff.1 h1
    obtain ⟨acs,z,h4,h5,h6⟩:=helem _ _ _ h3
    exact ⟨(acs,cs,z),h2,h4,h5,by omega,h6⟩
   have hsizes:∀ y∈L,y.1.length=E.sz:=fun y hy=>by
    obtain ⟨i,hi,rfl⟩:=List.getElem_of_mem hy
    exact (E.len (hL2 i hi).2.2.1).1
   obtain ⟨hfl,hfa⟩:=DF (f:=fun y:List AV × List Value × α=>y.1) L hsizes
   have hcell:∀ i (hi:i<L.length) k,k<E.sz->w.cell? (a.add (i*E.sz) |>.add k)=(L[i]).2.1[k]?:=fun i hi k hk=>((World.cells?_some (hL2 i hi).1).2.2 k hk)
   obtain ⟨v0,hv0⟩:∃ v0,w.cell? a=some v0:=by
    have h1:=hcell 0 (by omega) 0 hp
    have h2:=(World.cells?_some (hL2 0 (by omega)).1).2.1
    rw [List.getElem?_eq_getElem (by omega)] at h1
    simp [Addr.add] at h1
    exact ⟨_,h1⟩
   obtain ⟨arr,ety,fr,hblk,hspot⟩:∃ arr ety fr,w.heap[a.block]? = some (.cells arr ety fr)/\a.spot=none:=by
    unfold World.cell? at hv0
    split at hv0
    ·rename_i c ety fr hb
     refine ⟨c,ety,fr,hb,?_⟩
     cases hs:a.spot with
     | none=>rfl
     | some s=>rw [hs] at hv0; simp at hv0
    ·cases hv0
   obtain ⟨blk,off,spot⟩:=a
   simp only at hspot hblk hb
   subst hspot
   have hat:∀ i (hi:i<L.length) k,k<E.sz->arr[off+(i*E.sz+k)]? = (L[i]).2.1[k]?:=fun i hi k hk=>by
    rw [<- hcell i hi k hk]
    have e:((⟨blk,off,none⟩:Addr).add (i*E.sz) |>.add k)=⟨blk,off+(i*E.sz+k),none⟩:=by
     unfold Addr.add
     by_cases h1:i*E.sz=0
     ·by_cases h2:k=0
      ·simp [h1,h2]
      ·simp [h1,h2]
     ·by_cases h2:k=0
      ·simp [h1,h2]
      ·simp [h1,h2]; omega
    rw [e]
    simp [World.cell?,hblk]
   have hvl:∀ i (hi:i<L.length),(L[i]).2.1.length=E.sz:=fun i hi=>(World.cells?_some (hL2 i hi).1).2.1
   have hsize:off+(L.flatMap fun y=>y.1).length<=arr.size:=by
    have h1:=hat (len-1) (by omega) (E.sz-1) (by omega)
    rw [List.getElem?_eq_getElem (by have:=hvl (len-1) (by omega); omega)] at h1
    have h2:=(Array.getElem?_eq_some_iff.1 h1).1
    rw [hfl,hL1]
    have h3:len*E.sz=(len-1)*E.sz+E.sz:=by
     obtain ⟨m,rfl⟩:∃ m,len=m+1:=⟨len-1,by omega⟩
     rw [Nat.succ_mul,Nat.add_sub_cancel]
    omega
   refine ⟨_,.sl (L.flatMap fun y=>y.1) len,L.map fun y=>y.2.2,rfl,.sl _ _ _ blk off arr ety fr (hF _ (Array.getElem?_eq_some_iff.1 hblk).1) hblk hl hsize fun j c v hc hv=>?_,⟨L.flatMap fun y=>y.1,⟨trivial,(fun s h=>by cases h),len,rfl,?_⟩,(fun _ _ _ _ _ _ e=>by cases e),?_,fun i z hz=>?_⟩,fun z hz=>?_,by rw [List.length_map,hL1]; omega,by rw [List.length_map,hL1,ex]; simp [sw,hlen]⟩
   ·have hj:=(List.getElem?_eq_some_iff.1 hc).1
    rw [hfl] at hj
    have hi:j / E.sz<L.length:=(Nat.div_lt_iff_lt_mul hp).2 hj
    have hk:j % E.sz<E.sz:=Nat.mod_lt _ hp
    have hjk:j / E.sz*E.sz+j % E.sz=j:=Nat.div_add_mod' j E.sz
    have h1:=hfa _ hi _ hk
    have h2:=hat _ hi _ hk
    rw [hjk] at h1 h2
    rw [hc] at h1
    rw [hv] at h2
    exact (hL2 _ hi).2.1.2 _ _ _ h1.symm h2.symm
   ·simp only [aJ]
    rw [if_pos ⟨Nat.le_refl _,by rw [hfl,hL1]; exact Nat.le_refl _⟩,List.take_of_length_le (by rw [hfl,hL1]; exact Nat.le_refl _)]
   ·rw [hfl,List.length_map]
   ·rw [List.getElem?_map,Option.map_eq_some_iff] at hz
    obtain ⟨y,hy,rfl⟩:=hz
    obtain ⟨hi,rfl⟩:=List.getElem?_eq_some_iff.1 hy
    have e:(((L.flatMap fun y=>y.1).drop (i*E.sz)).take E.sz)=L[i].1:=by
     apply List.ext_getElem?
     intro k
     rw [List.getElem?_take]
     have hl1:=hsizes _ (List.getElem_mem hi)
     split
     ·rename_i hk
      rw [List.getElem?_drop]; exact hfa i hi k hk
     ·exact (List.getElem?_eq_none (by omega)).symm
    rw [e]
    exact (hL2 i hi).2.2.1
   ·obtain ⟨y,hy,rfl⟩:=List.mem_map.1 hz
    obtain ⟨i,hi,rfl⟩:=List.getElem_of_mem hy
    obtain ⟨h1,h2⟩:=(hL2 i hi).2.2.2
    rw [ex]
    exact ⟨_,List.mem_map.2 ⟨_,List.getElem_mem h1,rfl⟩,h2⟩
theorem Jq {E:eU α} {ty:Nat} {good:α->Prop} {t e:TypeId} (hF:∀ c,c<w.heap.size->F c) (ht:P.underlying t=some (.slice e)) (hsz:P.cellsOf e=E.sz)
  (helem:∀ fuel cs x,DataW.trod enc P w base sp held fuel e cs=some x->∃ acs z,LR μ F w acs cs/\E.R H acs z/\good z)
  {fuel:Nat} {cs:List Value} {x:DataW HT × List MemPlace} (h:DataW.trod enc P w base sp held fuel t cs=some x) :
  ∃ v av zs,cs=[v]/\VR μ F w av v/\SlV E ty H av zs/\(∀ z∈zs,good z)/\zs.length<=maxLen:=by
 obtain ⟨v,av,zs,h1,h2,h3,h4,h5,-⟩:=uF (good:=fun _ z=>good z) hF ht hsz helem h
 exact ⟨v,av,zs,h1,h2,h3,fun z hz=>(h4 z hz).elim fun _ h=>h.2,h5⟩
theorem Ez {t:TypeId} (ht:P.underlying t=some (.int .u64)) {fuel:Nat} {cs:List Value} {x:DataW HT × List MemPlace} (h:DataW.trod enc P w base sp held fuel t cs=some x) :
  ∃ acs z,LR μ F w acs cs/\(cB bX).R H acs z/\z<18446744073709551616:=by
 obtain ⟨n,rfl,-,hw⟩:=DataW.trod_int ht h
 have hr:0<=n/\n<18446744073709551616:=by
  have h1:IntKind.u64.min=0:=by decide
  have h2:IntKind.u64.max=18446744073709551615:=by decide
  unfold Lit.wf at hw
  simp [h1,h2] at hw
  omega
 refine ⟨[.int .u64 n],n.toNat,LR.cons (.int _ _) LR.nil,⟨_,rfl,?_⟩,by omega⟩
 show AV.int .u64 n=.int .u64 (n.toNat:Int)
 rw [Int.toNat_of_nonneg hr.1]
theorem GK {t e:TypeId} (hF:∀ c,c<w.heap.size->F c) (ht:P.underlying t=some (.slice e)) (he:P.underlying e=some (.int .u64)) (hsz:P.cellsOf e=1) {fuel:Nat} {cs:List Value} {x:DataW HT × List MemPlace} (h:DataW.trod enc P w base sp held fuel t cs=some x) :
  ∃ v av zs,cs=[v]/\VR μ F w av v/\SlV (cB bX) ad H av zs/\(∀ z∈zs,z<18446744073709551616)/\zs.length<=maxLen/\zs.length<=(sw x.1).length:=by
 obtain ⟨v,av,zs,h1,h2,h3,h4,h5⟩:=uF (E:=cB bX) (ty:=ad) (H:=H) (μ:=μ) (good:=fun _ z=>z<18446744073709551616) hF ht hsz (fun fuel cs x h=>Ez he h) h
 exact ⟨v,av,zs,h1,h2,h3,fun z hz=>(h4 z hz).elim fun _ h=>h.2,h5⟩
def zm (z:Bool × List Nat):Prop:=(∀ x∈z.2,x<18446744073709551616)/\z.2.length<=maxLen
theorem GJ {t e:TypeId} {fs:Array Field} {f0 f1:Field} (hF:∀ c,c<w.heap.size->F c) (ht:P.underlying t=some (.struct fs)) (hfs:fs = #[f0,f1]) (h0:f0.offset=0) (h1:f1.offset=1) (hc:P.cellsOf t=2) (hb:P.underlying f0.type=some .bool) (hcb:P.cellsOf f0.type=1) (hn:P.underlying f1.type=some (.slice e)) (hcn:P.cellsOf f1.type=1) (he:P.underlying e=some (.int .u64)) (hce:P.cellsOf e=1)
  {fuel:Nat} {cs:List Value} {x:DataW HT × List MemPlace} (h:DataW.trod enc P w base sp held fuel t cs=some x) :
  ∃ acs z,LR μ F w acs cs/\rawE.R H acs z/\zm z/\Cn x.1 z:=by
 subst hfs
 obtain ⟨xs,n,-,ex,hl,hxl,hx⟩:=DataW.trod_struct ht h
 have hxl:xs.length=2:=by simpa using hxl
 rw [hc] at hl
 match cs,hl with
 | [c0,c1],_ =>
  have e0:=hx 0 f0 rfl
  have e1:=hx 1 f1 rfl
  rw [List.getElem?_eq_getElem (by omega),h0,hcb] at e0
  rw [List.getElem?_eq_getElem (by omega),h1,hcn] at e1
  have m1:xs[1]∈xs:=List.getElem_mem _
  obtain ⟨b,g0,-⟩:=DataW.trod_bool hb e0
  obtain ⟨v,av,zs,g1,g2,g3,g4,g5,g6⟩:=GK (H:=H) (μ:=μ) hF hn he hce e1
  have q0:c0=.bool b:=by simpa using g0
  have q1:c1=v:=by simpa using g1
  clear g0 g1
  subst q0; subst q1
  exact ⟨[.bool b,av],(b,zs),LR.cons (.bool _) (LR.cons g2 LR.nil),⟨av,rfl,g3⟩,⟨g4,g5⟩,by rw [ex]; exact ⟨_,List.mem_map.2 ⟨_,m1,rfl⟩,g6⟩⟩
structure RowTys (P:Program) (tvs tv ti te:TypeId):Prop where
 vs:P.underlying tvs=some (.slice tv)
 cv:P.cellsOf tv=1
 v:P.underlying tv=some (.slice ti)
 ci:P.cellsOf ti=2
 i:∃ f0 f1:Field,P.underlying ti=some (.struct #[f0,f1])/\f0.offset=0/\f1.offset=1/\P.underlying f0.type=some .bool/\P.cellsOf f0.type=1/\P.underlying f1.type=some (.slice te)/\P.cellsOf f1.type=1
 e:P.underlying te=some (.int .u64)
 ce:P.cellsOf te=1
abbrev Nu (H:Heap) (v:AV) (l:List (Bool × List Nat)):Prop:=SlV rawE aa H v l
def mX (l:List (Bool × List Nat)):Prop:=(∀ z∈l,zm z)/\l.length<=maxLen
theorem GI {tvs tv ti te:TypeId} (hP:RowTys P tvs tv ti te) (hF:∀ c,c<w.heap.size->F c) {fuel:Nat} {cs:List Value} {x:DataW HT × List MemPlace} (h:DataW.trod enc P w base sp held fuel tv cs=some x) :
  ∃ v av l,cs=[v]/\VR μ F w av v/\Nu H av l/\mX l/\∀ z∈l,∃ y∈sw x.1,Cn y z:=by
 obtain ⟨f0,f1,i1,i2,i3,i4,i5,i6,i7⟩:=hP.i
 obtain ⟨v,av,l,g1,g2,g3,g4,g5,-⟩:=uF (E:=rawE) (ty:=aa) (H:=H) (μ:=μ) (good:=fun y z=>zm z/\Cn y z) hF hP.v hP.ci (fun fuel cs x h=>GJ hF i1 rfl i2 i3 hP.ci i4 i5 i6 i7 hP.e hP.ce h) h
 exact ⟨v,av,l,g1,g2,g3,⟨fun z hz=>(g4 z hz).elim fun _ h=>h.2.1,g5⟩,fun z hz=>(g4 z hz).imp fun y h=>⟨h.1,h.2.2⟩⟩
end
def cU (z:Bool × List Nat):Int:=if z.1=true then -(val z.2:Int) else (val z.2:Int)
theorem EP:∀ {z:Bool × List Nat},pC z=false->Lim z.2->jv (cU z)=z
 | (b,l),hb,hl=>by
  simp only [pC,Bool.or_eq_false_iff,decide_eq_false_iff_not,Bool.and_eq_false_iff] at hb
  obtain ⟨h1,h2⟩:=hb
  have hn:F3 l:=h1
  have hv:=sj hl hn
  cases b with
  | false =>
   have e:cU (false,l)=(val l:Int):=rfl
   rw [e]
   unfold jv
   rw [decide_eq_false (by omega),Int.natAbs_natCast,hv]
  | true =>
   have e:cU (true,l) = -(val l:Int):=rfl
   have hne:l≠[]:=fun e=>by subst e; simp at h2
   have hp:0<B^(l.length-1):=Nat.pow_pos (by decide)
   have hq:=uq hn hne
   rw [e]
   unfold jv
   rw [decide_eq_true (by omega),Int.natAbs_neg,Int.natAbs_natCast,hv]
theorem SlV.int {ty:Nat} {H:Heap} {v:AV} {l:List (Bool × List Nat)} (h:SlV rawE ty H v l) (hb:∀ z∈l,pC z=false/\Lim z.2):SlV intE ty H v (l.map cU):=by
 obtain ⟨cells,hr,ht,hc,ha⟩:=h
 refine ⟨cells,hr,ht,by rw [hc,List.length_map]; rfl,fun i a hi=>?_⟩
 rw [List.getElem?_map,Option.map_eq_some_iff] at hi
 obtain ⟨z,hz,rfl⟩:=hi
 obtain ⟨w,h1,h2⟩:=ha i z hz
 have hm:=hb z (List.mem_of_getElem? hz)
 have e:=EP hm.1 hm.2
 have e1:decide (cU z<0)=z.1:=congrArg Prod.fst e
 have e2:ag (cU z).natAbs=z.2:=congrArg Prod.snd e
 refine ⟨w,by rw [e1]; exact h1,?_⟩
 show Lb H w (ag (cU z).natAbs)
 rw [e2]; exact h2
section
open Go.ChangeShapes Go.WideShapes
variable {HT:Type} {enc:TypeId × Value->HT} {P:Program} {w:World} {base base':Nat} {sp:Nat->Bool} {held:Bool} {μ:Mu} {F:Nat->Prop} {H:Heap}
end
theorem int_range {n:Int} (h:(Lit.int .i64 n).wf=true) : -9223372036854775808<=n/\n<9223372036854775808:=by
 have h1:IntKind.i64.min = -9223372036854775808:=by decide
 have h2:IntKind.i64.max=9223372036854775807:=by decide
 unfold Lit.wf at h
 simp [h1,h2] at h
 omega
theorem u8_range {n:Int} (h:(Lit.int .u8 n).wf=true):0<=n/\n<256:=by
 have h1:IntKind.u8.min=0:=by decide
 have h2:IntKind.u8.max=255:=by decide
 unfold Lit.wf at h
 simp [h1,h2] at h
 omega
theorem wf_nil:Wf (Heap.nil 0):=fun b e h=>by rw [Tr.nil_get] at h; cases h
theorem La {z:Bool × List Nat} {n:Nat} (hl:Lim z.2) (hn:z.2.length<=n):Bt (64*n) (cU z):=by
 have h1:=rH hl
 have h2:B^z.2.length<=B^n:=Nat.pow_le_pow_right (by decide) hn
 have h3:B^n=2^(64*n):=by
  have:B=2^64:=by decide
  rw [this,<- Nat.pow_mul]
 unfold Bt cU
 split
 ·rw [Int.natAbs_neg,Int.natAbs_natCast]; omega
 ·rw [Int.natAbs_natCast]; omega
def KA {α:Type} (E:eU α) (ty:Nat):eU (List α × Bool) where
 sz:=2
 tys:=ty :: E.tys
 R H cs z:=∃ v,cs=[v,.bool z.2]/\SlV E ty H v z.1
 pos:=by omega
 len:=by rintro H cs z ⟨v,rfl,h⟩; exact ⟨rfl,by simp [h.one.2]; rfl⟩
 mono:=by rintro H H' cs z hs ⟨v,rfl,h⟩; exact ⟨v,rfl,h.monoT hs⟩
def MN {α:Type} (E:eU α) (ty:Nat):eU (Nat × List α) where
 sz:=2
 tys:=ty :: E.tys
 R H cs z:=∃ v,cs=[.int .u8 (z.1:Int),v]/\SlV E ty H v z.2
 pos:=by omega
 len:=by rintro H cs z ⟨v,rfl,h⟩; exact ⟨rfl,by simp [h.one.2]; rfl⟩
 mono:=by rintro H H' cs z hs ⟨v,rfl,h⟩; exact ⟨v,rfl,h.monoT hs⟩
abbrev conE:eU (List Int × Bool):=KA intE aa
abbrev conQE:eU (List (Bool × List Nat) × Bool):=KA rawE aa
abbrev genE:eU (Nat × List Int):=MN intE aa
abbrev genQE:eU (Nat × List (Bool × List Nat)):=MN rawE aa
section
variable {HT:Type} {enc:TypeId × Value->HT} {P:Program} {w:World} {base:Nat} {sp:Nat->Bool} {held:Bool} {μ:Mu} {F:Nat->Prop} {H:Heap}
structure GenTys (P:Program) (tgs tg tv:TypeId):Prop where
 gs:P.underlying tgs=some (.slice tg)
 cg:P.cellsOf tg=2
 g:∃ f0 f1:Field,P.underlying tg=some (.struct #[f0,f1])/\f0.offset=0/\f1.offset=1/\f1.type=tv/\P.underlying f0.type=some (.int .u8)/\P.cellsOf f0.type=1
theorem gc {tgs tg tvs tv ti te:TypeId} (hC:GenTys P tgs tg tv) (hP:RowTys P tvs tv ti te) (hF:∀ c,c<w.heap.size->F c) {fuel:Nat} {cs:List Value} {x:DataW HT × List MemPlace} (h:DataW.trod enc P w base sp held fuel tg cs=some x) :
  ∃ acs z,LR μ F w acs cs/\genQE.R H acs z/\mX z.2/\z.1<256:=by
 obtain ⟨f0,f1,i1,i2,i3,i4,i5,i6⟩:=hC.g
 obtain ⟨xs,n,-,ex,hl,hxl,hx⟩:=DataW.trod_struct i1 h
 have hxl:xs.length=2:=by simpa using hxl
 rw [hC.cg] at hl
 match cs,hl with
 | [c0,c1],_ =>
  have e0:=hx 0 f0 rfl
  have e1:=hx 1 f1 rfl
  rw [List.getElem?_eq_getElem (by omega),i2,i6] at e0
  rw [List.getElem?_eq_getElem (by omega),i3,i4,hP.cv] at e1
  obtain ⟨k,g0,-,hw⟩:=DataW.trod_int i5 e0
  have hr:=u8_range hw
  obtain ⟨v,av,l,g1,g2,g3,g4,-⟩:=GI (H:=H) (μ:=μ) hP hF e1
  have q0:c0=.int .u8 k:=by simpa using g0
  have q1:c1=v:=by simpa using g1
  clear g0 g1
  subst q0; subst q1
  obtain ⟨m,rfl⟩:∃ m:Nat,k=(m:Int):=⟨k.toNat,by omega⟩
  exact ⟨[.int .u8 (m:Int),av],(m,l),LR.cons (.int _ _) (LR.cons g2 LR.nil),⟨av,rfl,g3⟩,g4,by show m<256; omega⟩
theorem fX {tgs tg tvs tv ti te:TypeId} (hC:GenTys P tgs tg tv) (hP:RowTys P tvs tv ti te) (hF:∀ c,c<w.heap.size->F c) {fuel:Nat} {cs:List Value} {x:DataW HT × List MemPlace} (h:DataW.trod enc P w base sp held fuel tgs cs=some x) (ty:Nat) :
  ∃ v av l,cs=[v]/\VR μ F w av v/\SlV genQE ty H av l/\(∀ r∈l,mX r.2/\r.1<256)/\l.length<=maxLen :=
 Jq (E:=genQE) (good:=fun z=>mX z.2/\z.1<256) hF hC.gs hC.cg (fun fuel cs x h=>gc hC hP hF h) h
end
section
open Go.ChangeShapes Go.WideShapes
variable {HT:Type} {enc:TypeId × Value->HT} {P:Program} {w:World} {base base':Nat} {sp:Nat->Bool} {held:Bool} {μ:Mu} {F:Nat->Prop} {H:Heap}
theorem open_gens {tgs tg tvs tv ti te:TypeId} (hC:GenTys P tgs tg tv) (hP:RowTys P tvs tv ti te) (hF:∀ c,c<w.heap.size->F c) {r:Reach} {v:Value} {d:DataW HT} {ps:List MemPlace} (hval:Value.okWide P w r base' tgs v) (hd:DataW.Trod enc P w base sp held tgs v d ps) (ty:Nat) :
  ∃ av l,VR μ F w av v/\SlV genQE ty H av l/\(∀ r∈l,mX r.2/\r.1<256)/\l.length<=maxLen:=by
 obtain ⟨a,n,c,rfl⟩:=okWide_slice hC.gs hval
 obtain ⟨fuel,h⟩:=hd
 obtain ⟨v',av,l,e,g⟩:=fX (H:=H) (μ:=μ) hC hP hF h ty
 have e:v'=.slice a n c:=by simpa [Value.cells] using e.symm
 subst e
 exact ⟨av,l,g⟩
end
theorem gm {ty:Nat} {H:Heap} {v:AV} {l:List (Nat × List (Bool × List Nat))} (h:SlV genQE ty H v l) (hb:∀ r∈l,∀ z∈r.2,pC z=false/\Lim z.2):SlV genE ty H v (l.map fun r=>(r.1,r.2.map cU)):=by
 obtain ⟨cells,hr,ht,hc,ha⟩:=h
 refine ⟨cells,hr,ht,by rw [hc,List.length_map]; rfl,fun i a hi=>?_⟩
 rw [List.getElem?_map,Option.map_eq_some_iff] at hi
 obtain ⟨z,hz,rfl⟩:=hi
 obtain ⟨w,h1,h2⟩:=ha i z hz
 exact ⟨w,h1,SlV.int h2 (hb z (List.mem_of_getElem? hz))⟩
end Go.Proofs.YtboamamhcfhanaaGreat.Ev
namespace Go.Proofs.YtboamamhcfhanaaGreat.Lin
set_option linter.all false
def unitC (n:Nat) (k:Int):V:=k :: List.replicate n 0
def hd1 (r:V):Int:=r.headD 0
def eqsOf (l:List (V × Bool)):List V:=(l.filter fun c=>c.2).map fun c=>c.1
def ineqsOf (n:Nat) (l:List (V × Bool)):List V:=unitC n 1 :: (l.filter fun c=>!c.2).map fun c=>c.1
def kindOf (r:V):Nat:=if 0<hd1 r then 3 else 2
def gensP (n:Nat) (l:List (V × Bool)):List (Nat × V) :=
 if (gensR (n+1) (eqsOf l) (ineqsOf n l)).any (fun r=>decide (0<hd1 r)) then
  (gensL (n+1) (eqsOf l) (ineqsOf n l)).map (fun r=>(1,r))++(gensR (n+1) (eqsOf l) (ineqsOf n l)).map fun r=>(kindOf r,r)
 else []
def linesOf (g:List (Nat × V)):List V:=(g.filter fun x=>x.1 == 1).map fun x=>x.2
def raysOf (g:List (Nat × V)):List V:=(g.filter fun x=>!(x.1 == 1)).map fun x=>x.2
def consP (n:Nat) (g:List (Nat × V)):List (V × Bool) :=
 if g.any (fun x=>x.1 == 3) then
  (gensL (n+1) (linesOf g) (raysOf g)).map (fun r=>(r,true))++((gensR (n+1) (linesOf g) (raysOf g)).filter fun r=>!decide (r=unitC n 1)).map fun r=>(r,false)
 else [(unitC n (-1),false)]
def keepsP (c:V × Bool) (g:Nat × V):Bool:=if c.2 || g.1 == 1 then decide (dot c.1 g.2=0) else decide (0<=dot c.1 g.2)
theorem unitC_len (n:Nat) (k:Int):(unitC n k).length=n+1:=by simp [unitC]
theorem xW:∀ (n:Nat) (x:V),dot (List.replicate n 0) x=0
 | 0,x=>by simp [dot]
 | n+1,[]=>by simp [dot]
 | n+1,a :: x=>by
  have:=xW n x
  rw [List.replicate_succ]
  simp [dot] at this ⊢
  exact this
theorem sA {n:Nat} {k:Int} {x:V}:dot (unitC n k) x=k*hd1 x:=by
 cases x with
 | nil=>simp [unitC,dot,hd1]
 | cons a x =>
  have:=xW n x
  simp [unitC,dot,hd1,this]
section
variable {n:Nat} {l:List (V × Bool)}
theorem eqs_len (h:∀ c∈l,c.1.length=n+1):∀ a∈eqsOf l,a.length=n+1:=fun a ha=>by
 obtain ⟨c,hc,rfl⟩:=List.mem_map.1 ha
 exact h c (List.mem_filter.1 hc).1
theorem ineqs_len (h:∀ c∈l,c.1.length=n+1):∀ a∈ineqsOf n l,a.length=n+1:=fun a ha=>by
 rcases List.mem_cons.1 ha with rfl | ha
 ·exact unitC_len n 1
 ·obtain ⟨c,hc,rfl⟩:=List.mem_map.1 ha
  exact h c (List.mem_filter.1 hc).1
theorem mem_eqs {a:V}:a∈eqsOf l ↔ (a,true)∈l:=by
 constructor
 ·intro h
  obtain ⟨⟨r,b⟩,hc,rfl⟩:=List.mem_map.1 h
  obtain ⟨h1,h2⟩:=List.mem_filter.1 hc
  simp only at h2
  subst h2
  exact h1
 ·intro h
  exact List.mem_map.2 ⟨(a,true),List.mem_filter.2 ⟨h,rfl⟩,rfl⟩
theorem mem_ineqs {a:V}:a∈ineqsOf n l ↔ a=unitC n 1\/(a,false)∈l:=by
 unfold ineqsOf
 rw [List.mem_cons]
 refine or_congr Iff.rfl ?_
 constructor
 ·intro h
  obtain ⟨⟨r,b⟩,hc,rfl⟩:=List.mem_map.1 h
  obtain ⟨h1,h2⟩:=List.mem_filter.1 hc
  cases b with
  | false=>exact h1
  | true=>simp at h2
 ·intro h
  exact List.mem_map.2 ⟨(a,false),List.mem_filter.2 ⟨h,rfl⟩,rfl⟩
abbrev nz (n:Nat) (l:List (V × Bool)) (x:V):Prop:=Keep (n+1) (· ∈ eqsOf l) (· ∈ ineqsOf n l) x
theorem keepP_iff {x:V}:nz n l x ↔ x.length=n+1/\0<=hd1 x/\∀ c∈l,(c.2=true->dot c.1 x=0)/\(c.2=false->0<=dot c.1 x):=by
 constructor
 ·intro h
  have h1:=h.ge (unitC n 1) (mem_ineqs.2 (.inl rfl))
  rw [sA] at h1
  refine ⟨h.len,by omega,fun ⟨r,b⟩ hc=>⟨fun hb=>?_,fun hb=>?_⟩⟩
  ·simp only at hb; subst hb; exact h.eq r (mem_eqs.2 hc)
  ·simp only at hb; subst hb; exact h.ge r (mem_ineqs.2 (.inr hc))
 ·rintro ⟨h1,h2,h3⟩
  refine ⟨h1,fun a ha=>(h3 _ (mem_eqs.1 ha)).1 rfl,fun a ha=>?_⟩
  rcases mem_ineqs.1 ha with rfl | ha
  ·rw [sA]; omega
  ·exact (h3 _ ha).2 rfl
theorem Nc (h:∀ c∈l,c.1.length=n+1) {r:V} (hr:r∈gensR (n+1) (eqsOf l) (ineqsOf n l)):nz n l r:=(gens_told (eqs_len h) (ineqs_len h)).dd.keep r hr
def KC (n:Nat) (l:List (V × Bool)) (c:V × Bool):Prop:=∀ x,nz n l x->(c.2=true->dot c.1 x=0)/\0<=dot c.1 x
theorem xC {c:V × Bool} (hc:c∈l):KC n l c:=fun x hx=>by
 have h1:=(keepP_iff.1 hx).2.2 c hc
 refine ⟨h1.1,?_⟩
 cases hb:c.2 with
 | false=>exact h1.2 hb
 | true=>rw [h1.1 hb]; exact Int.le_refl _
theorem zg {c:V × Bool} {g:Nat × V} (hc:KC n l c) (hg:nz n l g.2) (hl:g.1=1->nz n l (scl (-1) g.2)):keepsP c g=true:=by
 have h1:=hc _ hg
 unfold keepsP
 cases hb:c.2 with
 | true=>simp [h1.1 hb]
 | false =>
  by_cases hk:g.1=1
  ·have h2:=(hc _ (hl hk)).2
   rw [dot_scl] at h2
   simp [hk]; omega
  ·simp [hk]; exact h1.2
theorem Dw (r:V):(kindOf r == 1)=false:=by unfold kindOf; split <;> rfl
theorem vV (hs:(gensR (n+1) (eqsOf l) (ineqsOf n l)).any (fun r=>decide (0<hd1 r))=true) :
  linesOf (gensP n l)=gensL (n+1) (eqsOf l) (ineqsOf n l)/\raysOf (gensP n l)=gensR (n+1) (eqsOf l) (ineqsOf n l)/\(gensP n l).any (fun x=>x.1 == 3)=true:=by
 unfold gensP
 rw [if_pos hs]
 refine ⟨?_,?_,?_⟩
 ·unfold linesOf
  rw [List.filter_append,List.filter_eq_self.2,List.filter_eq_nil_iff.2,List.append_nil,List.map_map]
  ·exact List.map_id _
  ·intro x hx
   obtain ⟨r,-,rfl⟩:=List.mem_map.1 hx
   simp [Dw]
  ·intro x hx
   obtain ⟨r,-,rfl⟩:=List.mem_map.1 hx
   rfl
 ·unfold raysOf
  rw [List.filter_append,List.filter_eq_nil_iff.2,List.filter_eq_self.2,List.nil_append,List.map_map]
  ·exact List.map_id _
  ·intro x hx
   obtain ⟨r,-,rfl⟩:=List.mem_map.1 hx
   simp [Dw]
  ·intro x hx
   obtain ⟨r,-,rfl⟩:=List.mem_map.1 hx
   simp
 ·rw [List.any_eq_true] at hs ⊢
  obtain ⟨r,hr,h0⟩:=hs
  refine ⟨(kindOf r,r),List.mem_append_right _ (List.mem_map.2 ⟨r,hr,rfl⟩),?_⟩
  have h0:0<hd1 r:=of_decide_eq_true h0
  simp [kindOf,h0]
theorem FD {g:List (Nat × V)} (h3:g.any (fun x=>x.1 == 3)=true) (x:V):nz n (consP n g) x ↔ 0<=hd1 x/\Keep (n+1) (· ∈ gensL (n+1) (linesOf g) (raysOf g)) (· ∈ gensR (n+1) (linesOf g) (raysOf g)) x:=by
 rw [keepP_iff]
 unfold consP
 rw [if_pos h3]
 constructor
 ·rintro ⟨q1,q2,q3⟩
  refine ⟨q2,q1,fun a ha=>(q3 (a,true) (List.mem_append_left _ (List.mem_map.2 ⟨a,ha,rfl⟩))).1 rfl,fun b hb=>?_⟩
  by_cases hu:b=unitC n 1
  ·rw [hu,sA]; omega
  ·exact (q3 (b,false) (List.mem_append_right _ (List.mem_map.2 ⟨b,List.mem_filter.2 ⟨hb,by simp [hu]⟩,rfl⟩))).2 rfl
 ·rintro ⟨q2,hk⟩
  refine ⟨hk.len,q2,fun c hc=>?_⟩
  rcases List.mem_append.1 hc with hc | hc
  ·obtain ⟨a,ha,rfl⟩:=List.mem_map.1 hc
   exact ⟨fun _=>hk.eq a ha,fun e=>by cases e⟩
  ·obtain ⟨b,hb,rfl⟩:=List.mem_map.1 hc
   exact ⟨(fun e=>by cases e),fun _=>hk.ge b (List.mem_filter.1 hb).1⟩
theorem On {g:List (Nat × V)} (hg:∀ x∈g,x.2.length=n+1):∀ c∈consP n g,c.1.length=n+1:=by
 have e1:∀ a∈linesOf g,a.length=n+1:=fun a ha=>by obtain ⟨x,hx,rfl⟩:=List.mem_map.1 ha; exact hg x (List.mem_filter.1 hx).1
 have e2:∀ a∈raysOf g,a.length=n+1:=fun a ha=>by obtain ⟨x,hx,rfl⟩:=List.mem_map.1 ha; exact hg x (List.mem_filter.1 hx).1
 intro c hc
 unfold consP at hc
 split at hc
 ·rcases List.mem_append.1 hc with hc | hc
  ·obtain ⟨a,ha,rfl⟩:=List.mem_map.1 hc
   exact Ol e1 e2 a ha
  ·obtain ⟨b,hb,rfl⟩:=List.mem_map.1 hc
   exact Ok e1 e2 b (List.mem_filter.1 hb).1
 ·rw [List.mem_singleton] at hc
  subst hc
  exact unitC_len n (-1)
theorem Hk (h:∀ c∈l,c.1.length=n+1) (hs:(gensR (n+1) (eqsOf l) (ineqsOf n l)).any (fun r=>decide (0<hd1 r))=true) (x:V):nz n (consP n (gensP n l)) x ↔ nz n l x:=by
 obtain ⟨p1,p2,p3⟩:=vV hs
 rw [FD p3,p1,p2]
 have t1:=gens_told (eqs_len h) (ineqs_len h)
 have t2:=gens_told t1.dd.lenL t1.dd.lenR
 have hd:=Fw (eqs_len h) (ineqs_len h) t1.dd t2.dd x
 constructor
 ·rintro ⟨-,hk⟩; exact hd.2 hk
 ·intro hk; exact ⟨(keepP_iff.1 hk).2.1,hd.1 hk⟩
theorem none_empty:gensP n [(unitC n (-1),false)]=[]:=by
 have hl:∀ c∈[(unitC n (-1),false)],c.1.length=n+1:=fun c hc=>by rw [List.mem_singleton] at hc; subst hc; exact unitC_len n (-1)
 unfold gensP
 rw [if_neg]
 intro hs
 rw [List.any_eq_true] at hs
 obtain ⟨r,hr,h0⟩:=hs
 have h0:0<hd1 r:=of_decide_eq_true h0
 have:=((keepP_iff.1 (Nc hl hr)).2.2 _ (List.mem_singleton.2 rfl)).2 rfl
 rw [sA] at this
 omega
def ValidG (n:Nat) (g:List (Nat × V)):Prop:=∀ x∈g,x.2.length=n+1/\(x.1=3->0<hd1 x.2)/\(x.1≠3->hd1 x.2=0)
theorem mem_lines {g:List (Nat × V)} {r:V}:r∈linesOf g ↔ (1,r)∈g:=by
 constructor
 ·intro h
  obtain ⟨⟨k,a⟩,hc,rfl⟩:=List.mem_map.1 h
  obtain ⟨h1,h2⟩:=List.mem_filter.1 hc
  have h2:k=1:=by simpa using h2
  subst h2
  exact h1
 ·intro h
  exact List.mem_map.2 ⟨(1,r),List.mem_filter.2 ⟨h,rfl⟩,rfl⟩
theorem mem_rays {g:List (Nat × V)} {r:V}:r∈raysOf g ↔ ∃ k,k≠1/\(k,r)∈g:=by
 constructor
 ·intro h
  obtain ⟨⟨k,a⟩,hc,rfl⟩:=List.mem_map.1 h
  obtain ⟨h1,h2⟩:=List.mem_filter.1 hc
  exact ⟨k,by simpa using h2,h1⟩
 ·rintro ⟨k,hk,h⟩
  exact List.mem_map.2 ⟨(k,r),List.mem_filter.2 ⟨h,by simpa using hk⟩,rfl⟩
theorem QL {g:List (Nat × V)} (hg:ValidG n g) (h3:g.any (fun x=>x.1 == 3)=true) {x:Nat × V} (hx:x∈g):nz n (consP n g) x.2/\(x.1=1->nz n (consP n g) (scl (-1) x.2)):=by
 have e1:∀ a∈linesOf g,a.length=n+1:=fun a ha=>(hg _ (mem_lines.1 ha)).1
 have e2:∀ a∈raysOf g,a.length=n+1:=fun a ha=>by obtain ⟨k,-,h⟩:=mem_rays.1 ha; exact (hg _ h).1
 have t:=gens_told e1 e2
 obtain ⟨h1,h2,h4⟩:=hg x hx
 rw [FD h3,FD h3]
 obtain ⟨k,r⟩:=x
 by_cases hk:k=1
 ·subst hk
  have hm:=mem_lines.2 hx
  have h5:hd1 r=0:=h4 (show ¬ (1:Nat)=3 by omega)
  have h6:hd1 (scl (-1) r)=0:=by
   cases r with
   | nil=>rfl
   | cons a r=>simp [scl,hd1] at h5 ⊢; exact h5
  refine ⟨⟨by rw [h5]; exact Int.le_refl _,⟨h1,fun a ha=>?_,fun b hb=>?_⟩⟩,fun _=>⟨by rw [h6]; exact Int.le_refl _,⟨ah h1,fun a ha=>?_,fun b hb=>?_⟩⟩⟩
  ·rw [dot_comm]; exact t.dd.lineE a ha r hm
  ·rw [dot_comm,(t.dd.keep b hb).eq r hm]; exact Int.le_refl _
  ·rw [dot_scl,dot_comm,t.dd.lineE a ha r hm]; rfl
  ·rw [dot_scl,dot_comm,(t.dd.keep b hb).eq r hm]; exact Int.le_refl _
 ·have hm:=mem_rays.2 ⟨k,hk,hx⟩
  refine ⟨⟨?_,⟨h1,fun a ha=>?_,fun b hb=>?_⟩⟩,fun e=>absurd e hk⟩
  ·by_cases h:k=3
   ·have:0<hd1 r:=h2 h
    show 0<=hd1 r
    omega
   ·have:hd1 r=0:=h4 h
    show 0<=hd1 r
    omega
  ·rw [dot_comm]; exact t.dd.lineI a ha r hm
  ·rw [dot_comm]; exact (t.dd.keep b hb).ge r hm
theorem poly_spans {g:List (Nat × V)} (hg:ValidG n g) (hne:gensP n (consP n g)≠[]) {x:Nat × V} (hx:x∈g) {c:V × Bool} (hc:c∈consP n (gensP n (consP n g))):keepsP c x=true:=by
 have h3:g.any (fun x=>x.1 == 3)=true:=by
  cases h3:g.any (fun x=>x.1 == 3) with
  | true=>rfl
  | false =>
   refine absurd ?_ hne
   unfold consP
   rw [if_neg (by rw [h3]; decide)]
   exact none_empty
 have hl:=On (n:=n) (g:=g) fun x hx=>(hg x hx).1
 obtain ⟨k1,k2⟩:=QL hg h3 hx
 refine zg (l:=consP n g) ?_ k1 k2
 have hs:(gensR (n+1) (eqsOf (consP n g)) (ineqsOf n (consP n g))).any (fun r=>decide (0<hd1 r))=true:=by
  cases hs:(gensR (n+1) (eqsOf (consP n g)) (ineqsOf n (consP n g))).any (fun r=>decide (0<hd1 r)) with
  | true=>rfl
  | false=>exact absurd (by unfold gensP; rw [if_neg (by rw [hs]; decide)]) hne
 exact fun y hy=>xC hc y ((Hk hl hs y).2 hy)
theorem poly_mid {g:List (Nat × V)} (hg:ValidG n g) {a b:V} (ha:(3,a)∈g) (hb:(3,b)∈g):consP n ((3,mix (hd1 b) a (hd1 a) b) :: g)=consP n g:=by
 obtain ⟨a1',a2',-⟩:=hg _ ha
 obtain ⟨b1',b2',-⟩:=hg _ hb
 have a1:a.length=n+1:=a1'
 have b1:b.length=n+1:=b1'
 have a2:0<hd1 a:=a2' rfl
 have b2:0<hd1 b:=b2' rfl
 have e1:∀ x∈linesOf g,x.length=n+1:=fun x hx=>(hg _ (mem_lines.1 hx)).1
 have e2:∀ x∈raysOf g,x.length=n+1:=fun x hx=>by obtain ⟨k,-,h⟩:=mem_rays.1 hx; exact (hg _ h).1
 have ma:=mem_rays.2 ⟨3,by omega,ha⟩
 have mb:=mem_rays.2 ⟨3,by omega,hb⟩
 have hm:(mix (hd1 b) a (hd1 a) b).length=n+1:=mix_length a1 b1
 have l1:linesOf ((3,mix (hd1 b) a (hd1 a) b) :: g)=linesOf g:=rfl
 have l2:raysOf ((3,mix (hd1 b) a (hd1 a) b) :: g)=mix (hd1 b) a (hd1 a) b :: raysOf g:=rfl
 have h3:g.any (fun x=>x.1 == 3)=true:=List.any_eq_true.2 ⟨_,ha,rfl⟩
 have h3':((3,mix (hd1 b) a (hd1 a) b) :: g).any (fun x=>x.1 == 3)=true:=by simp
 obtain ⟨q1,q2⟩:=N9 (gens_told (d:=n+1) (eqs:=linesOf g) (ineqs:=mix (hd1 b) a (hd1 a) b :: raysOf g) e1 (fun x hx=>by
  rcases List.mem_cons.1 hx with rfl | hx
  ·exact hm
  ·exact e2 x hx)) (gens_told e1 e2) fun y=>⟨fun h=>⟨h.len,h.eq,fun r hr=>h.ge r (List.mem_cons_of_mem _ hr)⟩,fun h=>⟨h.len,h.eq,fun r hr=>by
   rcases List.mem_cons.1 hr with rfl | hr
   ·rw [dot_comm,bj _ _ _ (a1.trans b1.symm),dot_comm y,dot_comm y]
    have:=Int.mul_nonneg (Int.le_of_lt b2) (h.ge a ma)
    have:=Int.mul_nonneg (Int.le_of_lt a2) (h.ge b mb)
    omega
   ·exact h.ge r hr⟩⟩
 unfold consP
 rw [if_pos h3,if_pos h3',l1,l2,q1,q2]
end
end Go.Proofs.YtboamamhcfhanaaGreat.Lin
namespace Go.Proofs.YtboamamhcfhanaaGreat.Ev
open Go Nn
set_option linter.all false
section
variable {tab:Nat->Option aq} {H:Heap} {s:AV}
theorem xz (C:Code tab) (hw:Wf H) {α:Type} {E:eU α} {ty fi:Nat} {first caps:List AV} {l:List α} (hE:E.sz=2) (hs:SlV E ty H s l) (hbig:l.length<4611686018427387904) (p:α->Bool)
  (hf:∀ a∈l,∀ H' cs,Kp H H'->E.R H' cs a->Ans tab (.fn fi (first++[.agg cs]++caps)) H' fun v H2=>v=.bool (p a)/\Kp H' H2) :
  Ans tab (.fn bS [s,.fn (.func fi) first caps]) H fun v H'=>v=.int .i64 (mf p l)/\Kp H H':=by
 refine ca C.slices_IndexFunc_Sl_api_Con_api_Con (by decide) fun T hl g0 g1=>?_
 refine zW (bg hl g0 g1 hs.lenV) ?_
 refine ak H [] (fun j _ _=>∀ k (h:k<l.length),k<j->p l[k]=false) (a:=0) (N:=l.length) rfl (by refine zW (aC hl g0 g1) ?_; rfl) (zV (aC hl g0 g1)) (Nat.zero_le _) (by omega) (by simp only [List.length_set,hl]; rfl) rfl (fun _ _ _ _ h=>h) zK (fun k _ h=>by omega) ?_ ?_
 ·intro j T1 H1 _ hj hl1 hi1 hs1 hk1 hP
  have w1:=hk1.wf
  have le_hk1:=hk1.le
  have t0:ae T1 0=s:=(hs1.at_ 0 (by decide)).trans (zV (az hl g0))
  have t1:ae T1 1=.fn (.func fi) first caps:=(hs1.at_ 1 (by decide)).trans (zV (bg hl g0 g1 g1))
  obtain ⟨cs,hr,hlen,-,hld⟩:=(hs.mono hk1.sub).at (List.getElem?_eq_getElem hj)
  have hix:=SlV.idx hs .i64 j hj
  rw [hE] at hld hix
  simp only [List.length_set,hl] at hl1
  refine zW (fW hl1 t0 t1 hi1 hix hld) ?_
  refine AnsH.eq (hf _ (List.getElem_mem hj) _ cs zK (E.mono ((Kp.sub (H:=H1) zK).t _) hr)) fun H2 hk2=>?_
  obtain ⟨k2,_,_⟩:=zT H zK hk2
  cases hp:p l[j] with
  | true =>
   refine zW hl1 ?_
   exact ⟨by rw [sq hj hP hp],zK⟩
  | false =>
   refine zW hl1 ?_
   refine ⟨zK,fun k h hk=>?_⟩
   by_cases e:k=j
   ·subst e; exact hp
   ·exact hP k h (by omega)
 ·intro T1 H1 hl1 hs1 hk1 hP
  simp only [List.length_set,hl] at hl1
  refine zW hl1 ?_
  exact ⟨by rw [qC fun k h=>hP k h h],zK⟩
theorem mr (C:Code tab) (hw:Wf H) {α:Type} {E:eU α} {ty fi:Nat} {first caps:List AV} {l:List α} (hE:E.sz=2) (hs:SlV E ty H s l) (hbig:l.length<4611686018427387904) (p:α->Bool)
  (hf:∀ a∈l,∀ H' cs,Kp H H'->E.R H' cs a->Ans tab (.fn fi (first++[.agg cs]++caps)) H' fun v H2=>v=.bool (p a)/\Kp H' H2) :
  Ans tab (.fn bD [s,.fn (.func fi) first caps]) H fun v H'=>v=.bool (l.any p)/\Kp H H':=by
 refine ca C.slices_ContainsFunc_Sl_api_Con_api_Con (by decide) fun T hl g0 g1=>?_
 refine zW (aC hl g0 g1) ?_
 refine AnsH.eq (xz C zF hE (hs.mono (Kp.sub (H:=H) zK)) hbig p fun a ha H' cs hk hr=>hf a ha H' cs (Kp.trans (H:=H) zK hk) hr) fun H2 hk2=>?_
 obtain ⟨k2,_,_⟩:=zT H zK hk2
 refine zW (aC hl g0 g1) ?_
 exact ⟨by rw [sr],zK⟩
theorem N4 (C:Code tab) (hw:Wf H) {α:Type} {E:eU α} {ty fi:Nat} {first caps:List AV} {l:List α} (hE:E.sz=2) (hs:SlV E ty H s l) (hbig:l.length<4611686018427387904) (p:α->Bool)
  (hf:∀ a∈l,∀ H' cs,Kp H H'->E.R H' cs a->Ans tab (.fn fi (first++[.agg cs]++caps)) H' fun v H2=>v=.bool (p a)/\Kp H' H2) :
  Ans tab (.fn cL [s,.fn (.func fi) first caps]) H fun v H'=>v=.int .i64 (mf p l)/\Kp H H':=by
 refine ca C.slices_IndexFunc_Sl_api_Gen_api_Gen (by decide) fun T hl g0 g1=>?_
 refine zW (bg hl g0 g1 hs.lenV) ?_
 refine ak H [] (fun j _ _=>∀ k (h:k<l.length),k<j->p l[k]=false) (a:=0) (N:=l.length) rfl (by refine zW (aC hl g0 g1) ?_; rfl) (zV (aC hl g0 g1)) (Nat.zero_le _) (by omega) (by simp only [List.length_set,hl]; rfl) rfl (fun _ _ _ _ h=>h) zK (fun k _ h=>by omega) ?_ ?_
 ·intro j T1 H1 _ hj hl1 hi1 hs1 hk1 hP
  have w1:=hk1.wf
  have le_hk1:=hk1.le
  have t0:ae T1 0=s:=(hs1.at_ 0 (by decide)).trans (zV (az hl g0))
  have t1:ae T1 1=.fn (.func fi) first caps:=(hs1.at_ 1 (by decide)).trans (zV (bg hl g0 g1 g1))
  obtain ⟨cs,hr,hlen,-,hld⟩:=(hs.mono hk1.sub).at (List.getElem?_eq_getElem hj)
  have hix:=SlV.idx hs .i64 j hj
  rw [hE] at hld hix
  simp only [List.length_set,hl] at hl1
  refine zW (fW hl1 t0 t1 hi1 hix hld) ?_
  refine AnsH.eq (hf _ (List.getElem_mem hj) _ cs zK (E.mono ((Kp.sub (H:=H1) zK).t _) hr)) fun H2 hk2=>?_
  obtain ⟨k2,_,_⟩:=zT H zK hk2
  cases hp:p l[j] with
  | true =>
   refine zW hl1 ?_
   exact ⟨by rw [sq hj hP hp],zK⟩
  | false =>
   refine zW hl1 ?_
   refine ⟨zK,fun k h hk=>?_⟩
   by_cases e:k=j
   ·subst e; exact hp
   ·exact hP k h (by omega)
 ·intro T1 H1 hl1 hs1 hk1 hP
  simp only [List.length_set,hl] at hl1
  refine zW hl1 ?_
  exact ⟨by rw [qC fun k h=>hP k h h],zK⟩
theorem Qo (C:Code tab) (hw:Wf H) {α:Type} {E:eU α} {ty fi:Nat} {first caps:List AV} {l:List α} (hE:E.sz=2) (hs:SlV E ty H s l) (hbig:l.length<4611686018427387904) (p:α->Bool)
  (hf:∀ a∈l,∀ H' cs,Kp H H'->E.R H' cs a->Ans tab (.fn fi (first++[.agg cs]++caps)) H' fun v H2=>v=.bool (p a)/\Kp H' H2) :
  Ans tab (.fn cx [s,.fn (.func fi) first caps]) H fun v H'=>v=.bool (l.any p)/\Kp H H':=by
 refine ca C.slices_ContainsFunc_Sl_api_Gen_api_Gen (by decide) fun T hl g0 g1=>?_
 refine zW (aC hl g0 g1) ?_
 refine AnsH.eq (N4 C zF hE (hs.mono (Kp.sub (H:=H) zK)) hbig p fun a ha H' cs hk hr=>hf a ha H' cs (Kp.trans (H:=H) zK hk) hr) fun H2 hk2=>?_
 obtain ⟨k2,_,_⟩:=zT H zK hk2
 refine zW (aC hl g0 g1) ?_
 exact ⟨by rw [sr],zK⟩
theorem dual_first (C:Code tab) (hw:Wf H) {l:List Int} (hs:RowV H s l) (hz:∀ z∈l,OV z):Ans tab (.fn mM [s]) H fun v H'=>v=.int .i64 (gI (Lin.hd1 l))/\Kp H H':=by
 refine OD C.dual_first (by decide) fun T hl g0=>?_
 cases l with
 | nil =>
  have ls:lenV s=some (.int .i64 0):=hs.lenV
  refine zW (aC hl g0 ls) ?_
  exact ⟨rfl,zK⟩
 | cons a l =>
  have ls:lenV s=some (.int .i64 ((l.length+1:Nat):Int)):=hs.lenV
  have hne:¬ ((l.length+1:Nat):Int)=0:=by omega
  have hpos:0<(a :: l).length:=by simp
  obtain ⟨w,hn,hld,-,-⟩:=js hs hpos
  have hix:Ox 2 s (.int .i64 0)=some (al s 0):=SlV.idx hs .i64 0 hpos
  have hld:aZ H (some 2) (al s 0)=some (.agg [.bool (decide (a<0)),w]):=hld
  have hn:bZ H w a.natAbs:=hn
  refine zW (fW hl g0 ls hne hix hld) ?_
  refine AnsH.eq (whole_Sign C (x:=a) zF ⟨w,rfl,hn.mono (Kp.sub (H:=H) zK)⟩ (hz a (by simp))) fun H2 hk2=>?_
  obtain ⟨k2,_,_⟩:=zT H zK hk2
  refine zW (az hl g0) ?_
  exact ⟨rfl,zK⟩
theorem dual_conRow (C:Code tab) (hw:Wf H) {v:AV} {b:Bool} (ov:One v):Ans tab (.fn dJ [.agg [v,.bool b]]) H fun x H'=>x=v/\Kp H H':=by
 have hbv:iq (.agg [v,.bool b])=some [v,.bool b]:=by simp [iq,AV.cells,ov.2]; rfl
 refine OD C.dual_conRow (by decide) fun T hl g0=>?_
 refine zW (aC hl g0 hbv) ?_
 exact zK
theorem dual_genRow (C:Code tab) (hw:Wf H) {v:AV} {k:Int} (ov:One v):Ans tab (.fn lD [.agg [.int .u8 k,v]]) H fun x H'=>x=v/\Kp H H':=by
 have hbv:iq (.agg [.int .u8 k,v])=some [.int .u8 k,v]:=by simp [iq,AV.cells,ov.2]; rfl
 refine OD C.dual_genRow (by decide) fun T hl g0=>?_
 refine zW (aC hl g0 hbv) ?_
 exact zK
theorem dual_none (C:Code tab) (hw:Wf H) {v:AV} {b:Bool} (ov:One v):Ans tab (.fn jf [.agg [v,.bool b]]) H fun x H'=>x=.bool false/\Kp H H':=by
 have hbv:iq (.agg [v,.bool b])=some [v,.bool b]:=by simp [iq,AV.cells,ov.2]; rfl
 refine OD C.dual_none (by decide) fun T hl g0=>?_
 refine zW (aC hl g0 hbv) ?_
 exact zK
end
section
variable {tab:Nat->Option aq} {H:Heap} {s:AV}
theorem BT (x:Int):0<=gI x ↔ 0<=x:=by unfold gI; split <;> (try split) <;> omega
set_option maxHeartbeats 1000000 in
theorem kI (C:Code tab) (hw:Wf H) {v w:AV} {b:Bool} {k:Nat} {a r:List Int} {e f:Nat} (ha:RowV H v a) (hr:RowV H w r) (har:a.length=r.length) (h64:a.length<=64) (hae:∀ z∈a,Bt e z) (hrf:∀ z∈r,Bt f z) (hbt:e+f+7<=8796093022208) :
  Ans tab (.fn cW [.agg [v,.bool b],.agg [.int .u8 (k:Int),w]]) H fun x H'=>x=.bool (Lin.keepsP (a,b) (k,r))/\Kp H H':=by
 have ov:=ha.one
 have ow:=hr.one
 have hb1:iq (.agg [v,.bool b])=some [v,.bool b]:=by simp [iq,AV.cells,ov.2]; rfl
 have hb2:iq (.agg [.int .u8 (k:Int),w])=some [.int .u8 (k:Int),w]:=by simp [iq,AV.cells,ow.2]; rfl
 refine ca C.facetroomlaw21_keeps (by decide) fun T hl g0 g1=>?_
 refine zW (cJ hl g0 g1 hb1 hb2) ?_
 refine AnsH.use (qc C zF (ha.mono (Kp.sub (H:=H) zK)) (hr.mono (Kp.sub (H:=H) zK)) har h64 hae hrf hbt) ?_
 rintro x H2 ⟨q,rfl,⟨p,rfl,hp⟩,hk2⟩
 obtain ⟨k2,_,w2⟩:=zT H zK hk2
 have d1:H2.get H.next=some (.cells [v,.bool b] cA true):=hk2.get (dC)
 have d2:H2.get (H.next+1)=some (.cells [.int .u8 (k:Int),w] t_api_Gen true):=hk2.get (dC)
 have op:=hp.one
 refine zW (cJ hl g0 g1 d1 d2) ?_
 have n2:H.next+14<=H2.next:=hk2.le
 have fr:H2.get (H.next+11)=none:=hk2.free (show H.next+11<H.next+14 by omega) (by rw [au (by omega),au (by omega)]; exact hw.fresh (b:=H.next+11) (by omega))
 obtain ⟨G,hG⟩:∃ G,G=((H2.up 7).put (H.next+11) (.cells [.bool false,.nilSl] aa true)).put (H.next+11) (.cells [.bool (decide (Lin.dot a r<0)),p] aa true):=⟨_,rfl⟩
 rw [<- hG]
 have kG:Kp H G:=by rw [hG]; exact zK
 have sG:∀ c x,c≠H.next+11->H2.get c=some x->G.get c=some x:=fun c x hc hx=>by rw [hG,au hc,au hc]; exact hx
 have hpG:bZ G p (Lin.dot a r).natAbs:=by
  rw [hG]
  exact hp.mono (((Sub.bump H2 7).put fr _).put fr _)
 refine AnsH.eq (whole_Sign C (x:=Lin.dot a r) kG.wf ⟨p,rfl,hpG⟩ ((mY hae hrf har h64).sm hbt)) fun H3 hk3=>?_
 have k3:Kp H H3:=kG.trans hk3
 have le_k3:=k3.le
 have w3:=k3.wf
 have d1':=hk3.get (sG _ _ (by omega) d1)
 have d2':=hk3.get (sG _ _ (by omega) d2)
 cases b with
 | true =>
  refine zW (cJ hl g0 g1 d1' d2') ?_
  refine ⟨?_,zK⟩
  congr 1
  rw [Bool.eq_iff_iff]
  simp [Lin.keepsP,gq]
 | false =>
  by_cases hk1:k=1
  ·subst hk1
   have d2':H3.get (H.next+1)=some (.cells [.int .u8 1,w] t_api_Gen true):=d2'
   refine zW (cJ hl g0 g1 d1' d2') ?_
   refine ⟨?_,zK⟩
   congr 1
   rw [Bool.eq_iff_iff]
   simp [Lin.keepsP,gq]
  ·have hk2':¬ (k:Int)=1:=by omega
   refine zW (fW hl g0 g1 d1' d2' hk2') ?_
   refine ⟨?_,zK⟩
   congr 1
   rw [Bool.eq_iff_iff]
   simp [Lin.keepsP,BT,hk1]
end
section
variable {tab:Nat->Option aq} {H:Heap} {s:AV}
theorem dual_unit (C:Code tab) (hw:Wf H) {n:Nat} {k:Int} (hn:n<=60) (hk1 : -9223372036854775808<=k) (hk2:k<9223372036854775808) :
  Ans tab (.fn oi [.int .i64 (n:Int),.int .i64 k]) H fun v H'=>RowV H' v (Lin.unitC n k)/\Kp H H':=by
 obtain ⟨cells,hcells⟩:∃ cells,cells=(List.replicate (n+1) [AV.bool false,AV.nilSl]).flatten:=⟨_,rfl⟩
 have hmk:∀ H':Heap,E3 H' (H.next+3) aa 2 32 [.bool false,.nilSl] (.int .i64 ((n+1:Nat):Int)) (.int .i64 ((n+1:Nat):Int))=some (.own (H.next+3) 0 (n+1) (n+1) 2 true,H'.put (H.next+3) (.cells cells aa true)):=fun H'=>by rw [hcells]; exact iZ _ _ _ _ _ _ _ _ _ (by omega) (by omega) rfl
 have ej:IntKind.i64.wrap ((n:Int)+1)=((n+1:Nat):Int):=by rw [wrap_i64] <;> omega
 refine ca C.dual_unit (by decide) fun T hl g0 g1=>?_
 refine zW (cJ hl g0 g1 ej hmk) ?_
 refine AnsH.use (whole_Of C (n:=k) zF hk1 hk2) ?_
 rintro v H2 ⟨⟨w,rfl,hn2⟩,hk2⟩
 obtain ⟨k2,_,w2⟩:=zT H zK hk2
 have ow:=hn2.one
 have hb2:=hk2.get (b:=H.next+3) (e:=.cells cells aa true) (dC)
 have lt2:=w2 _ _ hb2
 have hclen:cells.length=(n+1)*2:=by rw [hcells]; simp
 have hst:By (some (.cells cells aa true)) 2 0 (.agg [.bool (decide (k<0)),w])=some (.cells (cells.take 0++[.bool (decide (k<0)),w]++cells.drop (0+2)) aa true):=i9 (DG (aF _) ow) (by omega)
 have hio:Ox 2 (.own (H.next+3) 0 (n+1) (n+1) 2 true) (.int .i64 0)=some (.ptr (H.next+3) 0):=mU (j:=0) (by omega)
 obtain ⟨cells2,hc2⟩:∃ c,c=cells.take 0++[.bool (decide (k<0)),w]++cells.drop (0+2):=⟨_,rfl⟩
 rw [<- hc2] at hst
 have hz:intE.R H2 [.bool false,.nilSl] 0:=⟨.nilSl,by simp,dQ H2⟩
 have hcl:Cells intE H2 cells (List.replicate (n+1) 0):=by rw [hcells]; exact dD hz _
 have hcl2:Cells intE H2 cells2 ((List.replicate (n+1) 0).set 0 k):=by rw [hc2]; exact hcl.set (i:=0) (by simp) ⟨w,rfl,hn2⟩
 have m3:NoTy [ad] H2 (H.next+3):=NoTy.ty hb2 (by decide)
 refine zW (fW hl g0 g1 hio hb2 hst) ?_
 refine ⟨?_,zK⟩
 have e:(List.replicate (n+1) (0:Int)).set 0 k=Lin.unitC n k:=by rw [List.replicate_succ]; rfl
 rw [e] at hcl2
 obtain ⟨Hx,hHx⟩:∃ Hx,Hx=(H2.up 2).put (H.next+3) (.cells cells2 aa true):=⟨_,rfl⟩
 have hclx:Cells intE Hx cells2 (Lin.unitC n k):=by rw [hHx]; exact Cells.mono (E:=intE) zS hcl2
 have:Own intE aa H Hx (H.next+3) true (.own (H.next+3) 0 (n+1) (n+1) 2 true) (Lin.unitC n k):=⟨cells2,by rw [Lin.unitC_len]; rfl,by rw [hHx]; exact aA _ _ _,hclx,by omega⟩
 rw [<- hHx]
 exact this.sl
abbrev sQ:=List (Bool × List Nat) × Bool
abbrev Of:=Nat × List (Bool × List Nat)
theorem wA (C:Code tab) (hw:Wf H) {cs:List AV} {c:sQ} {b1 b2:Nat} {r1 r2:Bool} (hc:conQE.R H cs c) (hbig:xq c.1)
  (h1:H.get b1=some (.cells [.fn (.func dJ) [] []] dY r1)) (h2:H.get b2=some (.cells [.fn (.func jf) [] []] px r2)) :
  Ans tab (.fn OP [.agg cs,.ptr b1 0,.ptr b2 0]) H fun v H'=>v=.bool (!yT c.1)/\Kp H H':=by
 obtain ⟨v,rfl,hv⟩:=hc
 have ov:=hv.one
 have lt1:=hw _ _ h1
 have lt2:=hw _ _ h2
 have hbv:iq (.agg [v,.bool c.2])=some [v,.bool c.2]:=by simp [iq,AV.cells,ov.2]; rfl
 refine Qg C.dual_checked_api_Con_f1 (by decide) fun T hl g0 g1 g2=>?_
 refine zW (jm hl g0 g1 g2 hbv h1 h2) ?_
 refine AnsH.eq (dual_conRow C zF ov) fun H2 hk2=>?_
 obtain ⟨k2,_,w2⟩:=zT H zK hk2
 have d0:=hk2.get (b:=H.next) (e:=.cells [v,.bool c.2] cA true) (dC)
 refine zW (bg hl g0 g1 g2) ?_
 refine AnsH.eq (vec_Check C zF (hv.mono (Kp.sub (H:=H) zK)) hbig) fun H3 hk3=>?_
 obtain ⟨k3,_,w3⟩:=zT H zK hk3
 have d3:=hk3.get d0
 have e2:=k3.get h2
 cases hok:yT c.1 with
 | false =>
  refine zW (bg hl g0 g1 g2) ?_
  exact zK
 | true =>
  refine zW (jm hl g0 g1 g2 d3 e2 g2) ?_
  refine AnsH.eq (dual_none C zF ov) fun H4 hk4=>?_
  obtain ⟨k4,_,_⟩:=zT H zK hk4
  refine zW (bg hl g0 g1 g2) ?_
  exact zK
theorem wz (C:Code tab) (hw:Wf H) {cs:List AV} {c:sQ} {n:Int} {b1 b2:Nat} {r1 r2:Bool} (hc:conQE.R H cs c) (hn:0<=n/\n<=1000)
  (h1:H.get b1=some (.cells [.fn (.func dJ) [] []] dY r1)) (h2:H.get b2=some (.cells [.int .i64 n] fL r2)) :
  Ans tab (.fn dz [.agg cs,.ptr b1 0,.ptr b2 0]) H fun v H'=>v=.bool (decide ((c.1.length:Int)≠n+1))/\Kp H H':=by
 obtain ⟨v,rfl,hv⟩:=hc
 have ov:=hv.one
 have lt1:=hw _ _ h1
 have lt2:=hw _ _ h2
 have hbv:iq (.agg [v,.bool c.2])=some [v,.bool c.2]:=by simp [iq,AV.cells,ov.2]; rfl
 have ej:IntKind.i64.wrap (n+1)=n+1:=by rw [wrap_i64] <;> omega
 refine Qg C.dual_checked_api_Con_f2 (by decide) fun T hl g0 g1 g2=>?_
 refine zW (jm hl g0 g1 g2 hbv h1 h2) ?_
 refine aO ?_
 refine zD (fW hl g0 g1 g2 h1 h2) ?_
 refine AnsH.eq (dual_conRow C zF ov) fun H2 hk2=>?_
 obtain ⟨k2,_,w2⟩:=zT H zK hk2
 have e2:=k2.get h2
 refine zD (kU hl g0 g1 g2 h1 h2 e2 hv.lenV ej) ?_
 exact ⟨by simp,zK⟩
def cT (n:Int) (l:List sQ):Int :=
 if n<0\/8<n then 2 else if 60<l.length then 4 else if l.any (fun c=>!yT c.1) then 8 else if l.any (fun c=>decide ((c.1.length:Int)≠n+1)) then 70 else 0
theorem iU (C:Code tab) (hw:Wf H) {n:Int} {l:List sQ} (hs:SlV conQE cA H s l) (hbig:∀ c∈l,xq c.1) (hlen:l.length<4611686018427387904) :
  Ans tab (.fn O4 [.int .i64 n,s,.fn (.func dJ) [] [],.fn (.func jf) [] []]) H fun v H'=>v=.int .i64 (cT n l)/\Kp H H':=by
 refine LX C.dual_checked_api_Con (by decide) fun T hl g0 g1 g2 g3=>?_
 by_cases q1:n<0
 ·refine zW (fW hl g0 g1 g2 g3 q1) ?_
  exact ⟨by rw [cT,if_pos (.inl q1)],zK⟩
 by_cases q2:8<n
 ·refine zW (jm hl g0 g1 g2 g3 q1 q2) ?_
  exact ⟨by rw [cT,if_pos (.inr q2)],zK⟩
 have e1:¬ (n<0\/8<n):=fun h=>h.elim q1 q2
 by_cases q3:(60:Int)<(l.length:Int)
 ·refine zW (kU hl g0 g1 g2 g3 q1 q2 q3 hs.lenV) ?_
  exact ⟨by rw [cT,if_neg e1,if_pos (by omega)],zK⟩
 have e2:¬ 60<l.length:=by omega
 refine zW (kU hl g0 g1 g2 g3 q1 q2 q3 hs.lenV) ?_
 refine AnsH.eq (mr C zF (first:=[]) rfl (hs.mono (Kp.sub (H:=H) zK)) hlen (fun c=>!yT c.1) fun a ha H' cs hk hr=>wA C hk.wf hr (hbig a ha) (hk.get (by refine qN ?_; rfl)) (hk.get (by refine qN ?_; rfl))) fun H2 hk2=>?_
 obtain ⟨k2,_,w2⟩:=zT H zK hk2
 cases q4:l.any (fun c=>!yT c.1) with
 | true =>
  refine zW (cJ hl g0 g1 g2 g3) ?_
  exact ⟨by rw [cT,if_neg e1,if_neg e2,if_pos q4],zK⟩
 | false =>
 have d0:=hk2.get (b:=H.next) (e:=.cells [.int .i64 n] fL true) (dC)
 have d1:=hk2.get (b:=H.next+1) (e:=.cells [.fn (.func dJ) [] []] dY true) (dC)
 refine zW (aC hl g0 g1) ?_
 refine AnsH.eq (mr C zF (first:=[]) rfl (hs.mono (Kp.sub (H:=H) zK)) hlen (fun c=>decide ((c.1.length:Int)≠n+1)) fun a ha H' cs hk hr=>wz C hk.wf hr ⟨by omega,by omega⟩ (hk.get (b:=H.next+1) (by first | exact d1 | (refine qN ?_; exact d1))) (hk.get (b:=H.next) (by first | exact d0 | (refine qN ?_; exact d0)))) fun H3 hk3=>?_
 obtain ⟨k3,_,_⟩:=zT H zK hk3
 cases q5:l.any (fun c=>decide ((c.1.length:Int)≠n+1)) with
 | true =>
  refine zW (cJ hl g0 g1 g2 g3) ?_
  exact ⟨by rw [cT,if_neg e1,if_neg e2,if_neg (by rw [q4]; decide),if_pos q5],zK⟩
 | false =>
  refine zW (cJ hl g0 g1 g2 g3) ?_
  exact ⟨by rw [cT,if_neg e1,if_neg e2,if_neg (by rw [q4]; decide),if_neg (by rw [q5]; decide)],zK⟩
def Hu (g:Nat × List Int):Bool :=
 if g.1=1\/g.1=2 then decide (Lin.hd1 g.2≠0) else if g.1=3 then decide (Lin.hd1 g.2<=0) else true
theorem um (x:Int):0<gI x ↔ 0<x:=by unfold gI; split <;> (try split) <;> omega
theorem Lu (x:Int):gI x<=0 ↔ x<=0:=by unfold gI; split <;> (try split) <;> omega
theorem dual_odd (C:Code tab) (hw:Wf H) {v:AV} {k:Nat} {l:List Int} (hv:RowV H v l) (hz:∀ z∈l,OV z):Ans tab (.fn qq [.agg [.int .u8 (k:Int),v]]) H fun x H'=>x=.bool (Hu (k,l))/\Kp H H':=by
 have ov:=hv.one
 have hbv:iq (.agg [.int .u8 (k:Int),v])=some [.int .u8 (k:Int),v]:=by simp [iq,AV.cells,ov.2]; rfl
 refine OD C.dual_odd (by decide) fun T hl g0=>?_
 by_cases q1:(k:Int)=1
 ·refine zW (bg hl g0 hbv q1) ?_
  refine AnsH.eq (dual_first C zF (hv.mono (Kp.sub (H:=H) zK)) hz) fun H2 hk2=>?_
  obtain ⟨k2,_,_⟩:=zT H zK hk2
  refine zW (az hl g0) ?_
  refine ⟨?_,zK⟩
  congr 1
  rw [Hu,if_pos (.inl (by omega)),Bool.eq_iff_iff]
  simp [gq]
 by_cases q2:(k:Int)=2
 ·refine zW (cJ hl g0 hbv q1 q2) ?_
  refine AnsH.eq (dual_first C zF (hv.mono (Kp.sub (H:=H) zK)) hz) fun H2 hk2=>?_
  obtain ⟨k2,_,_⟩:=zT H zK hk2
  refine zW (az hl g0) ?_
  refine ⟨?_,zK⟩
  congr 1
  rw [Hu,if_pos (.inr (by omega)),Bool.eq_iff_iff]
  simp [gq]
 have q12:¬ (k=1\/k=2):=by omega
 by_cases q3:(k:Int)=3
 ·refine zW (fW hl g0 hbv q1 q2 q3) ?_
  refine AnsH.eq (dual_first C zF (hv.mono (Kp.sub (H:=H) zK)) hz) fun H2 hk2=>?_
  obtain ⟨k2,_,_⟩:=zT H zK hk2
  refine zW (az hl g0) ?_
  refine ⟨?_,zK⟩
  congr 1
  have q3':k=3:=by omega
  rw [Hu,if_neg q12,if_pos q3',Bool.eq_iff_iff]
  simp [Lu]
 ·refine zW (fW hl g0 hbv q1 q2 q3) ?_
  refine ⟨?_,zK⟩
  have q3':¬ k=3:=by omega
  rw [Hu,if_neg q12,if_neg q3']
def Og (g:Of):Bool:=!yT g.2 || Hu (g.1,g.2.map cU)
theorem N3 (C:Code tab) (hw:Wf H) {cs:List AV} {c:Of} {b1 b2:Nat} {r1 r2:Bool} (hc:genQE.R H cs c) (hbig:xq c.2) (hgood:∀ z∈c.2,Lim z.2/\z.2.length<=1048576)
  (h1:H.get b1=some (.cells [.fn (.func lD) [] []] OZ r1)) (h2:H.get b2=some (.cells [.fn (.func qq) [] []] NT r2)) :
  Ans tab (.fn fO [.agg cs,.ptr b1 0,.ptr b2 0]) H fun v H'=>v=.bool (Og c)/\Kp H H':=by
 obtain ⟨v,rfl,hv⟩:=hc
 have ov:=hv.one
 have lt1:=hw _ _ h1
 have lt2:=hw _ _ h2
 have hbv:iq (.agg [.int .u8 (c.1:Int),v])=some [.int .u8 (c.1:Int),v]:=by simp [iq,AV.cells,ov.2]; rfl
 refine Qg C.dual_checked_api_Gen_f1 (by decide) fun T hl g0 g1 g2=>?_
 refine zW (jm hl g0 g1 g2 hbv h1 h2) ?_
 refine AnsH.eq (dual_genRow C zF ov) fun H2 hk2=>?_
 obtain ⟨k2,_,w2⟩:=zT H zK hk2
 have d0:=hk2.get (b:=H.next) (e:=.cells [.int .u8 (c.1:Int),v] t_api_Gen true) (dC)
 refine zW (bg hl g0 g1 g2) ?_
 refine AnsH.eq (vec_Check C zF (hv.mono (Kp.sub (H:=H) zK)) hbig) fun H3 hk3=>?_
 obtain ⟨k3,_,w3⟩:=zT H zK hk3
 have d3:=hk3.get d0
 have e2:=k3.get h2
 cases hok:yT c.2 with
 | false =>
  refine zW (bg hl g0 g1 g2) ?_
  exact ⟨by simp [Og,hok],zK⟩
 | true =>
  have hb:∀ z∈c.2,pC z=false:=by
   simp only [yT,Bool.and_eq_true,Bool.not_eq_true',List.any_eq_false,Bool.not_eq_true] at hok
   exact hok.2
  refine zW (jm hl g0 g1 g2 d3 e2 g2) ?_
  refine AnsH.eq (dual_odd C (l:=c.2.map cU) zF ((SlV.int hv fun z hz=>⟨hb z hz,(hgood z hz).1⟩).mono (Kp.sub (H:=H) zK)) fun z hz=>?_) fun H4 hk4=>?_
  ·obtain ⟨x,hx,rfl⟩:=List.mem_map.1 hz
   exact (La (hgood x hx).1 (hgood x hx).2).sm (by omega)
  obtain ⟨k4,_,_⟩:=zT H zK hk4
  refine zW (bg hl g0 g1 g2) ?_
  exact ⟨by simp [Og,hok],zK⟩
theorem N0 (C:Code tab) (hw:Wf H) {cs:List AV} {c:Of} {n:Int} {b1 b2:Nat} {r1 r2:Bool} (hc:genQE.R H cs c) (hn:0<=n/\n<=1000)
  (h1:H.get b1=some (.cells [.fn (.func lD) [] []] OZ r1)) (h2:H.get b2=some (.cells [.int .i64 n] fL r2)) :
  Ans tab (.fn fN [.agg cs,.ptr b1 0,.ptr b2 0]) H fun v H'=>v=.bool (decide ((c.2.length:Int)≠n+1))/\Kp H H':=by
 obtain ⟨v,rfl,hv⟩:=hc
 have ov:=hv.one
 have lt1:=hw _ _ h1
 have lt2:=hw _ _ h2
 have hbv:iq (.agg [.int .u8 (c.1:Int),v])=some [.int .u8 (c.1:Int),v]:=by simp [iq,AV.cells,ov.2]; rfl
 have ej:IntKind.i64.wrap (n+1)=n+1:=by rw [wrap_i64] <;> omega
 refine Qg C.dual_checked_api_Gen_f2 (by decide) fun T hl g0 g1 g2=>?_
 refine zW (jm hl g0 g1 g2 hbv h1 h2) ?_
 refine aO ?_
 refine zD (fW hl g0 g1 g2 h1 h2) ?_
 refine AnsH.eq (dual_genRow C zF ov) fun H2 hk2=>?_
 obtain ⟨k2,_,w2⟩:=zT H zK hk2
 have e2:=k2.get h2
 refine zD (kU hl g0 g1 g2 h1 h2 e2 hv.lenV ej) ?_
 exact ⟨by simp,zK⟩
def PI (n:Int) (l:List Of):Int :=
 if n<0\/8<n then 2 else if 60<l.length then 4 else if l.any Og then 8 else if l.any (fun c=>decide ((c.2.length:Int)≠n+1)) then 70 else 0
theorem NW (C:Code tab) (hw:Wf H) {n:Int} {l:List Of} (hs:SlV genQE t_api_Gen H s l) (hbig:∀ c∈l,xq c.2) (hgood:∀ c∈l,∀ z∈c.2,Lim z.2/\z.2.length<=1048576) (hlen:l.length<4611686018427387904) :
  Ans tab (.fn hZ [.int .i64 n,s,.fn (.func lD) [] [],.fn (.func qq) [] []]) H fun v H'=>v=.int .i64 (PI n l)/\Kp H H':=by
 refine LX C.dual_checked_api_Gen (by decide) fun T hl g0 g1 g2 g3=>?_
 by_cases q1:n<0
 ·refine zW (fW hl g0 g1 g2 g3 q1) ?_
  exact ⟨by rw [PI,if_pos (.inl q1)],zK⟩
 by_cases q2:8<n
 ·refine zW (jm hl g0 g1 g2 g3 q1 q2) ?_
  exact ⟨by rw [PI,if_pos (.inr q2)],zK⟩
 have e1:¬ (n<0\/8<n):=fun h=>h.elim q1 q2
 by_cases q3:(60:Int)<(l.length:Int)
 ·refine zW (kU hl g0 g1 g2 g3 q1 q2 q3 hs.lenV) ?_
  exact ⟨by rw [PI,if_neg e1,if_pos (by omega)],zK⟩
 have e2:¬ 60<l.length:=by omega
 refine zW (kU hl g0 g1 g2 g3 q1 q2 q3 hs.lenV) ?_
 refine AnsH.eq (Qo C zF (first:=[]) rfl (hs.mono (Kp.sub (H:=H) zK)) hlen Og fun a ha H' cs hk hr=>N3 C hk.wf hr (hbig a ha) (hgood a ha) (hk.get (by refine qN ?_; rfl)) (hk.get (by refine qN ?_; rfl))) fun H2 hk2=>?_
 obtain ⟨k2,_,w2⟩:=zT H zK hk2
 cases q4:l.any Og with
 | true =>
  refine zW (cJ hl g0 g1 g2 g3) ?_
  exact ⟨by rw [PI,if_neg e1,if_neg e2,if_pos q4],zK⟩
 | false =>
 have d0:=hk2.get (b:=H.next) (e:=.cells [.int .i64 n] fL true) (dC)
 have d1:=hk2.get (b:=H.next+1) (e:=.cells [.fn (.func lD) [] []] OZ true) (dC)
 refine zW (aC hl g0 g1) ?_
 refine AnsH.eq (Qo C zF (first:=[]) rfl (hs.mono (Kp.sub (H:=H) zK)) hlen (fun c=>decide ((c.2.length:Int)≠n+1)) fun a ha H' cs hk hr=>N0 C hk.wf hr ⟨by omega,by omega⟩ (hk.get (b:=H.next+1) (by first | exact d1 | (refine qN ?_; exact d1))) (hk.get (b:=H.next) (by first | exact d0 | (refine qN ?_; exact d0)))) fun H3 hk3=>?_
 obtain ⟨k3,_,_⟩:=zT H zK hk3
 cases q5:l.any (fun c=>decide ((c.2.length:Int)≠n+1)) with
 | true =>
  refine zW (cJ hl g0 g1 g2 g3) ?_
  exact ⟨by rw [PI,if_neg e1,if_neg e2,if_neg (by rw [q4]; decide),if_pos q5],zK⟩
 | false =>
  refine zW (cJ hl g0 g1 g2 g3) ?_
  exact ⟨by rw [PI,if_neg e1,if_neg e2,if_neg (by rw [q4]; decide),if_neg (by rw [q5]; decide)],zK⟩
end
section
variable {tab:Nat->Option aq} {H:Heap} {s:AV}
theorem rF (C:Code tab) (hw:Wf H) {fi:Nat} {first caps:List AV} {l:List (List Int)} (hs:cI H s l) (hbig:l.length<4611686018427387904) (p:List Int->Bool)
  (hf:∀ r∈l,∀ H' w,Kp H H'->RowV H' w r->Ans tab (.fn fi (first++[w]++caps)) H' fun v H2=>v=.bool (p r)/\Kp H' H2) :
  Ans tab (.fn bC [s,.fn (.func fi) first caps]) H fun v H'=>v=.bool (l.any p)/\Kp H H':=by
 refine ca C.slices_ContainsFunc_Sl_api_Vec_api_Vec (by decide) fun T hl g0 g1=>?_
 refine zW (aC hl g0 g1) ?_
 refine AnsH.eq (oV C zF (hs.mono (Kp.sub (H:=H) zK)) hbig p fun r hr H' w hk hv=>hf r hr H' w (Kp.trans (H:=H) zK hk) hv) fun H2 hk2=>?_
 obtain ⟨k2,_,_⟩:=zT H zK hk2
 refine zW (aC hl g0 g1) ?_
 exact ⟨by rw [sr],zK⟩
end
def Bq {α:Type} (E:eU α) (ty:Nat) (H0 H:Heap) (v:AV) (l:List α):Prop:=(v=.nilSl/\l=[])\/∃ b ex,Own E ty H0 H b ex v l
section
variable {α β:Type} {E:eU α} {E':eU β} {ty:Nat} {H0 H H':Heap} {v w:AV} {l:List α} {m:List β}
theorem Bq.nil:Bq E ty H0 H .nilSl []:=.inl ⟨rfl,rfl⟩
theorem Bq.of (h:Bl E ty H0 H v l):Bq E ty H0 H v l:=by
 rcases h with h | ⟨b,h⟩
 ·exact .inl h
 ·exact .inr ⟨b,false,h⟩
theorem Bq.sl (h:Bq E ty H0 H v l):SlV E ty H v l:=by
 rcases h with ⟨rfl,rfl⟩ | ⟨b,ex,h⟩
 ·exact SlV.nil E ty H
 ·exact h.sl
theorem Bq.mono (hs:Sub H H') (h:Bq E ty H0 H v l):Bq E ty H0 H' v l:=by
 rcases h with h | ⟨b,ex,h⟩
 ·exact .inl h
 ·exact .inr ⟨b,ex,h.mono hs⟩
theorem Bq.lt (hw:Wf H) (h:Bq E ty H0 H v l) {b:Nat} (hb:iH v=some b):b<H.next:=by
 rcases h with ⟨rfl,-⟩ | ⟨b',ex,cells,rfl,hg,-⟩
 ·cases hb
 ·cases hb
  exact hw _ _ hg
theorem Frm.subTq {tys:List Nat} (hf:Frm v H H') (h:Bq E ty H0 H v l) (hn:ty ∉ tys):SubT tys H H':=fun c cs t r ht hc=>hf c _ hc fun e=>by
 rcases h with ⟨rfl,-⟩ | ⟨b,ex,cells,rfl,hb,-⟩
 ·cases e
 ·cases e
  rw [hb] at hc; cases hc
  exact hn ht
theorem Frm.bq (hf:Frm v H H') (h:Bq E ty H0 H v l) (hw:Bq E' ty H0 H w m) (hs:Sep v w) (ht:ty ∉ E'.tys):Bq E' ty H0 H' w m:=by
 rcases hw with hw | ⟨b,ex,cells,rfl,hb,hc,h0⟩
 ·exact .inl hw
 ·exact .inr ⟨b,ex,cells,rfl,hf b _ hb fun e=>hs b e rfl,hc.mono (hf.subTq h ht),h0⟩
theorem Bq.push {ty2 bytes id id2:Nat} {cs:List AV} {a:α} (h:Bq E ty H0 H v l) (hty:ty ∉ E.tys) (hk:Kp H0 H) (hr:E.R H cs a) (hid:H0.next<=id) (hid':id<H.next) (hf:H.get id=none) (hid2:H0.next<=id2) (hid2':id2<H.next) (hf2:H.get id2=none) (hne:id≠id2)
  (hb:(l.length+1)*bytes<=70368744177664) (hl:l.length+1<4611686018427387904) :
  ∃ n H',OC (H.put id2 (.cells cs ty2 true)) id E.sz bytes ty v (.own id2 0 1 1 E.sz true)=some (.own id 0 n n E.sz false,H')/\Bq E ty H0 H' (.own id 0 n n E.sz false) (l++[a])/\Kp H0 H'/\H'.next=H.next/\Frm v H H'/\(∀ c,c≠id->c≠id2->H.get c=none->H'.get c=none):=by
 have hbl:Bl E ty H0 H v l\/∃ b,Own E ty H0 H b true v l:=by
  rcases h with h | ⟨b,ex,h⟩
  ·exact .inl (.inl h)
  ·cases ex with
   | false=>exact .inl (.inr ⟨b,h⟩)
   | true=>exact .inr ⟨b,h⟩
 rcases hbl with hbl | ⟨b,ho⟩
 ·obtain ⟨n,H',e1,e2,e3⟩:=Bl.push2 (ty2:=ty2) (bytes:=bytes) hbl hty hk hr hid hid' hf hid2 hid2' hf2 hne hb hl
  exact ⟨n,H',e1,.of e2,e3⟩
 ·have hsub:Sub H (H.put id2 (.cells cs ty2 true)):=bh hf2
  have hk':Kp H0 (H.put id2 (.cells cs ty2 true)):=hk.put hid2 hid2'
  have hy:SlV E ty2 (H.put id2 (.cells cs ty2 true)) (.own id2 0 1 1 E.sz true) [a] :=
   (show Own E ty2 H0 _ id2 true (.own id2 0 1 1 E.sz true) [a] from ⟨cs,rfl,aA _ _ _,Cells.one (E.mono (hsub.t _) hr),hid2⟩).sl
  have ho1:=ho.mono hsub
  have hs:=ho1.sl
  obtain ⟨cells,hv,hg,-,-⟩:=ho1
  rw [hv] at hs
  obtain ⟨v',H',e1,e2,e3,e4,e5,e6⟩:=SlV.app (bytes:=bytes) (id:=id) hs hk' hy hid hid' (by rw [au hne]; exact hf) hb hl
  obtain ⟨cells',hv',hg',hc',h0'⟩:=e6 (by simp)
  rw [hv'] at e1
  refine ⟨_,H',by rw [hv]; exact e1,.inr ⟨id,false,cells',rfl,hg',hc',h0'⟩,e3,e4,fun b e hbe _=>e5.get _ _ (hsub.get _ _ hbe),fun c h1 h2 h3=>yq e1 h1 (by rw [au h2]; exact h3)⟩
end
theorem rB {a:AV} (ha:One a) (x y:AV):gH [x,y] [((0,1),a)]=some (.agg [a,y]):=by
 simp [gH,cM,ha.1,ha.2]
section
open Lin
variable {n:Nat} {l:List (V × Bool)}
theorem HY {j:Nat} (hj:j<l.length):eqsOf (l.take (j+1))=if l[j].2=true then eqsOf (l.take j)++[l[j].1] else eqsOf (l.take j):=by
 rw [List.take_succ_eq_append_getElem hj]
 unfold eqsOf
 rw [List.filter_append,List.map_append]
 cases h:l[j].2 <;> simp [h]
theorem Cp {j:Nat} (hj:j<l.length):ineqsOf n (l.take (j+1))=if l[j].2=true then ineqsOf n (l.take j) else ineqsOf n (l.take j)++[l[j].1]:=by
 rw [List.take_succ_eq_append_getElem hj]
 unfold ineqsOf
 rw [List.filter_append,List.map_append]
 cases h:l[j].2 <;> simp [h]
theorem HZ (l:List (V × Bool)):(eqsOf l).length<=l.length:=by
 unfold eqsOf
 rw [List.length_map]
 exact List.length_filter_le _ _
theorem rh (l:List (V × Bool)):(ineqsOf n l).length<=l.length+1:=by
 unfold ineqsOf
 rw [List.length_cons,List.length_map]
 have:=List.length_filter_le (fun c:V × Bool=>!c.2) l
 omega
theorem C5 (n m:Nat):Bd (2^m) (unitC n 1):=fun i=>by
 have h1:1<=2^m:=Nat.pow_pos (by decide)
 unfold unitC at_
 cases i with
 | zero=>simpa using h1
 | succ i =>
  rw [List.getD_cons_succ,List.getD_eq_getElem?_getD,List.getElem?_replicate]
  split <;> simp
end
section
variable {tab:Nat->Option aq} {H:Heap} {s:AV}
theorem dual_points_f1 (C:Code tab) (hw:Wf H) {l:List Int} (hs:RowV H s l) (hz:∀ z∈l,OV z):Ans tab (.fn iQ [s]) H fun v H'=>v=.bool (decide (0<Lin.hd1 l))/\Kp H H':=by
 refine OD C.dual_points_f1 (by decide) fun T hl g0=>?_
 refine zW (az hl g0) ?_
 refine AnsH.eq (dual_first C zF (hs.mono (Kp.sub (H:=H) zK)) hz) fun H2 hk2=>?_
 obtain ⟨k2,_,_⟩:=zT H zK hk2
 have e:decide (gI (Lin.hd1 l) > 0)=decide (0<Lin.hd1 l):=by
  rw [Bool.eq_iff_iff]
  simp [um]
 refine zW (az hl g0) ?_
 exact ⟨by simp [um],zK⟩
set_option maxHeartbeats 4000000 in
theorem dual_points (C:Code tab) (hw:Wf H) {n m:Nat} {l:List (List Int × Bool)} (hs:SlV conE cA H s l) (hn:n<=4) (hlen:l.length<=1023) (hcnt:(l.length+1)^n<1099000000000) (hrow:∀ c∈l,c.1.length=n+1/\Lin.Bd (2^m) c.1) (hm:m<=300000) :
  Ans tab (.fn lC [.int .i64 (n:Int),s]) H fun v H'=>SlV genE t_api_Gen H' v (Lin.gensP n l)/\Kp H H':=by
 refine xw C.dual_points rfl rfl (by decide) fun T hl g=>?_
 have hl:T.length=79:=hl
 have hrs:c_dual_points.results=[(4,none)]:=rfl
 have g0:ae T 0=.int .i64 (n:Int):=g 0 (by simp)
 have g1:ae T 1=s:=g 1 (by simp)
 refine br ?_
 refine zW (az hl @aK) ?_
 refine br ?_
 refine zW (az hl @aK) ?_
 refine OF (fun T' H'=>∃ o,ae T' 6=o/\Kp H H'/\Bq rowsE af H H' o [Lin.unitC n 1]) rfl ?_ ?_
 ·refine zW (az hl g0) ?_
  refine AnsH.use (dual_unit C (n:=n) (k:=1) zF (by omega) (by omega) (by omega)) ?_
  rintro v H2 ⟨hr,hk2⟩
  obtain ⟨k2,_,w2⟩:=zT H zK hk2
  have ov:=hr.one
  have n2:H.next+6<=H2.next:=hk2.le
  have f2:H2.get (H.next+4)=none:=hk2.free (show H.next+4<H.next+6 by omega) (hw.fresh (b:=H.next+4) (by omega))
  refine zW (az hl @aQ) ?_
  refine ⟨_,rfl,zK,.inr ⟨H.next+4,true,[v],rfl,aA _ _ _,?_,by omega⟩⟩
  exact Cells.one (E:=rowsE) ⟨v,rfl,hr.mono (bh f2)⟩
 rintro T1 H1 hs1 ⟨o,t6,k1,b1⟩
 have w1:=k1.wf
 have le1:=k1.le
 have t0:ae T1 0=.int .i64 (n:Int):=(hs1.at_ 0 (by decide)).trans (zV (az hl g0))
 have t1:ae T1 1=s:=(hs1.at_ 1 (by decide)).trans (zV (az hl g1))
 have t4:ae T1 4=.nilSl:=(hs1.at_ 4 (by decide)).trans (zV hl)
 have t5:ae T1 5=.nilSl:=(hs1.at_ 5 (by decide)).trans (zV hl)
 have hl1:T1.length=79:=hs1.len.trans (by simp only [List.length_set]; exact hl)
 have hsl1:=hs.mono k1.sub
 refine OF (fun T' H'=>∃ o5 o6,ae T' 5=o5/\ae T' 6=o6/\Kp H H'/\cI H' o5 (Lin.eqsOf l)/\cI H' o6 (Lin.ineqsOf n l)) rfl ?_ ?_
 ·refine zW (aC hl1 t1 hs.lenV) ?_
  refine ak H [5,6] (fun j vs H'=>∃ o5 o6,vs=[o5,o6]/\Bq rowsE af H H' o5 (Lin.eqsOf (l.take j))/\Bq rowsE af H H' o6 (Lin.ineqsOf n (l.take j))/\Sep o5 o6) (a:=0) (N:=l.length) rfl (by refine zW hl1 ?_; rfl) (zV hl1) (Nat.zero_le _) (by omega) (by simp only [List.length_set,hl1]; rfl) rfl (fun j vs H' m ⟨o5,o6,q1,q2,q3,q4⟩=>⟨o5,o6,q1,q2.mono (Sub.bump H' m),q3.mono (Sub.bump H' m),q4⟩) zK ⟨.nilSl,o,by exact zV (aC hl1 t5 t6),Bq.nil,b1.mono (Sub.bump H1 _),fun b h=>by cases h⟩ ?_ ?_
  ·rintro j T2 H2 _ hj hl2 hi2 hs2 hk2 ⟨o5,o6,hv,bq5,bq6,hsep⟩
   have w2:=hk2.wf
   have le_hk2:=hk2.le
   have le2:=hk2.le
   simp only [List.map_cons,List.map_nil,List.cons.injEq,and_true] at hv
   obtain ⟨v5,v6⟩:=hv
   have t20:ae T2 20=s:=(hs2.at_ 20 (by decide)).trans (zV (az hl1 t1))
   obtain ⟨cs,⟨w,rfl,hr⟩,hlen',-,hld⟩:=(hs.mono hk2.sub).at (List.getElem?_eq_getElem hj)
   have hix:Ox 2 s (.int .i64 (j:Int))=some (al s (j*2)):=SlV.idx hs .i64 j hj
   have hld:aZ H2 (some 2) (al s (j*2))=some (.agg [w,.bool l[j].2]):=hld
   have ow:=hr.one
   simp only [List.length_set,hl1] at hl2
   have he:=HY (l:=l) hj
   have hi:=Cp (n:=n) (l:=l) hj
   have l5:=HZ (l.take j)
   have l6:=rh (n:=n) (l.take j)
   rw [List.length_take] at l5 l6
   obtain ⟨Hx,hHx⟩:∃ Hx,Hx=((H2.up 12).put (H2.next+2) (.cells [.nilSl,.bool false] cA true)).put (H2.next+2) (.cells [w,.bool l[j].2] cA true):=⟨_,rfl⟩
   have kx:Kp H2 Hx:=by rw [hHx]; exact zK
   have kx0:Kp H Hx:=hk2.trans kx
   have nx:Hx.next=H2.next+12:=by rw [hHx]; rfl
   have fx:∀ c,H2.next<=c->c≠H2.next+2->Hx.get c=none:=fun c h1 h2=>by rw [hHx,au h2,au h2]; exact w2.fresh h1
   have hrx:rowsE.R Hx [w] l[j].1:=⟨w,rfl,hr.mono kx.sub⟩
   cases hb:l[j].2 with
   | true =>
    rw [hb] at hld hHx he hi
    obtain ⟨n6,H6,e6,b6,k6,nx6,f6,-⟩:=Bq.push (ty2:=af) (bytes:=24) (id:=H2.next+10) (id2:=H2.next+9) (bq5.mono kx.sub) (by decide) kx0 hrx (by omega) (by omega) (fx _ (by omega) (by omega)) (by omega) (by omega) (fx _ (by omega) (by omega)) (by omega) (by omega) (by omega)
    have e6':OC ((((H2.up 12).put (H2.next+2) (.cells [.nilSl,.bool false] cA true)).put (H2.next+2) (.cells [w,.bool true] cA true)).put (H2.next+9) (.cells [w] af true)) (H2.next+10) 1 24 af o5 (.own (H2.next+9) 0 1 1 1 true)=some (.own (H2.next+10) 0 n6 n6 1 false,H6):=by rw [hHx] at e6; exact e6
    refine zW (mw hl2 t20 hi2 hix hld v5 v6 e6') ?_
    refine ⟨k6,_,_,rfl,?_,?_,?_⟩
    ·rw [he,if_pos rfl]; exact b6
    ·rw [hi,if_pos rfl]; exact f6.bq (bq5.mono kx.sub) (bq6.mono kx.sub) hsep (by decide)
    ·intro b h1 h2
     have:=bq6.lt w2 h2
     cases h1
     omega
   | false =>
    rw [hb] at hld hHx he hi
    obtain ⟨n6,H6,e6,b6,k6,nx6,f6,-⟩:=Bq.push (ty2:=af) (bytes:=24) (id:=H2.next+10) (id2:=H2.next+9) (bq6.mono kx.sub) (by decide) kx0 hrx (by omega) (by omega) (fx _ (by omega) (by omega)) (by omega) (by omega) (fx _ (by omega) (by omega)) (by omega) (by omega) (by omega)
    have e6':OC ((((H2.up 12).put (H2.next+2) (.cells [.nilSl,.bool false] cA true)).put (H2.next+2) (.cells [w,.bool false] cA true)).put (H2.next+9) (.cells [w] af true)) (H2.next+10) 1 24 af o6 (.own (H2.next+9) 0 1 1 1 true)=some (.own (H2.next+10) 0 n6 n6 1 false,H6):=by rw [hHx] at e6; exact e6
    refine zW (mw hl2 t20 hi2 hix hld v5 v6 e6') ?_
    refine ⟨k6,_,_,rfl,?_,?_,?_⟩
    ·rw [he,if_neg (by decide)]; exact f6.bq (bq6.mono kx.sub) (bq5.mono kx.sub) hsep.symm (by decide)
    ·rw [hi,if_neg (by decide)]; exact b6
    ·intro b h1 h2
     have:=bq5.lt w2 h1
     cases h2
     omega
  ·rintro T2 H2 hl2 hs2 hk2 ⟨o5,o6,hv,bq5,bq6,hsep⟩
   simp only [List.map_cons,List.map_nil,List.cons.injEq,and_true] at hv
   rw [List.take_length] at bq5 bq6
   refine zW (az hl2 @aQ) ?_
   exact ⟨o5,o6,hv.1,hv.2,hk2,bq5.sl,bq6.sl⟩
 rintro T2 H2 hs2 ⟨o5,o6,v5,v6,k2,r5,r6⟩
 have w2:=k2.wf
 have le2:=k2.le
 have u0:ae T2 0=.int .i64 (n:Int):=(hs2.at_ 0 (by decide)).trans t0
 have u4:ae T2 4=.nilSl:=(hs2.at_ 4 (by decide)).trans t4
 have hl2:T2.length=79:=hs2.len.trans hl1
 have hE:∀ a∈Lin.eqsOf l,a.length=n+1/\Lin.Bd (2^m) a:=fun a ha=>hrow _ (Lin.mem_eqs.1 ha)
 have hI:∀ a∈Lin.ineqsOf n l,a.length=n+1/\Lin.Bd (2^m) a:=fun a ha=>by
  rcases Lin.mem_ineqs.1 ha with rfl | ha
  ·exact ⟨Lin.unitC_len n 1,C5 n m⟩
  ·exact hrow _ ha
 have lE:=HZ l
 have lI:=rh (n:=n) l
 obtain ⟨c1,c2⟩:=qR (d:=n+1) (m:=m) (by omega) (by omega) hE hI
 have hT:=Lin.gens_told (d:=n+1) (fun a ha=>(hE a ha).1) (fun a ha=>(hI a ha).1)
 have lL:=ech_len hT.form
 have hcI:(Lin.ineqsOf n l).length^n<1099000000000:=Nat.lt_of_le_of_lt (Nat.pow_le_pow_left lI n) hcnt
 have lR:(Lin.gensR (n+1) (Lin.eqsOf l) (Lin.ineqsOf n l)).length<=1099000000000:=by
  have:=hT.dd.count3 (fun a ha=>(hI a ha).1)
  simp only [Nat.add_sub_cancel] at this
  omega
 obtain ⟨L,hL⟩:∃ L,L=Lin.gensL (n+1) (Lin.eqsOf l) (Lin.ineqsOf n l):=⟨_,rfl⟩
 obtain ⟨R,hR⟩:∃ R,R=Lin.gensR (n+1) (Lin.eqsOf l) (Lin.ineqsOf n l):=⟨_,rfl⟩
 have smR:∀ r∈R,∀ z∈r,OV z:=fun r hr z hz=>by
  rw [hR] at hr
  exact (fz (c2 r hr).2 z hz).sm (by omega)
 have ej:IntKind.i64.wrap ((n:Int)+1)=((n+1:Nat):Int):=by rw [wrap_i64] <;> omega
 refine OF (fun T' H'=>∃ p q,ae T' 9=p/\ae T' 10=q/\Kp H H'/\cI H' p L/\cI H' q R) rfl ?_ ?_
 ·refine zW (cJ hl2 u0 v5 v6 ej) ?_
  refine AnsH.use (qF C (d:=n+1) (m:=m) zF (r5.mono (Kp.sub (H:=H2) zK)) (r6.mono (Kp.sub (H:=H2) zK)) (by omega) (by omega) (by omega) (by omega) (by simpa using hcI) hE hI hm) ?_
  rintro v H3 ⟨p,q,rfl,hp,hq,hk3⟩
  obtain ⟨k23,_,_⟩:=zT H2 zK hk3
  have k3:Kp H H3:=k2.trans k23
  have le_k3:=k3.le
  refine zW (az hl2 @aQ) ?_
  rw [hL,hR]
  exact ⟨p,q,rfl,rfl,zK,hp,hq⟩
 rintro T3 H3 hs3 ⟨p,q,v9,v10,k3,hp,hq⟩
 have w3:=k3.wf
 have le3:=k3.le
 have x4:ae T3 4=.nilSl:=(hs3.at_ 4 (by decide)).trans u4
 have hl3:T3.length=79:=hs3.len.trans hl2
 rw [<- hL] at lL
 rw [<- hR] at lR
 have hany:R.any (fun r=>decide (0<Lin.hd1 r))=(Lin.gensR (n+1) (Lin.eqsOf l) (Lin.ineqsOf n l)).any (fun r=>decide (0<Lin.hd1 r)):=by rw [hR]
 refine OF (fun T' H'=>Kp H3 H'/\ae T' 4=.nilSl/\R.any (fun r=>decide (0<Lin.hd1 r))=true) rfl ?_ ?_
 ·refine zW (az hl3 v10) ?_
  refine AnsH.eq (rF C zF (first:=[]) (hq.mono (Kp.sub (H:=H3) zK)) (by omega) (fun r=>decide (0<Lin.hd1 r)) fun a ha H' w hk hr=>dual_points_f1 C hk.wf hr (smR a ha)) fun H4 hk4=>?_
  obtain ⟨k34,_,_⟩:=zT H3 zK hk4
  have k4:Kp H H4:=k3.trans k34
  have le_k4:=k4.le
  cases hc:R.any (fun r=>decide (0<Lin.hd1 r)) with
  | true =>
   refine zW (aC hl3 @aQ x4) ?_
   exact zK
  | false =>
   refine zW (aC hl3 @oE hrs) ?_
   refine ⟨?_,zK⟩
   unfold Lin.gensP
   rw [<- hany,hc]
   exact SlV.nil _ _ _
 rintro T4 H4 hs4 ⟨k34,y4,hyes⟩
 have w4:=k34.wf
 have le4:=k34.le
 have k4:Kp H H4:=k3.trans k34
 have le_k4:=k4.le
 have y9:ae T4 9=p:=(hs4.at_ 9 (by decide)).trans v9
 have y10:ae T4 10=q:=(hs4.at_ 10 (by decide)).trans v10
 have hl4:T4.length=79:=hs4.len.trans hl3
 refine OF (fun T' H'=>∃ o,ae T' 4=o/\Kp H4 H'/\Bq genE t_api_Gen H4 H' o (L.map fun r=>(1,r))) rfl ?_ ?_
 ·refine zW (aC hl4 y9 hp.lenV) ?_
  refine ak H4 [4] (fun j vs H'=>∃ o,vs=[o]/\Bq genE t_api_Gen H4 H' o ((L.take j).map fun r=>(1,r))) (a:=0) (N:=L.length) rfl (by refine zW hl4 ?_; rfl) (zV hl4) (Nat.zero_le _) (by omega) (by simp only [List.length_set,hl4]; rfl) rfl (fun j vs H' m ⟨o,q1,q2⟩=>⟨o,q1,q2.mono (Sub.bump H' m)⟩) (Kp.up (Kp.refl w4) _) ⟨.nilSl,by exact zV (az hl4 y4),Bq.nil⟩ ?_ ?_
  ·rintro j T5 H5 _ hj hl5 hi5 hs5 hk5 ⟨o,hv,ho⟩
   have w5:=hk5.wf
   have le_hk5:=hk5.le
   have le5:=hk5.le
   simp only [List.map_cons,List.map_nil,List.cons.injEq,and_true] at hv
   have t51:ae T5 51=p:=(hs5.at_ 51 (by decide)).trans (zV (az hl4 y9))
   obtain ⟨w,hr,hld⟩:=cV ((hp.mono k34.sub).mono hk5.sub) hj
   have hix:=SlV.idx1 hp .i64 j hj
   have ow:=hr.one
   simp only [List.length_set,hl4] at hl5
   obtain ⟨n6,H6,e6,b6,k6,nx6,f6,-⟩:=Bq.push (ty2:=t_api_Gen) (bytes:=32) (id:=H5.next+7) (id2:=H5.next+6) (H:=H5.up 9) (cs:=[.int .u8 1,w]) (a:=(1,L[j])) (ho.mono (Sub.bump H5 9)) (by decide) (hk5.up 9) ⟨w,rfl,hr.mono (Sub.bump H5 9)⟩ (by omega) (by rw [cw]; omega) (w5.fresh (by omega)) (by omega) (by rw [cw]; omega) (w5.fresh (by omega)) (by omega) (by simp; omega) (by simp; omega)
   have e6':OC ((H5.up 9).put (H5.next+6) (.cells [.int .u8 1,w] t_api_Gen true)) (H5.next+7) 2 32 t_api_Gen o (.own (H5.next+6) 0 1 1 2 true)=some (.own (H5.next+7) 0 n6 n6 2 false,H6):=e6
   refine zW (jm hl5 t51 hi5 hix hld hv e6') ?_
   refine ⟨k6,_,rfl,?_⟩
   rw [List.take_succ_eq_append_getElem hj,List.map_append]
   exact b6
  ·rintro T5 H5 hl5 hs5 hk5 ⟨o,hv,ho⟩
   simp only [List.map_cons,List.map_nil,List.cons.injEq,and_true] at hv
   rw [List.take_length] at ho
   refine zW (az hl5 @aQ) ?_
   exact ⟨o,hv,hk5,ho⟩
 rintro T5 H5 hs5 ⟨o5',z4,k45,bo5⟩
 have w5:=k45.wf
 have le5:=k45.le
 have z10:ae T5 10=q:=(hs5.at_ 10 (by decide)).trans y10
 have hl5:T5.length=79:=hs5.len.trans hl4
 refine OF (fun T' H'=>∃ o,ae T' 4=o/\Kp H4 H'/\Bq genE t_api_Gen H4 H' o ((L.map fun r=>(1,r))++R.map fun r=>(Lin.kindOf r,r))) rfl ?_ ?_
 ·refine zW (aC hl5 z10 hq.lenV) ?_
  refine ak H4 [4] (fun j vs H'=>∃ o,vs=[o]/\Bq genE t_api_Gen H4 H' o ((L.map fun r=>(1,r))++(R.take j).map fun r=>(Lin.kindOf r,r))) (a:=0) (N:=R.length) rfl (by refine zW hl5 ?_; rfl) (zV hl5) (Nat.zero_le _) (by omega) (by simp only [List.length_set,hl5]; rfl) rfl (fun j vs H' m ⟨o,q1,q2⟩=>⟨o,q1,q2.mono (Sub.bump H' m)⟩) (k45.up _) ⟨o5',by exact zV (az hl5 z4),by rw [List.take_zero,List.map_nil,List.append_nil]; exact bo5.mono (Sub.bump H5 _)⟩ ?_ ?_
  ·rintro j T6 H6 _ hj hl6 hi6 hs6 hk6 ⟨o,hv,ho⟩
   have w6:=hk6.wf
   have le_hk6:=hk6.le
   have le6:=hk6.le
   simp only [List.map_cons,List.map_nil,List.cons.injEq,and_true] at hv
   have t63:ae T6 63=q:=(hs6.at_ 63 (by decide)).trans (zV (az hl5 z10))
   obtain ⟨w,hr,hld⟩:=cV ((hq.mono k34.sub).mono hk6.sub) hj
   have hix:=SlV.idx1 hq .i64 j hj
   have ow:=hr.one
   simp only [List.length_set,hl5] at hl6
   have hm:=List.getElem_mem hj
   refine zW (cJ hl6 t63 hi6 hix hld) ?_
   refine AnsH.eq (dual_first C zF (hr.mono (Kp.sub (H:=H6) zK)) (smR _ hm)) fun H7 hk7=>?_
   obtain ⟨k67,_,_⟩:=zT H6 zK hk7
   have k47:Kp H4 H7:=hk6.trans k67
   have le_k47:=k47.le
   have w7:=k67.wf
   by_cases h0:0<Lin.hd1 R[j]
   ·have hk3:Lin.kindOf R[j]=3:=by unfold Lin.kindOf; rw [if_pos h0]
    have hs0:(0:Int)<gI (Lin.hd1 R[j]):=(um _).2 h0
    obtain ⟨n8,H8,e8,b8,k8,nx8,f8,-⟩:=Bq.push (ty2:=t_api_Gen) (bytes:=32) (id:=H7.next+6) (id2:=H7.next+5) (H:=H7.up 8) (cs:=[.int .u8 3,w]) (a:=(3,R[j])) ((ho.mono k67.sub).mono (Sub.bump H7 8)) (by decide) (k47.up 8) ⟨w,rfl,(hr.mono k67.sub).mono (Sub.bump H7 8)⟩ (by omega) (by rw [cw]; omega) (w7.fresh (by omega)) (by omega) (by rw [cw]; omega) (w7.fresh (by omega)) (by omega) (by simp; omega) (by simp; omega)
    have e8':OC ((H7.up 8).put (H7.next+5) (.cells [.int .u8 3,w] t_api_Gen true)) (H7.next+6) 2 32 t_api_Gen o (.own (H7.next+5) 0 1 1 2 true)=some (.own (H7.next+6) 0 n8 n8 2 false,H8):=e8
    refine zW (bg hl6 hs0 hv e8') ?_
    refine ⟨k8,_,rfl,?_⟩
    rw [List.take_succ_eq_append_getElem hj,List.map_append,<- List.append_assoc]
    simp only [List.map_cons,List.map_nil,hk3]
    exact b8
   ·have hk3:Lin.kindOf R[j]=2:=by unfold Lin.kindOf; rw [if_neg h0]
    have hs0:¬ (0:Int)<gI (Lin.hd1 R[j]):=fun h=>h0 ((um _).1 h)
    obtain ⟨n8,H8,e8,b8,k8,nx8,f8,-⟩:=Bq.push (ty2:=t_api_Gen) (bytes:=32) (id:=H7.next+5) (id2:=H7.next+4) (H:=H7.up 7) (cs:=[.int .u8 2,w]) (a:=(2,R[j])) ((ho.mono k67.sub).mono (Sub.bump H7 7)) (by decide) (k47.up 7) ⟨w,rfl,(hr.mono k67.sub).mono (Sub.bump H7 7)⟩ (by omega) (by rw [cw]; omega) (w7.fresh (by omega)) (by omega) (by rw [cw]; omega) (w7.fresh (by omega)) (by omega) (by simp; omega) (by simp; omega)
    have e8':OC ((H7.up 7).put (H7.next+4) (.cells [.int .u8 2,w] t_api_Gen true)) (H7.next+5) 2 32 t_api_Gen o (.own (H7.next+4) 0 1 1 2 true)=some (.own (H7.next+5) 0 n8 n8 2 false,H8):=e8
    refine zW (bg hl6 hs0 hv e8') ?_
    refine ⟨k8,_,rfl,?_⟩
    rw [List.take_succ_eq_append_getElem hj,List.map_append,<- List.append_assoc]
    simp only [List.map_cons,List.map_nil,hk3]
    exact b8
  ·rintro T6 H6 hl6 hs6 hk6 ⟨o,hv,ho⟩
   simp only [List.map_cons,List.map_nil,List.cons.injEq,and_true] at hv
   rw [List.take_length] at ho
   refine zW (az hl6 @aQ) ?_
   exact ⟨o,hv,hk6,ho⟩
 rintro T6 H6 hs6 ⟨o6',a4,k46,bo6⟩
 have hl6:T6.length=79:=hs6.len.trans hl5
 refine WC.wb ?_
 refine zW (aC hl6 @a4 hrs) ?_
 have hG:Lin.gensP n l=(L.map fun r=>(1,r))++R.map fun r=>(Lin.kindOf r,r):=by
  unfold Lin.gensP
  rw [<- hany,hyes,<- hL,<- hR]
  rfl
 rw [hG]
 exact ⟨bo6.sl,k4.trans k46⟩
end
end Go.Proofs.YtboamamhcfhanaaGreat.Ev
