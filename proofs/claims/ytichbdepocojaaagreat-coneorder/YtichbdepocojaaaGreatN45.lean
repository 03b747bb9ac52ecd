/- A part. -/
import Derived.Test.YtichbdepocojaaaGreatN33
import Derived.Test.YtichbdepocojaaaGreatEch
import Derived.ChangeArms
import Derived.DataReads
import Derived.Test.YtichbdepocojaaaGreatEvDraw5
import Derived.KernelRfl
import Derived.WalkKit
import Derived.ProofKit
namespace Go.Proofs.YtichbdepocojaaaGreat.Ev
open Go Nn
set_option linter.all false
theorem Frm.wr {H0 H H':Heap} {v w:AV} {l m:List (List Int)} {c:Nat} (hf:Frm v H H') (h:Bl rowsE ae H0 H v l) (hw:Wr H0 H w m c) (hs:Sep v w):Wr H0 H' w m c:=by
 rcases hw with hw | ⟨b,cells,h1,h2,h3,h4,h5,h6⟩
 ·exact .inl hw
 ·exact .inr ⟨b,cells,h1,hf b _ h2 (fun e=>hs b e (by rw [h1]; rfl)),h3,h4,h5.mono (hf.subT h (by decide)),h6⟩
theorem Bo {α:Type} (p:α->Bool) (l:List α):(nl p l<0/\l.findIdx? p=none)\/∃ i:Nat,nl p l=(i:Int)/\l.findIdx? p=some i:=by
 unfold nl
 cases h:l.findIdx? p with
 | none=>exact .inl ⟨by simp,rfl⟩
 | some i=>exact .inr ⟨i,rfl,rfl⟩
section
variable {tab:Nat->Option au} {H:Heap} {s:AV}
theorem zY (C:Code tab) (hw:Wf H) {w va:AV} {r a:List Int} {bx e f:Nat} (hr:RowV H w r) (hb:H.get bx=some (.cells [va] ae true)) (ha:RowV H va a) (hra:a.length=r.length) (h64:a.length<=64) (hae:∀ z∈a,Bt e z) (hrf:∀ z∈r,Bt f z) (hbt:e+f+7<=8796093022208) :
  Ans tab (.fn dE [w,.ptr bx 0]) H fun v H'=>v=.bool (!decide (Lin.dot a r=0))/\Kp H H':=by
 refine cC C.P_cone_under_add_f1 (by decide) fun T hl g0 g1=>?_
 refine zW (aU hl g0 g1 hb) ?_
 refine AnsH.use (cone_dot C zF (ha.mono (Kp.sub (H:=H) zK)) (hr.mono (Kp.sub (H:=H) zK)) hra h64 hae hrf hbt) ?_
 rintro v H2 ⟨hr2,hk2⟩
 obtain ⟨k2,_,w2⟩:=zT H zK hk2
 refine zW (aH hl g0 g1) ?_
 refine AnsH.eq (cone_sign C (z:=Lin.dot a r) zF (hr2.mono (Kp.sub (H:=H2) zK)) ((lJ hae hrf hra h64).sm hbt)) fun H3 hk3=>?_
 have k3:Kp H H3:=Kp.trans k2 (Kp.trans zK hk3)
 have le_k3:=k3.le
 refine zW (aH hl g0 g1) ?_
 refine ⟨?_,zK⟩
 congr 1
 rw [Bool.eq_iff_iff]
 simp [ke]
theorem zZ (C:Code tab) {H0:Heap} {ub:Nat} {u:Lin.Under} {va:AV} {a:List Int} {eq:Bool} {d e f:Nat} (hk:Kp H0 H) (hub0:H0.next<=ub) (hu:UnderV H0 H ub u) (ha:RowV H0 va a) (hd0:0<d) (hd:d<=64) (hal:a.length=d) (hL:∀ r∈u.lines,r.length=d/\∀ z∈r,Bt f z) (hR:∀ r∈u.rays,r.length=d/\∀ z∈r,Bt f z) (hD:∀ r∈u.done,r.length=d/\∀ z∈r,Bt e z) (hD1:u.done.length<=1024) (hae:∀ z∈a,Bt e z) (hb:2*(e+f+7)+2*f+1<=8796093022208) (hbigL:u.lines.length<=1048576) (hbig:u.rays.length<=1048576) :
  Ans tab (.fn cq [.ptr ub 0,va,.bool eq]) H fun v H'=>v=.tup []/\Kp H0 H'/\UnderV H0 H' ub (Lin.addU a eq u):=by
 have hw:=hk.wf
 have hle:=hk.le
 have oa:=ha.one
 have haH:=ha.mono hk.sub
 have hu0:=hu
 obtain ⟨ql,qr,qd,cl,hub,hql,hqr,hqd,s1,s2,s3⟩:=hu
 have lub:=hw _ _ hub
 refine Aq C.P_cone_under_add rfl rfl (by decide) fun T hl g=>?_
 have hl:T.length=48:=hl
 have hrs:c_P_cone_under_add.results=[]:=rfl
 have g0:af T 0=.ptr ub 0:=g 0 (by simp)
 have g1:af T 1=va:=g 1 (by simp)
 have g2:af T 2=.bool eq:=g 2 (by simp)
 refine bZ ?_
 refine zW (dI hl g0 g1 g2 @aP) ?_
 refine bZ ?_
 refine zW (i9 hl g0 g1 g2 @aP hub) ?_
 refine AnsH.eq (oA C (l:=u.lines) zF (hql.sl.mono (Kp.sub (H:=H) zK)) (by omega) (fun r=>!decide (Lin.dot a r=0)) (fun r hr H' w hk' hw'=>zY C hk'.wf hw' (hk'.get (d8)) (haH.mono (Kp.sub (H:=H) (Kp.trans zK hk'))) (by rw [hal]; exact (hL r hr).1.symm) (by omega) hae (hL r hr).2 (by omega))) fun H2 hk2=>?_
 obtain ⟨k2,_,w2⟩:=zT H zK hk2
 have hbx:H2.get H.next=some (.cells [va] ae true):=hk2.get (d8)
 have hub2:=k2.get hub
 have n2:H.next+8<=H2.next:=hk2.le
 have k02:Kp H0 H2:=hk.trans k2
 have le_k02:=k02.le
 have hu2:UnderV H0 H2 ub u:=hu0.mono k2.sub
 refine zW (dI hl g0 g1 g2 @aP) ?_
 refine e8 (fun T' H'=>Kp H0 H'/\UnderV H0 H' ub ⟨(Lin.addU a eq u).lines,(Lin.addU a eq u).rays,u.done⟩/\H'.get H.next=some (.cells [va] ae true)) rfl ?_ ?_
 ·rcases Bo (fun r=>!decide (Lin.dot a r=0)) u.lines with ⟨hneg,hf⟩ | ⟨i,hi,hf⟩
  ·refine zW (i9 hl g0 g1 g2 hneg hbx) ?_
   refine AnsH.use (GS C (u:=u) (H0:=H0) zK hub0 (hu2.mono (Sub.bump H2 _)) (haH.mono (Kp.sub (H:=H) zK)) hd0 hd hal hR hD hD1 hae hb hbig) ?_
   rintro v H3 ⟨rfl,hk3,hu3,ho3⟩
   refine zW (az hl @bc) ?_
   refine ⟨zK,?_,ho3 _ _ hbx (by omega)⟩
   have e:Lin.addU a eq u=⟨u.lines,Lin.cutL u.done a eq u.rays,u.done++if eq then [] else [a]⟩:=by unfold Lin.addU; rw [hf]
   rw [e]
   exact hu3
  ·obtain ⟨hil,-,-⟩:=List.findIdx?_eq_some_iff_getElem.1 hf
   have hnn:¬ ((i:Int)<0):=by omega
   have gi:u.lines.getD i []=u.lines[i]:=by simp [hil]
   refine zW (mr hl g0 g1 g2 hi hnn hbx) ?_
   refine AnsH.use (Ep C (u:=u) (H0:=H0) (k02.up _) hub0 (hu2.mono (Sub.bump H2 _)) (haH.mono (Kp.sub (k2.up _))) hil hd hal hL hR hae hb (by omega) (by omega)) ?_
   rintro v H3 ⟨hk3,hrv,hu3,ho3,hq3⟩
   have w3:=hk3.wf
   have le_hk3:=hk3.le
   have orv:=hrv.one
   have hbx3:H3.get H.next=some (.cells [va] ae true):=ho3 _ _ hbx (by omega) fun q1 q2 q3 h=>by
    have h':H2.get ub=some (.cells [q1,q2,q3] aF true):=h
    rw [hub2] at h'
    cases h'
    intro hq
    have:=hqr.old hw hq
    omega
   have e:Lin.addU a eq u=⟨(u.lines.eraseIdx i).map (Lin.foldV a (Lin.upV a u.lines[i])),u.rays.map (Lin.foldV a (Lin.upV a u.lines[i]))++(if eq then [] else [Lin.upV a u.lines[i]]),u.done++if eq then [] else [a]⟩:=by
    unfold Lin.addU; rw [hf]; simp only [gi]
   rw [e]
   cases eq with
   | true =>
    refine zW (dI hl g0 g1 g2 @bc) ?_
    refine ⟨zK,?_,hbx3⟩
    try simp only [if_true,List.append_nil]
    exact hu3.mono (Sub.bump H3 2)
   | false =>
    obtain ⟨q1',hq1⟩:=hq3 ql qr qd hub2
    obtain ⟨ql3,qr3,qd3,cl3,hub3,hql3,hqr3,hqd3,t1,t2,t3⟩:=hu3
    have hub3':H3.get ub=some (.cells [ql3,qr3,qd3] aF true):=hub3
    rw [hq1] at hub3'
    cases hub3'
    have lub3:=w3 _ _ hub3
    have lbx3:=w3 _ _ hbx3
    have hqr3:Wr H0 H3 qr (u.rays.map (Lin.foldV a (Lin.upV a u.lines[i]))) (u.rays.map (Lin.foldV a (Lin.upV a u.lines[i]))).length:=hqr3
    have hrl:(u.rays.map (Lin.foldV a (Lin.upV a u.lines[i]))).length=u.rays.length:=by simp
    obtain ⟨n6,H6,e6,b6,k6,nx6,f6,u6⟩:=Bl.push1 (ty2:=ae) (bytes:=24) (id:=H3.next+9) (id2:=H3.next+8) (k:=13) (cs:=[v]) (a:=Lin.upV a u.lines[i]) hqr3.bl (by decide) hk3 ⟨v,rfl,hrv⟩ (by omega) (by omega) (by omega) (by omega) (by omega) (by omega) (by omega)
    have e6':eY ((H3.up 13).put (H3.next+8) (.cells [v] ae true)) (H3.next+9) 1 24 ae qr (.own (H3.next+8) 0 1 1 1 true)=some (.own (H3.next+9) 0 n6 n6 1 false,H6):=e6
    have hub6:=f6.other hqr3.bl hub3 (fun cs h=>by injection h with _ h2; exact absurd h2 (by decide))
    have lub6:=k6.wf _ _ hub6
    have w6:=k6.wf
    have hst:B5 (some (.cells [q1',qr,qd] aF true)) 1 1 (.own (H3.next+9) 0 n6 n6 1 false)=some (.cells [q1',.own (H3.next+9) 0 n6 n6 1 false,qd] aF true):=lU (bO _ _ _ _ _ _).fits (by simp)
    refine zW (ny hl g0 g1 g2 hub3 e6' hub6 hst @bc) ?_
    refine ⟨zK,⟨q1',.own (H3.next+9) 0 n6 n6 1 false,qd,cl3,aI _ _ _,(f6.wr hqr3.bl hql3 t1.symm).putT hub6 (by decide) (by decide),?_,(f6.wr hqr3.bl hqd3 t3).putT hub6 (by decide) (by decide),fun x hx hy=>?_,t2,fun x hx hy=>?_⟩,?_⟩
    ·simp only [Bool.false_eq_true,if_false]
     exact b6.wr.putT (e:=.cells [q1',.own (H3.next+9) 0 n6 n6 1 false,qd] aF true) hub6 (by decide) (by decide)
    ·cases hy
     have:=hql3.old w3 hx
     omega
    ·cases hx
     have:=hqd3.old w3 hy
     omega
    ·try rw [aw (by omega)]
     refine f6 _ _ hbx3 fun h=>?_
     have:=hqr.old hw h
     omega
 ·rintro T1 H1 hs1 ⟨k1,hu1,hbx1⟩
  have w1:=k1.wf
  have t0:af T1 0=.ptr ub 0:=(hs1.at_ 0 (by decide)).trans (zV (az hl g0))
  have t2:af T1 2=.bool eq:=(hs1.at_ 2 (by decide)).trans (zV (az hl g2))
  have t4:af T1 4=.ptr H.next 0:=(hs1.at_ 4 (by decide)).trans (zV hl)
  have hl1:T1.length=48:=hs1.len.trans (by simp only [List.length_set]; exact hl)
  have e:Lin.addU a eq u=⟨(Lin.addU a eq u).lines,(Lin.addU a eq u).rays,u.done++if eq then [] else [a]⟩:=by
   unfold Lin.addU; split <;> rfl
  rw [e]
  refine WC.wb ?_
  cases eq with
  | true =>
   refine zW (aH hl1 t2 hrs) ?_
   refine ⟨zK,?_⟩
   try simp only [if_true,List.append_nil]
   exact hu1.mono (Sub.bump H1 2)
  | false =>
   obtain ⟨ql3,qr3,qd3,cl3,hub3,hql3,hqr3,hqd3,s1',s2',s3'⟩:=hu1
   have lub3:=w1 _ _ hub3
   obtain ⟨n6,H6,e6,b6,k6,nx6,f6,u6⟩:=Bl.push1 (ty2:=ae) (bytes:=24) (id:=H1.next+9) (id2:=H1.next+8) (k:=13) (cs:=[va]) (a:=a) hqd3.bl (by decide) k1 ⟨va,rfl,ha.mono k1.sub⟩ (by omega) (by omega) (by omega) (by omega) (by omega) (by simp only; omega) (by simp only; omega)
   have e6':eY ((H1.up 13).put (H1.next+8) (.cells [va] ae true)) (H1.next+9) 1 24 ae qd3 (.own (H1.next+8) 0 1 1 1 true)=some (.own (H1.next+9) 0 n6 n6 1 false,H6):=e6
   have hub6:=f6.other hqd3.bl hub3 (fun cs h=>by injection h with _ h2; exact absurd h2 (by decide))
   have lub6:=k6.wf _ _ hub6
   have w6:=k6.wf
   refine zW (az hl1 t2) ?_
   refine aS ?_
   have hst:B5 (some (.cells [ql3,qr3,qd3] aF true)) 1 2 (.own (H1.next+9) 0 n6 n6 1 false)=some (.cells [ql3,qr3,.own (H1.next+9) 0 n6 n6 1 false] aF true):=lU (bO _ _ _ _ _ _).fits (Nat.le_refl 3)
   refine zD (pE hl1 t0 t4 hub3 hbx1 e6' hub6 hst @bM hrs) ?_
   refine ⟨zK,⟨ql3,qr3,.own (H1.next+9) 0 n6 n6 1 false,cl3,aI _ _ _,(f6.wr hqd3.bl hql3 s2'.symm).putT hub6 (by decide) (by decide),(f6.wr hqd3.bl hqr3 s3'.symm).putT hub6 (by decide) (by decide),?_,s1',fun x hx hy=>?_,fun x hx hy=>?_⟩⟩
   ·simp only [Bool.false_eq_true,if_false]
    exact b6.wr.putT (e:=.cells [ql3,qr3,.own (H1.next+9) 0 n6 n6 1 false] aF true) hub6 (by decide) (by decide)
   ·cases hy
    have:=hql3.old w1 hx
    omega
   ·cases hy
    have:=hqr3.old w1 hx
    omega
end
section
variable {tab:Nat->Option au} {H:Heap} {s:AV}
theorem cone_all (C:Code tab) (hw:Wf H) {d:Nat} (hd:d<=64):Ans tab (.fn mJ [.int .i64 (d:Int)]) H fun v H'=>Bl rowsE ae H H' v (Lin.startU d).lines/\Kp H H':=by
 refine eh C.cone_all (by decide) fun T hl g0=>?_
 refine zW (az hl g0) ?_
 refine am H [2] (fun j vs H'=>∃ o,vs=[o]/\Bl rowsE ae H H' o ((List.range j).map (Lin.unitV d))) (a:=0) (N:=d) rfl (by refine zW (az hl g0) ?_; rfl) (zV (az hl g0)) (Nat.zero_le _) (by omega) (by simp only [List.length_set,hl]; rfl) rfl (fun j vs H' m ⟨o,h1,h2⟩=>⟨o,h1,h2.mono (Sub.bump H' m)⟩) zK ⟨.nilSl,by exact zV (az hl g0),Bl.nil⟩ ?_ ?_
 ·rintro j T1 H1 _ hj hl1 hi1 hs1 hk1 ⟨o,hv,ho⟩
  have w1:=hk1.wf
  have le_hk1:=hk1.le
  have le1:=hk1.le
  simp only [List.map_cons,List.map_nil,List.cons.injEq,and_true] at hv
  have t0:af T1 0=.int .i64 (d:Int):=(hs1.at_ 0 (by decide)).trans (zV (az hl g0))
  simp only [List.length_set,hl] at hl1
  obtain ⟨cells,hcells⟩:∃ cells,cells=(List.replicate d [AV.bool false,AV.nilSl]).flatten:=⟨_,rfl⟩
  have hmk:∀ H':Heap,EN H' (H1.next+3) aa 2 32 [.bool false,.nilSl] (.int .i64 (d:Int)) (.int .i64 (d:Int))=some (.own (H1.next+3) 0 d d 2 true,H'.put (H1.next+3) (.cells cells aa true)):=fun H'=>by rw [hcells]; exact jI _ _ _ _ _ _ _ _ _ (by omega) (by omega) rfl
  refine zW (aU hl1 t0 hi1 hmk) ?_
  refine AnsH.use (whole_Of C (n:=1) zF (by omega) (by omega)) ?_
  rintro v H2 ⟨⟨w,rfl,hn⟩,hk2⟩
  obtain ⟨k2,_,w2⟩:=zT H1 zK hk2
  have ow:=hn.one
  have hb2:=hk2.get (b:=H1.next+3) (e:=.cells cells aa true) (d8)
  have lt2:=w2 _ _ hb2
  have hclen:cells.length=d*2:=by rw [hcells]; simp
  have hst:B5 (some (.cells cells aa true)) 2 (0+j*2) (.agg [.bool false,w])=some (.cells (cells.take (0+j*2)++[.bool false,w]++cells.drop (0+j*2+2)) aa true):=lU (GH (aX _) ow) (by omega)
  have hio:fq 2 (.own (H1.next+3) 0 d d 2 true) (.int .i64 (j:Int))=some (.ptr (H1.next+3) (0+j*2)):=oP hj
  rw [Nat.zero_add] at hst hio
  obtain ⟨cells2,hc2⟩:∃ c,c=cells.take (j*2)++[.bool false,w]++cells.drop (j*2+2):=⟨_,rfl⟩
  rw [<- hc2] at hst
  have hz:intE.R H2 [.bool false,.nilSl] 0:=⟨.nilSl,by simp,gD H2⟩
  have hcl:Cells intE H2 cells (List.replicate d 0):=by rw [hcells]; exact rh hz _
  have hcl2:Cells intE H2 cells2 ((List.replicate d 0).set j 1):=by rw [hc2]; exact hcl.set (i:=j) (by simpa using hj) ⟨w,rfl,hn⟩
  have m3:NoTy [ad] H2 (H1.next+3):=NoTy.ty hb2 (by decide)
  obtain ⟨Hx,hHx⟩:∃ Hx,Hx=H2.put (H1.next+3) (.cells cells2 aa true):=⟨_,rfl⟩
  have kx:Kp H1 Hx:=by rw [hHx]; exact zK
  have k0x:Kp H Hx:=hk1.trans kx
  have nx:Hx.next=H2.next:=by rw [hHx]; rfl
  have hclx:Cells intE Hx cells2 ((List.replicate d 0).set j 1):=by rw [hHx]; exact Cells.mono (E:=intE) zS hcl2
  have hrow:RowV Hx (.own (H1.next+3) 0 d d 2 true) (Lin.unitV d j):=by
   have:Own intE aa H1 Hx (H1.next+3) true (.own (H1.next+3) 0 d d 2 true) ((List.replicate d 0).set j 1):=⟨cells2,by simp [intE],by rw [hHx]; exact aI _ _ _,hclx,by omega⟩
   exact this.sl
  have orr:=hrow.one
  obtain ⟨n6,H6,e6,b6,k6,nx6,f6,u6⟩:=Bl.push1 (ty2:=ae) (bytes:=24) (id:=Hx.next+3) (id2:=Hx.next+2) (k:=5) (cs:=[.own (H1.next+3) 0 d d 2 true]) (a:=Lin.unitV d j) (ho.mono kx.sub) (by decide) k0x ⟨_,rfl,hrow⟩ (by omega) (by omega) (by omega) (by omega) (by omega) (by simp; omega) (by simp; omega)
  have e6':eY ((((H2.up 5).put (H1.next+3) (.cells cells2 aa true))).put (H2.next+2) (.cells [.own (H1.next+3) 0 d d 2 true] ae true)) (H2.next+3) 1 24 ae o (.own (H2.next+2) 0 1 1 1 true)=some (.own (H2.next+3) 0 n6 n6 1 false,H6):=by rw [hHx] at e6; exact e6
  rw [nx] at b6
  refine zW (i9 hl1 hio hb2 hst hv e6') ?_
  refine ⟨k6,_,rfl,?_⟩
  rw [List.range_succ,List.map_append]
  exact b6
 ·rintro T1 H1 hl1 hs1 hk1 ⟨o,hv,ho⟩
  have w1:=hk1.wf
  have le_hk1:=hk1.le
  simp only [List.map_cons,List.map_nil,List.cons.injEq,and_true] at hv
  simp only [List.length_set,hl] at hl1
  refine zW (az hl1 hv) ?_
  exact ⟨ho,hk1⟩
abbrev ND (H:Heap) (v:AV) (Ls:List (List (List Int))):Prop:=tx (oG rowsE ae) qc H v Ls
theorem cone_long (C:Code tab) (hw:Wf H) {Ls:List (List (List Int))} {d:Nat} (hs:ND H s Ls) (hbig:Ls.length<1099511627776) (hd:∀ L∈Ls,∀ r∈L,r.length=d):Ans tab (.fn jl [s]) H fun v H'=>v=.int .i64 (if Ls.any (fun L=>!L.isEmpty) then (d:Int) else -1)/\Kp H H':=by
 refine eh C.cone_long (by decide) fun T hl g0=>?_
 refine zW (aH hl g0 hs.lenV) ?_
 refine am H [] (fun j _ _=>∀ k (h:k<Ls.length),k<j->Ls[k]=[]) (a:=0) (N:=Ls.length) rfl (by refine zW (az hl g0) ?_; rfl) (zV (az hl g0)) (Nat.zero_le _) (by omega) (by simp only [List.length_set,hl]; rfl) rfl (fun _ _ _ _ h=>h) zK (fun k _ h=>by omega) ?_ ?_
 ·intro j T1 H1 _ hj hl1 hi1 hs1 hk1 hP
  have w1:=hk1.wf
  have le_hk1:=hk1.le
  have t5:af T1 5=s:=(hs1.at_ 5 (by decide)).trans (zV (az hl g0))
  obtain ⟨w,hr,hld⟩:=SlV.at1 (hs.mono hk1.sub) (List.getElem?_eq_getElem hj)
  have hr:bA H1 w Ls[j]:=hr
  have hix:=SlV.idx1 hs .i64 j hj
  simp only [List.length_set,hl] at hl1
  rcases Nat.eq_zero_or_pos (Ls[j]).length with h0 | h0
  ·have he:=List.length_eq_zero_iff.1 h0
   have hlv:lenV w=some (.int .i64 0):=by rw [hr.lenV,h0]; rfl
   refine zW (i9 hl1 t5 hi1 hix hld hlv) ?_
   refine ⟨zK,fun k h hk=>?_⟩
   by_cases e:k=j
   ·subst e; exact he
   ·exact hP k h (by omega)
  ·obtain ⟨w0,hr0,hld0⟩:=cG hr h0
   have hix0:fq 1 w (.int .i64 0)=some (aV w 0):=SlV.idx1 hr .i64 0 h0
   have l0:lenV w0=some (.int .i64 (d:Int)):=by rw [hr0.lenV,hd _ (List.getElem_mem hj) _ (List.getElem_mem h0)]
   have hpos:(0:Int)<((Ls[j]).length:Int):=by omega
   refine zW (sY hl1 t5 hi1 hix hld hr.lenV hpos h0 hix0 hld0 l0) ?_
   refine ⟨?_,zK⟩
   rw [if_pos]
   rw [List.any_eq_true]
   exact ⟨_,List.getElem_mem hj,by cases h:Ls[j] with | nil=>rw [h] at h0; simp at h0 | cons a l=>rfl⟩
 ·intro T1 H1 hl1 hs1 hk1 hP
  simp only [List.length_set,hl] at hl1
  refine zW hl1 ?_
  refine ⟨?_,zK⟩
  rw [if_neg]
  rw [Bool.not_eq_true,List.any_eq_false]
  intro L hL
  obtain ⟨k,hk,rfl⟩:=List.getElem_of_mem hL
  rw [hP k hk hk]; simp
def cj (A B:List (List (Bool × List Nat))):Int :=
 if aZ A≠0 then aZ A else if aZ B≠0 then aZ B else if A≠[]/\B≠[]/\(A.getD 0 []).length≠(B.getD 0 []).length then 70 else 0
theorem cone_checked (C:Code tab) (hw:Wf H) {va vb:AV} {A B:List (List (Bool × List Nat))} (ha:gL H va A) (hb:gL H vb B) (hA:A.length<1099511627776) (hB:B.length<1099511627776) (ba:∀ r∈A,yv r) (bb:∀ r∈B,yv r) :
  Ans tab (.fn fl [va,vb]) H fun v H'=>v=.int .i64 (cj A B)/\Kp H H':=by
 have oa:=ha.one
 have ob:=hb.one
 refine Aq C.cone_checked rfl rfl (by decide) fun T hl g=>?_
 have hl:T.length=39:=hl
 have hrs:c_cone_checked.results=[(4,none)]:=rfl
 have g0:af T 0=va:=g 0 (by simp)
 have g1:af T 1=vb:=g 1 (by simp)
 refine bZ ?_
 refine zW (aU hl g0 g1 @aP) ?_
 refine e8 (fun T' H'=>aZ A=0/\aZ B=0/\Kp H H') rfl ?_ ?_
 ·refine zW (aH hl g0 g1) ?_
  refine bV H [11] (fun k vs H'=>∃ i:Nat,vs=[.int .i64 (i:Int)]/\i+k=2/\(1<=i->aZ A=0)/\(2<=i->aZ B=0)) 2 (by simp only [List.length_set]; exact hl) rfl zK ⟨0,by refine zW hl ?_; rfl,rfl,by omega,by omega⟩ ?_
  rintro k T1 H1 hl1 hs1 hk1 ⟨i,hv,hik,hc1,hc2⟩
  have w1:=hk1.wf
  have le_hk1:=hk1.le
  simp only [List.map_cons,List.map_nil,List.cons.injEq,and_true] at hv
  have t10:af T1 10=.agg [va,vb]:=(hs1.at_ 10 (by decide)).trans (zV (aH hl g0 g1))
  have:i=0\/i=1\/i=2:=by omega
  rcases this with rfl | rfl | rfl
  ·have hv:af T1 11=.int .i64 0:=hv
   refine zW (aH hl1 hv t10) ?_
   refine AnsH.eq (rows_Check C zF (ha.mono (Kp.sub (H:=H) zK)) (by omega) ba) fun H2 hk2=>?_
   obtain ⟨k2,_,w2⟩:=zT H zK hk2
   by_cases h:aZ A=0
   ·refine zW (aH hl1 hv h) ?_
    exact ⟨zK,1,by omega,1,rfl,rfl,(by first | exact fun _=>h | exact fun _=>trivial),by omega⟩
   ·refine zW (dI hl1 hv h @zX hrs) ?_
    exact ⟨by unfold cj; rw [if_pos h],zK⟩
  ·have hv:af T1 11=.int .i64 1:=hv
   refine zW (aH hl1 hv t10) ?_
   refine AnsH.eq (rows_Check C zF (hb.mono (Kp.sub (H:=H) zK)) (by omega) bb) fun H2 hk2=>?_
   obtain ⟨k2,_,w2⟩:=zT H zK hk2
   have hA0:=hc1 (by omega)
   by_cases h:aZ B=0
   ·refine zW (aH hl1 hv h) ?_
    exact ⟨zK,0,by omega,2,rfl,rfl,(by first | exact fun _=>hA0 | exact fun _=>trivial),(by first | exact fun _=>h | exact fun _=>trivial)⟩
   ·refine zW (dI hl1 hv h @zX hrs) ?_
    refine ⟨?_,zK⟩
    unfold cj
    rw [if_neg (by simpa using hA0),if_pos h]
  ·have hv:af T1 11=.int .i64 2:=hv
   refine zW (aU hl1 hv t10 @bc) ?_
   exact ⟨hc1 (by omega),hc2 (by omega),zK⟩
 ·rintro T1 H1 hs1 ⟨c1,c2,k1⟩
  have w1:=k1.wf
  have t0:af T1 0=va:=(hs1.at_ 0 (by decide)).trans (zV (az hl g0))
  have t1:af T1 1=vb:=(hs1.at_ 1 (by decide)).trans (zV (az hl g1))
  have hl1:T1.length=39:=hs1.len.trans (by simp only [List.length_set]; exact hl)
  have hcode:cj A B=if A≠[]/\B≠[]/\(A.getD 0 []).length≠(B.getD 0 []).length then 70 else 0:=by
   unfold cj
   rw [if_neg (by simpa using c1),if_neg (by simpa using c2)]
  refine WC.wb ?_
  refine zW (aH hl1 t0 t1) ?_
  rcases Nat.eq_zero_or_pos A.length with a0 | a0
  ·have hlA:lenV va=some (.int .i64 0):=by rw [ha.lenV,a0]; rfl
   have hA0:=List.length_eq_zero_iff.1 a0
   refine aS ?_
   refine zD (i9 hl1 t0 t1 hlA hrs @bM) ?_
   exact ⟨by rw [hcode,if_neg (fun h=>h.1 hA0)],zK⟩
  ·have posA:(0:Int)<(A.length:Int):=by omega
   have hAn:A≠[]:=fun e=>by rw [e] at a0; simp at a0
   rcases Nat.eq_zero_or_pos B.length with b0 | b0
   ·have hlB:lenV vb=some (.int .i64 0):=by rw [hb.lenV,b0]; rfl
    have hB0:=List.length_eq_zero_iff.1 b0
    refine aS ?_
    refine zD (ny hl1 t0 t1 ha.lenV posA a0 hlB hrs @bM) ?_
    exact ⟨by rw [hcode,if_neg (fun h=>h.2.1 hB0)],zK⟩
   ·have posB:(0:Int)<(B.length:Int):=by omega
    have hBn:B≠[]:=fun e=>by rw [e] at b0; simp at b0
    obtain ⟨wa,hra,hlda⟩:=ri (ha.mono k1.sub) a0
    obtain ⟨wb,hrb,hldb⟩:=ri (hb.mono k1.sub) b0
    have xa:fq 1 va (.int .i64 0)=some (aV va 0):=SlV.idx1 ha .i64 0 a0
    have xb:fq 1 vb (.int .i64 0)=some (aV vb 0):=SlV.idx1 hb .i64 0 b0
    have la:=hra.lenV
    have lb:=hrb.lenV
    have ga:A.getD 0 []=A[0]:=by simp [a0]
    have gb:B.getD 0 []=B[0]:=by simp [b0]
    by_cases he:A[0].length=B[0].length
    ·have he':((A[0].length:Nat):Int)=((B[0].length:Nat):Int):=by omega
     refine aS ?_
     refine zD (JC hl1 t0 t1 ha.lenV hb.lenV posA a0 posB @b0 xa xb hlda hldb la lb he' he hrs @bM) ?_
     exact ⟨by rw [hcode,ga,gb,if_neg (fun h=>h.2.2 he)],zK⟩
    ·have he':¬ ((A[0].length:Nat):Int)=((B[0].length:Nat):Int):=by omega
     refine aS ?_
     refine zD (JC hl1 t0 t1 ha.lenV hb.lenV posA a0 posB @b0 xa xb hlda hldb la lb he' he hrs @bM) ?_
     exact ⟨by rw [hcode,ga,gb,if_pos ⟨hAn,hBn,he⟩],zK⟩
end
end Go.Proofs.YtichbdepocojaaaGreat.Ev
namespace Go.Proofs.YtichbdepocojaaaGreat.Lin
set_option linter.all false
theorem xh:∀ (n:Nat) (l:List (List Bool)),l.Nodup->(∀ b∈l,b.length=n)->l.length<=2^n
 | 0,[],_,_=>by simp
 | 0,[a],_,_=>by simp
 | 0,a :: b :: l,hn,h=>by
  have ha:=List.length_eq_zero_iff.1 (h a (by simp))
  have hb:=List.length_eq_zero_iff.1 (h b (by simp))
  subst ha; subst hb
  simp at hn
 | n+1,l,hn,h=>by
  have part:∀ v:Bool,((l.filter fun b=>b.head? == some v).map List.tail).length<=2^n:=fun v=>by
   refine xh n _ ?_ fun b hb=>?_
   ·refine List.pairwise_map.2 (List.Pairwise.imp_of_mem (fun {x y} hx hy hne e=>hne ?_) (List.Pairwise.filter _ hn))
    have hx:=(List.mem_filter.1 hx).2
    have hy:=(List.mem_filter.1 hy).2
    cases x with
    | nil=>simp at hx
    | cons a x =>
     cases y with
     | nil=>simp at hy
     | cons b y =>
      simp at hx hy e
      rw [hx,hy,e]
   ·obtain ⟨c,hc,rfl⟩:=List.mem_map.1 hb
    have:=h c (List.mem_filter.1 hc).1
    simp [this]
  have h1:=part true
  have h2:=part false
  rw [List.length_map] at h1 h2
  have h3:l.length=(l.filter fun b=>b.head? == some true).length+(l.filter fun b=>b.head? == some false).length:=by
   rw [<- List.countP_eq_length_filter,<- List.countP_eq_length_filter,List.length_eq_countP_add_countP (p:=fun b:List Bool=>b.head? == some true)]
   congr 1
   refine List.countP_congr fun b hb=>?_
   have:=h b hb
   cases b with
   | nil=>simp at this
   | cons a b=>cases a <;> simp
  rw [Nat.pow_succ]; omega
theorem DD.count {d:Nat} {E L:V->Prop} {dn R:List V} (h:DD d E (· ∈ dn) L R):R.length<=2^dn.length:=by
 have hn:(R.map fun r=>dn.map fun i=>decide (dot i r=0)).Nodup:=by
  refine List.pairwise_map.2 (h.apart.imp fun hne e=>hne fun i hi=>?_)
  have:=List.map_inj_left.1 e i hi
  simpa using this
 have:=xh dn.length _ hn fun b hb=>by obtain ⟨r,-,rfl⟩:=List.mem_map.1 hb; simp
 simpa using this
theorem gensU_done {d:Nat} {eqs ineqs:List V} (h1:∀ a∈eqs,a.length=d) (h2:∀ a∈ineqs,a.length=d):(gensU d eqs ineqs).done=ineqs:=by
 obtain ⟨g1,g2⟩:=tu eqs (startU d) _ lT h1
 obtain ⟨g3,g4⟩:=rO ineqs _ g1 h2
 exact g4.trans (by rw [g2]; simp [startU])
theorem uP {d:Nat} (eq:Bool):∀ (l:List V) (u:Under) (E:V->Prop) (ps:List (Nat × V)),DD d E (· ∈ u.done) (· ∈ u.lines) u.rays->Jx d ps u->(∀ a∈l,a.length=d)->∃ ps',Jx d ps' (l.foldl (fun u a=>addU a eq u) u)
 | [],u,E,ps,_,h,_=>⟨ps,h⟩
 | a :: l,u,E,ps,hdd,h,hl=>by
  obtain ⟨ps',h'⟩:=I3 (a:=a) hdd h eq
  exact uP eq l (addU a eq u) _ ps' (BR hdd (hl a (List.mem_cons_self ..)) eq) h' fun b hb=>hl b (List.mem_cons_of_mem _ hb)
theorem D7 {d:Nat} {eqs ineqs:List V} (h1:∀ a∈eqs,a.length=d) (h2:∀ a∈ineqs,a.length=d):∃ ps,Jx d ps (gensU d eqs ineqs):=by
 obtain ⟨g1,-⟩:=tu eqs (startU d) _ lT h1
 obtain ⟨ps,hp⟩:=uP true eqs (startU d) _ _ lT (En d) h1
 exact uP false ineqs _ _ ps g1 hp h2
theorem EJ (a:V) (eq:Bool) (u:Under):(addU a eq u).lines.length<=u.lines.length:=by
 unfold addU
 split
 ·exact Nat.le_refl _
 ·simp only [List.length_map]
  exact List.length_eraseIdx_le ..
theorem pV (eq:Bool):∀ (l:List V) (u:Under),(l.foldl (fun u a=>addU a eq u) u).lines.length<=u.lines.length
 | [],u=>Nat.le_refl _
 | a :: l,u=>Nat.le_trans (pV eq l (addU a eq u)) (EJ a eq u)
theorem gensU_lines (d:Nat) (eqs ineqs:List V):(gensU d eqs ineqs).lines.length<=d:=by
 refine Nat.le_trans (pV false ineqs _) (Nat.le_trans (pV true eqs _) ?_)
 simp [startU]
theorem gens_mid {d M:Nat} (hd:0<d) (hM:0<M) {eqs ineqs:List V} (h1:∀ a∈eqs,a.length=d/\Bd M a) (h2:∀ a∈ineqs,a.length=d/\Bd M a) :
  (∀ l∈(gensU d eqs ineqs).lines,l.length=d/\Bd ((2*d*M)^2^d) l)/\(∀ r∈(gensU d eqs ineqs).rays,r.length=d/\Bd ((2*d*M)^2^d) r)/\(gensU d eqs ineqs).rays.length<=2^ineqs.length:=by
 have e1:∀ a∈eqs,a.length=d:=fun a ha=>(h1 a ha).1
 have e2:∀ a∈ineqs,a.length=d:=fun a ha=>(h2 a ha).1
 have hdd:=zG e1 e2
 obtain ⟨ps,hp⟩:=D7 e1 e2
 have hdn:=gensU_done e1 e2
 obtain ⟨b1,b2⟩:=GP (Es:=eqs) hd hM (by rw [hdn]; exact hdd) hp h1 (by rw [hdn]; exact h2)
 exact ⟨fun l hl=>⟨hdd.lenL l hl,b1 l hl⟩,fun r hr=>⟨hdd.lenR r hr,b2 r hr⟩,hdd.count⟩
theorem FJ {d:Nat} {E I:V->Prop} {L R dn:List V} (h:vY d E I L R):Jx d (L.map fun l=>(pv l,l)) ⟨L,R,dn⟩:=by
 refine ⟨by simp [List.map_map,Function.comp_def],fun q hq=>?_,fun q hq=>?_,?_,fun r hr q hq=>?_,h.form.cont,h.cont⟩
 ·obtain ⟨l,hl,rfl⟩:=List.mem_map.1 hq
  exact (h.form.pos hl).2.2
 ·obtain ⟨l,hl,rfl⟩:=List.mem_map.1 hq
  have:=(h.form.pos hl).2.1
  simp only
  omega
 ·exact List.pairwise_map.2 h.form.clear
 ·obtain ⟨l,hl,rfl⟩:=List.mem_map.1 hq
  exact h.rest r hr l hl
theorem told_bd {d M:Nat} (hd:0<d) (hM:0<M) {eqs ineqs L R:List V} (h:vY d (· ∈ eqs) (· ∈ ineqs) L R) (h1:∀ a∈eqs,a.length=d/\Bd M a) (h2:∀ a∈ineqs,a.length=d/\Bd M a) :
  (∀ l∈L,Bd ((2*d*M)^2^d) l)/\(∀ r∈R,Bd ((2*d*M)^2^d) r) :=
 GP (u:=⟨L,R,ineqs⟩) hd hM h.dd (FJ h) h1 h2
theorem pow_bd {d m:Nat} (hd:d<=6):(2*d*2^m)^2^d<=2^(64*(m+4)):=by
 have h1:2*d*2^m<=2^(m+4):=by
  rw [Nat.pow_add,Nat.mul_comm (2^m)]
  exact Nat.mul_le_mul_right _ (by omega)
 have h2:2^d<=2^6:=Nat.pow_le_pow_right (by decide) hd
 have h3:2^d*(m+4)<=64*(m+4):=Nat.mul_le_mul_right _ h2
 calc (2*d*2^m)^2^d<=(2^(m+4))^2^d:=Nat.pow_le_pow_left h1 _
  _=2^((m+4)*2^d):=(Nat.pow_mul ..).symm
  _<=2^(64*(m+4)):=Nat.pow_le_pow_right (by decide) (by rw [Nat.mul_comm]; exact h3)
def twoW:List V->List V
 | []=>[]
 | e :: _=>[e,scl (-1) e]
theorem A8 {d:Nat} {eqs ineqs sums:List V} (h1:∀ a∈eqs,a.length=d) (h2:∀ a∈ineqs,a.length=d) (hs:∀ s∈sums,∃ a∈ineqs,∃ b∈ineqs,s=mix 1 a 1 b) :
  ∀ x,Keep d (· ∈ eqs) (· ∈ ineqs) x ↔ Keep d (· ∈ eqs.tail) (· ∈ ineqs.reverse++sums++twoW eqs) x:=by
 intro x
 constructor
 ·intro h
  refine ⟨h.len,fun e he=>h.eq e (List.mem_of_mem_tail he),fun i hi=>?_⟩
  rcases List.mem_append.1 hi with hi | hi
  ·rcases List.mem_append.1 hi with hi | hi
   ·exact h.ge i (List.mem_reverse.1 hi)
   ·obtain ⟨a,ha,b,hb,rfl⟩:=hs i hi
    have g1:=h.ge a ha
    have g2:=h.ge b hb
    rw [dot_comm] at g1 g2 ⊢
    rw [aT _ _ _ ((h2 a ha).trans (h2 b hb).symm)]
    omega
  ·cases eqs with
   | nil=>cases hi
   | cons e es =>
    have g:=h.eq e (List.mem_cons_self ..)
    rcases List.mem_cons.1 hi with rfl | hi
    ·omega
    ·obtain rfl:=List.mem_singleton.1 hi
     rw [dot_comm,dot_scl,dot_comm,g]
     simp
 ·intro h
  refine ⟨h.len,fun e he=>?_,fun i hi=>h.ge i (List.mem_append_left _ (List.mem_append_left _ (List.mem_reverse.2 hi)))⟩
  cases eqs with
  | nil=>cases he
  | cons e0 es =>
   rcases List.mem_cons.1 he with rfl | he
   ·have g1:=h.ge e (List.mem_append_right _ (by simp [twoW]))
    have g2:=h.ge (scl (-1) e) (List.mem_append_right _ (by simp [twoW]))
    rw [dot_comm,dot_scl,dot_comm] at g2
    omega
   ·exact h.eq e he
theorem cone_order {d:Nat} {eqs ineqs sums:List V} (h1:∀ a∈eqs,a.length=d) (h2:∀ a∈ineqs,a.length=d) (hs:∀ s∈sums,∃ a∈ineqs,∃ b∈ineqs,s=mix 1 a 1 b) {rest other:List V} (hr:rest=eqs.tail) (ho:other=ineqs.reverse++sums++twoW eqs) :
  gensL d rest other=gensL d eqs ineqs/\gensR d rest other=gensR d eqs ineqs:=by
 subst hr; subst ho
 have t1:=gens_told h1 h2
 have t2:=gens_told (d:=d) (eqs:=eqs.tail) (ineqs:=ineqs.reverse++sums++twoW eqs) (fun a ha=>h1 a (List.mem_of_mem_tail ha)) fun a ha=>by
  rcases List.mem_append.1 ha with ha | ha
  ·rcases List.mem_append.1 ha with ha | ha
   ·exact h2 a (List.mem_reverse.1 ha)
   ·obtain ⟨x,hx,y,hy,rfl⟩:=hs a ha
    exact mix_length (h2 x hx) (h2 y hy)
  ·cases eqs with
   | nil=>cases ha
   | cons e es =>
    have g:=h1 e (List.mem_cons_self ..)
    rcases List.mem_cons.1 ha with rfl | ha
    ·exact g
    ·obtain rfl:=List.mem_singleton.1 ha
     exact ah g
 have:=yN t1 t2 (A8 h1 h2 hs)
 exact ⟨this.1.symm,this.2.symm⟩
theorem told_nodup {d:Nat} {E I:V->Prop} {L R:List V} (h:vY d E I L R):R.Nodup:=h.dd.apart.imp fun hne e=>hne fun i hi=>by rw [e]
end Go.Proofs.YtichbdepocojaaaGreat.Lin
namespace Go.Proofs.YtichbdepocojaaaGreat.Ev
open Go Nn
set_option linter.all false
theorem GD (d:Nat) (E:List (List Int)) {j:Nat} (h:j<E.length):Lin.gensU d (E.take (j+1)) []=Lin.addU E[j] true (Lin.gensU d (E.take j) []):=by
 unfold Lin.gensU
 rw [List.take_succ_eq_append_getElem h,List.foldl_append]; rfl
theorem GC (d:Nat) (E I:List (List Int)) {j:Nat} (h:j<I.length):Lin.gensU d E (I.take (j+1))=Lin.addU I[j] false (Lin.gensU d E (I.take j)):=by
 unfold Lin.gensU
 rw [List.take_succ_eq_append_getElem h,List.foldl_append]; rfl
theorem jA {m:Nat} {x:List Int} (h:Lin.Bd (2^m) x):∀ z∈x,Bt (m+1) z:=fun z hz=>by
 have h1:=h.mem z hz
 have h2:0<2^m:=Nat.pow_pos (by decide)
 unfold Bt
 rw [Nat.pow_succ]
 omega
theorem D9 {d:Nat} {l:List (List Int)} (hl:∀ r∈l,r.length=d):Lin.formF (Lin.formF l)=Lin.formF l:=by
 have h:=Lin.form_ech hl
 have h2:=Lin.form_ech h.1.len
 exact h2.1.unique h.1 h2.2
structure Jw (d f:Nat) (u:Lin.Under) (I:List (List Int)):Prop where
 lines:∀ l∈u.lines,l.length=d/\∀ z∈l,Bt f z
 rays:∀ r∈u.rays,r.length=d/\∀ z∈r,Bt f z
 few:u.rays.length<=2^I.length
 some:u.lines.length<=d
 done:u.done=I
theorem KM {d m:Nat} (hd0:0<d) (hd:d<=6) {E I:List (List Int)} (h1:∀ a∈E,a.length=d/\Lin.Bd (2^m) a) (h2:∀ a∈I,a.length=d/\Lin.Bd (2^m) a):Jw d (64*(m+4)+1) (Lin.gensU d E I) I:=by
 obtain ⟨g1,g2,g3⟩:=Lin.gens_mid hd0 (Nat.pow_pos (n:=m) (show 0<2 by decide)) h1 h2
 exact ⟨fun l hl=>⟨(g1 l hl).1,jA ((g1 l hl).2.mono (Lin.pow_bd hd))⟩,fun l hl=>⟨(g2 l hl).1,jA ((g2 l hl).2.mono (Lin.pow_bd hd))⟩,g3,Lin.gensU_lines d E I,Lin.gensU_done (fun a ha=>(h1 a ha).1) (fun a ha=>(h2 a ha).1)⟩
theorem tk {d m:Nat} (hd0:0<d) (hd:d<=6) {E I:List (List Int)} (h1:∀ a∈E,a.length=d/\Lin.Bd (2^m) a) (h2:∀ a∈I,a.length=d/\Lin.Bd (2^m) a) :
  (∀ l∈Lin.gensL d E I,l.length=d/\Lin.Bd (2^(64*(m+4))) l)/\∀ r∈Lin.gensR d E I,r.length=d/\Lin.Bd (2^(64*(m+4))) r:=by
 have t:=Lin.gens_told (fun a ha=>(h1 a ha).1) (fun a ha=>(h2 a ha).1)
 obtain ⟨g1,g2⟩:=Lin.told_bd hd0 (Nat.pow_pos (n:=m) (show 0<2 by decide)) t h1 h2
 exact ⟨fun l hl=>⟨t.dd.lenL l hl,(g1 l hl).mono (Lin.pow_bd hd)⟩,fun l hl=>⟨t.dd.lenR l hl,(g2 l hl).mono (Lin.pow_bd hd)⟩⟩
theorem KX {e d:Nat} (hd:d<=6):ip e d<=1237*e+1957:=by
 refine Nat.le_trans (pO e hd) ?_
 simp only [ip]
 omega
theorem pQ {d:Nat} {A B:List (List Int)} (h1:mZ d A) (h2:mZ d B) (hA:A.length<=1024) (hB:B.length<=1024):cj (A.map fun r=>r.map kj) (B.map fun r=>r.map kj)=0:=by
 have code:∀ {L:List (List Int)},mZ d L->L.length<=1024->aZ (L.map fun r=>r.map kj)=0:=fun {L} hok hL=>by
  refine oH (by rw [List.length_map]; exact hL) (fun k hk=>?_) fun k hk=>?_
  ·rw [List.length_map] at hk
   have hm:=List.getElem_mem hk
   simp only [List.getElem_map]
   unfold pT
   rw [A0 (by rw [hok.len _ hm]; exact hok.le),decide_eq_false (by rw [List.length_map,hok.len _ hm]; have:=hok.pos; omega)]
   rfl
  ·rw [List.length_map] at hk
   simp only [List.getElem_map,List.length_map]
   rw [hok.len _ (List.getElem_mem hk),hok.len _ (List.getElem_mem (by omega))]
 unfold cj
 rw [code h1 hA,code h2 hB]
 simp only [ne_eq,not_true_eq_false,if_false]
 rw [if_neg]
 rintro ⟨ha,hb,hne⟩
 apply hne
 cases A with
 | nil=>simp at ha
 | cons a A =>
  cases B with
  | nil=>simp at hb
  | cons b B=>simp [h1.len a (by simp),h2.len b (by simp)]
theorem I4 {a:AV} (ha:One a):kF [.nilSl,.nilSl,.nilSl] [((0,1),a)]=some (.agg [a,.nilSl,.nilSl]):=by
 simp [kF,dt,ha.1,ha.2]
section
variable {tab:Nat->Option au} {H:Heap} {s:AV}
theorem cone_Gens_f1 (C:Code tab) (hw:Wf H) {a b:AV} {x y:List Int} (ha:RowV H a x) (hb:RowV H b y) (hxy:x.length=y.length) (h64:x.length<=64) (hx:∀ z∈x,fL z) (hy:∀ z∈y,fL z) :
  Ans tab (.fn fm [a,b]) H fun v H'=>v=.int .i64 (yo x y)/\Kp H H':=by
 have oa:=ha.one
 have ob:=hb.one
 refine cC C.cone_Gens_f1 (by decide) fun T hl g0 g1=>?_
 refine zW (aH hl g0 g1) ?_
 refine AnsH.eq (vec_Cmp C zF (ha.mono (Kp.sub (H:=H) zK)) (hb.mono (Kp.sub (H:=H) zK)) hxy h64 hx hy) fun H2 hk2=>?_
 obtain ⟨k2,_,_⟩:=zT H zK hk2
 refine zW (aH hl g0 g1) ?_
 exact zK
theorem cone_Gens (C:Code tab) (hw:Wf H) {va vb:AV} {E I:List (List Int)} {d m:Nat} (ha:bA H va E) (hb:bA H vb I) (hd0:0<d) (hd:d<=6) (he:E.length<=1024) (hi:I.length<=20) (h1:∀ a∈E,a.length=d/\Lin.Bd (2^m) a) (h2:∀ a∈I,a.length=d/\Lin.Bd (2^m) a) (hm:m<=300000) :
  Ans tab (.fn eB [.int .i64 (d:Int),va,vb]) H fun v H'=>∃ p q,v=.tup [p,q,.int .i64 0]/\bA H' p (Lin.gensL d E I)/\bA H' q (Lin.gensR d E I)/\Kp H H':=by
 have oa:=ha.one
 have ob:=hb.one
 obtain ⟨f,hf⟩:∃ f,f=64*(m+4)+1:=⟨_,rfl⟩
 have ok1:mZ d E:=⟨hd0,by omega,fun r hr=>(h1 r hr).1,fun r hr z hz=>(jA (h1 r hr).2 z hz).sm (by omega)⟩
 have ok2:mZ d I:=⟨hd0,by omega,fun r hr=>(h2 r hr).1,fun r hr z hz=>(jA (h2 r hr).2 z hz).sm (by omega)⟩
 have mid:∀ {A B:List (List Int)},(∀ a∈A,a.length=d/\Lin.Bd (2^m) a)->(∀ a∈B,a.length=d/\Lin.Bd (2^m) a)->Jw d f (Lin.gensU d A B) B:=fun hA hB=>by rw [hf]; exact KM hd0 hd hA hB
 have hfb:=KX (e:=f) hd
 refine Aq C.cone_Gens rfl rfl (by decide) fun T hl g=>?_
 have hl:T.length=100:=hl
 have hrs:c_cone_Gens.results=[(6,none),(7,none),(8,none)]:=rfl
 have g0:af T 0=.int .i64 (d:Int):=g 0 (by simp)
 have g1:af T 1=va:=g 1 (by simp)
 have g2:af T 2=vb:=g 2 (by simp)
 refine bZ ?_
 refine zW (dI hl g0 g1 g2 @aP) ?_
 refine e8 (fun T' H'=>Kp H H') rfl ?_ ?_
 ·refine zW (aU hl g0 g1 g2) ?_
  refine AnsH.eq (cone_checked C zF ((kh ha).mono (Kp.sub (H:=H) zK)) ((kh hb).mono (Kp.sub (H:=H) zK)) (by rw [List.length_map]; omega) (by rw [List.length_map]; omega) (fun r hr=>?_) (fun r hr=>?_)) fun H2 hk2=>?_
  ·obtain ⟨x,hx,rfl⟩:=List.mem_map.1 hr
   exact jC (by rw [ok1.len x hx]; omega) (ok1.sm x hx)
  ·obtain ⟨x,hx,rfl⟩:=List.mem_map.1 hr
   exact jC (by rw [ok2.len x hx]; omega) (ok2.sm x hx)
  rw [pQ ok1 ok2 he (by omega)]
  obtain ⟨k2,_,_⟩:=zT H zK hk2
  refine zW (az hl @bc) ?_
  exact zK
 intro T1 H1 hs1 k1
 have w1:=k1.wf
 have le1:=k1.le
 have t0:af T1 0=.int .i64 (d:Int):=(hs1.at_ 0 (by decide)).trans (zV (az hl g0))
 have t1:af T1 1=va:=(hs1.at_ 1 (by decide)).trans (zV (az hl g1))
 have t2:af T1 2=vb:=(hs1.at_ 2 (by decide)).trans (zV (az hl g2))
 have t7:af T1 7=.nilSl:=(hs1.at_ 7 (by decide)).trans (zV hl)
 have hl1:T1.length=100:=hs1.len.trans (by simp only [List.length_set]; exact hl)
 refine e8 (fun T' H'=>Kp H H'/\af T' 7=.nilSl) rfl ?_ ?_
 ·refine zW (aU hl1 t0 t1 t2) ?_
  refine AnsH.use (cone_long C (Ls:=[E,I]) (d:=d) zF (pd (E:=rowsE) (t1:=ae) ha hb (Kp.sub (H:=H) zK) (d8)) (by simp) (fun L hL r hr=>?_)) ?_
  ·rcases List.mem_cons.1 hL with rfl | hL
   ·exact ok1.len r hr
   ·rcases List.mem_cons.1 hL with rfl | hL
    ·exact ok2.len r hr
    ·cases hL
  rintro v H2 ⟨rfl,hk2⟩
  obtain ⟨k2,_,_⟩:=zT H zK hk2
  have q1:¬ ((d:Int)<1):=by omega
  have q2:¬ ((64:Int)<(d:Int)):=by omega
  have q3:(0:Int)<=(d:Int):=by omega
  cases hany:[E,I].any (fun L=>!L.isEmpty) with
  | true =>
   refine zW (mr hl1 t0 t7 q1 q2 q3 @bc) ?_
   exact zK
  | false =>
   refine zW (mr hl1 t0 t7 q1 q2 q3 @bc) ?_
   exact zK
 rintro T2 H2 hs2 ⟨k2,u7⟩
 have w2:=k2.wf
 have le2:=k2.le
 have u0:af T2 0=.int .i64 (d:Int):=(hs2.at_ 0 (by decide)).trans t0
 have u1:af T2 1=va:=(hs2.at_ 1 (by decide)).trans t1
 have u2:af T2 2=vb:=(hs2.at_ 2 (by decide)).trans t2
 have hl2:T2.length=100:=hs2.len.trans hl1
 refine e8 (fun T' H'=>af T' 10=.ptr (H2.next+3) 0/\Kp H H'/\UnderV H H' (H2.next+3) (Lin.gensU d [] [])) rfl ?_ ?_
 ·refine zW (az hl2 u0) ?_
  refine AnsH.use (cone_all C (d:=d) zF (by omega)) ?_
  rintro v H3 ⟨bl3,hk3⟩
  obtain ⟨k23,_,_⟩:=zT H2 zK hk3
  have k3:Kp H H3:=k2.trans k23
  have le_k3:=k3.le
  have w3:=k3.wf
  have ov:=bl3.sl.one
  have h0:AV.one .nilSl=true:=rfl
  have hbv:tc (.agg [v,.nilSl,.nilSl])=some [v,.nilSl,.nilSl]:=by simp [tc,AV.cells,ov.2,h0]
  have n3:H2.next+5<=H3.next:=hk3.le
  have f3:H3.get (H2.next+3)=none:=hk3.free (show _<H2.next+5 by omega) (w2.fresh (b:=H2.next+3) (by omega))
  refine zW (aU hl2 (I4 ov) hbv @bc) ?_
  have hbl:Wr H H3 v (Lin.startU d).lines (Lin.startU d).lines.length:=bl3.wr.base (show H.next<=H2.next+5 by omega)
  have hnb:js v≠some (H2.next+3):=fun hx=>by
   have h2:H2.next+5<=H2.next+3:=bl3.ge hx
   omega
  exact ⟨zK,v,.nilSl,.nilSl,_,aI _ _ _,hbl.put hnb (NoTy.none f3),.inl ⟨rfl,rfl⟩,.inl ⟨rfl,rfl⟩,(fun x _ hy=>by cases hy),(fun x _ hy=>by cases hy),(fun x _ hy=>by cases hy)⟩
 obtain ⟨ub,hub⟩:∃ ub,ub=H2.next+3:=⟨_,rfl⟩
 rw [<- hub]
 have hubH:H.next<=ub:=by omega
 rintro T3 H3 hs3 ⟨fc,k3,hu3⟩
 have w3:=k3.wf
 have le3:=k3.le
 have v1:af T3 1=va:=(hs3.at_ 1 (by decide)).trans u1
 have v2:af T3 2=vb:=(hs3.at_ 2 (by decide)).trans u2
 have v7:af T3 7=.nilSl:=(hs3.at_ 7 (by decide)).trans u7
 have hl3:T3.length=100:=hs3.len.trans hl2
 refine bZ ?_
 refine zW (aH hl3 fc @aP) ?_
 refine e8 (fun T' H'=>Kp H H'/\UnderV H H' ub (Lin.gensU d E [])) rfl ?_ ?_
 ·refine zW (aH hl3 v1 ha.lenV) ?_
  refine am H [] (fun j _ H'=>UnderV H H' ub (Lin.gensU d (E.take j) [])) (a:=0) (N:=E.length) rfl (by refine zW hl3 ?_; rfl) (zV hl3) (Nat.zero_le _) (by omega) (by simp only [List.length_set,hl3]; rfl) rfl (fun j vs H' m h=>h.mono (Sub.bump H' m)) zK (by exact hu3.mono (Sub.bump H3 _)) ?_ ?_
  ·rintro j T4 H4 _ hj hl4 hi4 hs4 hk4 hu4
   have w4:=hk4.wf
   have le_hk4:=hk4.le
   have le4:=hk4.le
   have t48:af T4 48=va:=(hs4.at_ 48 (by decide)).trans (zV (az hl3 v1))
   have t11:af T4 11=.fn (.func cq) [.ptr ub 0] []:=(hs4.at_ 11 (by decide)).trans (zV hl3)
   obtain ⟨w,hr,hld⟩:=cG ha hj
   have hld4:=cM hk4.sub hld
   have hix:=SlV.idx1 ha .i64 j hj
   have mk:=mid (A:=E.take j) (B:=[]) (fun a h=>h1 a (List.mem_of_mem_take h)) (fun a h=>by cases h)
   have hEj:=h1 _ (List.getElem_mem hj)
   have hso:=mk.some
   have hfe:=mk.few
   simp only [List.length_nil,Nat.pow_zero] at hfe
   simp only [List.length_set,hl3] at hl4
   refine zW (i9 hl4 t48 t11 hi4 hix hld4) ?_
   refine AnsH.use (zZ C (H0:=H) (u:=Lin.gensU d (E.take j) []) (e:=f) (f:=f) (hk4.up _) hubH (hu4.mono (Sub.bump H4 _)) hr hd0 (by omega) hEj.1 mk.lines mk.rays (fun r hr=>by rw [mk.done] at hr; cases hr) (by rw [mk.done]; simp) (fun z hz=>(jA hEj.2 z hz).mono (by omega)) (by omega) (by omega) (by omega)) ?_
   rintro v H5 ⟨rfl,hk5,hu5⟩
   refine zW hl4 ?_
   exact ⟨hk5,by rw [GD d E hj]; exact hu5⟩
  ·rintro T4 H4 hl4 hs4 hk4 hu4
   rw [List.take_length] at hu4
   refine zW (az hl4 @bc) ?_
   exact ⟨hk4,hu4⟩
 rintro T4 H4 hs4 ⟨k4,hu4⟩
 have w4:=k4.wf
 have le4:=k4.le
 have x2:af T4 2=vb:=(hs4.at_ 2 (by decide)).trans (zV (az hl3 v2))
 have x7:af T4 7=.nilSl:=(hs4.at_ 7 (by decide)).trans (zV (az hl3 v7))
 have x10:af T4 10=.ptr ub 0:=(hs4.at_ 10 (by decide)).trans (zV (az hl3 fc))
 have x11:af T4 11=.fn (.func cq) [.ptr ub 0] []:=(hs4.at_ 11 (by decide)).trans (zV hl3)
 have hl4:T4.length=100:=hs4.len.trans (by simp only [List.length_set]; exact hl3)
 refine e8 (fun T' H'=>Kp H H'/\UnderV H H' ub (Lin.gensU d E I)) rfl ?_ ?_
 ·refine zW (aH hl4 x2 hb.lenV) ?_
  refine am H [] (fun j _ H'=>UnderV H H' ub (Lin.gensU d E (I.take j))) (a:=0) (N:=I.length) rfl (by refine zW hl4 ?_; rfl) (zV hl4) (Nat.zero_le _) (by omega) (by simp only [List.length_set,hl4]; rfl) rfl (fun j vs H' m h=>h.mono (Sub.bump H' m)) zK (by exact hu4.mono (Sub.bump H4 _)) ?_ ?_
  ·rintro j T5 H5 _ hj hl5 hi5 hs5 hk5 hu5
   have w5:=hk5.wf
   have le_hk5:=hk5.le
   have le5:=hk5.le
   have t58:af T5 58=vb:=(hs5.at_ 58 (by decide)).trans (zV (az hl4 x2))
   have t11:af T5 11=.fn (.func cq) [.ptr ub 0] []:=(hs5.at_ 11 (by decide)).trans (zV (az hl4 x11))
   obtain ⟨w,hr,hld⟩:=cG hb hj
   have hld5:=cM hk5.sub hld
   have hix:=SlV.idx1 hb .i64 j hj
   have hIt:∀ a∈I.take j,a.length=d/\Lin.Bd (2^m) a:=fun a h=>h2 a (List.mem_of_mem_take h)
   have mk:=mid (A:=E) (B:=I.take j) h1 hIt
   have hIj:=h2 _ (List.getElem_mem hj)
   have hso:=mk.some
   have hfe:=mk.few
   have hp:2^(I.take j).length<=2^20:=Nat.pow_le_pow_right (by decide) (by rw [List.length_take]; omega)
   have hp2:(2:Nat)^20=1048576:=by decide
   simp only [List.length_set,hl4] at hl5
   refine zW (i9 hl5 t58 t11 hi5 hix hld5) ?_
   refine AnsH.use (zZ C (H0:=H) (u:=Lin.gensU d E (I.take j)) (e:=f) (f:=f) (hk5.up _) hubH (hu5.mono (Sub.bump H5 _)) hr hd0 (by omega) hIj.1 mk.lines mk.rays (fun r hr=>by rw [mk.done] at hr; exact ⟨(hIt r hr).1,fun z hz=>(jA (hIt r hr).2 z hz).mono (by omega)⟩) (by rw [mk.done,List.length_take]; omega) (fun z hz=>(jA hIj.2 z hz).mono (by omega)) (by omega) (by omega) (by omega)) ?_
   rintro v H6 ⟨rfl,hk6,hu6⟩
   refine zW hl5 ?_
   exact ⟨hk6,by rw [GC d E I hj]; exact hu6⟩
  ·rintro T5 H5 hl5 hs5 hk5 hu5
   rw [List.take_length] at hu5
   refine zW (az hl5 @bc) ?_
   exact ⟨hk5,hu5⟩
 rintro T5 H5 hs5 ⟨k5,hu5⟩
 have w5:=k5.wf
 have le5:=k5.le
 have y7:af T5 7=.nilSl:=(hs5.at_ 7 (by decide)).trans x7
 have y10:af T5 10=.ptr ub 0:=(hs5.at_ 10 (by decide)).trans x10
 have hl5:T5.length=100:=hs5.len.trans hl4
 have mk:=mid h1 h2
 have hso:=mk.some
 have hfe:=mk.few
 have hp:2^I.length<=2^20:=Nat.pow_le_pow_right (by decide) hi
 have hp2:(2:Nat)^20=1048576:=by decide
 obtain ⟨ql,qr,qd,cl,hub5,hql,hqr,hqd,-,-,-⟩:=hu5
 have lub5:=w5 _ _ hub5
 obtain ⟨tL,tR⟩:=tk hd0 hd h1 h2
 have hT:=Lin.gens_told (fun a ha=>(h1 a ha).1) (fun a ha=>(h2 a ha).1)
 obtain ⟨L,hL⟩:∃ L,L=Lin.gensL d E I:=⟨_,rfl⟩
 have hLf:Lin.formF (Lin.gensU d E I).lines=L:=by rw [hL]; rfl
 have hLL:Lin.formF L=L:=by rw [<- hLf]; exact D9 (fun r hr=>(mk.lines r hr).1)
 have hLlen:L.length<=d:=by rw [hL]; exact mO hT.form
 have hLm:∀ r∈L,r.length=d/\∀ z∈r,Bt f z:=fun r hr=>by
  rw [hL] at hr
  exact ⟨(tL r hr).1,fun z hz=>by rw [hf]; exact jA (tL r hr).2 z hz⟩
 refine e8 (fun T' H'=>∃ q6,af T' 6=q6/\Kp H5 H'/\bA H' q6 L) rfl ?_ ?_
 ·refine zW (aH hl5 y10 hub5) ?_
  refine AnsH.use (rows_Echelon C (d:=d) (e:=f) zF (hql.sl.mono (Sub.bump H5 _)) (by omega) hd0 (by omega) (fun r hr=>(mk.lines r hr).1) (fun r hr=>(mk.lines r hr).2) (by omega)) ?_
  rintro v H6 ⟨q6,rfl,hr6,hk6⟩
  have k6:Kp H5 H6:=Kp.trans (Kp.up (Kp.refl w5) _) hk6
  have le_k6:=k6.le
  rw [hLf] at hr6
  refine zW (az hl5 @bc) ?_
  exact ⟨q6,rfl,k6,hr6⟩
 rintro T6 H6 hs6 ⟨q6,z6,k56,hr6⟩
 have w6:=k56.wf
 have le6:=k56.le
 have z7:af T6 7=.nilSl:=(hs6.at_ 7 (by decide)).trans y7
 have z10:af T6 10=.ptr ub 0:=(hs6.at_ 10 (by decide)).trans y10
 have hl6:T6.length=100:=hs6.len.trans hl5
 have hub6:=k56.get hub5
 have hqr6:bA H6 qr (Lin.gensU d E I).rays:=hqr.sl.mono k56.sub
 obtain ⟨R,hR⟩:∃ R,R=(Lin.gensU d E I).rays:=⟨_,rfl⟩
 have hRm:∀ r∈R,r.length=d/\∀ z∈r,Bt f z:=fun r hr=>mk.rays r (by rw [<- hR]; exact hr)
 have hRl:R.length<=1048576:=by rw [hR]; omega
 rw [<- hR] at hqr6
 refine e8 (fun T' H'=>∃ o,af T' 7=o/\Kp H6 H'/\Bl rowsE ae H6 H' o (R.map (Lin.restF L))) rfl ?_ ?_
 ·refine zW (aU hl6 z10 hub6 hqr6.lenV) ?_
  refine am H6 [7] (fun j vs H'=>∃ o,vs=[o]/\Bl rowsE ae H6 H' o ((R.take j).map (Lin.restF L))) (a:=0) (N:=R.length) rfl (by refine zW hl6 ?_; rfl) (zV hl6) (Nat.zero_le _) (by omega) (by simp only [List.length_set,hl6]; rfl) rfl (fun j vs H' m ⟨o,q1,q2⟩=>⟨o,q1,q2.mono (Sub.bump H' m)⟩) (Kp.up (Kp.refl w6) _) ⟨.nilSl,by exact zV (az hl6 z7),Bl.nil⟩ ?_ ?_
  ·rintro j T7 H7 _ hj hl7 hi7 hs7 hk7 ⟨o,hv,ho⟩
   have w7:=hk7.wf
   have le_hk7:=hk7.le
   have le7:=hk7.le
   simp only [List.map_cons,List.map_nil,List.cons.injEq,and_true] at hv
   have t79:af T7 79=qr:=(hs7.at_ 79 (by decide)).trans (zV hl6)
   have t6:af T7 6=q6:=(hs7.at_ 6 (by decide)).trans (zV (az hl6 z6))
   obtain ⟨w,hr,hld⟩:=cG (hqr6.mono hk7.sub) hj
   have hix:=SlV.idx1 hqr6 .i64 j hj
   have hRj:=hRm _ (List.getElem_mem hj)
   simp only [List.length_set,hl6] at hl7
   refine zW (i9 hl7 t79 t6 hi7 hix hld) ?_
   refine AnsH.use (rows_Reduce C (d:=d) (e:=f) zF (hr.mono (Sub.bump H7 _)) ((hr6.mono hk7.sub).mono (Sub.bump H7 _)) (by omega) hd0 (by omega) hRj.1 (fun r hr=>(hLm r hr).1) hRj.2 (fun r hr=>(hLm r hr).2) (by omega)) ?_
   rintro v H8 ⟨q,rfl,hrq,hk8⟩
   have k78:Kp H7 H8:=Kp.trans (Kp.up (Kp.refl w7) _) hk8
   have le_k78:=k78.le
   have k68:Kp H6 H8:=hk7.trans k78
   have le_k68:=k68.le
   have w8:=k68.wf
   rw [hLL] at hrq
   have oq:=hrq.one
   have hlen:((R.take j).map (Lin.restF L)).length<=R.length:=by simp; omega
   obtain ⟨n6,H9,e6,b6,k6,nx6,f6,u6⟩:=Bl.push1 (ty2:=ae) (bytes:=24) (id:=H8.next+3) (id2:=H8.next+2) (k:=5) (cs:=[q]) (a:=Lin.restF L R[j]) (ho.mono k78.sub) (by decide) k68 ⟨q,rfl,hrq⟩ (by omega) (by omega) (by omega) (by omega) (by omega) (by omega) (by omega)
   have e6':eY ((H8.up 5).put (H8.next+2) (.cells [q] ae true)) (H8.next+3) 1 24 ae o (.own (H8.next+2) 0 1 1 1 true)=some (.own (H8.next+3) 0 n6 n6 1 false,H9):=e6
   refine zW (aH hl7 hv e6') ?_
   refine ⟨k6,_,rfl,?_⟩
   rw [List.take_succ_eq_append_getElem hj,List.map_append]
   exact b6
  ·rintro T7 H7 hl7 hs7 hk7 ⟨o,hv,ho⟩
   simp only [List.map_cons,List.map_nil,List.cons.injEq,and_true] at hv
   rw [List.take_length] at ho
   refine zW (az hl7 @bc) ?_
   exact ⟨o,hv,hk7,ho⟩
 rintro T7 H7 hs7 ⟨o,a7,k67,bl7⟩
 have w7:=k67.wf
 have a6:af T7 6=q6:=(hs7.at_ 6 (by decide)).trans z6
 have hl7:T7.length=100:=hs7.len.trans hl6
 have hGR:(R.map (Lin.restF L)).mergeSort Lin.cmpV=Lin.gensR d E I:=by rw [hR,hL]; rfl
 have hperm:(Lin.gensR d E I).Perm (R.map (Lin.restF L)):=by rw [<- hGR]; exact List.mergeSort_perm _ _
 have hMm:∀ r∈R.map (Lin.restF L),r.length=d/\∀ z∈r,fL z:=fun r hr=>by
  have h:=tR r (hperm.mem_iff.2 hr)
  exact ⟨h.1,fun z hz=>(jA h.2 z hz).sm (by omega)⟩
 refine bZ ?_
 refine zW (aH hl7 @a7 @aP) ?_
 refine AnsH.use (vZ C.slices_SortFunc_Sl_api_Vec_api_Vec rfl (H0:=H6) (d:=d) (k67.up _) (bl7.mono (Sub.bump H7 _)) (fun r hr=>(hMm r hr).1) (hperm.nodup_iff.1 (Lin.told_nodup hT)) (by rw [List.length_map]; omega) fun D a b hD x hx y hy hxa hyb=>(cone_Gens_f1 C hD hxa hyb ((hMm x hx).1.trans (hMm y hy).1.symm) (by rw [(hMm x hx).1]; omega) (hMm x hx).2 (hMm y hy).2).mono fun _ _ h=>h.1) ?_
 rintro v H8 ⟨rfl,hk8,bl8⟩
 rw [hGR] at bl8
 refine zW (az hl7 @aP) ?_
 refine bZ ?_
 refine zW (aU hl7 @a6 @a7 @aP) ?_
 refine WC.wb ?_
 refine zW (az hl7 hrs) ?_
 have k08:Kp H H8:=(k5.trans k56).trans hk8
 have le_k08:=k08.le
 rw [<- hL]
 exact ⟨_,_,rfl,(hr6.mono hk8.sub).mono (Sub.bump H8 _),bl8.sl.mono (Sub.bump H8 _),k08.up _⟩
end
theorem rq {α:Type} {l m:List α} (he:l.length=m.length) (h:∀ q (h:q<l.length) (h':q<m.length),l[q]=m[q]):l=m :=
 List.ext_getElem he fun q h1 h2=>h q h1 h2
def mN (many ag:Nat) (r:List (Bool × List Nat)):Bool:=decide (many<r.length) || r.any fun z=>decide (ag<z.2.length)
def cB (n many ag:Nat) (ls:List (List (Bool × List Nat))):Bool:=decide (n<ls.length) || ls.any (mN many ag)
section
variable {tab:Nat->Option au} {H:Heap} {s:AV}
theorem AY (C:Code tab) (hw:Wf H) {a b:AV} {l m:List Nat} (ha:Lb H a l) (hb:Lb H b m) (hl':l.length<4611686018427387904) :
  Ans tab (.fn dC [a,b]) H fun v H'=>v=.bool (decide (l=m))/\Kp H H':=by
 refine cC C.facetroomref01_Same (by decide) fun T hl g0 g1=>?_
 by_cases he:l.length=m.length
 ·have lb:lenV b=some (.int .i64 (l.length:Int)):=by rw [hb.lenV,he]
  refine zW (dI hl g0 g1 ha.lenV lb) ?_
  refine bV H [5] (fun k vs H'=>∃ i:Nat,vs=[.int .i64 (i:Int)]/\i+k=l.length/\∀ q (h:q<l.length) (h':q<m.length),q<i->l[q]=m[q]) l.length (by simp only [List.length_set]; exact hl) rfl zK ⟨0,by refine zW (aH hl g0 g1) ?_; rfl,by omega,fun q _ _ h=>by omega⟩ ?_
  rintro k T1 H1 hl1 hs1 hk1 ⟨i,hv,hik,hP⟩
  have w1:=hk1.wf
  have le_hk1:=hk1.le
  simp only [List.map_cons,List.map_nil,List.cons.injEq,and_true] at hv
  have t0:af T1 0=a:=(hs1.at_ 0 (by decide)).trans (zV (az hl g0))
  have t1:af T1 1=b:=(hs1.at_ 1 (by decide)).trans (zV (aU hl g0 g1 g1))
  by_cases hi:i<l.length
  ·have hii:(i:Int)<(l.length:Int):=by omega
   have hi':i<m.length:=by omega
   obtain ⟨w,hr,hld⟩:=SlV.at1 (ha.mono hk1.sub) (List.getElem?_eq_getElem hi)
   obtain ⟨w',hr',hld'⟩:=SlV.at1 (hb.mono hk1.sub) (List.getElem?_eq_getElem hi')
   have hr:w=.int .u64 ((l[i]:Nat):Int):=hr
   have hr':w'=.int .u64 ((m[i]:Nat):Int):=hr'
   subst hr; subst hr'
   have hix:=SlV.idx1 ha .i64 i hi
   have hix':=SlV.idx1 hb .i64 i hi'
   have e:IntKind.i64.wrap ((i:Int)+1)=((i+1:Nat):Int):=by rw [wrap_i64] <;> omega
   refine zW (mr hl1 hv t0 t1 ha.lenV hii hi) ?_
   refine aS ?_
   by_cases hq:l[i]=m[i]
   ·have hq':((l[i]:Nat):Int)=((m[i]:Nat):Int):=by omega
    refine zD (pE hl1 hv t0 t1 hix hld hix' hld' hq' e) ?_
    refine ⟨zK,k-1,by omega,i+1,rfl,by omega,fun q h h' hqi=>?_⟩
    by_cases eq:q=i
    ·subst eq; exact hq
    ·exact hP q h h' (by omega)
   ·have hq':¬ ((l[i]:Nat):Int)=((m[i]:Nat):Int):=by omega
    refine zD (sY hl1 hv t0 t1 hix hld hix' hld' hq' hq e) ?_
    refine ⟨?_,zK⟩
    rw [decide_eq_false]
    intro e; subst e; exact hq rfl
  ·have hii:¬ (i:Int)<(l.length:Int):=by omega
   refine zW (mr hl1 hv t0 t1 ha.lenV hii hi) ?_
   refine ⟨?_,zK⟩
   rw [decide_eq_true (rq he fun q h h'=>hP q h h' (by omega))]
 ·have he':¬ (l.length:Int)=(m.length:Int):=by omega
  refine zW (mr hl g0 g1 ha.lenV hb.lenV he' he) ?_
  refine ⟨?_,zK⟩
  rw [decide_eq_false]
  intro e; subst e; exact he rfl
theorem DQ {x y:Nat} (h:ag x=ag y):x=y:=by
 have:=congrArg val h
 rwa [bD,bD] at this
theorem AX (C:Code tab) (hw:Wf H) {a b:AV} {x y:Int} (ha:IntV H a x) (hb:IntV H b y) (hx:fL x) :
  Ans tab (.fn dB [a,b]) H fun v H'=>v=.bool (decide (x=y))/\Kp H H':=by
 obtain ⟨p,rfl,hp⟩:=ha
 obtain ⟨q,rfl,hq⟩:=hb
 have op:=hp.one
 have oq:=hq.one
 unfold fL Sm at hx
 refine cC C.facetroomref05_Same (by decide) fun T hl g0 g1=>?_
 by_cases h:decide (x<0)=decide (y<0)
 ·have h':(decide (x<0) == decide (y<0))=true:=by rw [h]; simp
  refine zW (aU hl g0 g1 h') ?_
  refine AnsH.eq (AY C zF (hp.mono (Kp.sub (H:=H) zK)) (hq.mono (Kp.sub (H:=H) zK)) (by omega)) fun H2 hk2=>?_
  obtain ⟨k2,_,_⟩:=zT H zK hk2
  refine zW (aH hl g0 g1) ?_
  refine ⟨?_,zK⟩
  by_cases e:x=y
  ·rw [decide_eq_true e,decide_eq_true (by rw [e])]
  ·rw [decide_eq_false e,decide_eq_false]
   intro h2
   have:=DQ h2
   have h3:(x<0) ↔ (y<0):=by simpa using h
   omega
 ·have h':(decide (x<0) == decide (y<0))=false:=by simpa using h
  refine zW (aU hl g0 g1 h') ?_
  refine ⟨?_,zK⟩
  rw [decide_eq_false]
  intro e; subst e; exact h rfl
theorem AW (C:Code tab) (hw:Wf H) {a b:AV} {l m:List Int} (ha:RowV H a l) (hb:RowV H b m) (hl':l.length<1099511627776) (hz:∀ z∈l,fL z) :
  Ans tab (.fn dA [a,b]) H fun v H'=>v=.bool (decide (l=m))/\Kp H H':=by
 refine cC C.facetroomref07_Same (by decide) fun T hl g0 g1=>?_
 by_cases he:l.length=m.length
 ·have lb:lenV b=some (.int .i64 (l.length:Int)):=by rw [hb.lenV,he]
  refine zW (dI hl g0 g1 ha.lenV lb) ?_
  refine bV H [5] (fun k vs H'=>∃ i:Nat,vs=[.int .i64 (i:Int)]/\i+k=l.length/\∀ q (h:q<l.length) (h':q<m.length),q<i->l[q]=m[q]) l.length (by simp only [List.length_set]; exact hl) rfl zK ⟨0,by refine zW (aH hl g0 g1) ?_; rfl,by omega,fun q _ _ h=>by omega⟩ ?_
  rintro k T1 H1 hl1 hs1 hk1 ⟨i,hv,hik,hP⟩
  have w1:=hk1.wf
  have le_hk1:=hk1.le
  simp only [List.map_cons,List.map_nil,List.cons.injEq,and_true] at hv
  have t0:af T1 0=a:=(hs1.at_ 0 (by decide)).trans (zV (az hl g0))
  have t1:af T1 1=b:=(hs1.at_ 1 (by decide)).trans (zV (aU hl g0 g1 g1))
  by_cases hi:i<l.length
  ·have hii:(i:Int)<(l.length:Int):=by omega
   have hi':i<m.length:=by omega
   obtain ⟨w,hn,L,hix⟩:=mL w1 (ha.mono hk1.sub) hi
   obtain ⟨w',hn',L',hix'⟩:=mL w1 (hb.mono hk1.sub) hi'
   have hld:=L.ld
   have hld':=L'.ld
   have e:IntKind.i64.wrap ((i:Int)+1)=((i+1:Nat):Int):=by rw [wrap_i64] <;> omega
   refine zW (mr hl1 hv t0 t1 ha.lenV hii hi) ?_
   refine aS ?_
   refine zD (ng hl1 hv t0 t1 hix hld hix' hld') ?_
   refine AnsH.eq (AX C zF ⟨w,rfl,hn.mono (Kp.sub (H:=H1) zK)⟩ ⟨w',rfl,hn'.mono (Kp.sub (H:=H1) zK)⟩ (hz _ (List.getElem_mem hi))) fun H2 hk2=>?_
   obtain ⟨k12,_,_⟩:=zT H1 zK hk2
   have k2:Kp H H2:=Kp.trans hk1 k12
   have le_k2:=k2.le
   cases hq:decide (l[i]=m[i]) with
   | true =>
    have hq:=of_decide_eq_true hq
    refine zD (ny hl1 hv t0 t1 hix hld hix' hld' e) ?_
    refine ⟨zK,k-1,by omega,i+1,rfl,by omega,fun q h h' hqi=>?_⟩
    by_cases eq:q=i
    ·subst eq; exact hq
    ·exact hP q h h' (by omega)
   | false =>
    have hq:=of_decide_eq_false hq
    refine zD (ny hl1 hv t0 t1 hix hld hix' hld' e) ?_
    refine ⟨?_,zK⟩
    rw [decide_eq_false]
    intro e; subst e; exact hq rfl
  ·have hii:¬ (i:Int)<(l.length:Int):=by omega
   refine zW (mr hl1 hv t0 t1 ha.lenV hii hi) ?_
   refine ⟨?_,zK⟩
   rw [decide_eq_true (rq he fun q h h'=>hP q h h' (by omega))]
 ·have he':¬ (l.length:Int)=(m.length:Int):=by omega
  refine zW (mr hl g0 g1 ha.lenV hb.lenV he' he) ?_
  refine ⟨?_,zK⟩
  rw [decide_eq_false]
  intro e; subst e; exact he rfl
theorem mD (C:Code tab) (hw:Wf H) {a b:AV} {l m:List (List Int)} (ha:bA H a l) (hb:bA H b m) (hl':l.length<1099511627776) (hz:∀ r∈l,r.length<1099511627776/\∀ z∈r,fL z) :
  Ans tab (.fn dz [a,b]) H fun v H'=>v=.bool (decide (l=m))/\Kp H H':=by
 refine cC C.facetroomref18_Same (by decide) fun T hl g0 g1=>?_
 by_cases he:l.length=m.length
 ·have lb:lenV b=some (.int .i64 (l.length:Int)):=by rw [hb.lenV,he]
  refine zW (dI hl g0 g1 ha.lenV lb) ?_
  refine bV H [5] (fun k vs H'=>∃ i:Nat,vs=[.int .i64 (i:Int)]/\i+k=l.length/\∀ q (h:q<l.length) (h':q<m.length),q<i->l[q]=m[q]) l.length (by simp only [List.length_set]; exact hl) rfl zK ⟨0,by refine zW (aH hl g0 g1) ?_; rfl,by omega,fun q _ _ h=>by omega⟩ ?_
  rintro k T1 H1 hl1 hs1 hk1 ⟨i,hv,hik,hP⟩
  have w1:=hk1.wf
  have le_hk1:=hk1.le
  simp only [List.map_cons,List.map_nil,List.cons.injEq,and_true] at hv
  have t0:af T1 0=a:=(hs1.at_ 0 (by decide)).trans (zV (az hl g0))
  have t1:af T1 1=b:=(hs1.at_ 1 (by decide)).trans (zV (aU hl g0 g1 g1))
  by_cases hi:i<l.length
  ·have hii:(i:Int)<(l.length:Int):=by omega
   have hi':i<m.length:=by omega
   obtain ⟨w,hr,hld⟩:=cG (ha.mono hk1.sub) hi
   obtain ⟨w',hr',hld'⟩:=cG (hb.mono hk1.sub) hi'
   have hix:=SlV.idx1 ha .i64 i hi
   have hix':=SlV.idx1 hb .i64 i hi'
   have hzi:=hz _ (List.getElem_mem hi)
   have e:IntKind.i64.wrap ((i:Int)+1)=((i+1:Nat):Int):=by rw [wrap_i64] <;> omega
   refine zW (mr hl1 hv t0 t1 ha.lenV hii hi) ?_
   refine aS ?_
   refine zD (ng hl1 hv t0 t1 hix hld hix' hld') ?_
   refine AnsH.eq (AW C zF (hr.mono (Kp.sub (H:=H1) zK)) (hr'.mono (Kp.sub (H:=H1) zK)) hzi.1 hzi.2) fun H2 hk2=>?_
   obtain ⟨k12,_,_⟩:=zT H1 zK hk2
   have k2:Kp H H2:=Kp.trans hk1 k12
   have le_k2:=k2.le
   cases hq:decide (l[i]=m[i]) with
   | true =>
    have hq:=of_decide_eq_true hq
    refine zD (ny hl1 hv t0 t1 hix hld hix' hld' e) ?_
    refine ⟨zK,k-1,by omega,i+1,rfl,by omega,fun q h h' hqi=>?_⟩
    by_cases eq:q=i
    ·subst eq; exact hq
    ·exact hP q h h' (by omega)
   | false =>
    have hq:=of_decide_eq_false hq
    refine zD (ny hl1 hv t0 t1 hix hld hix' hld' e) ?_
    refine ⟨?_,zK⟩
    rw [decide_eq_false]
    intro e; subst e; exact hq rfl
  ·have hii:¬ (i:Int)<(l.length:Int):=by omega
   refine zW (mr hl1 hv t0 t1 ha.lenV hii hi) ?_
   refine ⟨?_,zK⟩
   rw [decide_eq_true (rq he fun q h h'=>hP q h h' (by omega))]
 ·have he':¬ (l.length:Int)=(m.length:Int):=by omega
  refine zW (mr hl g0 g1 ha.lenV hb.lenV he' he) ?_
  refine ⟨?_,zK⟩
  rw [decide_eq_false]
  intro e; subst e; exact he rfl
theorem y9 (C:Code tab) (hw:Wf H) {a:AV} {r:List (Bool × List Nat)} {many lim:Nat} (ha:SlV rawE aa H a r) (hm:many<4611686018427387904) :
  Ans tab (.fn cV [a,.int .i64 (many:Int),.int .i64 (lim:Int)]) H fun v H'=>v=.bool (mN many lim r)/\Kp H H':=by
 refine lG C.facetroomref07_Great (by decide) fun T hl g0 g1 g2=>?_
 by_cases he:many<r.length
 ·have he':(many:Int)<(r.length:Int):=by omega
  refine zW (i9 hl g0 g1 ha.lenV he' he) ?_
  exact ⟨by unfold mN; rw [decide_eq_true he]; rfl,zK⟩
 ·have he':¬ (many:Int)<(r.length:Int):=by omega
  refine zW (mr hl g0 g1 g2 ha.lenV he' he) ?_
  refine bV H [7] (fun k vs H'=>∃ i:Nat,vs=[.int .i64 (i:Int)]/\i+k=r.length/\∀ q (h:q<r.length),q<i->¬ lim<(r[q]).2.length) r.length (by simp only [List.length_set]; exact hl) rfl zK ⟨0,by refine zW (aU hl g0 g1 g2) ?_; rfl,by omega,fun q _ h=>by omega⟩ ?_
  rintro k T1 H1 hl1 hs1 hk1 ⟨i,hv,hik,hP⟩
  have w1:=hk1.wf
  have le_hk1:=hk1.le
  simp only [List.map_cons,List.map_nil,List.cons.injEq,and_true] at hv
  have t0:af T1 0=a:=(hs1.at_ 0 (by decide)).trans (zV (az hl g0))
  have t2:af T1 2=.int .i64 (lim:Int):=(hs1.at_ 2 (by decide)).trans (zV (dI hl g0 g1 g2 g2))
  by_cases hi:i<r.length
  ·have hii:(i:Int)<(r.length:Int):=by omega
   obtain ⟨cs,⟨w,rfl,hn⟩,-,h2,-⟩:=(ha.mono hk1.sub).at (List.getElem?_eq_getElem hi)
   have hld:cm H1 none (aV a (i*2+1))=some w:=h2 1 w rfl
   have hix:fq 2 a (.int .i64 (i:Int))=some (aV a (i*2)):=SlV.idx ha .i64 i hi
   have hfa:EP 1 (aV a (i*2))=some (aV a (i*2+1)):=ha.fa (by omega) 1 (i*2)
   have e:IntKind.i64.wrap ((i:Int)+1)=((i+1:Nat):Int):=by rw [wrap_i64] <;> omega
   by_cases hq:lim<(r[i]).2.length
   ·have hq':(lim:Int)<((r[i]).2.length:Int):=by omega
    refine zW (EY hl1 hv t0 t2 ha.lenV hii hi hix hfa hld hn.lenV hq' hq) ?_
    refine ⟨?_,zK⟩
    unfold mN
    rw [List.any_eq_true.2 ⟨_,List.getElem_mem hi,by rw [decide_eq_true hq]⟩,Bool.or_true]
   ·have hq':¬ (lim:Int)<((r[i]).2.length:Int):=by omega
    refine zW (Hz hl1 hv t0 t2 ha.lenV hii hi hix hfa hld hn.lenV hq' hq e) ?_
    refine ⟨zK,k-1,by omega,i+1,rfl,by omega,fun q h hqi=>?_⟩
    by_cases eq:q=i
    ·subst eq; exact hq
    ·exact hP q h (by omega)
  ·have hii:¬ (i:Int)<(r.length:Int):=by omega
   refine zW (mr hl1 hv t0 t2 ha.lenV hii hi) ?_
   refine ⟨?_,zK⟩
   have e:(r.any fun z=>decide (lim<z.2.length))=false:=by
    rw [List.any_eq_false]
    intro z hz
    obtain ⟨q,hq,rfl⟩:=List.getElem_of_mem hz
    simpa using hP q hq (by omega)
   unfold mN
   rw [decide_eq_false he,Bool.false_or,e]
theorem rX (C:Code tab) (hw:Wf H) {a:AV} {ls:List (List (Bool × List Nat))} {n many lim:Nat} (ha:gL H a ls) (hn:n<4611686018427387904) (hm:many<4611686018427387904) :
  Ans tab (.fn cw [a,.int .i64 (n:Int),.int .i64 (many:Int),.int .i64 (lim:Int)]) H fun v H'=>v=.bool (cB n many lim ls)/\Kp H H':=by
 refine IT C.facetroomref18_Great (by decide) fun T hl g0 g1 g2 g3=>?_
 by_cases he:n<ls.length
 ·have he':(n:Int)<(ls.length:Int):=by omega
  refine zW (i9 hl g0 g1 ha.lenV he' he) ?_
  exact ⟨by unfold cB; rw [decide_eq_true he]; rfl,zK⟩
 ·have he':¬ (n:Int)<(ls.length:Int):=by omega
  refine zW (ng hl g0 g1 g2 g3 ha.lenV he' he) ?_
  refine bV H [9] (fun k vs H'=>∃ i:Nat,vs=[.int .i64 (i:Int)]/\i+k=ls.length/\∀ q (h:q<ls.length),q<i->mN many lim ls[q]=false) ls.length (by simp only [List.length_set]; exact hl) rfl zK ⟨0,by refine zW (dI hl g0 g1 g2 g3) ?_; rfl,by omega,fun q _ h=>by omega⟩ ?_
  rintro k T1 H1 hl1 hs1 hk1 ⟨i,hv,hik,hP⟩
  have w1:=hk1.wf
  have le_hk1:=hk1.le
  simp only [List.map_cons,List.map_nil,List.cons.injEq,and_true] at hv
  have t0:af T1 0=a:=(hs1.at_ 0 (by decide)).trans (zV (az hl g0))
  have t2:af T1 2=.int .i64 (many:Int):=(hs1.at_ 2 (by decide)).trans (zV (i9 hl g0 g1 g2 g3 g2))
  have t3:af T1 3=.int .i64 (lim:Int):=(hs1.at_ 3 (by decide)).trans (zV (i9 hl g0 g1 g2 g3 g3))
  by_cases hi:i<ls.length
  ·have hii:(i:Int)<(ls.length:Int):=by omega
   obtain ⟨w,hr,hld⟩:=ri (ha.mono hk1.sub) hi
   have hix:=SlV.idx1 ha .i64 i hi
   have e:IntKind.i64.wrap ((i:Int)+1)=((i+1:Nat):Int):=by rw [wrap_i64] <;> omega
   refine zW (pE hl1 hv t0 t2 t3 ha.lenV hii hi hix hld) ?_
   refine AnsH.eq (y9 C zF (hr.mono (Kp.sub (H:=H1) zK)) hm) fun H2 hk2=>?_
   obtain ⟨k12,_,_⟩:=zT H1 zK hk2
   have k2:Kp H H2:=Kp.trans hk1 k12
   have le_k2:=k2.le
   cases hq:mN many lim ls[i] with
   | true =>
    refine zW hl1 ?_
    refine ⟨?_,zK⟩
    unfold cB
    rw [List.any_eq_true.2 ⟨_,List.getElem_mem hi,hq⟩,Bool.or_true]
   | false =>
    refine zW (aH hl1 hv e) ?_
    refine ⟨zK,k-1,by omega,i+1,rfl,by omega,fun q h hqi=>?_⟩
    by_cases eq:q=i
    ·subst eq; exact hq
    ·exact hP q h (by omega)
  ·have hii:¬ (i:Int)<(ls.length:Int):=by omega
   refine zW (ng hl1 hv t0 t2 t3 ha.lenV hii hi) ?_
   refine ⟨?_,zK⟩
   have e:ls.any (mN many lim)=false:=by
    rw [List.any_eq_false]
    intro z hz
    obtain ⟨q,hq,rfl⟩:=List.getElem_of_mem hz
    rw [hP q hq (by omega)]; simp
   unfold cB
   rw [decide_eq_false he,Bool.false_or,e]
theorem y8 (C:Code tab) (hw:Wf H) {a b:AV} {A B:List (List (Bool × List Nat))} (ha:gL H a A) (hb:gL H b B) :
  Ans tab (.fn cU [a,b]) H fun v H'=>v=.bool (cB 4 5 1 A || cB 7 5 1 B)/\Kp H H':=by
 refine cC C.facetroomref20_Great (by decide) fun T hl g0 g1=>?_
 refine zW (aH hl g0 g1) ?_
 refine AnsH.eq (rX C (n:=4) (many:=5) (lim:=1) zF (ha.mono (Kp.sub (H:=H) zK)) (by omega) (by omega)) fun H2 hk2=>?_
 obtain ⟨k2,_,w2⟩:=zT H zK hk2
 cases h:cB 4 5 1 A with
 | true =>
  refine zW (aH hl g0 g1) ?_
  exact ⟨by simp,zK⟩
 | false =>
  refine zW (aH hl g0 g1) ?_
  refine AnsH.eq (rX C (n:=7) (many:=5) (lim:=1) zF (hb.mono (Kp.sub (H:=H) zK)) (by omega) (by omega)) fun H3 hk3=>?_
  obtain ⟨k3,_,_⟩:=zT H zK hk3
  refine zW (aH hl g0 g1) ?_
  exact ⟨by simp,zK⟩
theorem vec_Of (C:Code tab) (hw:Wf H) {l:List Int} {ty:Nat} (hs:tx (DW .i64) ty H s l) (h64:l.length<=64) (hz:∀ z∈l,-9223372036854775808<=z/\z<9223372036854775808) :
  Ans tab (.fn nM [s]) H fun v H'=>RowV H' v l/\Kp H H':=by
 refine eh C.vec_Of (by decide) fun T hl g0=>?_
 obtain ⟨cells,hcells⟩:∃ cells,cells=(List.replicate l.length [AV.bool false,AV.nilSl]).flatten:=⟨_,rfl⟩
 have hmk:∀ H':Heap,EN H' (H.next+3) aa 2 32 [.bool false,.nilSl] (.int .i64 (l.length:Int)) (.int .i64 (l.length:Int))=some (.own (H.next+3) 0 l.length l.length 2 true,H'.put (H.next+3) (.cells cells aa true)):=fun H'=>by rw [hcells]; exact jI _ _ _ _ _ _ _ _ _ (by omega) (by omega) rfl
 refine zW (aU hl g0 hs.lenV hmk) ?_
 have hz0:intE.R H [.bool false,.nilSl] 0:=⟨.nilSl,by simp,gD H⟩
 have hcl0:Cells intE H cells (List.replicate l.length 0):=by rw [hcells]; exact rh hz0 _
 refine am H [3] (fun j vs H'=>vs=[.own (H.next+3) 0 l.length l.length 2 true]/\∃ cs,H'.get (H.next+3)=some (.cells cs aa true)/\Cells intE H' cs (l.take j++List.replicate (l.length-j) 0)) (a:=0) (N:=l.length) rfl (by refine zW (az hl g0) ?_; rfl) (zV (az hl g0)) (Nat.zero_le _) (by omega) (by simp only [List.length_set,hl]; rfl) rfl (fun j vs H' m ⟨h0,cs,h1,h2⟩=>⟨h0,cs,h1,Cells.mono (E:=intE) ((Sub.bump H' m).t _) h2⟩) zK ⟨by exact zV (az hl g0),cells,by exact d8,by
  have e:List.take 0 l++List.replicate (l.length-0) 0=List.replicate l.length 0:=by simp
  rw [e]
  exact Cells.mono (E:=intE) zS hcl0⟩ ?_ ?_
 ·rintro j T1 H1 _ hj hl1 hi1 hs1 hk1 ⟨hv,cs,hb1,hc1⟩
  have w1:=hk1.wf
  have le_hk1:=hk1.le
  have le1:=hk1.le
  simp only [List.map_cons,List.map_nil,List.cons.injEq,and_true] at hv
  have t9:af T1 9=s:=(hs1.at_ 9 (by decide)).trans (zV (az hl g0))
  obtain ⟨w,hr,hld⟩:=SlV.at1 (hs.mono hk1.sub) (List.getElem?_eq_getElem hj)
  have hr:w=.int .i64 l[j]:=hr
  subst hr
  have hix:=SlV.idx1 hs .i64 j hj
  have hzj:=hz _ (List.getElem_mem hj)
  simp only [List.length_set,hl] at hl1
  refine zW (i9 hl1 t9 hi1 hix hld hv) ?_
  refine AnsH.use (whole_Of C zF hzj.1 hzj.2) ?_
  rintro v H2 ⟨⟨w,rfl,hn⟩,hk2⟩
  obtain ⟨k2,_,w2⟩:=zT H1 zK hk2
  have ow:=hn.one
  have hb2:=k2.get hb1
  have lt2:=w2 _ _ hb2
  have hclen:cs.length=l.length*2:=by
   have:=hc1.1
   rw [List.length_append,List.length_take,List.length_replicate] at this
   have e:intE.sz=2:=rfl
   rw [e] at this
   rw [this]; congr 1; omega
  have hst:B5 (some (.cells cs aa true)) 2 (0+j*2) (.agg [.bool (decide (l[j]<0)),w])=some (.cells (cs.take (0+j*2)++[.bool (decide (l[j]<0)),w]++cs.drop (0+j*2+2)) aa true):=lU (GH (aX _) ow) (by omega)
  have hio:fq 2 (.own (H.next+3) 0 l.length l.length 2 true) (.int .i64 (j:Int))=some (.ptr (H.next+3) (0+j*2)):=oP hj
  rw [Nat.zero_add] at hst hio
  have hcl2:Cells intE H2 (cs.take (j*2)++[.bool (decide (l[j]<0)),w]++cs.drop (j*2+2)) ((l.take j++List.replicate (l.length-j) 0).set j l[j]):=(Cells.mono (E:=intE) (k2.sub.t _) hc1).set (i:=j) (by simp; omega) ⟨w,rfl,hn⟩
  have elist:(l.take j++List.replicate (l.length-j) 0).set j l[j]=l.take (j+1)++List.replicate (l.length-(j+1)) 0:=by
   have e1:l.length-j=(l.length-(j+1))+1:=by omega
   have e2:j-(List.take j l).length=0:=by simp; omega
   rw [e1,List.replicate_succ,List.set_append,if_neg (by simp; omega),e2,List.set_cons_zero,List.take_succ_eq_append_getElem hj,List.append_assoc]
   rfl
  rw [elist] at hcl2
  have m3:NoTy [ad] H2 (H.next+3):=NoTy.ty hb2 (by decide)
  refine zW (dI hl1 hv hio hb2 hst) ?_
  have kH2:Kp H H2:=hk1.trans k2
  exact ⟨zK,_,rfl,Cells.mono (E:=intE) zS hcl2⟩
 ·rintro T1 H1 hl1 hs1 hk1 ⟨hv,cs,hb1,hc1⟩
  have w1:=hk1.wf
  have le_hk1:=hk1.le
  simp only [List.map_cons,List.map_nil,List.cons.injEq,and_true] at hv
  simp only [List.length_set,hl] at hl1
  refine zW (az hl1 hv) ?_
  refine ⟨?_,zK⟩
  have e:List.take l.length l++List.replicate (l.length-l.length) 0=l:=by simp
  rw [e] at hc1
  have:Own intE aa H H1 (H.next+3) true (.own (H.next+3) 0 l.length l.length 2 true) l:=⟨cs,rfl,hb1,hc1,by omega⟩
  exact this.sl.mono (Sub.bump H1 _)
end
theorem se {β:Type} {P:Nat->β->Prop}:∀ n,(∀ i,i<n->∃ y,P i y)->∃ l:List β,l.length=n/\∀ i (h:i<l.length),P i l[i]
 | 0,_=>⟨[],rfl,fun i h=>by simp at h⟩
 | n+1,h=>by
  obtain ⟨l,h1,h2⟩:=se n fun i hi=>h i (by omega)
  obtain ⟨y,hy⟩:=h n (by omega)
  refine ⟨l++[y],by simp [h1],fun i hi=>?_⟩
  by_cases hin:i<l.length
  ·rw [List.getElem_append_left hin]; exact h2 i hin
  ·have:i=n:=by rw [List.length_append] at hi; simp at hi; omega
   subst this
   rw [List.getElem_append_right (by omega)]
   simpa [h1] using hy
theorem Cy {β:Type} {sz:Nat} {f:β->List AV}:∀ (l:List β),(∀ y∈l,(f y).length=sz)->(l.flatMap f).length=l.length*sz/\∀ i (h:i<l.length) k,k<sz->(l.flatMap f)[i*sz+k]? = (f l[i])[k]?
 | [],_=>⟨by simp,fun i h=>by simp at h⟩
 | y :: l,h=>by
  obtain ⟨h1,h2⟩:=Cy l fun z hz=>h z (List.mem_cons_of_mem _ hz)
  have hy:=h y (List.mem_cons_self ..)
  refine ⟨by rw [List.flatMap_cons,List.length_append,h1,hy,List.length_cons,Nat.succ_mul]; omega,fun i hi k hk=>?_⟩
  rw [List.flatMap_cons]
  cases i with
  | zero=>rw [List.getElem?_append_left (by omega)]; simp
  | succ i =>
   rw [List.getElem?_append_right (by rw [Nat.succ_mul]; omega),hy]
   have e:(i+1)*sz+k-sz=i*sz+k:=by rw [Nat.succ_mul]; omega
   rw [e,h2 i (by simpa using hi) k hk]
   simp
section
variable {HT:Type} {enc:TypeId × Value->HT} {P:Program} {w:World} {base:Nat} {sp:Nat->Bool} {held:Bool} {μ:Mu} {F:Nat->Prop} {H:Heap} {α:Type}
theorem xz {E:gM α} {ty:Nat} {good:α->Prop} {t e:TypeId} (hF:∀ c,c<w.heap.size->F c) (ht:P.underlying t=some (.slice e)) (hsz:P.cellsOf e=E.sz)
  (helem:∀ fuel cs x,DataW.trod enc P w base sp held fuel e cs=some x->∃ acs z,LR μ F w acs cs/\E.R H acs z/\good z)
  {fuel:Nat} {cs:List Value} {x:DataW HT × List MemPlace} (h:DataW.trod enc P w base sp held fuel t cs=some x) :
  ∃ v av zs,cs=[v]/\VR μ F w av v/\SlV E ty H av zs/\(∀ z∈zs,good z)/\zs.length<=maxLen:=by
 rcases DataW.trod_slice ht h with ⟨rfl,-⟩ | ⟨a,len,cap,elems,rest,n,-,rfl,-,hb,hl,hc,hlen,hel,-⟩
 ·exact ⟨_,.nilSl,[],rfl,.nilSl,SlV.nil _ _ _,(fun z h=>by cases h),Nat.zero_le _⟩
 ·rcases Nat.eq_zero_or_pos len with h0 | h0
  ·subst h0
   refine ⟨_,.sl [] 0,[],rfl,.sl0 a cap,⟨[],⟨trivial,(fun s h=>by cases h),0,rfl,by simp [aG]⟩,(fun _ _ _ _ _ _ e=>by cases e),by simp,fun i a h=>by simp at h⟩,fun z h=>(by cases h),Nat.zero_le _⟩
  ·have hp:=E.pos
   obtain ⟨L,hL1,hL2⟩:=se (P:=fun i (y:List AV × List Value × α)=>w.cells? base (a.add (i*E.sz)) E.sz=some y.2.1/\LR μ F w y.1 y.2.1/\E.R H y.1 y.2.2/\good y.2.2) len fun i hi=>by
    have h1:=hel i hi
    rw [List.getElem?_eq_getElem (by omega),hsz] at h1
    obtain ⟨cs,h2,h3⟩:=Option.bind_eq_some_iff.1 h1
    obtain ⟨acs,z,h4,h5,h6⟩:=helem _ _ _ h3
    exact ⟨(acs,cs,z),h2,h4,h5,h6⟩
   have hsizes:∀ y∈L,y.1.length=E.sz:=fun y hy=>by
    obtain ⟨i,hi,rfl⟩:=List.getElem_of_mem hy
    exact (E.len (hL2 i hi).2.2.1).1
   obtain ⟨hfl,hfa⟩:=Cy (f:=fun y:List AV × List Value × α=>y.1) L hsizes
   have hcell:∀ i (hi:i<L.length) k,k<E.sz->w.cell? (a.add (i*E.sz) |>.add k)=(L[i]).2.1[k]?:=fun i hi k hk=>((World.cells?_some (hL2 i hi).1).2.2 k hk)
   obtain ⟨v0,hv0⟩:∃ v0,w.cell? a=some v0:=by
    have h1:=hcell 0 (by omega) 0 hp
    have h2:=(World.cells?_some (hL2 0 (by omega)).1).2.1
    rw [List.getElem?_eq_getElem (by omega)] at h1
    simp [Addr.add] at h1
    exact ⟨_,h1⟩
   obtain ⟨arr,ety,fr,hblk,hspot⟩:∃ arr ety fr,w.heap[a.block]? = some (.cells arr ety fr)/\a.spot=none:=by
    unfold World.cell? at hv0
    split at hv0
    ·rename_i c ety fr hb
     refine ⟨c,ety,fr,hb,?_⟩
     cases hs:a.spot with
     | none=>rfl
     | some s=>rw [hs] at hv0; simp at hv0
    ·cases hv0
   obtain ⟨blk,off,spot⟩:=a
   simp only at hspot hblk hb
   subst hspot
   have hat:∀ i (hi:i<L.length) k,k<E.sz->arr[off+(i*E.sz+k)]? = (L[i]).2.1[k]?:=fun i hi k hk=>by
    rw [<- hcell i hi k hk]
    have e:((⟨blk,off,none⟩:Addr).add (i*E.sz) |>.add k)=⟨blk,off+(i*E.sz+k),none⟩:=by
     unfold Addr.add
     by_cases h1:i*E.sz=0
     ·by_cases h2:k=0
      ·simp [h1,h2]
      ·simp [h1,h2]
     ·by_cases h2:k=0
      ·simp [h1,h2]
      ·simp [h1,h2]; omega
    rw [e]
    simp [World.cell?,hblk]
   have hvl:∀ i (hi:i<L.length),(L[i]).2.1.length=E.sz:=fun i hi=>(World.cells?_some (hL2 i hi).1).2.1
   have hsize:off+(L.flatMap fun y=>y.1).length<=arr.size:=by
    have h1:=hat (len-1) (by omega) (E.sz-1) (by omega)
    rw [List.getElem?_eq_getElem (by have:=hvl (len-1) (by omega); omega)] at h1
    have h2:=(Array.getElem?_eq_some_iff.1 h1).1
    rw [hfl,hL1]
    have h3:len*E.sz=(len-1)*E.sz+E.sz:=by
     obtain ⟨m,rfl⟩:∃ m,len=m+1:=⟨len-1,by omega⟩
     rw [Nat.succ_mul,Nat.add_sub_cancel]
    omega
   refine ⟨_,.sl (L.flatMap fun y=>y.1) len,L.map fun y=>y.2.2,rfl,.sl _ _ _ blk off arr ety fr (hF _ (Array.getElem?_eq_some_iff.1 hblk).1) hblk hl hsize fun j c v hc hv=>?_,⟨L.flatMap fun y=>y.1,⟨trivial,(fun s h=>by cases h),len,rfl,?_⟩,(fun _ _ _ _ _ _ e=>by cases e),?_,fun i z hz=>?_⟩,fun z hz=>?_,by rw [List.length_map,hL1]; omega⟩
   ·have hj:=(List.getElem?_eq_some_iff.1 hc).1
    rw [hfl] at hj
    have hi:j / E.sz<L.length:=(Nat.div_lt_iff_lt_mul hp).2 hj
    have hk:j % E.sz<E.sz:=Nat.mod_lt _ hp
    have hjk:j / E.sz*E.sz+j % E.sz=j:=Nat.div_add_mod' j E.sz
    have h1:=hfa _ hi _ hk
    have h2:=hat _ hi _ hk
    rw [hjk] at h1 h2
    rw [hc] at h1
    rw [hv] at h2
    exact (hL2 _ hi).2.1.2 _ _ _ h1.symm h2.symm
   ·simp only [aG]
    rw [if_pos ⟨Nat.le_refl _,by rw [hfl,hL1]; exact Nat.le_refl _⟩,List.take_of_length_le (by rw [hfl,hL1]; exact Nat.le_refl _)]
   ·rw [hfl,List.length_map]
   ·rw [List.getElem?_map,Option.map_eq_some_iff] at hz
    obtain ⟨y,hy,rfl⟩:=hz
    obtain ⟨hi,rfl⟩:=List.getElem?_eq_some_iff.1 hy
    have e:(((L.flatMap fun y=>y.1).drop (i*E.sz)).take E.sz)=L[i].1:=by
     apply List.ext_getElem?
     intro k
     rw [List.getElem?_take]
     have hl1:=hsizes _ (List.getElem_mem hi)
     split
     ·rename_i hk
      rw [List.getElem?_drop]; exact hfa i hi k hk
     ·exact (List.getElem?_eq_none (by omega)).symm
    rw [e]
    exact (hL2 i hi).2.2.1
   ·obtain ⟨y,hy,rfl⟩:=List.mem_map.1 hz
    obtain ⟨i,hi,rfl⟩:=List.getElem_of_mem hy
    exact (hL2 i hi).2.2.2
theorem Dg {t:TypeId} (ht:P.underlying t=some (.int .u64)) {fuel:Nat} {cs:List Value} {x:DataW HT × List MemPlace} (h:DataW.trod enc P w base sp held fuel t cs=some x) :
  ∃ acs z,LR μ F w acs cs/\(bC bT).R H acs z/\z<18446744073709551616:=by
 obtain ⟨n,rfl,-,hw⟩:=DataW.trod_int ht h
 have hr:0<=n/\n<18446744073709551616:=by
  have h1:IntKind.u64.min=0:=by decide
  have h2:IntKind.u64.max=18446744073709551615:=by decide
  unfold Lit.wf at hw
  simp [h1,h2] at hw
  omega
 refine ⟨[.int .u64 n],n.toNat,LR.cons (.int _ _) LR.nil,⟨_,rfl,?_⟩,by omega⟩
 show AV.int .u64 n=.int .u64 (n.toNat:Int)
 rw [Int.toNat_of_nonneg hr.1]
theorem FI {t e:TypeId} (hF:∀ c,c<w.heap.size->F c) (ht:P.underlying t=some (.slice e)) (he:P.underlying e=some (.int .u64)) (hsz:P.cellsOf e=1) {fuel:Nat} {cs:List Value} {x:DataW HT × List MemPlace} (h:DataW.trod enc P w base sp held fuel t cs=some x) :
  ∃ v av zs,cs=[v]/\VR μ F w av v/\SlV (bC bT) ad H av zs/\(∀ z∈zs,z<18446744073709551616)/\zs.length<=maxLen :=
 xz (E:=bC bT) hF ht hsz (fun fuel cs x h=>Dg he h) h
def yf (z:Bool × List Nat):Prop:=(∀ x∈z.2,x<18446744073709551616)/\z.2.length<=maxLen
theorem FH {t e:TypeId} {fs:Array Field} {f0 f1:Field} (hF:∀ c,c<w.heap.size->F c) (ht:P.underlying t=some (.struct fs)) (hfs:fs = #[f0,f1]) (h0:f0.offset=0) (h1:f1.offset=1) (hc:P.cellsOf t=2) (hb:P.underlying f0.type=some .bool) (hcb:P.cellsOf f0.type=1) (hn:P.underlying f1.type=some (.slice e)) (hcn:P.cellsOf f1.type=1) (he:P.underlying e=some (.int .u64)) (hce:P.cellsOf e=1)
  {fuel:Nat} {cs:List Value} {x:DataW HT × List MemPlace} (h:DataW.trod enc P w base sp held fuel t cs=some x) :
  ∃ acs z,LR μ F w acs cs/\rawE.R H acs z/\yf z:=by
 subst hfs
 obtain ⟨xs,n,-,-,hl,hxl,hx⟩:=DataW.trod_struct ht h
 have hxl:xs.length=2:=by simpa using hxl
 rw [hc] at hl
 match cs,hl with
 | [c0,c1],_ =>
  have e0:=hx 0 f0 rfl
  have e1:=hx 1 f1 rfl
  rw [List.getElem?_eq_getElem (by omega),h0,hcb] at e0
  rw [List.getElem?_eq_getElem (by omega),h1,hcn] at e1
  obtain ⟨b,g0,-⟩:=DataW.trod_bool hb e0
  obtain ⟨v,av,zs,g1,g2,g3,g4,g5⟩:=FI (H:=H) (μ:=μ) hF hn he hce e1
  have q0:c0=.bool b:=by simpa using g0
  have q1:c1=v:=by simpa using g1
  clear g0 g1
  subst q0; subst q1
  exact ⟨[.bool b,av],(b,zs),LR.cons (.bool _) (LR.cons g2 LR.nil),⟨av,rfl,g3⟩,g4,g5⟩
structure RowTys (P:Program) (tvs tv ti te:TypeId):Prop where
 vs:P.underlying tvs=some (.slice tv)
 cv:P.cellsOf tv=1
 v:P.underlying tv=some (.slice ti)
 ci:P.cellsOf ti=2
 i:∃ f0 f1:Field,P.underlying ti=some (.struct #[f0,f1])/\f0.offset=0/\f1.offset=1/\P.underlying f0.type=some .bool/\P.cellsOf f0.type=1/\P.underlying f1.type=some (.slice te)/\P.cellsOf f1.type=1
 e:P.underlying te=some (.int .u64)
 ce:P.cellsOf te=1
abbrev Nh (H:Heap) (v:AV) (l:List (Bool × List Nat)):Prop:=SlV rawE aa H v l
def g9 (l:List (Bool × List Nat)):Prop:=(∀ z∈l,yf z)/\l.length<=maxLen
theorem FG {tvs tv ti te:TypeId} (hP:RowTys P tvs tv ti te) (hF:∀ c,c<w.heap.size->F c) {fuel:Nat} {cs:List Value} {x:DataW HT × List MemPlace} (h:DataW.trod enc P w base sp held fuel tv cs=some x) :
  ∃ v av l,cs=[v]/\VR μ F w av v/\Nh H av l/\g9 l:=by
 obtain ⟨f0,f1,i1,i2,i3,i4,i5,i6,i7⟩:=hP.i
 obtain ⟨v,av,l,g1,g2,g3,g4,g5⟩:=xz (E:=rawE) (ty:=aa) (H:=H) (μ:=μ) (good:=yf) hF hP.v hP.ci (fun fuel cs x h=>FH hF i1 rfl i2 i3 hP.ci i4 i5 i6 i7 hP.e hP.ce h) h
 exact ⟨v,av,l,g1,g2,g3,g4,g5⟩
theorem Df {tvs tv ti te:TypeId} (hP:RowTys P tvs tv ti te) (hF:∀ c,c<w.heap.size->F c) {fuel:Nat} {cs:List Value} {x:DataW HT × List MemPlace} (h:DataW.trod enc P w base sp held fuel tvs cs=some x) :
  ∃ v av l,cs=[v]/\VR μ F w av v/\gL H av l/\(∀ r∈l,g9 r)/\l.length<=maxLen :=
 xz (E:=bC (oG rawE aa)) (ty:=ae) (good:=g9) hF hP.vs hP.cv (fun fuel cs x h=>by
  obtain ⟨v,av,l,rfl,g2,g3,g4⟩:=FG (H:=H) (μ:=μ) hP hF h
  exact ⟨[av],l,LR.cons g2 LR.nil,⟨av,rfl,g3⟩,g4⟩) h
end
def iL (z:Bool × List Nat):Int:=if z.1=true then -(val z.2:Int) else (val z.2:Int)
theorem wC:∀ {z:Bool × List Nat},ot z=false->Lim z.2->kj (iL z)=z
 | (b,l),hb,hl=>by
  simp only [ot,Bool.or_eq_false_iff,decide_eq_false_iff_not,Bool.and_eq_false_iff] at hb
  obtain ⟨h1,h2⟩:=hb
  have hn:ET l:=h1
  have hv:=rr hl hn
  cases b with
  | false =>
   have e:iL (false,l)=(val l:Int):=rfl
   rw [e]
   unfold kj
   rw [decide_eq_false (by omega),Int.natAbs_natCast,hv]
  | true =>
   have e:iL (true,l) = -(val l:Int):=rfl
   have hne:l≠[]:=fun e=>by subst e; simp at h2
   have hp:0<B^(l.length-1):=Nat.pow_pos (by decide)
   have hq:=tl hn hne
   rw [e]
   unfold kj
   rw [decide_eq_true (by omega),Int.natAbs_neg,Int.natAbs_natCast,hv]
theorem SlV.int {ty:Nat} {H:Heap} {v:AV} {l:List (Bool × List Nat)} (h:SlV rawE ty H v l) (hb:∀ z∈l,ot z=false/\Lim z.2):SlV intE ty H v (l.map iL):=by
 obtain ⟨cells,hr,ht,hc,ha⟩:=h
 refine ⟨cells,hr,ht,by rw [hc,List.length_map]; rfl,fun i a hi=>?_⟩
 rw [List.getElem?_map,Option.map_eq_some_iff] at hi
 obtain ⟨z,hz,rfl⟩:=hi
 obtain ⟨w,h1,h2⟩:=ha i z hz
 have hm:=hb z (List.mem_of_getElem? hz)
 have e:=wC hm.1 hm.2
 have e1:decide (iL z<0)=z.1:=congrArg Prod.fst e
 have e2:ag (iL z).natAbs=z.2:=congrArg Prod.snd e
 refine ⟨w,by rw [e1]; exact h1,?_⟩
 show Lb H w (ag (iL z).natAbs)
 rw [e2]; exact h2
theorem FZ {H:Heap} {v:AV} {l:List (List (Bool × List Nat))} (h:gL H v l) (hb:∀ r∈l,∀ z∈r,ot z=false/\Lim z.2):bA H v (l.map fun r=>r.map iL):=by
 obtain ⟨cells,hr,ht,hc,ha⟩:=h
 refine ⟨cells,hr,ht,by rw [hc,List.length_map]; rfl,fun i a hi=>?_⟩
 rw [List.getElem?_map,Option.map_eq_some_iff] at hi
 obtain ⟨z,hz,rfl⟩:=hi
 obtain ⟨w,h1,h2⟩:=ha i z hz
 exact ⟨w,h1,SlV.int h2 (hb z (List.mem_of_getElem? hz))⟩
section
open Go.ChangeShapes Go.WideShapes
variable {HT:Type} {enc:TypeId × Value->HT} {P:Program} {w:World} {base base':Nat} {sp:Nat->Bool} {held:Bool} {μ:Mu} {F:Nat->Prop} {H:Heap}
theorem open_rows {tvs tv ti te:TypeId} (hP:RowTys P tvs tv ti te) (hF:∀ c,c<w.heap.size->F c) {r:Reach} {v:Value} {d:DataW HT} {ps:List MemPlace} (hval:Value.okWide P w r base' tvs v) (hd:DataW.Trod enc P w base sp held tvs v d ps) :
  ∃ av l,VR μ F w av v/\gL H av l/\(∀ r∈l,g9 r)/\l.length<=maxLen:=by
 obtain ⟨a,n,c,rfl⟩:=okWide_slice hP.vs hval
 obtain ⟨fuel,h⟩:=hd
 obtain ⟨v',av,l,e,g⟩:=Df (H:=H) (μ:=μ) hP hF h
 have e:v'=.slice a n c:=by simpa [Value.cells] using e.symm
 subst e
 exact ⟨av,l,g⟩
end
theorem int_range {n:Int} (h:(Lit.int .i64 n).wf=true) : -9223372036854775808<=n/\n<9223372036854775808:=by
 have h1:IntKind.i64.min = -9223372036854775808:=by decide
 have h2:IntKind.i64.max=9223372036854775807:=by decide
 unfold Lit.wf at h
 simp [h1,h2] at h
 omega
theorem u8_range {n:Int} (h:(Lit.int .u8 n).wf=true):0<=n/\n<256:=by
 have h1:IntKind.u8.min=0:=by decide
 have h2:IntKind.u8.max=255:=by decide
 unfold Lit.wf at h
 simp [h1,h2] at h
 omega
theorem wf_nil:Wf (Heap.nil 0):=fun b e h=>by rw [Tr.nil_get] at h; cases h
theorem mh {H:Heap} {b:Nat} {x y:Int} {r:Bool} (h:H.get b=some (.cells [.int .i64 x,.int .i64 y] dG r)):tx (DW .i64) dG H (.own b 0 2 2 1 true) [x,y] :=
 ⟨[_,_],Rd.own h rfl (Nat.le_refl _),fun _ _ _ _ _ _ e=>by cases e; exact ⟨_,_,h⟩,rfl,fun i a hi=>by
  match i with
  | 0=>simp at hi; subst hi; exact ⟨_,rfl,rfl⟩
  | 1=>simp at hi; subst hi; exact ⟨_,rfl,rfl⟩
  | i+2=>simp at hi⟩
def Emp (H:Heap) (a e:Nat):Prop:=e<=H.next/\∀ c,a<=c->c<e->H.get c=none
theorem Emp.start {H:Heap} (hw:Wf H) {k:Nat}:Emp (H.up k) H.next (H.next+k):=⟨Nat.le_refl _,fun c h _=>hw.fresh h⟩
theorem Emp.next {G H2:Heap} {a e p a':Nat} {x:Ent} (hf:Emp G a e) (hk:Kp (G.put p x) H2) (hp:p<a') (ha:a<=a'):Emp H2 a' e :=
 ⟨Nat.le_trans hf.1 hk.le,fun c h1 h2=>hk.free (by rw [next_put]; exact Nat.lt_of_lt_of_le h2 hf.1) (by rw [aw (by omega)]; exact hf.2 c (by omega) h2)⟩
theorem Emp.keep {G H2:Heap} {a e:Nat} (hf:Emp G a e) (hk:Kp G H2):Emp H2 a e :=
 ⟨Nat.le_trans hf.1 hk.le,fun c h1 h2=>hk.free (Nat.lt_of_lt_of_le h2 hf.1) (hf.2 c h1 h2)⟩
theorem Emp.sub {G:Heap} {a e p:Nat} {x:Ent} (hf:Emp G a e) (h1:a<=p) (h2:p<e):Sub G (G.put p x):=cn (hf.2 p h1 h2)
section
variable {tab:Nat->Option au} {H:Heap} {s:AV}
theorem jX (C:Code tab) (hw:Wf H) {x y:Int} (hx : -9223372036854775808<=x/\x<9223372036854775808) (hy : -9223372036854775808<=y/\y<9223372036854775808) :
  Ans tab (.fn bH [.int .i64 x,.int .i64 y]) H fun v H'=>bA H' v [[x,y]]/\Kp H H':=by
 refine cC C.facetroomlaw20_one (by decide) fun T hl g0 g1=>?_
 refine zW (aH hl g0 g1) ?_
 refine AnsH.use (vec_Of C (l:=[x,y]) zF (mh (by refine sX ?_; rfl)) (by simp) (by simp [hx,hy])) ?_
 rintro v H2 ⟨hr,hk2⟩
 obtain ⟨k2,_,w2⟩:=zT H zK hk2
 have ov:=hr.one
 have f4:H2.get (H.next+5)=none:=hk2.free (by refine sX ?_; omega) (by refine sX ?_; exact hw.fresh (by omega))
 have lt4:H.next+7<=H2.next:=hk2.le
 refine zW (aH hl g0 g1) ?_
 refine ⟨?_,zK⟩
 exact Gt (E:=intE) (t1:=aa) hr (cn f4) (aI _ _ _)
theorem nQ (C:Code tab) (hw:Wf H) {va vb vc vd:AV} {E I L R:List (List Int)} {m:Nat} (ha:bA H va E) (hb:bA H vb I) (hc:bA H vc L) (hd:bA H vd R) (he:E.length<=1024) (hi:I.length<=20) (h1:∀ a∈E,a.length=2/\Lin.Bd (2^m) a) (h2:∀ a∈I,a.length=2/\Lin.Bd (2^m) a) (hm:m<=3000) :
  Ans tab (.fn bP [va,vb,vc,vd]) H fun v H'=>v=.bool (decide (Lin.gensL 2 E I=L) && decide (Lin.gensR 2 E I=R))/\Kp H H':=by
 obtain ⟨o1,o2⟩:=tk (d:=2) (m:=m) (by omega) (by omega) h1 h2
 refine IT C.facetroomlaw20_gives (by decide) fun T hl g0 g1 g2 g3=>?_
 refine zW (aH hl g0 g1) ?_
 refine AnsH.use (cone_Gens C (d:=2) (m:=m) zF (ha.mono (Kp.sub (H:=H) zK)) (hb.mono (Kp.sub (H:=H) zK)) (by omega) (by omega) he hi h1 h2 (by omega)) ?_
 rintro v H2 ⟨p,q,rfl,hp,hq,hk2⟩
 obtain ⟨k2,_,w2⟩:=zT H zK hk2
 refine zW (mr hl g0 g1 g2 g3 g2 g3) ?_
 refine AnsH.eq (mD C zF (hp.mono (Kp.sub (H:=H2) zK)) (hc.mono (Kp.sub (H:=H) zK)) ?_ ?_) fun H3 hk3=>?_
 ·have:=mO (Lin.gens_told (d:=2) (fun a ha=>(h1 a ha).1) (fun a ha=>(h2 a ha).1)).form
  omega
 ·exact fun r hr=>⟨by rw [(o1 r hr).1]; omega,fun z hz=>(jA (o1 r hr).2 z hz).sm (by omega)⟩
 obtain ⟨k3,_,_⟩:=zT H zK hk3
 have k23:Kp H2 H3:=Kp.trans zK hk3
 have le_k23:=k23.le
 have w3:=k3.wf
 cases hs:decide (Lin.gensL 2 E I=L) with
 | false =>
  refine zW (dI hl g0 g1 g2 g3) ?_
  exact zK
 | true =>
  refine zW (i9 hl g0 g1 g2 g3 g3) ?_
  refine AnsH.eq (mD C zF ((hq.mono k23.sub).mono (Kp.sub (H:=H3) zK)) (hd.mono (Kp.sub (H:=H) zK)) ?_ ?_) fun H4 hk4=>?_
  ·have:=(Lin.gens_told (d:=2) (fun a ha=>(h1 a ha).1) (fun a ha=>(h2 a ha).1)).dd.count
   have hp:2^I.length<=2^20:=Nat.pow_le_pow_right (by decide) hi
   have hp2:(2:Nat)^20=1048576:=by decide
   omega
  ·exact fun r hr=>⟨by rw [(o2 r hr).1]; omega,fun z hz=>(jA (o2 r hr).2 z hz).sm (by omega)⟩
  obtain ⟨k4,_,_⟩:=zT H zK hk4
  refine zW (dI hl g0 g1 g2 g3) ?_
  exact zK
end
end Go.Proofs.YtichbdepocojaaaGreat.Ev
namespace Go.Proofs.YtichbdepocojaaaGreat.Lin
set_option linter.all false
theorem bd_small {x:V} (h:x.all (fun a=>decide (a.natAbs<=2))=true):Bd (2^1) x:=fun i=>by
 by_cases hi:i<x.length
 ·have:at_ x i=x[i]:=by simp [at_,hi]
  rw [this]
  simpa using List.all_eq_true.1 h _ (List.getElem_mem hi)
 ·have:at_ x i=0:=by simp [at_,hi]
  rw [this]; simp
theorem ex1:gensL 2 [] [[1,0],[0,1]]=[]/\gensR 2 [] [[1,0],[0,1]]=[[0,1],[1,0]]:=by
 have r:(gensU 2 [] [[1,0],[0,1]]).rays.map (restF (gensL 2 [] [[1,0],[0,1]]))=[[1,0],[0,1]]:=by decide +kernel
 refine ⟨by decide +kernel,?_⟩
 unfold gensR; rw [r]
 simp [List.mergeSort,List.MergeSort.Internal.splitInTwo,cmpV]
theorem ex2:gensL 2 [] [[1,1]]=[[-1,1]]/\gensR 2 [] [[1,1]]=[[1,0]]:=by
 have r:(gensU 2 [] [[1,1]]).rays.map (restF (gensL 2 [] [[1,1]]))=[[1,0]]:=by decide +kernel
 refine ⟨by decide +kernel,?_⟩
 unfold gensR; rw [r]; simp
theorem ex3:gensL 2 [[0,1]] [[1,0]]=[]/\gensR 2 [[0,1]] [[1,0]]=[[1,0]]:=by
 have r:(gensU 2 [[0,1]] [[1,0]]).rays.map (restF (gensL 2 [[0,1]] [[1,0]]))=[[1,0]]:=by decide +kernel
 refine ⟨by decide +kernel,?_⟩
 unfold gensR; rw [r]; simp
end Go.Proofs.YtichbdepocojaaaGreat.Lin
namespace Go.Proofs.YtichbdepocojaaaGreat.Ev
open Go Nn
set_option linter.all false
theorem Emp.put {G:Heap} {a e p a':Nat} {x:Ent} (hf:Emp G a e) (hp:p<a') (ha:a<=a'):Emp (G.put p x) a' e :=
 ⟨hf.1,fun c h1 h2=>by rw [aw (by omega)]; exact hf.2 c (by omega) h2⟩
theorem xE {A:List (List Int)} (h:A.all (fun x=>decide (x.length=2) && x.all (fun a=>decide (a.natAbs<=2)))=true):∀ a∈A,a.length=2/\Lin.Bd (2^1) a:=fun a ha=>by
 have:=List.all_eq_true.1 h a ha
 simp only [Bool.and_eq_true,decide_eq_true_eq] at this
 exact ⟨this.1,Lin.bd_small this.2⟩
section
variable {tab:Nat->Option au} {H:Heap} {s:AV}
theorem zu (C:Code tab) (hw:Wf H):Ans tab (.fn cX []) H fun v H'=>v=.bool true/\Kp H H':=by
 refine M9 C.facetroomlaw20_alive fun T hl=>?_
 refine zW hl ?_
 have e0:Emp (H.up 13) H.next (H.next+13):=Emp.start hw
 refine AnsH.use (vec_Of C (l:=[1,0]) zF (mh (by refine sX ?_; rfl)) (by simp) (by simp)) ?_
 rintro v3 H2 ⟨r3,hk2⟩
 obtain ⟨k2,_,w2⟩:=zT H zK hk2
 have e2:Emp H2 (H.next+2) (H.next+13):=(e0.put (by omega) (by omega)).keep hk2
 have n2:=e2.1
 have o3:=r3.one
 refine zW hl ?_
 refine AnsH.use (vec_Of C (l:=[0,1]) zF (mh (by refine sX ?_; rfl)) (by simp) (by simp)) ?_
 rintro v5 H3 ⟨r5,hk3⟩
 obtain ⟨k3,_,w3⟩:=zT H zK hk3
 have e3:Emp H3 (H.next+4) (H.next+13):=(e2.put (by omega) (by omega)).keep hk3
 have n3:=e3.1
 have s23:Sub H2 H3:=(e2.sub (p:=H.next+3) (by omega) (by omega)).trans hk3.sub
 have o5:=r5.one
 refine zW hl ?_
 obtain ⟨G3,hG3⟩:∃ G,G=H3.put (H.next+5) (.cells [v3,v5] ae true):=⟨_,rfl⟩
 rw [<- hG3]
 have e3':Emp G3 (H.next+6) (H.next+13):=by rw [hG3]; exact e3.put (by omega) (by omega)
 have s3:Sub H3 G3:=by rw [hG3]; exact e3.sub (by omega) (by omega)
 have k3':Kp H G3:=by rw [hG3]; exact zK
 have w3':=k3'.wf
 have n3':=e3'.1
 have R1:bA G3 (.own (H.next+5) 0 2 2 1 true) [[1,0],[0,1]]:=pd (E:=intE) (t1:=aa) (r3.mono s23) r5 s3 (by rw [hG3]; exact aI _ _ _)
 refine AnsH.use (vec_Of C (l:=[0,1]) zF (mh (by refine sX ?_; rfl)) (by simp) (by simp)) ?_
 rintro v8 H4 ⟨r8,hk4⟩
 obtain ⟨k4,_,w4⟩:=zT H zK hk4
 have e4:Emp H4 (H.next+7) (H.next+13):=(e3'.put (by omega) (by omega)).keep hk4
 have n4:=e4.1
 have s4:Sub G3 H4:=(e3'.sub (p:=H.next+6) (by omega) (by omega)).trans hk4.sub
 have o8:=r8.one
 refine zW hl ?_
 refine AnsH.use (vec_Of C (l:=[1,0]) zF (mh (by refine sX ?_; rfl)) (by simp) (by simp)) ?_
 rintro fc H5 ⟨r10,hk5⟩
 obtain ⟨k5,_,w5⟩:=zT H zK hk5
 have e5:Emp H5 (H.next+9) (H.next+13):=(e4.put (by omega) (by omega)).keep hk5
 have n5:=e5.1
 have s5:Sub H4 H5:=(e4.sub (p:=H.next+8) (by omega) (by omega)).trans hk5.sub
 have o10:=r10.one
 refine zW hl ?_
 obtain ⟨G5,hG5⟩:∃ G,G=H5.put (H.next+10) (.cells [v8,fc] ae true):=⟨_,rfl⟩
 rw [<- hG5]
 have s5':Sub H5 G5:=by rw [hG5]; exact e5.sub (by omega) (by omega)
 have k5':Kp H G5:=by rw [hG5]; exact zK
 have w5':=k5'.wf
 have n5':H5.next=G5.next:=by rw [hG5]; rfl
 have R2:bA G5 (.own (H.next+10) 0 2 2 1 true) [[0,1],[1,0]]:=pd (E:=intE) (t1:=aa) (r8.mono s5) r10 s5' (by rw [hG5]; exact aI _ _ _)
 have R1':=R1.mono ((s4.trans s5).trans s5')
 refine AnsH.eq (nQ C (m:=1) zF (SlV.nil _ _ _) R1' (SlV.nil _ _ _) R2 (by simp) (by simp) (by simp) (xE (by decide)) (by omega)) fun H6 hk6=>?_
 obtain ⟨k6,_,w6⟩:=zT H zK hk6
 rw [decide_eq_true Lin.ex1.1,decide_eq_true Lin.ex1.2]
 refine zW hl ?_
 refine AnsH.use (jX C (x:=1) (y:=1) zF (by omega) (by omega)) ?_
 rintro lv H7 ⟨r15,hk7⟩
 obtain ⟨k7,_,w7⟩:=zT H zK hk7
 refine zW hl ?_
 refine AnsH.use (jX C (x:=-1) (y:=1) zF (by omega) (by omega)) ?_
 rintro mz H8 ⟨r16,hk8⟩
 obtain ⟨k8,_,w8⟩:=zT H zK hk8
 refine zW hl ?_
 refine AnsH.use (jX C (x:=1) (y:=0) zF (by omega) (by omega)) ?_
 rintro mw H9 ⟨r17,hk9⟩
 obtain ⟨k9,_,w9⟩:=zT H zK hk9
 refine zW hl ?_
 refine AnsH.eq (nQ C (m:=1) zF (SlV.nil _ _ _) (r15.mono (hk8.sub.trans hk9.sub)) (r16.mono hk9.sub) r17 (by simp) (by simp) (by simp) (xE (by decide)) (by omega)) fun H10 hk10=>?_
 obtain ⟨k10,_,w10⟩:=zT H zK hk10
 rw [decide_eq_true Lin.ex2.1,decide_eq_true Lin.ex2.2]
 refine zW hl ?_
 refine AnsH.use (jX C (x:=0) (y:=1) zF (by omega) (by omega)) ?_
 rintro tH H11 ⟨r21,hk11⟩
 obtain ⟨k11,_,w11⟩:=zT H zK hk11
 refine zW hl ?_
 refine AnsH.use (jX C (x:=1) (y:=0) zF (by omega) (by omega)) ?_
 rintro tG H12 ⟨r22,hk12⟩
 obtain ⟨k12,_,w12⟩:=zT H zK hk12
 refine zW hl ?_
 refine AnsH.use (jX C (x:=1) (y:=0) zF (by omega) (by omega)) ?_
 rintro yB H13 ⟨r23,hk13⟩
 obtain ⟨k13,_,w13⟩:=zT H zK hk13
 refine zW hl ?_
 refine AnsH.eq (nQ C (m:=1) zF (r21.mono (hk12.sub.trans hk13.sub)) (r22.mono hk13.sub) (SlV.nil _ _ _) r23 (by simp) (by simp) (xE (by decide)) (xE (by decide)) (by omega)) fun H14 hk14=>?_
 obtain ⟨k14,_,w14⟩:=zT H zK hk14
 have n14:H6.next+20<=H14.next:=Nat.le_trans hk7.le (Nat.le_trans hk8.le (Nat.le_trans hk9.le (Nat.le_trans hk10.le (Nat.le_trans hk11.le (Nat.le_trans hk12.le (Nat.le_trans hk13.le hk14.le))))))
 rw [decide_eq_true Lin.ex3.1,decide_eq_true Lin.ex3.2]
 refine zW hl ?_
 refine AnsH.use (vec_Of C (l:=[1,2]) zF (mh (by refine sX ?_; rfl)) (by simp) (by simp)) ?_
 rintro yI H15 ⟨r28,hk15⟩
 obtain ⟨k15,_,_⟩:=zT H zK hk15
 have l28:lenV yI=some (.int .i64 2):=r28.lenV
 refine zW (az hl l28) ?_
 exact zK
theorem zt (C:Code tab) (hw:Wf H) {a b:AV} {A B:List (List (Bool × List Nat))} {d:Int} (ha:gL H a A) (hb:gL H b B) :
  Ans tab (.fn cW [.int .i64 d,a,b]) H fun v H'=>v=.bool (cB 4 5 1 A || cB 7 5 1 B || decide (5<d))/\Kp H H':=by
 refine lG C.facetroomlaw20_great (by decide) fun T hl g0 g1 g2=>?_
 refine zW (aU hl g0 g1 g2) ?_
 refine AnsH.eq (y8 C zF (ha.mono (Kp.sub (H:=H) zK)) (hb.mono (Kp.sub (H:=H) zK))) fun H2 hk2=>?_
 obtain ⟨k2,_,_⟩:=zT H zK hk2
 cases h:cB 4 5 1 A || cB 7 5 1 B with
 | true =>
  refine zW (az hl g0) ?_
  exact ⟨by simp,zK⟩
 | false =>
  refine zW (az hl g0) ?_
  exact ⟨by simp,zK⟩
structure sW (d n:Nat) (l:List (List Int)):Prop where
 len:l.length<=n
 row:∀ a∈l,a.length=d/\Lin.Bd (2^64) a
theorem M2 {z:Bool × List Nat} (h1:¬ 1<z.2.length) (hl:Lim z.2):(iL z).natAbs<=2^64:=by
 have h2:=qZ hl
 have h3:B^z.2.length<=B^1:=Nat.pow_le_pow_right (by decide) (by omega)
 have h4:B^1=2^64:=by decide
 unfold iL
 split
 ·rw [Int.natAbs_neg,Int.natAbs_natCast]; omega
 ·rw [Int.natAbs_natCast]; omega
theorem eP {n m k:Nat} {A:List (List (Bool × List Nat))} (h:cB n m k A=false):A.length<=n/\∀ r∈A,r.length<=m/\∀ z∈r,¬ k<z.2.length:=by
 simp only [cB,Bool.or_eq_false_iff,decide_eq_false_iff_not,List.any_eq_false,Bool.not_eq_true] at h
 refine ⟨by omega,fun r hr=>?_⟩
 have:=h.2 r hr
 simp only [mN,Bool.or_eq_false_iff,decide_eq_false_iff_not,List.any_eq_false,Bool.not_eq_true] at this
 exact ⟨by omega,fun z hz=>by simpa using this.2 z hz⟩
theorem lz {A:List (List (Bool × List Nat))} (h:aZ A=0):∀ r∈A,(∀ z∈r,ot z=false)/\0<r.length/\r.length=(A.headD []).length:=fun r hr=>by
 unfold aZ at h
 split at h
 ·cases h
 ·split at h
  ·cases h
  ·rename_i h2
   split at h
   ·cases h
   ·rename_i h3
    rw [Bool.not_eq_true,List.any_eq_false] at h2 h3
    have e2:=h2 r hr
    have e3:=h3 r hr
    simp only [pT,Gd,Bool.or_eq_true,Bool.not_eq_true',decide_eq_true_eq,not_or,Bool.not_eq_false,Bool.and_eq_true,List.any_eq_false] at e2
    refine ⟨fun z hz=>by simpa using e2.1.2 z hz,by omega,?_⟩
    simpa using e3
theorem wA {v:AV} {A:List (List (Bool × List Nat))} {n:Nat} (ha:gL H v A) (gA:∀ r∈A,g9 r) (h1:cB n 5 1 A=false) (hc:aZ A=0) :
  ∃ E,bA H v E/\A=E.map (fun r=>r.map kj)/\E.length<=n/\E.length=A.length/\(∀ r∈E,0<r.length/\r.length<=5/\r.length=(A.headD []).length/\Lin.Bd (2^64) r):=by
 obtain ⟨g1,g2⟩:=eP h1
 have hz:=lz hc
 have hlim:∀ r∈A,∀ z∈r,ot z=false/\Lim z.2:=fun r hr z hzr=>⟨(hz r hr).1 z hzr,fun x hx=>((gA r hr).1 z hzr).1 x hx⟩
 refine ⟨A.map fun r=>r.map iL,FZ ha hlim,?_,by simpa using g1,by simp,fun r hr=>?_⟩
 ·rw [List.map_map]
  conv=>lhs; rw [<- List.map_id A]
  refine List.map_congr_left fun r hr=>?_
  rw [id,Function.comp,List.map_map]
  conv=>lhs; rw [<- List.map_id r]
  exact List.map_congr_left fun z hzr=>(wC (hlim r hr z hzr).1 (hlim r hr z hzr).2).symm
 ·obtain ⟨q,hq,rfl⟩:=List.mem_map.1 hr
  have h3:=hz q hq
  refine ⟨by rw [List.length_map]; exact h3.2.1,by rw [List.length_map]; exact (g2 q hq).1,by rw [List.length_map]; exact h3.2.2,fun i=>?_⟩
  by_cases hi:i<(q.map iL).length
  ·rw [mV hi,List.getElem_map]
   have hi':i<q.length:=by simpa using hi
   exact M2 ((g2 q hq).2 _ (List.getElem_mem hi')) (hlim q hq _ (List.getElem_mem hi')).2
  ·have:Lin.at_ (q.map iL) i=0:=by
    unfold Lin.at_
    rw [List.getD_eq_getElem?_getD,List.getElem?_eq_none (by omega)]; rfl
   rw [this]; exact Nat.zero_le _
theorem AZ {a b:AV} {A B:List (List (Bool × List Nat))} (ha:gL H a A) (hb:gL H b B) (gA:∀ r∈A,g9 r) (gB:∀ r∈B,g9 r) (h1:cB 4 5 1 A=false) (h2:cB 7 5 1 B=false) :
  cj A B≠0\/cj A B=0/\∃ dd E I,bA H a E/\bA H b I/\0<dd/\dd<=5/\sW dd 4 E/\sW dd 7 I:=by
 by_cases hc:cj A B=0
 ·refine .inr ⟨hc,?_⟩
  unfold cj at hc
  split at hc
  ·rename_i h; exact absurd hc h
  rename_i hA
  split at hc
  ·rename_i h; exact absurd hc h
  rename_i hB
  split at hc
  ·cases hc
  rename_i hne
  have hA:aZ A=0:=by simpa using hA
  have hB:aZ B=0:=by simpa using hB
  obtain ⟨E,e1,e2,e3,e4,e5⟩:=wA ha gA h1 hA
  obtain ⟨I,i1,i2,i3,i4,i5⟩:=wA hb gB h2 hB
  cases A with
  | nil =>
   have hE:E=[]:=List.eq_nil_of_length_eq_zero (by simpa using e4)
   subst hE
   cases B with
   | nil =>
    have hI:I=[]:=List.eq_nil_of_length_eq_zero (by simpa using i4)
    subst hI
    exact ⟨1,[],[],e1,i1,by omega,by omega,⟨by simp,fun _ h=>by cases h⟩,⟨by simp,fun _ h=>by cases h⟩⟩
   | cons x B =>
    have hx:=lz hB x (List.mem_cons_self ..)
    have hx5:=(eP h2).2 x (List.mem_cons_self ..)
    exact ⟨x.length,[],I,e1,i1,hx.2.1,hx5.1,⟨by simp,fun _ h=>by cases h⟩,⟨i3,fun r hr=>⟨(i5 r hr).2.2.1,(i5 r hr).2.2.2⟩⟩⟩
  | cons x A =>
   have hx:=lz hA x (List.mem_cons_self ..)
   have hx5:=(eP h1).2 x (List.mem_cons_self ..)
   refine ⟨x.length,E,I,e1,i1,hx.2.1,hx5.1,⟨e3,fun r hr=>⟨(e5 r hr).2.2.1,(e5 r hr).2.2.2⟩⟩,⟨i3,fun r hr=>⟨?_,(i5 r hr).2.2.2⟩⟩⟩
   cases B with
   | nil =>
    have hI:I=[]:=List.eq_nil_of_length_eq_zero (by simpa using i4)
    subst hI
    cases hr
   | cons y B =>
    rw [(i5 r hr).2.2.1]
    have:=hne
    simp at this
    exact this.symm
 ·exact .inl hc
end
theorem wN {n m k:Nat} {A:List (List (Bool × List Nat))} (h:cB n m k A=false) (hm:m<=1000) (hk:k<=1000):∀ r∈A,yv r:=fun r hr=>by
 have:=(eP h).2 r hr
 exact ⟨by omega,fun z hz=>by have:=this.2 z hz; omega⟩
section
variable {tab:Nat->Option au} {H:Heap} {s:AV}
theorem uT (C:Code tab) (hw:Wf H) {va vb:AV} {d:Int} {A B:List (List (Bool × List Nat))} (ha:gL H va A) (hb:gL H vb B) (hA:A.length<1099511627776) (hB:B.length<1099511627776) (ba:∀ r∈A,yv r) (bb:∀ r∈B,yv r) (hc:cj A B≠0) :
  Ans tab (.fn eB [.int .i64 d,va,vb]) H fun v H'=>v=.tup [.nilSl,.nilSl,.int .i64 (cj A B)]/\Kp H H':=by
 refine lG C.cone_Gens (by decide) fun T hl g0 g1 g2=>?_
 refine zW (aU hl g0 g1 g2) ?_
 refine AnsH.eq (cone_checked C zF (ha.mono (Kp.sub (H:=H) zK)) (hb.mono (Kp.sub (H:=H) zK)) hA hB ba bb) fun H2 hk2=>?_
 obtain ⟨k2,_,_⟩:=zT H zK hk2
 have hc:¬ cj A B=0:=hc
 refine zW (dI hl g0 g1 g2 hc) ?_
 exact zK
theorem uS (C:Code tab) (hw:Wf H) {va vb:AV} {d:Int} {dd:Nat} {E I:List (List Int)} (ha:bA H va E) (hb:bA H vb I) (d0:0<dd) (d5:dd<=5) (gE:sW dd 4 E) (gI:sW dd 7 I) (hbad:d<1\/64<d\/(d≠(dd:Int)/\(E≠[]\/I≠[]))) :
  Ans tab (.fn eB [.int .i64 d,va,vb]) H fun v H'=>∃ e,e≠0/\v=.tup [.nilSl,.nilSl,.int .i64 e]/\Kp H H':=by
 have oa:=ha.one
 have ob:=hb.one
 have lE:=gE.len
 have lI:=gI.len
 have sm:∀ {z:Int} {r:List Int},Lin.Bd (2^64) r->z∈r->fL z:=fun hb hz=>(jA hb _ hz).sm (by omega)
 have ok1:mZ dd E:=⟨d0,by omega,fun r hr=>(gE.row r hr).1,fun r hr z hz=>sm (gE.row r hr).2 hz⟩
 have ok2:mZ dd I:=⟨d0,by omega,fun r hr=>(gI.row r hr).1,fun r hr z hz=>sm (gI.row r hr).2 hz⟩
 refine lG C.cone_Gens (by decide) fun T hl g0 g1 g2=>?_
 refine zW (aU hl g0 g1 g2) ?_
 refine AnsH.eq (cone_checked C zF ((kh ha).mono (Kp.sub (H:=H) zK)) ((kh hb).mono (Kp.sub (H:=H) zK)) (by rw [List.length_map]; omega) (by rw [List.length_map]; omega) (fun r hr=>?_) (fun r hr=>?_)) fun H2 hk2=>?_
 ·obtain ⟨x,hx,rfl⟩:=List.mem_map.1 hr
  exact jC (by rw [ok1.len x hx]; omega) (ok1.sm x hx)
 ·obtain ⟨x,hx,rfl⟩:=List.mem_map.1 hr
  exact jC (by rw [ok2.len x hx]; omega) (ok2.sm x hx)
 rw [pQ ok1 ok2 (by omega) (by omega)]
 obtain ⟨k2,_,w2⟩:=zT H zK hk2
 refine zW (aU hl g0 g1 g2) ?_
 refine AnsH.eq (cone_long C (Ls:=[E,I]) (d:=dd) zF (pd (E:=rowsE) (t1:=ae) (ha.mono k2.sub) (hb.mono k2.sub) (Kp.sub (H:=H2) zK) (d8)) (by simp) (fun L hL r hr=>?_)) fun H3 hk3=>?_
 ·rcases List.mem_cons.1 hL with rfl | hL
  ·exact ok1.len r hr
  ·rcases List.mem_cons.1 hL with rfl | hL
   ·exact ok2.len r hr
   ·cases hL
 obtain ⟨k3,_,w3⟩:=zT H zK hk3
 by_cases q1:d<1
 ·refine zW (aH hl g0 q1) ?_
  exact ⟨2,by omega,rfl,zK⟩
 by_cases q2:(64:Int)<d
 ·refine zW (aU hl g0 q1 q2) ?_
  exact ⟨2,by omega,rfl,zK⟩
 have hb3:d≠(dd:Int)/\(E≠[]\/I≠[]):=by
  rcases hbad with h | h | h
  ·exact absurd h q1
  ·exact absurd h q2
  ·exact h
 have hany:[E,I].any (fun L=>!L.isEmpty)=true:=by
  rw [List.any_eq_true]
  rcases hb3.2 with h | h
  ·exact ⟨E,by simp,by cases E <;> simp_all⟩
  ·exact ⟨I,by simp,by cases I <;> simp_all⟩
 have q3:(0:Int)<=(dd:Int):=by omega
 have q4:¬ (dd:Int)=d:=fun e=>hb3.1 e.symm
 rw [hany]
 refine zW (i9 hl g0 q1 q2 q3 q4) ?_
 exact ⟨70,by omega,rfl,zK⟩
theorem D6 (C:Code tab) {va vb:AV} {d:Int} {A B:List (List (Bool × List Nat))} (ha:gL H va A) (hb:gL H vb B) (gA:∀ r∈A,g9 r) (gB:∀ r∈B,g9 r) (h1:cB 4 5 1 A=false) (h2:cB 7 5 1 B=false) (h5:¬ 5<d) :
  (∀ H1,Wf H1->Sub H H1->Ans tab (.fn eB [.int .i64 d,va,vb]) H1 fun v H'=>∃ e,e≠0/\v=.tup [.nilSl,.nilSl,.int .i64 e]/\Kp H1 H') \/
  ∃ (dd:Nat) (E I:List (List Int)),d=(dd:Int)/\0<dd/\dd<=5/\bA H va E/\bA H vb I/\sW dd 4 E/\sW dd 7 I:=by
 have lA:=(eP h1).1
 have lB:=(eP h2).1
 rcases AZ ha hb gA gB h1 h2 with hc | ⟨hc,dd,E,I,hE,hI,d0,d5,gE,gI⟩
 ·refine .inl fun H1 hw hs=>(uT C hw (ha.mono hs) (hb.mono hs) (by omega) (by omega) (wN h1 (by omega) (by omega)) (wN h2 (by omega) (by omega)) hc).mono ?_
  rintro v H' ⟨rfl,hk⟩
  exact ⟨_,hc,rfl,hk⟩
 ·by_cases hbad:d<1\/64<d\/(d≠(dd:Int)/\(E≠[]\/I≠[]))
  ·exact .inl fun H1 hw hs=>uS C hw (hE.mono hs) (hI.mono hs) d0 d5 gE gI hbad
  ·have q1:¬ d<1:=fun h=>hbad (.inl h)
   have q3:d=(dd:Int)\/E=[]/\I=[]:=by
    by_cases e:d=(dd:Int)
    ·exact .inl e
    ·refine .inr ⟨?_,?_⟩
     ·by_cases h:E=[]
      ·exact h
      ·exact absurd (.inr (.inr ⟨e,.inl h⟩)) hbad
     ·by_cases h:I=[]
      ·exact h
      ·exact absurd (.inr (.inr ⟨e,.inr h⟩)) hbad
   rcases q3 with e | ⟨rfl,rfl⟩
   ·exact .inr ⟨dd,E,I,e,d0,d5,hE,hI,gE,gI⟩
   ·exact .inr ⟨d.toNat,[],[],by omega,by omega,by omega,hE,hI,⟨by simp,fun _ h=>by cases h⟩,⟨by simp,fun _ h=>by cases h⟩⟩
end
end Go.Proofs.YtichbdepocojaaaGreat.Ev
namespace Go.Proofs.YtichbdepocojaaaGreat.Lin
set_option linter.all false
theorem Ky {M:Nat} {x:V} (h:Bd M x):Bd M (scl (-1) x):=fun i=>by
 have e:at_ (scl (-1) x) i = -(at_ x i):=by
  simp only [at_,scl,List.getD_eq_getElem?_getD,List.getElem?_map]
  cases x[i]? <;> simp
 rw [e,Int.natAbs_neg]; exact h i
theorem IF {M N:Nat} {x y:V} (hxy:x.length=y.length) (h:Bd M x) (h2:Bd N y):Bd (M+N) (mix 1 x 1 y):=fun i=>by
 have e:at_ (mix 1 x 1 y) i=at_ x i+at_ y i:=by
  simp only [at_,mix,List.getD_eq_getElem?_getD,List.getElem?_zipWith]
  by_cases hi:i<x.length
  ·rw [List.getElem?_eq_getElem hi,List.getElem?_eq_getElem (by omega)]; simp
  ·rw [List.getElem?_eq_none (by omega),List.getElem?_eq_none (by omega)]; simp
 rw [e]
 have:=h i; have:=h2 i
 have:=Int.natAbs_add_le (at_ x i) (at_ y i)
 omega
theorem order_bd {d m:Nat} {E I sums:List V} (hE:∀ a∈E,a.length=d/\Bd (2^m) a) (hI:∀ a∈I,a.length=d/\Bd (2^m) a) (hs:∀ s∈sums,∃ a∈I,∃ b∈I,s=mix 1 a 1 b) :
  ∀ a∈I.reverse++sums++twoW E,a.length=d/\Bd (2^(m+1)) a:=by
 have hp:2^m<=2^(m+1):=Nat.pow_le_pow_right (by decide) (by omega)
 have hp2:2^(m+1)=2^m+2^m:=by rw [Nat.pow_succ]; omega
 intro a ha
 rcases List.mem_append.1 ha with ha | ha
 ·rcases List.mem_append.1 ha with ha | ha
  ·have:=hI a (List.mem_reverse.1 ha)
   exact ⟨this.1,this.2.mono hp⟩
  ·obtain ⟨x,hx,y,hy,rfl⟩:=hs a ha
   have m1:=hI x hx
   have m2:=hI y hy
   exact ⟨mix_length m1.1 m2.1,by rw [hp2]; exact IF (m1.1.trans m2.1.symm) m1.2 m2.2⟩
 ·cases E with
  | nil=>cases ha
  | cons e E =>
   have h0:=hE e (List.mem_cons_self ..)
   rcases List.mem_cons.1 ha with rfl | ha
   ·exact ⟨h0.1,h0.2.mono hp⟩
   ·obtain rfl:=List.mem_singleton.1 ha
    exact ⟨ah h0.1,(Ky h0.2).mono hp⟩
def keepB (a:V) (E I:List V):Bool:=!E.any (fun r=>!decide (dot a r=0)) && !I.any (fun r=>decide (dot a r<0))
end Go.Proofs.YtichbdepocojaaaGreat.Lin
namespace Go.Proofs.YtichbdepocojaaaGreat.Ev
open Go Nn
set_option linter.all false
section
variable {tab:Nat->Option au} {H:Heap} {s:AV}
theorem lq (C:Code tab) (hw:Wf H) {fi:Nat} {first caps:List AV} {l:List (List Int)} (hs:bA H s l) (hbig:l.length<4611686018427387904) (p:List Int->Bool)
  (hf:∀ r∈l,∀ H' w,Kp H H'->RowV H' w r->Ans tab (.fn fi (first++[w]++caps)) H' fun v H2=>v=.bool (p r)/\Kp H' H2) :
  Ans tab (.fn aM [s,.fn (.func fi) first caps]) H fun v H'=>v=.bool (l.any p)/\Kp H H':=by
 refine cC C.slices_ContainsFunc_Sl_api_Vec_api_Vec (by decide) fun T hl g0 g1=>?_
 refine zW (aH hl g0 g1) ?_
 refine AnsH.eq (oA C zF (hs.mono (Kp.sub (H:=H) zK)) hbig p fun a ha H' cs hk hr=>hf a ha H' cs (Kp.trans (H:=H) zK hk) hr) fun H2 hk2=>?_
 obtain ⟨k2,_,_⟩:=zT H zK hk2
 refine zW (aH hl g0 g1) ?_
 exact ⟨by rw [wL],zK⟩
theorem cone_keeps_f1 (C:Code tab) (hw:Wf H) {w va:AV} {r a:List Int} {bx e f:Nat} (hr:RowV H w r) (hb:H.get bx=some (.cells [va] ae true)) (ha:RowV H va a) (hra:a.length=r.length) (h64:a.length<=64) (hae:∀ z∈a,Bt e z) (hrf:∀ z∈r,Bt f z) (hbt:e+f+7<=8796093022208) :
  Ans tab (.fn gf [w,.ptr bx 0]) H fun v H'=>v=.bool (!decide (Lin.dot a r=0))/\Kp H H':=by
 refine cC C.cone_keeps_f1 (by decide) fun T hl g0 g1=>?_
 refine zW (aU hl g0 g1 hb) ?_
 refine AnsH.use (cone_dot C zF (ha.mono (Kp.sub (H:=H) zK)) (hr.mono (Kp.sub (H:=H) zK)) hra h64 hae hrf hbt) ?_
 rintro v H2 ⟨hr2,hk2⟩
 obtain ⟨k2,_,w2⟩:=zT H zK hk2
 refine zW (aH hl g0 g1) ?_
 refine AnsH.eq (cone_sign C (z:=Lin.dot a r) zF (hr2.mono (Kp.sub (H:=H2) zK)) ((lJ hae hrf hra h64).sm hbt)) fun H3 hk3=>?_
 have k3:Kp H H3:=Kp.trans k2 (Kp.trans zK hk3)
 have le_k3:=k3.le
 refine zW (aH hl g0 g1) ?_
 refine ⟨?_,zK⟩
 congr 1
 rw [Bool.eq_iff_iff]
 simp [ke]
theorem In (x:Int):iO x<0 ↔ x<0:=by unfold iO; split <;> (try split) <;> omega
theorem cone_keeps_f2 (C:Code tab) (hw:Wf H) {w va:AV} {r a:List Int} {bx e f:Nat} (hr:RowV H w r) (hb:H.get bx=some (.cells [va] ae true)) (ha:RowV H va a) (hra:a.length=r.length) (h64:a.length<=64) (hae:∀ z∈a,Bt e z) (hrf:∀ z∈r,Bt f z) (hbt:e+f+7<=8796093022208) :
  Ans tab (.fn gc [w,.ptr bx 0]) H fun v H'=>v=.bool (decide (Lin.dot a r<0))/\Kp H H':=by
 refine cC C.cone_keeps_f2 (by decide) fun T hl g0 g1=>?_
 refine zW (aU hl g0 g1 hb) ?_
 refine AnsH.use (cone_dot C zF (ha.mono (Kp.sub (H:=H) zK)) (hr.mono (Kp.sub (H:=H) zK)) hra h64 hae hrf hbt) ?_
 rintro v H2 ⟨hr2,hk2⟩
 obtain ⟨k2,_,w2⟩:=zT H zK hk2
 refine zW (aH hl g0 g1) ?_
 refine AnsH.eq (cone_sign C (z:=Lin.dot a r) zF (hr2.mono (Kp.sub (H:=H2) zK)) ((lJ hae hrf hra h64).sm hbt)) fun H3 hk3=>?_
 have k3:Kp H H3:=Kp.trans k2 (Kp.trans zK hk3)
 have le_k3:=k3.le
 refine zW (aH hl g0 g1) ?_
 refine ⟨?_,zK⟩
 congr 1
 rw [Bool.eq_iff_iff]
 simp [In]
structure RowsB (d f:Nat) (l:List (List Int)):Prop where
 len:∀ r∈l,r.length=d
 bt:∀ r∈l,∀ z∈r,Bt f z
theorem RowsB.of {d m:Nat} {l:List (List Int)} (h:∀ r∈l,r.length=d/\Lin.Bd (2^m) r):RowsB d (m+1) l:=⟨fun r hr=>(h r hr).1,fun r hr=>jA (h r hr).2⟩
theorem RowsB.mono {d f g:Nat} {l:List (List Int)} (h:RowsB d f l) (hfg:f<=g):RowsB d g l:=⟨h.len,fun r hr z hz=>(h.bt r hr z hz).mono hfg⟩
theorem RowsB.ok {d f:Nat} {l:List (List Int)} (h:RowsB d f l) (d0:0<d) (d64:d<=64) (hf:f<=8796093022208):mZ d l:=⟨d0,d64,h.len,fun r hr z hz=>(h.bt r hr z hz).sm hf⟩
theorem cone_keeps (C:Code tab) (hw:Wf H) {va vb vc:AV} {a:List Int} {E I:List (List Int)} {d e f:Nat} (ha:RowV H va a) (hb:bA H vb E) (hc:bA H vc I) (hal:a.length=d) (hd:d<=64) (hE:RowsB d f E) (hI:RowsB d f I) (lE:E.length<=1048576) (lI:I.length<=1048576) (hae:∀ z∈a,Bt e z) (hbt:e+f+7<=8796093022208) :
  Ans tab (.fn gZ [va,vb,vc]) H fun v H'=>v=.bool (Lin.keepB a E I)/\Kp H H':=by
 have oa:=ha.one
 refine lG C.cone_keeps (by decide) fun T hl g0 g1 g2=>?_
 refine zW (aU hl g0 g1 g2) ?_
 refine AnsH.eq (lq C (l:=E) zF (hb.mono (Kp.sub (H:=H) zK)) (by omega) (fun r=>!decide (Lin.dot a r=0)) (fun r hr H' w hk' hw'=>cone_keeps_f1 C hk'.wf hw' (hk'.get (d8)) (ha.mono (Kp.sub (H:=H) (Kp.trans zK hk'))) (by rw [hal]; exact (hE.len r hr).symm) (by omega) hae (hE.bt r hr) hbt)) fun H2 hk2=>?_
 obtain ⟨k2,_,w2⟩:=zT H zK hk2
 have hbx:H2.get H.next=some (.cells [va] ae true):=hk2.get (d8)
 cases hx:E.any (fun r=>!decide (Lin.dot a r=0)) with
 | true =>
  refine zW (aU hl g0 g1 g2) ?_
  exact ⟨by unfold Lin.keepB; rw [hx]; rfl,zK⟩
 | false =>
  refine zW (aU hl g0 g1 g2) ?_
  refine AnsH.eq (lq C (l:=I) zF (hc.mono (Kp.sub (H:=H) zK)) (by omega) (fun r=>decide (Lin.dot a r<0)) (fun r hr H' w hk' hw'=>cone_keeps_f2 C hk'.wf hw' (hk'.get hbx) (ha.mono (Kp.sub (H:=H) (Kp.trans zK hk'))) (by rw [hal]; exact (hI.len r hr).symm) (by omega) hae (hI.bt r hr) hbt)) fun H3 hk3=>?_
  obtain ⟨k3,_,_⟩:=zT H zK hk3
  refine zW (aU hl g0 g1 g2) ?_
  exact ⟨by unfold Lin.keepB; rw [hx]; rfl,zK⟩
theorem cone_asked (C:Code tab) (hw:Wf H) {va vb vc:AV} {a:List (Bool × List Nat)} {E I:List (List Int)} {d f:Nat} (ha:SlV rawE aa H va a) (hb:bA H vb E) (hc:bA H vc I) (hal:a.length=d) (d0:0<d) (d64:d<=64) (hE:RowsB d f E) (hI:RowsB d f I) (lE:E.length<=1024) (lI:I.length<=1024) (hf:f<=8796093022208) (hba:yv a) :
  Ans tab (.fn g8 [va,vb,vc]) H fun v H'=>v=.int .i64 (aZ [a])/\Kp H H':=by
 have oa:=ha.one
 have ob:=hb.one
 have oc:=hc.one
 have ok1:=hE.ok d0 d64 hf
 have ok2:=hI.ok d0 d64 hf
 refine lG C.cone_asked (by decide) fun T hl g0 g1 g2=>?_
 refine zW (aU hl g0 g1 g2) ?_
 refine AnsH.eq (cone_checked C zF ((kh hb).mono (Kp.sub (H:=H) zK)) ((kh hc).mono (Kp.sub (H:=H) zK)) (by rw [List.length_map]; omega) (by rw [List.length_map]; omega) (fun r hr=>?_) (fun r hr=>?_)) fun H2 hk2=>?_
 ·obtain ⟨x,hx,rfl⟩:=List.mem_map.1 hr
  exact jC (by rw [ok1.len x hx]; omega) (ok1.sm x hx)
 ·obtain ⟨x,hx,rfl⟩:=List.mem_map.1 hr
  exact jC (by rw [ok2.len x hx]; omega) (ok2.sm x hx)
 rw [pQ ok1 ok2 lE lI]
 obtain ⟨k2,_,w2⟩:=zT H zK hk2
 refine zW (aU hl g0 g1 g2) ?_
 refine AnsH.eq (rows_Check C (ls:=[a]) zF (Gt (E:=rawE) (t1:=aa) (ha.mono k2.sub) (Kp.sub (H:=H2) zK) (d8)) (by simp) (fun r hr=>by rw [List.mem_singleton] at hr; subst hr; exact hba)) fun H3 hk3=>?_
 obtain ⟨k3,_,w3⟩:=zT H zK hk3
 by_cases h0:aZ [a]=0
 ·refine zW (dI hl g0 g1 g2 h0) ?_
  refine AnsH.eq (cone_long C (Ls:=[E,I]) (d:=d) zF (pd (E:=rowsE) (t1:=ae) (hb.mono k3.sub) (hc.mono k3.sub) (Kp.sub (H:=H3) zK) (d8)) (by simp) (fun L hL r hr=>?_)) fun H4 hk4=>?_
  ·rcases List.mem_cons.1 hL with rfl | hL
   ·exact ok1.len r hr
   ·rcases List.mem_cons.1 hL with rfl | hL
    ·exact ok2.len r hr
    ·cases hL
  obtain ⟨k4,_,_⟩:=zT H zK hk4
  have la:lenV va=some (.int .i64 (d:Int)):=by rw [ha.lenV,hal]
  have q3:(0:Int)<=(d:Int):=by omega
  cases hany:[E,I].any (fun L=>!L.isEmpty) with
  | true =>
   refine zW (i9 hl g0 g1 g2 la q3) ?_
   exact ⟨by rw [h0],zK⟩
  | false =>
   refine zW (aU hl g0 g1 g2) ?_
   exact ⟨by rw [h0],zK⟩
 ·refine zW (dI hl g0 g1 g2 h0) ?_
  exact zK
theorem za {a:List Int} (h0:0<a.length) (h64:a.length<=64):aZ [a.map kj]=0:=by
 refine oH (by simp) (fun k hk=>?_) fun k hk=>?_
 ·have:k=0:=by simpa using hk
  subst this
  unfold pT
  simp only [List.getElem_cons_zero]
  rw [A0 h64,decide_eq_false (by rw [List.length_map]; omega)]
  rfl
 ·have:k=0:=by simpa using hk
  subst this; rfl
theorem cone_Keeps (C:Code tab) (hw:Wf H) {va vb vc:AV} {a:List Int} {E I:List (List Int)} {d e f:Nat} (ha:RowV H va a) (hb:bA H vb E) (hc:bA H vc I) (hal:a.length=d) (d0:0<d) (d64:d<=64) (hE:RowsB d f E) (hI:RowsB d f I) (lE:E.length<=1024) (lI:I.length<=1024) (hae:∀ z∈a,Bt e z) (hbt:e+f+7<=8796093022208) :
  Ans tab (.fn jH [va,vb,vc]) H fun v H'=>v=.tup [.bool (Lin.keepB a E I),.int .i64 0]/\Kp H H':=by
 refine lG C.cone_Keeps (by decide) fun T hl g0 g1 g2=>?_
 refine zW (aU hl g0 g1 g2) ?_
 refine AnsH.eq (cone_asked C zF ((SlV.raw ha).mono (Kp.sub (H:=H) zK)) (hb.mono (Kp.sub (H:=H) zK)) (hc.mono (Kp.sub (H:=H) zK)) (by rw [List.length_map]; exact hal) d0 d64 hE hI lE lI (by omega) (jC (by omega) fun z hz=>(hae z hz).sm (by omega))) fun H2 hk2=>?_
 rw [za (by omega) (by omega)]
 obtain ⟨k2,_,w2⟩:=zT H zK hk2
 refine zW (aU hl g0 g1 g2) ?_
 refine AnsH.eq (cone_keeps C zF (ha.mono (Kp.sub (H:=H) zK)) (hb.mono (Kp.sub (H:=H) zK)) (hc.mono (Kp.sub (H:=H) zK)) hal d64 hE hI (by omega) (by omega) hae hbt) fun H3 hk3=>?_
 obtain ⟨k3,_,_⟩:=zT H zK hk3
 refine zW (aU hl g0 g1 g2) ?_
 exact zK
theorem cone_Made (C:Code tab) (hw:Wf H) {va vb vc:AV} {a:List Int} {E I:List (List Int)} {d e m:Nat} (ha:RowV H va a) (hb:bA H vb E) (hc:bA H vc I) (hal:a.length=d) (d0:0<d) (d6:d<=6) (hE:∀ r∈E,r.length=d/\Lin.Bd (2^m) r) (hI:∀ r∈I,r.length=d/\Lin.Bd (2^m) r) (lE:E.length<=1024) (lI:I.length<=20) (hm:m<=300000) (hae:∀ z∈a,Bt e z) (he:e<=1099511627776) :
  Ans tab (.fn gH [va,vb,vc]) H fun v H'=>v=.tup [.bool (Lin.keepB a (Lin.gensL d E I) (Lin.gensR d E I)),.int .i64 0]/\Kp H H':=by
 obtain ⟨o1,o2⟩:=tk (m:=m) d0 d6 hE hI
 have t1:=Lin.gens_told (d:=d) (fun a ha=>(hE a ha).1) (fun a ha=>(hI a ha).1)
 have lL:=mO t1.form
 have lR:=t1.dd.count
 have hp:2^I.length<=2^20:=Nat.pow_le_pow_right (by decide) lI
 have hp2:(2:Nat)^20=1048576:=by decide
 have la:lenV va=some (.int .i64 (d:Int)):=by rw [ha.lenV,hal]
 refine lG C.cone_Made (by decide) fun T hl g0 g1 g2=>?_
 refine zW (aU hl g0 g1 g2) ?_
 refine AnsH.eq (cone_asked C (f:=m+1) zF ((SlV.raw ha).mono (Kp.sub (H:=H) zK)) (hb.mono (Kp.sub (H:=H) zK)) (hc.mono (Kp.sub (H:=H) zK)) (by rw [List.length_map]; exact hal) d0 (by omega) (RowsB.of hE) (RowsB.of hI) lE (by omega) (by omega) (jC (by omega) fun z hz=>(hae z hz).sm (by omega))) fun H2 hk2=>?_
 rw [za (by omega) (by omega)]
 obtain ⟨k2,_,w2⟩:=zT H zK hk2
 refine zW (dI hl g0 g1 g2 la) ?_
 refine AnsH.use (cone_Gens C (d:=d) (m:=m) zF (hb.mono (Kp.sub (H:=H) zK)) (hc.mono (Kp.sub (H:=H) zK)) d0 d6 lE lI hE hI hm) ?_
 rintro v H3 ⟨p,q,rfl,hp3,hq3,hk3⟩
 obtain ⟨k3,_,w3⟩:=zT H zK hk3
 refine zW (aU hl g0 g1 g2) ?_
 refine AnsH.eq (cone_keeps C (f:=64*(m+4)+1) zF (ha.mono (Kp.sub (H:=H) zK)) (hp3.mono (Kp.sub (H:=H3) zK)) (hq3.mono (Kp.sub (H:=H3) zK)) hal (by omega) (RowsB.of o1) (RowsB.of o2) (by omega) (by omega) hae (by omega)) fun H4 hk4=>?_
 obtain ⟨k4,_,_⟩:=zT H zK hk4
 refine zW (aU hl g0 g1 g2) ?_
 exact zK
end
section
variable {tab:Nat->Option au} {H:Heap} {s:AV}
theorem vec_Add_f1 (C:Code tab) (hw:Wf H) {i:Nat} {a:AV} {b:Nat} {x:Int} {l:List Int} (hi:i<l.length) (ha:IntV H a x) (hb:BoxR H b l) (hx:fL x) (hy:fL l[i]) :
  Ans tab (.fn jF [.int .i64 (i:Int),a,.ptr b 0]) H fun v H'=>IntV H' v (x+l[i])/\Kp H H':=by
 obtain ⟨p,rfl,hp⟩:=ha
 obtain ⟨q,hb,hq⟩:=hb
 have op:=hp.one
 have lb:=hw _ _ hb
 obtain ⟨w,hn,L,hix⟩:=mL hw hq hi
 have Lp:=L.put
 have Ll:=L.ld
 refine lG C.vec_Add_f1 (by decide) fun T hl g0 g1 g2=>?_
 refine zW (aU hl g0 g1 g2) ?_
 refine aS ?_
 refine zD (ng hl g0 g1 g2 hb hix Lp Ll) ?_
 refine AnsH.use (vec_sum C zF ⟨p,rfl,hp.mono (Kp.sub (H:=H) zK)⟩ ⟨w,rfl,hn.mono (Kp.sub (H:=H) zK)⟩ hx hy) ?_
 rintro v H2 ⟨⟨r,rfl,hr⟩,hk2⟩
 obtain ⟨k2,_,w2⟩:=zT H zK hk2
 have orr:=hr.one
 have d1:=hk2.get (b:=H.next+1) (e:=.cells [.bool false,.nilSl] aa true) (d8)
 have lt1:=w2 _ _ d1
 have m1:NoTy [ad] H2 (H.next+1):=NoTy.ty d1 (by decide)
 refine zD (ny hl g0 g1 g2 hb hix Lp Ll d1) ?_
 exact ⟨⟨r,rfl,SlV.monoT (E:=bC bT) zS hr⟩,zK⟩
theorem vec_Add (C:Code tab) (hw:Wf H) {a b:AV} {l m:List Int} (ha:RowV H a l) (hb:RowV H b m) (hlm:l.length=m.length) (h64:l.length<=64) (hl':∀ z∈l,fL z) (hm':∀ z∈m,fL z) :
  Ans tab (.fn l8 [a,b]) H fun v H'=>∃ r,v=.tup [r,.int .i64 0]/\RowV H' r (Lin.mix 1 l 1 m)/\Kp H H':=by
 have oa:=ha.one
 have ob:=hb.one
 refine cC C.vec_Add (by decide) fun T hl g0 g1=>?_
 refine zW (aH hl g0 g1) ?_
 refine AnsH.eq (ea C (d:=l.length) zF (pd ha hb (Kp.sub (H:=H) zK) (by refine sX ?_; rfl)) (by simp) (by simp) h64 fun r hr=>?_) fun H2 hk2=>?_
 ·simp at hr; rcases hr with rfl | rfl
  ·exact ⟨rfl,hl'⟩
  ·exact ⟨hlm.symm,hm'⟩
 obtain ⟨k2,_,w2⟩:=zT H zK hk2
 have b0:=hk2.get (b:=H.next) (e:=.cells [b] ae true) (d8)
 refine zW (aH hl g0 g1) ?_
 refine AnsH.use (vec_each C zF (ha.mono (Kp.sub (H:=H) zK)) (by omega) (fun i z=>z+m.getD i 0) fun i hi H' w hk hv=>?_) ?_
 ·have hi2:i<m.length:=by omega
  have e:m.getD i 0=m[i]:=by simp [hi2]
  show Ans tab _ H' fun v H2=>IntV H2 v (l[i]+m.getD i 0)/\Kp H' H2
  rw [e]
  exact vec_Add_f1 C hk.wf hi2 hv ⟨b,hk.get (b:=H.next) (zV @b0),hb.mono (Kp.sub (H:=H) (Kp.trans zK hk))⟩ (hl' _ (List.getElem_mem hi)) (hm' _ (List.getElem_mem hi2))
 ·rintro v H4 ⟨hr,hk4⟩
  obtain ⟨k4,_,_⟩:=zT H zK hk4
  rw [yC hlm (fun x y=>x+y)] at hr
  have e:List.zipWith (fun x y=>x+y) l m=Lin.mix 1 l 1 m:=by simp [Lin.mix]
  rw [e] at hr
  refine zW (aH hl g0 g1) ?_
  exact ⟨_,rfl,hr,zK⟩
end
theorem F3 {α:Type} {l:List α} {j:Nat} (h:j<l.length):(l.drop j).reverse=(l.drop (j+1)).reverse++[l[j]]:=by
 rw [List.drop_eq_getElem_cons h,List.reverse_cons]
theorem FB {i:Int} (h:0<=i/\i<256) {n:Nat} (hn:0<n):∃ k:Nat,k<n/\bJ .rem .int (.int .i64 i) (.int .i64 (n:Int))=some (.int .i64 (k:Int)):=by
 obtain ⟨m,rfl⟩:∃ m:Nat,i=(m:Int):=⟨i.toNat,by omega⟩
 exact ⟨m % n,Nat.mod_lt _ hn,B8 hn⟩
theorem CE {i:Int} (h:0<=i/\i<256):IntKind.i64.wrap i=i:=by rw [wrap_i64 (by omega) (by omega)]
section
variable {tab:Nat->Option au} {H:Heap} {s:AV}
set_option maxHeartbeats 4000000 in
theorem law20_ConeOrder (C:Code tab) (hw:Wf H) {va vb:AV} {d i k:Int} {A B:List (List (Bool × List Nat))} (ha:gL H va A) (hb:gL H vb B) (gA:∀ r∈A,g9 r) (gB:∀ r∈B,g9 r) (_ : -9223372036854775808<=d/\d<9223372036854775808) (hi:0<=i/\i<256) (hk:0<=k/\k<256) :
  Ans tab (.fn dm [.int .i64 d,va,vb,.int .u8 i,.int .u8 k]) H fun v H'=>v=.bool true/\Kp H H':=by
 refine Aq C.facetroomlaw20_ConeOrder rfl rfl (by decide) fun T hl g=>?_
 have hl:T.length=129:=hl
 have hrs:c_facetroomlaw20_ConeOrder.results=[(10,none)]:=rfl
 have g0:af T 0=.int .i64 d:=g 0 (by simp)
 have g1:af T 1=va:=g 1 (by simp)
 have g2:af T 2=vb:=g 2 (by simp)
 have g3:af T 3=.int .u8 i:=g 3 (by simp)
 have g4:af T 4=.int .u8 k:=g 4 (by simp)
 refine bZ ?_
 refine zW (az hl @aP) ?_
 refine bZ ?_
 refine zW hl ?_
 refine AnsH.eq (zu C zF) fun H2 hk2=>?_
 obtain ⟨k2,_,w2⟩:=zT H zK hk2
 refine zW (az hl @aP) ?_
 refine bZ ?_
 refine zW (aU hl g0 g1 g2) ?_
 refine AnsH.eq (zt C zF (ha.mono (Kp.sub (H:=H) zK)) (hb.mono (Kp.sub (H:=H) zK))) fun H3 hk3=>?_
 obtain ⟨k3,_,w3⟩:=zT H zK hk3
 cases hg:cB 4 5 1 A || cB 7 5 1 B || decide (5<d) with
 | true =>
  refine zW (aH hl @qh hrs) ?_
  exact zK
 | false =>
 simp only [Bool.or_eq_false_iff,decide_eq_false_iff_not] at hg
 obtain ⟨⟨q1,q2⟩,q3⟩:=hg
 refine zW (az hl @aP) ?_
 refine bZ ?_
 refine zW (aU hl g0 g1 g2) ?_
 rcases D6 C ha hb gA gB q1 q2 q3 with hbad | ⟨dd,E,I,rfl,d0,d5,hE,hI,gE,gI⟩
 ·refine AnsH.use (hbad _ zF (Kp.sub (H:=H) zK)) ?_
  rintro v H4 ⟨e,he,rfl,hk4⟩
  obtain ⟨k4,_,w4⟩:=zT H zK hk4
  refine zW (az hl @aP) ?_
  refine bZ ?_
  refine zW (aU hl he @qh hrs) ?_
  exact zK
 refine AnsH.use (cone_Gens C (d:=dd) (m:=64) zF (hE.mono (Kp.sub (H:=H) zK)) (hI.mono (Kp.sub (H:=H) zK)) d0 (by omega) (by have:=gE.len; omega) (by have:=gI.len; omega) gE.row gI.row (by omega)) ?_
 rintro v H4 ⟨p,q,rfl,hp,hq,hk4⟩
 obtain ⟨k4,_,w4⟩:=zT H zK hk4
 have lE:=gE.len
 have lI:=gI.len
 refine zW (az hl @aP) ?_
 refine bZ ?_
 refine zW (az hl @aP) ?_
 refine bZ ?_
 refine zW (az hl @aP) ?_
 refine e8 (fun T' H'=>Kp H4 H'/\Bl rowsE ae H4 H' (af T' 15) I.reverse) rfl ?_ ?_
 ·have e1:IntKind.i64.wrap ((I.length:Int)-1)=(I.length:Int)-1:=by rw [wrap_i64] <;> omega
  refine zW (aU hl g2 hI.lenV e1) ?_
  refine bV H4 [15,16] (fun k vs H'=>∃ o,vs=[o,.int .i64 ((k:Int)-1)]/\k<=I.length/\Bl rowsE ae H4 H' o (I.drop k).reverse) I.length (by simp only [List.length_set]; exact hl) rfl zK ⟨.nilSl,by exact zV hl,Nat.le_refl _,by rw [List.drop_length]; exact Bl.nil⟩ ?_
  rintro j T1 H1 hl1 hs1 hk1 ⟨o,hv,hj,ho⟩
  have w1:=hk1.wf
  have le_hk1:=hk1.le
  have le1:=hk1.le
  simp only [List.map_cons,List.map_nil,List.cons.injEq,and_true] at hv
  obtain ⟨hv1,hv2⟩:=hv
  have t2:af T1 2=vb:=(hs1.at_ 2 (by decide)).trans (zV (az hl g2))
  cases j with
  | zero =>
   have e2:af T1 16=.int .i64 (-1):=hv2
   have e3:¬ (0:Int) <= -1:=by omega
   refine zW (aU hl1 e2 e3 @bc) ?_
   rw [List.drop_zero] at ho
   exact ⟨zK,by rw [hv1]; exact ho.mono (Sub.bump H1 _)⟩
  | succ j =>
   have e2:af T1 16=.int .i64 (j:Int):=by rw [hv2]; congr 1; omega
   have e3:(0:Int)<=(j:Int):=by omega
   have hjl:j<I.length:=by omega
   obtain ⟨w,hr,hld⟩:=cG (hI.mono (k4.sub.trans hk1.sub)) hjl
   have hix:=SlV.idx1 hI .i64 j hjl
   have ow:=hr.one
   obtain ⟨n6,H6,e6,b6,k6,nx6,f6,u6⟩:=Bl.push1 (ty2:=ae) (bytes:=24) (id:=H1.next+8) (id2:=H1.next+7) (k:=10) (cs:=[w]) (a:=I[j]) ho (by decide) hk1 ⟨w,rfl,hr⟩ (by omega) (by omega) (by omega) (by omega) (by omega) (by simp; omega) (by simp; omega)
   have e6':eY ((H1.up 10).put (H1.next+7) (.cells [w] ae true)) (H1.next+8) 1 24 ae o (.own (H1.next+7) 0 1 1 1 true)=some (.own (H1.next+8) 0 n6 n6 1 false,H6):=e6
   have e7:IntKind.i64.wrap ((j:Int)-1)=(j:Int)-1:=by rw [wrap_i64] <;> omega
   refine zW (ny hl1 e2 e3 t2 hix hld hv1 e6' e7) ?_
   refine ⟨k6.up _,j,by omega,_,rfl,by omega,?_⟩
   rw [F3 hjl]
   exact b6.mono (Sub.bump H6 _)
 rintro T5 H5 hs5 ⟨k5,b5⟩
 have w5:=k5.wf
 have le5:=k5.le
 obtain ⟨o5,ho5⟩:∃ o,o=af T5 15:=⟨_,rfl⟩
 have hl5:T5.length=129:=hs5.len.trans (by simp only [List.length_set]; exact hl)
 have a0:af T5 0=.int .i64 (dd:Int):=(hs5.at_ 0 (by decide)).trans (zV (az hl g0))
 have a1:af T5 1=va:=(hs5.at_ 1 (by decide)).trans (zV (az hl g1))
 have a2:af T5 2=vb:=(hs5.at_ 2 (by decide)).trans (zV (az hl g2))
 have a3:af T5 3=.int .u8 i:=(hs5.at_ 3 (by decide)).trans (zV (az hl g3))
 have a4:af T5 4=.int .u8 k:=(hs5.at_ 4 (by decide)).trans (zV (az hl g4))
 have a12:af T5 12=p:=(hs5.at_ 12 (by decide)).trans (zV hl)
 have a13:af T5 13=q:=(hs5.at_ 13 (by decide)).trans (zV hl)
 rw [<- ho5] at b5
 have sm:∀ {X:List (List Int)} {n:Nat},sW dd n X->∀ r∈X,∀ z∈r,fL z:=fun h r hr z hz=>(jA (h.row r hr).2 z hz).sm (by omega)
 have mu:∀ {X:List (List Int)} {n:Nat},sW dd n X->∀ r∈X,∀ z∈r,MuI z:=fun h r hr z hz=>(jA (h.row r hr).2 z hz).len (by omega)
 refine e8 (fun T' H'=>∃ sums,Kp H4 H'/\Bl rowsE ae H4 H' (af T' 15) (I.reverse++sums)/\sums.length<=1/\∀ s∈sums,∃ a∈I,∃ b∈I,s=Lin.mix 1 a 1 b) rfl ?_ ?_
 ·refine zW (aH hl5 @a2 hI.lenV) ?_
  refine iteH.split (fun hpos=>?_) fun hpos=>?_
  ·have hpos':0<I.length:=by omega
   obtain ⟨x,hx,rx⟩:=FB hi hpos'
   obtain ⟨y,hy,ry⟩:=FB hk hpos'
   obtain ⟨wx,hrx,hldx⟩:=cG (hI.mono (k4.sub.trans k5.sub)) hx
   obtain ⟨wy,hry,hldy⟩:=cG (hI.mono (k4.sub.trans k5.sub)) hy
   have hix:=SlV.idx1 hI .i64 x hx
   have hiy:=SlV.idx1 hI .i64 y hy
   have c1:=CE hi
   have c2:=CE hk
   have hmx:=List.getElem_mem hx
   have hmy:=List.getElem_mem hy
   refine zW hl5 ?_
   refine aS ?_
   refine zD (EY hl5 @a2 @a3 @a4 hI.lenV @c1 @c2 rx ry hix hiy hldx hldy) ?_
   refine AnsH.use (vec_Add C zF (hrx.mono (Kp.sub (H:=H5) zK)) (hry.mono (Kp.sub (H:=H5) zK)) ((gI.row _ hmx).1.trans (gI.row _ hmy).1.symm) (by rw [(gI.row _ hmx).1]; omega) (sm gI _ hmx) (sm gI _ hmy)) ?_
   rintro v H6 ⟨r,rfl,hr6,hk6⟩
   obtain ⟨k56,_,_⟩:=zT H5 zK hk6
   have k46:Kp H4 H6:=k5.trans k56
   have le_k46:=k46.le
   have w6:=k46.wf
   have le6:=k46.le
   have or6:=hr6.one
   obtain ⟨n7,H7,e7,b7,k7,nx7,f7,u7⟩:=Bl.push1 (ty2:=ae) (bytes:=24) (id:=H6.next+5) (id2:=H6.next+4) (k:=7) (cs:=[r]) (a:=Lin.mix 1 I[x] 1 I[y]) (b5.mono k56.sub) (by decide) k46 ⟨r,rfl,hr6⟩ (by omega) (by omega) (by omega) (by omega) (by omega) (by simp; omega) (by simp; omega)
   have e7':eY ((H6.up 7).put (H6.next+4) (.cells [r] ae true)) (H6.next+5) 1 24 ae o5 (.own (H6.next+4) 0 1 1 1 true)=some (.own (H6.next+5) 0 n7 n7 1 false,H7):=e7
   refine zD (MT hl5 @a2 @a3 @a4 hI.lenV @c1 @c2 rx ry hix hiy hldx hldy ho5.symm e7' @bc) ?_
   exact ⟨[Lin.mix 1 I[x] 1 I[y]],k7,b7,by simp,fun s hs=>by
    rw [List.mem_singleton] at hs
    exact ⟨_,hmx,_,hmy,hs⟩⟩
  ·refine zW (az hl5 @bc) ?_
   refine ⟨[],zK,?_,by simp,fun s hs=>by cases hs⟩
   rw [List.append_nil,<- ho5]
   exact b5.mono (Sub.bump H5 _)
 rintro T6 H6 hs6 ⟨sums,k6,b6,l6,m6⟩
 have w6:=k6.wf
 have le6:=k6.le
 obtain ⟨o6,ho6⟩:∃ o,o=af T6 15:=⟨_,rfl⟩
 have hl6:T6.length=129:=hs6.len.trans hl5
 have c0:af T6 0=.int .i64 (dd:Int):=(hs6.at_ 0 (by decide)).trans a0
 have c1:af T6 1=va:=(hs6.at_ 1 (by decide)).trans a1
 have c12:af T6 12=p:=(hs6.at_ 12 (by decide)).trans a12
 have c13:af T6 13=q:=(hs6.at_ 13 (by decide)).trans a13
 rw [<- ho6] at b6
 refine bZ ?_
 refine zW (aH hl6 @c1 @aP) ?_
 refine e8 (fun T' H'=>Kp H4 H'/\Bl rowsE ae H4 H' (af T' 15) (I.reverse++sums++Lin.twoW E)/\bA H' (af T' 19) E.tail) rfl ?_ ?_
 ·refine zW (aH hl6 @c1 hE.lenV) ?_
  refine iteH.split (fun hpos=>?_) fun hpos=>?_
  ·have hpos':0<E.length:=by omega
   obtain ⟨w0,hr0,hld0⟩:=cG (hE.mono (k4.sub.trans k6.sub)) hpos'
   have hix:fq 1 va (.int .i64 0)=some (aV va 0):=SlV.idx1 hE .i64 0 hpos'
   have hm0:=List.getElem_mem hpos'
   have mu1:MuI (-1):=(show Bt 1 (-1) by unfold Bt; decide).len (by omega)
   have ow0:=hr0.one
   refine zW hl6 ?_
   refine aS ?_
   refine zD (aU hl6 @c1 hix hld0) ?_
   refine AnsH.use (whole_Of C (n:=-1) zF (by omega) (by omega)) ?_
   rintro v7 H7 ⟨hn7,hk7⟩
   obtain ⟨k67,_,w7⟩:=zT H6 zK hk7
   have hld7:=cM k67.sub hld0
   refine zD (dI hl6 @c1 hix hld0 hld7) ?_
   refine AnsH.use (vec_Scale C (y:=-1) zF ((hr0.mono k67.sub).mono (Kp.sub (H:=H7) zK)) (hn7.mono (Kp.sub (H:=H7) zK)) (by rw [(gE.row _ hm0).1]; omega) (mu gE _ hm0) mu1) ?_
   rintro v8 H8 ⟨r,rfl,hr8,hk8⟩
   obtain ⟨k78,_,_⟩:=zT H7 zK hk8
   have k68:Kp H6 H8:=k67.trans k78
   have le_k68:=k68.le
   have k48:Kp H4 H8:=k6.trans k68
   have le_k48:=k48.le
   have w8:=k48.wf
   have le8:=k48.le
   have hld8:=cM k68.sub hld0
   have or8:=hr8.one
   obtain ⟨G8,hG8⟩:∃ G,G=(H8.up 8).put (H8.next+5) (.cells [w0,r] ae true):=⟨_,rfl⟩
   have f5:H8.get (H8.next+5)=none:=w8.fresh (by omega)
   have sG:Sub H8 G8:=by rw [hG8]; exact (Sub.bump H8 8).put f5 _
   have kG:Kp H4 G8:=by rw [hG8]; exact zK
   have hy:tx (oG intE aa) ae G8 (.own (H8.next+5) 0 2 2 1 true) [E[0],Lin.scl (-1) E[0]]:=pd (E:=intE) (t1:=aa) (hr0.mono k68.sub) hr8 sG (by rw [hG8]; exact aI _ _ _)
   have b8:=b6.mono k68.sub
   obtain ⟨v9,H9,e9,b9,k9,nx9,-,-⟩:=Bl.app (E:=rowsE) (ty2:=ae) (bytes:=24) (id:=H8.next+6) (b8.mono sG) (by decide) kG hy (by omega) (by rw [hG8,next_put,gR]; omega) (by rw [hG8,aw (by omega)]; exact w8.fresh (by omega)) (fun b n hv off m c z x hw=>by
    cases hw
    rcases b8 with ⟨h,-⟩ | ⟨b',cells,h,hb',-⟩
    ·rw [h] at hv; cases hv
    ·rw [h] at hv; cases hv
     have:=w8 _ _ hb'
     omega) (by simp; omega) (by simp; omega)
   have e9':eY G8 (H8.next+6) 1 24 ae o6 (.own (H8.next+5) 0 2 2 1 true)=some (v9,H9):=e9
   obtain ⟨v',e10,hv'⟩:=SlV.lo hE .i64 1 hpos'
   have e10':bX 1 va (some (.int .i64 1)) none none=some v':=e10
   rw [hG8] at e9'
   refine zD (pE hl6 @c1 hix hld0 hld7 hld8 ho6.symm e9' e10' @bc) ?_
   refine ⟨k9.up _,?_,?_⟩
   ·have e:Lin.twoW E=[E[0],Lin.scl (-1) E[0]]:=by
     cases E with
     | nil=>simp at hpos'
     | cons e E=>rfl
    rw [e]
    exact b9.mono (Sub.bump H9 _)
   ·rw [<- List.drop_one]
    exact (hv'.mono (k4.sub.trans k9.sub)).mono (Sub.bump H9 _)
  ·have hE0:E=[]:=List.eq_nil_of_length_eq_zero (by omega)
   refine zW (az hl6 @bc) ?_
   rw [<- ho6,hE0]
   refine ⟨zK,?_,?_⟩
   ·simp only [Lin.twoW,List.append_nil]
    exact b6.mono (Sub.bump H6 _)
   ·rw [hE0] at hE
    exact (hE.mono (k4.sub.trans k6.sub)).mono (Sub.bump H6 _)
 rintro T7 H7 hs7 ⟨k7,b7,r7⟩
 have w7:=k7.wf
 have le7:=k7.le
 have hl7:T7.length=129:=hs7.len.trans (by simp only [List.length_set]; exact hl6)
 have z0:af T7 0=.int .i64 (dd:Int):=(hs7.at_ 0 (by decide)).trans (zV (az hl6 c0))
 have z12:af T7 12=p:=(hs7.at_ 12 (by decide)).trans (zV (az hl6 c12))
 have z13:af T7 13=q:=(hs7.at_ 13 (by decide)).trans (zV (az hl6 c13))
 obtain ⟨o7,z15⟩:∃ o,af T7 15=o:=⟨_,rfl⟩
 obtain ⟨r,z19⟩:∃ o,af T7 19=o:=⟨_,rfl⟩
 rw [z15] at b7
 rw [z19] at r7
 have hEt:∀ a∈E.tail,a.length=dd/\Lin.Bd (2^65) a:=fun a ha=>⟨(gE.row a (List.mem_of_mem_tail ha)).1,(gE.row a (List.mem_of_mem_tail ha)).2.mono (by decide)⟩
 have hIo:=Lin.order_bd (m:=64) gE.row gI.row m6
 have lo:(I.reverse++sums++Lin.twoW E).length<=20:=by
  have:(Lin.twoW E).length<=2:=by cases E <;> simp [Lin.twoW]
  simp only [List.length_append,List.length_reverse]
  omega
 obtain ⟨o1,o2⟩:=tk (m:=64) d0 (by omega) gE.row gI.row
 have t1:=Lin.gens_told (d:=dd) (fun a ha=>(gE.row a ha).1) (fun a ha=>(gI.row a ha).1)
 have lL:=mO t1.form
 have lR:=t1.dd.count
 have h27:2^I.length<=2^7:=Nat.pow_le_pow_right (by decide) lI
 obtain ⟨L,hL⟩:∃ L,L=Lin.gensL dd E I:=⟨_,rfl⟩
 obtain ⟨R,hR⟩:∃ R,R=Lin.gensR dd E I:=⟨_,rfl⟩
 obtain ⟨f1,f2⟩:=Lin.cone_order (d:=dd) (fun a ha=>(gE.row a ha).1) (fun a ha=>(gI.row a ha).1) m6 rfl rfl
 rw [<- hL] at hp o1 lL f1
 rw [<- hR] at hq o2 lR f2
 have sm2:∀ {X:List (List Int)},(∀ r∈X,r.length=dd/\Lin.Bd (2^(64*(64+4))) r)->∀ r∈X,r.length<1099511627776/\∀ z∈r,fL z:=fun h r hr=>⟨by rw [(h r hr).1]; omega,fun z hz=>(jA (h r hr).2 z hz).sm (by omega)⟩
 refine WC.wb ?_
 refine zW (aU hl7 z0 z19 z15) ?_
 refine AnsH.use (cone_Gens C (d:=dd) (m:=65) zF (r7.mono (Kp.sub (H:=H7) zK)) (b7.sl.mono (Kp.sub (H:=H7) zK)) d0 (by omega) (by rw [List.length_tail]; omega) lo hEt hIo (by omega)) ?_
 rintro v H8 ⟨p2,q2,rfl,hp2,hq2,hk8⟩
 rw [f1] at hp2
 rw [f2] at hq2
 obtain ⟨k78,_,_⟩:=zT H7 zK hk8
 have k48:Kp H4 H8:=k7.trans k78
 have le_k48:=k48.le
 have k08:Kp H H8:=k4.trans k48
 have le_k08:=k08.le
 have w8:=k48.wf
 refine zW (az hl7 z12) ?_
 refine AnsH.eq (mD C zF (hp2.mono (Kp.sub (H:=H8) zK)) ((hp.mono k48.sub).mono (Kp.sub (H:=H8) zK)) (by omega) (sm2 o1)) fun H9 hk9=>?_
 obtain ⟨k89,_,_⟩:=zT H8 zK hk9
 have k09:Kp H H9:=k08.trans k89
 have le_k09:=k09.le
 have w9:=k09.wf
 rw [decide_eq_true rfl]
 refine zW (az hl7 z13) ?_
 refine AnsH.eq (mD C zF ((hq2.mono k89.sub).mono (Kp.sub (H:=H9) zK)) ((hq.mono (k48.sub.trans k89.sub)).mono (Kp.sub (H:=H9) zK)) (by omega) (sm2 o2)) fun H10 hk10=>?_
 obtain ⟨k10,_,_⟩:=zT H zK hk10
 rw [decide_eq_true rfl]
 refine zW (az hl7 hrs) ?_
 exact zK
end
open Go
theorem Gj {P:Program}:BU P dW:=trivial
theorem Iz {P:Program} {w:World} (hG:GlobW w):HR P (fun _=>none) (fun c=>c<w.heap.size) (Heap.nil 0) w:=by
 have h:=FP (P:=P) hG
 refine ⟨h.dom,fun c hc=>hc,fun b e hb=>?_,h.inj,fun g cs hg=>(h.gl g cs hg).mono (fun _ _ h=>h) (fun c hc=>h.fb c hc) fun _ _=>rfl⟩
 rw [Tr.nil_get] at hb; cases hb
theorem open_calls {P:Program} (hmix:P.follows .mixedOrders=true) {tab:Nat->Option au} (ht:CR P tab) {f:Nat} {afn:au} (haf:tab f=some afn) (hext:afn.ext=none) {args:List AV} {vs:List Value} {w:World} (hG:GlobW w)
  (hl:LR (fun _=>none) (fun c=>c<w.heap.size) w args vs) (h:Ans tab (.fn f args) (Heap.nil 0) fun v _=>v=.bool true) :
  Calls P f vs.toArray w fun e w'=>e=.returned (.bool true)/\w'.os=w.os/\w'.output=w.output/\w.heap.size<=w'.heap.size/\∀ c,c<w.heap.size->w'.heap[c]? = w.heap[c]?:=by
 obtain ⟨v,H',⟨N,hN⟩,rfl⟩:=h
 have h1:=hN (N+1) (N+1) (by omega) (by omega)
 simp only [jB,io,haf,hext] at h1
 obtain ⟨-,ht2⟩:=ht f afn haf
 obtain ⟨fn,hfn,hc⟩:=ht2 fun e h=>by rw [hext] at h; cases h
 obtain ⟨c1,c2,c3,c4,-⟩:=yp hc hext
 have hH:=Iz (P:=P) hG
 have hin:=nI (uk Gj hmix ht N) hmix hfn c1 c2 c3 c4 h1 hl hH 0 (fence:=Fence.wide) (rd:=false) (.inl ⟨rfl,rfl⟩)
 refine (hin.calls fun k=>room_wide k).mono fun e w' ⟨u,he,μ',hv,_,hS⟩=>?_
 cases hv
 refine ⟨he,hS.os,hS.out,hS.size,fun c hc=>hS.keep c hc fun b L ⟨e,h,_⟩=>?_⟩
 rw [Tr.nil_get] at h; cases h
theorem Gy {w w':World} (h1:w'.os=w.os) (h2:w'.output=w.output) (h:∀ c,c<w.heap.size->w'.heap[c]? = w.heap[c]?) (may:MemPlace->Prop):w.keptBut w' may:=by
 refine ⟨h1,h2,fun i hi=>?_⟩
 rw [h i hi]
 split
 ·rename_i e1 e2
  cases e1.symm.trans e2
  exact ⟨rfl,rfl,rfl,fun _ _=>rfl⟩
 ·rename_i e1 e2
  cases e1.symm.trans e2
  exact .inr ⟨rfl,rfl⟩
 ·rfl
section
open Go.ChangeShapes Go.WideShapes Go.ChangeAt Go.RowKit
variable {HT:Type} {enc:TypeId × Value->HT} {P:Program}
theorem stays {t:TypeId} (hl:laidOutB P=true) (hr:P.readableRec t=true) (hrow:t<P.types.size) {W W':World} {sp:Nat->Bool} {v:Value} {d:DataW HT} {ps:List MemPlace}
  (h:DataW.Trod enc P W 0 (fun _=>true) true t v d ps) (hk:∀ c,c<W.heap.size->W'.heap[c]? = W.heap[c]?) (hlt:∀ x∈ps,x.block<W.heap.size) (hs:∀ p∈ps,sp p.block=true):DataW.Trod enc P W' 0 sp true t v d ps :=
 WideElems.Trod_stays hl hr hrow h (fun p hp=>by
  have hb:=hk p.block (hlt p hp)
  cases p with
  | cell b o=>exact World.cell?_of_block (w:=W) hb
  | map b=>exact hb) hs
theorem post_kept {f:Func} {s:ChangeSpec} {apart fresh handsOn again:Bool} {W W':World} {args:Array Value} {v:Value} {ds gs:List (DataW HT)} {before:List MemPlace}
  (hW:DataW.Whole enc P f.params.toList s.vars apart W args.toList ds gs before)
  (hres:∀ (b:Nat) (sp:Nat->Bool) (hd:Bool),DataW.TrodAll enc P W' b sp hd f.resultTypes.toList (v.resultList f.resultTypes.size) (s.fn HT (ds++gs)).results [])
  (hargs:∀ sp:Nat->Bool,(∀ p∈before,sp p.block=true)->DataW.TrodAll enc P W' 0 sp true f.params.toList args.toList (s.fn HT (ds++gs)).args before)
  (hvars:∀ sp:Nat->Bool,DataW.TrodVars enc P W' sp s.vars (s.fn HT (ds++gs)).vars [])
  (h1:W'.os=W.os) (h2:W'.output=W.output) (hk:∀ c,c<W.heap.size->W'.heap[c]? = W.heap[c]?)
  (hok:∀ (j:Nat) (t:TypeId) (r:Value),f.resultTypes[j]? = some t->(v.resultList f.resultTypes.size)[j]? = some r->Value.okWide P W' .any 0 t r) :
  s.post enc P f apart fresh handsOn again W args v W':=by
 have hold:∀ p∈before,(fun b=>decide (b<W.heap.size)) p.block=true:=fun p hp=>by simpa using hW.lt p hp
 have hlt:∀ p∈before,p.block<W.heap.size:=fun p hp=>hW.lt p hp
 refine ⟨ds,gs,before,[],before,[],hW,hres _ _ _,hargs _ hold,hvars _,Gy h1 h2 hk _,fun _=>?_⟩
 obtain ⟨_,_,_,_,e,hz,hn⟩:=hW
 refine ⟨hok,_,_,([]++before)++[],⟨[]++before,[],trodAll_append (hargs _ (fun _ _=>rfl)) (hres _ _ _),hvars _,rfl,?_,?_⟩,?_⟩
 ·intro b off hp
  have hp':MemPlace.cell b off∈before:=by simpa using hp
  have hb:=hlt _ hp'
  rw [World.frozen?_of_block (w:=W) (hk b hb)]
  exact hz b off hp'
 ·intro ha
  have:=hn ha
  simpa using this
 ·intro p hp _
  simpa using hp
end
end Go.Proofs.YtichbdepocojaaaGreat.Ev
