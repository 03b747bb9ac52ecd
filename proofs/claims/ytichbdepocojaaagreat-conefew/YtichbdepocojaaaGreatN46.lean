/- A part. -/
import Derived.Test.YtichbdepocojaaaGreatN34
import Derived.Test.YtichbdepocojaaaGreatEch
import Derived.ChangeArms
import Derived.DataReads
import Derived.Test.YtichbdepocojaaaGreatEvDraw5
import Derived.KernelRfl
import Derived.WalkKit
import Derived.ProofKit
import Derived.Test.YtichbdepocojaaaGreatProg
import Derived.Lib.Walk
import Derived.Lib.SliceRun
import Derived.Lib.JoinLaws
import Derived.Lib.AppendZeros
import Derived.Lib.AppendZerosOnto
import Derived.Lib.Overlaps
import Derived.Laws.Externs
import Derived.Laws.IdiomCopy
import Derived.Laws.NewBlocks
import Derived.Shelf.RegionOpenPlain
namespace Go.Proofs.YtichbdepocojaaaGreat.Ev
open Go Nn
set_option linter.all false
section
variable {tab:Nat->Option au} {H:Heap} {s:AV}
theorem cone_all (C:Code tab) (hw:Wf H) {d:Nat} (hd:d<=64):Ans tab (.fn mJ [.int .i64 (d:Int)]) H fun v H'=>Bl rowsE ae H H' v (Lin.startU d).lines/\Kp H H':=by
 refine dU C.cone_all (by decide) fun T hl g0=>?_
 refine zW (az hl g0) ?_
 refine am H [2] (fun j vs H'=>∃ o,vs=[o]/\Bl rowsE ae H H' o ((List.range j).map (Lin.unitV d))) (a:=0) (N:=d) rfl (by refine zW (az hl g0) ?_; rfl) (zV (az hl g0)) (Nat.zero_le _) (by omega) (by simp only [List.length_set,hl]; rfl) rfl (fun j vs H' m ⟨o,h1,h2⟩=>⟨o,h1,h2.mono (Sub.bump H' m)⟩) zK ⟨.nilSl,by exact zV (az hl g0),Bl.nil⟩ ?_ ?_
 ·rintro j T1 H1 _ hj hl1 hi1 hs1 hk1 ⟨o,hv,ho⟩
  have w1:=hk1.wf
  have le_hk1:=hk1.le
  have le1:=hk1.le
  simp only [List.map_cons,List.map_nil,List.cons.injEq,and_true] at hv
  have t0:af T1 0=.int .i64 (d:Int):=(hs1.at_ 0 (by decide)).trans (zV (az hl g0))
  simp only [List.length_set,hl] at hl1
  obtain ⟨cells,hcells⟩:∃ cells,cells=(List.replicate d [AV.bool false,AV.nilSl]).flatten:=⟨_,rfl⟩
  have hmk:∀ H':Heap,EE H' (H1.next+3) aa 2 32 [.bool false,.nilSl] (.int .i64 (d:Int)) (.int .i64 (d:Int))=some (.own (H1.next+3) 0 d d 2 true,H'.put (H1.next+3) (.cells cells aa true)):=fun H'=>by rw [hcells]; exact jI _ _ _ _ _ _ _ _ _ (by omega) (by omega) rfl
  refine zW (aT hl1 t0 hi1 hmk) ?_
  refine AnsH.use (whole_Of C (n:=1) zF (by omega) (by omega)) ?_
  rintro v H2 ⟨⟨w,rfl,hn⟩,hk2⟩
  obtain ⟨k2,_,w2⟩:=zT H1 zK hk2
  have ow:=hn.one
  have hb2:=hk2.get (b:=H1.next+3) (e:=.cells cells aa true) (dZ)
  have lt2:=w2 _ _ hb2
  have hclen:cells.length=d*2:=by rw [hcells]; simp
  have hst:BZ (some (.cells cells aa true)) 2 (0+j*2) (.agg [.bool false,w])=some (.cells (cells.take (0+j*2)++[.bool false,w]++cells.drop (0+j*2+2)) aa true):=lT (Gy (aX _) ow) (by omega)
  have hio:fJ 2 (.own (H1.next+3) 0 d d 2 true) (.int .i64 (j:Int))=some (.ptr (H1.next+3) (0+j*2)):=oM hj
  rw [Nat.zero_add] at hst hio
  obtain ⟨cells2,hc2⟩:∃ c,c=cells.take (j*2)++[.bool false,w]++cells.drop (j*2+2):=⟨_,rfl⟩
  rw [<- hc2] at hst
  have hz:intE.R H2 [.bool false,.nilSl] 0:=⟨.nilSl,by simp,gC H2⟩
  have hcl:Cells intE H2 cells (List.replicate d 0):=by rw [hcells]; exact rh hz _
  have hcl2:Cells intE H2 cells2 ((List.replicate d 0).set j 1):=by rw [hc2]; exact hcl.set (i:=j) (by simpa using hj) ⟨w,rfl,hn⟩
  have m3:NoTy [ad] H2 (H1.next+3):=NoTy.ty hb2 (by decide)
  obtain ⟨Hx,hHx⟩:∃ Hx,Hx=H2.put (H1.next+3) (.cells cells2 aa true):=⟨_,rfl⟩
  have kx:Kp H1 Hx:=by rw [hHx]; exact zK
  have k0x:Kp H Hx:=hk1.trans kx
  have nx:Hx.next=H2.next:=by rw [hHx]; rfl
  have hclx:Cells intE Hx cells2 ((List.replicate d 0).set j 1):=by rw [hHx]; exact Cells.mono (E:=intE) zS hcl2
  have hrow:RowV Hx (.own (H1.next+3) 0 d d 2 true) (Lin.unitV d j):=by
   have:Own intE aa H1 Hx (H1.next+3) true (.own (H1.next+3) 0 d d 2 true) ((List.replicate d 0).set j 1):=⟨cells2,by simp [intE],by rw [hHx]; exact aN _ _ _,hclx,by omega⟩
   exact this.sl
  have orr:=hrow.one
  obtain ⟨n6,H6,e6,b6,k6,nx6,f6,u6⟩:=Bl.push1 (ty2:=ae) (bytes:=24) (id:=Hx.next+3) (id2:=Hx.next+2) (k:=5) (cs:=[.own (H1.next+3) 0 d d 2 true]) (a:=Lin.unitV d j) (ho.mono kx.sub) (by decide) k0x ⟨_,rfl,hrow⟩ (by omega) (by omega) (by omega) (by omega) (by omega) (by simp; omega) (by simp; omega)
  have e6':ft ((((H2.up 5).put (H1.next+3) (.cells cells2 aa true))).put (H2.next+2) (.cells [.own (H1.next+3) 0 d d 2 true] ae true)) (H2.next+3) 1 24 ae o (.own (H2.next+2) 0 1 1 1 true)=some (.own (H2.next+3) 0 n6 n6 1 false,H6):=by rw [hHx] at e6; exact e6
  rw [nx] at b6
  refine zW (ij hl1 hio hb2 hst hv e6') ?_
  refine ⟨k6,_,rfl,?_⟩
  rw [List.range_succ,List.map_append]
  exact b6
 ·rintro T1 H1 hl1 hs1 hk1 ⟨o,hv,ho⟩
  have w1:=hk1.wf
  have le_hk1:=hk1.le
  simp only [List.map_cons,List.map_nil,List.cons.injEq,and_true] at hv
  simp only [List.length_set,hl] at hl1
  refine zW (az hl1 hv) ?_
  exact ⟨ho,hk1⟩
abbrev Ns (H:Heap) (v:AV) (Ls:List (List (List Int))):Prop:=vJ (oY rowsE ae) p8 H v Ls
theorem cone_long (C:Code tab) (hw:Wf H) {Ls:List (List (List Int))} {d:Nat} (hs:Ns H s Ls) (hbig:Ls.length<1099511627776) (hd:∀ L∈Ls,∀ r∈L,r.length=d):Ans tab (.fn jl [s]) H fun v H'=>v=.int .i64 (if Ls.any (fun L=>!L.isEmpty) then (d:Int) else -1)/\Kp H H':=by
 refine dU C.cone_long (by decide) fun T hl g0=>?_
 refine zW (aE hl g0 hs.lenV) ?_
 refine am H [] (fun j _ _=>∀ k (h:k<Ls.length),k<j->Ls[k]=[]) (a:=0) (N:=Ls.length) rfl (by refine zW (az hl g0) ?_; rfl) (zV (az hl g0)) (Nat.zero_le _) (by omega) (by simp only [List.length_set,hl]; rfl) rfl (fun _ _ _ _ h=>h) zK (fun k _ h=>by omega) ?_ ?_
 ·intro j T1 H1 _ hj hl1 hi1 hs1 hk1 hP
  have w1:=hk1.wf
  have le_hk1:=hk1.le
  have t5:af T1 5=s:=(hs1.at_ 5 (by decide)).trans (zV (az hl g0))
  obtain ⟨w,hr,hld⟩:=SlV.at1 (hs.mono hk1.sub) (List.getElem?_eq_getElem hj)
  have hr:RowsV H1 w Ls[j]:=hr
  have hix:=SlV.idx1 hs .i64 j hj
  simp only [List.length_set,hl] at hl1
  rcases Nat.eq_zero_or_pos (Ls[j]).length with h0 | h0
  ·have he:=List.length_eq_zero_iff.1 h0
   have hlv:lenV w=some (.int .i64 0):=by rw [hr.lenV,h0]; rfl
   refine zW (ij hl1 t5 hi1 hix hld hlv) ?_
   refine ⟨zK,fun k h hk=>?_⟩
   by_cases e:k=j
   ·subst e; exact he
   ·exact hP k h (by omega)
  ·obtain ⟨w0,hr0,hld0⟩:=cM hr h0
   have hix0:fJ 1 w (.int .i64 0)=some (aW w 0):=SlV.idx1 hr .i64 0 h0
   have l0:lenV w0=some (.int .i64 (d:Int)):=by rw [hr0.lenV,hd _ (List.getElem_mem hj) _ (List.getElem_mem h0)]
   have hpos:(0:Int)<((Ls[j]).length:Int):=by omega
   refine zW (qW hl1 t5 hi1 hix hld hr.lenV hpos h0 hix0 hld0 l0) ?_
   refine ⟨?_,zK⟩
   rw [if_pos]
   rw [List.any_eq_true]
   exact ⟨_,List.getElem_mem hj,by cases h:Ls[j] with | nil=>rw [h] at h0; simp at h0 | cons a l=>rfl⟩
 ·intro T1 H1 hl1 hs1 hk1 hP
  simp only [List.length_set,hl] at hl1
  refine zW hl1 ?_
  refine ⟨?_,zK⟩
  rw [if_neg]
  rw [Bool.not_eq_true,List.any_eq_false]
  intro L hL
  obtain ⟨k,hk,rfl⟩:=List.getElem_of_mem hL
  rw [hP k hk hk]; simp
def cd (A B:List (List (Bool × List Nat))):Int :=
 if aZ A≠0 then aZ A else if aZ B≠0 then aZ B else if A≠[]/\B≠[]/\(A.getD 0 []).length≠(B.getD 0 []).length then 70 else 0
theorem cone_checked (C:Code tab) (hw:Wf H) {va vb:AV} {A B:List (List (Bool × List Nat))} (ha:gK H va A) (hb:gK H vb B) (hA:A.length<1099511627776) (hB:B.length<1099511627776) (ba:∀ r∈A,yv r) (bb:∀ r∈B,yv r) :
  Ans tab (.fn fh [va,vb]) H fun v H'=>v=.int .i64 (cd A B)/\Kp H H':=by
 have oa:=ha.one
 have ob:=hb.one
 refine Al C.cone_checked rfl rfl (by decide) fun T hl g=>?_
 have hl:T.length=39:=hl
 have hrs:c_cone_checked.results=[(4,none)]:=rfl
 have g0:af T 0=va:=g 0 (by simp)
 have g1:af T 1=vb:=g 1 (by simp)
 refine cr ?_
 refine zW (aT hl g0 g1 @aU) ?_
 refine gf (fun T' H'=>aZ A=0/\aZ B=0/\Kp H H') rfl ?_ ?_
 ·refine zW (aE hl g0 g1) ?_
  refine bX H [11] (fun k vs H'=>∃ i:Nat,vs=[.int .i64 (i:Int)]/\i+k=2/\(1<=i->aZ A=0)/\(2<=i->aZ B=0)) 2 (by simp only [List.length_set]; exact hl) rfl zK ⟨0,by refine zW hl ?_; rfl,rfl,by omega,by omega⟩ ?_
  rintro k T1 H1 hl1 hs1 hk1 ⟨i,hv,hik,hc1,hc2⟩
  have w1:=hk1.wf
  have le_hk1:=hk1.le
  simp only [List.map_cons,List.map_nil,List.cons.injEq,and_true] at hv
  have t10:af T1 10=.agg [va,vb]:=(hs1.at_ 10 (by decide)).trans (zV (aE hl g0 g1))
  have:i=0\/i=1\/i=2:=by omega
  rcases this with rfl | rfl | rfl
  ·have hv:af T1 11=.int .i64 0:=hv
   refine zW (aE hl1 hv t10) ?_
   refine AnsH.eq (rows_Check C zF (ha.mono (Kp.sub (H:=H) zK)) (by omega) ba) fun H2 hk2=>?_
   obtain ⟨k2,_,w2⟩:=zT H zK hk2
   by_cases h:aZ A=0
   ·refine zW (aE hl1 hv h) ?_
    exact ⟨zK,1,by omega,1,rfl,rfl,(by first | exact fun _=>h | exact fun _=>trivial),by omega⟩
   ·refine zW (dg hl1 hv h @zO hrs) ?_
    exact ⟨by unfold cd; rw [if_pos h],zK⟩
  ·have hv:af T1 11=.int .i64 1:=hv
   refine zW (aE hl1 hv t10) ?_
   refine AnsH.eq (rows_Check C zF (hb.mono (Kp.sub (H:=H) zK)) (by omega) bb) fun H2 hk2=>?_
   obtain ⟨k2,_,w2⟩:=zT H zK hk2
   have hA0:=hc1 (by omega)
   by_cases h:aZ B=0
   ·refine zW (aE hl1 hv h) ?_
    exact ⟨zK,0,by omega,2,rfl,rfl,(by first | exact fun _=>hA0 | exact fun _=>trivial),(by first | exact fun _=>h | exact fun _=>trivial)⟩
   ·refine zW (dg hl1 hv h @zO hrs) ?_
    refine ⟨?_,zK⟩
    unfold cd
    rw [if_neg (by simpa using hA0),if_pos h]
  ·have hv:af T1 11=.int .i64 2:=hv
   refine zW (aT hl1 hv t10 @bw) ?_
   exact ⟨hc1 (by omega),hc2 (by omega),zK⟩
 ·rintro T1 H1 hs1 ⟨c1,c2,k1⟩
  have w1:=k1.wf
  have t0:af T1 0=va:=(hs1.at_ 0 (by decide)).trans (zV (az hl g0))
  have t1:af T1 1=vb:=(hs1.at_ 1 (by decide)).trans (zV (az hl g1))
  have hl1:T1.length=39:=hs1.len.trans (by simp only [List.length_set]; exact hl)
  have hcode:cd A B=if A≠[]/\B≠[]/\(A.getD 0 []).length≠(B.getD 0 []).length then 70 else 0:=by
   unfold cd
   rw [if_neg (by simpa using c1),if_neg (by simpa using c2)]
  refine WC.wb ?_
  refine zW (aE hl1 t0 t1) ?_
  rcases Nat.eq_zero_or_pos A.length with a0 | a0
  ·have hlA:lenV va=some (.int .i64 0):=by rw [ha.lenV,a0]; rfl
   have hA0:=List.length_eq_zero_iff.1 a0
   refine aS ?_
   refine zD (ij hl1 t0 t1 hlA hrs @bM) ?_
   exact ⟨by rw [hcode,if_neg (fun h=>h.1 hA0)],zK⟩
  ·have posA:(0:Int)<(A.length:Int):=by omega
   have hAn:A≠[]:=fun e=>by rw [e] at a0; simp at a0
   rcases Nat.eq_zero_or_pos B.length with b0 | b0
   ·have hlB:lenV vb=some (.int .i64 0):=by rw [hb.lenV,b0]; rfl
    have hB0:=List.length_eq_zero_iff.1 b0
    refine aS ?_
    refine zD (nt hl1 t0 t1 ha.lenV posA a0 hlB hrs @bM) ?_
    exact ⟨by rw [hcode,if_neg (fun h=>h.2.1 hB0)],zK⟩
   ·have posB:(0:Int)<(B.length:Int):=by omega
    have hBn:B≠[]:=fun e=>by rw [e] at b0; simp at b0
    obtain ⟨wa,hra,hlda⟩:=ri (ha.mono k1.sub) a0
    obtain ⟨wb,hrb,hldb⟩:=ri (hb.mono k1.sub) b0
    have xa:fJ 1 va (.int .i64 0)=some (aW va 0):=SlV.idx1 ha .i64 0 a0
    have xb:fJ 1 vb (.int .i64 0)=some (aW vb 0):=SlV.idx1 hb .i64 0 b0
    have la:=hra.lenV
    have lb:=hrb.lenV
    have ga:A.getD 0 []=A[0]:=by simp [a0]
    have gb:B.getD 0 []=B[0]:=by simp [b0]
    by_cases he:A[0].length=B[0].length
    ·have he':((A[0].length:Nat):Int)=((B[0].length:Nat):Int):=by omega
     refine aS ?_
     refine zD (Jt hl1 t0 t1 ha.lenV hb.lenV posA a0 posB @b0 xa xb hlda hldb la lb he' he hrs @bM) ?_
     exact ⟨by rw [hcode,ga,gb,if_neg (fun h=>h.2.2 he)],zK⟩
    ·have he':¬ ((A[0].length:Nat):Int)=((B[0].length:Nat):Int):=by omega
     refine aS ?_
     refine zD (Jt hl1 t0 t1 ha.lenV hb.lenV posA a0 posB @b0 xa xb hlda hldb la lb he' he hrs @bM) ?_
     exact ⟨by rw [hcode,ga,gb,if_pos ⟨hAn,hBn,he⟩],zK⟩
end
end Go.Proofs.YtichbdepocojaaaGreat.Ev
namespace Go.Proofs.YtichbdepocojaaaGreat.Lin
set_option linter.all false
theorem xg:∀ (n:Nat) (l:List (List Bool)),l.Nodup->(∀ b∈l,b.length=n)->l.length<=2^n
 | 0,[],_,_=>by simp
 | 0,[a],_,_=>by simp
 | 0,a :: b :: l,hn,h=>by
  have ha:=List.length_eq_zero_iff.1 (h a (by simp))
  have hb:=List.length_eq_zero_iff.1 (h b (by simp))
  subst ha; subst hb
  simp at hn
 | n+1,l,hn,h=>by
  have part:∀ v:Bool,((l.filter fun b=>b.head? == some v).map List.tail).length<=2^n:=fun v=>by
   refine xg n _ ?_ fun b hb=>?_
   ·refine List.pairwise_map.2 (List.Pairwise.imp_of_mem (fun {x y} hx hy hne e=>hne ?_) (List.Pairwise.filter _ hn))
    have hx:=(List.mem_filter.1 hx).2
    have hy:=(List.mem_filter.1 hy).2
    cases x with
    | nil=>simp at hx
    | cons a x =>
     cases y with
     | nil=>simp at hy
     | cons b y =>
      simp at hx hy e
      rw [hx,hy,e]
   ·obtain ⟨c,hc,rfl⟩:=List.mem_map.1 hb
    have:=h c (List.mem_filter.1 hc).1
    simp [this]
  have h1:=part true
  have h2:=part false
  rw [List.length_map] at h1 h2
  have h3:l.length=(l.filter fun b=>b.head? == some true).length+(l.filter fun b=>b.head? == some false).length:=by
   rw [<- List.countP_eq_length_filter,<- List.countP_eq_length_filter,List.length_eq_countP_add_countP (p:=fun b:List Bool=>b.head? == some true)]
   congr 1
   refine List.countP_congr fun b hb=>?_
   have:=h b hb
   cases b with
   | nil=>simp at this
   | cons a b=>cases a <;> simp
  rw [Nat.pow_succ]; omega
theorem DD.count {d:Nat} {E L:V->Prop} {dn R:List V} (h:DD d E (· ∈ dn) L R):R.length<=2^dn.length:=by
 have hn:(R.map fun r=>dn.map fun i=>decide (dot i r=0)).Nodup:=by
  refine List.pairwise_map.2 (h.apart.imp fun hne e=>hne fun i hi=>?_)
  have:=List.map_inj_left.1 e i hi
  simpa using this
 have:=xg dn.length _ hn fun b hb=>by obtain ⟨r,-,rfl⟩:=List.mem_map.1 hb; simp
 simpa using this
theorem gensU_done {d:Nat} {eqs ineqs:List V} (h1:∀ a∈eqs,a.length=d) (h2:∀ a∈ineqs,a.length=d):(gensU d eqs ineqs).done=ineqs:=by
 obtain ⟨g1,g2⟩:=tn eqs (startU d) _ lS h1
 obtain ⟨g3,g4⟩:=rJ ineqs _ g1 h2
 exact g4.trans (by rw [g2]; simp [startU])
theorem uM {d:Nat} (eq:Bool):∀ (l:List V) (u:Under) (E:V->Prop) (ps:List (Nat × V)),DD d E (· ∈ u.done) (· ∈ u.lines) u.rays->Jo d ps u->(∀ a∈l,a.length=d)->∃ ps',Jo d ps' (l.foldl (fun u a=>addU a eq u) u)
 | [],u,E,ps,_,h,_=>⟨ps,h⟩
 | a :: l,u,E,ps,hdd,h,hl=>by
  obtain ⟨ps',h'⟩:=IR (a:=a) hdd h eq
  exact uM eq l (addU a eq u) _ ps' (BM hdd (hl a (List.mem_cons_self ..)) eq) h' fun b hb=>hl b (List.mem_cons_of_mem _ hb)
theorem DT {d:Nat} {eqs ineqs:List V} (h1:∀ a∈eqs,a.length=d) (h2:∀ a∈ineqs,a.length=d):∃ ps,Jo d ps (gensU d eqs ineqs):=by
 obtain ⟨g1,-⟩:=tn eqs (startU d) _ lS h1
 obtain ⟨ps,hp⟩:=uM true eqs (startU d) _ _ lS (Ee d) h1
 exact uM false ineqs _ _ ps g1 hp h2
theorem EA (a:V) (eq:Bool) (u:Under):(addU a eq u).lines.length<=u.lines.length:=by
 unfold addU
 split
 ·exact Nat.le_refl _
 ·simp only [List.length_map]
  exact List.length_eraseIdx_le ..
theorem pS (eq:Bool):∀ (l:List V) (u:Under),(l.foldl (fun u a=>addU a eq u) u).lines.length<=u.lines.length
 | [],u=>Nat.le_refl _
 | a :: l,u=>Nat.le_trans (pS eq l (addU a eq u)) (EA a eq u)
theorem gensU_lines (d:Nat) (eqs ineqs:List V):(gensU d eqs ineqs).lines.length<=d:=by
 refine Nat.le_trans (pS false ineqs _) (Nat.le_trans (pS true eqs _) ?_)
 simp [startU]
theorem gens_mid {d M:Nat} (hd:0<d) (hM:0<M) {eqs ineqs:List V} (h1:∀ a∈eqs,a.length=d/\Bd M a) (h2:∀ a∈ineqs,a.length=d/\Bd M a) :
  (∀ l∈(gensU d eqs ineqs).lines,l.length=d/\Bd ((2*d*M)^2^d) l)/\(∀ r∈(gensU d eqs ineqs).rays,r.length=d/\Bd ((2*d*M)^2^d) r)/\(gensU d eqs ineqs).rays.length<=2^ineqs.length:=by
 have e1:∀ a∈eqs,a.length=d:=fun a ha=>(h1 a ha).1
 have e2:∀ a∈ineqs,a.length=d:=fun a ha=>(h2 a ha).1
 have hdd:=gensU_dd e1 e2
 obtain ⟨ps,hp⟩:=DT e1 e2
 have hdn:=gensU_done e1 e2
 obtain ⟨b1,b2⟩:=GH (Es:=eqs) hd hM (by rw [hdn]; exact hdd) hp h1 (by rw [hdn]; exact h2)
 exact ⟨fun l hl=>⟨hdd.lenL l hl,b1 l hl⟩,fun r hr=>⟨hdd.lenR r hr,b2 r hr⟩,hdd.count⟩
theorem Fz {d:Nat} {E I:V->Prop} {L R dn:List V} (h:vX d E I L R):Jo d (L.map fun l=>(pv l,l)) ⟨L,R,dn⟩:=by
 refine ⟨by simp [List.map_map,Function.comp_def],fun q hq=>?_,fun q hq=>?_,?_,fun r hr q hq=>?_,h.form.cont,h.cont⟩
 ·obtain ⟨l,hl,rfl⟩:=List.mem_map.1 hq
  exact (h.form.pos hl).2.2
 ·obtain ⟨l,hl,rfl⟩:=List.mem_map.1 hq
  have:=(h.form.pos hl).2.1
  simp only
  omega
 ·exact List.pairwise_map.2 h.form.clear
 ·obtain ⟨l,hl,rfl⟩:=List.mem_map.1 hq
  exact h.rest r hr l hl
theorem told_bd {d M:Nat} (hd:0<d) (hM:0<M) {eqs ineqs L R:List V} (h:vX d (· ∈ eqs) (· ∈ ineqs) L R) (h1:∀ a∈eqs,a.length=d/\Bd M a) (h2:∀ a∈ineqs,a.length=d/\Bd M a) :
  (∀ l∈L,Bd ((2*d*M)^2^d) l)/\(∀ r∈R,Bd ((2*d*M)^2^d) r) :=
 GH (u:=⟨L,R,ineqs⟩) hd hM h.dd (Fz h) h1 h2
theorem pow_bd {d m:Nat} (hd:d<=6):(2*d*2^m)^2^d<=2^(64*(m+4)):=by
 have h1:2*d*2^m<=2^(m+4):=by
  rw [Nat.pow_add,Nat.mul_comm (2^m)]
  exact Nat.mul_le_mul_right _ (by omega)
 have h2:2^d<=2^6:=Nat.pow_le_pow_right (by decide) hd
 have h3:2^d*(m+4)<=64*(m+4):=Nat.mul_le_mul_right _ h2
 calc (2*d*2^m)^2^d<=(2^(m+4))^2^d:=Nat.pow_le_pow_left h1 _
  _=2^((m+4)*2^d):=(Nat.pow_mul ..).symm
  _<=2^(64*(m+4)):=Nat.pow_le_pow_right (by decide) (by rw [Nat.mul_comm]; exact h3)
theorem told_nodup {d:Nat} {E I:V->Prop} {L R:List V} (h:vX d E I L R):R.Nodup:=h.dd.apart.imp fun hne e=>hne fun i hi=>by rw [e]
end Go.Proofs.YtichbdepocojaaaGreat.Lin
namespace Go.Proofs.YtichbdepocojaaaGreat.Ev
open Go Nn
set_option linter.all false
theorem Gu (d:Nat) (E:List (List Int)) {j:Nat} (h:j<E.length):Lin.gensU d (E.take (j+1)) []=Lin.addU E[j] true (Lin.gensU d (E.take j) []):=by
 unfold Lin.gensU
 rw [List.take_succ_eq_append_getElem h,List.foldl_append]; rfl
theorem Gt (d:Nat) (E I:List (List Int)) {j:Nat} (h:j<I.length):Lin.gensU d E (I.take (j+1))=Lin.addU I[j] false (Lin.gensU d E (I.take j)):=by
 unfold Lin.gensU
 rw [List.take_succ_eq_append_getElem h,List.foldl_append]; rfl
theorem mo {m:Nat} {x:List Int} (h:Lin.Bd (2^m) x):∀ z∈x,Bt (m+1) z:=fun z hz=>by
 have h1:=h.mem z hz
 have h2:0<2^m:=Nat.pow_pos (by decide)
 unfold Bt
 rw [Nat.pow_succ]
 omega
theorem wM {d:Nat} {l:List (List Int)} (hl:∀ r∈l,r.length=d):Lin.formF (Lin.formF l)=Lin.formF l:=by
 have h:=Lin.form_ech hl
 have h2:=Lin.form_ech h.1.len
 exact h2.1.unique h.1 h2.2
structure Jn (d f:Nat) (u:Lin.Under) (I:List (List Int)):Prop where
 lines:∀ l∈u.lines,l.length=d/\∀ z∈l,Bt f z
 rays:∀ r∈u.rays,r.length=d/\∀ z∈r,Bt f z
 few:u.rays.length<=2^I.length
 some:u.lines.length<=d
 done:u.done=I
theorem KB {d m:Nat} (hd0:0<d) (hd:d<=6) {E I:List (List Int)} (h1:∀ a∈E,a.length=d/\Lin.Bd (2^m) a) (h2:∀ a∈I,a.length=d/\Lin.Bd (2^m) a):Jn d (64*(m+4)+1) (Lin.gensU d E I) I:=by
 obtain ⟨g1,g2,g3⟩:=Lin.gens_mid hd0 (Nat.pow_pos (n:=m) (show 0<2 by decide)) h1 h2
 exact ⟨fun l hl=>⟨(g1 l hl).1,mo ((g1 l hl).2.mono (Lin.pow_bd hd))⟩,fun l hl=>⟨(g2 l hl).1,mo ((g2 l hl).2.mono (Lin.pow_bd hd))⟩,g3,Lin.gensU_lines d E I,Lin.gensU_done (fun a ha=>(h1 a ha).1) (fun a ha=>(h2 a ha).1)⟩
theorem tc {d m:Nat} (hd0:0<d) (hd:d<=6) {E I:List (List Int)} (h1:∀ a∈E,a.length=d/\Lin.Bd (2^m) a) (h2:∀ a∈I,a.length=d/\Lin.Bd (2^m) a) :
  (∀ l∈Lin.gensL d E I,l.length=d/\Lin.Bd (2^(64*(m+4))) l)/\∀ r∈Lin.gensR d E I,r.length=d/\Lin.Bd (2^(64*(m+4))) r:=by
 have t:=Lin.gens_told (fun a ha=>(h1 a ha).1) (fun a ha=>(h2 a ha).1)
 obtain ⟨g1,g2⟩:=Lin.told_bd hd0 (Nat.pow_pos (n:=m) (show 0<2 by decide)) t h1 h2
 exact ⟨fun l hl=>⟨t.dd.lenL l hl,(g1 l hl).mono (Lin.pow_bd hd)⟩,fun l hl=>⟨t.dd.lenR l hl,(g2 l hl).mono (Lin.pow_bd hd)⟩⟩
theorem Gz {e d:Nat} (hd:d<=6):io e d<=1237*e+1957:=by
 refine Nat.le_trans (pL e hd) ?_
 simp only [io]
 omega
theorem pN {d:Nat} {A B:List (List Int)} (h1:mY d A) (h2:mY d B) (hA:A.length<=1024) (hB:B.length<=1024):cd (A.map fun r=>r.map kj) (B.map fun r=>r.map kj)=0:=by
 have code:∀ {L:List (List Int)},mY d L->L.length<=1024->aZ (L.map fun r=>r.map kj)=0:=fun {L} hok hL=>by
  refine oE (by rw [List.length_map]; exact hL) (fun k hk=>?_) fun k hk=>?_
  ·rw [List.length_map] at hk
   have hm:=List.getElem_mem hk
   simp only [List.getElem_map]
   unfold pQ
   rw [AW (by rw [hok.len _ hm]; exact hok.le),decide_eq_false (by rw [List.length_map,hok.len _ hm]; have:=hok.pos; omega)]
   rfl
  ·rw [List.length_map] at hk
   simp only [List.getElem_map,List.length_map]
   rw [hok.len _ (List.getElem_mem hk),hok.len _ (List.getElem_mem (by omega))]
 unfold cd
 rw [code h1 hA,code h2 hB]
 simp only [ne_eq,not_true_eq_false,if_false]
 rw [if_neg]
 rintro ⟨ha,hb,hne⟩
 apply hne
 cases A with
 | nil=>simp at ha
 | cons a A =>
  cases B with
  | nil=>simp at hb
  | cons b B=>simp [h1.len a (by simp),h2.len b (by simp)]
theorem IS {a:AV} (ha:One a):kF [.nilSl,.nilSl,.nilSl] [((0,1),a)]=some (.agg [a,.nilSl,.nilSl]):=by
 simp [kF,dq,ha.1,ha.2]
section
variable {tab:Nat->Option au} {H:Heap} {s:AV}
theorem cone_Gens_f1 (C:Code tab) (hw:Wf H) {a b:AV} {x y:List Int} (ha:RowV H a x) (hb:RowV H b y) (hxy:x.length=y.length) (h64:x.length<=64) (hx:∀ z∈x,fu z) (hy:∀ z∈y,fu z) :
  Ans tab (.fn fj [a,b]) H fun v H'=>v=.int .i64 (vT x y)/\Kp H H':=by
 have oa:=ha.one
 have ob:=hb.one
 refine cz C.cone_Gens_f1 (by decide) fun T hl g0 g1=>?_
 refine zW (aE hl g0 g1) ?_
 refine AnsH.eq (vec_Cmp C zF (ha.mono (Kp.sub (H:=H) zK)) (hb.mono (Kp.sub (H:=H) zK)) hxy h64 hx hy) fun H2 hk2=>?_
 obtain ⟨k2,_,_⟩:=zT H zK hk2
 refine zW (aE hl g0 g1) ?_
 exact zK
theorem cone_Gens (C:Code tab) (hw:Wf H) {va vb:AV} {E I:List (List Int)} {d m:Nat} (ha:RowsV H va E) (hb:RowsV H vb I) (hd0:0<d) (hd:d<=6) (he:E.length<=1024) (hi:I.length<=20) (h1:∀ a∈E,a.length=d/\Lin.Bd (2^m) a) (h2:∀ a∈I,a.length=d/\Lin.Bd (2^m) a) (hm:m<=300000) :
  Ans tab (.fn eA [.int .i64 (d:Int),va,vb]) H fun v H'=>∃ p q,v=.tup [p,q,.int .i64 0]/\RowsV H' p (Lin.gensL d E I)/\RowsV H' q (Lin.gensR d E I)/\Kp H H':=by
 have oa:=ha.one
 have ob:=hb.one
 obtain ⟨f,hf⟩:∃ f,f=64*(m+4)+1:=⟨_,rfl⟩
 have ok1:mY d E:=⟨hd0,by omega,fun r hr=>(h1 r hr).1,fun r hr z hz=>(mo (h1 r hr).2 z hz).sm (by omega)⟩
 have ok2:mY d I:=⟨hd0,by omega,fun r hr=>(h2 r hr).1,fun r hr z hz=>(mo (h2 r hr).2 z hz).sm (by omega)⟩
 have mid:∀ {A B:List (List Int)},(∀ a∈A,a.length=d/\Lin.Bd (2^m) a)->(∀ a∈B,a.length=d/\Lin.Bd (2^m) a)->Jn d f (Lin.gensU d A B) B:=fun hA hB=>by rw [hf]; exact KB hd0 hd hA hB
 have hfb:=Gz (e:=f) hd
 refine Al C.cone_Gens rfl rfl (by decide) fun T hl g=>?_
 have hl:T.length=100:=hl
 have hrs:c_cone_Gens.results=[(6,none),(7,none),(8,none)]:=rfl
 have g0:af T 0=.int .i64 (d:Int):=g 0 (by simp)
 have g1:af T 1=va:=g 1 (by simp)
 have g2:af T 2=vb:=g 2 (by simp)
 refine cr ?_
 refine zW (dg hl g0 g1 g2 @aU) ?_
 refine gf (fun T' H'=>Kp H H') rfl ?_ ?_
 ·refine zW (aT hl g0 g1 g2) ?_
  refine AnsH.eq (cone_checked C zF ((kh ha).mono (Kp.sub (H:=H) zK)) ((kh hb).mono (Kp.sub (H:=H) zK)) (by rw [List.length_map]; omega) (by rw [List.length_map]; omega) (fun r hr=>?_) (fun r hr=>?_)) fun H2 hk2=>?_
  ·obtain ⟨x,hx,rfl⟩:=List.mem_map.1 hr
   exact jC (by rw [ok1.len x hx]; omega) (ok1.sm x hx)
  ·obtain ⟨x,hx,rfl⟩:=List.mem_map.1 hr
   exact jC (by rw [ok2.len x hx]; omega) (ok2.sm x hx)
  rw [pN ok1 ok2 he (by omega)]
  obtain ⟨k2,_,_⟩:=zT H zK hk2
  refine zW (az hl @bw) ?_
  exact zK
 intro T1 H1 hs1 k1
 have w1:=k1.wf
 have le1:=k1.le
 have t0:af T1 0=.int .i64 (d:Int):=(hs1.at_ 0 (by decide)).trans (zV (az hl g0))
 have t1:af T1 1=va:=(hs1.at_ 1 (by decide)).trans (zV (az hl g1))
 have t2:af T1 2=vb:=(hs1.at_ 2 (by decide)).trans (zV (az hl g2))
 have t7:af T1 7=.nilSl:=(hs1.at_ 7 (by decide)).trans (zV hl)
 have hl1:T1.length=100:=hs1.len.trans (by simp only [List.length_set]; exact hl)
 refine gf (fun T' H'=>Kp H H'/\af T' 7=.nilSl) rfl ?_ ?_
 ·refine zW (aT hl1 t0 t1 t2) ?_
  refine AnsH.use (cone_long C (Ls:=[E,I]) (d:=d) zF (pH (E:=rowsE) (t1:=ae) ha hb (Kp.sub (H:=H) zK) (dZ)) (by simp) (fun L hL r hr=>?_)) ?_
  ·rcases List.mem_cons.1 hL with rfl | hL
   ·exact ok1.len r hr
   ·rcases List.mem_cons.1 hL with rfl | hL
    ·exact ok2.len r hr
    ·cases hL
  rintro v H2 ⟨rfl,hk2⟩
  obtain ⟨k2,_,_⟩:=zT H zK hk2
  have q1:¬ ((d:Int)<1):=by omega
  have q2:¬ ((64:Int)<(d:Int)):=by omega
  have q3:(0:Int)<=(d:Int):=by omega
  cases hany:[E,I].any (fun L=>!L.isEmpty) with
  | true =>
   refine zW (lG hl1 t0 t7 q1 q2 q3 @bw) ?_
   exact zK
  | false =>
   refine zW (lG hl1 t0 t7 q1 q2 q3 @bw) ?_
   exact zK
 rintro T2 H2 hs2 ⟨k2,u7⟩
 have w2:=k2.wf
 have le2:=k2.le
 have u0:af T2 0=.int .i64 (d:Int):=(hs2.at_ 0 (by decide)).trans t0
 have u1:af T2 1=va:=(hs2.at_ 1 (by decide)).trans t1
 have u2:af T2 2=vb:=(hs2.at_ 2 (by decide)).trans t2
 have hl2:T2.length=100:=hs2.len.trans hl1
 refine gf (fun T' H'=>af T' 10=.ptr (H2.next+3) 0/\Kp H H'/\UnderV H H' (H2.next+3) (Lin.gensU d [] [])) rfl ?_ ?_
 ·refine zW (az hl2 u0) ?_
  refine AnsH.use (cone_all C (d:=d) zF (by omega)) ?_
  rintro v H3 ⟨bl3,hk3⟩
  obtain ⟨k23,_,_⟩:=zT H2 zK hk3
  have k3:Kp H H3:=k2.trans k23
  have le_k3:=k3.le
  have w3:=k3.wf
  have ov:=bl3.sl.one
  have h0:AV.one .nilSl=true:=rfl
  have hbv:sX (.agg [v,.nilSl,.nilSl])=some [v,.nilSl,.nilSl]:=by simp [sX,AV.cells,ov.2,h0]
  have n3:H2.next+5<=H3.next:=hk3.le
  have f3:H3.get (H2.next+3)=none:=hk3.free (show _<H2.next+5 by omega) (w2.fresh (b:=H2.next+3) (by omega))
  refine zW (aT hl2 (IS ov) hbv @bw) ?_
  have hbl:Wr H H3 v (Lin.startU d).lines (Lin.startU d).lines.length:=bl3.wr.base (show H.next<=H2.next+5 by omega)
  have hnb:js v≠some (H2.next+3):=fun hx=>by
   have h2:H2.next+5<=H2.next+3:=bl3.ge hx
   omega
  exact ⟨zK,v,.nilSl,.nilSl,_,aN _ _ _,hbl.put hnb (NoTy.none f3),.inl ⟨rfl,rfl⟩,.inl ⟨rfl,rfl⟩,(fun x _ hy=>by cases hy),(fun x _ hy=>by cases hy),(fun x _ hy=>by cases hy)⟩
 obtain ⟨ub,hub⟩:∃ ub,ub=H2.next+3:=⟨_,rfl⟩
 rw [<- hub]
 have hubH:H.next<=ub:=by omega
 rintro T3 H3 hs3 ⟨eZ,k3,hu3⟩
 have w3:=k3.wf
 have le3:=k3.le
 have v1:af T3 1=va:=(hs3.at_ 1 (by decide)).trans u1
 have v2:af T3 2=vb:=(hs3.at_ 2 (by decide)).trans u2
 have v7:af T3 7=.nilSl:=(hs3.at_ 7 (by decide)).trans u7
 have hl3:T3.length=100:=hs3.len.trans hl2
 refine cr ?_
 refine zW (aE hl3 eZ @aU) ?_
 refine gf (fun T' H'=>Kp H H'/\UnderV H H' ub (Lin.gensU d E [])) rfl ?_ ?_
 ·refine zW (aE hl3 v1 ha.lenV) ?_
  refine am H [] (fun j _ H'=>UnderV H H' ub (Lin.gensU d (E.take j) [])) (a:=0) (N:=E.length) rfl (by refine zW hl3 ?_; rfl) (zV hl3) (Nat.zero_le _) (by omega) (by simp only [List.length_set,hl3]; rfl) rfl (fun j vs H' m h=>h.mono (Sub.bump H' m)) zK (by exact hu3.mono (Sub.bump H3 _)) ?_ ?_
  ·rintro j T4 H4 _ hj hl4 hi4 hs4 hk4 hu4
   have w4:=hk4.wf
   have le_hk4:=hk4.le
   have le4:=hk4.le
   have t48:af T4 48=va:=(hs4.at_ 48 (by decide)).trans (zV (az hl3 v1))
   have t11:af T4 11=.fn (.func co) [.ptr ub 0] []:=(hs4.at_ 11 (by decide)).trans (zV hl3)
   obtain ⟨w,hr,hld⟩:=cM ha hj
   have hld4:=cy hk4.sub hld
   have hix:=SlV.idx1 ha .i64 j hj
   have mk:=mid (A:=E.take j) (B:=[]) (fun a h=>h1 a (List.mem_of_mem_take h)) (fun a h=>by cases h)
   have hEj:=h1 _ (List.getElem_mem hj)
   have hso:=mk.some
   have hfe:=mk.few
   simp only [List.length_nil,Nat.pow_zero] at hfe
   simp only [List.length_set,hl3] at hl4
   refine zW (ij hl4 t48 t11 hi4 hix hld4) ?_
   refine AnsH.use (zQ C (H0:=H) (u:=Lin.gensU d (E.take j) []) (e:=f) (f:=f) (hk4.up _) hubH (hu4.mono (Sub.bump H4 _)) hr hd0 (by omega) hEj.1 mk.lines mk.rays (fun r hr=>by rw [mk.done] at hr; cases hr) (by rw [mk.done]; simp) (fun z hz=>(mo hEj.2 z hz).mono (by omega)) (by omega) (by omega) (by omega)) ?_
   rintro v H5 ⟨rfl,hk5,hu5⟩
   refine zW hl4 ?_
   exact ⟨hk5,by rw [Gu d E hj]; exact hu5⟩
  ·rintro T4 H4 hl4 hs4 hk4 hu4
   rw [List.take_length] at hu4
   refine zW (az hl4 @bw) ?_
   exact ⟨hk4,hu4⟩
 rintro T4 H4 hs4 ⟨k4,hu4⟩
 have w4:=k4.wf
 have le4:=k4.le
 have x2:af T4 2=vb:=(hs4.at_ 2 (by decide)).trans (zV (az hl3 v2))
 have x7:af T4 7=.nilSl:=(hs4.at_ 7 (by decide)).trans (zV (az hl3 v7))
 have x10:af T4 10=.ptr ub 0:=(hs4.at_ 10 (by decide)).trans (zV (az hl3 eZ))
 have x11:af T4 11=.fn (.func co) [.ptr ub 0] []:=(hs4.at_ 11 (by decide)).trans (zV hl3)
 have hl4:T4.length=100:=hs4.len.trans (by simp only [List.length_set]; exact hl3)
 refine gf (fun T' H'=>Kp H H'/\UnderV H H' ub (Lin.gensU d E I)) rfl ?_ ?_
 ·refine zW (aE hl4 x2 hb.lenV) ?_
  refine am H [] (fun j _ H'=>UnderV H H' ub (Lin.gensU d E (I.take j))) (a:=0) (N:=I.length) rfl (by refine zW hl4 ?_; rfl) (zV hl4) (Nat.zero_le _) (by omega) (by simp only [List.length_set,hl4]; rfl) rfl (fun j vs H' m h=>h.mono (Sub.bump H' m)) zK (by exact hu4.mono (Sub.bump H4 _)) ?_ ?_
  ·rintro j T5 H5 _ hj hl5 hi5 hs5 hk5 hu5
   have w5:=hk5.wf
   have le_hk5:=hk5.le
   have le5:=hk5.le
   have t58:af T5 58=vb:=(hs5.at_ 58 (by decide)).trans (zV (az hl4 x2))
   have t11:af T5 11=.fn (.func co) [.ptr ub 0] []:=(hs5.at_ 11 (by decide)).trans (zV (az hl4 x11))
   obtain ⟨w,hr,hld⟩:=cM hb hj
   have hld5:=cy hk5.sub hld
   have hix:=SlV.idx1 hb .i64 j hj
   have hIt:∀ a∈I.take j,a.length=d/\Lin.Bd (2^m) a:=fun a h=>h2 a (List.mem_of_mem_take h)
   have mk:=mid (A:=E) (B:=I.take j) h1 hIt
   have hIj:=h2 _ (List.getElem_mem hj)
   have hso:=mk.some
   have hfe:=mk.few
   have hp:2^(I.take j).length<=2^20:=Nat.pow_le_pow_right (by decide) (by rw [List.length_take]; omega)
   have hp2:(2:Nat)^20=1048576:=by decide
   simp only [List.length_set,hl4] at hl5
   refine zW (ij hl5 t58 t11 hi5 hix hld5) ?_
   refine AnsH.use (zQ C (H0:=H) (u:=Lin.gensU d E (I.take j)) (e:=f) (f:=f) (hk5.up _) hubH (hu5.mono (Sub.bump H5 _)) hr hd0 (by omega) hIj.1 mk.lines mk.rays (fun r hr=>by rw [mk.done] at hr; exact ⟨(hIt r hr).1,fun z hz=>(mo (hIt r hr).2 z hz).mono (by omega)⟩) (by rw [mk.done,List.length_take]; omega) (fun z hz=>(mo hIj.2 z hz).mono (by omega)) (by omega) (by omega) (by omega)) ?_
   rintro v H6 ⟨rfl,hk6,hu6⟩
   refine zW hl5 ?_
   exact ⟨hk6,by rw [Gt d E I hj]; exact hu6⟩
  ·rintro T5 H5 hl5 hs5 hk5 hu5
   rw [List.take_length] at hu5
   refine zW (az hl5 @bw) ?_
   exact ⟨hk5,hu5⟩
 rintro T5 H5 hs5 ⟨k5,hu5⟩
 have w5:=k5.wf
 have le5:=k5.le
 have y7:af T5 7=.nilSl:=(hs5.at_ 7 (by decide)).trans x7
 have y10:af T5 10=.ptr ub 0:=(hs5.at_ 10 (by decide)).trans x10
 have hl5:T5.length=100:=hs5.len.trans hl4
 have mk:=mid h1 h2
 have hso:=mk.some
 have hfe:=mk.few
 have hp:2^I.length<=2^20:=Nat.pow_le_pow_right (by decide) hi
 have hp2:(2:Nat)^20=1048576:=by decide
 obtain ⟨ql,qr,qd,cl,hub5,hql,hqr,hqd,-,-,-⟩:=hu5
 have lub5:=w5 _ _ hub5
 obtain ⟨tL,tR⟩:=tc hd0 hd h1 h2
 have hT:=Lin.gens_told (fun a ha=>(h1 a ha).1) (fun a ha=>(h2 a ha).1)
 obtain ⟨L,hL⟩:∃ L,L=Lin.gensL d E I:=⟨_,rfl⟩
 have hLf:Lin.formF (Lin.gensU d E I).lines=L:=by rw [hL]; rfl
 have hLL:Lin.formF L=L:=by rw [<- hLf]; exact wM (fun r hr=>(mk.lines r hr).1)
 have hLlen:L.length<=d:=by rw [hL]; exact mN hT.form
 have hLm:∀ r∈L,r.length=d/\∀ z∈r,Bt f z:=fun r hr=>by
  rw [hL] at hr
  exact ⟨(tL r hr).1,fun z hz=>by rw [hf]; exact mo (tL r hr).2 z hz⟩
 refine gf (fun T' H'=>∃ q6,af T' 6=q6/\Kp H5 H'/\RowsV H' q6 L) rfl ?_ ?_
 ·refine zW (aE hl5 y10 hub5) ?_
  refine AnsH.use (rows_Echelon C (d:=d) (e:=f) zF (hql.sl.mono (Sub.bump H5 _)) (by omega) hd0 (by omega) (fun r hr=>(mk.lines r hr).1) (fun r hr=>(mk.lines r hr).2) (by omega)) ?_
  rintro v H6 ⟨q6,rfl,hr6,hk6⟩
  have k6:Kp H5 H6:=Kp.trans (Kp.up (Kp.refl w5) _) hk6
  have le_k6:=k6.le
  rw [hLf] at hr6
  refine zW (az hl5 @bw) ?_
  exact ⟨q6,rfl,k6,hr6⟩
 rintro T6 H6 hs6 ⟨q6,z6,k56,hr6⟩
 have w6:=k56.wf
 have le6:=k56.le
 have z7:af T6 7=.nilSl:=(hs6.at_ 7 (by decide)).trans y7
 have z10:af T6 10=.ptr ub 0:=(hs6.at_ 10 (by decide)).trans y10
 have hl6:T6.length=100:=hs6.len.trans hl5
 have hub6:=k56.get hub5
 have hqr6:RowsV H6 qr (Lin.gensU d E I).rays:=hqr.sl.mono k56.sub
 obtain ⟨R,hR⟩:∃ R,R=(Lin.gensU d E I).rays:=⟨_,rfl⟩
 have hRm:∀ r∈R,r.length=d/\∀ z∈r,Bt f z:=fun r hr=>mk.rays r (by rw [<- hR]; exact hr)
 have hRl:R.length<=1048576:=by rw [hR]; omega
 rw [<- hR] at hqr6
 refine gf (fun T' H'=>∃ o,af T' 7=o/\Kp H6 H'/\Bl rowsE ae H6 H' o (R.map (Lin.restF L))) rfl ?_ ?_
 ·refine zW (aT hl6 z10 hub6 hqr6.lenV) ?_
  refine am H6 [7] (fun j vs H'=>∃ o,vs=[o]/\Bl rowsE ae H6 H' o ((R.take j).map (Lin.restF L))) (a:=0) (N:=R.length) rfl (by refine zW hl6 ?_; rfl) (zV hl6) (Nat.zero_le _) (by omega) (by simp only [List.length_set,hl6]; rfl) rfl (fun j vs H' m ⟨o,q1,q2⟩=>⟨o,q1,q2.mono (Sub.bump H' m)⟩) (Kp.up (Kp.refl w6) _) ⟨.nilSl,by exact zV (az hl6 z7),Bl.nil⟩ ?_ ?_
  ·rintro j T7 H7 _ hj hl7 hi7 hs7 hk7 ⟨o,hv,ho⟩
   have w7:=hk7.wf
   have le_hk7:=hk7.le
   have le7:=hk7.le
   simp only [List.map_cons,List.map_nil,List.cons.injEq,and_true] at hv
   have t79:af T7 79=qr:=(hs7.at_ 79 (by decide)).trans (zV hl6)
   have t6:af T7 6=q6:=(hs7.at_ 6 (by decide)).trans (zV (az hl6 z6))
   obtain ⟨w,hr,hld⟩:=cM (hqr6.mono hk7.sub) hj
   have hix:=SlV.idx1 hqr6 .i64 j hj
   have hRj:=hRm _ (List.getElem_mem hj)
   simp only [List.length_set,hl6] at hl7
   refine zW (ij hl7 t79 t6 hi7 hix hld) ?_
   refine AnsH.use (rows_Reduce C (d:=d) (e:=f) zF (hr.mono (Sub.bump H7 _)) ((hr6.mono hk7.sub).mono (Sub.bump H7 _)) (by omega) hd0 (by omega) hRj.1 (fun r hr=>(hLm r hr).1) hRj.2 (fun r hr=>(hLm r hr).2) (by omega)) ?_
   rintro v H8 ⟨q,rfl,hrq,hk8⟩
   have k78:Kp H7 H8:=Kp.trans (Kp.up (Kp.refl w7) _) hk8
   have le_k78:=k78.le
   have k68:Kp H6 H8:=hk7.trans k78
   have le_k68:=k68.le
   have w8:=k68.wf
   rw [hLL] at hrq
   have oq:=hrq.one
   have hlen:((R.take j).map (Lin.restF L)).length<=R.length:=by simp; omega
   obtain ⟨n6,H9,e6,b6,k6,nx6,f6,u6⟩:=Bl.push1 (ty2:=ae) (bytes:=24) (id:=H8.next+3) (id2:=H8.next+2) (k:=5) (cs:=[q]) (a:=Lin.restF L R[j]) (ho.mono k78.sub) (by decide) k68 ⟨q,rfl,hrq⟩ (by omega) (by omega) (by omega) (by omega) (by omega) (by omega) (by omega)
   have e6':ft ((H8.up 5).put (H8.next+2) (.cells [q] ae true)) (H8.next+3) 1 24 ae o (.own (H8.next+2) 0 1 1 1 true)=some (.own (H8.next+3) 0 n6 n6 1 false,H9):=e6
   refine zW (aE hl7 hv e6') ?_
   refine ⟨k6,_,rfl,?_⟩
   rw [List.take_succ_eq_append_getElem hj,List.map_append]
   exact b6
  ·rintro T7 H7 hl7 hs7 hk7 ⟨o,hv,ho⟩
   simp only [List.map_cons,List.map_nil,List.cons.injEq,and_true] at hv
   rw [List.take_length] at ho
   refine zW (az hl7 @bw) ?_
   exact ⟨o,hv,hk7,ho⟩
 rintro T7 H7 hs7 ⟨o,a7,k67,bl7⟩
 have w7:=k67.wf
 have a6:af T7 6=q6:=(hs7.at_ 6 (by decide)).trans z6
 have hl7:T7.length=100:=hs7.len.trans hl6
 have hGR:(R.map (Lin.restF L)).mergeSort Lin.cmpV=Lin.gensR d E I:=by rw [hR,hL]; rfl
 have hperm:(Lin.gensR d E I).Perm (R.map (Lin.restF L)):=by rw [<- hGR]; exact List.mergeSort_perm _ _
 have hMm:∀ r∈R.map (Lin.restF L),r.length=d/\∀ z∈r,fu z:=fun r hr=>by
  have h:=tR r (hperm.mem_iff.2 hr)
  exact ⟨h.1,fun z hz=>(mo h.2 z hz).sm (by omega)⟩
 refine cr ?_
 refine zW (aE hl7 @a7 @aU) ?_
 refine AnsH.use (vY C.slices_SortFunc_Sl_api_Vec_api_Vec rfl (H0:=H6) (d:=d) (k67.up _) (bl7.mono (Sub.bump H7 _)) (fun r hr=>(hMm r hr).1) (hperm.nodup_iff.1 (Lin.told_nodup hT)) (by rw [List.length_map]; omega) fun D a b hD x hx y hy hxa hyb=>(cone_Gens_f1 C hD hxa hyb ((hMm x hx).1.trans (hMm y hy).1.symm) (by rw [(hMm x hx).1]; omega) (hMm x hx).2 (hMm y hy).2).mono fun _ _ h=>h.1) ?_
 rintro v H8 ⟨rfl,hk8,bl8⟩
 rw [hGR] at bl8
 refine zW (az hl7 @aU) ?_
 refine cr ?_
 refine zW (aT hl7 @a6 @a7 @aU) ?_
 refine WC.wb ?_
 refine zW (az hl7 hrs) ?_
 have k08:Kp H H8:=(k5.trans k56).trans hk8
 have le_k08:=k08.le
 rw [<- hL]
 exact ⟨_,_,rfl,(hr6.mono hk8.sub).mono (Sub.bump H8 _),bl8.sl.mono (Sub.bump H8 _),k08.up _⟩
end
theorem mg {α:Type} {l m:List α} (he:l.length=m.length) (h:∀ q (h:q<l.length) (h':q<m.length),l[q]=m[q]):l=m :=
 List.ext_getElem he fun q h1 h2=>h q h1 h2
def mM (many ag:Nat) (r:List (Bool × List Nat)):Bool:=decide (many<r.length) || r.any fun z=>decide (ag<z.2.length)
def cC (n many ag:Nat) (ls:List (List (Bool × List Nat))):Bool:=decide (n<ls.length) || ls.any (mM many ag)
section
variable {tab:Nat->Option au} {H:Heap} {s:AV}
theorem AT (C:Code tab) (hw:Wf H) {a b:AV} {l m:List Nat} (ha:Lb H a l) (hb:Lb H b m) (hl':l.length<4611686018427387904) :
  Ans tab (.fn dA [a,b]) H fun v H'=>v=.bool (decide (l=m))/\Kp H H':=by
 refine cz C.facetroomref01_Same (by decide) fun T hl g0 g1=>?_
 by_cases he:l.length=m.length
 ·have lb:lenV b=some (.int .i64 (l.length:Int)):=by rw [hb.lenV,he]
  refine zW (dg hl g0 g1 ha.lenV lb) ?_
  refine bX H [5] (fun k vs H'=>∃ i:Nat,vs=[.int .i64 (i:Int)]/\i+k=l.length/\∀ q (h:q<l.length) (h':q<m.length),q<i->l[q]=m[q]) l.length (by simp only [List.length_set]; exact hl) rfl zK ⟨0,by refine zW (aE hl g0 g1) ?_; rfl,by omega,fun q _ _ h=>by omega⟩ ?_
  rintro k T1 H1 hl1 hs1 hk1 ⟨i,hv,hik,hP⟩
  have w1:=hk1.wf
  have le_hk1:=hk1.le
  simp only [List.map_cons,List.map_nil,List.cons.injEq,and_true] at hv
  have t0:af T1 0=a:=(hs1.at_ 0 (by decide)).trans (zV (az hl g0))
  have t1:af T1 1=b:=(hs1.at_ 1 (by decide)).trans (zV (aT hl g0 g1 g1))
  by_cases hi:i<l.length
  ·have hii:(i:Int)<(l.length:Int):=by omega
   have hi':i<m.length:=by omega
   obtain ⟨w,hr,hld⟩:=SlV.at1 (ha.mono hk1.sub) (List.getElem?_eq_getElem hi)
   obtain ⟨w',hr',hld'⟩:=SlV.at1 (hb.mono hk1.sub) (List.getElem?_eq_getElem hi')
   have hr:w=.int .u64 ((l[i]:Nat):Int):=hr
   have hr':w'=.int .u64 ((m[i]:Nat):Int):=hr'
   subst hr; subst hr'
   have hix:=SlV.idx1 ha .i64 i hi
   have hix':=SlV.idx1 hb .i64 i hi'
   have e:IntKind.i64.wrap ((i:Int)+1)=((i+1:Nat):Int):=by rw [wrap_i64] <;> omega
   refine zW (lG hl1 hv t0 t1 ha.lenV hii hi) ?_
   refine aS ?_
   by_cases hq:l[i]=m[i]
   ·have hq':((l[i]:Nat):Int)=((m[i]:Nat):Int):=by omega
    refine zD (pB hl1 hv t0 t1 hix hld hix' hld' hq' e) ?_
    refine ⟨zK,k-1,by omega,i+1,rfl,by omega,fun q h h' hqi=>?_⟩
    by_cases eq:q=i
    ·subst eq; exact hq
    ·exact hP q h h' (by omega)
   ·have hq':¬ ((l[i]:Nat):Int)=((m[i]:Nat):Int):=by omega
    refine zD (qW hl1 hv t0 t1 hix hld hix' hld' hq' hq e) ?_
    refine ⟨?_,zK⟩
    rw [decide_eq_false]
    intro e; subst e; exact hq rfl
  ·have hii:¬ (i:Int)<(l.length:Int):=by omega
   refine zW (lG hl1 hv t0 t1 ha.lenV hii hi) ?_
   refine ⟨?_,zK⟩
   rw [decide_eq_true (mg he fun q h h'=>hP q h h' (by omega))]
 ·have he':¬ (l.length:Int)=(m.length:Int):=by omega
  refine zW (lG hl g0 g1 ha.lenV hb.lenV he' he) ?_
  refine ⟨?_,zK⟩
  rw [decide_eq_false]
  intro e; subst e; exact he rfl
theorem wE {x y:Nat} (h:ag x=ag y):x=y:=by
 have:=congrArg val h
 rwa [bC,bC] at this
theorem AS (C:Code tab) (hw:Wf H) {a b:AV} {x y:Int} (ha:IntV H a x) (hb:IntV H b y) (hx:fu x) :
  Ans tab (.fn dz [a,b]) H fun v H'=>v=.bool (decide (x=y))/\Kp H H':=by
 obtain ⟨p,rfl,hp⟩:=ha
 obtain ⟨q,rfl,hq⟩:=hb
 have op:=hp.one
 have oq:=hq.one
 unfold fu Sm at hx
 refine cz C.facetroomref05_Same (by decide) fun T hl g0 g1=>?_
 by_cases h:decide (x<0)=decide (y<0)
 ·have h':(decide (x<0) == decide (y<0))=true:=by rw [h]; simp
  refine zW (aT hl g0 g1 h') ?_
  refine AnsH.eq (AT C zF (hp.mono (Kp.sub (H:=H) zK)) (hq.mono (Kp.sub (H:=H) zK)) (by omega)) fun H2 hk2=>?_
  obtain ⟨k2,_,_⟩:=zT H zK hk2
  refine zW (aE hl g0 g1) ?_
  refine ⟨?_,zK⟩
  by_cases e:x=y
  ·rw [decide_eq_true e,decide_eq_true (by rw [e])]
  ·rw [decide_eq_false e,decide_eq_false]
   intro h2
   have:=wE h2
   have h3:(x<0) ↔ (y<0):=by simpa using h
   omega
 ·have h':(decide (x<0) == decide (y<0))=false:=by simpa using h
  refine zW (aT hl g0 g1 h') ?_
  refine ⟨?_,zK⟩
  rw [decide_eq_false]
  intro e; subst e; exact h rfl
theorem AR (C:Code tab) (hw:Wf H) {a b:AV} {l m:List Int} (ha:RowV H a l) (hb:RowV H b m) (hl':l.length<1099511627776) (hz:∀ z∈l,fu z) :
  Ans tab (.fn dy [a,b]) H fun v H'=>v=.bool (decide (l=m))/\Kp H H':=by
 refine cz C.facetroomref07_Same (by decide) fun T hl g0 g1=>?_
 by_cases he:l.length=m.length
 ·have lb:lenV b=some (.int .i64 (l.length:Int)):=by rw [hb.lenV,he]
  refine zW (dg hl g0 g1 ha.lenV lb) ?_
  refine bX H [5] (fun k vs H'=>∃ i:Nat,vs=[.int .i64 (i:Int)]/\i+k=l.length/\∀ q (h:q<l.length) (h':q<m.length),q<i->l[q]=m[q]) l.length (by simp only [List.length_set]; exact hl) rfl zK ⟨0,by refine zW (aE hl g0 g1) ?_; rfl,by omega,fun q _ _ h=>by omega⟩ ?_
  rintro k T1 H1 hl1 hs1 hk1 ⟨i,hv,hik,hP⟩
  have w1:=hk1.wf
  have le_hk1:=hk1.le
  simp only [List.map_cons,List.map_nil,List.cons.injEq,and_true] at hv
  have t0:af T1 0=a:=(hs1.at_ 0 (by decide)).trans (zV (az hl g0))
  have t1:af T1 1=b:=(hs1.at_ 1 (by decide)).trans (zV (aT hl g0 g1 g1))
  by_cases hi:i<l.length
  ·have hii:(i:Int)<(l.length:Int):=by omega
   have hi':i<m.length:=by omega
   obtain ⟨w,hn,L,hix⟩:=jK w1 (ha.mono hk1.sub) hi
   obtain ⟨w',hn',L',hix'⟩:=jK w1 (hb.mono hk1.sub) hi'
   have hld:=L.ld
   have hld':=L'.ld
   have e:IntKind.i64.wrap ((i:Int)+1)=((i+1:Nat):Int):=by rw [wrap_i64] <;> omega
   refine zW (lG hl1 hv t0 t1 ha.lenV hii hi) ?_
   refine aS ?_
   refine zD (lK hl1 hv t0 t1 hix hld hix' hld') ?_
   refine AnsH.eq (AS C zF ⟨w,rfl,hn.mono (Kp.sub (H:=H1) zK)⟩ ⟨w',rfl,hn'.mono (Kp.sub (H:=H1) zK)⟩ (hz _ (List.getElem_mem hi))) fun H2 hk2=>?_
   obtain ⟨k12,_,_⟩:=zT H1 zK hk2
   have k2:Kp H H2:=Kp.trans hk1 k12
   have le_k2:=k2.le
   cases hq:decide (l[i]=m[i]) with
   | true =>
    have hq:=of_decide_eq_true hq
    refine zD (nt hl1 hv t0 t1 hix hld hix' hld' e) ?_
    refine ⟨zK,k-1,by omega,i+1,rfl,by omega,fun q h h' hqi=>?_⟩
    by_cases eq:q=i
    ·subst eq; exact hq
    ·exact hP q h h' (by omega)
   | false =>
    have hq:=of_decide_eq_false hq
    refine zD (nt hl1 hv t0 t1 hix hld hix' hld' e) ?_
    refine ⟨?_,zK⟩
    rw [decide_eq_false]
    intro e; subst e; exact hq rfl
  ·have hii:¬ (i:Int)<(l.length:Int):=by omega
   refine zW (lG hl1 hv t0 t1 ha.lenV hii hi) ?_
   refine ⟨?_,zK⟩
   rw [decide_eq_true (mg he fun q h h'=>hP q h h' (by omega))]
 ·have he':¬ (l.length:Int)=(m.length:Int):=by omega
  refine zW (lG hl g0 g1 ha.lenV hb.lenV he' he) ?_
  refine ⟨?_,zK⟩
  rw [decide_eq_false]
  intro e; subst e; exact he rfl
theorem pE (C:Code tab) (hw:Wf H) {a b:AV} {l m:List (List Int)} (ha:RowsV H a l) (hb:RowsV H b m) (hl':l.length<1099511627776) (hz:∀ r∈l,r.length<1099511627776/\∀ z∈r,fu z) :
  Ans tab (.fn dx [a,b]) H fun v H'=>v=.bool (decide (l=m))/\Kp H H':=by
 refine cz C.facetroomref18_Same (by decide) fun T hl g0 g1=>?_
 by_cases he:l.length=m.length
 ·have lb:lenV b=some (.int .i64 (l.length:Int)):=by rw [hb.lenV,he]
  refine zW (dg hl g0 g1 ha.lenV lb) ?_
  refine bX H [5] (fun k vs H'=>∃ i:Nat,vs=[.int .i64 (i:Int)]/\i+k=l.length/\∀ q (h:q<l.length) (h':q<m.length),q<i->l[q]=m[q]) l.length (by simp only [List.length_set]; exact hl) rfl zK ⟨0,by refine zW (aE hl g0 g1) ?_; rfl,by omega,fun q _ _ h=>by omega⟩ ?_
  rintro k T1 H1 hl1 hs1 hk1 ⟨i,hv,hik,hP⟩
  have w1:=hk1.wf
  have le_hk1:=hk1.le
  simp only [List.map_cons,List.map_nil,List.cons.injEq,and_true] at hv
  have t0:af T1 0=a:=(hs1.at_ 0 (by decide)).trans (zV (az hl g0))
  have t1:af T1 1=b:=(hs1.at_ 1 (by decide)).trans (zV (aT hl g0 g1 g1))
  by_cases hi:i<l.length
  ·have hii:(i:Int)<(l.length:Int):=by omega
   have hi':i<m.length:=by omega
   obtain ⟨w,hr,hld⟩:=cM (ha.mono hk1.sub) hi
   obtain ⟨w',hr',hld'⟩:=cM (hb.mono hk1.sub) hi'
   have hix:=SlV.idx1 ha .i64 i hi
   have hix':=SlV.idx1 hb .i64 i hi'
   have hzi:=hz _ (List.getElem_mem hi)
   have e:IntKind.i64.wrap ((i:Int)+1)=((i+1:Nat):Int):=by rw [wrap_i64] <;> omega
   refine zW (lG hl1 hv t0 t1 ha.lenV hii hi) ?_
   refine aS ?_
   refine zD (lK hl1 hv t0 t1 hix hld hix' hld') ?_
   refine AnsH.eq (AR C zF (hr.mono (Kp.sub (H:=H1) zK)) (hr'.mono (Kp.sub (H:=H1) zK)) hzi.1 hzi.2) fun H2 hk2=>?_
   obtain ⟨k12,_,_⟩:=zT H1 zK hk2
   have k2:Kp H H2:=Kp.trans hk1 k12
   have le_k2:=k2.le
   cases hq:decide (l[i]=m[i]) with
   | true =>
    have hq:=of_decide_eq_true hq
    refine zD (nt hl1 hv t0 t1 hix hld hix' hld' e) ?_
    refine ⟨zK,k-1,by omega,i+1,rfl,by omega,fun q h h' hqi=>?_⟩
    by_cases eq:q=i
    ·subst eq; exact hq
    ·exact hP q h h' (by omega)
   | false =>
    have hq:=of_decide_eq_false hq
    refine zD (nt hl1 hv t0 t1 hix hld hix' hld' e) ?_
    refine ⟨?_,zK⟩
    rw [decide_eq_false]
    intro e; subst e; exact hq rfl
  ·have hii:¬ (i:Int)<(l.length:Int):=by omega
   refine zW (lG hl1 hv t0 t1 ha.lenV hii hi) ?_
   refine ⟨?_,zK⟩
   rw [decide_eq_true (mg he fun q h h'=>hP q h h' (by omega))]
 ·have he':¬ (l.length:Int)=(m.length:Int):=by omega
  refine zW (lG hl g0 g1 ha.lenV hb.lenV he' he) ?_
  refine ⟨?_,zK⟩
  rw [decide_eq_false]
  intro e; subst e; exact he rfl
theorem y4 (C:Code tab) (hw:Wf H) {a:AV} {r:List (Bool × List Nat)} {many lim:Nat} (ha:SlV rawE aa H a r) (hm:many<4611686018427387904) :
  Ans tab (.fn cS [a,.int .i64 (many:Int),.int .i64 (lim:Int)]) H fun v H'=>v=.bool (mM many lim r)/\Kp H H':=by
 refine kL C.facetroomref07_Great (by decide) fun T hl g0 g1 g2=>?_
 by_cases he:many<r.length
 ·have he':(many:Int)<(r.length:Int):=by omega
  refine zW (ij hl g0 g1 ha.lenV he' he) ?_
  exact ⟨by unfold mM; rw [decide_eq_true he]; rfl,zK⟩
 ·have he':¬ (many:Int)<(r.length:Int):=by omega
  refine zW (lG hl g0 g1 g2 ha.lenV he' he) ?_
  refine bX H [7] (fun k vs H'=>∃ i:Nat,vs=[.int .i64 (i:Int)]/\i+k=r.length/\∀ q (h:q<r.length),q<i->¬ lim<(r[q]).2.length) r.length (by simp only [List.length_set]; exact hl) rfl zK ⟨0,by refine zW (aT hl g0 g1 g2) ?_; rfl,by omega,fun q _ h=>by omega⟩ ?_
  rintro k T1 H1 hl1 hs1 hk1 ⟨i,hv,hik,hP⟩
  have w1:=hk1.wf
  have le_hk1:=hk1.le
  simp only [List.map_cons,List.map_nil,List.cons.injEq,and_true] at hv
  have t0:af T1 0=a:=(hs1.at_ 0 (by decide)).trans (zV (az hl g0))
  have t2:af T1 2=.int .i64 (lim:Int):=(hs1.at_ 2 (by decide)).trans (zV (dg hl g0 g1 g2 g2))
  by_cases hi:i<r.length
  ·have hii:(i:Int)<(r.length:Int):=by omega
   obtain ⟨cs,⟨w,rfl,hn⟩,-,h2,-⟩:=(ha.mono hk1.sub).at (List.getElem?_eq_getElem hi)
   have hld:cj H1 none (aW a (i*2+1))=some w:=h2 1 w rfl
   have hix:fJ 2 a (.int .i64 (i:Int))=some (aW a (i*2)):=SlV.idx ha .i64 i hi
   have hfa:EG 1 (aW a (i*2))=some (aW a (i*2+1)):=ha.fa (by omega) 1 (i*2)
   have e:IntKind.i64.wrap ((i:Int)+1)=((i+1:Nat):Int):=by rw [wrap_i64] <;> omega
   by_cases hq:lim<(r[i]).2.length
   ·have hq':(lim:Int)<((r[i]).2.length:Int):=by omega
    refine zW (Hp hl1 hv t0 t2 ha.lenV hii hi hix hfa hld hn.lenV hq' hq) ?_
    refine ⟨?_,zK⟩
    unfold mM
    rw [List.any_eq_true.2 ⟨_,List.getElem_mem hi,by rw [decide_eq_true hq]⟩,Bool.or_true]
   ·have hq':¬ (lim:Int)<((r[i]).2.length:Int):=by omega
    refine zW (Ho hl1 hv t0 t2 ha.lenV hii hi hix hfa hld hn.lenV hq' hq e) ?_
    refine ⟨zK,k-1,by omega,i+1,rfl,by omega,fun q h hqi=>?_⟩
    by_cases eq:q=i
    ·subst eq; exact hq
    ·exact hP q h (by omega)
  ·have hii:¬ (i:Int)<(r.length:Int):=by omega
   refine zW (lG hl1 hv t0 t2 ha.lenV hii hi) ?_
   refine ⟨?_,zK⟩
   have e:(r.any fun z=>decide (lim<z.2.length))=false:=by
    rw [List.any_eq_false]
    intro z hz
    obtain ⟨q,hq,rfl⟩:=List.getElem_of_mem hz
    simpa using hP q hq (by omega)
   unfold mM
   rw [decide_eq_false he,Bool.false_or,e]
theorem rV (C:Code tab) (hw:Wf H) {a:AV} {ls:List (List (Bool × List Nat))} {n many lim:Nat} (ha:gK H a ls) (hn:n<4611686018427387904) (hm:many<4611686018427387904) :
  Ans tab (.fn cw [a,.int .i64 (n:Int),.int .i64 (many:Int),.int .i64 (lim:Int)]) H fun v H'=>v=.bool (cC n many lim ls)/\Kp H H':=by
 refine IK C.facetroomref18_Great (by decide) fun T hl g0 g1 g2 g3=>?_
 by_cases he:n<ls.length
 ·have he':(n:Int)<(ls.length:Int):=by omega
  refine zW (ij hl g0 g1 ha.lenV he' he) ?_
  exact ⟨by unfold cC; rw [decide_eq_true he]; rfl,zK⟩
 ·have he':¬ (n:Int)<(ls.length:Int):=by omega
  refine zW (lK hl g0 g1 g2 g3 ha.lenV he' he) ?_
  refine bX H [9] (fun k vs H'=>∃ i:Nat,vs=[.int .i64 (i:Int)]/\i+k=ls.length/\∀ q (h:q<ls.length),q<i->mM many lim ls[q]=false) ls.length (by simp only [List.length_set]; exact hl) rfl zK ⟨0,by refine zW (dg hl g0 g1 g2 g3) ?_; rfl,by omega,fun q _ h=>by omega⟩ ?_
  rintro k T1 H1 hl1 hs1 hk1 ⟨i,hv,hik,hP⟩
  have w1:=hk1.wf
  have le_hk1:=hk1.le
  simp only [List.map_cons,List.map_nil,List.cons.injEq,and_true] at hv
  have t0:af T1 0=a:=(hs1.at_ 0 (by decide)).trans (zV (az hl g0))
  have t2:af T1 2=.int .i64 (many:Int):=(hs1.at_ 2 (by decide)).trans (zV (ij hl g0 g1 g2 g3 g2))
  have t3:af T1 3=.int .i64 (lim:Int):=(hs1.at_ 3 (by decide)).trans (zV (ij hl g0 g1 g2 g3 g3))
  by_cases hi:i<ls.length
  ·have hii:(i:Int)<(ls.length:Int):=by omega
   obtain ⟨w,hr,hld⟩:=ri (ha.mono hk1.sub) hi
   have hix:=SlV.idx1 ha .i64 i hi
   have e:IntKind.i64.wrap ((i:Int)+1)=((i+1:Nat):Int):=by rw [wrap_i64] <;> omega
   refine zW (pB hl1 hv t0 t2 t3 ha.lenV hii hi hix hld) ?_
   refine AnsH.eq (y4 C zF (hr.mono (Kp.sub (H:=H1) zK)) hm) fun H2 hk2=>?_
   obtain ⟨k12,_,_⟩:=zT H1 zK hk2
   have k2:Kp H H2:=Kp.trans hk1 k12
   have le_k2:=k2.le
   cases hq:mM many lim ls[i] with
   | true =>
    refine zW hl1 ?_
    refine ⟨?_,zK⟩
    unfold cC
    rw [List.any_eq_true.2 ⟨_,List.getElem_mem hi,hq⟩,Bool.or_true]
   | false =>
    refine zW (aE hl1 hv e) ?_
    refine ⟨zK,k-1,by omega,i+1,rfl,by omega,fun q h hqi=>?_⟩
    by_cases eq:q=i
    ·subst eq; exact hq
    ·exact hP q h (by omega)
  ·have hii:¬ (i:Int)<(ls.length:Int):=by omega
   refine zW (lK hl1 hv t0 t2 t3 ha.lenV hii hi) ?_
   refine ⟨?_,zK⟩
   have e:ls.any (mM many lim)=false:=by
    rw [List.any_eq_false]
    intro z hz
    obtain ⟨q,hq,rfl⟩:=List.getElem_of_mem hz
    rw [hP q hq (by omega)]; simp
   unfold cC
   rw [decide_eq_false he,Bool.false_or,e]
theorem y3 (C:Code tab) (hw:Wf H) {a b:AV} {A B:List (List (Bool × List Nat))} (ha:gK H a A) (hb:gK H b B) :
  Ans tab (.fn cR [a,b]) H fun v H'=>v=.bool (cC 4 5 1 A || cC 7 5 1 B)/\Kp H H':=by
 refine cz C.facetroomref20_Great (by decide) fun T hl g0 g1=>?_
 refine zW (aE hl g0 g1) ?_
 refine AnsH.eq (rV C (n:=4) (many:=5) (lim:=1) zF (ha.mono (Kp.sub (H:=H) zK)) (by omega) (by omega)) fun H2 hk2=>?_
 obtain ⟨k2,_,w2⟩:=zT H zK hk2
 cases h:cC 4 5 1 A with
 | true =>
  refine zW (aE hl g0 g1) ?_
  exact ⟨by simp,zK⟩
 | false =>
  refine zW (aE hl g0 g1) ?_
  refine AnsH.eq (rV C (n:=7) (many:=5) (lim:=1) zF (hb.mono (Kp.sub (H:=H) zK)) (by omega) (by omega)) fun H3 hk3=>?_
  obtain ⟨k3,_,_⟩:=zT H zK hk3
  refine zW (aE hl g0 g1) ?_
  exact ⟨by simp,zK⟩
theorem vec_Of (C:Code tab) (hw:Wf H) {l:List Int} {ty:Nat} (hs:vJ (DN .i64) ty H s l) (h64:l.length<=64) (hz:∀ z∈l,-9223372036854775808<=z/\z<9223372036854775808) :
  Ans tab (.fn nK [s]) H fun v H'=>RowV H' v l/\Kp H H':=by
 refine dU C.vec_Of (by decide) fun T hl g0=>?_
 obtain ⟨cells,hcells⟩:∃ cells,cells=(List.replicate l.length [AV.bool false,AV.nilSl]).flatten:=⟨_,rfl⟩
 have hmk:∀ H':Heap,EE H' (H.next+3) aa 2 32 [.bool false,.nilSl] (.int .i64 (l.length:Int)) (.int .i64 (l.length:Int))=some (.own (H.next+3) 0 l.length l.length 2 true,H'.put (H.next+3) (.cells cells aa true)):=fun H'=>by rw [hcells]; exact jI _ _ _ _ _ _ _ _ _ (by omega) (by omega) rfl
 refine zW (aT hl g0 hs.lenV hmk) ?_
 have hz0:intE.R H [.bool false,.nilSl] 0:=⟨.nilSl,by simp,gC H⟩
 have hcl0:Cells intE H cells (List.replicate l.length 0):=by rw [hcells]; exact rh hz0 _
 refine am H [3] (fun j vs H'=>vs=[.own (H.next+3) 0 l.length l.length 2 true]/\∃ cs,H'.get (H.next+3)=some (.cells cs aa true)/\Cells intE H' cs (l.take j++List.replicate (l.length-j) 0)) (a:=0) (N:=l.length) rfl (by refine zW (az hl g0) ?_; rfl) (zV (az hl g0)) (Nat.zero_le _) (by omega) (by simp only [List.length_set,hl]; rfl) rfl (fun j vs H' m ⟨h0,cs,h1,h2⟩=>⟨h0,cs,h1,Cells.mono (E:=intE) ((Sub.bump H' m).t _) h2⟩) zK ⟨by exact zV (az hl g0),cells,by exact dZ,by
  have e:List.take 0 l++List.replicate (l.length-0) 0=List.replicate l.length 0:=by simp
  rw [e]
  exact Cells.mono (E:=intE) zS hcl0⟩ ?_ ?_
 ·rintro j T1 H1 _ hj hl1 hi1 hs1 hk1 ⟨hv,cs,hb1,hc1⟩
  have w1:=hk1.wf
  have le_hk1:=hk1.le
  have le1:=hk1.le
  simp only [List.map_cons,List.map_nil,List.cons.injEq,and_true] at hv
  have t9:af T1 9=s:=(hs1.at_ 9 (by decide)).trans (zV (az hl g0))
  obtain ⟨w,hr,hld⟩:=SlV.at1 (hs.mono hk1.sub) (List.getElem?_eq_getElem hj)
  have hr:w=.int .i64 l[j]:=hr
  subst hr
  have hix:=SlV.idx1 hs .i64 j hj
  have hzj:=hz _ (List.getElem_mem hj)
  simp only [List.length_set,hl] at hl1
  refine zW (ij hl1 t9 hi1 hix hld hv) ?_
  refine AnsH.use (whole_Of C zF hzj.1 hzj.2) ?_
  rintro v H2 ⟨⟨w,rfl,hn⟩,hk2⟩
  obtain ⟨k2,_,w2⟩:=zT H1 zK hk2
  have ow:=hn.one
  have hb2:=k2.get hb1
  have lt2:=w2 _ _ hb2
  have hclen:cs.length=l.length*2:=by
   have:=hc1.1
   rw [List.length_append,List.length_take,List.length_replicate] at this
   have e:intE.sz=2:=rfl
   rw [e] at this
   rw [this]; congr 1; omega
  have hst:BZ (some (.cells cs aa true)) 2 (0+j*2) (.agg [.bool (decide (l[j]<0)),w])=some (.cells (cs.take (0+j*2)++[.bool (decide (l[j]<0)),w]++cs.drop (0+j*2+2)) aa true):=lT (Gy (aX _) ow) (by omega)
  have hio:fJ 2 (.own (H.next+3) 0 l.length l.length 2 true) (.int .i64 (j:Int))=some (.ptr (H.next+3) (0+j*2)):=oM hj
  rw [Nat.zero_add] at hst hio
  have hcl2:Cells intE H2 (cs.take (j*2)++[.bool (decide (l[j]<0)),w]++cs.drop (j*2+2)) ((l.take j++List.replicate (l.length-j) 0).set j l[j]):=(Cells.mono (E:=intE) (k2.sub.t _) hc1).set (i:=j) (by simp; omega) ⟨w,rfl,hn⟩
  have elist:(l.take j++List.replicate (l.length-j) 0).set j l[j]=l.take (j+1)++List.replicate (l.length-(j+1)) 0:=by
   have e1:l.length-j=(l.length-(j+1))+1:=by omega
   have e2:j-(List.take j l).length=0:=by simp; omega
   rw [e1,List.replicate_succ,List.set_append,if_neg (by simp; omega),e2,List.set_cons_zero,List.take_succ_eq_append_getElem hj,List.append_assoc]
   rfl
  rw [elist] at hcl2
  have m3:NoTy [ad] H2 (H.next+3):=NoTy.ty hb2 (by decide)
  refine zW (dg hl1 hv hio hb2 hst) ?_
  have kH2:Kp H H2:=hk1.trans k2
  exact ⟨zK,_,rfl,Cells.mono (E:=intE) zS hcl2⟩
 ·rintro T1 H1 hl1 hs1 hk1 ⟨hv,cs,hb1,hc1⟩
  have w1:=hk1.wf
  have le_hk1:=hk1.le
  simp only [List.map_cons,List.map_nil,List.cons.injEq,and_true] at hv
  simp only [List.length_set,hl] at hl1
  refine zW (az hl1 hv) ?_
  refine ⟨?_,zK⟩
  have e:List.take l.length l++List.replicate (l.length-l.length) 0=l:=by simp
  rw [e] at hc1
  have:Own intE aa H H1 (H.next+3) true (.own (H.next+3) 0 l.length l.length 2 true) l:=⟨cs,rfl,hb1,hc1,by omega⟩
  exact this.sl.mono (Sub.bump H1 _)
end
theorem rZ {β:Type} {P:Nat->β->Prop}:∀ n,(∀ i,i<n->∃ y,P i y)->∃ l:List β,l.length=n/\∀ i (h:i<l.length),P i l[i]
 | 0,_=>⟨[],rfl,fun i h=>by simp at h⟩
 | n+1,h=>by
  obtain ⟨l,h1,h2⟩:=rZ n fun i hi=>h i (by omega)
  obtain ⟨y,hy⟩:=h n (by omega)
  refine ⟨l++[y],by simp [h1],fun i hi=>?_⟩
  by_cases hin:i<l.length
  ·rw [List.getElem_append_left hin]; exact h2 i hin
  ·have:i=n:=by rw [List.length_append] at hi; simp at hi; omega
   subst this
   rw [List.getElem_append_right (by omega)]
   simpa [h1] using hy
theorem Cr {β:Type} {sz:Nat} {f:β->List AV}:∀ (l:List β),(∀ y∈l,(f y).length=sz)->(l.flatMap f).length=l.length*sz/\∀ i (h:i<l.length) k,k<sz->(l.flatMap f)[i*sz+k]? = (f l[i])[k]?
 | [],_=>⟨by simp,fun i h=>by simp at h⟩
 | y :: l,h=>by
  obtain ⟨h1,h2⟩:=Cr l fun z hz=>h z (List.mem_cons_of_mem _ hz)
  have hy:=h y (List.mem_cons_self ..)
  refine ⟨by rw [List.flatMap_cons,List.length_append,h1,hy,List.length_cons,Nat.succ_mul]; omega,fun i hi k hk=>?_⟩
  rw [List.flatMap_cons]
  cases i with
  | zero=>rw [List.getElem?_append_left (by omega)]; simp
  | succ i =>
   rw [List.getElem?_append_right (by rw [Nat.succ_mul]; omega),hy]
   have e:(i+1)*sz+k-sz=i*sz+k:=by rw [Nat.succ_mul]; omega
   rw [e,h2 i (by simpa using hi) k hk]
   simp
section
variable {HT:Type} {enc:TypeId × Value->HT} {P:Program} {w:World} {base:Nat} {sp:Nat->Bool} {held:Bool} {μ:Mu} {F:Nat->Prop} {H:Heap} {α:Type}
theorem xz {E:gL α} {ty:Nat} {good:α->Prop} {t e:TypeId} (hF:∀ c,c<w.heap.size->F c) (ht:P.underlying t=some (.slice e)) (hsz:P.cellsOf e=E.sz)
  (helem:∀ fuel cs x,DataW.trod enc P w base sp held fuel e cs=some x->∃ acs z,LR μ F w acs cs/\E.R H acs z/\good z)
  {fuel:Nat} {cs:List Value} {x:DataW HT × List MemPlace} (h:DataW.trod enc P w base sp held fuel t cs=some x) :
  ∃ v av zs,cs=[v]/\VR μ F w av v/\SlV E ty H av zs/\(∀ z∈zs,good z)/\zs.length<=maxLen:=by
 rcases DataW.trod_slice ht h with ⟨rfl,-⟩ | ⟨a,len,cap,elems,rest,n,-,rfl,-,hb,hl,hc,hlen,hel,-⟩
 ·exact ⟨_,.nilSl,[],rfl,.nilSl,SlV.nil _ _ _,(fun z h=>by cases h),Nat.zero_le _⟩
 ·rcases Nat.eq_zero_or_pos len with h0 | h0
  ·subst h0
   refine ⟨_,.sl [] 0,[],rfl,.sl0 a cap,⟨[],⟨trivial,(fun s h=>by cases h),0,rfl,by simp [aH]⟩,(fun _ _ _ _ _ _ e=>by cases e),by simp,fun i a h=>by simp at h⟩,fun z h=>(by cases h),Nat.zero_le _⟩
  ·have hp:=E.pos
   obtain ⟨L,hL1,hL2⟩:=rZ (P:=fun i (y:List AV × List Value × α)=>w.cells? base (a.add (i*E.sz)) E.sz=some y.2.1/\LR μ F w y.1 y.2.1/\E.R H y.1 y.2.2/\good y.2.2) len fun i hi=>by
    have h1:=hel i hi
    rw [List.getElem?_eq_getElem (by omega),hsz] at h1
    obtain ⟨cs,h2,h3⟩:=Option.bind_eq_some_iff.1 h1
    obtain ⟨acs,z,h4,h5,h6⟩:=helem _ _ _ h3
    exact ⟨(acs,cs,z),h2,h4,h5,h6⟩
   have hsizes:∀ y∈L,y.1.length=E.sz:=fun y hy=>by
    obtain ⟨i,hi,rfl⟩:=List.getElem_of_mem hy
    exact (E.len (hL2 i hi).2.2.1).1
   obtain ⟨hfl,hfa⟩:=Cr (f:=fun y:List AV × List Value × α=>y.1) L hsizes
   have hcell:∀ i (hi:i<L.length) k,k<E.sz->w.cell? (a.add (i*E.sz) |>.add k)=(L[i]).2.1[k]?:=fun i hi k hk=>((World.cells?_some (hL2 i hi).1).2.2 k hk)
   obtain ⟨v0,hv0⟩:∃ v0,w.cell? a=some v0:=by
    have h1:=hcell 0 (by omega) 0 hp
    have h2:=(World.cells?_some (hL2 0 (by omega)).1).2.1
    rw [List.getElem?_eq_getElem (by omega)] at h1
    simp [Addr.add] at h1
    exact ⟨_,h1⟩
   obtain ⟨arr,ety,fr,hblk,hspot⟩:∃ arr ety fr,w.heap[a.block]? = some (.cells arr ety fr)/\a.spot=none:=by
    unfold World.cell? at hv0
    split at hv0
    ·rename_i c ety fr hb
     refine ⟨c,ety,fr,hb,?_⟩
     cases hs:a.spot with
     | none=>rfl
     | some s=>rw [hs] at hv0; simp at hv0
    ·cases hv0
   obtain ⟨blk,off,spot⟩:=a
   simp only at hspot hblk hb
   subst hspot
   have hat:∀ i (hi:i<L.length) k,k<E.sz->arr[off+(i*E.sz+k)]? = (L[i]).2.1[k]?:=fun i hi k hk=>by
    rw [<- hcell i hi k hk]
    have e:((⟨blk,off,none⟩:Addr).add (i*E.sz) |>.add k)=⟨blk,off+(i*E.sz+k),none⟩:=by
     unfold Addr.add
     by_cases h1:i*E.sz=0
     ·by_cases h2:k=0
      ·simp [h1,h2]
      ·simp [h1,h2]
     ·by_cases h2:k=0
      ·simp [h1,h2]
      ·simp [h1,h2]; omega
    rw [e]
    simp [World.cell?,hblk]
   have hvl:∀ i (hi:i<L.length),(L[i]).2.1.length=E.sz:=fun i hi=>(World.cells?_some (hL2 i hi).1).2.1
   have hsize:off+(L.flatMap fun y=>y.1).length<=arr.size:=by
    have h1:=hat (len-1) (by omega) (E.sz-1) (by omega)
    rw [List.getElem?_eq_getElem (by have:=hvl (len-1) (by omega); omega)] at h1
    have h2:=(Array.getElem?_eq_some_iff.1 h1).1
    rw [hfl,hL1]
    have h3:len*E.sz=(len-1)*E.sz+E.sz:=by
     obtain ⟨m,rfl⟩:∃ m,len=m+1:=⟨len-1,by omega⟩
     rw [Nat.succ_mul,Nat.add_sub_cancel]
    omega
   refine ⟨_,.sl (L.flatMap fun y=>y.1) len,L.map fun y=>y.2.2,rfl,.sl _ _ _ blk off arr ety fr (hF _ (Array.getElem?_eq_some_iff.1 hblk).1) hblk hl hsize fun j c v hc hv=>?_,⟨L.flatMap fun y=>y.1,⟨trivial,(fun s h=>by cases h),len,rfl,?_⟩,(fun _ _ _ _ _ _ e=>by cases e),?_,fun i z hz=>?_⟩,fun z hz=>?_,by rw [List.length_map,hL1]; omega⟩
   ·have hj:=(List.getElem?_eq_some_iff.1 hc).1
    rw [hfl] at hj
    have hi:j / E.sz<L.length:=(Nat.div_lt_iff_lt_mul hp).2 hj
    have hk:j % E.sz<E.sz:=Nat.mod_lt _ hp
    have hjk:j / E.sz*E.sz+j % E.sz=j:=Nat.div_add_mod' j E.sz
    have h1:=hfa _ hi _ hk
    have h2:=hat _ hi _ hk
    rw [hjk] at h1 h2
    rw [hc] at h1
    rw [hv] at h2
    exact (hL2 _ hi).2.1.2 _ _ _ h1.symm h2.symm
   ·simp only [aH]
    rw [if_pos ⟨Nat.le_refl _,by rw [hfl,hL1]; exact Nat.le_refl _⟩,List.take_of_length_le (by rw [hfl,hL1]; exact Nat.le_refl _)]
   ·rw [hfl,List.length_map]
   ·rw [List.getElem?_map,Option.map_eq_some_iff] at hz
    obtain ⟨y,hy,rfl⟩:=hz
    obtain ⟨hi,rfl⟩:=List.getElem?_eq_some_iff.1 hy
    have e:(((L.flatMap fun y=>y.1).drop (i*E.sz)).take E.sz)=L[i].1:=by
     apply List.ext_getElem?
     intro k
     rw [List.getElem?_take]
     have hl1:=hsizes _ (List.getElem_mem hi)
     split
     ·rename_i hk
      rw [List.getElem?_drop]; exact hfa i hi k hk
     ·exact (List.getElem?_eq_none (by omega)).symm
    rw [e]
    exact (hL2 i hi).2.2.1
   ·obtain ⟨y,hy,rfl⟩:=List.mem_map.1 hz
    obtain ⟨i,hi,rfl⟩:=List.getElem_of_mem hy
    exact (hL2 i hi).2.2.2
theorem C8 {t:TypeId} (ht:P.underlying t=some (.int .u64)) {fuel:Nat} {cs:List Value} {x:DataW HT × List MemPlace} (h:DataW.trod enc P w base sp held fuel t cs=some x) :
  ∃ acs z,LR μ F w acs cs/\(bB bV).R H acs z/\z<18446744073709551616:=by
 obtain ⟨n,rfl,-,hw⟩:=DataW.trod_int ht h
 have hr:0<=n/\n<18446744073709551616:=by
  have h1:IntKind.u64.min=0:=by decide
  have h2:IntKind.u64.max=18446744073709551615:=by decide
  unfold Lit.wf at hw
  simp [h1,h2] at hw
  omega
 refine ⟨[.int .u64 n],n.toNat,LR.cons (.int _ _) LR.nil,⟨_,rfl,?_⟩,by omega⟩
 show AV.int .u64 n=.int .u64 (n.toNat:Int)
 rw [Int.toNat_of_nonneg hr.1]
theorem Fx {t e:TypeId} (hF:∀ c,c<w.heap.size->F c) (ht:P.underlying t=some (.slice e)) (he:P.underlying e=some (.int .u64)) (hsz:P.cellsOf e=1) {fuel:Nat} {cs:List Value} {x:DataW HT × List MemPlace} (h:DataW.trod enc P w base sp held fuel t cs=some x) :
  ∃ v av zs,cs=[v]/\VR μ F w av v/\SlV (bB bV) ad H av zs/\(∀ z∈zs,z<18446744073709551616)/\zs.length<=maxLen :=
 xz (E:=bB bV) hF ht hsz (fun fuel cs x h=>C8 he h) h
def yf (z:Bool × List Nat):Prop:=(∀ x∈z.2,x<18446744073709551616)/\z.2.length<=maxLen
theorem Fw {t e:TypeId} {fs:Array Field} {f0 f1:Field} (hF:∀ c,c<w.heap.size->F c) (ht:P.underlying t=some (.struct fs)) (hfs:fs = #[f0,f1]) (h0:f0.offset=0) (h1:f1.offset=1) (hc:P.cellsOf t=2) (hb:P.underlying f0.type=some .bool) (hcb:P.cellsOf f0.type=1) (hn:P.underlying f1.type=some (.slice e)) (hcn:P.cellsOf f1.type=1) (he:P.underlying e=some (.int .u64)) (hce:P.cellsOf e=1)
  {fuel:Nat} {cs:List Value} {x:DataW HT × List MemPlace} (h:DataW.trod enc P w base sp held fuel t cs=some x) :
  ∃ acs z,LR μ F w acs cs/\rawE.R H acs z/\yf z:=by
 subst hfs
 obtain ⟨xs,n,-,-,hl,hxl,hx⟩:=DataW.trod_struct ht h
 have hxl:xs.length=2:=by simpa using hxl
 rw [hc] at hl
 match cs,hl with
 | [c0,c1],_ =>
  have e0:=hx 0 f0 rfl
  have e1:=hx 1 f1 rfl
  rw [List.getElem?_eq_getElem (by omega),h0,hcb] at e0
  rw [List.getElem?_eq_getElem (by omega),h1,hcn] at e1
  obtain ⟨b,g0,-⟩:=DataW.trod_bool hb e0
  obtain ⟨v,av,zs,g1,g2,g3,g4,g5⟩:=Fx (H:=H) (μ:=μ) hF hn he hce e1
  have q0:c0=.bool b:=by simpa using g0
  have q1:c1=v:=by simpa using g1
  clear g0 g1
  subst q0; subst q1
  exact ⟨[.bool b,av],(b,zs),LR.cons (.bool _) (LR.cons g2 LR.nil),⟨av,rfl,g3⟩,g4,g5⟩
structure RowTys (P:Program) (tvs tv ti te:TypeId):Prop where
 vs:P.underlying tvs=some (.slice tv)
 cv:P.cellsOf tv=1
 v:P.underlying tv=some (.slice ti)
 ci:P.cellsOf ti=2
 i:∃ f0 f1:Field,P.underlying ti=some (.struct #[f0,f1])/\f0.offset=0/\f1.offset=1/\P.underlying f0.type=some .bool/\P.cellsOf f0.type=1/\P.underlying f1.type=some (.slice te)/\P.cellsOf f1.type=1
 e:P.underlying te=some (.int .u64)
 ce:P.cellsOf te=1
abbrev M5 (H:Heap) (v:AV) (l:List (Bool × List Nat)):Prop:=SlV rawE aa H v l
def gZ (l:List (Bool × List Nat)):Prop:=(∀ z∈l,yf z)/\l.length<=maxLen
theorem Fv {tvs tv ti te:TypeId} (hP:RowTys P tvs tv ti te) (hF:∀ c,c<w.heap.size->F c) {fuel:Nat} {cs:List Value} {x:DataW HT × List MemPlace} (h:DataW.trod enc P w base sp held fuel tv cs=some x) :
  ∃ v av l,cs=[v]/\VR μ F w av v/\M5 H av l/\gZ l:=by
 obtain ⟨f0,f1,i1,i2,i3,i4,i5,i6,i7⟩:=hP.i
 obtain ⟨v,av,l,g1,g2,g3,g4,g5⟩:=xz (E:=rawE) (ty:=aa) (H:=H) (μ:=μ) (good:=yf) hF hP.v hP.ci (fun fuel cs x h=>Fw hF i1 rfl i2 i3 hP.ci i4 i5 i6 i7 hP.e hP.ce h) h
 exact ⟨v,av,l,g1,g2,g3,g4,g5⟩
theorem C7 {tvs tv ti te:TypeId} (hP:RowTys P tvs tv ti te) (hF:∀ c,c<w.heap.size->F c) {fuel:Nat} {cs:List Value} {x:DataW HT × List MemPlace} (h:DataW.trod enc P w base sp held fuel tvs cs=some x) :
  ∃ v av l,cs=[v]/\VR μ F w av v/\gK H av l/\(∀ r∈l,gZ r)/\l.length<=maxLen :=
 xz (E:=bB (oY rawE aa)) (ty:=ae) (good:=gZ) hF hP.vs hP.cv (fun fuel cs x h=>by
  obtain ⟨v,av,l,rfl,g2,g3,g4⟩:=Fv (H:=H) (μ:=μ) hP hF h
  exact ⟨[av],l,LR.cons g2 LR.nil,⟨av,rfl,g3⟩,g4⟩) h
end
def iK (z:Bool × List Nat):Int:=if z.1=true then -(val z.2:Int) else (val z.2:Int)
theorem wz:∀ {z:Bool × List Nat},ol z=false->Lim z.2->kj (iK z)=z
 | (b,l),hb,hl=>by
  simp only [ol,Bool.or_eq_false_iff,decide_eq_false_iff_not,Bool.and_eq_false_iff] at hb
  obtain ⟨h1,h2⟩:=hb
  have hn:EJ l:=h1
  have hv:=rq hl hn
  cases b with
  | false =>
   have e:iK (false,l)=(val l:Int):=rfl
   rw [e]
   unfold kj
   rw [decide_eq_false (by omega),Int.natAbs_natCast,hv]
  | true =>
   have e:iK (true,l) = -(val l:Int):=rfl
   have hne:l≠[]:=fun e=>by subst e; simp at h2
   have hp:0<B^(l.length-1):=Nat.pow_pos (by decide)
   have hq:=td hn hne
   rw [e]
   unfold kj
   rw [decide_eq_true (by omega),Int.natAbs_neg,Int.natAbs_natCast,hv]
theorem SlV.int {ty:Nat} {H:Heap} {v:AV} {l:List (Bool × List Nat)} (h:SlV rawE ty H v l) (hb:∀ z∈l,ol z=false/\Lim z.2):SlV intE ty H v (l.map iK):=by
 obtain ⟨cells,hr,ht,hc,ha⟩:=h
 refine ⟨cells,hr,ht,by rw [hc,List.length_map]; rfl,fun i a hi=>?_⟩
 rw [List.getElem?_map,Option.map_eq_some_iff] at hi
 obtain ⟨z,hz,rfl⟩:=hi
 obtain ⟨w,h1,h2⟩:=ha i z hz
 have hm:=hb z (List.mem_of_getElem? hz)
 have e:=wz hm.1 hm.2
 have e1:decide (iK z<0)=z.1:=congrArg Prod.fst e
 have e2:ag (iK z).natAbs=z.2:=congrArg Prod.snd e
 refine ⟨w,by rw [e1]; exact h1,?_⟩
 show Lb H w (ag (iK z).natAbs)
 rw [e2]; exact h2
theorem FP {H:Heap} {v:AV} {l:List (List (Bool × List Nat))} (h:gK H v l) (hb:∀ r∈l,∀ z∈r,ol z=false/\Lim z.2):RowsV H v (l.map fun r=>r.map iK):=by
 obtain ⟨cells,hr,ht,hc,ha⟩:=h
 refine ⟨cells,hr,ht,by rw [hc,List.length_map]; rfl,fun i a hi=>?_⟩
 rw [List.getElem?_map,Option.map_eq_some_iff] at hi
 obtain ⟨z,hz,rfl⟩:=hi
 obtain ⟨w,h1,h2⟩:=ha i z hz
 exact ⟨w,h1,SlV.int h2 (hb z (List.mem_of_getElem? hz))⟩
section
open Go.ChangeShapes Go.WideShapes
variable {HT:Type} {enc:TypeId × Value->HT} {P:Program} {w:World} {base base':Nat} {sp:Nat->Bool} {held:Bool} {μ:Mu} {F:Nat->Prop} {H:Heap}
theorem open_rows {tvs tv ti te:TypeId} (hP:RowTys P tvs tv ti te) (hF:∀ c,c<w.heap.size->F c) {r:Reach} {v:Value} {d:DataW HT} {ps:List MemPlace} (hval:Value.okWide P w r base' tvs v) (hd:DataW.Trod enc P w base sp held tvs v d ps) :
  ∃ av l,VR μ F w av v/\gK H av l/\(∀ r∈l,gZ r)/\l.length<=maxLen:=by
 obtain ⟨a,n,c,rfl⟩:=okWide_slice hP.vs hval
 obtain ⟨fuel,h⟩:=hd
 obtain ⟨v',av,l,e,g⟩:=C7 (H:=H) (μ:=μ) hP hF h
 have e:v'=.slice a n c:=by simpa [Value.cells] using e.symm
 subst e
 exact ⟨av,l,g⟩
end
theorem int_range {n:Int} (h:(Lit.int .i64 n).wf=true) : -9223372036854775808<=n/\n<9223372036854775808:=by
 have h1:IntKind.i64.min = -9223372036854775808:=by decide
 have h2:IntKind.i64.max=9223372036854775807:=by decide
 unfold Lit.wf at h
 simp [h1,h2] at h
 omega
theorem wf_nil:Wf (Heap.nil 0):=fun b e h=>by rw [Tr.nil_get] at h; cases h
theorem mf {H:Heap} {b:Nat} {x y:Int} {r:Bool} (h:H.get b=some (.cells [.int .i64 x,.int .i64 y] dE r)):vJ (DN .i64) dE H (.own b 0 2 2 1 true) [x,y] :=
 ⟨[_,_],Rd.own h rfl (Nat.le_refl _),fun _ _ _ _ _ _ e=>by cases e; exact ⟨_,_,h⟩,rfl,fun i a hi=>by
  match i with
  | 0=>simp at hi; subst hi; exact ⟨_,rfl,rfl⟩
  | 1=>simp at hi; subst hi; exact ⟨_,rfl,rfl⟩
  | i+2=>simp at hi⟩
def Emp (H:Heap) (a e:Nat):Prop:=e<=H.next/\∀ c,a<=c->c<e->H.get c=none
theorem Emp.start {H:Heap} (hw:Wf H) {k:Nat}:Emp (H.up k) H.next (H.next+k):=⟨Nat.le_refl _,fun c h _=>hw.fresh h⟩
theorem Emp.next {G H2:Heap} {a e p a':Nat} {x:Ent} (hf:Emp G a e) (hk:Kp (G.put p x) H2) (hp:p<a') (ha:a<=a'):Emp H2 a' e :=
 ⟨Nat.le_trans hf.1 hk.le,fun c h1 h2=>hk.free (by rw [next_put]; exact Nat.lt_of_lt_of_le h2 hf.1) (by rw [aw (by omega)]; exact hf.2 c (by omega) h2)⟩
theorem Emp.keep {G H2:Heap} {a e:Nat} (hf:Emp G a e) (hk:Kp G H2):Emp H2 a e :=
 ⟨Nat.le_trans hf.1 hk.le,fun c h1 h2=>hk.free (Nat.lt_of_lt_of_le h2 hf.1) (hf.2 c h1 h2)⟩
theorem Emp.sub {G:Heap} {a e p:Nat} {x:Ent} (hf:Emp G a e) (h1:a<=p) (h2:p<e):Sub G (G.put p x):=ck (hf.2 p h1 h2)
section
variable {tab:Nat->Option au} {H:Heap} {s:AV}
theorem jX (C:Code tab) (hw:Wf H) {x y:Int} (hx : -9223372036854775808<=x/\x<9223372036854775808) (hy : -9223372036854775808<=y/\y<9223372036854775808) :
  Ans tab (.fn bG [.int .i64 x,.int .i64 y]) H fun v H'=>RowsV H' v [[x,y]]/\Kp H H':=by
 refine cz C.facetroomlaw20_one (by decide) fun T hl g0 g1=>?_
 refine zW (aE hl g0 g1) ?_
 refine AnsH.use (vec_Of C (l:=[x,y]) zF (mf (by refine sS ?_; rfl)) (by simp) (by simp [hx,hy])) ?_
 rintro v H2 ⟨hr,hk2⟩
 obtain ⟨k2,_,w2⟩:=zT H zK hk2
 have ov:=hr.one
 have f4:H2.get (H.next+5)=none:=hk2.free (by refine sS ?_; omega) (by refine sS ?_; exact hw.fresh (by omega))
 have lt4:H.next+7<=H2.next:=hk2.le
 refine zW (aE hl g0 g1) ?_
 refine ⟨?_,zK⟩
 exact Gj (E:=intE) (t1:=aa) hr (ck f4) (aN _ _ _)
theorem nO (C:Code tab) (hw:Wf H) {va vb vc vd:AV} {E I L R:List (List Int)} {m:Nat} (ha:RowsV H va E) (hb:RowsV H vb I) (hc:RowsV H vc L) (hd:RowsV H vd R) (he:E.length<=1024) (hi:I.length<=20) (h1:∀ a∈E,a.length=2/\Lin.Bd (2^m) a) (h2:∀ a∈I,a.length=2/\Lin.Bd (2^m) a) (hm:m<=3000) :
  Ans tab (.fn bQ [va,vb,vc,vd]) H fun v H'=>v=.bool (decide (Lin.gensL 2 E I=L) && decide (Lin.gensR 2 E I=R))/\Kp H H':=by
 obtain ⟨o1,o2⟩:=tc (d:=2) (m:=m) (by omega) (by omega) h1 h2
 refine IK C.facetroomlaw20_gives (by decide) fun T hl g0 g1 g2 g3=>?_
 refine zW (aE hl g0 g1) ?_
 refine AnsH.use (cone_Gens C (d:=2) (m:=m) zF (ha.mono (Kp.sub (H:=H) zK)) (hb.mono (Kp.sub (H:=H) zK)) (by omega) (by omega) he hi h1 h2 (by omega)) ?_
 rintro v H2 ⟨p,q,rfl,hp,hq,hk2⟩
 obtain ⟨k2,_,w2⟩:=zT H zK hk2
 refine zW (lG hl g0 g1 g2 g3 g2 g3) ?_
 refine AnsH.eq (pE C zF (hp.mono (Kp.sub (H:=H2) zK)) (hc.mono (Kp.sub (H:=H) zK)) ?_ ?_) fun H3 hk3=>?_
 ·have:=mN (Lin.gens_told (d:=2) (fun a ha=>(h1 a ha).1) (fun a ha=>(h2 a ha).1)).form
  omega
 ·exact fun r hr=>⟨by rw [(o1 r hr).1]; omega,fun z hz=>(mo (o1 r hr).2 z hz).sm (by omega)⟩
 obtain ⟨k3,_,_⟩:=zT H zK hk3
 have k23:Kp H2 H3:=Kp.trans zK hk3
 have le_k23:=k23.le
 have w3:=k3.wf
 cases hs:decide (Lin.gensL 2 E I=L) with
 | false =>
  refine zW (dg hl g0 g1 g2 g3) ?_
  exact zK
 | true =>
  refine zW (ij hl g0 g1 g2 g3 g3) ?_
  refine AnsH.eq (pE C zF ((hq.mono k23.sub).mono (Kp.sub (H:=H3) zK)) (hd.mono (Kp.sub (H:=H) zK)) ?_ ?_) fun H4 hk4=>?_
  ·have:=(Lin.gens_told (d:=2) (fun a ha=>(h1 a ha).1) (fun a ha=>(h2 a ha).1)).dd.count
   have hp:2^I.length<=2^20:=Nat.pow_le_pow_right (by decide) hi
   have hp2:(2:Nat)^20=1048576:=by decide
   omega
  ·exact fun r hr=>⟨by rw [(o2 r hr).1]; omega,fun z hz=>(mo (o2 r hr).2 z hz).sm (by omega)⟩
  obtain ⟨k4,_,_⟩:=zT H zK hk4
  refine zW (dg hl g0 g1 g2 g3) ?_
  exact zK
end
end Go.Proofs.YtichbdepocojaaaGreat.Ev
namespace Go.Proofs.YtichbdepocojaaaGreat.Lin
set_option linter.all false
theorem bd_small {x:V} (h:x.all (fun a=>decide (a.natAbs<=2))=true):Bd (2^1) x:=fun i=>by
 by_cases hi:i<x.length
 ·have:at_ x i=x[i]:=by simp [at_,hi]
  rw [this]
  simpa using List.all_eq_true.1 h _ (List.getElem_mem hi)
 ·have:at_ x i=0:=by simp [at_,hi]
  rw [this]; simp
theorem ex1:gensL 2 [] [[1,0],[0,1]]=[]/\gensR 2 [] [[1,0],[0,1]]=[[0,1],[1,0]]:=by
 have r:(gensU 2 [] [[1,0],[0,1]]).rays.map (restF (gensL 2 [] [[1,0],[0,1]]))=[[1,0],[0,1]]:=by decide +kernel
 refine ⟨by decide +kernel,?_⟩
 unfold gensR; rw [r]
 simp [List.mergeSort,List.MergeSort.Internal.splitInTwo,cmpV]
theorem ex2:gensL 2 [] [[1,1]]=[[-1,1]]/\gensR 2 [] [[1,1]]=[[1,0]]:=by
 have r:(gensU 2 [] [[1,1]]).rays.map (restF (gensL 2 [] [[1,1]]))=[[1,0]]:=by decide +kernel
 refine ⟨by decide +kernel,?_⟩
 unfold gensR; rw [r]; simp
theorem ex3:gensL 2 [[0,1]] [[1,0]]=[]/\gensR 2 [[0,1]] [[1,0]]=[[1,0]]:=by
 have r:(gensU 2 [[0,1]] [[1,0]]).rays.map (restF (gensL 2 [[0,1]] [[1,0]]))=[[1,0]]:=by decide +kernel
 refine ⟨by decide +kernel,?_⟩
 unfold gensR; rw [r]; simp
end Go.Proofs.YtichbdepocojaaaGreat.Lin
namespace Go.Proofs.YtichbdepocojaaaGreat.Ev
open Go Nn
set_option linter.all false
theorem Emp.put {G:Heap} {a e p a':Nat} {x:Ent} (hf:Emp G a e) (hp:p<a') (ha:a<=a'):Emp (G.put p x) a' e :=
 ⟨hf.1,fun c h1 h2=>by rw [aw (by omega)]; exact hf.2 c (by omega) h2⟩
theorem xE {A:List (List Int)} (h:A.all (fun x=>decide (x.length=2) && x.all (fun a=>decide (a.natAbs<=2)))=true):∀ a∈A,a.length=2/\Lin.Bd (2^1) a:=fun a ha=>by
 have:=List.all_eq_true.1 h a ha
 simp only [Bool.and_eq_true,decide_eq_true_eq] at this
 exact ⟨this.1,Lin.bd_small this.2⟩
section
variable {tab:Nat->Option au} {H:Heap} {s:AV}
theorem zp (C:Code tab) (hw:Wf H):Ans tab (.fn cV []) H fun v H'=>v=.bool true/\Kp H H':=by
 refine MX C.facetroomlaw20_alive fun T hl=>?_
 refine zW hl ?_
 have e0:Emp (H.up 13) H.next (H.next+13):=Emp.start hw
 refine AnsH.use (vec_Of C (l:=[1,0]) zF (mf (by refine sS ?_; rfl)) (by simp) (by simp)) ?_
 rintro v3 H2 ⟨r3,hk2⟩
 obtain ⟨k2,_,w2⟩:=zT H zK hk2
 have e2:Emp H2 (H.next+2) (H.next+13):=(e0.put (by omega) (by omega)).keep hk2
 have n2:=e2.1
 have o3:=r3.one
 refine zW hl ?_
 refine AnsH.use (vec_Of C (l:=[0,1]) zF (mf (by refine sS ?_; rfl)) (by simp) (by simp)) ?_
 rintro v5 H3 ⟨r5,hk3⟩
 obtain ⟨k3,_,w3⟩:=zT H zK hk3
 have e3:Emp H3 (H.next+4) (H.next+13):=(e2.put (by omega) (by omega)).keep hk3
 have n3:=e3.1
 have s23:Sub H2 H3:=(e2.sub (p:=H.next+3) (by omega) (by omega)).trans hk3.sub
 have o5:=r5.one
 refine zW hl ?_
 obtain ⟨G3,hG3⟩:∃ G,G=H3.put (H.next+5) (.cells [v3,v5] ae true):=⟨_,rfl⟩
 rw [<- hG3]
 have e3':Emp G3 (H.next+6) (H.next+13):=by rw [hG3]; exact e3.put (by omega) (by omega)
 have s3:Sub H3 G3:=by rw [hG3]; exact e3.sub (by omega) (by omega)
 have k3':Kp H G3:=by rw [hG3]; exact zK
 have w3':=k3'.wf
 have n3':=e3'.1
 have R1:RowsV G3 (.own (H.next+5) 0 2 2 1 true) [[1,0],[0,1]]:=pH (E:=intE) (t1:=aa) (r3.mono s23) r5 s3 (by rw [hG3]; exact aN _ _ _)
 refine AnsH.use (vec_Of C (l:=[0,1]) zF (mf (by refine sS ?_; rfl)) (by simp) (by simp)) ?_
 rintro v8 H4 ⟨r8,hk4⟩
 obtain ⟨k4,_,w4⟩:=zT H zK hk4
 have e4:Emp H4 (H.next+7) (H.next+13):=(e3'.put (by omega) (by omega)).keep hk4
 have n4:=e4.1
 have s4:Sub G3 H4:=(e3'.sub (p:=H.next+6) (by omega) (by omega)).trans hk4.sub
 have o8:=r8.one
 refine zW hl ?_
 refine AnsH.use (vec_Of C (l:=[1,0]) zF (mf (by refine sS ?_; rfl)) (by simp) (by simp)) ?_
 rintro eZ H5 ⟨r10,hk5⟩
 obtain ⟨k5,_,w5⟩:=zT H zK hk5
 have e5:Emp H5 (H.next+9) (H.next+13):=(e4.put (by omega) (by omega)).keep hk5
 have n5:=e5.1
 have s5:Sub H4 H5:=(e4.sub (p:=H.next+8) (by omega) (by omega)).trans hk5.sub
 have o10:=r10.one
 refine zW hl ?_
 obtain ⟨G5,hG5⟩:∃ G,G=H5.put (H.next+10) (.cells [v8,eZ] ae true):=⟨_,rfl⟩
 rw [<- hG5]
 have s5':Sub H5 G5:=by rw [hG5]; exact e5.sub (by omega) (by omega)
 have k5':Kp H G5:=by rw [hG5]; exact zK
 have w5':=k5'.wf
 have n5':H5.next=G5.next:=by rw [hG5]; rfl
 have R2:RowsV G5 (.own (H.next+10) 0 2 2 1 true) [[0,1],[1,0]]:=pH (E:=intE) (t1:=aa) (r8.mono s5) r10 s5' (by rw [hG5]; exact aN _ _ _)
 have R1':=R1.mono ((s4.trans s5).trans s5')
 refine AnsH.eq (nO C (m:=1) zF (SlV.nil _ _ _) R1' (SlV.nil _ _ _) R2 (by simp) (by simp) (by simp) (xE (by decide)) (by omega)) fun H6 hk6=>?_
 obtain ⟨k6,_,w6⟩:=zT H zK hk6
 rw [decide_eq_true Lin.ex1.1,decide_eq_true Lin.ex1.2]
 refine zW hl ?_
 refine AnsH.use (jX C (x:=1) (y:=1) zF (by omega) (by omega)) ?_
 rintro lu H7 ⟨r15,hk7⟩
 obtain ⟨k7,_,w7⟩:=zT H zK hk7
 refine zW hl ?_
 refine AnsH.use (jX C (x:=-1) (y:=1) zF (by omega) (by omega)) ?_
 rintro mz H8 ⟨r16,hk8⟩
 obtain ⟨k8,_,w8⟩:=zT H zK hk8
 refine zW hl ?_
 refine AnsH.use (jX C (x:=1) (y:=0) zF (by omega) (by omega)) ?_
 rintro mw H9 ⟨r17,hk9⟩
 obtain ⟨k9,_,w9⟩:=zT H zK hk9
 refine zW hl ?_
 refine AnsH.eq (nO C (m:=1) zF (SlV.nil _ _ _) (r15.mono (hk8.sub.trans hk9.sub)) (r16.mono hk9.sub) r17 (by simp) (by simp) (by simp) (xE (by decide)) (by omega)) fun H10 hk10=>?_
 obtain ⟨k10,_,w10⟩:=zT H zK hk10
 rw [decide_eq_true Lin.ex2.1,decide_eq_true Lin.ex2.2]
 refine zW hl ?_
 refine AnsH.use (jX C (x:=0) (y:=1) zF (by omega) (by omega)) ?_
 rintro tz H11 ⟨r21,hk11⟩
 obtain ⟨k11,_,w11⟩:=zT H zK hk11
 refine zW hl ?_
 refine AnsH.use (jX C (x:=1) (y:=0) zF (by omega) (by omega)) ?_
 rintro tx H12 ⟨r22,hk12⟩
 obtain ⟨k12,_,w12⟩:=zT H zK hk12
 refine zW hl ?_
 refine AnsH.use (jX C (x:=1) (y:=0) zF (by omega) (by omega)) ?_
 rintro yB H13 ⟨r23,hk13⟩
 obtain ⟨k13,_,w13⟩:=zT H zK hk13
 refine zW hl ?_
 refine AnsH.eq (nO C (m:=1) zF (r21.mono (hk12.sub.trans hk13.sub)) (r22.mono hk13.sub) (SlV.nil _ _ _) r23 (by simp) (by simp) (xE (by decide)) (xE (by decide)) (by omega)) fun H14 hk14=>?_
 obtain ⟨k14,_,w14⟩:=zT H zK hk14
 have n14:H6.next+20<=H14.next:=Nat.le_trans hk7.le (Nat.le_trans hk8.le (Nat.le_trans hk9.le (Nat.le_trans hk10.le (Nat.le_trans hk11.le (Nat.le_trans hk12.le (Nat.le_trans hk13.le hk14.le))))))
 rw [decide_eq_true Lin.ex3.1,decide_eq_true Lin.ex3.2]
 refine zW hl ?_
 refine AnsH.use (vec_Of C (l:=[1,2]) zF (mf (by refine sS ?_; rfl)) (by simp) (by simp)) ?_
 rintro yI H15 ⟨r28,hk15⟩
 obtain ⟨k15,_,_⟩:=zT H zK hk15
 have l28:lenV yI=some (.int .i64 2):=r28.lenV
 refine zW (az hl l28) ?_
 exact zK
theorem zo (C:Code tab) (hw:Wf H) {a b:AV} {A B:List (List (Bool × List Nat))} {d:Int} (ha:gK H a A) (hb:gK H b B) :
  Ans tab (.fn cU [.int .i64 d,a,b]) H fun v H'=>v=.bool (cC 4 5 1 A || cC 7 5 1 B || decide (5<d))/\Kp H H':=by
 refine kL C.facetroomlaw20_great (by decide) fun T hl g0 g1 g2=>?_
 refine zW (aT hl g0 g1 g2) ?_
 refine AnsH.eq (y3 C zF (ha.mono (Kp.sub (H:=H) zK)) (hb.mono (Kp.sub (H:=H) zK))) fun H2 hk2=>?_
 obtain ⟨k2,_,_⟩:=zT H zK hk2
 cases h:cC 4 5 1 A || cC 7 5 1 B with
 | true =>
  refine zW (az hl g0) ?_
  exact ⟨by simp,zK⟩
 | false =>
  refine zW (az hl g0) ?_
  exact ⟨by simp,zK⟩
structure xn (d n:Nat) (l:List (List Int)):Prop where
 len:l.length<=n
 row:∀ a∈l,a.length=d/\Lin.Bd (2^64) a
theorem MQ {z:Bool × List Nat} (h1:¬ 1<z.2.length) (hl:Lim z.2):(iK z).natAbs<=2^64:=by
 have h2:=qX hl
 have h3:B^z.2.length<=B^1:=Nat.pow_le_pow_right (by decide) (by omega)
 have h4:B^1=2^64:=by decide
 unfold iK
 split
 ·rw [Int.natAbs_neg,Int.natAbs_natCast]; omega
 ·rw [Int.natAbs_natCast]; omega
theorem eO {n m k:Nat} {A:List (List (Bool × List Nat))} (h:cC n m k A=false):A.length<=n/\∀ r∈A,r.length<=m/\∀ z∈r,¬ k<z.2.length:=by
 simp only [cC,Bool.or_eq_false_iff,decide_eq_false_iff_not,List.any_eq_false,Bool.not_eq_true] at h
 refine ⟨by omega,fun r hr=>?_⟩
 have:=h.2 r hr
 simp only [mM,Bool.or_eq_false_iff,decide_eq_false_iff_not,List.any_eq_false,Bool.not_eq_true] at this
 exact ⟨by omega,fun z hz=>by simpa using this.2 z hz⟩
theorem ly {A:List (List (Bool × List Nat))} (h:aZ A=0):∀ r∈A,(∀ z∈r,ol z=false)/\0<r.length/\r.length=(A.headD []).length:=fun r hr=>by
 unfold aZ at h
 split at h
 ·cases h
 ·split at h
  ·cases h
  ·rename_i h2
   split at h
   ·cases h
   ·rename_i h3
    rw [Bool.not_eq_true,List.any_eq_false] at h2 h3
    have e2:=h2 r hr
    have e3:=h3 r hr
    simp only [pQ,F3,Bool.or_eq_true,Bool.not_eq_true',decide_eq_true_eq,not_or,Bool.not_eq_false,Bool.and_eq_true,List.any_eq_false] at e2
    refine ⟨fun z hz=>by simpa using e2.1.2 z hz,by omega,?_⟩
    simpa using e3
theorem wx {v:AV} {A:List (List (Bool × List Nat))} {n:Nat} (ha:gK H v A) (gA:∀ r∈A,gZ r) (h1:cC n 5 1 A=false) (hc:aZ A=0) :
  ∃ E,RowsV H v E/\A=E.map (fun r=>r.map kj)/\E.length<=n/\E.length=A.length/\(∀ r∈E,0<r.length/\r.length<=5/\r.length=(A.headD []).length/\Lin.Bd (2^64) r):=by
 obtain ⟨g1,g2⟩:=eO h1
 have hz:=ly hc
 have hlim:∀ r∈A,∀ z∈r,ol z=false/\Lim z.2:=fun r hr z hzr=>⟨(hz r hr).1 z hzr,fun x hx=>((gA r hr).1 z hzr).1 x hx⟩
 refine ⟨A.map fun r=>r.map iK,FP ha hlim,?_,by simpa using g1,by simp,fun r hr=>?_⟩
 ·rw [List.map_map]
  conv=>lhs; rw [<- List.map_id A]
  refine List.map_congr_left fun r hr=>?_
  rw [id,Function.comp,List.map_map]
  conv=>lhs; rw [<- List.map_id r]
  exact List.map_congr_left fun z hzr=>(wz (hlim r hr z hzr).1 (hlim r hr z hzr).2).symm
 ·obtain ⟨q,hq,rfl⟩:=List.mem_map.1 hr
  have h3:=hz q hq
  refine ⟨by rw [List.length_map]; exact h3.2.1,by rw [List.length_map]; exact (g2 q hq).1,by rw [List.length_map]; exact h3.2.2,fun i=>?_⟩
  by_cases hi:i<(q.map iK).length
  ·rw [mU hi,List.getElem_map]
   have hi':i<q.length:=by simpa using hi
   exact MQ ((g2 q hq).2 _ (List.getElem_mem hi')) (hlim q hq _ (List.getElem_mem hi')).2
  ·have:Lin.at_ (q.map iK) i=0:=by
    unfold Lin.at_
    rw [List.getD_eq_getElem?_getD,List.getElem?_eq_none (by omega)]; rfl
   rw [this]; exact Nat.zero_le _
theorem AU {a b:AV} {A B:List (List (Bool × List Nat))} (ha:gK H a A) (hb:gK H b B) (gA:∀ r∈A,gZ r) (gB:∀ r∈B,gZ r) (h1:cC 4 5 1 A=false) (h2:cC 7 5 1 B=false) :
  cd A B≠0\/cd A B=0/\∃ dd E I,RowsV H a E/\RowsV H b I/\0<dd/\dd<=5/\xn dd 4 E/\xn dd 7 I:=by
 by_cases hc:cd A B=0
 ·refine .inr ⟨hc,?_⟩
  unfold cd at hc
  split at hc
  ·rename_i h; exact absurd hc h
  rename_i hA
  split at hc
  ·rename_i h; exact absurd hc h
  rename_i hB
  split at hc
  ·cases hc
  rename_i hne
  have hA:aZ A=0:=by simpa using hA
  have hB:aZ B=0:=by simpa using hB
  obtain ⟨E,e1,e2,e3,e4,e5⟩:=wx ha gA h1 hA
  obtain ⟨I,i1,i2,i3,i4,i5⟩:=wx hb gB h2 hB
  cases A with
  | nil =>
   have hE:E=[]:=List.eq_nil_of_length_eq_zero (by simpa using e4)
   subst hE
   cases B with
   | nil =>
    have hI:I=[]:=List.eq_nil_of_length_eq_zero (by simpa using i4)
    subst hI
    exact ⟨1,[],[],e1,i1,by omega,by omega,⟨by simp,fun _ h=>by cases h⟩,⟨by simp,fun _ h=>by cases h⟩⟩
   | cons x B =>
    have hx:=ly hB x (List.mem_cons_self ..)
    have hx5:=(eO h2).2 x (List.mem_cons_self ..)
    exact ⟨x.length,[],I,e1,i1,hx.2.1,hx5.1,⟨by simp,fun _ h=>by cases h⟩,⟨i3,fun r hr=>⟨(i5 r hr).2.2.1,(i5 r hr).2.2.2⟩⟩⟩
  | cons x A =>
   have hx:=ly hA x (List.mem_cons_self ..)
   have hx5:=(eO h1).2 x (List.mem_cons_self ..)
   refine ⟨x.length,E,I,e1,i1,hx.2.1,hx5.1,⟨e3,fun r hr=>⟨(e5 r hr).2.2.1,(e5 r hr).2.2.2⟩⟩,⟨i3,fun r hr=>⟨?_,(i5 r hr).2.2.2⟩⟩⟩
   cases B with
   | nil =>
    have hI:I=[]:=List.eq_nil_of_length_eq_zero (by simpa using i4)
    subst hI
    cases hr
   | cons y B =>
    rw [(i5 r hr).2.2.1]
    have:=hne
    simp at this
    exact this.symm
 ·exact .inl hc
end
theorem wL {n m k:Nat} {A:List (List (Bool × List Nat))} (h:cC n m k A=false) (hm:m<=1000) (hk:k<=1000):∀ r∈A,yv r:=fun r hr=>by
 have:=(eO h).2 r hr
 exact ⟨by omega,fun z hz=>by have:=this.2 z hz; omega⟩
section
variable {tab:Nat->Option au} {H:Heap} {s:AV}
theorem uQ (C:Code tab) (hw:Wf H) {va vb:AV} {d:Int} {A B:List (List (Bool × List Nat))} (ha:gK H va A) (hb:gK H vb B) (hA:A.length<1099511627776) (hB:B.length<1099511627776) (ba:∀ r∈A,yv r) (bb:∀ r∈B,yv r) (hc:cd A B≠0) :
  Ans tab (.fn eA [.int .i64 d,va,vb]) H fun v H'=>v=.tup [.nilSl,.nilSl,.int .i64 (cd A B)]/\Kp H H':=by
 refine kL C.cone_Gens (by decide) fun T hl g0 g1 g2=>?_
 refine zW (aT hl g0 g1 g2) ?_
 refine AnsH.eq (cone_checked C zF (ha.mono (Kp.sub (H:=H) zK)) (hb.mono (Kp.sub (H:=H) zK)) hA hB ba bb) fun H2 hk2=>?_
 obtain ⟨k2,_,_⟩:=zT H zK hk2
 have hc:¬ cd A B=0:=hc
 refine zW (dg hl g0 g1 g2 hc) ?_
 exact zK
theorem uP (C:Code tab) (hw:Wf H) {va vb:AV} {d:Int} {dd:Nat} {E I:List (List Int)} (ha:RowsV H va E) (hb:RowsV H vb I) (d0:0<dd) (d5:dd<=5) (gE:xn dd 4 E) (gI:xn dd 7 I) (hbad:d<1\/64<d\/(d≠(dd:Int)/\(E≠[]\/I≠[]))) :
  Ans tab (.fn eA [.int .i64 d,va,vb]) H fun v H'=>∃ e,e≠0/\v=.tup [.nilSl,.nilSl,.int .i64 e]/\Kp H H':=by
 have oa:=ha.one
 have ob:=hb.one
 have lE:=gE.len
 have lI:=gI.len
 have sm:∀ {z:Int} {r:List Int},Lin.Bd (2^64) r->z∈r->fu z:=fun hb hz=>(mo hb _ hz).sm (by omega)
 have ok1:mY dd E:=⟨d0,by omega,fun r hr=>(gE.row r hr).1,fun r hr z hz=>sm (gE.row r hr).2 hz⟩
 have ok2:mY dd I:=⟨d0,by omega,fun r hr=>(gI.row r hr).1,fun r hr z hz=>sm (gI.row r hr).2 hz⟩
 refine kL C.cone_Gens (by decide) fun T hl g0 g1 g2=>?_
 refine zW (aT hl g0 g1 g2) ?_
 refine AnsH.eq (cone_checked C zF ((kh ha).mono (Kp.sub (H:=H) zK)) ((kh hb).mono (Kp.sub (H:=H) zK)) (by rw [List.length_map]; omega) (by rw [List.length_map]; omega) (fun r hr=>?_) (fun r hr=>?_)) fun H2 hk2=>?_
 ·obtain ⟨x,hx,rfl⟩:=List.mem_map.1 hr
  exact jC (by rw [ok1.len x hx]; omega) (ok1.sm x hx)
 ·obtain ⟨x,hx,rfl⟩:=List.mem_map.1 hr
  exact jC (by rw [ok2.len x hx]; omega) (ok2.sm x hx)
 rw [pN ok1 ok2 (by omega) (by omega)]
 obtain ⟨k2,_,w2⟩:=zT H zK hk2
 refine zW (aT hl g0 g1 g2) ?_
 refine AnsH.eq (cone_long C (Ls:=[E,I]) (d:=dd) zF (pH (E:=rowsE) (t1:=ae) (ha.mono k2.sub) (hb.mono k2.sub) (Kp.sub (H:=H2) zK) (dZ)) (by simp) (fun L hL r hr=>?_)) fun H3 hk3=>?_
 ·rcases List.mem_cons.1 hL with rfl | hL
  ·exact ok1.len r hr
  ·rcases List.mem_cons.1 hL with rfl | hL
   ·exact ok2.len r hr
   ·cases hL
 obtain ⟨k3,_,w3⟩:=zT H zK hk3
 by_cases q1:d<1
 ·refine zW (aE hl g0 q1) ?_
  exact ⟨2,by omega,rfl,zK⟩
 by_cases q2:(64:Int)<d
 ·refine zW (aT hl g0 q1 q2) ?_
  exact ⟨2,by omega,rfl,zK⟩
 have hb3:d≠(dd:Int)/\(E≠[]\/I≠[]):=by
  rcases hbad with h | h | h
  ·exact absurd h q1
  ·exact absurd h q2
  ·exact h
 have hany:[E,I].any (fun L=>!L.isEmpty)=true:=by
  rw [List.any_eq_true]
  rcases hb3.2 with h | h
  ·exact ⟨E,by simp,by cases E <;> simp_all⟩
  ·exact ⟨I,by simp,by cases I <;> simp_all⟩
 have q3:(0:Int)<=(dd:Int):=by omega
 have q4:¬ (dd:Int)=d:=fun e=>hb3.1 e.symm
 rw [hany]
 refine zW (ij hl g0 q1 q2 q3 q4) ?_
 exact ⟨70,by omega,rfl,zK⟩
theorem DR (C:Code tab) {va vb:AV} {d:Int} {A B:List (List (Bool × List Nat))} (ha:gK H va A) (hb:gK H vb B) (gA:∀ r∈A,gZ r) (gB:∀ r∈B,gZ r) (h1:cC 4 5 1 A=false) (h2:cC 7 5 1 B=false) (h5:¬ 5<d) :
  (∀ H1,Wf H1->Sub H H1->Ans tab (.fn eA [.int .i64 d,va,vb]) H1 fun v H'=>∃ e,e≠0/\v=.tup [.nilSl,.nilSl,.int .i64 e]/\Kp H1 H') \/
  ∃ (dd:Nat) (E I:List (List Int)),d=(dd:Int)/\0<dd/\dd<=5/\RowsV H va E/\RowsV H vb I/\xn dd 4 E/\xn dd 7 I:=by
 have lA:=(eO h1).1
 have lB:=(eO h2).1
 rcases AU ha hb gA gB h1 h2 with hc | ⟨hc,dd,E,I,hE,hI,d0,d5,gE,gI⟩
 ·refine .inl fun H1 hw hs=>(uQ C hw (ha.mono hs) (hb.mono hs) (by omega) (by omega) (wL h1 (by omega) (by omega)) (wL h2 (by omega) (by omega)) hc).mono ?_
  rintro v H' ⟨rfl,hk⟩
  exact ⟨_,hc,rfl,hk⟩
 ·by_cases hbad:d<1\/64<d\/(d≠(dd:Int)/\(E≠[]\/I≠[]))
  ·exact .inl fun H1 hw hs=>uP C hw (hE.mono hs) (hI.mono hs) d0 d5 gE gI hbad
  ·have q1:¬ d<1:=fun h=>hbad (.inl h)
   have q3:d=(dd:Int)\/E=[]/\I=[]:=by
    by_cases e:d=(dd:Int)
    ·exact .inl e
    ·refine .inr ⟨?_,?_⟩
     ·by_cases h:E=[]
      ·exact h
      ·exact absurd (.inr (.inr ⟨e,.inl h⟩)) hbad
     ·by_cases h:I=[]
      ·exact h
      ·exact absurd (.inr (.inr ⟨e,.inr h⟩)) hbad
   rcases q3 with e | ⟨rfl,rfl⟩
   ·exact .inr ⟨dd,E,I,e,d0,d5,hE,hI,gE,gI⟩
   ·exact .inr ⟨d.toNat,[],[],by omega,by omega,by omega,hE,hI,⟨by simp,fun _ h=>by cases h⟩,⟨by simp,fun _ h=>by cases h⟩⟩
end
end Go.Proofs.YtichbdepocojaaaGreat.Ev
namespace Go.Proofs.YtichbdepocojaaaGreat.Lin
set_option linter.all false
def keepB (a:V) (E I:List V):Bool:=!E.any (fun r=>!decide (dot a r=0)) && !I.any (fun r=>decide (dot a r<0))
theorem DL {a:V} {E I:List V}:keepB a E I=true ↔ (∀ e∈E,dot a e=0)/\∀ r∈I,0<=dot a r:=by
 simp only [keepB,Bool.and_eq_true,Bool.not_eq_true',List.any_eq_false,Bool.not_eq_true,Bool.not_eq_false,decide_eq_true_eq,decide_eq_false_iff_not,Int.not_lt]
 simp
theorem Ge {d:Nat} {a:V} {L R:List V} (ha:a.length=d) (hL:∀ l∈L,l.length=d) (hR:∀ r∈R,r.length=d) :
  keepB a (gensL d L R) (gensR d L R)=true ↔ ∀ y,Keep d (· ∈ L) (· ∈ R) y->0<=dot a y:=by
 have t:=gens_told hL hR
 rw [DL]
 constructor
 ·rintro ⟨h1,h2⟩ y hy
  exact (t.dd.all y hy).dot_nonneg t.dd.lenL t.dd.lenR h1 h2
 ·intro h
  refine ⟨fun e he=>?_,fun r hr=>h r (t.dd.keep r hr)⟩
  have k1:=h e ⟨t.dd.lenL e he,fun l hl=>t.dd.lineE e he l hl,fun r hr=>by rw [t.dd.lineI e he r hr]; exact Int.le_refl _⟩
  have k2:=h (scl (-1) e) ⟨ah (t.dd.lenL e he),fun l hl=>by rw [dot_scl,t.dd.lineE e he l hl]; rfl,fun r hr=>by rw [dot_scl,t.dd.lineI e he r hr]; exact Int.le_refl _⟩
  rw [dot_scl] at k2
  omega
def tJ (d:Nat):List V->V
 | []=>jx d
 | a :: l=>mix 1 a 1 (tJ d l)
theorem p9 {d:Nat}:∀ {l:List V},(∀ a∈l,a.length=d)->(tJ d l).length=d
 | [],_=>by simp [tJ,jx]
 | a :: l,h=>mix_length (h a (List.mem_cons_self ..)) (p9 fun b hb=>h b (List.mem_cons_of_mem _ hb))
theorem q9 {d:Nat} {x:V}:∀ {l:List V},(∀ a∈l,a.length=d)->(∀ a∈l,dot x a=0)->dot x (tJ d l)=0
 | [],_,_=>i9 x d
 | a :: l,hl,h=>by
  have h1:=q9 (x:=x) (l:=l) (fun b hb=>hl b (List.mem_cons_of_mem _ hb)) fun b hb=>h b (List.mem_cons_of_mem _ hb)
  have h2:=h a (List.mem_cons_self ..)
  have e:=p9 (d:=d) (l:=l) fun b hb=>hl b (List.mem_cons_of_mem _ hb)
  rw [tJ,aQ _ _ _ ((hl a (List.mem_cons_self ..)).trans e.symm)]
  omega
theorem rT {d:Nat} {x:V}:∀ {l:List V},(∀ a∈l,a.length=d)->(∀ a∈l,0<=dot x a)->0<=dot x (tJ d l)/\((∃ a∈l,dot x a≠0)->1<=dot x (tJ d l))
 | [],_,_=>⟨by rw [tJ,i9]; exact Int.le_refl _,fun ⟨a,ha,_⟩=>by cases ha⟩
 | a :: l,hl,h=>by
  obtain ⟨h1,h3⟩:=rT (x:=x) (l:=l) (fun b hb=>hl b (List.mem_cons_of_mem _ hb)) fun b hb=>h b (List.mem_cons_of_mem _ hb)
  have h2:=h a (List.mem_cons_self ..)
  have e:=p9 (d:=d) (l:=l) fun b hb=>hl b (List.mem_cons_of_mem _ hb)
  rw [tJ,aQ _ _ _ ((hl a (List.mem_cons_self ..)).trans e.symm)]
  refine ⟨by omega,?_⟩
  rintro ⟨b,hb,hn⟩
  rcases List.mem_cons.1 hb with rfl | hb
  ·omega
  ·have:=h3 ⟨b,hb,hn⟩
   omega
theorem AG {d:Nat} {E I:V->Prop} {L R:List V} (h:vX d E I L R) {r s:V} (hr:r∈R) (hs:s∈R) (hne:s≠r):∃ i,I i/\dot i r=0/\dot i s≠0:=by
 apply Classical.byContradiction
 intro hno
 have hk:=h.dd.keep r hr
 have hrk':=h.dd.keep s hs
 have hrl':=h.dd.lenR s hs
 obtain ⟨k1,c1,hk1,hc1,hsp⟩:=h.dd.ext r hr s hrk' fun i hi hz=>Classical.byContradiction fun hn=>hno ⟨i,hi,hz,hn⟩
 have hc1':c1≠0:=fun e0=>by
  subst e0
  obtain ⟨i',hi',hn'⟩:=h.dd.off s hs
  have:=Con.dot_zero (a:=i') h.dd.lenL (fun r h=>h.elim) (fun l hl=>h.dd.lineI l hl i' hi') (fun r h=>h.elim) hsp
  rw [aQ _ _ _ (hrl'.trans hk.len.symm)] at this
  rcases Int.mul_eq_zero.1 (show k1*dot i' s=0 by omega) with h1 | h1
  ·omega
  ·exact hn' h1
 have:s=r:=rU h.form hrl' hk.len (fun l hl=>h.rest s hs l hl) (fun l hl=>h.rest r hr l hl) (h.cont s hs) (h.cont r hr) hk1 (by omega) hsp
 exact hne this
theorem tN (f:V->Int):∀ S:List V,∃ N:Int,0<=N/\∀ s∈S,f s<=N
 | []=>⟨0,Int.le_refl _,fun s h=>by cases h⟩
 | a :: S=>by
  obtain ⟨N,h0,hN⟩:=tN f S
  refine ⟨N+(f a).natAbs,by omega,fun s hs=>?_⟩
  rcases List.mem_cons.1 hs with rfl | hs
  ·omega
  ·have:=hN s hs; omega
theorem Fy {d:Nat} {E I:List V} {L R:List V} (hI:∀ a∈I,a.length=d) (h:vX d (· ∈ E) (· ∈ I) L R) {r:V} (hr:r∈R) {S:List V} (hS:∀ s∈S,s∈R/\s≠r):∃ y,Keep d (· ∈ L) (· ∈ S) y/\dot r y<0:=by
 obtain ⟨z,hz,hzn⟩:=h.dd.off r hr
 have hzr:=(h.dd.keep r hr).ge z hz
 obtain ⟨act,hact⟩:∃ act,act=I.filter fun a=>decide (dot a r=0):=⟨_,rfl⟩
 have ha:∀ a∈act,a∈I/\dot a r=0:=fun a h=>by rw [hact,List.mem_filter] at h; exact ⟨h.1,of_decide_eq_true h.2⟩
 have hal:∀ a∈act,a.length=d:=fun a h=>hI a (ha a h).1
 obtain ⟨N,hN0,hN⟩:=tN (fun s=>dot z s) S
 have hyl:=p9 hal
 have hlen:(tJ d act).length=z.length:=hyl.trans (hI z hz).symm
 refine ⟨mix N (tJ d act) (-1) z,⟨mix_length hyl (hI z hz),fun l hl=>?_,fun s hs=>?_⟩,?_⟩
 ·rw [aQ _ _ _ hlen,q9 hal fun a h'=>by rw [dot_comm]; exact h.dd.lineI l hl a (ha a h').1,dot_comm l,h.dd.lineI l hl z hz]
  simp
 ·obtain ⟨hsR,hne⟩:=hS s hs
  have hk:=h.dd.keep s hsR
  have hpos:=(rT (x:=s) hal fun a h'=>by rw [dot_comm]; exact hk.ge a (ha a h').1).2 (by
   obtain ⟨i,hi,h0,hn⟩:=AG h hr hsR hne
   exact ⟨i,by rw [hact,List.mem_filter]; exact ⟨hi,by simpa using h0⟩,by rw [dot_comm]; exact hn⟩)
  have hb:=hN s hs
  rw [aQ _ _ _ hlen,dot_comm s z]
  have:=Int.mul_le_mul_of_nonneg_left hpos hN0
  omega
 ·rw [aQ _ _ _ hlen,q9 hal fun a h'=>by rw [dot_comm]; exact (ha a h').2,dot_comm r z]
  omega
theorem few_made {d:Nat} {E I S:List V} (hE:∀ a∈E,a.length=d) (hI:∀ a∈I,a.length=d) {r:V} (hr:r∈gensR d E I) (hS:∀ s∈S,s∈gensR d E I/\s≠r) :
  keepB r (gensL d (gensL d E I) S) (gensR d (gensL d E I) S)=false:=by
 have t:=gens_told hE hI
 obtain ⟨y,hy,hn⟩:=Fy hI t hr hS
 cases hk:keepB r (gensL d (gensL d E I) S) (gensR d (gensL d E I) S) with
 | false=>rfl
 | true =>
  have:=(Ge (t.dd.lenR r hr) t.dd.lenL fun s hs=>t.dd.lenR s (hS s hs).1).1 hk y hy
  omega
theorem rest_same {d:Nat} {E I:V->Prop} {L R:List V} (h:vX d E I L R) {r:V} (hr:r∈R):restF L r=r:=by
 have hrl:=h.dd.lenR r hr
 obtain ⟨g1,g2,⟨m,k,hm,hk,hsp⟩,g4⟩:=uj h.form hrl
 rcases g4 with g4 | g4
 ·exact rU h.form g1 hrl g2 (fun l hl=>h.rest r hr l hl) g4 (h.cont r hr) hm hk hsp
 ·exfalso
  obtain ⟨i,hi,hn⟩:=h.dd.off r hr
  have hz:=Con.dot_zero (a:=i) h.dd.lenL (fun r h=>h.elim) (fun l hl=>h.dd.lineI l hl i hi) (fun r h=>h.elim) hsp
  rw [aQ _ _ _ (g1.trans hrl.symm)] at hz
  have h0:dot i (restF L r)=0:=by
   have e:restF L r=scl 0 (restF L r):=aJ (by simp [scl]) fun j=>by
    rw [g4 j]
    simp only [at_,scl,List.getD_eq_getElem?_getD,List.getElem?_map]
    cases (restF L r)[j]? <;> simp
   rw [e,dot_scl]; simp
  rw [h0] at hz
  rcases Int.mul_eq_zero.1 (show -k*dot i r=0 by omega) with h1 | h1
  ·omega
  ·exact hn h1
theorem ray_some {d:Nat} {E I:V->Prop} {L R:List V} (h:vX d E I L R) {r:V} (hr:r∈R):r.any (fun z=>!decide (z=0))=true:=by
 have hc:=h.cont r hr
 rw [List.any_eq_true]
 apply Classical.byContradiction
 intro hno
 have:content r=0:=content_eq_zero.2 fun a ha=>Classical.byContradiction fun hn=>hno ⟨a,ha,by simpa using hn⟩
 omega
theorem rays_rise {d:Nat} {E I:V->Prop} {L R:List V} (h:vX d E I L R) {i:Nat} (hi:i+1<R.length):cmpV R[i+1] (R[i]'(by omega))=false:=by
 have h1:=List.pairwise_iff_getElem.1 h.sorted i (i+1) (by omega) hi (by omega)
 have h2:=List.pairwise_iff_getElem.1 (told_nodup h) i (i+1) (by omega) hi (by omega)
 cases hc:cmpV R[i+1] (R[i]'(by omega)) with
 | false=>rfl
 | true=>exact absurd (cmpV_antisymm _ _ h1 hc) h2
theorem others_mem {d:Nat} {E I:V->Prop} {L R:List V} (h:vX d E I L R) {i:Nat} (hi:i<R.length):∀ s∈R.take i++R.drop (i+1),s∈R/\s≠R[i]:=by
 intro s hs
 have hn:=List.pairwise_iff_getElem.1 (told_nodup h)
 rcases List.mem_append.1 hs with hs | hs
 ·obtain ⟨j,hj,rfl⟩:=List.getElem_of_mem hs
  have hj':j<i:=by simp at hj; omega
  refine ⟨List.mem_of_mem_take hs,?_⟩
  rw [List.getElem_take]
  exact hn j i (by omega) hi hj'
 ·obtain ⟨j,hj,rfl⟩:=List.getElem_of_mem hs
  refine ⟨List.mem_of_mem_drop hs,?_⟩
  rw [List.getElem_drop]
  exact fun e=>hn i (i+1+j) hi (by simp at hj; omega) (by omega) e.symm
end Go.Proofs.YtichbdepocojaaaGreat.Lin
namespace Go.Proofs.YtichbdepocojaaaGreat.Ev
open Go Nn
set_option linter.all false
section
variable {tab:Nat->Option au} {H:Heap} {s:AV}
theorem lp (C:Code tab) (hw:Wf H) {fi:Nat} {first caps:List AV} {l:List (List Int)} (hs:RowsV H s l) (hbig:l.length<4611686018427387904) (p:List Int->Bool)
  (hf:∀ r∈l,∀ H' w,Kp H H'->RowV H' w r->Ans tab (.fn fi (first++[w]++caps)) H' fun v H2=>v=.bool (p r)/\Kp H' H2) :
  Ans tab (.fn aM [s,.fn (.func fi) first caps]) H fun v H'=>v=.bool (l.any p)/\Kp H H':=by
 refine cz C.slices_ContainsFunc_Sl_api_Vec_api_Vec (by decide) fun T hl g0 g1=>?_
 refine zW (aE hl g0 g1) ?_
 refine AnsH.eq (oy C zF (hs.mono (Kp.sub (H:=H) zK)) hbig p fun a ha H' cs hk hr=>hf a ha H' cs (Kp.trans (H:=H) zK hk) hr) fun H2 hk2=>?_
 obtain ⟨k2,_,_⟩:=zT H zK hk2
 refine zW (aE hl g0 g1) ?_
 exact ⟨by rw [wJ],zK⟩
theorem cone_keeps_f1 (C:Code tab) (hw:Wf H) {w va:AV} {r a:List Int} {bx e f:Nat} (hr:RowV H w r) (hb:H.get bx=some (.cells [va] ae true)) (ha:RowV H va a) (hra:a.length=r.length) (h64:a.length<=64) (hae:∀ z∈a,Bt e z) (hrf:∀ z∈r,Bt f z) (hbt:e+f+7<=8796093022208) :
  Ans tab (.fn fZ [w,.ptr bx 0]) H fun v H'=>v=.bool (!decide (Lin.dot a r=0))/\Kp H H':=by
 refine cz C.cone_keeps_f1 (by decide) fun T hl g0 g1=>?_
 refine zW (aT hl g0 g1 hb) ?_
 refine AnsH.use (cone_dot C zF (ha.mono (Kp.sub (H:=H) zK)) (hr.mono (Kp.sub (H:=H) zK)) hra h64 hae hrf hbt) ?_
 rintro v H2 ⟨hr2,hk2⟩
 obtain ⟨k2,_,w2⟩:=zT H zK hk2
 refine zW (aE hl g0 g1) ?_
 refine AnsH.eq (cone_sign C (z:=Lin.dot a r) zF (hr2.mono (Kp.sub (H:=H2) zK)) ((lD hae hrf hra h64).sm hbt)) fun H3 hk3=>?_
 have k3:Kp H H3:=Kp.trans k2 (Kp.trans zK hk3)
 have le_k3:=k3.le
 refine zW (aE hl g0 g1) ?_
 refine ⟨?_,zK⟩
 congr 1
 rw [Bool.eq_iff_iff]
 simp [ke]
theorem If (x:Int):iN x<0 ↔ x<0:=by unfold iN; split <;> (try split) <;> omega
theorem cone_keeps_f2 (C:Code tab) (hw:Wf H) {w va:AV} {r a:List Int} {bx e f:Nat} (hr:RowV H w r) (hb:H.get bx=some (.cells [va] ae true)) (ha:RowV H va a) (hra:a.length=r.length) (h64:a.length<=64) (hae:∀ z∈a,Bt e z) (hrf:∀ z∈r,Bt f z) (hbt:e+f+7<=8796093022208) :
  Ans tab (.fn fY [w,.ptr bx 0]) H fun v H'=>v=.bool (decide (Lin.dot a r<0))/\Kp H H':=by
 refine cz C.cone_keeps_f2 (by decide) fun T hl g0 g1=>?_
 refine zW (aT hl g0 g1 hb) ?_
 refine AnsH.use (cone_dot C zF (ha.mono (Kp.sub (H:=H) zK)) (hr.mono (Kp.sub (H:=H) zK)) hra h64 hae hrf hbt) ?_
 rintro v H2 ⟨hr2,hk2⟩
 obtain ⟨k2,_,w2⟩:=zT H zK hk2
 refine zW (aE hl g0 g1) ?_
 refine AnsH.eq (cone_sign C (z:=Lin.dot a r) zF (hr2.mono (Kp.sub (H:=H2) zK)) ((lD hae hrf hra h64).sm hbt)) fun H3 hk3=>?_
 have k3:Kp H H3:=Kp.trans k2 (Kp.trans zK hk3)
 have le_k3:=k3.le
 refine zW (aE hl g0 g1) ?_
 refine ⟨?_,zK⟩
 congr 1
 rw [Bool.eq_iff_iff]
 simp [If]
structure RowsB (d f:Nat) (l:List (List Int)):Prop where
 len:∀ r∈l,r.length=d
 bt:∀ r∈l,∀ z∈r,Bt f z
theorem RowsB.of {d m:Nat} {l:List (List Int)} (h:∀ r∈l,r.length=d/\Lin.Bd (2^m) r):RowsB d (m+1) l:=⟨fun r hr=>(h r hr).1,fun r hr=>mo (h r hr).2⟩
theorem RowsB.mono {d f g:Nat} {l:List (List Int)} (h:RowsB d f l) (hfg:f<=g):RowsB d g l:=⟨h.len,fun r hr z hz=>(h.bt r hr z hz).mono hfg⟩
theorem RowsB.ok {d f:Nat} {l:List (List Int)} (h:RowsB d f l) (d0:0<d) (d64:d<=64) (hf:f<=8796093022208):mY d l:=⟨d0,d64,h.len,fun r hr z hz=>(h.bt r hr z hz).sm hf⟩
theorem cone_keeps (C:Code tab) (hw:Wf H) {va vb vc:AV} {a:List Int} {E I:List (List Int)} {d e f:Nat} (ha:RowV H va a) (hb:RowsV H vb E) (hc:RowsV H vc I) (hal:a.length=d) (hd:d<=64) (hE:RowsB d f E) (hI:RowsB d f I) (lE:E.length<=1048576) (lI:I.length<=1048576) (hae:∀ z∈a,Bt e z) (hbt:e+f+7<=8796093022208) :
  Ans tab (.fn gX [va,vb,vc]) H fun v H'=>v=.bool (Lin.keepB a E I)/\Kp H H':=by
 have oa:=ha.one
 refine kL C.cone_keeps (by decide) fun T hl g0 g1 g2=>?_
 refine zW (aT hl g0 g1 g2) ?_
 refine AnsH.eq (lp C (l:=E) zF (hb.mono (Kp.sub (H:=H) zK)) (by omega) (fun r=>!decide (Lin.dot a r=0)) (fun r hr H' w hk' hw'=>cone_keeps_f1 C hk'.wf hw' (hk'.get (dZ)) (ha.mono (Kp.sub (H:=H) (Kp.trans zK hk'))) (by rw [hal]; exact (hE.len r hr).symm) (by omega) hae (hE.bt r hr) hbt)) fun H2 hk2=>?_
 obtain ⟨k2,_,w2⟩:=zT H zK hk2
 have hbx:H2.get H.next=some (.cells [va] ae true):=hk2.get (dZ)
 cases hx:E.any (fun r=>!decide (Lin.dot a r=0)) with
 | true =>
  refine zW (aT hl g0 g1 g2) ?_
  exact ⟨by unfold Lin.keepB; rw [hx]; rfl,zK⟩
 | false =>
  refine zW (aT hl g0 g1 g2) ?_
  refine AnsH.eq (lp C (l:=I) zF (hc.mono (Kp.sub (H:=H) zK)) (by omega) (fun r=>decide (Lin.dot a r<0)) (fun r hr H' w hk' hw'=>cone_keeps_f2 C hk'.wf hw' (hk'.get hbx) (ha.mono (Kp.sub (H:=H) (Kp.trans zK hk'))) (by rw [hal]; exact (hI.len r hr).symm) (by omega) hae (hI.bt r hr) hbt)) fun H3 hk3=>?_
  obtain ⟨k3,_,_⟩:=zT H zK hk3
  refine zW (aT hl g0 g1 g2) ?_
  exact ⟨by unfold Lin.keepB; rw [hx]; rfl,zK⟩
theorem cone_asked (C:Code tab) (hw:Wf H) {va vb vc:AV} {a:List (Bool × List Nat)} {E I:List (List Int)} {d f:Nat} (ha:SlV rawE aa H va a) (hb:RowsV H vb E) (hc:RowsV H vc I) (hal:a.length=d) (d0:0<d) (d64:d<=64) (hE:RowsB d f E) (hI:RowsB d f I) (lE:E.length<=1024) (lI:I.length<=1024) (hf:f<=8796093022208) (hba:yv a) :
  Ans tab (.fn gY [va,vb,vc]) H fun v H'=>v=.int .i64 (aZ [a])/\Kp H H':=by
 have oa:=ha.one
 have ob:=hb.one
 have oc:=hc.one
 have ok1:=hE.ok d0 d64 hf
 have ok2:=hI.ok d0 d64 hf
 refine kL C.cone_asked (by decide) fun T hl g0 g1 g2=>?_
 refine zW (aT hl g0 g1 g2) ?_
 refine AnsH.eq (cone_checked C zF ((kh hb).mono (Kp.sub (H:=H) zK)) ((kh hc).mono (Kp.sub (H:=H) zK)) (by rw [List.length_map]; omega) (by rw [List.length_map]; omega) (fun r hr=>?_) (fun r hr=>?_)) fun H2 hk2=>?_
 ·obtain ⟨x,hx,rfl⟩:=List.mem_map.1 hr
  exact jC (by rw [ok1.len x hx]; omega) (ok1.sm x hx)
 ·obtain ⟨x,hx,rfl⟩:=List.mem_map.1 hr
  exact jC (by rw [ok2.len x hx]; omega) (ok2.sm x hx)
 rw [pN ok1 ok2 lE lI]
 obtain ⟨k2,_,w2⟩:=zT H zK hk2
 refine zW (aT hl g0 g1 g2) ?_
 refine AnsH.eq (rows_Check C (ls:=[a]) zF (Gj (E:=rawE) (t1:=aa) (ha.mono k2.sub) (Kp.sub (H:=H2) zK) (dZ)) (by simp) (fun r hr=>by rw [List.mem_singleton] at hr; subst hr; exact hba)) fun H3 hk3=>?_
 obtain ⟨k3,_,w3⟩:=zT H zK hk3
 by_cases h0:aZ [a]=0
 ·refine zW (dg hl g0 g1 g2 h0) ?_
  refine AnsH.eq (cone_long C (Ls:=[E,I]) (d:=d) zF (pH (E:=rowsE) (t1:=ae) (hb.mono k3.sub) (hc.mono k3.sub) (Kp.sub (H:=H3) zK) (dZ)) (by simp) (fun L hL r hr=>?_)) fun H4 hk4=>?_
  ·rcases List.mem_cons.1 hL with rfl | hL
   ·exact ok1.len r hr
   ·rcases List.mem_cons.1 hL with rfl | hL
    ·exact ok2.len r hr
    ·cases hL
  obtain ⟨k4,_,_⟩:=zT H zK hk4
  have la:lenV va=some (.int .i64 (d:Int)):=by rw [ha.lenV,hal]
  have q3:(0:Int)<=(d:Int):=by omega
  cases hany:[E,I].any (fun L=>!L.isEmpty) with
  | true =>
   refine zW (ij hl g0 g1 g2 la q3) ?_
   exact ⟨by rw [h0],zK⟩
  | false =>
   refine zW (aT hl g0 g1 g2) ?_
   exact ⟨by rw [h0],zK⟩
 ·refine zW (dg hl g0 g1 g2 h0) ?_
  exact zK
theorem y5 {a:List Int} (h0:0<a.length) (h64:a.length<=64):aZ [a.map kj]=0:=by
 refine oE (by simp) (fun k hk=>?_) fun k hk=>?_
 ·have:k=0:=by simpa using hk
  subst this
  unfold pQ
  simp only [List.getElem_cons_zero]
  rw [AW h64,decide_eq_false (by rw [List.length_map]; omega)]
  rfl
 ·have:k=0:=by simpa using hk
  subst this; rfl
theorem cone_Keeps (C:Code tab) (hw:Wf H) {va vb vc:AV} {a:List Int} {E I:List (List Int)} {d e f:Nat} (ha:RowV H va a) (hb:RowsV H vb E) (hc:RowsV H vc I) (hal:a.length=d) (d0:0<d) (d64:d<=64) (hE:RowsB d f E) (hI:RowsB d f I) (lE:E.length<=1024) (lI:I.length<=1024) (hae:∀ z∈a,Bt e z) (hbt:e+f+7<=8796093022208) :
  Ans tab (.fn jH [va,vb,vc]) H fun v H'=>v=.tup [.bool (Lin.keepB a E I),.int .i64 0]/\Kp H H':=by
 refine kL C.cone_Keeps (by decide) fun T hl g0 g1 g2=>?_
 refine zW (aT hl g0 g1 g2) ?_
 refine AnsH.eq (cone_asked C zF ((SlV.raw ha).mono (Kp.sub (H:=H) zK)) (hb.mono (Kp.sub (H:=H) zK)) (hc.mono (Kp.sub (H:=H) zK)) (by rw [List.length_map]; exact hal) d0 d64 hE hI lE lI (by omega) (jC (by omega) fun z hz=>(hae z hz).sm (by omega))) fun H2 hk2=>?_
 rw [y5 (by omega) (by omega)]
 obtain ⟨k2,_,w2⟩:=zT H zK hk2
 refine zW (aT hl g0 g1 g2) ?_
 refine AnsH.eq (cone_keeps C zF (ha.mono (Kp.sub (H:=H) zK)) (hb.mono (Kp.sub (H:=H) zK)) (hc.mono (Kp.sub (H:=H) zK)) hal d64 hE hI (by omega) (by omega) hae hbt) fun H3 hk3=>?_
 obtain ⟨k3,_,_⟩:=zT H zK hk3
 refine zW (aT hl g0 g1 g2) ?_
 exact zK
theorem cone_Made (C:Code tab) (hw:Wf H) {va vb vc:AV} {a:List Int} {E I:List (List Int)} {d e m:Nat} (ha:RowV H va a) (hb:RowsV H vb E) (hc:RowsV H vc I) (hal:a.length=d) (d0:0<d) (d6:d<=6) (hE:∀ r∈E,r.length=d/\Lin.Bd (2^m) r) (hI:∀ r∈I,r.length=d/\Lin.Bd (2^m) r) (lE:E.length<=1024) (lI:I.length<=20) (hm:m<=300000) (hae:∀ z∈a,Bt e z) (he:e<=1099511627776) :
  Ans tab (.fn gG [va,vb,vc]) H fun v H'=>v=.tup [.bool (Lin.keepB a (Lin.gensL d E I) (Lin.gensR d E I)),.int .i64 0]/\Kp H H':=by
 obtain ⟨o1,o2⟩:=tc (m:=m) d0 d6 hE hI
 have t1:=Lin.gens_told (d:=d) (fun a ha=>(hE a ha).1) (fun a ha=>(hI a ha).1)
 have lL:=mN t1.form
 have lR:=t1.dd.count
 have hp:2^I.length<=2^20:=Nat.pow_le_pow_right (by decide) lI
 have hp2:(2:Nat)^20=1048576:=by decide
 have la:lenV va=some (.int .i64 (d:Int)):=by rw [ha.lenV,hal]
 refine kL C.cone_Made (by decide) fun T hl g0 g1 g2=>?_
 refine zW (aT hl g0 g1 g2) ?_
 refine AnsH.eq (cone_asked C (f:=m+1) zF ((SlV.raw ha).mono (Kp.sub (H:=H) zK)) (hb.mono (Kp.sub (H:=H) zK)) (hc.mono (Kp.sub (H:=H) zK)) (by rw [List.length_map]; exact hal) d0 (by omega) (RowsB.of hE) (RowsB.of hI) lE (by omega) (by omega) (jC (by omega) fun z hz=>(hae z hz).sm (by omega))) fun H2 hk2=>?_
 rw [y5 (by omega) (by omega)]
 obtain ⟨k2,_,w2⟩:=zT H zK hk2
 refine zW (dg hl g0 g1 g2 la) ?_
 refine AnsH.use (cone_Gens C (d:=d) (m:=m) zF (hb.mono (Kp.sub (H:=H) zK)) (hc.mono (Kp.sub (H:=H) zK)) d0 d6 lE lI hE hI hm) ?_
 rintro v H3 ⟨p,q,rfl,hp3,hq3,hk3⟩
 obtain ⟨k3,_,w3⟩:=zT H zK hk3
 refine zW (aT hl g0 g1 g2) ?_
 refine AnsH.eq (cone_keeps C (f:=64*(m+4)+1) zF (ha.mono (Kp.sub (H:=H) zK)) (hp3.mono (Kp.sub (H:=H3) zK)) (hq3.mono (Kp.sub (H:=H3) zK)) hal (by omega) (RowsB.of o1) (RowsB.of o2) (by omega) (by omega) hae (by omega)) fun H4 hk4=>?_
 obtain ⟨k4,_,_⟩:=zT H zK hk4
 refine zW (aT hl g0 g1 g2) ?_
 exact zK
end
section
variable {tab:Nat->Option au} {H:Heap} {s:AV}
theorem vec_Add_f1 (C:Code tab) (hw:Wf H) {i:Nat} {a:AV} {b:Nat} {x:Int} {l:List Int} (hi:i<l.length) (ha:IntV H a x) (hb:BoxR H b l) (hx:fu x) (hy:fu l[i]) :
  Ans tab (.fn jF [.int .i64 (i:Int),a,.ptr b 0]) H fun v H'=>IntV H' v (x+l[i])/\Kp H H':=by
 obtain ⟨p,rfl,hp⟩:=ha
 obtain ⟨q,hb,hq⟩:=hb
 have op:=hp.one
 have lb:=hw _ _ hb
 obtain ⟨w,hn,L,hix⟩:=jK hw hq hi
 have Lp:=L.put
 have Ll:=L.ld
 refine kL C.vec_Add_f1 (by decide) fun T hl g0 g1 g2=>?_
 refine zW (aT hl g0 g1 g2) ?_
 refine aS ?_
 refine zD (lK hl g0 g1 g2 hb hix Lp Ll) ?_
 refine AnsH.use (vec_sum C zF ⟨p,rfl,hp.mono (Kp.sub (H:=H) zK)⟩ ⟨w,rfl,hn.mono (Kp.sub (H:=H) zK)⟩ hx hy) ?_
 rintro v H2 ⟨⟨r,rfl,hr⟩,hk2⟩
 obtain ⟨k2,_,w2⟩:=zT H zK hk2
 have orr:=hr.one
 have d1:=hk2.get (b:=H.next+1) (e:=.cells [.bool false,.nilSl] aa true) (dZ)
 have lt1:=w2 _ _ d1
 have m1:NoTy [ad] H2 (H.next+1):=NoTy.ty d1 (by decide)
 refine zD (nt hl g0 g1 g2 hb hix Lp Ll d1) ?_
 exact ⟨⟨r,rfl,SlV.monoT (E:=bB bV) zS hr⟩,zK⟩
theorem vec_Add (C:Code tab) (hw:Wf H) {a b:AV} {l m:List Int} (ha:RowV H a l) (hb:RowV H b m) (hlm:l.length=m.length) (h64:l.length<=64) (hl':∀ z∈l,fu z) (hm':∀ z∈m,fu z) :
  Ans tab (.fn l6 [a,b]) H fun v H'=>∃ r,v=.tup [r,.int .i64 0]/\RowV H' r (Lin.mix 1 l 1 m)/\Kp H H':=by
 have oa:=ha.one
 have ob:=hb.one
 refine cz C.vec_Add (by decide) fun T hl g0 g1=>?_
 refine zW (aE hl g0 g1) ?_
 refine AnsH.eq (d9 C (d:=l.length) zF (pH ha hb (Kp.sub (H:=H) zK) (by refine sS ?_; rfl)) (by simp) (by simp) h64 fun r hr=>?_) fun H2 hk2=>?_
 ·simp at hr; rcases hr with rfl | rfl
  ·exact ⟨rfl,hl'⟩
  ·exact ⟨hlm.symm,hm'⟩
 obtain ⟨k2,_,w2⟩:=zT H zK hk2
 have b0:=hk2.get (b:=H.next) (e:=.cells [b] ae true) (dZ)
 refine zW (aE hl g0 g1) ?_
 refine AnsH.use (vec_each C zF (ha.mono (Kp.sub (H:=H) zK)) (by omega) (fun i z=>z+m.getD i 0) fun i hi H' w hk hv=>?_) ?_
 ·have hi2:i<m.length:=by omega
  have e:m.getD i 0=m[i]:=by simp [hi2]
  show Ans tab _ H' fun v H2=>IntV H2 v (l[i]+m.getD i 0)/\Kp H' H2
  rw [e]
  exact vec_Add_f1 C hk.wf hi2 hv ⟨b,hk.get (b:=H.next) (zV @b0),hb.mono (Kp.sub (H:=H) (Kp.trans zK hk))⟩ (hl' _ (List.getElem_mem hi)) (hm' _ (List.getElem_mem hi2))
 ·rintro v H4 ⟨hr,hk4⟩
  obtain ⟨k4,_,_⟩:=zT H zK hk4
  rw [yC hlm (fun x y=>x+y)] at hr
  have e:List.zipWith (fun x y=>x+y) l m=Lin.mix 1 l 1 m:=by simp [Lin.mix]
  rw [e] at hr
  refine zW (aE hl g0 g1) ?_
  exact ⟨_,rfl,hr,zK⟩
end
section
variable {tab:Nat->Option au} {H:Heap} {s:AV}
end
section
variable {tab:Nat->Option au} {H:Heap} {s:AV}
theorem re (C:Code tab) (hw:Wf H) {a b:AV} {l m:List Nat} (ha:Lb H a l) (hb:Lb H b m) (hl':l.length<4611686018427387904) :
  Ans tab (.fn ca [a,b]) H fun v H'=>v=.bool (decide (l=m))/\Kp H H':=by
 refine cz C.slices_Equal_api_Nat_uint64 (by decide) fun T hl g0 g1=>?_
 by_cases he:l.length=m.length
 ·have lb:lenV b=some (.int .i64 (l.length:Int)):=by rw [hb.lenV,he]
  refine zW (dg hl g0 g1 ha.lenV lb) ?_
  refine am H [] (fun j _ _=>∀ q (h:q<l.length) (h':q<m.length),q<j->l[q]=m[q]) (a:=0) (N:=l.length) rfl (by refine zW (aE hl g0 g1) ?_; rfl) (zV (aE hl g0 g1)) (Nat.zero_le _) (by omega) (by simp only [List.length_set,hl]; rfl) rfl (fun _ _ _ _ h=>h) zK (fun q _ _ h=>by omega) ?_ ?_
  ·intro i T1 H1 _ hi hl1 hi1 hs1 hk1 hP
   have w1:=hk1.wf
   have le_hk1:=hk1.le
   have t0:af T1 0=a:=(hs1.at_ 0 (by decide)).trans (zV (az hl g0))
   have t1:af T1 1=b:=(hs1.at_ 1 (by decide)).trans (zV (aT hl g0 g1 g1))
   have hi':i<m.length:=by omega
   obtain ⟨w,hr,hld⟩:=SlV.at1 (ha.mono hk1.sub) (List.getElem?_eq_getElem hi)
   obtain ⟨w',hr',hld'⟩:=SlV.at1 (hb.mono hk1.sub) (List.getElem?_eq_getElem hi')
   have hr:w=.int .u64 ((l[i]:Nat):Int):=hr
   have hr':w'=.int .u64 ((m[i]:Nat):Int):=hr'
   subst hr; subst hr'
   have hix:=SlV.idx1 ha .i64 i hi
   have hix':=SlV.idx1 hb .i64 i hi'
   simp only [List.length_set,hl] at hl1
   refine zW (aT hl1 t0 t1 hi1) ?_
   refine aS ?_
   by_cases hq:l[i]=m[i]
   ·have hq':((l[i]:Nat):Int)=((m[i]:Nat):Int):=by omega
    refine zD (lK hl1 t0 t1 hix hld hix' hld' hq') ?_
    refine ⟨zK,fun q h h' hqi=>?_⟩
    by_cases eq:q=i
    ·subst eq; exact hq
    ·exact hP q h h' (by omega)
   ·have hq':¬ ((l[i]:Nat):Int)=((m[i]:Nat):Int):=by omega
    refine zD (nt hl1 t0 t1 hix hld hix' hld' hq' hq) ?_
    refine ⟨?_,zK⟩
    rw [decide_eq_false]
    intro e; subst e; exact hq rfl
  ·intro T1 H1 hl1 hs1 hk1 hP
   simp only [List.length_set,hl] at hl1
   refine zW hl1 ?_
   exact ⟨by rw [decide_eq_true (mg he fun q h h'=>hP q h h' h)],zK⟩
 ·have he':¬ (l.length:Int)=(m.length:Int):=by omega
  refine zW (lG hl g0 g1 ha.lenV hb.lenV he' he) ?_
  refine ⟨?_,zK⟩
  rw [decide_eq_false]
  intro e; subst e; exact he rfl
theorem whole_Same (C:Code tab) (hw:Wf H) {a b:AV} {x y:Int} (ha:IntV H a x) (hb:IntV H b y) (hx:fu x) :
  Ans tab (.fn fE [a,b]) H fun v H'=>v=.bool (decide (x=y))/\Kp H H':=by
 obtain ⟨p,rfl,hp⟩:=ha
 obtain ⟨q,rfl,hq⟩:=hb
 have op:=hp.one
 have oq:=hq.one
 unfold fu Sm at hx
 refine cz C.whole_Same (by decide) fun T hl g0 g1=>?_
 by_cases h:decide (x<0)=decide (y<0)
 ·have h':(decide (x<0) == decide (y<0))=true:=by rw [h]; simp
  refine zW (aT hl g0 g1 h') ?_
  refine AnsH.eq (re C zF (hp.mono (Kp.sub (H:=H) zK)) (hq.mono (Kp.sub (H:=H) zK)) (by omega)) fun H2 hk2=>?_
  obtain ⟨k2,_,_⟩:=zT H zK hk2
  refine zW (aE hl g0 g1) ?_
  refine ⟨?_,zK⟩
  by_cases e:x=y
  ·rw [decide_eq_true e,decide_eq_true (by rw [e])]
  ·rw [decide_eq_false e,decide_eq_false]
   intro h2
   have:=wE h2
   have h3:(x<0) ↔ (y<0):=by simpa using h
   omega
 ·have h':(decide (x<0) == decide (y<0))=false:=by simpa using h
  refine zW (aT hl g0 g1 h') ?_
  refine ⟨?_,zK⟩
  rw [decide_eq_false]
  intro e; subst e; exact h rfl
theorem vec_Same (C:Code tab) (hw:Wf H) {a b:AV} {l m:List Int} (ha:RowV H a l) (hb:RowV H b m) (hbig:l.length<1099511627776) (hz:∀ z∈l,fu z) :
  Ans tab (.fn mE [a,b]) H fun v H'=>v=.bool (decide (l=m))/\Kp H H':=by
 have key:∀ {H:Heap},Wf H->RowV H a l->RowV H b m->Ans tab (.fn aG [a,b,.fn (.func fE) [] []]) H fun v H'=>v=.bool (decide (l=m))/\Kp H H':=by
  intro H hw ha hb
  refine kL C.slices_EqualFunc_api_Vec_api_Vec_api_Int_api_Int (by decide) fun T hl g0 g1 g2=>?_
  by_cases he:l.length=m.length
  ·have lb:lenV b=some (.int .i64 (l.length:Int)):=by rw [hb.lenV,he]
   refine zW (ij hl g0 g1 g2 ha.lenV lb) ?_
   refine am H [] (fun j _ _=>∀ q (h:q<l.length) (h':q<m.length),q<j->l[q]=m[q]) (a:=0) (N:=l.length) rfl (by refine zW (aT hl g0 g1 g2) ?_; rfl) (zV (aT hl g0 g1 g2)) (Nat.zero_le _) (by omega) (by simp only [List.length_set,hl]; rfl) rfl (fun _ _ _ _ h=>h) zK (fun q _ _ h=>by omega) ?_ ?_
   ·intro j T1 H1 _ hj hl1 hi1 hs1 hk1 hP
    have w1:=hk1.wf
    have le_hk1:=hk1.le
    have hj2:j<m.length:=by omega
    have t15:af T1 15=a:=(hs1.at_ 15 (by decide)).trans (zV (az hl g0))
    have t1:af T1 1=b:=(hs1.at_ 1 (by decide)).trans (zV (dg hl g0 g1 g2 g1))
    have t2:af T1 2=.fn (.func fE) [] []:=(hs1.at_ 2 (by decide)).trans (zV (dg hl g0 g1 g2 g2))
    obtain ⟨w,hn,L0,hix⟩:=jK w1 (ha.mono hk1.sub) hj
    obtain ⟨u,hu,L,hiy⟩:=jK w1 (hb.mono hk1.sub) hj2
    have ow:=hn.one
    have ou:=hu.one
    have Lp0:=L0.put
    have Ll0:=L0.ld
    have Lp:=L.put
    have Ll:=L.ld
    simp only [List.length_set,hl] at hl1
    refine zW (qW hl1 t15 t1 t2 hi1 hix Lp0 Ll0 hiy Lp Ll) ?_
    refine AnsH.eq (whole_Same C (x:=l[j]) (y:=m[j]) zF ⟨w,rfl,hn.mono (Kp.sub (H:=H1) zK)⟩ ⟨u,rfl,hu.mono (Kp.sub (H:=H1) zK)⟩ (hz _ (List.getElem_mem hj))) fun H2 hk2=>?_
    obtain ⟨k2,_,_⟩:=zT H zK hk2
    cases hq:decide (l[j]=m[j]) with
    | true =>
     have hq:=of_decide_eq_true hq
     refine zW hl1 ?_
     refine ⟨zK,fun q h h' hqi=>?_⟩
     by_cases e:q=j
     ·subst e; exact hq
     ·exact hP q h h' (by omega)
    | false =>
     have hq:=of_decide_eq_false hq
     refine zW hl1 ?_
     refine ⟨?_,zK⟩
     rw [decide_eq_false]
     intro e; subst e; exact hq rfl
   ·intro T1 H1 hl1 hs1 hk1 hP
    simp only [List.length_set,hl] at hl1
    refine zW hl1 ?_
    exact ⟨by rw [decide_eq_true (mg he fun q h h'=>hP q h h' h)],zK⟩
  ·have he':¬ (l.length:Int)=(m.length:Int):=by omega
   refine zW (lK hl g0 g1 g2 ha.lenV hb.lenV he' he) ?_
   refine ⟨?_,zK⟩
   rw [decide_eq_false]
   intro e; subst e; exact he rfl
 refine cz C.vec_Same (by decide) fun T hl g0 g1=>?_
 refine zW (aE hl g0 g1) ?_
 refine AnsH.eq (key zF (ha.mono (Kp.sub (H:=H) zK)) (hb.mono (Kp.sub (H:=H) zK))) fun H2 hk2=>?_
 obtain ⟨k2,_,_⟩:=zT H zK hk2
 refine zW (aE hl g0 g1) ?_
 exact zK
theorem vec_Zero_f1 (C:Code tab) (hw:Wf H) {cs:List AV} {z:Int} (hz:intE.R H cs z) :
  Ans tab (.fn iS [.agg cs]) H fun v H'=>v=.bool (!decide (z=0))/\Kp H H':=by
 obtain ⟨w,rfl,hn⟩:=hz
 have ow:=hn.one
 refine dU C.vec_Zero_f1 (by decide) fun T hl g0=>?_
 cases h:decide (z<0) with
 | true =>
  have h1:=of_decide_eq_true h
  refine zW (aE hl g0 h) ?_
  exact ⟨by rw [decide_eq_false (by omega)]; rfl,zK⟩
 | false =>
  refine zW (aT hl g0 h hn.lenV) ?_
  refine ⟨?_,zK⟩
  by_cases hz:z=0
  ·subst hz; simp [cp]
  ·have:0<(ag z.natAbs).length:=by
    rcases Nat.eq_zero_or_pos (ag z.natAbs).length with e | e
    ·have:=limbs_nil.1 (List.eq_nil_of_length_eq_zero e)
     omega
    ·exact e
   rw [decide_eq_true this,decide_eq_false hz]; rfl
theorem vec_Zero (C:Code tab) (hw:Wf H) {l:List Int} (hs:RowV H s l) (hbig:l.length<4611686018427387904) :
  Ans tab (.fn mD [s]) H fun v H'=>v=.bool (!l.any fun z=>!decide (z=0))/\Kp H H':=by
 refine dU C.vec_Zero (by decide) fun T hl g0=>?_
 refine zW (az hl g0) ?_
 refine AnsH.eq (mr C zF rfl (hs.mono (Kp.sub (H:=H) zK)) hbig (fun z=>!decide (z=0)) fun a ha H' cs hk hr=>vec_Zero_f1 C hk.wf hr) fun H2 hk2=>?_
 obtain ⟨k2,_,_⟩:=zT H zK hk2
 refine zW (az hl g0) ?_
 exact zK
end
section
variable {tab:Nat->Option au} {H:Heap} {s:AV}
theorem RowsV.ne_new {H:Heap} {v:AV} {l:List (List Int)} (h:RowsV H v l) (hw:Wf H) {b:Nat} (hb:H.next<=b):∀ off m c z x,v ≠ .own b off m c z x:=fun off m c z x e=>by
 obtain ⟨cells,-,ht,-⟩:=h
 obtain ⟨cs,r,hg⟩:=ht _ _ _ _ _ _ e
 rw [hw.fresh hb] at hg; cases hg
set_option maxHeartbeats 4000000 in
theorem law20_ConeFew (C:Code tab) (hw:Wf H) {va vb:AV} {d:Int} {A B:List (List (Bool × List Nat))} (ha:gK H va A) (hb:gK H vb B) (gA:∀ r∈A,gZ r) (gB:∀ r∈B,gZ r) (_ : -9223372036854775808<=d/\d<9223372036854775808) :
  Ans tab (.fn dS [.int .i64 d,va,vb]) H fun v H'=>v=.bool true/\Kp H H':=by
 refine Al C.facetroomlaw20_ConeFew rfl rfl (by decide) fun T hl g=>?_
 have hl:T.length=140:=hl
 have hrs:c_facetroomlaw20_ConeFew.results=[(6,none)]:=rfl
 have g0:af T 0=.int .i64 d:=g 0 (by simp)
 have g1:af T 1=va:=g 1 (by simp)
 have g2:af T 2=vb:=g 2 (by simp)
 refine cr ?_
 refine zW (az hl @aU) ?_
 refine cr ?_
 refine zW hl ?_
 refine AnsH.eq (zp C zF) fun H2 hk2=>?_
 obtain ⟨k2,_,w2⟩:=zT H zK hk2
 refine zW (az hl @aU) ?_
 refine cr ?_
 refine zW (aT hl g0 g1 g2) ?_
 refine AnsH.eq (zo C zF (ha.mono (Kp.sub (H:=H) zK)) (hb.mono (Kp.sub (H:=H) zK))) fun H3 hk3=>?_
 obtain ⟨k3,_,w3⟩:=zT H zK hk3
 cases hg:cC 4 5 1 A || cC 7 5 1 B || decide (5<d) with
 | true =>
  refine zW (aE hl @nE hrs) ?_
  exact zK
 | false =>
 simp only [Bool.or_eq_false_iff,decide_eq_false_iff_not] at hg
 obtain ⟨⟨q1,q2⟩,q3⟩:=hg
 refine zW (az hl @aU) ?_
 refine cr ?_
 refine zW (aT hl g0 g1 g2) ?_
 rcases DR C ha hb gA gB q1 q2 q3 with hbad | ⟨dd,E,I,rfl,d0,d5,hE,hI,gE,gI⟩
 ·refine AnsH.use (hbad _ zF (Kp.sub (H:=H) zK)) ?_
  rintro v H4 ⟨e,he,rfl,hk4⟩
  obtain ⟨k4,_,w4⟩:=zT H zK hk4
  refine zW (az hl @aU) ?_
  refine cr ?_
  refine zW (aT hl he @nE hrs) ?_
  exact zK
 refine AnsH.use (cone_Gens C (d:=dd) (m:=64) zF (hE.mono (Kp.sub (H:=H) zK)) (hI.mono (Kp.sub (H:=H) zK)) d0 (by omega) (by have:=gE.len; omega) (by have:=gI.len; omega) gE.row gI.row (by omega)) ?_
 rintro v H4 ⟨p,q,rfl,hp,hq,hk4⟩
 obtain ⟨k4,_,w4⟩:=zT H zK hk4
 have e1:∀ a∈E,a.length=dd:=fun a ha=>(gE.row a ha).1
 have e2:∀ a∈I,a.length=dd:=fun a ha=>(gI.row a ha).1
 obtain ⟨o1,o2⟩:=tc (m:=64) d0 (by omega) gE.row gI.row
 have t1:=Lin.gens_told (d:=dd) e1 e2
 have lL:=mN t1.form
 have few:=fun {S:List (List Int)} {r:List Int}=>Lin.few_made (S:=S) (r:=r) e1 e2
 have hff:Lin.formF (Lin.gensL dd E I)=Lin.gensL dd E I:=by
  unfold Lin.gensL
  exact wM (fun r hr=>(Lin.gensU_dd e1 e2).lenL r hr)
 obtain ⟨L,hL⟩:∃ L,L=Lin.gensL dd E I:=⟨_,rfl⟩
 obtain ⟨R,hR⟩:∃ R,R=Lin.gensR dd E I:=⟨_,rfl⟩
 rw [<- hL] at hp o1 lL hff few t1
 rw [<- hR] at hq o2 few t1
 have bL:=RowsB.of o1
 have bR:=RowsB.of o2
 have hfb:=Gz (e:=64*(64+4)+1) (d:=dd) (by omega)
 have sm2:∀ {X:List (List Int)},RowsB dd (64*(64+4)+1) X->∀ r∈X,r.length<1099511627776/\∀ z∈r,fu z:=fun h r hr=>⟨by rw [h.len r hr]; omega,fun z hz=>(h.bt r hr z hz).sm (by omega)⟩
 refine zW (az hl @aU) ?_
 refine cr ?_
 by_cases h12:(12:Int)<(R.length:Int)
 ·refine zW (dg hl hq.lenV h12 @nE hrs) ?_
  exact zK
 have l12:R.length<=12:=by omega
 refine zW (aT hl hq.lenV h12 @aU) ?_
 refine gf (fun T' H'=>Kp H4 H') rfl ?_ ?_
 ·refine zW hl ?_
  refine bX H4 [11] (fun k vs H'=>∃ i:Nat,vs=[.int .i64 (i:Int)]/\i+k=R.length) R.length (by simp only [List.length_set]; exact hl) rfl zK ⟨0,by refine zW hl ?_; rfl,by omega⟩ ?_
  rintro k T1 H1 hl1 hs1 hk1 ⟨i,hv,hik⟩
  have w1:=hk1.wf
  have le_hk1:=hk1.le
  have le1:=hk1.le
  simp only [List.map_cons,List.map_nil,List.cons.injEq,and_true] at hv
  have t8:af T1 8=p:=(hs1.at_ 8 (by decide)).trans (zV hl)
  have t9:af T1 9=q:=(hs1.at_ 9 (by decide)).trans (zV hl)
  by_cases hi:i<R.length
  ·have hii:(i:Int)<(R.length:Int):=by omega
   have hmi:=List.getElem_mem hi
   have hq1:=hq.mono hk1.sub
   have hp1:=hp.mono hk1.sub
   obtain ⟨v1,s1,r1⟩:=SlV.hi hq1 .i64 i (by omega)
   have s1':bN 1 q none (some (.int .i64 (i:Int))) none=some v1:=s1
   have ei:IntKind.i64.wrap ((i:Int)+1)=((i+1:Nat):Int):=by rw [wrap_i64] <;> omega
   obtain ⟨v2,s2,r2⟩:=SlV.lo hq1 .i64 (i+1) (by omega)
   have s2':bN 1 q (some (.int .i64 ((i+1:Nat):Int))) none none=some v2:=s2
   have f9:(H1.up 11).get (H1.next+9)=none:=w1.fresh (b:=H1.next+9) (by omega)
   obtain ⟨o3,G3,e3,b3,k3',nx3,-,-⟩:=Bl.app (E:=rowsE) (ty:=ae) (ty2:=ae) (bytes:=24) (id:=H1.next+9) (H0:=H1) (H:=H1.up 11) (v:=.nilSl) (l:=[]) (.inl ⟨rfl,rfl⟩) (by decide) zK (r1.mono (Sub.bump H1 11)) (by omega) (by rw [eQ]; omega) f9 (fun b n h=>by cases h) (by simp; omega) (by simp; omega)
   have e3':ft (H1.up 11) (H1.next+9) 1 24 ae .nilSl v1=some (o3,G3):=e3
   rw [eQ] at nx3
   rw [List.nil_append] at b3
   have wG3:=k3'.wf
   have f5:(G3.up 7).get (G3.next+5)=none:=wG3.fresh (b:=G3.next+5) (by omega)
   obtain ⟨o4,G4,e4,b4,k4',nx4,-,-⟩:=Bl.app (E:=rowsE) (ty:=ae) (ty2:=ae) (bytes:=24) (id:=G3.next+5) (H0:=H1) (H:=G3.up 7) (b3.mono (Sub.bump G3 7)) (by decide) (k3'.up 7) ((r2.mono k3'.sub).mono (Sub.bump G3 7)) (by omega) (by rw [eQ]; omega) f5 (fun b n hv off m c z x hw=>by
    rcases b3 with ⟨h,-⟩ | ⟨b',cells,h,-,-,hb1⟩
    ·rw [h] at hv; cases hv
    ·rw [h] at hv; cases hv
     exact RowsV.ne_new r2 w1 hb1 _ _ _ _ _ hw) (by simp; omega) (by simp; omega)
   have e4':ft (G3.up 7) (H1.next+16) 1 24 ae o3 v2=some (o4,G4):=by
    have h:=e4
    rw [nx3] at h
    exact h
   rw [eQ,nx3] at nx4
   have wG4:=k4'.wf
   have kH4:Kp H4 G4:=hk1.trans k4'
   obtain ⟨w,hr,hld⟩:=cM hq1 hi
   have hix:=SlV.idx1 hq .i64 i hi
   have hld4:=cy k4'.sub hld
   have lo:(R.take i++R.drop (i+1)).length<=20:=by simp; omega
   have ho:∀ r∈R.take i++R.drop (i+1),r.length=dd/\Lin.Bd (2^(64*(64+4))) r:=fun r hr=>o2 r (Lin.others_mem t1 hi r hr).1
   have hfew:=few hmi (Lin.others_mem t1 hi)
   refine zW (MI hl1 hv t8 t9 hq.lenV hii hi s1' e3' ei s2' e4' hix hld4 nx3 nx4) ?_
   have hk4:=kH4.sub
   have hr4:=hr.mono k4'.sub
   refine AnsH.eq (cone_Made C (d:=dd) (m:=64*(64+4)) (e:=64*(64+4)+1) zF (hr4.mono (Kp.sub (H:=G4) zK)) ((hp.mono hk4).mono (Kp.sub (H:=G4) zK)) (b4.sl.mono (Kp.sub (H:=G4) zK)) (bR.len _ hmi) d0 (by omega) o1 ho (by omega) lo (by omega) (bR.bt _ hmi) (by omega)) fun H5 hk5=>?_
   rw [hfew]
   obtain ⟨k45,_,_⟩:=zT G4 zK hk5
   have k05:Kp H4 H5:=kH4.trans k45
   have le_k05:=k05.le
   have w5:=k05.wf
   have hr5:=hr4.mono k45.sub
   have hld5:=cy k45.sub hld4
   refine zW (ij hl1 hv t8 t9 hix hld5) ?_
   refine AnsH.use (rows_Reduce C (d:=dd) (e:=64*(64+4)+1) zF (hr5.mono (Kp.sub (H:=H5) zK)) ((hp.mono k05.sub).mono (Kp.sub (H:=H5) zK)) (by omega) d0 (by omega) (bR.len _ hmi) bL.len (bR.bt _ hmi) bL.bt (by omega)) ?_
   rintro v6 H6 ⟨r6,rfl,hr6,hk6⟩
   rw [hff,Lin.rest_same t1 hmi] at hr6
   obtain ⟨k56,_,_⟩:=zT H5 zK hk6
   have k06:Kp H4 H6:=k05.trans k56
   have le_k06:=k06.le
   have w6:=k06.wf
   have hr6':=hr5.mono k56.sub
   have hld6:=cy k56.sub hld5
   have hlen:R[i].length<4611686018427387904:=by rw [bR.len _ hmi]; omega
   refine zW (ij hl1 hv t8 t9 hix hld6) ?_
   refine AnsH.eq (vec_Zero C zF (hr6'.mono (Kp.sub (H:=H6) zK)) hlen) fun H7 hk7=>?_
   rw [Lin.ray_some t1 hmi]
   obtain ⟨k67,_,_⟩:=zT H6 zK hk7
   have k07:Kp H4 H7:=k06.trans k67
   have le_k07:=k07.le
   have w7:=k07.wf
   have hld7:=cy k67.sub hld6
   refine zW (ij hl1 hv t8 t9 hix hld7) ?_
   refine AnsH.eq (vec_Same C zF ((hr6.mono k67.sub).mono (Kp.sub (H:=H7) zK)) ((hr6'.mono k67.sub).mono (Kp.sub (H:=H7) zK)) (by rw [bR.len _ hmi]; omega) (sm2 bR _ hmi).2) fun H8 hk8=>?_
   rw [decide_eq_true rfl]
   obtain ⟨k78,_,_⟩:=zT H7 zK hk8
   have k08:Kp H4 H8:=k07.trans k78
   have le_k08:=k08.le
   have w8:=k08.wf
   rcases Nat.eq_zero_or_pos i with h0 | h0
   ·subst h0
    have hv:af T1 11=.int .i64 0:=hv
    have ei:IntKind.i64.wrap (0+1)=((0+1:Nat):Int):=ei
    refine zW (dg hl1 hv t8 t9 ei) ?_
    exact ⟨zK,k-1,by omega,0+1,rfl,by omega⟩
   ·have h0':(0:Int)<(i:Int):=by omega
    obtain ⟨j,rfl⟩:∃ j,i=j+1:=⟨i-1,by omega⟩
    have hj:j<R.length:=by omega
    have hmj:=List.getElem_mem hj
    have ej:IntKind.i64.wrap (((j+1:Nat):Int)-1)=(j:Int):=by rw [wrap_i64] <;> omega
    obtain ⟨wj,hrj,hldj⟩:=cM (hq.mono k08.sub) hj
    obtain ⟨wi,hri,hldi⟩:=cM (hq.mono k08.sub) hi
    have hixj:=SlV.idx1 hq .i64 j hj
    have hlt:=(yo (x:=R[j]) (y:=R[j+1]) ((bR.len _ hmj).trans (bR.len _ hmi).symm)).2 (Lin.rays_rise t1 hi)
    have hnge:¬ (0:Int)<=vT R[j] R[j+1]:=by omega
    refine zW (dg hl1 hv t8 t9 h0') ?_
    refine aS ?_
    refine zD (lK hl1 hv t9 ej hixj hix hldj hldi) ?_
    refine AnsH.eq (vec_Cmp C (l:=R[j]) (m:=R[j+1]) zF (hrj.mono (Kp.sub (H:=H8) zK)) (hri.mono (Kp.sub (H:=H8) zK)) ((bR.len _ hmj).trans (bR.len _ hmi).symm) (by rw [bR.len _ hmj]; omega) (sm2 bR _ hmj).2 (sm2 bR _ hmi).2) fun H9 hk9=>?_
    obtain ⟨k89,_,_⟩:=zT H8 zK hk9
    have k09:Kp H4 H9:=k08.trans k89
    have le_k09:=k09.le
    have w9:=k09.wf
    refine zD (pB hl1 hv t9 ej hixj hix hldj hldi hnge ei) ?_
    exact ⟨zK,k-1,by omega,j+1+1,rfl,by omega⟩
  ·have hii:¬ (i:Int)<(R.length:Int):=by omega
   refine zW (lG hl1 hv t9 hq.lenV hii hi @bw) ?_
   exact zK
 rintro T5 H5 hs5 k5
 have w5:=k5.wf
 have le5:=k5.le
 have hl5:T5.length=140:=hs5.len.trans (by simp only [List.length_set]; exact hl)
 have a8:af T5 8=p:=(hs5.at_ 8 (by decide)).trans (zV hl)
 refine WC.wb ?_
 refine zW (az hl5 @a8) ?_
 refine AnsH.use (rows_Echelon C (d:=dd) (e:=64*(64+4)+1) zF ((hp.mono k5.sub).mono (Kp.sub (H:=H5) zK)) (by omega) d0 (by omega) bL.len bL.bt (by omega)) ?_
 rintro v H6 ⟨r,rfl,hr6,hk6⟩
 rw [hff] at hr6
 obtain ⟨k56,_,_⟩:=zT H5 zK hk6
 have k46:Kp H4 H6:=k5.trans k56
 have le_k46:=k46.le
 have k06:Kp H H6:=k4.trans k46
 have le_k06:=k06.le
 have w6:=k46.wf
 refine zW (az hl5 @a8) ?_
 refine AnsH.eq (pE C zF (hr6.mono (Kp.sub (H:=H6) zK)) ((hp.mono k46.sub).mono (Kp.sub (H:=H6) zK)) (by omega) (sm2 bL)) fun H7 hk7=>?_
 obtain ⟨k7,_,_⟩:=zT H zK hk7
 rw [decide_eq_true rfl]
 refine zW (az hl5 hrs) ?_
 exact zK
end
open Go
theorem F9 {P:Program}:BP P dV:=trivial
theorem Ir {P:Program} {w:World} (hG:GlobW w):HR P (fun _=>none) (fun c=>c<w.heap.size) (Heap.nil 0) w:=by
 have h:=FF (P:=P) hG
 refine ⟨h.dom,fun c hc=>hc,fun b e hb=>?_,h.inj,fun g cs hg=>(h.gl g cs hg).mono (fun _ _ h=>h) (fun c hc=>h.fb c hc) fun _ _=>rfl⟩
 rw [Tr.nil_get] at hb; cases hb
theorem open_calls {P:Program} (hmix:P.follows .mixedOrders=true) {tab:Nat->Option au} (ht:CJ P tab) {f:Nat} {afn:au} (haf:tab f=some afn) (hext:afn.ext=none) {args:List AV} {vs:List Value} {w:World} (hG:GlobW w)
  (hl:LR (fun _=>none) (fun c=>c<w.heap.size) w args vs) (h:Ans tab (.fn f args) (Heap.nil 0) fun v _=>v=.bool true) :
  Calls P f vs.toArray w fun e w'=>e=.returned (.bool true)/\w'.os=w.os/\w'.output=w.output/\w.heap.size<=w'.heap.size/\∀ c,c<w.heap.size->w'.heap[c]? = w.heap[c]?:=by
 obtain ⟨v,H',⟨N,hN⟩,rfl⟩:=h
 have h1:=hN (N+1) (N+1) (by omega) (by omega)
 simp only [jB,im,haf,hext] at h1
 obtain ⟨-,ht2⟩:=ht f afn haf
 obtain ⟨fn,hfn,hc⟩:=ht2 fun e h=>by rw [hext] at h; cases h
 obtain ⟨c1,c2,c3,c4,-⟩:=yp hc hext
 have hH:=Ir (P:=P) hG
 have hin:=nG (tY F9 hmix ht N) hmix hfn c1 c2 c3 c4 h1 hl hH 0 (fence:=Fence.wide) (rd:=false) (.inl ⟨rfl,rfl⟩)
 refine (hin.calls fun k=>room_wide k).mono fun e w' ⟨u,he,μ',hv,_,hS⟩=>?_
 cases hv
 refine ⟨he,hS.os,hS.out,hS.size,fun c hc=>hS.keep c hc fun b L ⟨e,h,_⟩=>?_⟩
 rw [Tr.nil_get] at h; cases h
theorem Gp {w w':World} (h1:w'.os=w.os) (h2:w'.output=w.output) (h:∀ c,c<w.heap.size->w'.heap[c]? = w.heap[c]?) (may:MemPlace->Prop):w.keptBut w' may:=by
 refine ⟨h1,h2,fun i hi=>?_⟩
 rw [h i hi]
 split
 ·rename_i e1 e2
  cases e1.symm.trans e2
  exact ⟨rfl,rfl,rfl,fun _ _=>rfl⟩
 ·rename_i e1 e2
  cases e1.symm.trans e2
  exact .inr ⟨rfl,rfl⟩
 ·rfl
section
open Go.ChangeShapes Go.WideShapes Go.ChangeAt Go.RowKit
variable {HT:Type} {enc:TypeId × Value->HT} {P:Program}
theorem stays {t:TypeId} (hl:laidOutB P=true) (hr:P.readableRec t=true) (hrow:t<P.types.size) {W W':World} {sp:Nat->Bool} {v:Value} {d:DataW HT} {ps:List MemPlace}
  (h:DataW.Trod enc P W 0 (fun _=>true) true t v d ps) (hk:∀ c,c<W.heap.size->W'.heap[c]? = W.heap[c]?) (hlt:∀ x∈ps,x.block<W.heap.size) (hs:∀ p∈ps,sp p.block=true):DataW.Trod enc P W' 0 sp true t v d ps :=
 WideElems.Trod_stays hl hr hrow h (fun p hp=>by
  have hb:=hk p.block (hlt p hp)
  cases p with
  | cell b o=>exact World.cell?_of_block (w:=W) hb
  | map b=>exact hb) hs
theorem post_kept {f:Func} {s:ChangeSpec} {apart fresh handsOn again:Bool} {W W':World} {args:Array Value} {v:Value} {ds gs:List (DataW HT)} {before:List MemPlace}
  (hW:DataW.Whole enc P f.params.toList s.vars apart W args.toList ds gs before)
  (hres:∀ (b:Nat) (sp:Nat->Bool) (hd:Bool),DataW.TrodAll enc P W' b sp hd f.resultTypes.toList (v.resultList f.resultTypes.size) (s.fn HT (ds++gs)).results [])
  (hargs:∀ sp:Nat->Bool,(∀ p∈before,sp p.block=true)->DataW.TrodAll enc P W' 0 sp true f.params.toList args.toList (s.fn HT (ds++gs)).args before)
  (hvars:∀ sp:Nat->Bool,DataW.TrodVars enc P W' sp s.vars (s.fn HT (ds++gs)).vars [])
  (h1:W'.os=W.os) (h2:W'.output=W.output) (hk:∀ c,c<W.heap.size->W'.heap[c]? = W.heap[c]?)
  (hok:∀ (j:Nat) (t:TypeId) (r:Value),f.resultTypes[j]? = some t->(v.resultList f.resultTypes.size)[j]? = some r->Value.okWide P W' .any 0 t r) :
  s.post enc P f apart fresh handsOn again W args v W':=by
 have hold:∀ p∈before,(fun b=>decide (b<W.heap.size)) p.block=true:=fun p hp=>by simpa using hW.lt p hp
 have hlt:∀ p∈before,p.block<W.heap.size:=fun p hp=>hW.lt p hp
 refine ⟨ds,gs,before,[],before,[],hW,hres _ _ _,hargs _ hold,hvars _,Gp h1 h2 hk _,fun _=>?_⟩
 obtain ⟨_,_,_,_,e,hz,hn⟩:=hW
 refine ⟨hok,_,_,([]++before)++[],⟨[]++before,[],trodAll_append (hargs _ (fun _ _=>rfl)) (hres _ _ _),hvars _,rfl,?_,?_⟩,?_⟩
 ·intro b off hp
  have hp':MemPlace.cell b off∈before:=by simpa using hp
  have hb:=hlt _ hp'
  rw [World.frozen?_of_block (w:=W) (hk b hb)]
  exact hz b off hp'
 ·intro ha
  have:=hn ha
  simpa using this
 ·intro p hp _
  simpa using hp
end
end Go.Proofs.YtichbdepocojaaaGreat.Ev
namespace Go.Proofs.YtichbdepocojaaaGreat.Ins108
open Go Go.RowKit Go.Lib Go.Proofs
set_option linter.all false
variable {P:Program}
theorem tS:Tryz.prog.underlying 22=some (.slice 30):=by kernel_rfl
theorem iE:(Tryz.prog.info? 30).map (fun i=>(i.zero,i.size,i.bytes))=some (some (Value.slice none 0 0),1,24):=by kernel_rfl
theorem zE:∀ w,(Go.sizeOf 30).run Tryz.prog w=.ok 1 w:=fun w=>by
 obtain ⟨i0,hi,h0,h1,h2⟩:=info_parts iE
 simp [Go.sizeOf,typeInfo,hi,h1]
theorem tI:Tryz.prog.underlying 3=some (.int .i64):=by kernel_rfl
theorem xT:Tryz.prog.follows .mixedOrders=true:=by kernel_rfl
theorem xq (w:World) {o:Oper} {a:Act} {K:Act->World->Prop} {Q:Exit->Act->World->Prop} (d s:Operand) (t t':TypeId)
  (ho:o.op=.call { callee:=.builtin .copy,args:=#[d,s],argTypes:=#[t,t'] }) (v u:Value) (hd:a.eval d=v) (hs:a.eval s=u) {v':Value} {w':World}
  (hr:(Builtin.copy_ #[t,t'] o.type #[v,u]).run P w=.ok v' w') (h:K (a.put o.dst v') w'):o.wp P a w K Q:=by
 unfold Oper.wp execOp
 simp only [ho,resolve,invoke,builtin,Sem.run_bind,Sem.run_pure,Result.andThen_ok,List.map_toArray,List.map_cons,List.map_nil,hd,hs,hr]
 exact h
theorem iy (w:World) {ops:Array Oper} {rest:List Oper} {o:Oper} {a:Act} {Q:Exit->Act->World->Prop} (hgd:o.guard=none) (d s:Operand) (t t':TypeId)
  (ho:o.op=.call { callee:=.builtin .copy,args:=#[d,s],argTypes:=#[t,t'] }) (v u:Value) (hd:a.eval d=v) (hs:a.eval s=u) {v':Value} {w':World}
  (hr:(Builtin.copy_ #[t,t'] o.type #[v,u]).run P w=.ok v' w') (h:wpList P ops Q rest (a.put o.dst v') w'):wpList P ops Q (o :: rest) a w :=
 wpList_plain hgd fun _ hK=>xq w d s t t' ho v u hd hs hr (hK _ _ h)
theorem nC {ops:Array Oper} {o:Oper} {a:Act} {w:World} {K:Act->World->Prop} {Q:Exit->Act->World->Prop} {E:Prop}
  (hg:o.guard=none) (d x:Operand) (dT sT:TypeId) (hop:o.op=Op.call { callee:=Callee.builtin Builtin.copy,args:=#[d,x],argTypes:=#[dT,sT] })
  (v u:Value) (hd:a.eval d=v) (hx:a.eval x=u) {v':Value} {w':World} (hr:(Builtin.copy_ #[dT,sT] o.type #[v,u]).run P w=.ok v' w') (hK:K (a.put o.dst v') w') :
  if Region.wanted o (yielded ops a.tmps)=true then Oper.wp P o a w K Q else E:=by
 have hw:Region.wanted o (yielded ops a.tmps)=true:=by simp [Region.wanted,hg]
 rw [if_pos hw]
 unfold Oper.wp
 simp [execOp,hop,resolve,invoke,builtin,hd,hx,hr,Result.andThen]
 exact hK
theorem nh (b:Nat) (vs:List Value) (o:Nat) (w:World) (h:∀ j,j<vs.length->(w.cell? ⟨b,o+j,none⟩).isSome=true) (k:Nat) (hk:(w.cell? ⟨b,k,none⟩).isSome=true):((w.setCells b o vs).cell? ⟨b,k,none⟩).isSome=true:=by
 by_cases hin:o<=k/\k<o+vs.length
 ·have:=World.cell?_setCells_in b vs o w h (k-o) (by omega)
  rw [show o+(k-o)=k by omega] at this
  rw [this]; rfl
 ·rw [World.cell?_setCells_out b vs o w ⟨b,k,none⟩ (fun _ _=>by show k<o\/o+vs.length<=k; omega)]
  exact hk
set_option maxHeartbeats 4000000 in
set_option maxRecDepth 100000 in
theorem shift (b off n c i vb voff m vc:Nat) (cs vs:List Value) (w:World) (hi:i<n) (hm:0<m) (hroom:n+m<=c) (hc63:n+m<=9223372036854775807) (hvb:vb≠b)
  (hcl:cs.length=n) (hvl:vs.length=m)
  (hcs:∀ j v,cs[j]? = some v->w.cell? ⟨b,off+j,none⟩=some v) (hsp:∀ j,j<n+m->(w.cell? ⟨b,off+j,none⟩).isSome=true) (hfz:∀ j,j<n+m->w.frozen? ⟨b,off+j,none⟩=false)
  (hvs:∀ j v,vs[j]? = some v->w.cell? ⟨vb,voff+j,none⟩=some v) (h1c:∀ v∈cs,v.oneCell'=true) (h1v:∀ v∈vs,v.oneCell'=true)
  (tA tB:TypeId) (kA kB:Nat) (hsa:w.shape? vb=some (tA,kA)) (hsb:w.shape? b=some (tB,kB)) (hkB:kB≠0) (hfa:w.frozen? ⟨vb,voff,none⟩=false) (hfe:w.frozen? ⟨vb,kA,none⟩=false) :
  Calls Tryz.prog 108 #[.slice (some ⟨b,off,none⟩) n c,.int .i64 i,.slice (some ⟨vb,voff,none⟩) m vc] w fun e w' =>
   e=.returned (.slice (some ⟨b,off,none⟩) (n+m) c)/\w'=(w.drew.setCells b (off+(i+m)) (cs.drop i)).setCells b (off+i) vs:=by
 have hz1:¬ ((m:Int)=0):=by omega
 have hz2:¬ ((i:Int)=(n:Int)):=by omega
 have hsz:(Tryz.prog.info? 30).map (·.size)=some 1:=by
  obtain ⟨i0,hi0,h0,h1,h2⟩:=info_parts iE
  rw [hi0]; simp [h1]
 have hov:∀ lb cb,(callFunc 126 #[.slice (some ⟨vb,voff,none⟩) m vc,.slice (some ⟨b,off+(i+m),none⟩) lb cb]).run Tryz.prog w=.ok (.value (.bool false)) w:=fun lb cb=>by
  rw [run_callFunc_extern Tryz.func126 (by kernel_rfl) (by kernel_rfl) (by kernel_rfl) (e:=Extern.SlicesOverlaps.overlaps #[22,22] #[4]) (by kernel_rfl),
   Lib.run_overlaps_apart w 22 4 30 tS 1 zE ⟨vb,voff,none⟩ ⟨b,off+(i+m),none⟩ m vc lb cb hvb tA tB kA kB hsa hsb hkB hfa hfe]
  rfl
 have hdl:(cs.drop i).length=n-i:=by rw [List.length_drop,hcl]
 have hw1:IntKind.i64.wrap ((i:Int)+(m:Int))=(i:Int)+(m:Int):=by rw [IntKind.wrap_i64]; omega
 have hb1:(0:Int)<=(i:Int)+(m:Int):=by omega
 have hin:i<=n:=by omega
 have htn:((i:Int)+(m:Int)).toNat=i+m:=by omega
 have hb2:¬ (c=i+m):=by omega
 have hb3:(i:Int)<=(n:Int)+(m:Int):=by omega
 have hb4:¬ (c=i):=by omega
 have hcp1:∀ ty dc sc,(Builtin.copy_ #[22,22] ty #[.slice (some ⟨b,off+(i+m),none⟩) (n+m-(i+m)) dc,.slice (some ⟨b,off+i,none⟩) (n+m-i) sc]).run Tryz.prog w.drew=.ok (goInt (cs.drop i).length) (w.drew.setCells b (off+(i+m)) (cs.drop i)):=fun ty dc sc =>
  run_copy_cells w.drew _ _ ty 30 b (off+(i+m)) (n+m-(i+m)) dc ⟨b,off+i,none⟩ (n+m-i) sc (cs.drop i) tS hsz (by rw [hdl]; simp only [Nat.min_def]; split <;> omega)
   (fun j v hj=>by rw [Addr.add_lit,Nat.add_assoc]; exact hcs (i+j) v (by rwa [List.getElem?_drop] at hj))
   (fun j hj=>by rw [Nat.add_assoc]; exact hsp _ (by omega)) (fun j hj=>by rw [Nat.add_assoc]; exact hfz _ (by omega)) (fun v hv=>h1c v (List.mem_of_mem_drop hv))
 obtain ⟨W1,hW1⟩:∃ W1,W1=w.drew.setCells b (off+(i+m)) (cs.drop i):=⟨_,rfl⟩
 have hsp1:∀ k,k<n+m->(W1.cell? ⟨b,off+k,none⟩).isSome=true:=fun k hk=>by
  rw [hW1]
  exact nh b _ _ _ (fun j hj=>by rw [Nat.add_assoc]; exact hsp _ (by omega)) _ (hsp k hk)
 have hcp2:∀ (W:World),(∀ x,W.cell? x=W1.cell? x)->(∀ x,W.frozen? x=W1.frozen? x)->∀ ty dc,(Builtin.copy_ #[22,22] ty #[.slice (some ⟨b,off+i,none⟩) (n+m-i) dc,.slice (some ⟨vb,voff,none⟩) m vc]).run Tryz.prog W=.ok (goInt vs.length) (W.setCells b (off+i) vs):=fun W hWc hWf ty dc =>
  run_copy_cells W _ _ ty 30 b (off+i) (n+m-i) dc ⟨vb,voff,none⟩ m vc vs tS hsz (by rw [hvl]; simp only [Nat.min_def]; split <;> omega)
   (fun j v hj=>by
    rw [Addr.add_lit,hWc,hW1,World.cell?_setCells_out b _ _ _ _ (fun h _=>absurd h hvb)]
    exact hvs j v hj)
   (fun j hj=>by rw [hWc,Nat.add_assoc]; exact hsp1 _ (by omega)) (fun j hj=>by rw [hWf,hW1,World.frozen?_setCells,Nat.add_assoc]; exact hfz _ (by omega)) h1v
 rw [<- hW1] at hcp1
 have mixed:=xT
 go_enter Tryz.func108,Tryz.ntmps108
 go_wp2_with (simp only [hov])
 go_region_law_o (refine nC rfl _ _ 22 22 rfl _ _ (by simp [Act.eval,Act.put]) (by simp [Act.eval,Act.put]) (hcp1 _ _ _) ?_)
 go_wp2_with (at_builtin; refine iy _ rfl _ _ 22 22 rfl _ _ rfl rfl (hcp2 _ (fun _=>rfl) (fun _=>rfl) _ _) ?_)
 go_ret
 first | exact ⟨rfl,rfl⟩ | exact ⟨rfl,by rw [hW1]⟩
set_option maxHeartbeats 4000000 in
set_option maxRecDepth 100000 in
theorem end_room (b off n c vb voff m vc:Nat) (vs:List Value) (w:World) (hm:0<m) (hroom:n+m<=c) (hc63:n+m<=9223372036854775807)
  (hvl:vs.length=m) (hsp:∀ j,j<m->(w.cell? ⟨b,off+n+j,none⟩).isSome=true) (hfz:∀ j,j<m->w.frozen? ⟨b,off+n+j,none⟩=false)
  (hvs:∀ j v,vs[j]? = some v->w.cell? ⟨vb,voff+j,none⟩=some v) (h1v:∀ v∈vs,v.oneCell'=true) :
  Calls Tryz.prog 108 #[.slice (some ⟨b,off,none⟩) n c,.int .i64 n,.slice (some ⟨vb,voff,none⟩) m vc] w fun e w' =>
   e=.returned (.slice (some ⟨b,off,none⟩) (n+m) c)/\w'=w.setCells b (off+n) vs:=by
 have hz1:¬ ((m:Int)=0):=by omega
 have hsrc:Src Tryz.prog 1 22 (.slice (some ⟨vb,voff,none⟩) m vc) m vs w:=Src.ofSlice w tS ⟨vb,voff,none⟩ m vc vs (by omega) (fun j u hj=>by rw [Addr.add_lit]; exact hvs j u hj) h1v
 have mixed:=xT
 go_enter Tryz.func108,Tryz.ntmps108
 go_wp2_with (at_builtin; refine wpList_append_room1 _ rfl _ _ 22 22 rfl 30 _ _ tS iE b off n c rfl _ rfl m vs hsrc hroom (by rw [hvl]; exact hsp) (by rw [hvl]; exact hfz) ?_)
 go_ret
 exact ⟨rfl,rfl⟩
set_option maxHeartbeats 4000000 in
set_option maxRecDepth 100000 in
theorem end_grow (base:Option Addr) (n c vb voff m vc:Nat) (cs vs:List Value) (w:World) (hm:0<m) (hnc:n<=c) (hroom:c<n+m) (hbig:(n+m)*24<=140737488355328)
  (hcl:cs.length=n) (hvl:vs.length=m) (hnil:base=none->n=0)
  (hcs:∀ a,base=some a->∀ j v,cs[j]? = some v->w.cell? (a.add j)=some v)
  (hvs:∀ j v,vs[j]? = some v->w.cell? ⟨vb,voff+j,none⟩=some v) (h1v:∀ v∈vs,v.oneCell'=true) :
  Calls Tryz.prog 108 #[.slice base n c,.int .i64 n,.slice (some ⟨vb,voff,none⟩) m vc] w fun e w' =>
   e=.returned (.slice (some ⟨w.heap.size,0,none⟩) (n+m) (grownCap w (n+m) c 30)) /\
   w'=w.drew.alloc (.cells ((cs++vs).toArray++Builtin.zeroCells (Value.slice none 0 0).cells (grownCap w (n+m) c 30-(n+m))) 30):=by
 obtain ⟨i0,hi0,hz0,hzs,hzb⟩:=info_parts iE
 have hz1:¬ ((m:Int)=0):=by omega
 have hsrc:Src Tryz.prog i0.size 22 (.slice (some ⟨vb,voff,none⟩) m vc) m vs w:=by
  rw [hzs]
  exact Src.ofSlice w tS ⟨vb,voff,none⟩ m vc vs (by omega) (fun j u hj=>by rw [Addr.add_lit]; exact hvs j u hj) h1v
 have hold:(Builtin.firstCells i0.size n (.slice base n c)).run Tryz.prog w.drew=.ok cs.toArray w.drew:=by
  rw [hzs]
  cases base with
  | none =>
   have h0:=hnil rfl
   subst h0
   rw [List.length_eq_zero_iff.1 hcl]
   exact run_firstCells_none w.drew 1 0 0 c
  | some a=>exact run_firstCells_some w.drew 1 n a n c cs (by omega) (fun j v hj=>hcs a rfl j v hj)
 have hrun:∀ ty,(Builtin.append_ #[22,22] ty #[.slice base n c,.slice (some ⟨vb,voff,none⟩) m vc]).run Tryz.prog w=_:=fun ty =>
  run_append_grow_src w 22 22 ty 30 i0 _ tS hi0 hz0 base n c cs hold _ m vs hsrc hroom (by omega) (by rw [hzb]; exact growslice_fits hroom hbig)
 have mixed:=xT
 go_enter Tryz.func108,Tryz.ntmps108
 cases base with
 | none =>
  have h0:=hnil rfl
  subst h0
  go_wp2_with (at_builtin; refine Lib.wpList_append_run _ rfl _ _ _ _ rfl _ _ rfl rfl _ _ (hrun _) ?_)
  go_ret
  exact ⟨rfl,rfl⟩
 | some a =>
  obtain ⟨ab,ao,asp⟩:=a
  go_wp2_with (at_builtin; refine Lib.wpList_append_run _ rfl _ _ _ _ rfl _ _ rfl rfl _ _ (hrun _) ?_)
  all_goals (go_ret; exact ⟨rfl,rfl⟩)
set_option maxHeartbeats 4000000 in
set_option maxRecDepth 100000 in
theorem grow (b off n c i vb voff m vc:Nat) (cs vs:List Value) (w:World) (hi:i<n) (hm:0<m) (hnc:n<=c) (hroom:c<n+m) (hbig:(n+m)*24<=140737488355328)
  (hcl:cs.length=n) (hvl:vs.length=m)
  (hcs:∀ j v,cs[j]? = some v->w.cell? ⟨b,off+j,none⟩=some v)
  (hvs:∀ j v,vs[j]? = some v->w.cell? ⟨vb,voff+j,none⟩=some v) (h1c:∀ v∈cs,v.oneCell'=true) (h1v:∀ v∈vs,v.oneCell'=true) :
  Calls Tryz.prog 108 #[.slice (some ⟨b,off,none⟩) n c,.int .i64 i,.slice (some ⟨vb,voff,none⟩) m vc] w fun e w' =>
   e=.returned (.slice (some ⟨w.heap.size,0,none⟩) (n+m) (grownCap w (n+m) c 30)) /\
   w'=(((w.alloc (.cells ((cs.take i).toArray++Builtin.zeroCells (Value.slice none 0 0).cells (n+m-i)++Builtin.zeroCells (Value.slice none 0 0).cells (grownCap w (n+m) c 30-(n+m))) 30)).drew.setCells w.heap.size i vs).drew).setCells w.heap.size (i+m) (cs.drop i):=by
 obtain ⟨i0,hi0,hz0,hzs,hzb⟩:=info_parts iE
 have hz1:¬ ((m:Int)=0):=by omega
 have hz2:¬ ((i:Int)=(n:Int)):=by omega
 have hz3:(c:Int)<(n:Int)+(m:Int):=by omega
 have hsz:(Tryz.prog.info? 30).map (·.size)=some 1:=by rw [hi0]; simp [hzs]
 have hbw:b<w.heap.size:=block_lt_of_cell (hcs 0 _ (List.getElem?_eq_getElem (by omega)))
 have hvw:vb<w.heap.size:=block_lt_of_cell (hvs 0 _ (List.getElem?_eq_getElem (by omega)))
 have hkk:(n:Int)+(m:Int)-(i:Int)=((n+m-i:Nat):Int):=by omega
 have hik:i+(n+m-i)=n+m:=by omega
 have hold:(Builtin.firstCells i0.size i (.slice (some ⟨b,off,none⟩) i c)).run Tryz.prog w.drew=.ok (cs.take i).toArray w.drew:=by
  rw [hzs]
  exact run_firstCells_some w.drew 1 i ⟨b,off,none⟩ i c (cs.take i) (by rw [List.length_take]; omega) (fun j v hj=>by
   rw [Addr.add_lit]
   rw [List.getElem?_take] at hj
   split at hj
   ·exact hcs j v hj
   ·cases hj)
 have hrz:∀ ty,(Builtin.append_ #[22,3] ty #[.slice (some ⟨b,off,none⟩) i c,.int .i64 ((n:Int)+(m:Int)-(i:Int))]).run Tryz.prog w =
   .ok (.slice (some ⟨w.heap.size,0,none⟩) (n+m) (grownCap w (n+m) c 30)) (w.drew.alloc (.cells ((cs.take i).toArray++Builtin.zeroCells (Value.slice none 0 0).cells (n+m-i)++Builtin.zeroCells (Value.slice none 0 0).cells (grownCap w (n+m) c 30-(n+m))) 30)):=fun ty=>by
  have h:=Lib.run_append_grow_zeros w 22 3 ty 30 i0 _ .i64 .i64 tS tI hi0 hz0 (some ⟨b,off,none⟩) i c (cs.take i) hold (n+m-i) (by omega) (by omega) (by omega) (by omega) (by rw [hzb]; omega) (by rw [hzb,hik]; exact growslice_fits hroom hbig)
  rw [hik] at h
  rw [hkk]
  exact h
 obtain ⟨G,hG⟩:∃ G,G=grownCap w (n+m) c 30:=⟨_,rfl⟩
 obtain ⟨ROW,hROW⟩:∃ ROW:Array Value,ROW=(cs.take i).toArray++Builtin.zeroCells (Value.slice none 0 0).cells (n+m-i)++Builtin.zeroCells (Value.slice none 0 0).cells (G-(n+m)):=⟨_,rfl⟩
 rw [<- hG] at hrz ⊢
 rw [<- hROW] at hrz ⊢
 have hRl:n+m<=ROW.size:=by
  rw [hROW]
  simp [Builtin.zeroCells,Value.cells]
  omega
 obtain ⟨W1,hW1⟩:∃ W1,W1=w.drew.alloc (.cells ROW 30):=⟨_,rfl⟩
 rw [<- hW1] at hrz
 have hN:∀ j,j<n+m->(W1.cell? ⟨w.heap.size,j,none⟩).isSome=true:=fun j hj=>by
  rw [hW1,World.cell?_alloc_at (w:=w.drew) ROW _ w.heap.size j rfl,Array.getElem?_eq_getElem (by omega)]; rfl
 have hNf:∀ j,W1.frozen? ⟨w.heap.size,j,none⟩=false:=fun j=>by rw [hW1]; exact World.frozen?_alloc_at (w:=w.drew) ROW _ w.heap.size j rfl
 have hOb:∀ j v,w.cell? ⟨b,j,none⟩=some v->W1.cell? ⟨b,j,none⟩=some v:=fun j v h=>by rw [hW1,World.cell?_alloc_past (w:=w.drew) _ b j hbw]; exact h
 have hOv:∀ j v,w.cell? ⟨vb,j,none⟩=some v->W1.cell? ⟨vb,j,none⟩=some v:=fun j v h=>by rw [hW1,World.cell?_alloc_past (w:=w.drew) _ vb j hvw]; exact h
 have hcpA:∀ (W:World),(∀ x,W.cell? x=W1.cell? x)->(∀ x,W.frozen? x=W1.frozen? x)->∀ ty dc,(Builtin.copy_ #[22,22] ty #[.slice (some ⟨w.heap.size,i,none⟩) (n+m-i) dc,.slice (some ⟨vb,voff,none⟩) m vc]).run Tryz.prog W=.ok (goInt vs.length) (W.setCells w.heap.size i vs):=fun W hWc hWf ty dc =>
  run_copy_cells W _ _ ty 30 w.heap.size i (n+m-i) dc ⟨vb,voff,none⟩ m vc vs tS hsz (by rw [hvl]; simp only [Nat.min_def]; split <;> omega)
   (fun j v hj=>by rw [Addr.add_lit,hWc]; exact hOv _ v (hvs j v hj))
   (fun j hj=>by rw [hWc]; exact hN _ (by omega)) (fun j hj=>by rw [hWf]; exact hNf _) h1v
 have hGn:n+m<=G:=by rw [hG]; exact grownCap_ge w _ _ _
 have hG63:G<=9223372036854775807:=by
  have:=grownCap_le_maxLen w (n+m) c 30 (by unfold maxLen; omega)
  rw [<- hG] at this
  unfold maxLen at this
  omega
 have hGi:¬ (G=i):=by omega
 have hGim:¬ (G=i+m):=by omega
 have hci:¬ (c=i):=by omega
 have hbN:b≠w.heap.size:=by omega
 have hdl:(cs.drop i).length=n-i:=by rw [List.length_drop,hcl]
 have hcpB:∀ (W:World),(∀ x,W.cell? x=(W1.setCells w.heap.size i vs).cell? x)->(∀ x,W.frozen? x=(W1.setCells w.heap.size i vs).frozen? x)->∀ ty dc sc,(Builtin.copy_ #[22,22] ty #[.slice (some ⟨w.heap.size,i+m,none⟩) (n+m-(i+m)) dc,.slice (some ⟨b,off+i,none⟩) (n-i) sc]).run Tryz.prog W=.ok (goInt (cs.drop i).length) (W.setCells w.heap.size (i+m) (cs.drop i)):=fun W hWc hWf ty dc sc =>
  run_copy_cells W _ _ ty 30 w.heap.size (i+m) (n+m-(i+m)) dc ⟨b,off+i,none⟩ (n-i) sc (cs.drop i) tS hsz (by rw [hdl]; simp only [Nat.min_def]; split <;> omega)
   (fun j v hj=>by
    rw [Addr.add_lit,hWc,World.cell?_setCells_out _ _ _ _ _ (fun h _=>absurd h hbN),Nat.add_assoc]
    exact hOb _ v (hcs (i+j) v (by rwa [List.getElem?_drop] at hj)))
   (fun j hj=>by rw [hWc]; exact nh _ _ _ _ (fun t ht=>hN _ (by omega)) _ (hN _ (by omega)))
   (fun j hj=>by rw [hWf,World.frozen?_setCells]; exact hNf _) (fun v hv=>h1c v (List.mem_of_mem_drop hv))
 subst hW1
 have hE1:∀ x,((w.alloc (.cells ROW 30)).drew).cell? x=(w.drew.alloc (.cells ROW 30)).cell? x:=fun x=>rfl
 have hE2:∀ x,((w.alloc (.cells ROW 30)).drew).frozen? x=(w.drew.alloc (.cells ROW 30)).frozen? x:=fun x=>rfl
 have hF1:∀ x,(((w.alloc (.cells ROW 30)).drew.setCells w.heap.size i vs).drew).cell? x=((w.drew.alloc (.cells ROW 30)).setCells w.heap.size i vs).cell? x:=fun x=>rfl
 have hF2:∀ x,(((w.alloc (.cells ROW 30)).drew.setCells w.heap.size i vs).drew).frozen? x=((w.drew.alloc (.cells ROW 30)).setCells w.heap.size i vs).frozen? x:=fun x=>rfl
 have hw1:IntKind.i64.wrap ((i:Int)+(m:Int))=(i:Int)+(m:Int):=by rw [IntKind.wrap_i64]; omega
 have hb1:(0:Int)<=(i:Int)+(m:Int):=by omega
 have hin:i<=n:=by omega
 have htn:((i:Int)+(m:Int)).toNat=i+m:=by omega
 have hb3:(i:Int)<=(n:Int):=by omega
 clear hkk hik hold hROW hG hRl
 have mixed:=xT
 go_enter Tryz.func108,Tryz.ntmps108
 go_wp2_with (first
  | (at_builtin; refine Lib.wpList_append_run _ rfl _ _ _ _ rfl _ _ rfl rfl _ _ (hrz _) ?_)
  | (at_builtin; refine iy _ rfl _ _ 22 22 rfl _ _ rfl rfl (hcpA _ hE1 hE2 _ _) ?_)
  | (at_builtin; refine iy _ rfl _ _ 22 22 rfl _ _ rfl rfl (hcpB _ (fun _=>rfl) (fun _=>rfl) _ _ _) ?_))
 go_region_law_o (refine nC rfl _ _ 22 22 rfl (.slice (some ⟨w.heap.size,i+m,none⟩) (n+m-(i+m)) (G-(i+m))) (.slice (some ⟨b,off+i,none⟩) (n-i) (c-i)) (by simp [Act.eval,Act.put]) (by simp [Act.eval,Act.put]) (hcpB _ hF1 hF2 3 (G-(i+m)) (c-i)) ?_)
 go_wp2
 go_ret
 exact ⟨rfl,rfl⟩
end Go.Proofs.YtichbdepocojaaaGreat.Ins108
