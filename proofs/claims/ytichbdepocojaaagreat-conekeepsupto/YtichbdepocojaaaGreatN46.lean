/- A part. -/
import Derived.Test.YtichbdepocojaaaGreatN34
import Derived.Test.YtichbdepocojaaaGreatEch
import Derived.ChangeArms
import Derived.DataReads
namespace Go.Proofs.YtichbdepocojaaaGreat.Ev
open Go Nn
set_option linter.all false
section
variable {tab:Nat->Option aq} {H:Heap} {s:AV}
theorem cone_all (C:Code tab) (hw:Wf H) {d:Nat} (hd:d<=64):Ans tab (.fn mS [.int .i64 (d:Int)]) H fun v H'=>Bl rowsE ae H H' v (Lin.startU d).lines/\Kp H H':=by
 refine d9 C.cone_all (by decide) fun T hl g0=>?_
 refine zW (aw hl g0) ?_
 refine al H [2] (fun j vs H'=>∃ o,vs=[o]/\Bl rowsE ae H H' o ((List.range j).map (Lin.unitV d))) (a:=0) (N:=d) rfl (by refine zW (aw hl g0) ?_; rfl) (zV (aw hl g0)) (Nat.zero_le _) (by omega) (by simp only [List.length_set,hl]; rfl) rfl (fun j vs H' m ⟨o,h1,h2⟩=>⟨o,h1,h2.mono (Sub.bump H' m)⟩) zK ⟨.nilSl,by exact zV (aw hl g0),Bl.nil⟩ ?_ ?_
 ·rintro j T1 H1 _ hj hl1 hi1 hs1 hk1 ⟨o,hv,ho⟩
  have w1:=hk1.wf
  have le_hk1:=hk1.le
  have le1:=hk1.le
  simp only [List.map_cons,List.map_nil,List.cons.injEq,and_true] at hv
  have t0:af T1 0=.int .i64 (d:Int):=(hs1.at_ 0 (by decide)).trans (zV (aw hl g0))
  simp only [List.length_set,hl] at hl1
  obtain ⟨cells,hcells⟩:∃ cells,cells=(List.replicate d [AV.bool false,AV.nilSl]).flatten:=⟨_,rfl⟩
  have hmk:∀ H':Heap,E0 H' (H1.next+3) aa 2 32 [.bool false,.nilSl] (.int .i64 (d:Int)) (.int .i64 (d:Int))=some (.own (H1.next+3) 0 d d 2 true,H'.put (H1.next+3) (.cells cells aa true)):=fun H'=>by rw [hcells]; exact jM _ _ _ _ _ _ _ _ _ (by omega) (by omega) rfl
  refine zW (aT hl1 t0 hi1 hmk) ?_
  refine AnsH.use (whole_Of C (n:=1) zF (by omega) (by omega)) ?_
  rintro v H2 ⟨⟨w,rfl,hn⟩,hk2⟩
  obtain ⟨k2,_,w2⟩:=zT H1 zK hk2
  have ow:=hn.one
  have hb2:=hk2.get (b:=H1.next+3) (e:=.cells cells aa true) (eA)
  have lt2:=w2 _ _ hb2
  have hclen:cells.length=d*2:=by rw [hcells]; simp
  have hst:Cf (some (.cells cells aa true)) 2 (0+j*2) (.agg [.bool false,w])=some (.cells (cells.take (0+j*2)++[.bool false,w]++cells.drop (0+j*2+2)) aa true):=l5 (GQ (aW _) ow) (by omega)
  have hio:fO 2 (.own (H1.next+3) 0 d d 2 true) (.int .i64 (j:Int))=some (.ptr (H1.next+3) (0+j*2)):=oY hj
  rw [Nat.zero_add] at hst hio
  obtain ⟨cells2,hc2⟩:∃ c,c=cells.take (j*2)++[.bool false,w]++cells.drop (j*2+2):=⟨_,rfl⟩
  rw [<- hc2] at hst
  have hz:intE.R H2 [.bool false,.nilSl] 0:=⟨.nilSl,by simp,gL H2⟩
  have hcl:Cells intE H2 cells (List.replicate d 0):=by rw [hcells]; exact rq hz _
  have hcl2:Cells intE H2 cells2 ((List.replicate d 0).set j 1):=by rw [hc2]; exact hcl.set (i:=j) (by simpa using hj) ⟨w,rfl,hn⟩
  have m3:NoTy [ad] H2 (H1.next+3):=NoTy.ty hb2 (by decide)
  obtain ⟨Hx,hHx⟩:∃ Hx,Hx=H2.put (H1.next+3) (.cells cells2 aa true):=⟨_,rfl⟩
  have kx:Kp H1 Hx:=by rw [hHx]; exact zK
  have k0x:Kp H Hx:=hk1.trans kx
  have nx:Hx.next=H2.next:=by rw [hHx]; rfl
  have hclx:Cells intE Hx cells2 ((List.replicate d 0).set j 1):=by rw [hHx]; exact Cells.mono (E:=intE) zS hcl2
  have hrow:RowV Hx (.own (H1.next+3) 0 d d 2 true) (Lin.unitV d j):=by
   have:Own intE aa H1 Hx (H1.next+3) true (.own (H1.next+3) 0 d d 2 true) ((List.replicate d 0).set j 1):=⟨cells2,by simp [intE],by rw [hHx]; exact aG _ _ _,hclx,by omega⟩
   exact this.sl
  have orr:=hrow.one
  obtain ⟨n6,H6,e6,b6,k6,nx6,f6,u6⟩:=Bl.push1 (ty2:=ae) (bytes:=24) (id:=Hx.next+3) (id2:=Hx.next+2) (k:=5) (cs:=[.own (H1.next+3) 0 d d 2 true]) (a:=Lin.unitV d j) (ho.mono kx.sub) (by decide) k0x ⟨_,rfl,hrow⟩ (by omega) (by omega) (by omega) (by omega) (by omega) (by simp; omega) (by simp; omega)
  have e6':eP ((((H2.up 5).put (H1.next+3) (.cells cells2 aa true))).put (H2.next+2) (.cells [.own (H1.next+3) 0 d d 2 true] ae true)) (H2.next+3) 1 24 ae o (.own (H2.next+2) 0 1 1 1 true)=some (.own (H2.next+3) 0 n6 n6 1 false,H6):=by rw [hHx] at e6; exact e6
  rw [nx] at b6
  refine zW (iq hl1 hio hb2 hst hv e6') ?_
  refine ⟨k6,_,rfl,?_⟩
  rw [List.range_succ,List.map_append]
  exact b6
 ·rintro T1 H1 hl1 hs1 hk1 ⟨o,hv,ho⟩
  have w1:=hk1.wf
  have le_hk1:=hk1.le
  simp only [List.map_cons,List.map_nil,List.cons.injEq,and_true] at hv
  simp only [List.length_set,hl] at hl1
  refine zW (aw hl1 hv) ?_
  exact ⟨ho,hk1⟩
abbrev NO (H:Heap) (v:AV) (Ls:List (List (List Int))):Prop:=tk (nD rowsE ae) qp H v Ls
theorem cone_long (C:Code tab) (hw:Wf H) {Ls:List (List (List Int))} {d:Nat} (hs:NO H s Ls) (hbig:Ls.length<1099511627776) (hd:∀ L∈Ls,∀ r∈L,r.length=d):Ans tab (.fn jt [s]) H fun v H'=>v=.int .i64 (if Ls.any (fun L=>!L.isEmpty) then (d:Int) else -1)/\Kp H H':=by
 refine d9 C.cone_long (by decide) fun T hl g0=>?_
 refine zW (aB hl g0 hs.lenV) ?_
 refine al H [] (fun j _ _=>∀ k (h:k<Ls.length),k<j->Ls[k]=[]) (a:=0) (N:=Ls.length) rfl (by refine zW (aw hl g0) ?_; rfl) (zV (aw hl g0)) (Nat.zero_le _) (by omega) (by simp only [List.length_set,hl]; rfl) rfl (fun _ _ _ _ h=>h) zK (fun k _ h=>by omega) ?_ ?_
 ·intro j T1 H1 _ hj hl1 hi1 hs1 hk1 hP
  have w1:=hk1.wf
  have le_hk1:=hk1.le
  have t5:af T1 5=s:=(hs1.at_ 5 (by decide)).trans (zV (aw hl g0))
  obtain ⟨w,hr,hld⟩:=SlV.at1 (hs.mono hk1.sub) (List.getElem?_eq_getElem hj)
  have hr:aZ H1 w Ls[j]:=hr
  have hix:=SlV.idx1 hs .i64 j hj
  simp only [List.length_set,hl] at hl1
  rcases Nat.eq_zero_or_pos (Ls[j]).length with h0 | h0
  ·have he:=List.length_eq_zero_iff.1 h0
   have hlv:lenV w=some (.int .i64 0):=by rw [hr.lenV,h0]; rfl
   refine zW (iq hl1 t5 hi1 hix hld hlv) ?_
   refine ⟨zK,fun k h hk=>?_⟩
   by_cases e:k=j
   ·subst e; exact he
   ·exact hP k h (by omega)
  ·obtain ⟨w0,hr0,hld0⟩:=cJ hr h0
   have hix0:fO 1 w (.int .i64 0)=some (aV w 0):=SlV.idx1 hr .i64 0 h0
   have l0:lenV w0=some (.int .i64 (d:Int)):=by rw [hr0.lenV,hd _ (List.getElem_mem hj) _ (List.getElem_mem h0)]
   have hpos:(0:Int)<((Ls[j]).length:Int):=by omega
   refine zW (rh hl1 t5 hi1 hix hld hr.lenV hpos h0 hix0 hld0 l0) ?_
   refine ⟨?_,zK⟩
   rw [if_pos]
   rw [List.any_eq_true]
   exact ⟨_,List.getElem_mem hj,by cases h:Ls[j] with | nil=>rw [h] at h0; simp at h0 | cons a l=>rfl⟩
 ·intro T1 H1 hl1 hs1 hk1 hP
  simp only [List.length_set,hl] at hl1
  refine zW hl1 ?_
  refine ⟨?_,zK⟩
  rw [if_neg]
  rw [Bool.not_eq_true,List.any_eq_false]
  intro L hL
  obtain ⟨k,hk,rfl⟩:=List.getElem_of_mem hL
  rw [hP k hk hk]; simp
def cn (A B:List (List (Bool × List Nat))):Int :=
 if aN A≠0 then aN A else if aN B≠0 then aN B else if A≠[]/\B≠[]/\(A.getD 0 []).length≠(B.getD 0 []).length then 70 else 0
theorem cone_checked (C:Code tab) (hw:Wf H) {va vb:AV} {A B:List (List (Bool × List Nat))} (ha:gQ H va A) (hb:gQ H vb B) (hA:A.length<1099511627776) (hB:B.length<1099511627776) (ba:∀ r∈A,tj r) (bb:∀ r∈B,tj r) :
  Ans tab (.fn fo [va,vb]) H fun v H'=>v=.int .i64 (cn A B)/\Kp H H':=by
 have oa:=ha.one
 have ob:=hb.one
 refine AA C.cone_checked rfl rfl (by decide) fun T hl g=>?_
 have hl:T.length=39:=hl
 have hrs:c_cone_checked.results=[(4,none)]:=rfl
 have g0:af T 0=va:=g 0 (by simp)
 have g1:af T 1=vb:=g 1 (by simp)
 refine cd ?_
 refine zW (aT hl g0 g1 @aQ) ?_
 refine fd (fun T' H'=>aN A=0/\aN B=0/\Kp H H') rfl ?_ ?_
 ·refine zW (aB hl g0 g1) ?_
  refine bK H [11] (fun k vs H'=>∃ i:Nat,vs=[.int .i64 (i:Int)]/\i+k=2/\(1<=i->aN A=0)/\(2<=i->aN B=0)) 2 (by simp only [List.length_set]; exact hl) rfl zK ⟨0,by refine zW hl ?_; rfl,rfl,by omega,by omega⟩ ?_
  rintro k T1 H1 hl1 hs1 hk1 ⟨i,hv,hik,hc1,hc2⟩
  have w1:=hk1.wf
  have le_hk1:=hk1.le
  simp only [List.map_cons,List.map_nil,List.cons.injEq,and_true] at hv
  have t10:af T1 10=.agg [va,vb]:=(hs1.at_ 10 (by decide)).trans (zV (aB hl g0 g1))
  have:i=0\/i=1\/i=2:=by omega
  rcases this with rfl | rfl | rfl
  ·have hv:af T1 11=.int .i64 0:=hv
   refine zW (aB hl1 hv t10) ?_
   refine AnsH.eq (rows_Check C zF (ha.mono (Kp.sub (H:=H) zK)) (by omega) ba) fun H2 hk2=>?_
   obtain ⟨k2,_,w2⟩:=zT H zK hk2
   by_cases h:aN A=0
   ·refine zW (aB hl1 hv h) ?_
    exact ⟨zK,1,by omega,1,rfl,rfl,(by first | exact fun _=>h | exact fun _=>trivial),by omega⟩
   ·refine zW (da hl1 hv h @Ah hrs) ?_
    exact ⟨by unfold cn; rw [if_pos h],zK⟩
  ·have hv:af T1 11=.int .i64 1:=hv
   refine zW (aB hl1 hv t10) ?_
   refine AnsH.eq (rows_Check C zF (hb.mono (Kp.sub (H:=H) zK)) (by omega) bb) fun H2 hk2=>?_
   obtain ⟨k2,_,w2⟩:=zT H zK hk2
   have hA0:=hc1 (by omega)
   by_cases h:aN B=0
   ·refine zW (aB hl1 hv h) ?_
    exact ⟨zK,0,by omega,2,rfl,rfl,(by first | exact fun _=>hA0 | exact fun _=>trivial),(by first | exact fun _=>h | exact fun _=>trivial)⟩
   ·refine zW (da hl1 hv h @Ah hrs) ?_
    refine ⟨?_,zK⟩
    unfold cn
    rw [if_neg (by simpa using hA0),if_pos h]
  ·have hv:af T1 11=.int .i64 2:=hv
   refine zW (aT hl1 hv t10 @bg) ?_
   exact ⟨hc1 (by omega),hc2 (by omega),zK⟩
 ·rintro T1 H1 hs1 ⟨c1,c2,k1⟩
  have w1:=k1.wf
  have t0:af T1 0=va:=(hs1.at_ 0 (by decide)).trans (zV (aw hl g0))
  have t1:af T1 1=vb:=(hs1.at_ 1 (by decide)).trans (zV (aw hl g1))
  have hl1:T1.length=39:=hs1.len.trans (by simp only [List.length_set]; exact hl)
  have hcode:cn A B=if A≠[]/\B≠[]/\(A.getD 0 []).length≠(B.getD 0 []).length then 70 else 0:=by
   unfold cn
   rw [if_neg (by simpa using c1),if_neg (by simpa using c2)]
  refine WC.wb ?_
  refine zW (aB hl1 t0 t1) ?_
  rcases Nat.eq_zero_or_pos A.length with a0 | a0
  ·have hlA:lenV va=some (.int .i64 0):=by rw [ha.lenV,a0]; rfl
   have hA0:=List.length_eq_zero_iff.1 a0
   refine aR ?_
   refine zD (iq hl1 t0 t1 hlA hrs @bT) ?_
   exact ⟨by rw [hcode,if_neg (fun h=>h.1 hA0)],zK⟩
  ·have posA:(0:Int)<(A.length:Int):=by omega
   have hAn:A≠[]:=fun e=>by rw [e] at a0; simp at a0
   rcases Nat.eq_zero_or_pos B.length with b0 | b0
   ·have hlB:lenV vb=some (.int .i64 0):=by rw [hb.lenV,b0]; rfl
    have hB0:=List.length_eq_zero_iff.1 b0
    refine aR ?_
    refine zD (nF hl1 t0 t1 ha.lenV posA a0 hlB hrs @bT) ?_
    exact ⟨by rw [hcode,if_neg (fun h=>h.2.1 hB0)],zK⟩
   ·have posB:(0:Int)<(B.length:Int):=by omega
    have hBn:B≠[]:=fun e=>by rw [e] at b0; simp at b0
    obtain ⟨wa,hra,hlda⟩:=rr (ha.mono k1.sub) a0
    obtain ⟨wb,hrb,hldb⟩:=rr (hb.mono k1.sub) b0
    have xa:fO 1 va (.int .i64 0)=some (aV va 0):=SlV.idx1 ha .i64 0 a0
    have xb:fO 1 vb (.int .i64 0)=some (aV vb 0):=SlV.idx1 hb .i64 0 b0
    have la:=hra.lenV
    have lb:=hrb.lenV
    have ga:A.getD 0 []=A[0]:=by simp [a0]
    have gb:B.getD 0 []=B[0]:=by simp [b0]
    by_cases he:A[0].length=B[0].length
    ·have he':((A[0].length:Nat):Int)=((B[0].length:Nat):Int):=by omega
     refine aR ?_
     refine zD (JO hl1 t0 t1 ha.lenV hb.lenV posA a0 posB @b0 xa xb hlda hldb la lb he' he hrs @bT) ?_
     exact ⟨by rw [hcode,ga,gb,if_neg (fun h=>h.2.2 he)],zK⟩
    ·have he':¬ ((A[0].length:Nat):Int)=((B[0].length:Nat):Int):=by omega
     refine aR ?_
     refine zD (JO hl1 t0 t1 ha.lenV hb.lenV posA a0 posB @b0 xa xb hlda hldb la lb he' he hrs @bT) ?_
     exact ⟨by rw [hcode,ga,gb,if_pos ⟨hAn,hBn,he⟩],zK⟩
end
end Go.Proofs.YtichbdepocojaaaGreat.Ev
namespace Go.Proofs.YtichbdepocojaaaGreat.Lin
set_option linter.all false
theorem xz:∀ (n:Nat) (l:List (List Bool)),l.Nodup->(∀ b∈l,b.length=n)->l.length<=2^n
 | 0,[],_,_=>by simp
 | 0,[a],_,_=>by simp
 | 0,a :: b :: l,hn,h=>by
  have ha:=List.length_eq_zero_iff.1 (h a (by simp))
  have hb:=List.length_eq_zero_iff.1 (h b (by simp))
  subst ha; subst hb
  simp at hn
 | n+1,l,hn,h=>by
  have part:∀ v:Bool,((l.filter fun b=>b.head? == some v).map List.tail).length<=2^n:=fun v=>by
   refine xz n _ ?_ fun b hb=>?_
   ·refine List.pairwise_map.2 (List.Pairwise.imp_of_mem (fun {x y} hx hy hne e=>hne ?_) (List.Pairwise.filter _ hn))
    have hx:=(List.mem_filter.1 hx).2
    have hy:=(List.mem_filter.1 hy).2
    cases x with
    | nil=>simp at hx
    | cons a x =>
     cases y with
     | nil=>simp at hy
     | cons b y =>
      simp at hx hy e
      rw [hx,hy,e]
   ·obtain ⟨c,hc,rfl⟩:=List.mem_map.1 hb
    have:=h c (List.mem_filter.1 hc).1
    simp [this]
  have h1:=part true
  have h2:=part false
  rw [List.length_map] at h1 h2
  have h3:l.length=(l.filter fun b=>b.head? == some true).length+(l.filter fun b=>b.head? == some false).length:=by
   rw [<- List.countP_eq_length_filter,<- List.countP_eq_length_filter,List.length_eq_countP_add_countP (p:=fun b:List Bool=>b.head? == some true)]
   congr 1
   refine List.countP_congr fun b hb=>?_
   have:=h b hb
   cases b with
   | nil=>simp at this
   | cons a b=>cases a <;> simp
  rw [Nat.pow_succ]; omega
theorem DD.count {d:Nat} {E L:V->Prop} {dn R:List V} (h:DD d E (· ∈ dn) L R):R.length<=2^dn.length:=by
 have hn:(R.map fun r=>dn.map fun i=>decide (dot i r=0)).Nodup:=by
  refine List.pairwise_map.2 (h.apart.imp fun hne e=>hne fun i hi=>?_)
  have:=List.map_inj_left.1 e i hi
  simpa using this
 have:=xz dn.length _ hn fun b hb=>by obtain ⟨r,-,rfl⟩:=List.mem_map.1 hb; simp
 simpa using this
theorem gensU_done {d:Nat} {eqs ineqs:List V} (h1:∀ a∈eqs,a.length=d) (h2:∀ a∈ineqs,a.length=d):(gensU d eqs ineqs).done=ineqs:=by
 obtain ⟨g1,g2⟩:=tD eqs (startU d) _ l4 h1
 obtain ⟨g3,g4⟩:=rX ineqs _ g1 h2
 exact g4.trans (by rw [g2]; simp [startU])
theorem uW {d:Nat} (eq:Bool):∀ (l:List V) (u:Under) (E:V->Prop) (ps:List (Nat × V)),DD d E (· ∈ u.done) (· ∈ u.lines) u.rays->JJ d ps u->(∀ a∈l,a.length=d)->∃ ps',JJ d ps' (l.foldl (fun u a=>addU a eq u) u)
 | [],u,E,ps,_,h,_=>⟨ps,h⟩
 | a :: l,u,E,ps,hdd,h,hl=>by
  obtain ⟨ps',h'⟩:=Jc (a:=a) hdd h eq
  exact uW eq l (addU a eq u) _ ps' (B2 hdd (hl a (List.mem_cons_self ..)) eq) h' fun b hb=>hl b (List.mem_cons_of_mem _ hb)
theorem Ei {d:Nat} {eqs ineqs:List V} (h1:∀ a∈eqs,a.length=d) (h2:∀ a∈ineqs,a.length=d):∃ ps,JJ d ps (gensU d eqs ineqs):=by
 obtain ⟨g1,-⟩:=tD eqs (startU d) _ l4 h1
 obtain ⟨ps,hp⟩:=uW true eqs (startU d) _ _ l4 (EC d) h1
 exact uW false ineqs _ _ ps g1 hp h2
theorem EW (a:V) (eq:Bool) (u:Under):(addU a eq u).lines.length<=u.lines.length:=by
 unfold addU
 split
 ·exact Nat.le_refl _
 ·simp only [List.length_map]
  exact List.length_eraseIdx_le ..
theorem qe (eq:Bool):∀ (l:List V) (u:Under),(l.foldl (fun u a=>addU a eq u) u).lines.length<=u.lines.length
 | [],u=>Nat.le_refl _
 | a :: l,u=>Nat.le_trans (qe eq l (addU a eq u)) (EW a eq u)
theorem gensU_lines (d:Nat) (eqs ineqs:List V):(gensU d eqs ineqs).lines.length<=d:=by
 refine Nat.le_trans (qe false ineqs _) (Nat.le_trans (qe true eqs _) ?_)
 simp [startU]
theorem gens_mid {d M:Nat} (hd:0<d) (hM:0<M) {eqs ineqs:List V} (h1:∀ a∈eqs,a.length=d/\Bd M a) (h2:∀ a∈ineqs,a.length=d/\Bd M a) :
  (∀ l∈(gensU d eqs ineqs).lines,l.length=d/\Bd ((2*d*M)^2^d) l)/\(∀ r∈(gensU d eqs ineqs).rays,r.length=d/\Bd ((2*d*M)^2^d) r)/\(gensU d eqs ineqs).rays.length<=2^ineqs.length:=by
 have e1:∀ a∈eqs,a.length=d:=fun a ha=>(h1 a ha).1
 have e2:∀ a∈ineqs,a.length=d:=fun a ha=>(h2 a ha).1
 have hdd:=gensU_dd e1 e2
 obtain ⟨ps,hp⟩:=Ei e1 e2
 have hdn:=gensU_done e1 e2
 obtain ⟨b1,b2⟩:=GY (Es:=eqs) hd hM (by rw [hdn]; exact hdd) hp h1 (by rw [hdn]; exact h2)
 exact ⟨fun l hl=>⟨hdd.lenL l hl,b1 l hl⟩,fun r hr=>⟨hdd.lenR r hr,b2 r hr⟩,hdd.count⟩
theorem FU {d:Nat} {E I:V->Prop} {L R dn:List V} (h:Js d E I L R):JJ d (L.map fun l=>(pv l,l)) ⟨L,R,dn⟩:=by
 refine ⟨by simp [List.map_map,Function.comp_def],fun q hq=>?_,fun q hq=>?_,?_,fun r hr q hq=>?_,h.form.cont,h.cont⟩
 ·obtain ⟨l,hl,rfl⟩:=List.mem_map.1 hq
  exact (h.form.pos hl).2.2
 ·obtain ⟨l,hl,rfl⟩:=List.mem_map.1 hq
  have:=(h.form.pos hl).2.1
  simp only
  omega
 ·exact List.pairwise_map.2 h.form.clear
 ·obtain ⟨l,hl,rfl⟩:=List.mem_map.1 hq
  exact h.rest r hr l hl
theorem told_bd {d M:Nat} (hd:0<d) (hM:0<M) {eqs ineqs L R:List V} (h:Js d (· ∈ eqs) (· ∈ ineqs) L R) (h1:∀ a∈eqs,a.length=d/\Bd M a) (h2:∀ a∈ineqs,a.length=d/\Bd M a) :
  (∀ l∈L,Bd ((2*d*M)^2^d) l)/\(∀ r∈R,Bd ((2*d*M)^2^d) r) :=
 GY (u:=⟨L,R,ineqs⟩) hd hM h.dd (FU h) h1 h2
theorem pow_bd {d m:Nat} (hd:d<=6):(2*d*2^m)^2^d<=2^(64*(m+4)):=by
 have h1:2*d*2^m<=2^(m+4):=by
  rw [Nat.pow_add,Nat.mul_comm (2^m)]
  exact Nat.mul_le_mul_right _ (by omega)
 have h2:2^d<=2^6:=Nat.pow_le_pow_right (by decide) hd
 have h3:2^d*(m+4)<=64*(m+4):=Nat.mul_le_mul_right _ h2
 calc (2*d*2^m)^2^d<=(2^(m+4))^2^d:=Nat.pow_le_pow_left h1 _
  _=2^((m+4)*2^d):=(Nat.pow_mul ..).symm
  _<=2^(64*(m+4)):=Nat.pow_le_pow_right (by decide) (by rw [Nat.mul_comm]; exact h3)
theorem Eu {d:Nat} {E I:V->Prop} {L R A B:List V} (hE:∀ e,E e->e.length=d) (hI:∀ i,I i->i.length=d) (h:DD d E I (· ∈ L) R) (h':DD d (· ∈ L) (· ∈ R) (· ∈ A) B):∀ x,Keep d E I x ↔ Keep d (· ∈ A) (· ∈ B) x:=by
 intro x
 constructor
 ·intro hx
  have hc:=h.all x hx
  refine ⟨hx.len,fun a ha=>hc.dot_zero h.lenL h.lenR (fun l hl=>?_) (fun r hr=>?_),fun b hb=>hc.dot_nonneg h.lenL h.lenR (fun l hl=>?_) (fun r hr=>?_)⟩
  ·rw [dot_comm]; exact h'.lineE a ha l hl
  ·rw [dot_comm]; exact h'.lineI a ha r hr
  ·rw [dot_comm]; exact (h'.keep b hb).eq l hl
  ·rw [dot_comm]; exact (h'.keep b hb).ge r hr
 ·intro hx
  have key:∀ y,Keep d (· ∈ L) (· ∈ R) y->0<=dot x y:=fun y hy=>(h'.all y hy).dot_nonneg h'.lenL h'.lenR (fun l hl=>by rw [dot_comm]; exact hx.eq l hl) (fun r hr=>by rw [dot_comm]; exact hx.ge r hr)
  refine ⟨hx.len,fun e he=>?_,fun i hi=>?_⟩
  ·have k1:=key e ⟨hE e he,fun l hl=>by rw [dot_comm]; exact h.lineE l hl e he,fun r hr=>by rw [dot_comm,(h.keep r hr).eq e he]; exact Int.le_refl _⟩
   have k2:=key (scl (-1) e) ⟨scl_length (hE e he),fun l hl=>by rw [dot_scl,dot_comm,h.lineE l hl e he]; rfl,fun r hr=>by rw [dot_scl,dot_comm,(h.keep r hr).eq e he]; exact Int.le_refl _⟩
   rw [dot_scl] at k2
   rw [dot_comm]; omega
  ·rw [dot_comm]
   exact key i ⟨hI i hi,fun l hl=>by rw [dot_comm]; exact h.lineI l hl i hi,fun r hr=>by rw [dot_comm]; exact (h.keep r hr).ge i hi⟩
theorem told_nodup {d:Nat} {E I:V->Prop} {L R:List V} (h:Js d E I L R):R.Nodup:=h.dd.apart.imp fun hne e=>hne fun i hi=>by rw [e]
def kN:List V->List V->List V
 | _,[]=>[]
 | F,a :: l=>match pivot (restF F a) with
  | none=>kN F l
  | some _=>a :: kN (putF F a) l
theorem insP_len (x:V) (p:Nat):∀ F:List V,(insP x p F).length=F.length+1
 | []=>rfl
 | r :: F=>by
  unfold insP
  split
  ·rw [List.length_cons,insP_len x p F,List.length_cons]
  ·rfl
theorem re:∀ (l F:List V),(kN F l).foldl putF F=l.foldl putF F/\(l.foldl putF F).length=F.length+(kN F l).length
 | [],F=>⟨rfl,rfl⟩
 | a :: l,F=>by
  unfold kN
  cases h:pivot (restF F a) with
  | none =>
   have e:putF F a=F:=by unfold putF; rw [h]
   simp only [List.foldl_cons,e]
   exact re l F
  | some p =>
   have e:(putF F a).length=F.length+1:=by unfold putF; rw [h]; simp only; rw [insP_len,List.length_map]
   obtain ⟨h1,h2⟩:=re l (putF F a)
   simp only [List.foldl_cons,List.length_cons]
   exact ⟨h1,by rw [h2,e]; omega⟩
theorem pg:∀ (l F:List V),∀ x∈kN F l,x∈l
 | [],F,x,h=>by cases h
 | a :: l,F,x,h=>by
  unfold kN at h
  split at h
  ·exact List.mem_cons_of_mem _ (pg l F x h)
  ·rcases List.mem_cons.1 h with rfl | h
   ·exact List.mem_cons_self ..
   ·exact List.mem_cons_of_mem _ (pg l _ x h)
theorem Jn {d:Nat} {l:List V} (hl:∀ a∈l,a.length=d):(kN [] l).length<=d/\∀ x,Spn d (· ∈ kN [] l) x ↔ Spn d (· ∈ l) x:=by
 obtain ⟨h1,h2⟩:=re l []
 obtain ⟨h3,h4⟩:=form_ech hl
 obtain ⟨-,h5⟩:=form_ech (d:=d) (l:=kN [] l) fun a ha=>hl a (pg l [] a ha)
 have e:formF (kN [] l)=formF l:=h1
 have h6:=Ev.ech_len h3
 have e2:(formF l).length=([]:List V).length+(kN [] l).length:=h2
 refine ⟨by simp at e2; omega,fun x=>?_⟩
 rw [<- h5 x,e,h4 x]
theorem wX {α:Type} [DecidableEq α] (M:Nat):∀ (A:List α) (l:List (List α)),(∀ b∈l,∃ a∈A,b.head? = some a)->(∀ a∈A,(l.filter fun b=>b.head? == some a).length<=M)->l.length<=A.length*M
 | [],l,h,_=>by
  cases l with
  | nil=>simp
  | cons b l=>obtain ⟨a,ha,_⟩:=h b (List.mem_cons_self ..); cases ha
 | a :: A,l,h,hM=>by
  have h1:=hM a (List.mem_cons_self ..)
  have h2:=wX M A (l.filter fun b=>!(b.head? == some a)) (fun b hb=>by
   obtain ⟨hb,hn⟩:=List.mem_filter.1 hb
   obtain ⟨c,hc,e⟩:=h b hb
   rcases List.mem_cons.1 hc with rfl | hc
   ·simp [e] at hn
   ·exact ⟨c,hc,e⟩) fun c hc=>by
    refine Nat.le_trans ?_ (hM c (List.mem_cons_of_mem _ hc))
    exact (List.Sublist.filter _ List.filter_sublist).length_le
  have h3:l.length=(l.filter fun b=>b.head? == some a).length+(l.filter fun b=>!(b.head? == some a)).length:=by
   rw [<- List.countP_eq_length_filter,<- List.countP_eq_length_filter,List.length_eq_countP_add_countP (p:=fun b:List α=>b.head? == some a)]
   congr 1
   refine List.countP_congr fun b _=>?_
   simp
  rw [List.length_cons,Nat.succ_mul]
  omega
theorem wQ {α:Type} [DecidableEq α] (A:List α):∀ (k:Nat) (l:List (List α)),l.Nodup->(∀ b∈l,b.length=k/\∀ x∈b,x∈A)->l.length<=A.length^k
 | 0,[],_,_=>by simp
 | 0,[a],_,_=>by simp
 | 0,a :: b :: l,hn,h=>by
  have ha:=List.length_eq_zero_iff.1 (h a (by simp)).1
  have hb:=List.length_eq_zero_iff.1 (h b (by simp)).1
  subst ha; subst hb
  simp at hn
 | k+1,l,hn,h=>by
  have:=wX (A.length^k) A l (fun b hb=>by
   obtain ⟨h1,h2⟩:=h b hb
   cases b with
   | nil=>simp at h1
   | cons x b=>exact ⟨x,h2 x (List.mem_cons_self ..),rfl⟩) fun v _=>by
    have:=wQ A k ((l.filter fun b=>b.head? == some v).map List.tail) (by
     refine List.pairwise_map.2 (List.Pairwise.imp_of_mem (fun {x y} hx hy hne e=>hne ?_) (List.Pairwise.filter _ hn))
     have hx:=(List.mem_filter.1 hx).2
     have hy:=(List.mem_filter.1 hy).2
     cases x with
     | nil=>simp at hx
     | cons a x =>
      cases y with
      | nil=>simp at hy
      | cons b y =>
       simp at hx hy e
       rw [hx,hy,e]) fun b hb=>by
     obtain ⟨c,hc,rfl⟩:=List.mem_map.1 hb
     obtain ⟨h1,h2⟩:=h c (List.mem_filter.1 hc).1
     refine ⟨by simp [h1],fun x hx=>h2 x (List.mem_of_mem_tail hx)⟩
    rwa [List.length_map] at this
  rw [Nat.pow_succ,Nat.mul_comm]; exact this
theorem GT:∀ x:V,0<=dot x x/\(dot x x=0->∀ y:V,dot y x=0)
 | []=>⟨by simp [dot],fun _ y=>by cases y <;> simp [dot]⟩
 | a :: x=>by
  obtain ⟨h1,h2⟩:=GT x
  have h3:0<=a*a:=by
   rcases Int.le_total 0 a with h | h
   ·exact Int.mul_nonneg h h
   ·exact Int.mul_nonneg_of_nonpos_of_nonpos h h
  have e:dot (a :: x) (a :: x)=a*a+dot x x:=by simp [dot]
  rw [e]
  refine ⟨by omega,fun h0 y=>?_⟩
  have ha:a=0:=by
   have:a*a=0:=by omega
   rcases Int.mul_eq_zero.1 this with h | h <;> exact h
  cases y with
  | nil=>simp [dot]
  | cons b y =>
   have:=h2 (by omega) y
   simp [dot,ha] at this ⊢
   exact this
theorem Hg {d:Nat} {l:List V} (hl:∀ a∈l,a.length=d) {r i:V} (hr:r.length=d) (hz:∀ a∈l,dot a r=0) (hn:dot i r≠0):(kN [] l).length+1<=d:=by
 obtain ⟨h1,h2⟩:=form_ech hl
 obtain ⟨h3,h4⟩:=put_ech h1 hr
 have e2:(formF l).length=([]:List V).length+(kN [] l).length:=(re l []).2
 cases hp:pivot (restF (formF l) r) with
 | some p =>
  have e:(putF (formF l) r).length=(formF l).length+1:=by unfold putF; rw [hp]; simp only; rw [insP_len,List.length_map]
  have:=Ev.ech_len h3
  simp at e2
  omega
 | none =>
  exfalso
  have e:putF (formF l) r=formF l:=by unfold putF; rw [hp]
  have h5:Spn d (· ∈ l) r:=(h2 r).1 (by
   have:=(h4 r).2 (dY hr (.inr rfl))
   rw [e] at this
   exact this)
  have h6:=Con.dot_zero (a:=r) hl (fun r h=>h.elim) (fun a ha=>by rw [dot_comm]; exact hz a ha) (fun r h=>h.elim) h5
  exact hn ((GT r).2 h6 i)
theorem DD.count2 {d:Nat} {E L:V->Prop} {dn R:List V} (h:DD d E (· ∈ dn) L R) (hdn:∀ i∈dn,i.length=d):R.length<=(dn.length+1)^(d-1):=by
 obtain ⟨T,hT⟩:∃ T:V->List V,T=fun r=>dn.filter fun i=>decide (dot i r=0):=⟨_,rfl⟩
 have mT:∀ r i,i∈T r ↔ i∈dn/\dot i r=0:=fun r i=>by rw [hT,List.mem_filter]; simp
 have lT:∀ r,∀ i∈T r,i.length=d:=fun r i hi=>hdn i ((mT r i).1 hi).1
 have hn:(R.map fun r=>kN [] (T r)++List.replicate (d-1-(kN [] (T r)).length) (jh d)).Nodup:=by
  have half:∀ r s:V,kN [] (T r)++List.replicate (d-1-(kN [] (T r)).length) (jh d)=kN [] (T s)++List.replicate (d-1-(kN [] (T s)).length) (jh d)->∀ i,i∈dn->dot i r=0->dot i s=0:=fun r s e i hi hz=>by
   have h1:Spn d (· ∈ kN [] (T r)) i:=((Jn (lT r)).2 i).2 (dY (hdn i hi) ((mT r i).2 ⟨hi,hz⟩))
   rw [dot_comm]
   refine Con.dot_zero (fun l hl=>lT r l (pg _ _ l hl)) (fun r h=>h.elim) (fun l hl=>?_) (fun r h=>h.elim) h1
   have h2:l∈kN [] (T s)++List.replicate (d-1-(kN [] (T s)).length) (jh d):=by rw [<- e]; exact List.mem_append_left _ hl
   rcases List.mem_append.1 h2 with h2 | h2
   ·rw [dot_comm]; exact ((mT s l).1 (pg _ _ l h2)).2
   ·rw [List.eq_of_mem_replicate h2,jR]
  exact List.pairwise_map.2 (h.apart.imp fun hne e=>hne fun i hi=>⟨half _ _ e i hi,half _ _ e.symm i hi⟩)
 have:=wQ (jh d :: dn) (d-1) _ hn fun b hb=>by
  obtain ⟨r,hr,rfl⟩:=List.mem_map.1 hb
  obtain ⟨i,hi,hni⟩:=h.off r hr
  have h1:=Hg (lT r) (h.lenR r hr) (fun a ha=>((mT r a).1 ha).2) hni
  refine ⟨by rw [List.length_append,List.length_replicate]; omega,fun x hx=>?_⟩
  rcases List.mem_append.1 hx with hx | hx
  ·exact List.mem_cons_of_mem _ ((mT r x).1 (pg _ _ x hx)).1
  ·rw [List.eq_of_mem_replicate hx]; exact List.mem_cons_self ..
 simpa using this
end Go.Proofs.YtichbdepocojaaaGreat.Lin
namespace Go.Proofs.YtichbdepocojaaaGreat.Ev
open Go Nn
set_option linter.all false
theorem zU (d:Nat) (E:List (List Int)) {j:Nat} (h:j<E.length):Lin.gensU d (E.take (j+1)) []=Lin.addU E[j] true (Lin.gensU d (E.take j) []):=by
 unfold Lin.gensU
 rw [List.take_succ_eq_append_getElem h,List.foldl_append]; rfl
theorem zR (d:Nat) (E I:List (List Int)) {j:Nat} (h:j<I.length):Lin.gensU d E (I.take (j+1))=Lin.addU I[j] false (Lin.gensU d E (I.take j)):=by
 unfold Lin.gensU
 rw [List.take_succ_eq_append_getElem h,List.foldl_append]; rfl
theorem kM {m:Nat} {x:List Int} (h:Lin.Bd (2^m) x):∀ z∈x,Bt (m+1) z:=fun z hz=>by
 have h1:=h.mem z hz
 have h2:0<2^m:=Nat.pow_pos (by decide)
 unfold Bt
 rw [Nat.pow_succ]
 omega
theorem Ej {d:Nat} {l:List (List Int)} (hl:∀ r∈l,r.length=d):Lin.formF (Lin.formF l)=Lin.formF l:=by
 have h:=Lin.form_ech hl
 have h2:=Lin.form_ech h.1.len
 exact h2.1.unique h.1 h2.2
structure JI (d f:Nat) (u:Lin.Under) (I:List (List Int)):Prop where
 lines:∀ l∈u.lines,l.length=d/\∀ z∈l,Bt f z
 rays:∀ r∈u.rays,r.length=d/\∀ z∈r,Bt f z
 few:u.rays.length<=(I.length+1)^(d-1)
 some:u.lines.length<=d
 done:u.done=I
theorem KY {d m:Nat} (hd0:0<d) (hd:d<=6) {E I:List (List Int)} (h1:∀ a∈E,a.length=d/\Lin.Bd (2^m) a) (h2:∀ a∈I,a.length=d/\Lin.Bd (2^m) a):JI d (64*(m+4)+1) (Lin.gensU d E I) I:=by
 obtain ⟨g1,g2,g3⟩:=Lin.gens_mid hd0 (Nat.pow_pos (n:=m) (show 0<2 by decide)) h1 h2
 exact ⟨fun l hl=>⟨(g1 l hl).1,kM ((g1 l hl).2.mono (Lin.pow_bd hd))⟩,fun l hl=>⟨(g2 l hl).1,kM ((g2 l hl).2.mono (Lin.pow_bd hd))⟩,(Lin.gensU_dd (fun a ha=>(h1 a ha).1) (fun a ha=>(h2 a ha).1)).count2 (fun a ha=>(h2 a ha).1),Lin.gensU_lines d E I,Lin.gensU_done (fun a ha=>(h1 a ha).1) (fun a ha=>(h2 a ha).1)⟩
theorem ts {d m:Nat} (hd0:0<d) (hd:d<=6) {E I:List (List Int)} (h1:∀ a∈E,a.length=d/\Lin.Bd (2^m) a) (h2:∀ a∈I,a.length=d/\Lin.Bd (2^m) a) :
  (∀ l∈Lin.gensL d E I,l.length=d/\Lin.Bd (2^(64*(m+4))) l)/\∀ r∈Lin.gensR d E I,r.length=d/\Lin.Bd (2^(64*(m+4))) r:=by
 have t:=Lin.gens_told (fun a ha=>(h1 a ha).1) (fun a ha=>(h2 a ha).1)
 obtain ⟨g1,g2⟩:=Lin.told_bd hd0 (Nat.pow_pos (n:=m) (show 0<2 by decide)) t h1 h2
 exact ⟨fun l hl=>⟨t.dd.lenL l hl,(g1 l hl).mono (Lin.pow_bd hd)⟩,fun l hl=>⟨t.dd.lenR l hl,(g2 l hl).mono (Lin.pow_bd hd)⟩⟩
theorem La {e d:Nat} (hd:d<=6):iw e d<=1237*e+1957:=by
 refine Nat.le_trans (pX e hd) ?_
 simp only [iw]
 omega
theorem pZ {d:Nat} {A B:List (List Int)} (h1:nk d A) (h2:nk d B) (hA:A.length<=1024) (hB:B.length<=1024):cn (A.map fun r=>r.map kw) (B.map fun r=>r.map kw)=0:=by
 have code:∀ {L:List (List Int)},nk d L->L.length<=1024->aN (L.map fun r=>r.map kw)=0:=fun {L} hok hL=>by
  refine oO (by rw [List.length_map]; exact hL) (fun k hk=>?_) fun k hk=>?_
  ·rw [List.length_map] at hk
   have hm:=List.getElem_mem hk
   simp only [List.getElem_map]
   unfold qa
   rw [Bb (by rw [hok.len _ hm]; exact hok.le),decide_eq_false (by rw [List.length_map,hok.len _ hm]; have:=hok.pos; omega)]
   rfl
  ·rw [List.length_map] at hk
   simp only [List.getElem_map,List.length_map]
   rw [hok.len _ (List.getElem_mem hk),hok.len _ (List.getElem_mem (by omega))]
 unfold cn
 rw [code h1 hA,code h2 hB]
 simp only [ne_eq,not_true_eq_false,if_false]
 rw [if_neg]
 rintro ⟨ha,hb,hne⟩
 apply hne
 cases A with
 | nil=>simp at ha
 | cons a A =>
  cases B with
  | nil=>simp at hb
  | cons b B=>simp [h1.len a (by simp),h2.len b (by simp)]
theorem Jd {a:AV} (ha:One a):kL [.nilSl,.nilSl,.nilSl] [((0,1),a)]=some (.agg [a,.nilSl,.nilSl]):=by
 simp [kL,dj,ha.1,ha.2]
section
variable {tab:Nat->Option aq} {H:Heap} {s:AV}
theorem cone_Gens_f1 (C:Code tab) (hw:Wf H) {a b:AV} {x y:List Int} (ha:RowV H a x) (hb:RowV H b y) (hxy:x.length=y.length) (h64:x.length<=64) (hx:∀ z∈x,fz z) (hy:∀ z∈y,fz z) :
  Ans tab (.fn fq [a,b]) H fun v H'=>v=.int .i64 (yD x y)/\Kp H H':=by
 have oa:=ha.one
 have ob:=hb.one
 refine cD C.cone_Gens_f1 (by decide) fun T hl g0 g1=>?_
 refine zW (aB hl g0 g1) ?_
 refine AnsH.eq (vec_Cmp C zF (ha.mono (Kp.sub (H:=H) zK)) (hb.mono (Kp.sub (H:=H) zK)) hxy h64 hx hy) fun H2 hk2=>?_
 obtain ⟨k2,_,_⟩:=zT H zK hk2
 refine zW (aB hl g0 g1) ?_
 exact zK
theorem BR (C:Code tab) (hw:Wf H) {va vb:AV} {E I:List (List Int)} {d m:Nat} (ha:aZ H va E) (hb:aZ H vb I) (hd0:0<d) (hd:d<=6) (he:E.length<=1024) (hi:I.length<=1024) (hcnt:(I.length+1)^(d-1)<=1000000000000) (h1:∀ a∈E,a.length=d/\Lin.Bd (2^m) a) (h2:∀ a∈I,a.length=d/\Lin.Bd (2^m) a) (hm:m<=300000) :
  Ans tab (.fn dQ [.int .i64 (d:Int),va,vb]) H fun v H'=>∃ p q,v=.tup [p,q,.int .i64 0]/\aZ H' p (Lin.gensL d E I)/\aZ H' q (Lin.gensR d E I)/\Kp H H':=by
 have oa:=ha.one
 have ob:=hb.one
 obtain ⟨f,hf⟩:∃ f,f=64*(m+4)+1:=⟨_,rfl⟩
 have ok1:nk d E:=⟨hd0,by omega,fun r hr=>(h1 r hr).1,fun r hr z hz=>(kM (h1 r hr).2 z hz).sm (by omega)⟩
 have ok2:nk d I:=⟨hd0,by omega,fun r hr=>(h2 r hr).1,fun r hr z hz=>(kM (h2 r hr).2 z hz).sm (by omega)⟩
 have mid:∀ {A B:List (List Int)},(∀ a∈A,a.length=d/\Lin.Bd (2^m) a)->(∀ a∈B,a.length=d/\Lin.Bd (2^m) a)->JI d f (Lin.gensU d A B) B:=fun hA hB=>by rw [hf]; exact KY hd0 hd hA hB
 have hfb:=La (e:=f) hd
 refine AA C.cone_Gens rfl rfl (by decide) fun T hl g=>?_
 have hl:T.length=100:=hl
 have hrs:c_cone_Gens.results=[(6,none),(7,none),(8,none)]:=rfl
 have g0:af T 0=.int .i64 (d:Int):=g 0 (by simp)
 have g1:af T 1=va:=g 1 (by simp)
 have g2:af T 2=vb:=g 2 (by simp)
 refine cd ?_
 refine zW (da hl g0 g1 g2 @aQ) ?_
 refine fd (fun T' H'=>Kp H H') rfl ?_ ?_
 ·refine zW (aT hl g0 g1 g2) ?_
  refine AnsH.eq (cone_checked C zF ((kr ha).mono (Kp.sub (H:=H) zK)) ((kr hb).mono (Kp.sub (H:=H) zK)) (by rw [List.length_map]; omega) (by rw [List.length_map]; omega) (fun r hr=>?_) (fun r hr=>?_)) fun H2 hk2=>?_
  ·obtain ⟨x,hx,rfl⟩:=List.mem_map.1 hr
   exact jH (by rw [ok1.len x hx]; omega) (ok1.sm x hx)
  ·obtain ⟨x,hx,rfl⟩:=List.mem_map.1 hr
   exact jH (by rw [ok2.len x hx]; omega) (ok2.sm x hx)
  rw [pZ ok1 ok2 he hi]
  obtain ⟨k2,_,_⟩:=zT H zK hk2
  refine zW (aw hl @bg) ?_
  exact zK
 intro T1 H1 hs1 k1
 have w1:=k1.wf
 have le1:=k1.le
 have t0:af T1 0=.int .i64 (d:Int):=(hs1.at_ 0 (by decide)).trans (zV (aw hl g0))
 have t1:af T1 1=va:=(hs1.at_ 1 (by decide)).trans (zV (aw hl g1))
 have t2:af T1 2=vb:=(hs1.at_ 2 (by decide)).trans (zV (aw hl g2))
 have t7:af T1 7=.nilSl:=(hs1.at_ 7 (by decide)).trans (zV hl)
 have hl1:T1.length=100:=hs1.len.trans (by simp only [List.length_set]; exact hl)
 refine fd (fun T' H'=>Kp H H'/\af T' 7=.nilSl) rfl ?_ ?_
 ·refine zW (aT hl1 t0 t1 t2) ?_
  refine AnsH.use (cone_long C (Ls:=[E,I]) (d:=d) zF (pS (E:=rowsE) (t1:=ae) ha hb (Kp.sub (H:=H) zK) (eA)) (by simp) (fun L hL r hr=>?_)) ?_
  ·rcases List.mem_cons.1 hL with rfl | hL
   ·exact ok1.len r hr
   ·rcases List.mem_cons.1 hL with rfl | hL
    ·exact ok2.len r hr
    ·cases hL
  rintro v H2 ⟨rfl,hk2⟩
  obtain ⟨k2,_,_⟩:=zT H zK hk2
  have q1:¬ ((d:Int)<1):=by omega
  have q2:¬ ((64:Int)<(d:Int)):=by omega
  have q3:(0:Int)<=(d:Int):=by omega
  cases hany:[E,I].any (fun L=>!L.isEmpty) with
  | true =>
   refine zW (kT hl1 t0 t7 q1 q2 q3 @bg) ?_
   exact zK
  | false =>
   refine zW (kT hl1 t0 t7 q1 q2 q3 @bg) ?_
   exact zK
 rintro T2 H2 hs2 ⟨k2,u7⟩
 have w2:=k2.wf
 have le2:=k2.le
 have u0:af T2 0=.int .i64 (d:Int):=(hs2.at_ 0 (by decide)).trans t0
 have u1:af T2 1=va:=(hs2.at_ 1 (by decide)).trans t1
 have u2:af T2 2=vb:=(hs2.at_ 2 (by decide)).trans t2
 have hl2:T2.length=100:=hs2.len.trans hl1
 refine fd (fun T' H'=>af T' 10=.ptr (H2.next+3) 0/\Kp H H'/\UnderV H H' (H2.next+3) (Lin.gensU d [] [])) rfl ?_ ?_
 ·refine zW (aw hl2 u0) ?_
  refine AnsH.use (cone_all C (d:=d) zF (by omega)) ?_
  rintro v H3 ⟨bl3,hk3⟩
  obtain ⟨k23,_,_⟩:=zT H2 zK hk3
  have k3:Kp H H3:=k2.trans k23
  have le_k3:=k3.le
  have w3:=k3.wf
  have ov:=bl3.sl.one
  have h0:AV.one .nilSl=true:=rfl
  have hbv:tg (.agg [v,.nilSl,.nilSl])=some [v,.nilSl,.nilSl]:=by simp [tg,AV.cells,ov.2,h0]
  have n3:H2.next+5<=H3.next:=hk3.le
  have f3:H3.get (H2.next+3)=none:=hk3.free (show _<H2.next+5 by omega) (w2.fresh (b:=H2.next+3) (by omega))
  refine zW (aT hl2 (Jd ov) hbv @bg) ?_
  have hbl:Wr H H3 v (Lin.startU d).lines (Lin.startU d).lines.length:=bl3.wr.base (show H.next<=H2.next+5 by omega)
  have hnb:jy v≠some (H2.next+3):=fun hx=>by
   have h2:H2.next+5<=H2.next+3:=bl3.ge hx
   omega
  exact ⟨zK,v,.nilSl,.nilSl,_,aG _ _ _,hbl.put hnb (NoTy.none f3),.inl ⟨rfl,rfl⟩,.inl ⟨rfl,rfl⟩,(fun x _ hy=>by cases hy),(fun x _ hy=>by cases hy),(fun x _ hy=>by cases hy)⟩
 obtain ⟨ub,hub⟩:∃ ub,ub=H2.next+3:=⟨_,rfl⟩
 rw [<- hub]
 have hubH:H.next<=ub:=by omega
 rintro T3 H3 hs3 ⟨fe,k3,hu3⟩
 have w3:=k3.wf
 have le3:=k3.le
 have v1:af T3 1=va:=(hs3.at_ 1 (by decide)).trans u1
 have v2:af T3 2=vb:=(hs3.at_ 2 (by decide)).trans u2
 have v7:af T3 7=.nilSl:=(hs3.at_ 7 (by decide)).trans u7
 have hl3:T3.length=100:=hs3.len.trans hl2
 refine cd ?_
 refine zW (aB hl3 fe @aQ) ?_
 refine fd (fun T' H'=>Kp H H'/\UnderV H H' ub (Lin.gensU d E [])) rfl ?_ ?_
 ·refine zW (aB hl3 v1 ha.lenV) ?_
  refine al H [] (fun j _ H'=>UnderV H H' ub (Lin.gensU d (E.take j) [])) (a:=0) (N:=E.length) rfl (by refine zW hl3 ?_; rfl) (zV hl3) (Nat.zero_le _) (by omega) (by simp only [List.length_set,hl3]; rfl) rfl (fun j vs H' m h=>h.mono (Sub.bump H' m)) zK (by exact hu3.mono (Sub.bump H3 _)) ?_ ?_
  ·rintro j T4 H4 _ hj hl4 hi4 hs4 hk4 hu4
   have w4:=hk4.wf
   have le_hk4:=hk4.le
   have le4:=hk4.le
   have t48:af T4 48=va:=(hs4.at_ 48 (by decide)).trans (zV (aw hl3 v1))
   have t11:af T4 11=.fn (.func cu) [.ptr ub 0] []:=(hs4.at_ 11 (by decide)).trans (zV hl3)
   obtain ⟨w,hr,hld⟩:=cJ ha hj
   have hld4:=dq hk4.sub hld
   have hix:=SlV.idx1 ha .i64 j hj
   have mk:=mid (A:=E.take j) (B:=[]) (fun a h=>h1 a (List.mem_of_mem_take h)) (fun a h=>by cases h)
   have hEj:=h1 _ (List.getElem_mem hj)
   have hso:=mk.some
   have hfe:=mk.few
   simp only [List.length_nil,Nat.zero_add,Nat.one_pow] at hfe
   have hnx:(Lin.addU E[j] true (Lin.gensU d (E.take j) [])).rays.length<=1000000000000:=by
    rw [<- zU d E hj]
    have:=(mid (A:=E.take (j+1)) (B:=[]) (fun a h=>h1 a (List.mem_of_mem_take h)) (fun a h=>by cases h)).few
    simp only [List.length_nil,Nat.zero_add,Nat.one_pow] at this
    omega
   simp only [List.length_set,hl3] at hl4
   refine zW (iq hl4 t48 t11 hi4 hix hld4) ?_
   refine AnsH.use (Aj C (H0:=H) (u:=Lin.gensU d (E.take j) []) (e:=f) (f:=f) (hk4.up _) hubH (hu4.mono (Sub.bump H4 _)) hr hd0 (by omega) hEj.1 mk.lines mk.rays (fun r hr=>by rw [mk.done] at hr; cases hr) (by rw [mk.done]; simp) (fun z hz=>(kM hEj.2 z hz).mono (by omega)) (by omega) (by omega) (by omega) hnx) ?_
   rintro v H5 ⟨rfl,hk5,hu5⟩
   refine zW hl4 ?_
   exact ⟨hk5,by rw [zU d E hj]; exact hu5⟩
  ·rintro T4 H4 hl4 hs4 hk4 hu4
   rw [List.take_length] at hu4
   refine zW (aw hl4 @bg) ?_
   exact ⟨hk4,hu4⟩
 rintro T4 H4 hs4 ⟨k4,hu4⟩
 have w4:=k4.wf
 have le4:=k4.le
 have x2:af T4 2=vb:=(hs4.at_ 2 (by decide)).trans (zV (aw hl3 v2))
 have x7:af T4 7=.nilSl:=(hs4.at_ 7 (by decide)).trans (zV (aw hl3 v7))
 have x10:af T4 10=.ptr ub 0:=(hs4.at_ 10 (by decide)).trans (zV (aw hl3 fe))
 have x11:af T4 11=.fn (.func cu) [.ptr ub 0] []:=(hs4.at_ 11 (by decide)).trans (zV hl3)
 have hl4:T4.length=100:=hs4.len.trans (by simp only [List.length_set]; exact hl3)
 refine fd (fun T' H'=>Kp H H'/\UnderV H H' ub (Lin.gensU d E I)) rfl ?_ ?_
 ·refine zW (aB hl4 x2 hb.lenV) ?_
  refine al H [] (fun j _ H'=>UnderV H H' ub (Lin.gensU d E (I.take j))) (a:=0) (N:=I.length) rfl (by refine zW hl4 ?_; rfl) (zV hl4) (Nat.zero_le _) (by omega) (by simp only [List.length_set,hl4]; rfl) rfl (fun j vs H' m h=>h.mono (Sub.bump H' m)) zK (by exact hu4.mono (Sub.bump H4 _)) ?_ ?_
  ·rintro j T5 H5 _ hj hl5 hi5 hs5 hk5 hu5
   have w5:=hk5.wf
   have le_hk5:=hk5.le
   have le5:=hk5.le
   have t58:af T5 58=vb:=(hs5.at_ 58 (by decide)).trans (zV (aw hl4 x2))
   have t11:af T5 11=.fn (.func cu) [.ptr ub 0] []:=(hs5.at_ 11 (by decide)).trans (zV (aw hl4 x11))
   obtain ⟨w,hr,hld⟩:=cJ hb hj
   have hld5:=dq hk5.sub hld
   have hix:=SlV.idx1 hb .i64 j hj
   have hIt:∀ a∈I.take j,a.length=d/\Lin.Bd (2^m) a:=fun a h=>h2 a (List.mem_of_mem_take h)
   have mk:=mid (A:=E) (B:=I.take j) h1 hIt
   have hIj:=h2 _ (List.getElem_mem hj)
   have hso:=mk.some
   have hfe:=mk.few
   have hp:((I.take j).length+1)^(d-1)<=(I.length+1)^(d-1):=Nat.pow_le_pow_left (by rw [List.length_take]; omega) _
   have hnx:(Lin.addU I[j] false (Lin.gensU d E (I.take j))).rays.length<=1000000000000:=by
    rw [<- zR d E I hj]
    have h3:=(mid (A:=E) (B:=I.take (j+1)) h1 (fun a h=>h2 a (List.mem_of_mem_take h))).few
    have h4:((I.take (j+1)).length+1)^(d-1)<=(I.length+1)^(d-1):=Nat.pow_le_pow_left (by rw [List.length_take]; omega) _
    omega
   simp only [List.length_set,hl4] at hl5
   refine zW (iq hl5 t58 t11 hi5 hix hld5) ?_
   refine AnsH.use (Aj C (H0:=H) (u:=Lin.gensU d E (I.take j)) (e:=f) (f:=f) (hk5.up _) hubH (hu5.mono (Sub.bump H5 _)) hr hd0 (by omega) hIj.1 mk.lines mk.rays (fun r hr=>by rw [mk.done] at hr; exact ⟨(hIt r hr).1,fun z hz=>(kM (hIt r hr).2 z hz).mono (by omega)⟩) (by rw [mk.done,List.length_take]; omega) (fun z hz=>(kM hIj.2 z hz).mono (by omega)) (by omega) (by omega) (by omega) hnx) ?_
   rintro v H6 ⟨rfl,hk6,hu6⟩
   refine zW hl5 ?_
   exact ⟨hk6,by rw [zR d E I hj]; exact hu6⟩
  ·rintro T5 H5 hl5 hs5 hk5 hu5
   rw [List.take_length] at hu5
   refine zW (aw hl5 @bg) ?_
   exact ⟨hk5,hu5⟩
 rintro T5 H5 hs5 ⟨k5,hu5⟩
 have w5:=k5.wf
 have le5:=k5.le
 have y7:af T5 7=.nilSl:=(hs5.at_ 7 (by decide)).trans x7
 have y10:af T5 10=.ptr ub 0:=(hs5.at_ 10 (by decide)).trans x10
 have hl5:T5.length=100:=hs5.len.trans hl4
 have mk:=mid h1 h2
 have hso:=mk.some
 have hfe:=mk.few
 obtain ⟨ql,qr,qd,cl,hub5,hql,hqr,hqd,-,-,-⟩:=hu5
 have lub5:=w5 _ _ hub5
 obtain ⟨tL,tR⟩:=ts hd0 hd h1 h2
 have hT:=Lin.gens_told (fun a ha=>(h1 a ha).1) (fun a ha=>(h2 a ha).1)
 obtain ⟨L,hL⟩:∃ L,L=Lin.gensL d E I:=⟨_,rfl⟩
 have hLf:Lin.formF (Lin.gensU d E I).lines=L:=by rw [hL]; rfl
 have hLL:Lin.formF L=L:=by rw [<- hLf]; exact Ej (fun r hr=>(mk.lines r hr).1)
 have hLlen:L.length<=d:=by rw [hL]; exact ech_len hT.form
 have hLm:∀ r∈L,r.length=d/\∀ z∈r,Bt f z:=fun r hr=>by
  rw [hL] at hr
  exact ⟨(tL r hr).1,fun z hz=>by rw [hf]; exact kM (tL r hr).2 z hz⟩
 refine fd (fun T' H'=>∃ q6,af T' 6=q6/\Kp H5 H'/\aZ H' q6 L) rfl ?_ ?_
 ·refine zW (aB hl5 y10 hub5) ?_
  refine AnsH.use (rows_Echelon C (d:=d) (e:=f) zF (hql.sl.mono (Sub.bump H5 _)) (by omega) hd0 (by omega) (fun r hr=>(mk.lines r hr).1) (fun r hr=>(mk.lines r hr).2) (by omega)) ?_
  rintro v H6 ⟨q6,rfl,hr6,hk6⟩
  have k6:Kp H5 H6:=Kp.trans (Kp.up (Kp.refl w5) _) hk6
  have le_k6:=k6.le
  rw [hLf] at hr6
  refine zW (aw hl5 @bg) ?_
  exact ⟨q6,rfl,k6,hr6⟩
 rintro T6 H6 hs6 ⟨q6,z6,k56,hr6⟩
 have w6:=k56.wf
 have le6:=k56.le
 have z7:af T6 7=.nilSl:=(hs6.at_ 7 (by decide)).trans y7
 have z10:af T6 10=.ptr ub 0:=(hs6.at_ 10 (by decide)).trans y10
 have hl6:T6.length=100:=hs6.len.trans hl5
 have hub6:=k56.get hub5
 have hqr6:aZ H6 qr (Lin.gensU d E I).rays:=hqr.sl.mono k56.sub
 obtain ⟨R,hR⟩:∃ R,R=(Lin.gensU d E I).rays:=⟨_,rfl⟩
 have hRm:∀ r∈R,r.length=d/\∀ z∈r,Bt f z:=fun r hr=>mk.rays r (by rw [<- hR]; exact hr)
 have hRl:R.length<=1000000000000:=by rw [hR]; omega
 rw [<- hR] at hqr6
 refine fd (fun T' H'=>∃ o,af T' 7=o/\Kp H6 H'/\Bl rowsE ae H6 H' o (R.map (Lin.restF L))) rfl ?_ ?_
 ·refine zW (aT hl6 z10 hub6 hqr6.lenV) ?_
  refine al H6 [7] (fun j vs H'=>∃ o,vs=[o]/\Bl rowsE ae H6 H' o ((R.take j).map (Lin.restF L))) (a:=0) (N:=R.length) rfl (by refine zW hl6 ?_; rfl) (zV hl6) (Nat.zero_le _) (by omega) (by simp only [List.length_set,hl6]; rfl) rfl (fun j vs H' m ⟨o,q1,q2⟩=>⟨o,q1,q2.mono (Sub.bump H' m)⟩) (Kp.up (Kp.refl w6) _) ⟨.nilSl,by exact zV (aw hl6 z7),Bl.nil⟩ ?_ ?_
  ·rintro j T7 H7 _ hj hl7 hi7 hs7 hk7 ⟨o,hv,ho⟩
   have w7:=hk7.wf
   have le_hk7:=hk7.le
   have le7:=hk7.le
   simp only [List.map_cons,List.map_nil,List.cons.injEq,and_true] at hv
   have t79:af T7 79=qr:=(hs7.at_ 79 (by decide)).trans (zV hl6)
   have t6:af T7 6=q6:=(hs7.at_ 6 (by decide)).trans (zV (aw hl6 z6))
   obtain ⟨w,hr,hld⟩:=cJ (hqr6.mono hk7.sub) hj
   have hix:=SlV.idx1 hqr6 .i64 j hj
   have hRj:=hRm _ (List.getElem_mem hj)
   simp only [List.length_set,hl6] at hl7
   refine zW (iq hl7 t79 t6 hi7 hix hld) ?_
   refine AnsH.use (rows_Reduce C (d:=d) (e:=f) zF (hr.mono (Sub.bump H7 _)) ((hr6.mono hk7.sub).mono (Sub.bump H7 _)) (by omega) hd0 (by omega) hRj.1 (fun r hr=>(hLm r hr).1) hRj.2 (fun r hr=>(hLm r hr).2) (by omega)) ?_
   rintro v H8 ⟨q,rfl,hrq,hk8⟩
   have k78:Kp H7 H8:=Kp.trans (Kp.up (Kp.refl w7) _) hk8
   have le_k78:=k78.le
   have k68:Kp H6 H8:=hk7.trans k78
   have le_k68:=k68.le
   have w8:=k68.wf
   rw [hLL] at hrq
   have oq:=hrq.one
   have hlen:((R.take j).map (Lin.restF L)).length<=R.length:=by simp; omega
   obtain ⟨n6,H9,e6,b6,k6,nx6,f6,u6⟩:=Bl.push1 (ty2:=ae) (bytes:=24) (id:=H8.next+3) (id2:=H8.next+2) (k:=5) (cs:=[q]) (a:=Lin.restF L R[j]) (ho.mono k78.sub) (by decide) k68 ⟨q,rfl,hrq⟩ (by omega) (by omega) (by omega) (by omega) (by omega) (by omega) (by omega)
   have e6':eP ((H8.up 5).put (H8.next+2) (.cells [q] ae true)) (H8.next+3) 1 24 ae o (.own (H8.next+2) 0 1 1 1 true)=some (.own (H8.next+3) 0 n6 n6 1 false,H9):=e6
   refine zW (aB hl7 hv e6') ?_
   refine ⟨k6,_,rfl,?_⟩
   rw [List.take_succ_eq_append_getElem hj,List.map_append]
   exact b6
  ·rintro T7 H7 hl7 hs7 hk7 ⟨o,hv,ho⟩
   simp only [List.map_cons,List.map_nil,List.cons.injEq,and_true] at hv
   rw [List.take_length] at ho
   refine zW (aw hl7 @bg) ?_
   exact ⟨o,hv,hk7,ho⟩
 rintro T7 H7 hs7 ⟨o,a7,k67,bl7⟩
 have w7:=k67.wf
 have a6:af T7 6=q6:=(hs7.at_ 6 (by decide)).trans z6
 have hl7:T7.length=100:=hs7.len.trans hl6
 have hGR:(R.map (Lin.restF L)).mergeSort Lin.cmpV=Lin.gensR d E I:=by rw [hR,hL]; rfl
 have hperm:(Lin.gensR d E I).Perm (R.map (Lin.restF L)):=by rw [<- hGR]; exact List.mergeSort_perm _ _
 have hMm:∀ r∈R.map (Lin.restF L),r.length=d/\∀ z∈r,fz z:=fun r hr=>by
  have h:=tR r (hperm.mem_iff.2 hr)
  exact ⟨h.1,fun z hz=>(kM h.2 z hz).sm (by omega)⟩
 refine cd ?_
 refine zW (aB hl7 @a7 @aQ) ?_
 refine AnsH.use (wA C.slices_SortFunc_Sl_api_Vec_api_Vec rfl (H0:=H6) (d:=d) (k67.up _) (bl7.mono (Sub.bump H7 _)) (fun r hr=>(hMm r hr).1) (hperm.nodup_iff.1 (Lin.told_nodup hT)) (by rw [List.length_map]; omega) fun D a b hD x hx y hy hxa hyb=>(cone_Gens_f1 C hD hxa hyb ((hMm x hx).1.trans (hMm y hy).1.symm) (by rw [(hMm x hx).1]; omega) (hMm x hx).2 (hMm y hy).2).mono fun _ _ h=>h.1) ?_
 rintro v H8 ⟨rfl,hk8,bl8⟩
 rw [hGR] at bl8
 refine zW (aw hl7 @aQ) ?_
 refine cd ?_
 refine zW (aT hl7 @a6 @a7 @aQ) ?_
 refine WC.wb ?_
 refine zW (aw hl7 hrs) ?_
 have k08:Kp H H8:=(k5.trans k56).trans hk8
 have le_k08:=k08.le
 rw [<- hL]
 exact ⟨_,_,rfl,(hr6.mono hk8.sub).mono (Sub.bump H8 _),bl8.sl.mono (Sub.bump H8 _),k08.up _⟩
theorem cone_Gens (C:Code tab) (hw:Wf H) {va vb:AV} {E I:List (List Int)} {d m:Nat} (ha:aZ H va E) (hb:aZ H vb I) (hd0:0<d) (hd:d<=6) (he:E.length<=1024) (hi:I.length<=20) (h1:∀ a∈E,a.length=d/\Lin.Bd (2^m) a) (h2:∀ a∈I,a.length=d/\Lin.Bd (2^m) a) (hm:m<=300000) :
  Ans tab (.fn dQ [.int .i64 (d:Int),va,vb]) H fun v H'=>∃ p q,v=.tup [p,q,.int .i64 0]/\aZ H' p (Lin.gensL d E I)/\aZ H' q (Lin.gensR d E I)/\Kp H H':=by
 refine BR C hw ha hb hd0 hd he (by omega) ?_ h1 h2 hm
 have g1:(I.length+1)^(d-1)<=21^(d-1):=Nat.pow_le_pow_left (by omega) _
 have g2:21^(d-1)<=21^5:=Nat.pow_le_pow_right (by decide) (by omega)
 have g3:21^5=4084101:=by decide
 omega
end
theorem my {α:Type} {l m:List α} (he:l.length=m.length) (h:∀ q (h:q<l.length) (h':q<m.length),l[q]=m[q]):l=m :=
 List.ext_getElem he fun q h1 h2=>h q h1 h2
def mX (many ag:Nat) (r:List (Bool × List Nat)):Bool:=decide (many<r.length) || r.any fun z=>decide (ag<z.2.length)
def cG (n many ag:Nat) (ls:List (List (Bool × List Nat))):Bool:=decide (n<ls.length) || ls.any (mX many ag)
section
variable {tab:Nat->Option aq} {H:Heap} {s:AV}
theorem A9 (C:Code tab) (hw:Wf H) {a b:AV} {l m:List Nat} (ha:Lb H a l) (hb:Lb H b m) (hl':l.length<4611686018427387904) :
  Ans tab (.fn dG [a,b]) H fun v H'=>v=.bool (decide (l=m))/\Kp H H':=by
 refine cD C.facetroomref01_Same (by decide) fun T hl g0 g1=>?_
 by_cases he:l.length=m.length
 ·have lb:lenV b=some (.int .i64 (l.length:Int)):=by rw [hb.lenV,he]
  refine zW (da hl g0 g1 ha.lenV lb) ?_
  refine bK H [5] (fun k vs H'=>∃ i:Nat,vs=[.int .i64 (i:Int)]/\i+k=l.length/\∀ q (h:q<l.length) (h':q<m.length),q<i->l[q]=m[q]) l.length (by simp only [List.length_set]; exact hl) rfl zK ⟨0,by refine zW (aB hl g0 g1) ?_; rfl,by omega,fun q _ _ h=>by omega⟩ ?_
  rintro k T1 H1 hl1 hs1 hk1 ⟨i,hv,hik,hP⟩
  have w1:=hk1.wf
  have le_hk1:=hk1.le
  simp only [List.map_cons,List.map_nil,List.cons.injEq,and_true] at hv
  have t0:af T1 0=a:=(hs1.at_ 0 (by decide)).trans (zV (aw hl g0))
  have t1:af T1 1=b:=(hs1.at_ 1 (by decide)).trans (zV (aT hl g0 g1 g1))
  by_cases hi:i<l.length
  ·have hii:(i:Int)<(l.length:Int):=by omega
   have hi':i<m.length:=by omega
   obtain ⟨w,hr,hld⟩:=SlV.at1 (ha.mono hk1.sub) (List.getElem?_eq_getElem hi)
   obtain ⟨w',hr',hld'⟩:=SlV.at1 (hb.mono hk1.sub) (List.getElem?_eq_getElem hi')
   have hr:w=.int .u64 ((l[i]:Nat):Int):=hr
   have hr':w'=.int .u64 ((m[i]:Nat):Int):=hr'
   subst hr; subst hr'
   have hix:=SlV.idx1 ha .i64 i hi
   have hix':=SlV.idx1 hb .i64 i hi'
   have e:IntKind.i64.wrap ((i:Int)+1)=((i+1:Nat):Int):=by rw [wrap_i64] <;> omega
   refine zW (kT hl1 hv t0 t1 ha.lenV hii hi) ?_
   refine aR ?_
   by_cases hq:l[i]=m[i]
   ·have hq':((l[i]:Nat):Int)=((m[i]:Nat):Int):=by omega
    refine zD (pM hl1 hv t0 t1 hix hld hix' hld' hq' e) ?_
    refine ⟨zK,k-1,by omega,i+1,rfl,by omega,fun q h h' hqi=>?_⟩
    by_cases eq:q=i
    ·subst eq; exact hq
    ·exact hP q h h' (by omega)
   ·have hq':¬ ((l[i]:Nat):Int)=((m[i]:Nat):Int):=by omega
    refine zD (rh hl1 hv t0 t1 hix hld hix' hld' hq' hq e) ?_
    refine ⟨?_,zK⟩
    rw [decide_eq_false]
    intro e; subst e; exact hq rfl
  ·have hii:¬ (i:Int)<(l.length:Int):=by omega
   refine zW (kT hl1 hv t0 t1 ha.lenV hii hi) ?_
   refine ⟨?_,zK⟩
   rw [decide_eq_true (my he fun q h h'=>hP q h h' (by omega))]
 ·have he':¬ (l.length:Int)=(m.length:Int):=by omega
  refine zW (kT hl g0 g1 ha.lenV hb.lenV he' he) ?_
  refine ⟨?_,zK⟩
  rw [decide_eq_false]
  intro e; subst e; exact he rfl
theorem wR {x y:Nat} (h:ag x=ag y):x=y:=by
 have:=congrArg val h
 rwa [bG,bG] at this
theorem A8 (C:Code tab) (hw:Wf H) {a b:AV} {x y:Int} (ha:IntV H a x) (hb:IntV H b y) (hx:fz x) :
  Ans tab (.fn dF [a,b]) H fun v H'=>v=.bool (decide (x=y))/\Kp H H':=by
 obtain ⟨p,rfl,hp⟩:=ha
 obtain ⟨q,rfl,hq⟩:=hb
 have op:=hp.one
 have oq:=hq.one
 unfold fz Sm at hx
 refine cD C.facetroomref05_Same (by decide) fun T hl g0 g1=>?_
 by_cases h:decide (x<0)=decide (y<0)
 ·have h':(decide (x<0) == decide (y<0))=true:=by rw [h]; simp
  refine zW (aT hl g0 g1 h') ?_
  refine AnsH.eq (A9 C zF (hp.mono (Kp.sub (H:=H) zK)) (hq.mono (Kp.sub (H:=H) zK)) (by omega)) fun H2 hk2=>?_
  obtain ⟨k2,_,_⟩:=zT H zK hk2
  refine zW (aB hl g0 g1) ?_
  refine ⟨?_,zK⟩
  by_cases e:x=y
  ·rw [decide_eq_true e,decide_eq_true (by rw [e])]
  ·rw [decide_eq_false e,decide_eq_false]
   intro h2
   have:=wR h2
   have h3:(x<0) ↔ (y<0):=by simpa using h
   omega
 ·have h':(decide (x<0) == decide (y<0))=false:=by simpa using h
  refine zW (aT hl g0 g1 h') ?_
  refine ⟨?_,zK⟩
  rw [decide_eq_false]
  intro e; subst e; exact h rfl
theorem A7 (C:Code tab) (hw:Wf H) {a b:AV} {l m:List Int} (ha:RowV H a l) (hb:RowV H b m) (hl':l.length<1099511627776) (hz:∀ z∈l,fz z) :
  Ans tab (.fn dE [a,b]) H fun v H'=>v=.bool (decide (l=m))/\Kp H H':=by
 refine cD C.facetroomref07_Same (by decide) fun T hl g0 g1=>?_
 by_cases he:l.length=m.length
 ·have lb:lenV b=some (.int .i64 (l.length:Int)):=by rw [hb.lenV,he]
  refine zW (da hl g0 g1 ha.lenV lb) ?_
  refine bK H [5] (fun k vs H'=>∃ i:Nat,vs=[.int .i64 (i:Int)]/\i+k=l.length/\∀ q (h:q<l.length) (h':q<m.length),q<i->l[q]=m[q]) l.length (by simp only [List.length_set]; exact hl) rfl zK ⟨0,by refine zW (aB hl g0 g1) ?_; rfl,by omega,fun q _ _ h=>by omega⟩ ?_
  rintro k T1 H1 hl1 hs1 hk1 ⟨i,hv,hik,hP⟩
  have w1:=hk1.wf
  have le_hk1:=hk1.le
  simp only [List.map_cons,List.map_nil,List.cons.injEq,and_true] at hv
  have t0:af T1 0=a:=(hs1.at_ 0 (by decide)).trans (zV (aw hl g0))
  have t1:af T1 1=b:=(hs1.at_ 1 (by decide)).trans (zV (aT hl g0 g1 g1))
  by_cases hi:i<l.length
  ·have hii:(i:Int)<(l.length:Int):=by omega
   have hi':i<m.length:=by omega
   obtain ⟨w,hn,L,hix⟩:=jO w1 (ha.mono hk1.sub) hi
   obtain ⟨w',hn',L',hix'⟩:=jO w1 (hb.mono hk1.sub) hi'
   have hld:=L.ld
   have hld':=L'.ld
   have e:IntKind.i64.wrap ((i:Int)+1)=((i+1:Nat):Int):=by rw [wrap_i64] <;> omega
   refine zW (kT hl1 hv t0 t1 ha.lenV hii hi) ?_
   refine aR ?_
   refine zD (lW hl1 hv t0 t1 hix hld hix' hld') ?_
   refine AnsH.eq (A8 C zF ⟨w,rfl,hn.mono (Kp.sub (H:=H1) zK)⟩ ⟨w',rfl,hn'.mono (Kp.sub (H:=H1) zK)⟩ (hz _ (List.getElem_mem hi))) fun H2 hk2=>?_
   obtain ⟨k12,_,_⟩:=zT H1 zK hk2
   have k2:Kp H H2:=Kp.trans hk1 k12
   have le_k2:=k2.le
   cases hq:decide (l[i]=m[i]) with
   | true =>
    have hq:=of_decide_eq_true hq
    refine zD (nF hl1 hv t0 t1 hix hld hix' hld' e) ?_
    refine ⟨zK,k-1,by omega,i+1,rfl,by omega,fun q h h' hqi=>?_⟩
    by_cases eq:q=i
    ·subst eq; exact hq
    ·exact hP q h h' (by omega)
   | false =>
    have hq:=of_decide_eq_false hq
    refine zD (nF hl1 hv t0 t1 hix hld hix' hld' e) ?_
    refine ⟨?_,zK⟩
    rw [decide_eq_false]
    intro e; subst e; exact hq rfl
  ·have hii:¬ (i:Int)<(l.length:Int):=by omega
   refine zW (kT hl1 hv t0 t1 ha.lenV hii hi) ?_
   refine ⟨?_,zK⟩
   rw [decide_eq_true (my he fun q h h'=>hP q h h' (by omega))]
 ·have he':¬ (l.length:Int)=(m.length:Int):=by omega
  refine zW (kT hl g0 g1 ha.lenV hb.lenV he' he) ?_
  refine ⟨?_,zK⟩
  rw [decide_eq_false]
  intro e; subst e; exact he rfl
theorem uw (C:Code tab) (hw:Wf H) {a b:AV} {l m:List (List Int)} (ha:aZ H a l) (hb:aZ H b m) (hl':l.length<1099511627776) (hz:∀ r∈l,r.length<1099511627776/\∀ z∈r,fz z) :
  Ans tab (.fn dD [a,b]) H fun v H'=>v=.bool (decide (l=m))/\Kp H H':=by
 refine cD C.facetroomref18_Same (by decide) fun T hl g0 g1=>?_
 by_cases he:l.length=m.length
 ·have lb:lenV b=some (.int .i64 (l.length:Int)):=by rw [hb.lenV,he]
  refine zW (da hl g0 g1 ha.lenV lb) ?_
  refine bK H [5] (fun k vs H'=>∃ i:Nat,vs=[.int .i64 (i:Int)]/\i+k=l.length/\∀ q (h:q<l.length) (h':q<m.length),q<i->l[q]=m[q]) l.length (by simp only [List.length_set]; exact hl) rfl zK ⟨0,by refine zW (aB hl g0 g1) ?_; rfl,by omega,fun q _ _ h=>by omega⟩ ?_
  rintro k T1 H1 hl1 hs1 hk1 ⟨i,hv,hik,hP⟩
  have w1:=hk1.wf
  have le_hk1:=hk1.le
  simp only [List.map_cons,List.map_nil,List.cons.injEq,and_true] at hv
  have t0:af T1 0=a:=(hs1.at_ 0 (by decide)).trans (zV (aw hl g0))
  have t1:af T1 1=b:=(hs1.at_ 1 (by decide)).trans (zV (aT hl g0 g1 g1))
  by_cases hi:i<l.length
  ·have hii:(i:Int)<(l.length:Int):=by omega
   have hi':i<m.length:=by omega
   obtain ⟨w,hr,hld⟩:=cJ (ha.mono hk1.sub) hi
   obtain ⟨w',hr',hld'⟩:=cJ (hb.mono hk1.sub) hi'
   have hix:=SlV.idx1 ha .i64 i hi
   have hix':=SlV.idx1 hb .i64 i hi'
   have hzi:=hz _ (List.getElem_mem hi)
   have e:IntKind.i64.wrap ((i:Int)+1)=((i+1:Nat):Int):=by rw [wrap_i64] <;> omega
   refine zW (kT hl1 hv t0 t1 ha.lenV hii hi) ?_
   refine aR ?_
   refine zD (lW hl1 hv t0 t1 hix hld hix' hld') ?_
   refine AnsH.eq (A7 C zF (hr.mono (Kp.sub (H:=H1) zK)) (hr'.mono (Kp.sub (H:=H1) zK)) hzi.1 hzi.2) fun H2 hk2=>?_
   obtain ⟨k12,_,_⟩:=zT H1 zK hk2
   have k2:Kp H H2:=Kp.trans hk1 k12
   have le_k2:=k2.le
   cases hq:decide (l[i]=m[i]) with
   | true =>
    have hq:=of_decide_eq_true hq
    refine zD (nF hl1 hv t0 t1 hix hld hix' hld' e) ?_
    refine ⟨zK,k-1,by omega,i+1,rfl,by omega,fun q h h' hqi=>?_⟩
    by_cases eq:q=i
    ·subst eq; exact hq
    ·exact hP q h h' (by omega)
   | false =>
    have hq:=of_decide_eq_false hq
    refine zD (nF hl1 hv t0 t1 hix hld hix' hld' e) ?_
    refine ⟨?_,zK⟩
    rw [decide_eq_false]
    intro e; subst e; exact hq rfl
  ·have hii:¬ (i:Int)<(l.length:Int):=by omega
   refine zW (kT hl1 hv t0 t1 ha.lenV hii hi) ?_
   refine ⟨?_,zK⟩
   rw [decide_eq_true (my he fun q h h'=>hP q h h' (by omega))]
 ·have he':¬ (l.length:Int)=(m.length:Int):=by omega
  refine zW (kT hl g0 g1 ha.lenV hb.lenV he' he) ?_
  refine ⟨?_,zK⟩
  rw [decide_eq_false]
  intro e; subst e; exact he rfl
theorem zl (C:Code tab) (hw:Wf H) {a:AV} {r:List (Bool × List Nat)} {many lim:Nat} (ha:SlV rawE aa H a r) (hm:many<4611686018427387904) :
  Ans tab (.fn cW [a,.int .i64 (many:Int),.int .i64 (lim:Int)]) H fun v H'=>v=.bool (mX many lim r)/\Kp H H':=by
 refine jP C.facetroomref07_Great (by decide) fun T hl g0 g1 g2=>?_
 by_cases he:many<r.length
 ·have he':(many:Int)<(r.length:Int):=by omega
  refine zW (iq hl g0 g1 ha.lenV he' he) ?_
  exact ⟨by unfold mX; rw [decide_eq_true he]; rfl,zK⟩
 ·have he':¬ (many:Int)<(r.length:Int):=by omega
  refine zW (kT hl g0 g1 g2 ha.lenV he' he) ?_
  refine bK H [7] (fun k vs H'=>∃ i:Nat,vs=[.int .i64 (i:Int)]/\i+k=r.length/\∀ q (h:q<r.length),q<i->¬ lim<(r[q]).2.length) r.length (by simp only [List.length_set]; exact hl) rfl zK ⟨0,by refine zW (aT hl g0 g1 g2) ?_; rfl,by omega,fun q _ h=>by omega⟩ ?_
  rintro k T1 H1 hl1 hs1 hk1 ⟨i,hv,hik,hP⟩
  have w1:=hk1.wf
  have le_hk1:=hk1.le
  simp only [List.map_cons,List.map_nil,List.cons.injEq,and_true] at hv
  have t0:af T1 0=a:=(hs1.at_ 0 (by decide)).trans (zV (aw hl g0))
  have t2:af T1 2=.int .i64 (lim:Int):=(hs1.at_ 2 (by decide)).trans (zV (da hl g0 g1 g2 g2))
  by_cases hi:i<r.length
  ·have hii:(i:Int)<(r.length:Int):=by omega
   obtain ⟨cs,⟨w,rfl,hn⟩,-,h2,-⟩:=(ha.mono hk1.sub).at (List.getElem?_eq_getElem hi)
   have hld:cq H1 none (aV a (i*2+1))=some w:=h2 1 w rfl
   have hix:fO 2 a (.int .i64 (i:Int))=some (aV a (i*2)):=SlV.idx ha .i64 i hi
   have hfa:E4 1 (aV a (i*2))=some (aV a (i*2+1)):=ha.fa (by omega) 1 (i*2)
   have e:IntKind.i64.wrap ((i:Int)+1)=((i+1:Nat):Int):=by rw [wrap_i64] <;> omega
   by_cases hq:lim<(r[i]).2.length
   ·have hq':(lim:Int)<((r[i]).2.length:Int):=by omega
    refine zW (Fc hl1 hv t0 t2 ha.lenV hii hi hix hfa hld hn.lenV hq' hq) ?_
    refine ⟨?_,zK⟩
    unfold mX
    rw [List.any_eq_true.2 ⟨_,List.getElem_mem hi,by rw [decide_eq_true hq]⟩,Bool.or_true]
   ·have hq':¬ (lim:Int)<((r[i]).2.length:Int):=by omega
    refine zW (HK hl1 hv t0 t2 ha.lenV hii hi hix hfa hld hn.lenV hq' hq e) ?_
    refine ⟨zK,k-1,by omega,i+1,rfl,by omega,fun q h hqi=>?_⟩
    by_cases eq:q=i
    ·subst eq; exact hq
    ·exact hP q h (by omega)
  ·have hii:¬ (i:Int)<(r.length:Int):=by omega
   refine zW (kT hl1 hv t0 t2 ha.lenV hii hi) ?_
   refine ⟨?_,zK⟩
   have e:(r.any fun z=>decide (lim<z.2.length))=false:=by
    rw [List.any_eq_false]
    intro z hz
    obtain ⟨q,hq,rfl⟩:=List.getElem_of_mem hz
    simpa using hP q hq (by omega)
   unfold mX
   rw [decide_eq_false he,Bool.false_or,e]
theorem sj (C:Code tab) (hw:Wf H) {a:AV} {ls:List (List (Bool × List Nat))} {n many lim:Nat} (ha:gQ H a ls) (hn:n<4611686018427387904) (hm:many<4611686018427387904) :
  Ans tab (.fn cA [a,.int .i64 (n:Int),.int .i64 (many:Int),.int .i64 (lim:Int)]) H fun v H'=>v=.bool (cG n many lim ls)/\Kp H H':=by
 refine I6 C.facetroomref18_Great (by decide) fun T hl g0 g1 g2 g3=>?_
 by_cases he:n<ls.length
 ·have he':(n:Int)<(ls.length:Int):=by omega
  refine zW (iq hl g0 g1 ha.lenV he' he) ?_
  exact ⟨by unfold cG; rw [decide_eq_true he]; rfl,zK⟩
 ·have he':¬ (n:Int)<(ls.length:Int):=by omega
  refine zW (lW hl g0 g1 g2 g3 ha.lenV he' he) ?_
  refine bK H [9] (fun k vs H'=>∃ i:Nat,vs=[.int .i64 (i:Int)]/\i+k=ls.length/\∀ q (h:q<ls.length),q<i->mX many lim ls[q]=false) ls.length (by simp only [List.length_set]; exact hl) rfl zK ⟨0,by refine zW (da hl g0 g1 g2 g3) ?_; rfl,by omega,fun q _ h=>by omega⟩ ?_
  rintro k T1 H1 hl1 hs1 hk1 ⟨i,hv,hik,hP⟩
  have w1:=hk1.wf
  have le_hk1:=hk1.le
  simp only [List.map_cons,List.map_nil,List.cons.injEq,and_true] at hv
  have t0:af T1 0=a:=(hs1.at_ 0 (by decide)).trans (zV (aw hl g0))
  have t2:af T1 2=.int .i64 (many:Int):=(hs1.at_ 2 (by decide)).trans (zV (iq hl g0 g1 g2 g3 g2))
  have t3:af T1 3=.int .i64 (lim:Int):=(hs1.at_ 3 (by decide)).trans (zV (iq hl g0 g1 g2 g3 g3))
  by_cases hi:i<ls.length
  ·have hii:(i:Int)<(ls.length:Int):=by omega
   obtain ⟨w,hr,hld⟩:=rr (ha.mono hk1.sub) hi
   have hix:=SlV.idx1 ha .i64 i hi
   have e:IntKind.i64.wrap ((i:Int)+1)=((i+1:Nat):Int):=by rw [wrap_i64] <;> omega
   refine zW (pM hl1 hv t0 t2 t3 ha.lenV hii hi hix hld) ?_
   refine AnsH.eq (zl C zF (hr.mono (Kp.sub (H:=H1) zK)) hm) fun H2 hk2=>?_
   obtain ⟨k12,_,_⟩:=zT H1 zK hk2
   have k2:Kp H H2:=Kp.trans hk1 k12
   have le_k2:=k2.le
   cases hq:mX many lim ls[i] with
   | true =>
    refine zW hl1 ?_
    refine ⟨?_,zK⟩
    unfold cG
    rw [List.any_eq_true.2 ⟨_,List.getElem_mem hi,hq⟩,Bool.or_true]
   | false =>
    refine zW (aB hl1 hv e) ?_
    refine ⟨zK,k-1,by omega,i+1,rfl,by omega,fun q h hqi=>?_⟩
    by_cases eq:q=i
    ·subst eq; exact hq
    ·exact hP q h (by omega)
  ·have hii:¬ (i:Int)<(ls.length:Int):=by omega
   refine zW (lW hl1 hv t0 t2 t3 ha.lenV hii hi) ?_
   refine ⟨?_,zK⟩
   have e:ls.any (mX many lim)=false:=by
    rw [List.any_eq_false]
    intro z hz
    obtain ⟨q,hq,rfl⟩:=List.getElem_of_mem hz
    rw [hP q hq (by omega)]; simp
   unfold cG
   rw [decide_eq_false he,Bool.false_or,e]
theorem zk (C:Code tab) (hw:Wf H) {a b:AV} {A B:List (List (Bool × List Nat))} (ha:gQ H a A) (hb:gQ H b B) :
  Ans tab (.fn cV [a,b]) H fun v H'=>v=.bool (cG 4 5 1 A || cG 7 5 1 B)/\Kp H H':=by
 refine cD C.facetroomref20_Great (by decide) fun T hl g0 g1=>?_
 refine zW (aB hl g0 g1) ?_
 refine AnsH.eq (sj C (n:=4) (many:=5) (lim:=1) zF (ha.mono (Kp.sub (H:=H) zK)) (by omega) (by omega)) fun H2 hk2=>?_
 obtain ⟨k2,_,w2⟩:=zT H zK hk2
 cases h:cG 4 5 1 A with
 | true =>
  refine zW (aB hl g0 g1) ?_
  exact ⟨by simp,zK⟩
 | false =>
  refine zW (aB hl g0 g1) ?_
  refine AnsH.eq (sj C (n:=7) (many:=5) (lim:=1) zF (hb.mono (Kp.sub (H:=H) zK)) (by omega) (by omega)) fun H3 hk3=>?_
  obtain ⟨k3,_,_⟩:=zT H zK hk3
  refine zW (aB hl g0 g1) ?_
  exact ⟨by simp,zK⟩
theorem vec_Of (C:Code tab) (hw:Wf H) {l:List Int} {ty:Nat} (hs:tk (Ed .i64) ty H s l) (h64:l.length<=64) (hz:∀ z∈l,-9223372036854775808<=z/\z<9223372036854775808) :
  Ans tab (.fn nT [s]) H fun v H'=>RowV H' v l/\Kp H H':=by
 refine d9 C.vec_Of (by decide) fun T hl g0=>?_
 obtain ⟨cells,hcells⟩:∃ cells,cells=(List.replicate l.length [AV.bool false,AV.nilSl]).flatten:=⟨_,rfl⟩
 have hmk:∀ H':Heap,E0 H' (H.next+3) aa 2 32 [.bool false,.nilSl] (.int .i64 (l.length:Int)) (.int .i64 (l.length:Int))=some (.own (H.next+3) 0 l.length l.length 2 true,H'.put (H.next+3) (.cells cells aa true)):=fun H'=>by rw [hcells]; exact jM _ _ _ _ _ _ _ _ _ (by omega) (by omega) rfl
 refine zW (aT hl g0 hs.lenV hmk) ?_
 have hz0:intE.R H [.bool false,.nilSl] 0:=⟨.nilSl,by simp,gL H⟩
 have hcl0:Cells intE H cells (List.replicate l.length 0):=by rw [hcells]; exact rq hz0 _
 refine al H [3] (fun j vs H'=>vs=[.own (H.next+3) 0 l.length l.length 2 true]/\∃ cs,H'.get (H.next+3)=some (.cells cs aa true)/\Cells intE H' cs (l.take j++List.replicate (l.length-j) 0)) (a:=0) (N:=l.length) rfl (by refine zW (aw hl g0) ?_; rfl) (zV (aw hl g0)) (Nat.zero_le _) (by omega) (by simp only [List.length_set,hl]; rfl) rfl (fun j vs H' m ⟨h0,cs,h1,h2⟩=>⟨h0,cs,h1,Cells.mono (E:=intE) ((Sub.bump H' m).t _) h2⟩) zK ⟨by exact zV (aw hl g0),cells,by exact eA,by
  have e:List.take 0 l++List.replicate (l.length-0) 0=List.replicate l.length 0:=by simp
  rw [e]
  exact Cells.mono (E:=intE) zS hcl0⟩ ?_ ?_
 ·rintro j T1 H1 _ hj hl1 hi1 hs1 hk1 ⟨hv,cs,hb1,hc1⟩
  have w1:=hk1.wf
  have le_hk1:=hk1.le
  have le1:=hk1.le
  simp only [List.map_cons,List.map_nil,List.cons.injEq,and_true] at hv
  have t9:af T1 9=s:=(hs1.at_ 9 (by decide)).trans (zV (aw hl g0))
  obtain ⟨w,hr,hld⟩:=SlV.at1 (hs.mono hk1.sub) (List.getElem?_eq_getElem hj)
  have hr:w=.int .i64 l[j]:=hr
  subst hr
  have hix:=SlV.idx1 hs .i64 j hj
  have hzj:=hz _ (List.getElem_mem hj)
  simp only [List.length_set,hl] at hl1
  refine zW (iq hl1 t9 hi1 hix hld hv) ?_
  refine AnsH.use (whole_Of C zF hzj.1 hzj.2) ?_
  rintro v H2 ⟨⟨w,rfl,hn⟩,hk2⟩
  obtain ⟨k2,_,w2⟩:=zT H1 zK hk2
  have ow:=hn.one
  have hb2:=k2.get hb1
  have lt2:=w2 _ _ hb2
  have hclen:cs.length=l.length*2:=by
   have:=hc1.1
   rw [List.length_append,List.length_take,List.length_replicate] at this
   have e:intE.sz=2:=rfl
   rw [e] at this
   rw [this]; congr 1; omega
  have hst:Cf (some (.cells cs aa true)) 2 (0+j*2) (.agg [.bool (decide (l[j]<0)),w])=some (.cells (cs.take (0+j*2)++[.bool (decide (l[j]<0)),w]++cs.drop (0+j*2+2)) aa true):=l5 (GQ (aW _) ow) (by omega)
  have hio:fO 2 (.own (H.next+3) 0 l.length l.length 2 true) (.int .i64 (j:Int))=some (.ptr (H.next+3) (0+j*2)):=oY hj
  rw [Nat.zero_add] at hst hio
  have hcl2:Cells intE H2 (cs.take (j*2)++[.bool (decide (l[j]<0)),w]++cs.drop (j*2+2)) ((l.take j++List.replicate (l.length-j) 0).set j l[j]):=(Cells.mono (E:=intE) (k2.sub.t _) hc1).set (i:=j) (by simp; omega) ⟨w,rfl,hn⟩
  have elist:(l.take j++List.replicate (l.length-j) 0).set j l[j]=l.take (j+1)++List.replicate (l.length-(j+1)) 0:=by
   have e1:l.length-j=(l.length-(j+1))+1:=by omega
   have e2:j-(List.take j l).length=0:=by simp; omega
   rw [e1,List.replicate_succ,List.set_append,if_neg (by simp; omega),e2,List.set_cons_zero,List.take_succ_eq_append_getElem hj,List.append_assoc]
   rfl
  rw [elist] at hcl2
  have m3:NoTy [ad] H2 (H.next+3):=NoTy.ty hb2 (by decide)
  refine zW (da hl1 hv hio hb2 hst) ?_
  have kH2:Kp H H2:=hk1.trans k2
  exact ⟨zK,_,rfl,Cells.mono (E:=intE) zS hcl2⟩
 ·rintro T1 H1 hl1 hs1 hk1 ⟨hv,cs,hb1,hc1⟩
  have w1:=hk1.wf
  have le_hk1:=hk1.le
  simp only [List.map_cons,List.map_nil,List.cons.injEq,and_true] at hv
  simp only [List.length_set,hl] at hl1
  refine zW (aw hl1 hv) ?_
  refine ⟨?_,zK⟩
  have e:List.take l.length l++List.replicate (l.length-l.length) 0=l:=by simp
  rw [e] at hc1
  have:Own intE aa H H1 (H.next+3) true (.own (H.next+3) 0 l.length l.length 2 true) l:=⟨cs,rfl,hb1,hc1,by omega⟩
  exact this.sl.mono (Sub.bump H1 _)
end
theorem sr {β:Type} {P:Nat->β->Prop}:∀ n,(∀ i,i<n->∃ y,P i y)->∃ l:List β,l.length=n/\∀ i (h:i<l.length),P i l[i]
 | 0,_=>⟨[],rfl,fun i h=>by simp at h⟩
 | n+1,h=>by
  obtain ⟨l,h1,h2⟩:=sr n fun i hi=>h i (by omega)
  obtain ⟨y,hy⟩:=h n (by omega)
  refine ⟨l++[y],by simp [h1],fun i hi=>?_⟩
  by_cases hin:i<l.length
  ·rw [List.getElem_append_left hin]; exact h2 i hin
  ·have:i=n:=by rw [List.length_append] at hi; simp at hi; omega
   subst this
   rw [List.getElem_append_right (by omega)]
   simpa [h1] using hy
theorem CI {β:Type} {sz:Nat} {f:β->List AV}:∀ (l:List β),(∀ y∈l,(f y).length=sz)->(l.flatMap f).length=l.length*sz/\∀ i (h:i<l.length) k,k<sz->(l.flatMap f)[i*sz+k]? = (f l[i])[k]?
 | [],_=>⟨by simp,fun i h=>by simp at h⟩
 | y :: l,h=>by
  obtain ⟨h1,h2⟩:=CI l fun z hz=>h z (List.mem_cons_of_mem _ hz)
  have hy:=h y (List.mem_cons_self ..)
  refine ⟨by rw [List.flatMap_cons,List.length_append,h1,hy,List.length_cons,Nat.succ_mul]; omega,fun i hi k hk=>?_⟩
  rw [List.flatMap_cons]
  cases i with
  | zero=>rw [List.getElem?_append_left (by omega)]; simp
  | succ i =>
   rw [List.getElem?_append_right (by rw [Nat.succ_mul]; omega),hy]
   have e:(i+1)*sz+k-sz=i*sz+k:=by rw [Nat.succ_mul]; omega
   rw [e,h2 i (by simpa using hi) k hk]
   simp
def elemsD {HT:Type}:DataW HT->List (DataW HT)
 | .slice l _=>l
 | _=>[]
def partsD {HT:Type}:DataW HT->List (DataW HT)
 | .agg l=>l
 | _=>[]
def limbsD {HT:Type} (y:DataW HT) (z:Bool × List Nat):Prop:=∃ y2∈partsD y,z.2.length<=(elemsD y2).length
section
variable {HT:Type} {enc:TypeId × Value->HT} {P:Program} {w:World} {base:Nat} {sp:Nat->Bool} {held:Bool} {μ:Mu} {F:Nat->Prop} {H:Heap} {α:Type}
theorem tP {E:gR α} {ty:Nat} {good:DataW HT->α->Prop} {t e:TypeId} (hF:∀ c,c<w.heap.size->F c) (ht:P.underlying t=some (.slice e)) (hsz:P.cellsOf e=E.sz)
  (helem:∀ fuel cs x,DataW.trod enc P w base sp held fuel e cs=some x->∃ acs z,LR μ F w acs cs/\E.R H acs z/\good x.1 z)
  {fuel:Nat} {cs:List Value} {x:DataW HT × List MemPlace} (h:DataW.trod enc P w base sp held fuel t cs=some x) :
  ∃ v av zs,cs=[v]/\VR μ F w av v/\SlV E ty H av zs/\(∀ z∈zs,∃ y∈elemsD x.1,good y z)/\zs.length<=maxLen/\zs.length<=(elemsD x.1).length:=by
 rcases DataW.trod_slice ht h with ⟨rfl,-⟩ | ⟨a,len,cap,elems,rest,n,-,rfl,ex,hb,hl,hc,hlen,hel,-⟩
 ·exact ⟨_,.nilSl,[],rfl,.nilSl,SlV.nil _ _ _,(fun z h=>by cases h),Nat.zero_le _,Nat.zero_le _⟩
 ·rcases Nat.eq_zero_or_pos len with h0 | h0
  ·subst h0
   refine ⟨_,.sl [] 0,[],rfl,.sl0 a cap,⟨[],⟨trivial,(fun s h=>by cases h),0,rfl,by simp [aH]⟩,(fun _ _ _ _ _ _ e=>by cases e),by simp,fun i a h=>by simp at h⟩,fun z h=>(by cases h),Nat.zero_le _,Nat.zero_le _⟩
  ·have hp:=E.pos
   obtain ⟨L,hL1,hL2⟩:=sr (P:=fun i (y:List AV × List Value × α)=>w.cells? base (a.add (i*E.sz)) E.sz=some y.2.1/\LR μ F w y.1 y.2.1/\E.R H y.1 y.2.2/\∃ h:i<elems.length,good elems[i].1 y.2.2) len fun i hi=>by
    have h1:=hel i hi
    rw [List.getElem?_eq_getElem (by omega),hsz] at h1
    obtain ⟨cs,h2,h3⟩:=Option.bind_eq_some_iff.1 h1
    obtain ⟨acs,z,h4,h5,h6⟩:=helem _ _ _ h3
    exact ⟨(acs,cs,z),h2,h4,h5,by omega,h6⟩
   have hsizes:∀ y∈L,y.1.length=E.sz:=fun y hy=>by
    obtain ⟨i,hi,rfl⟩:=List.getElem_of_mem hy
    exact (E.len (hL2 i hi).2.2.1).1
   obtain ⟨hfl,hfa⟩:=CI (f:=fun y:List AV × List Value × α=>y.1) L hsizes
   have hcell:∀ i (hi:i<L.length) k,k<E.sz->w.cell? (a.add (i*E.sz) |>.add k)=(L[i]).2.1[k]?:=fun i hi k hk=>((World.cells?_some (hL2 i hi).1).2.2 k hk)
   obtain ⟨v0,hv0⟩:∃ v0,w.cell? a=some v0:=by
    have h1:=hcell 0 (by omega) 0 hp
    have h2:=(World.cells?_some (hL2 0 (by omega)).1).2.1
    rw [List.getElem?_eq_getElem (by omega)] at h1
    simp [Addr.add] at h1
    exact ⟨_,h1⟩
   obtain ⟨arr,ety,fr,hblk,hspot⟩:∃ arr ety fr,w.heap[a.block]? = some (.cells arr ety fr)/\a.spot=none:=by
    unfold World.cell? at hv0
    split at hv0
    ·rename_i c ety fr hb
     refine ⟨c,ety,fr,hb,?_⟩
     cases hs:a.spot with
     | none=>rfl
     | some s=>rw [hs] at hv0; simp at hv0
    ·cases hv0
   obtain ⟨blk,off,spot⟩:=a
   simp only at hspot hblk hb
   subst hspot
   have hat:∀ i (hi:i<L.length) k,k<E.sz->arr[off+(i*E.sz+k)]? = (L[i]).2.1[k]?:=fun i hi k hk=>by
    rw [<- hcell i hi k hk]
    have e:((⟨blk,off,none⟩:Addr).add (i*E.sz) |>.add k)=⟨blk,off+(i*E.sz+k),none⟩:=by
     unfold Addr.add
     by_cases h1:i*E.sz=0
     ·by_cases h2:k=0
      ·simp [h1,h2]
      ·simp [h1,h2]
     ·by_cases h2:k=0
      ·simp [h1,h2]
      ·simp [h1,h2]; omega
    rw [e]
    simp [World.cell?,hblk]
   have hvl:∀ i (hi:i<L.length),(L[i]).2.1.length=E.sz:=fun i hi=>(World.cells?_some (hL2 i hi).1).2.1
   have hsize:off+(L.flatMap fun y=>y.1).length<=arr.size:=by
    have h1:=hat (len-1) (by omega) (E.sz-1) (by omega)
    rw [List.getElem?_eq_getElem (by have:=hvl (len-1) (by omega); omega)] at h1
    have h2:=(Array.getElem?_eq_some_iff.1 h1).1
    rw [hfl,hL1]
    have h3:len*E.sz=(len-1)*E.sz+E.sz:=by
     obtain ⟨m,rfl⟩:∃ m,len=m+1:=⟨len-1,by omega⟩
     rw [Nat.succ_mul,Nat.add_sub_cancel]
    omega
   refine ⟨_,.sl (L.flatMap fun y=>y.1) len,L.map fun y=>y.2.2,rfl,.sl _ _ _ blk off arr ety fr (hF _ (Array.getElem?_eq_some_iff.1 hblk).1) hblk hl hsize fun j c v hc hv=>?_,⟨L.flatMap fun y=>y.1,⟨trivial,(fun s h=>by cases h),len,rfl,?_⟩,(fun _ _ _ _ _ _ e=>by cases e),?_,fun i z hz=>?_⟩,fun z hz=>?_,by rw [List.length_map,hL1]; omega,by rw [List.length_map,hL1,ex]; simp [elemsD,hlen]⟩
   ·have hj:=(List.getElem?_eq_some_iff.1 hc).1
    rw [hfl] at hj
    have hi:j / E.sz<L.length:=(Nat.div_lt_iff_lt_mul hp).2 hj
    have hk:j % E.sz<E.sz:=Nat.mod_lt _ hp
    have hjk:j / E.sz*E.sz+j % E.sz=j:=Nat.div_add_mod' j E.sz
    have h1:=hfa _ hi _ hk
    have h2:=hat _ hi _ hk
    rw [hjk] at h1 h2
    rw [hc] at h1
    rw [hv] at h2
    exact (hL2 _ hi).2.1.2 _ _ _ h1.symm h2.symm
   ·simp only [aH]
    rw [if_pos ⟨Nat.le_refl _,by rw [hfl,hL1]; exact Nat.le_refl _⟩,List.take_of_length_le (by rw [hfl,hL1]; exact Nat.le_refl _)]
   ·rw [hfl,List.length_map]
   ·rw [List.getElem?_map,Option.map_eq_some_iff] at hz
    obtain ⟨y,hy,rfl⟩:=hz
    obtain ⟨hi,rfl⟩:=List.getElem?_eq_some_iff.1 hy
    have e:(((L.flatMap fun y=>y.1).drop (i*E.sz)).take E.sz)=L[i].1:=by
     apply List.ext_getElem?
     intro k
     rw [List.getElem?_take]
     have hl1:=hsizes _ (List.getElem_mem hi)
     split
     ·rename_i hk
      rw [List.getElem?_drop]; exact hfa i hi k hk
     ·exact (List.getElem?_eq_none (by omega)).symm
    rw [e]
    exact (hL2 i hi).2.2.1
   ·obtain ⟨y,hy,rfl⟩:=List.mem_map.1 hz
    obtain ⟨i,hi,rfl⟩:=List.getElem_of_mem hy
    obtain ⟨h1,h2⟩:=(hL2 i hi).2.2.2
    rw [ex]
    exact ⟨_,List.mem_map.2 ⟨_,List.getElem_mem h1,rfl⟩,h2⟩
theorem Ir {E:gR α} {ty:Nat} {good:α->Prop} {t e:TypeId} (hF:∀ c,c<w.heap.size->F c) (ht:P.underlying t=some (.slice e)) (hsz:P.cellsOf e=E.sz)
  (helem:∀ fuel cs x,DataW.trod enc P w base sp held fuel e cs=some x->∃ acs z,LR μ F w acs cs/\E.R H acs z/\good z)
  {fuel:Nat} {cs:List Value} {x:DataW HT × List MemPlace} (h:DataW.trod enc P w base sp held fuel t cs=some x) :
  ∃ v av zs,cs=[v]/\VR μ F w av v/\SlV E ty H av zs/\(∀ z∈zs,good z)/\zs.length<=maxLen:=by
 obtain ⟨v,av,zs,h1,h2,h3,h4,h5,-⟩:=tP (good:=fun _ z=>good z) hF ht hsz helem h
 exact ⟨v,av,zs,h1,h2,h3,fun z hz=>(h4 z hz).elim fun _ h=>h.2,h5⟩
theorem Dr {t:TypeId} (ht:P.underlying t=some (.int .u64)) {fuel:Nat} {cs:List Value} {x:DataW HT × List MemPlace} (h:DataW.trod enc P w base sp held fuel t cs=some x) :
  ∃ acs z,LR μ F w acs cs/\(bz b7).R H acs z/\z<18446744073709551616:=by
 obtain ⟨n,rfl,-,hw⟩:=DataW.trod_int ht h
 have hr:0<=n/\n<18446744073709551616:=by
  have h1:IntKind.u64.min=0:=by decide
  have h2:IntKind.u64.max=18446744073709551615:=by decide
  unfold Lit.wf at hw
  simp [h1,h2] at hw
  omega
 refine ⟨[.int .u64 n],n.toNat,LR.cons (.int _ _) LR.nil,⟨_,rfl,?_⟩,by omega⟩
 show AV.int .u64 n=.int .u64 (n.toNat:Int)
 rw [Int.toNat_of_nonneg hr.1]
theorem FT {t e:TypeId} (hF:∀ c,c<w.heap.size->F c) (ht:P.underlying t=some (.slice e)) (he:P.underlying e=some (.int .u64)) (hsz:P.cellsOf e=1) {fuel:Nat} {cs:List Value} {x:DataW HT × List MemPlace} (h:DataW.trod enc P w base sp held fuel t cs=some x) :
  ∃ v av zs,cs=[v]/\VR μ F w av v/\SlV (bz b7) ad H av zs/\(∀ z∈zs,z<18446744073709551616)/\zs.length<=maxLen/\zs.length<=(elemsD x.1).length:=by
 obtain ⟨v,av,zs,h1,h2,h3,h4,h5⟩:=tP (E:=bz b7) (ty:=ad) (H:=H) (μ:=μ) (good:=fun _ z=>z<18446744073709551616) hF ht hsz (fun fuel cs x h=>Dr he h) h
 exact ⟨v,av,zs,h1,h2,h3,fun z hz=>(h4 z hz).elim fun _ h=>h.2,h5⟩
def yv (z:Bool × List Nat):Prop:=(∀ x∈z.2,x<18446744073709551616)/\z.2.length<=maxLen
theorem FS {t e:TypeId} {fs:Array Field} {f0 f1:Field} (hF:∀ c,c<w.heap.size->F c) (ht:P.underlying t=some (.struct fs)) (hfs:fs = #[f0,f1]) (h0:f0.offset=0) (h1:f1.offset=1) (hc:P.cellsOf t=2) (hb:P.underlying f0.type=some .bool) (hcb:P.cellsOf f0.type=1) (hn:P.underlying f1.type=some (.slice e)) (hcn:P.cellsOf f1.type=1) (he:P.underlying e=some (.int .u64)) (hce:P.cellsOf e=1)
  {fuel:Nat} {cs:List Value} {x:DataW HT × List MemPlace} (h:DataW.trod enc P w base sp held fuel t cs=some x) :
  ∃ acs z,LR μ F w acs cs/\rawE.R H acs z/\yv z/\limbsD x.1 z:=by
 subst hfs
 obtain ⟨xs,n,-,ex,hl,hxl,hx⟩:=DataW.trod_struct ht h
 have hxl:xs.length=2:=by simpa using hxl
 rw [hc] at hl
 match cs,hl with
 | [c0,c1],_ =>
  have e0:=hx 0 f0 rfl
  have e1:=hx 1 f1 rfl
  rw [List.getElem?_eq_getElem (by omega),h0,hcb] at e0
  rw [List.getElem?_eq_getElem (by omega),h1,hcn] at e1
  have m1:xs[1]∈xs:=List.getElem_mem _
  obtain ⟨b,g0,-⟩:=DataW.trod_bool hb e0
  obtain ⟨v,av,zs,g1,g2,g3,g4,g5,g6⟩:=FT (H:=H) (μ:=μ) hF hn he hce e1
  have q0:c0=.bool b:=by simpa using g0
  have q1:c1=v:=by simpa using g1
  clear g0 g1
  subst q0; subst q1
  exact ⟨[.bool b,av],(b,zs),LR.cons (.bool _) (LR.cons g2 LR.nil),⟨av,rfl,g3⟩,⟨g4,g5⟩,by rw [ex]; exact ⟨_,List.mem_map.2 ⟨_,m1,rfl⟩,g6⟩⟩
structure RowTys (P:Program) (tvs tv ti te:TypeId):Prop where
 vs:P.underlying tvs=some (.slice tv)
 cv:P.cellsOf tv=1
 v:P.underlying tv=some (.slice ti)
 ci:P.cellsOf ti=2
 i:∃ f0 f1:Field,P.underlying ti=some (.struct #[f0,f1])/\f0.offset=0/\f1.offset=1/\P.underlying f0.type=some .bool/\P.cellsOf f0.type=1/\P.underlying f1.type=some (.slice te)/\P.cellsOf f1.type=1
 e:P.underlying te=some (.int .u64)
 ce:P.cellsOf te=1
abbrev Jt (H:Heap) (v:AV) (l:List (Bool × List Nat)):Prop:=SlV rawE aa H v l
def eZ (l:List (Bool × List Nat)):Prop:=(∀ z∈l,yv z)/\l.length<=maxLen
theorem yZ {tvs tv ti te:TypeId} (hP:RowTys P tvs tv ti te) (hF:∀ c,c<w.heap.size->F c) {fuel:Nat} {cs:List Value} {x:DataW HT × List MemPlace} (h:DataW.trod enc P w base sp held fuel tv cs=some x) :
  ∃ v av l,cs=[v]/\VR μ F w av v/\Jt H av l/\eZ l/\∀ z∈l,∃ y∈elemsD x.1,limbsD y z:=by
 obtain ⟨f0,f1,i1,i2,i3,i4,i5,i6,i7⟩:=hP.i
 obtain ⟨v,av,l,g1,g2,g3,g4,g5,-⟩:=tP (E:=rawE) (ty:=aa) (H:=H) (μ:=μ) (good:=fun y z=>yv z/\limbsD y z) hF hP.v hP.ci (fun fuel cs x h=>FS hF i1 rfl i2 i3 hP.ci i4 i5 i6 i7 hP.e hP.ce h) h
 exact ⟨v,av,l,g1,g2,g3,⟨fun z hz=>(g4 z hz).elim fun _ h=>h.2.1,g5⟩,fun z hz=>(g4 z hz).imp fun y h=>⟨h.1,h.2.2⟩⟩
theorem Dq {tvs tv ti te:TypeId} (hP:RowTys P tvs tv ti te) (hF:∀ c,c<w.heap.size->F c) {fuel:Nat} {cs:List Value} {x:DataW HT × List MemPlace} (h:DataW.trod enc P w base sp held fuel tvs cs=some x) :
  ∃ v av l,cs=[v]/\VR μ F w av v/\gQ H av l/\(∀ r∈l,eZ r)/\l.length<=maxLen :=
 Ir (E:=bz (nD rawE aa)) (ty:=ae) (good:=eZ) hF hP.vs hP.cv (fun fuel cs x h=>by
  obtain ⟨v,av,l,rfl,g2,g3,g4,-⟩:=yZ (H:=H) (μ:=μ) hP hF h
  exact ⟨[av],l,LR.cons g2 LR.nil,⟨av,rfl,g3⟩,g4⟩) h
end
def fS (z:Bool × List Nat):Int:=if z.1=true then -(val z.2:Int) else (val z.2:Int)
theorem wL:∀ {z:Bool × List Nat},oF z=false->Lim z.2->kw (fS z)=z
 | (b,l),hb,hl=>by
  simp only [oF,Bool.or_eq_false_iff,decide_eq_false_iff_not,Bool.and_eq_false_iff] at hb
  obtain ⟨h1,h2⟩:=hb
  have hn:E7 l:=h1
  have hv:=rD hl hn
  cases b with
  | false =>
   have e:fS (false,l)=(val l:Int):=rfl
   rw [e]
   unfold kw
   rw [decide_eq_false (by omega),Int.natAbs_natCast,hv]
  | true =>
   have e:fS (true,l) = -(val l:Int):=rfl
   have hne:l≠[]:=fun e=>by subst e; simp at h2
   have hp:0<B^(l.length-1):=Nat.pow_pos (by decide)
   have hq:=tt hn hne
   rw [e]
   unfold kw
   rw [decide_eq_true (by omega),Int.natAbs_neg,Int.natAbs_natCast,hv]
theorem SlV.int {ty:Nat} {H:Heap} {v:AV} {l:List (Bool × List Nat)} (h:SlV rawE ty H v l) (hb:∀ z∈l,oF z=false/\Lim z.2):SlV intE ty H v (l.map fS):=by
 obtain ⟨cells,hr,ht,hc,ha⟩:=h
 refine ⟨cells,hr,ht,by rw [hc,List.length_map]; rfl,fun i a hi=>?_⟩
 rw [List.getElem?_map,Option.map_eq_some_iff] at hi
 obtain ⟨z,hz,rfl⟩:=hi
 obtain ⟨w,h1,h2⟩:=ha i z hz
 have hm:=hb z (List.mem_of_getElem? hz)
 have e:=wL hm.1 hm.2
 have e1:decide (fS z<0)=z.1:=congrArg Prod.fst e
 have e2:ag (fS z).natAbs=z.2:=congrArg Prod.snd e
 refine ⟨w,by rw [e1]; exact h1,?_⟩
 show Lb H w (ag (fS z).natAbs)
 rw [e2]; exact h2
theorem Gb {H:Heap} {v:AV} {l:List (List (Bool × List Nat))} (h:gQ H v l) (hb:∀ r∈l,∀ z∈r,oF z=false/\Lim z.2):aZ H v (l.map fun r=>r.map fS):=by
 obtain ⟨cells,hr,ht,hc,ha⟩:=h
 refine ⟨cells,hr,ht,by rw [hc,List.length_map]; rfl,fun i a hi=>?_⟩
 rw [List.getElem?_map,Option.map_eq_some_iff] at hi
 obtain ⟨z,hz,rfl⟩:=hi
 obtain ⟨w,h1,h2⟩:=ha i z hz
 exact ⟨w,h1,SlV.int h2 (hb z (List.mem_of_getElem? hz))⟩
section
open Go.ChangeShapes Go.WideShapes
variable {HT:Type} {enc:TypeId × Value->HT} {P:Program} {w:World} {base base':Nat} {sp:Nat->Bool} {held:Bool} {μ:Mu} {F:Nat->Prop} {H:Heap}
theorem open_rows {tvs tv ti te:TypeId} (hP:RowTys P tvs tv ti te) (hF:∀ c,c<w.heap.size->F c) {r:Reach} {v:Value} {d:DataW HT} {ps:List MemPlace} (hval:Value.okWide P w r base' tvs v) (hd:DataW.Trod enc P w base sp held tvs v d ps) :
  ∃ av l,VR μ F w av v/\gQ H av l/\(∀ r∈l,eZ r)/\l.length<=maxLen:=by
 obtain ⟨a,n,c,rfl⟩:=okWide_slice hP.vs hval
 obtain ⟨fuel,h⟩:=hd
 obtain ⟨v',av,l,e,g⟩:=Dq (H:=H) (μ:=μ) hP hF h
 have e:v'=.slice a n c:=by simpa [Value.cells] using e.symm
 subst e
 exact ⟨av,l,g⟩
theorem open_vec {tvs tv ti te:TypeId} (hP:RowTys P tvs tv ti te) (hF:∀ c,c<w.heap.size->F c) {r:Reach} {v:Value} {d:DataW HT} {ps:List MemPlace} (hval:Value.okWide P w r base' tv v) (hd:DataW.Trod enc P w base sp held tv v d ps) :
  ∃ av l,VR μ F w av v/\Jt H av l/\eZ l/\∀ z∈l,∃ y∈elemsD d,limbsD y z:=by
 obtain ⟨a,n,c,rfl⟩:=okWide_slice hP.v hval
 obtain ⟨fuel,h⟩:=hd
 obtain ⟨v',av,l,e,g⟩:=yZ (H:=H) (μ:=μ) hP hF h
 have e:v'=.slice a n c:=by simpa [Value.cells] using e.symm
 subst e
 exact ⟨av,l,g⟩
end
theorem int_range {n:Int} (h:(Lit.int .i64 n).wf=true) : -9223372036854775808<=n/\n<9223372036854775808:=by
 have h1:IntKind.i64.min = -9223372036854775808:=by decide
 have h2:IntKind.i64.max=9223372036854775807:=by decide
 unfold Lit.wf at h
 simp [h1,h2] at h
 omega
theorem u8_range {n:Int} (h:(Lit.int .u8 n).wf=true):0<=n/\n<256:=by
 have h1:IntKind.u8.min=0:=by decide
 have h2:IntKind.u8.max=255:=by decide
 unfold Lit.wf at h
 simp [h1,h2] at h
 omega
theorem wf_nil:Wf (Heap.nil 0):=fun b e h=>by rw [Tr.nil_get] at h; cases h
theorem mw {H:Heap} {b:Nat} {x y:Int} {r:Bool} (h:H.get b=some (.cells [.int .i64 x,.int .i64 y] dK r)):tk (Ed .i64) dK H (.own b 0 2 2 1 true) [x,y] :=
 ⟨[_,_],Rd.own h rfl (Nat.le_refl _),fun _ _ _ _ _ _ e=>by cases e; exact ⟨_,_,h⟩,rfl,fun i a hi=>by
  match i with
  | 0=>simp at hi; subst hi; exact ⟨_,rfl,rfl⟩
  | 1=>simp at hi; subst hi; exact ⟨_,rfl,rfl⟩
  | i+2=>simp at hi⟩
def Emp (H:Heap) (a e:Nat):Prop:=e<=H.next/\∀ c,a<=c->c<e->H.get c=none
theorem Emp.start {H:Heap} (hw:Wf H) {k:Nat}:Emp (H.up k) H.next (H.next+k):=⟨Nat.le_refl _,fun c h _=>hw.fresh h⟩
theorem Emp.next {G H2:Heap} {a e p a':Nat} {x:Ent} (hf:Emp G a e) (hk:Kp (G.put p x) H2) (hp:p<a') (ha:a<=a'):Emp H2 a' e :=
 ⟨Nat.le_trans hf.1 hk.le,fun c h1 h2=>hk.free (by rw [next_put]; exact Nat.lt_of_lt_of_le h2 hf.1) (by rw [au (by omega)]; exact hf.2 c (by omega) h2)⟩
theorem Emp.keep {G H2:Heap} {a e:Nat} (hf:Emp G a e) (hk:Kp G H2):Emp H2 a e :=
 ⟨Nat.le_trans hf.1 hk.le,fun c h1 h2=>hk.free (Nat.lt_of_lt_of_le h2 hf.1) (hf.2 c h1 h2)⟩
theorem Emp.sub {G:Heap} {a e p:Nat} {x:Ent} (hf:Emp G a e) (h1:a<=p) (h2:p<e):Sub G (G.put p x):=bB (hf.2 p h1 h2)
section
variable {tab:Nat->Option aq} {H:Heap} {s:AV}
theorem kb (C:Code tab) (hw:Wf H) {x y:Int} (hx : -9223372036854775808<=x/\x<9223372036854775808) (hy : -9223372036854775808<=y/\y<9223372036854775808) :
  Ans tab (.fn bN [.int .i64 x,.int .i64 y]) H fun v H'=>aZ H' v [[x,y]]/\Kp H H':=by
 refine cD C.facetroomlaw20_one (by decide) fun T hl g0 g1=>?_
 refine zW (aB hl g0 g1) ?_
 refine AnsH.use (vec_Of C (l:=[x,y]) zF (mw (by refine s9 ?_; rfl)) (by simp) (by simp [hx,hy])) ?_
 rintro v H2 ⟨hr,hk2⟩
 obtain ⟨k2,_,w2⟩:=zT H zK hk2
 have ov:=hr.one
 have f4:H2.get (H.next+5)=none:=hk2.free (by refine s9 ?_; omega) (by refine s9 ?_; exact hw.fresh (by omega))
 have lt4:H.next+7<=H2.next:=hk2.le
 refine zW (aB hl g0 g1) ?_
 refine ⟨?_,zK⟩
 exact GE (E:=intE) (t1:=aa) hr (bB f4) (aG _ _ _)
theorem nX (C:Code tab) (hw:Wf H) {va vb vc vd:AV} {E I L R:List (List Int)} {m:Nat} (ha:aZ H va E) (hb:aZ H vb I) (hc:aZ H vc L) (hd:aZ H vd R) (he:E.length<=1024) (hi:I.length<=20) (h1:∀ a∈E,a.length=2/\Lin.Bd (2^m) a) (h2:∀ a∈I,a.length=2/\Lin.Bd (2^m) a) (hm:m<=3000) :
  Ans tab (.fn bW [va,vb,vc,vd]) H fun v H'=>v=.bool (decide (Lin.gensL 2 E I=L) && decide (Lin.gensR 2 E I=R))/\Kp H H':=by
 obtain ⟨o1,o2⟩:=ts (d:=2) (m:=m) (by omega) (by omega) h1 h2
 refine I6 C.facetroomlaw20_gives (by decide) fun T hl g0 g1 g2 g3=>?_
 refine zW (aB hl g0 g1) ?_
 refine AnsH.use (cone_Gens C (d:=2) (m:=m) zF (ha.mono (Kp.sub (H:=H) zK)) (hb.mono (Kp.sub (H:=H) zK)) (by omega) (by omega) he hi h1 h2 (by omega)) ?_
 rintro v H2 ⟨p,q,rfl,hp,hq,hk2⟩
 obtain ⟨k2,_,w2⟩:=zT H zK hk2
 refine zW (kT hl g0 g1 g2 g3 g2 g3) ?_
 refine AnsH.eq (uw C zF (hp.mono (Kp.sub (H:=H2) zK)) (hc.mono (Kp.sub (H:=H) zK)) ?_ ?_) fun H3 hk3=>?_
 ·have:=ech_len (Lin.gens_told (d:=2) (fun a ha=>(h1 a ha).1) (fun a ha=>(h2 a ha).1)).form
  omega
 ·exact fun r hr=>⟨by rw [(o1 r hr).1]; omega,fun z hz=>(kM (o1 r hr).2 z hz).sm (by omega)⟩
 obtain ⟨k3,_,_⟩:=zT H zK hk3
 have k23:Kp H2 H3:=Kp.trans zK hk3
 have le_k23:=k23.le
 have w3:=k3.wf
 cases hs:decide (Lin.gensL 2 E I=L) with
 | false =>
  refine zW (da hl g0 g1 g2 g3) ?_
  exact zK
 | true =>
  refine zW (iq hl g0 g1 g2 g3 g3) ?_
  refine AnsH.eq (uw C zF ((hq.mono k23.sub).mono (Kp.sub (H:=H3) zK)) (hd.mono (Kp.sub (H:=H) zK)) ?_ ?_) fun H4 hk4=>?_
  ·have:=(Lin.gens_told (d:=2) (fun a ha=>(h1 a ha).1) (fun a ha=>(h2 a ha).1)).dd.count
   have hp:2^I.length<=2^20:=Nat.pow_le_pow_right (by decide) hi
   have hp2:(2:Nat)^20=1048576:=by decide
   omega
  ·exact fun r hr=>⟨by rw [(o2 r hr).1]; omega,fun z hz=>(kM (o2 r hr).2 z hz).sm (by omega)⟩
  obtain ⟨k4,_,_⟩:=zT H zK hk4
  refine zW (da hl g0 g1 g2 g3) ?_
  exact zK
end
end Go.Proofs.YtichbdepocojaaaGreat.Ev
namespace Go.Proofs.YtichbdepocojaaaGreat.Lin
set_option linter.all false
theorem bd_small {x:V} (h:x.all (fun a=>decide (a.natAbs<=2))=true):Bd (2^1) x:=fun i=>by
 by_cases hi:i<x.length
 ·have:at_ x i=x[i]:=by simp [at_,hi]
  rw [this]
  simpa using List.all_eq_true.1 h _ (List.getElem_mem hi)
 ·have:at_ x i=0:=by simp [at_,hi]
  rw [this]; simp
theorem ex1:gensL 2 [] [[1,0],[0,1]]=[]/\gensR 2 [] [[1,0],[0,1]]=[[0,1],[1,0]]:=by
 have r:(gensU 2 [] [[1,0],[0,1]]).rays.map (restF (gensL 2 [] [[1,0],[0,1]]))=[[1,0],[0,1]]:=by decide +kernel
 refine ⟨by decide +kernel,?_⟩
 unfold gensR; rw [r]
 simp [List.mergeSort,List.MergeSort.Internal.splitInTwo,cmpV]
theorem ex2:gensL 2 [] [[1,1]]=[[-1,1]]/\gensR 2 [] [[1,1]]=[[1,0]]:=by
 have r:(gensU 2 [] [[1,1]]).rays.map (restF (gensL 2 [] [[1,1]]))=[[1,0]]:=by decide +kernel
 refine ⟨by decide +kernel,?_⟩
 unfold gensR; rw [r]; simp
theorem ex3:gensL 2 [[0,1]] [[1,0]]=[]/\gensR 2 [[0,1]] [[1,0]]=[[1,0]]:=by
 have r:(gensU 2 [[0,1]] [[1,0]]).rays.map (restF (gensL 2 [[0,1]] [[1,0]]))=[[1,0]]:=by decide +kernel
 refine ⟨by decide +kernel,?_⟩
 unfold gensR; rw [r]; simp
end Go.Proofs.YtichbdepocojaaaGreat.Lin
namespace Go.Proofs.YtichbdepocojaaaGreat.Ev
open Go Nn
set_option linter.all false
theorem Emp.put {G:Heap} {a e p a':Nat} {x:Ent} (hf:Emp G a e) (hp:p<a') (ha:a<=a'):Emp (G.put p x) a' e :=
 ⟨hf.1,fun c h1 h2=>by rw [au (by omega)]; exact hf.2 c (by omega) h2⟩
theorem xQ {A:List (List Int)} (h:A.all (fun x=>decide (x.length=2) && x.all (fun a=>decide (a.natAbs<=2)))=true):∀ a∈A,a.length=2/\Lin.Bd (2^1) a:=fun a ha=>by
 have:=List.all_eq_true.1 h a ha
 simp only [Bool.and_eq_true,decide_eq_true_eq] at this
 exact ⟨this.1,Lin.bd_small this.2⟩
section
variable {tab:Nat->Option aq} {H:Heap} {s:AV}
theorem zJ (C:Code tab) (hw:Wf H):Ans tab (.fn cY []) H fun v H'=>v=.bool true/\Kp H H':=by
 refine Nm C.facetroomlaw20_alive fun T hl=>?_
 refine zW hl ?_
 have e0:Emp (H.up 13) H.next (H.next+13):=Emp.start hw
 refine AnsH.use (vec_Of C (l:=[1,0]) zF (mw (by refine s9 ?_; rfl)) (by simp) (by simp)) ?_
 rintro v3 H2 ⟨r3,hk2⟩
 obtain ⟨k2,_,w2⟩:=zT H zK hk2
 have e2:Emp H2 (H.next+2) (H.next+13):=(e0.put (by omega) (by omega)).keep hk2
 have n2:=e2.1
 have o3:=r3.one
 refine zW hl ?_
 refine AnsH.use (vec_Of C (l:=[0,1]) zF (mw (by refine s9 ?_; rfl)) (by simp) (by simp)) ?_
 rintro v5 H3 ⟨r5,hk3⟩
 obtain ⟨k3,_,w3⟩:=zT H zK hk3
 have e3:Emp H3 (H.next+4) (H.next+13):=(e2.put (by omega) (by omega)).keep hk3
 have n3:=e3.1
 have s23:Sub H2 H3:=(e2.sub (p:=H.next+3) (by omega) (by omega)).trans hk3.sub
 have o5:=r5.one
 refine zW hl ?_
 obtain ⟨G3,hG3⟩:∃ G,G=H3.put (H.next+5) (.cells [v3,v5] ae true):=⟨_,rfl⟩
 rw [<- hG3]
 have e3':Emp G3 (H.next+6) (H.next+13):=by rw [hG3]; exact e3.put (by omega) (by omega)
 have s3:Sub H3 G3:=by rw [hG3]; exact e3.sub (by omega) (by omega)
 have k3':Kp H G3:=by rw [hG3]; exact zK
 have w3':=k3'.wf
 have n3':=e3'.1
 have R1:aZ G3 (.own (H.next+5) 0 2 2 1 true) [[1,0],[0,1]]:=pS (E:=intE) (t1:=aa) (r3.mono s23) r5 s3 (by rw [hG3]; exact aG _ _ _)
 refine AnsH.use (vec_Of C (l:=[0,1]) zF (mw (by refine s9 ?_; rfl)) (by simp) (by simp)) ?_
 rintro v8 H4 ⟨r8,hk4⟩
 obtain ⟨k4,_,w4⟩:=zT H zK hk4
 have e4:Emp H4 (H.next+7) (H.next+13):=(e3'.put (by omega) (by omega)).keep hk4
 have n4:=e4.1
 have s4:Sub G3 H4:=(e3'.sub (p:=H.next+6) (by omega) (by omega)).trans hk4.sub
 have o8:=r8.one
 refine zW hl ?_
 refine AnsH.use (vec_Of C (l:=[1,0]) zF (mw (by refine s9 ?_; rfl)) (by simp) (by simp)) ?_
 rintro fe H5 ⟨r10,hk5⟩
 obtain ⟨k5,_,w5⟩:=zT H zK hk5
 have e5:Emp H5 (H.next+9) (H.next+13):=(e4.put (by omega) (by omega)).keep hk5
 have n5:=e5.1
 have s5:Sub H4 H5:=(e4.sub (p:=H.next+8) (by omega) (by omega)).trans hk5.sub
 have o10:=r10.one
 refine zW hl ?_
 obtain ⟨G5,hG5⟩:∃ G,G=H5.put (H.next+10) (.cells [v8,fe] ae true):=⟨_,rfl⟩
 rw [<- hG5]
 have s5':Sub H5 G5:=by rw [hG5]; exact e5.sub (by omega) (by omega)
 have k5':Kp H G5:=by rw [hG5]; exact zK
 have w5':=k5'.wf
 have n5':H5.next=G5.next:=by rw [hG5]; rfl
 have R2:aZ G5 (.own (H.next+10) 0 2 2 1 true) [[0,1],[1,0]]:=pS (E:=intE) (t1:=aa) (r8.mono s5) r10 s5' (by rw [hG5]; exact aG _ _ _)
 have R1':=R1.mono ((s4.trans s5).trans s5')
 refine AnsH.eq (nX C (m:=1) zF (SlV.nil _ _ _) R1' (SlV.nil _ _ _) R2 (by simp) (by simp) (by simp) (xQ (by decide)) (by omega)) fun H6 hk6=>?_
 obtain ⟨k6,_,w6⟩:=zT H zK hk6
 rw [decide_eq_true Lin.ex1.1,decide_eq_true Lin.ex1.2]
 refine zW hl ?_
 refine AnsH.use (kb C (x:=1) (y:=1) zF (by omega) (by omega)) ?_
 rintro lH H7 ⟨r15,hk7⟩
 obtain ⟨k7,_,w7⟩:=zT H zK hk7
 refine zW hl ?_
 refine AnsH.use (kb C (x:=-1) (y:=1) zF (by omega) (by omega)) ?_
 rintro mI H8 ⟨r16,hk8⟩
 obtain ⟨k8,_,w8⟩:=zT H zK hk8
 refine zW hl ?_
 refine AnsH.use (kb C (x:=1) (y:=0) zF (by omega) (by omega)) ?_
 rintro mG H9 ⟨r17,hk9⟩
 obtain ⟨k9,_,w9⟩:=zT H zK hk9
 refine zW hl ?_
 refine AnsH.eq (nX C (m:=1) zF (SlV.nil _ _ _) (r15.mono (hk8.sub.trans hk9.sub)) (r16.mono hk9.sub) r17 (by simp) (by simp) (by simp) (xQ (by decide)) (by omega)) fun H10 hk10=>?_
 obtain ⟨k10,_,w10⟩:=zT H zK hk10
 rw [decide_eq_true Lin.ex2.1,decide_eq_true Lin.ex2.2]
 refine zW hl ?_
 refine AnsH.use (kb C (x:=0) (y:=1) zF (by omega) (by omega)) ?_
 rintro tN H11 ⟨r21,hk11⟩
 obtain ⟨k11,_,w11⟩:=zT H zK hk11
 refine zW hl ?_
 refine AnsH.use (kb C (x:=1) (y:=0) zF (by omega) (by omega)) ?_
 rintro tM H12 ⟨r22,hk12⟩
 obtain ⟨k12,_,w12⟩:=zT H zK hk12
 refine zW hl ?_
 refine AnsH.use (kb C (x:=1) (y:=0) zF (by omega) (by omega)) ?_
 rintro yN H13 ⟨r23,hk13⟩
 obtain ⟨k13,_,w13⟩:=zT H zK hk13
 refine zW hl ?_
 refine AnsH.eq (nX C (m:=1) zF (r21.mono (hk12.sub.trans hk13.sub)) (r22.mono hk13.sub) (SlV.nil _ _ _) r23 (by simp) (by simp) (xQ (by decide)) (xQ (by decide)) (by omega)) fun H14 hk14=>?_
 obtain ⟨k14,_,w14⟩:=zT H zK hk14
 have n14:H6.next+20<=H14.next:=Nat.le_trans hk7.le (Nat.le_trans hk8.le (Nat.le_trans hk9.le (Nat.le_trans hk10.le (Nat.le_trans hk11.le (Nat.le_trans hk12.le (Nat.le_trans hk13.le hk14.le))))))
 rw [decide_eq_true Lin.ex3.1,decide_eq_true Lin.ex3.2]
 refine zW hl ?_
 refine AnsH.use (vec_Of C (l:=[1,2]) zF (mw (by refine s9 ?_; rfl)) (by simp) (by simp)) ?_
 rintro yU H15 ⟨r28,hk15⟩
 obtain ⟨k15,_,_⟩:=zT H zK hk15
 have l28:lenV yU=some (.int .i64 2):=r28.lenV
 refine zW (aw hl l28) ?_
 exact zK
theorem zI (C:Code tab) (hw:Wf H) {a b:AV} {A B:List (List (Bool × List Nat))} {d:Int} (ha:gQ H a A) (hb:gQ H b B) :
  Ans tab (.fn cX [.int .i64 d,a,b]) H fun v H'=>v=.bool (cG 4 5 1 A || cG 7 5 1 B || decide (5<d))/\Kp H H':=by
 refine jP C.facetroomlaw20_great (by decide) fun T hl g0 g1 g2=>?_
 refine zW (aT hl g0 g1 g2) ?_
 refine AnsH.eq (zk C zF (ha.mono (Kp.sub (H:=H) zK)) (hb.mono (Kp.sub (H:=H) zK))) fun H2 hk2=>?_
 obtain ⟨k2,_,_⟩:=zT H zK hk2
 cases h:cG 4 5 1 A || cG 7 5 1 B with
 | true =>
  refine zW (aw hl g0) ?_
  exact ⟨by simp,zK⟩
 | false =>
  refine zW (aw hl g0) ?_
  exact ⟨by simp,zK⟩
structure xD (d n:Nat) (l:List (List Int)):Prop where
 len:l.length<=n
 row:∀ a∈l,a.length=d/\Lin.Bd (2^64) a
theorem Nf {z:Bool × List Nat} (h1:¬ 1<z.2.length) (hl:Lim z.2):(fS z).natAbs<=2^64:=by
 have h2:=pO hl
 have h3:B^z.2.length<=B^1:=Nat.pow_le_pow_right (by decide) (by omega)
 have h4:B^1=2^64:=by decide
 unfold fS
 split
 ·rw [Int.natAbs_neg,Int.natAbs_natCast]; omega
 ·rw [Int.natAbs_natCast]; omega
theorem eT {n m k:Nat} {A:List (List (Bool × List Nat))} (h:cG n m k A=false):A.length<=n/\∀ r∈A,r.length<=m/\∀ z∈r,¬ k<z.2.length:=by
 simp only [cG,Bool.or_eq_false_iff,decide_eq_false_iff_not,List.any_eq_false,Bool.not_eq_true] at h
 refine ⟨by omega,fun r hr=>?_⟩
 have:=h.2 r hr
 simp only [mX,Bool.or_eq_false_iff,decide_eq_false_iff_not,List.any_eq_false,Bool.not_eq_true] at this
 exact ⟨by omega,fun z hz=>by simpa using this.2 z hz⟩
theorem iU {A:List (List (Bool × List Nat))} (h:aN A=0):∀ r∈A,(∀ z∈r,oF z=false)/\0<r.length/\r.length=(A.headD []).length:=fun r hr=>by
 unfold aN at h
 split at h
 ·cases h
 ·split at h
  ·cases h
  ·rename_i h2
   split at h
   ·cases h
   ·rename_i h3
    rw [Bool.not_eq_true,List.any_eq_false] at h2 h3
    have e2:=h2 r hr
    have e3:=h3 r hr
    simp only [qa,Gp,Bool.or_eq_true,Bool.not_eq_true',decide_eq_true_eq,not_or,Bool.not_eq_false,Bool.and_eq_true,List.any_eq_false] at e2
    refine ⟨fun z hz=>by simpa using e2.1.2 z hz,by omega,?_⟩
    simpa using e3
theorem wJ {v:AV} {A:List (List (Bool × List Nat))} {n:Nat} (ha:gQ H v A) (gA:∀ r∈A,eZ r) (h1:cG n 5 1 A=false) (hc:aN A=0) :
  ∃ E,aZ H v E/\A=E.map (fun r=>r.map kw)/\E.length<=n/\E.length=A.length/\(∀ r∈E,0<r.length/\r.length<=5/\r.length=(A.headD []).length/\Lin.Bd (2^64) r):=by
 obtain ⟨g1,g2⟩:=eT h1
 have hz:=iU hc
 have hlim:∀ r∈A,∀ z∈r,oF z=false/\Lim z.2:=fun r hr z hzr=>⟨(hz r hr).1 z hzr,fun x hx=>((gA r hr).1 z hzr).1 x hx⟩
 refine ⟨A.map fun r=>r.map fS,Gb ha hlim,?_,by simpa using g1,by simp,fun r hr=>?_⟩
 ·rw [List.map_map]
  conv=>lhs; rw [<- List.map_id A]
  refine List.map_congr_left fun r hr=>?_
  rw [id,Function.comp,List.map_map]
  conv=>lhs; rw [<- List.map_id r]
  exact List.map_congr_left fun z hzr=>(wL (hlim r hr z hzr).1 (hlim r hr z hzr).2).symm
 ·obtain ⟨q,hq,rfl⟩:=List.mem_map.1 hr
  have h3:=hz q hq
  refine ⟨by rw [List.length_map]; exact h3.2.1,by rw [List.length_map]; exact (g2 q hq).1,by rw [List.length_map]; exact h3.2.2,fun i=>?_⟩
  by_cases hi:i<(q.map fS).length
  ·rw [nh hi,List.getElem_map]
   have hi':i<q.length:=by simpa using hi
   exact Nf ((g2 q hq).2 _ (List.getElem_mem hi')) (hlim q hq _ (List.getElem_mem hi')).2
  ·have:Lin.at_ (q.map fS) i=0:=by
    unfold Lin.at_
    rw [List.getD_eq_getElem?_getD,List.getElem?_eq_none (by omega)]; rfl
   rw [this]; exact Nat.zero_le _
theorem Ba {a b:AV} {A B:List (List (Bool × List Nat))} (ha:gQ H a A) (hb:gQ H b B) (gA:∀ r∈A,eZ r) (gB:∀ r∈B,eZ r) (h1:cG 4 5 1 A=false) (h2:cG 7 5 1 B=false) :
  cn A B≠0\/cn A B=0/\∃ dd E I,aZ H a E/\aZ H b I/\0<dd/\dd<=5/\xD dd 4 E/\xD dd 7 I:=by
 by_cases hc:cn A B=0
 ·refine .inr ⟨hc,?_⟩
  unfold cn at hc
  split at hc
  ·rename_i h; exact absurd hc h
  rename_i hA
  split at hc
  ·rename_i h; exact absurd hc h
  rename_i hB
  split at hc
  ·cases hc
  rename_i hne
  have hA:aN A=0:=by simpa using hA
  have hB:aN B=0:=by simpa using hB
  obtain ⟨E,e1,e2,e3,e4,e5⟩:=wJ ha gA h1 hA
  obtain ⟨I,i1,i2,i3,i4,i5⟩:=wJ hb gB h2 hB
  cases A with
  | nil =>
   have hE:E=[]:=List.eq_nil_of_length_eq_zero (by simpa using e4)
   subst hE
   cases B with
   | nil =>
    have hI:I=[]:=List.eq_nil_of_length_eq_zero (by simpa using i4)
    subst hI
    exact ⟨1,[],[],e1,i1,by omega,by omega,⟨by simp,fun _ h=>by cases h⟩,⟨by simp,fun _ h=>by cases h⟩⟩
   | cons x B =>
    have hx:=iU hB x (List.mem_cons_self ..)
    have hx5:=(eT h2).2 x (List.mem_cons_self ..)
    exact ⟨x.length,[],I,e1,i1,hx.2.1,hx5.1,⟨by simp,fun _ h=>by cases h⟩,⟨i3,fun r hr=>⟨(i5 r hr).2.2.1,(i5 r hr).2.2.2⟩⟩⟩
  | cons x A =>
   have hx:=iU hA x (List.mem_cons_self ..)
   have hx5:=(eT h1).2 x (List.mem_cons_self ..)
   refine ⟨x.length,E,I,e1,i1,hx.2.1,hx5.1,⟨e3,fun r hr=>⟨(e5 r hr).2.2.1,(e5 r hr).2.2.2⟩⟩,⟨i3,fun r hr=>⟨?_,(i5 r hr).2.2.2⟩⟩⟩
   cases B with
   | nil =>
    have hI:I=[]:=List.eq_nil_of_length_eq_zero (by simpa using i4)
    subst hI
    cases hr
   | cons y B =>
    rw [(i5 r hr).2.2.1]
    have:=hne
    simp at this
    exact this.symm
 ·exact .inl hc
end
theorem wZ {n m k:Nat} {A:List (List (Bool × List Nat))} (h:cG n m k A=false) (hm:m<=1000) (hk:k<=1000):∀ r∈A,tj r:=fun r hr=>by
 have:=(eT h).2 r hr
 exact ⟨by omega,fun z hz=>by have:=this.2 z hz; omega⟩
section
variable {tab:Nat->Option aq} {H:Heap} {s:AV}
theorem vg (C:Code tab) (hw:Wf H) {va vb:AV} {d:Int} {A B:List (List (Bool × List Nat))} (ha:gQ H va A) (hb:gQ H vb B) (hA:A.length<1099511627776) (hB:B.length<1099511627776) (ba:∀ r∈A,tj r) (bb:∀ r∈B,tj r) (hc:cn A B≠0) :
  Ans tab (.fn dQ [.int .i64 d,va,vb]) H fun v H'=>v=.tup [.nilSl,.nilSl,.int .i64 (cn A B)]/\Kp H H':=by
 refine jP C.cone_Gens (by decide) fun T hl g0 g1 g2=>?_
 refine zW (aT hl g0 g1 g2) ?_
 refine AnsH.eq (cone_checked C zF (ha.mono (Kp.sub (H:=H) zK)) (hb.mono (Kp.sub (H:=H) zK)) hA hB ba bb) fun H2 hk2=>?_
 obtain ⟨k2,_,_⟩:=zT H zK hk2
 have hc:¬ cn A B=0:=hc
 refine zW (da hl g0 g1 g2 hc) ?_
 exact zK
theorem ve (C:Code tab) (hw:Wf H) {va vb:AV} {d:Int} {dd:Nat} {E I:List (List Int)} (ha:aZ H va E) (hb:aZ H vb I) (d0:0<dd) (d5:dd<=5) (gE:xD dd 4 E) (gI:xD dd 7 I) (hbad:d<1\/64<d\/(d≠(dd:Int)/\(E≠[]\/I≠[]))) :
  Ans tab (.fn dQ [.int .i64 d,va,vb]) H fun v H'=>∃ e,e≠0/\v=.tup [.nilSl,.nilSl,.int .i64 e]/\Kp H H':=by
 have oa:=ha.one
 have ob:=hb.one
 have lE:=gE.len
 have lI:=gI.len
 have sm:∀ {z:Int} {r:List Int},Lin.Bd (2^64) r->z∈r->fz z:=fun hb hz=>(kM hb _ hz).sm (by omega)
 have ok1:nk dd E:=⟨d0,by omega,fun r hr=>(gE.row r hr).1,fun r hr z hz=>sm (gE.row r hr).2 hz⟩
 have ok2:nk dd I:=⟨d0,by omega,fun r hr=>(gI.row r hr).1,fun r hr z hz=>sm (gI.row r hr).2 hz⟩
 refine jP C.cone_Gens (by decide) fun T hl g0 g1 g2=>?_
 refine zW (aT hl g0 g1 g2) ?_
 refine AnsH.eq (cone_checked C zF ((kr ha).mono (Kp.sub (H:=H) zK)) ((kr hb).mono (Kp.sub (H:=H) zK)) (by rw [List.length_map]; omega) (by rw [List.length_map]; omega) (fun r hr=>?_) (fun r hr=>?_)) fun H2 hk2=>?_
 ·obtain ⟨x,hx,rfl⟩:=List.mem_map.1 hr
  exact jH (by rw [ok1.len x hx]; omega) (ok1.sm x hx)
 ·obtain ⟨x,hx,rfl⟩:=List.mem_map.1 hr
  exact jH (by rw [ok2.len x hx]; omega) (ok2.sm x hx)
 rw [pZ ok1 ok2 (by omega) (by omega)]
 obtain ⟨k2,_,w2⟩:=zT H zK hk2
 refine zW (aT hl g0 g1 g2) ?_
 refine AnsH.eq (cone_long C (Ls:=[E,I]) (d:=dd) zF (pS (E:=rowsE) (t1:=ae) (ha.mono k2.sub) (hb.mono k2.sub) (Kp.sub (H:=H2) zK) (eA)) (by simp) (fun L hL r hr=>?_)) fun H3 hk3=>?_
 ·rcases List.mem_cons.1 hL with rfl | hL
  ·exact ok1.len r hr
  ·rcases List.mem_cons.1 hL with rfl | hL
   ·exact ok2.len r hr
   ·cases hL
 obtain ⟨k3,_,w3⟩:=zT H zK hk3
 by_cases q1:d<1
 ·refine zW (aB hl g0 q1) ?_
  exact ⟨2,by omega,rfl,zK⟩
 by_cases q2:(64:Int)<d
 ·refine zW (aT hl g0 q1 q2) ?_
  exact ⟨2,by omega,rfl,zK⟩
 have hb3:d≠(dd:Int)/\(E≠[]\/I≠[]):=by
  rcases hbad with h | h | h
  ·exact absurd h q1
  ·exact absurd h q2
  ·exact h
 have hany:[E,I].any (fun L=>!L.isEmpty)=true:=by
  rw [List.any_eq_true]
  rcases hb3.2 with h | h
  ·exact ⟨E,by simp,by cases E <;> simp_all⟩
  ·exact ⟨I,by simp,by cases I <;> simp_all⟩
 have q3:(0:Int)<=(dd:Int):=by omega
 have q4:¬ (dd:Int)=d:=fun e=>hb3.1 e.symm
 rw [hany]
 refine zW (iq hl g0 q1 q2 q3 q4) ?_
 exact ⟨70,by omega,rfl,zK⟩
theorem Eh (C:Code tab) {va vb:AV} {d:Int} {A B:List (List (Bool × List Nat))} (ha:gQ H va A) (hb:gQ H vb B) (gA:∀ r∈A,eZ r) (gB:∀ r∈B,eZ r) (h1:cG 4 5 1 A=false) (h2:cG 7 5 1 B=false) (h5:¬ 5<d) :
  (∀ H1,Wf H1->Sub H H1->Ans tab (.fn dQ [.int .i64 d,va,vb]) H1 fun v H'=>∃ e,e≠0/\v=.tup [.nilSl,.nilSl,.int .i64 e]/\Kp H1 H') \/
  ∃ (dd:Nat) (E I:List (List Int)),d=(dd:Int)/\0<dd/\dd<=5/\aZ H va E/\aZ H vb I/\xD dd 4 E/\xD dd 7 I:=by
 have lA:=(eT h1).1
 have lB:=(eT h2).1
 rcases Ba ha hb gA gB h1 h2 with hc | ⟨hc,dd,E,I,hE,hI,d0,d5,gE,gI⟩
 ·refine .inl fun H1 hw hs=>(vg C hw (ha.mono hs) (hb.mono hs) (by omega) (by omega) (wZ h1 (by omega) (by omega)) (wZ h2 (by omega) (by omega)) hc).mono ?_
  rintro v H' ⟨rfl,hk⟩
  exact ⟨_,hc,rfl,hk⟩
 ·by_cases hbad:d<1\/64<d\/(d≠(dd:Int)/\(E≠[]\/I≠[]))
  ·exact .inl fun H1 hw hs=>ve C hw (hE.mono hs) (hI.mono hs) d0 d5 gE gI hbad
  ·have q1:¬ d<1:=fun h=>hbad (.inl h)
   have q3:d=(dd:Int)\/E=[]/\I=[]:=by
    by_cases e:d=(dd:Int)
    ·exact .inl e
    ·refine .inr ⟨?_,?_⟩
     ·by_cases h:E=[]
      ·exact h
      ·exact absurd (.inr (.inr ⟨e,.inl h⟩)) hbad
     ·by_cases h:I=[]
      ·exact h
      ·exact absurd (.inr (.inr ⟨e,.inr h⟩)) hbad
   rcases q3 with e | ⟨rfl,rfl⟩
   ·exact .inr ⟨dd,E,I,e,d0,d5,hE,hI,gE,gI⟩
   ·exact .inr ⟨d.toNat,[],[],by omega,by omega,by omega,hE,hI,⟨by simp,fun _ h=>by cases h⟩,⟨by simp,fun _ h=>by cases h⟩⟩
end
end Go.Proofs.YtichbdepocojaaaGreat.Ev
namespace Go.Proofs.YtichbdepocojaaaGreat.Lin
set_option linter.all false
theorem scl_bd {M:Nat} {x:V} (h:Bd M x):Bd M (scl (-1) x):=fun i=>by
 have e:at_ (scl (-1) x) i = -(at_ x i):=by
  simp only [at_,scl,List.getD_eq_getElem?_getD,List.getElem?_map]
  cases x[i]? <;> simp
 rw [e,Int.natAbs_neg]; exact h i
theorem mix1_bd {M N:Nat} {x y:V} (hxy:x.length=y.length) (h:Bd M x) (h2:Bd N y):Bd (M+N) (mix 1 x 1 y):=fun i=>by
 have e:at_ (mix 1 x 1 y) i=at_ x i+at_ y i:=by
  simp only [at_,mix,List.getD_eq_getElem?_getD,List.getElem?_zipWith]
  by_cases hi:i<x.length
  ·rw [List.getElem?_eq_getElem hi,List.getElem?_eq_getElem (by omega)]; simp
  ·rw [List.getElem?_eq_none (by omega),List.getElem?_eq_none (by omega)]; simp
 rw [e]
 have:=h i; have:=h2 i
 have:=Int.natAbs_add_le (at_ x i) (at_ y i)
 omega
def keepB (a:V) (E I:List V):Bool:=!E.any (fun r=>!decide (dot a r=0)) && !I.any (fun r=>decide (dot a r<0))
theorem oX {a:V} {E I:List V}:keepB a E I=true ↔ (∀ e∈E,dot a e=0)/\∀ r∈I,0<=dot a r:=by
 simp only [keepB,Bool.and_eq_true,Bool.not_eq_true',List.any_eq_false,Bool.not_eq_true,Bool.not_eq_false,decide_eq_true_eq,decide_eq_false_iff_not,Int.not_lt]
 simp
theorem pV {d:Nat} {a:V} {E I:List V} (ha:a.length=d):keepB a E I=true ↔ Keep d (· ∈ E) (· ∈ I) a:=by
 rw [oX]
 exact ⟨fun h=>⟨ha,fun e he=>by rw [dot_comm]; exact h.1 e he,fun r hr=>by rw [dot_comm]; exact h.2 r hr⟩,fun h=>⟨fun e he=>by rw [dot_comm]; exact h.eq e he,fun r hr=>by rw [dot_comm]; exact h.ge r hr⟩⟩
theorem keeps_made {d:Nat} {E I:List V} (hE:∀ a∈E,a.length=d) (hI:∀ a∈I,a.length=d) {a:V} (ha:a.length=d) :
  keepB a (gensL d (gensL d E I) (gensR d E I)) (gensR d (gensL d E I) (gensR d E I))=keepB a E I:=by
 have t:=gens_told hE hI
 have t2:=gens_told t.dd.lenL t.dd.lenR
 rw [Bool.eq_iff_iff,pV ha,pV ha]
 exact (Eu hE hI t.dd t2.dd a).symm
theorem keepB_add {a b:V} {E I:List V} (hab:a.length=b.length) (h1:keepB a E I=true) (h2:keepB b E I=true):keepB (mix 1 a 1 b) E I=true:=by
 rw [oX] at *
 refine ⟨fun e he=>?_,fun r hr=>?_⟩
 ·rw [dot_comm,aY _ _ _ hab,dot_comm e,dot_comm e,h1.1 e he,h2.1 e he]; rfl
 ·have:=h1.2 r hr; have:=h2.2 r hr
  rw [dot_comm,aY _ _ _ hab,dot_comm r,dot_comm r]; omega
theorem line_keeps {d:Nat} {E I:List V} (hE:∀ a∈E,a.length=d) (hI:∀ a∈I,a.length=d) {l:V} (hl:l∈gensL d E I):keepB l E I=true/\keepB (scl (-1) l) E I=true:=by
 have t:=gens_told hE hI
 rw [oX,oX]
 refine ⟨⟨fun e he=>by rw [dot_comm]; exact t.dd.lineE l hl e he,fun r hr=>by rw [dot_comm,t.dd.lineI l hl r hr]; exact Int.le_refl _⟩,⟨fun e he=>?_,fun r hr=>?_⟩⟩
 ·rw [cZ,dot_comm,t.dd.lineE l hl e he]; rfl
 ·rw [cZ,dot_comm,t.dd.lineI l hl r hr]; exact Int.le_refl _
theorem ray_keeps {d:Nat} {E I:List V} (hE:∀ a∈E,a.length=d) (hI:∀ a∈I,a.length=d) {r:V} (hr:r∈gensR d E I):keepB r E I=true:=by
 have t:=gens_told hE hI
 have k:=t.dd.keep r hr
 rw [pV k.len]; exact k
end Go.Proofs.YtichbdepocojaaaGreat.Lin
namespace Go.Proofs.YtichbdepocojaaaGreat.Ev
open Go Nn
set_option linter.all false
section
variable {tab:Nat->Option aq} {H:Heap} {s:AV}
theorem lD (C:Code tab) (hw:Wf H) {fi:Nat} {first caps:List AV} {l:List (List Int)} (hs:aZ H s l) (hbig:l.length<4611686018427387904) (p:List Int->Bool)
  (hf:∀ r∈l,∀ H' w,Kp H H'->RowV H' w r->Ans tab (.fn fi (first++[w]++caps)) H' fun v H2=>v=.bool (p r)/\Kp H' H2) :
  Ans tab (.fn aL [s,.fn (.func fi) first caps]) H fun v H'=>v=.bool (l.any p)/\Kp H H':=by
 refine cD C.slices_ContainsFunc_Sl_api_Vec_api_Vec (by decide) fun T hl g0 g1=>?_
 refine zW (aB hl g0 g1) ?_
 refine AnsH.eq (oI C zF (hs.mono (Kp.sub (H:=H) zK)) hbig p fun a ha H' cs hk hr=>hf a ha H' cs (Kp.trans (H:=H) zK hk) hr) fun H2 hk2=>?_
 obtain ⟨k2,_,_⟩:=zT H zK hk2
 refine zW (aB hl g0 g1) ?_
 exact ⟨by rw [wW],zK⟩
theorem cone_keeps_f1 (C:Code tab) (hw:Wf H) {w va:AV} {r a:List Int} {bx e f:Nat} (hr:RowV H w r) (hb:H.get bx=some (.cells [va] ae true)) (ha:RowV H va a) (hra:a.length=r.length) (h64:a.length<=64) (hae:∀ z∈a,Bt e z) (hrf:∀ z∈r,Bt f z) (hbt:e+f+7<=8796093022208) :
  Ans tab (.fn gr [w,.ptr bx 0]) H fun v H'=>v=.bool (!decide (Lin.dot a r=0))/\Kp H H':=by
 refine cD C.cone_keeps_f1 (by decide) fun T hl g0 g1=>?_
 refine zW (aT hl g0 g1 hb) ?_
 refine AnsH.use (cone_dot C zF (ha.mono (Kp.sub (H:=H) zK)) (hr.mono (Kp.sub (H:=H) zK)) hra h64 hae hrf hbt) ?_
 rintro v H2 ⟨hr2,hk2⟩
 obtain ⟨k2,_,w2⟩:=zT H zK hk2
 refine zW (aB hl g0 g1) ?_
 refine AnsH.eq (cone_sign C (z:=Lin.dot a r) zF (hr2.mono (Kp.sub (H:=H2) zK)) ((lP hae hrf hra h64).sm hbt)) fun H3 hk3=>?_
 have k3:Kp H H3:=Kp.trans k2 (Kp.trans zK hk3)
 have le_k3:=k3.le
 refine zW (aB hl g0 g1) ?_
 refine ⟨?_,zK⟩
 congr 1
 rw [Bool.eq_iff_iff]
 simp [kn]
theorem Iy (x:Int):iS x<0 ↔ x<0:=by unfold iS; split <;> (try split) <;> omega
theorem cone_keeps_f2 (C:Code tab) (hw:Wf H) {w va:AV} {r a:List Int} {bx e f:Nat} (hr:RowV H w r) (hb:H.get bx=some (.cells [va] ae true)) (ha:RowV H va a) (hra:a.length=r.length) (h64:a.length<=64) (hae:∀ z∈a,Bt e z) (hrf:∀ z∈r,Bt f z) (hbt:e+f+7<=8796093022208) :
  Ans tab (.fn gq [w,.ptr bx 0]) H fun v H'=>v=.bool (decide (Lin.dot a r<0))/\Kp H H':=by
 refine cD C.cone_keeps_f2 (by decide) fun T hl g0 g1=>?_
 refine zW (aT hl g0 g1 hb) ?_
 refine AnsH.use (cone_dot C zF (ha.mono (Kp.sub (H:=H) zK)) (hr.mono (Kp.sub (H:=H) zK)) hra h64 hae hrf hbt) ?_
 rintro v H2 ⟨hr2,hk2⟩
 obtain ⟨k2,_,w2⟩:=zT H zK hk2
 refine zW (aB hl g0 g1) ?_
 refine AnsH.eq (cone_sign C (z:=Lin.dot a r) zF (hr2.mono (Kp.sub (H:=H2) zK)) ((lP hae hrf hra h64).sm hbt)) fun H3 hk3=>?_
 have k3:Kp H H3:=Kp.trans k2 (Kp.trans zK hk3)
 have le_k3:=k3.le
 refine zW (aB hl g0 g1) ?_
 refine ⟨?_,zK⟩
 congr 1
 rw [Bool.eq_iff_iff]
 simp [Iy]
structure RowsB (d f:Nat) (l:List (List Int)):Prop where
 len:∀ r∈l,r.length=d
 bt:∀ r∈l,∀ z∈r,Bt f z
theorem RowsB.of {d m:Nat} {l:List (List Int)} (h:∀ r∈l,r.length=d/\Lin.Bd (2^m) r):RowsB d (m+1) l:=⟨fun r hr=>(h r hr).1,fun r hr=>kM (h r hr).2⟩
theorem RowsB.mono {d f g:Nat} {l:List (List Int)} (h:RowsB d f l) (hfg:f<=g):RowsB d g l:=⟨h.len,fun r hr z hz=>(h.bt r hr z hz).mono hfg⟩
theorem RowsB.ok {d f:Nat} {l:List (List Int)} (h:RowsB d f l) (d0:0<d) (d64:d<=64) (hf:f<=8796093022208):nk d l:=⟨d0,d64,h.len,fun r hr z hz=>(h.bt r hr z hz).sm hf⟩
theorem cone_keeps (C:Code tab) (hw:Wf H) {va vb vc:AV} {a:List Int} {E I:List (List Int)} {d e f:Nat} (ha:RowV H va a) (hb:aZ H vb E) (hc:aZ H vc I) (hal:a.length=d) (hd:d<=64) (hE:RowsB d f E) (hI:RowsB d f I) (lE:E.length<=1048576) (lI:I.length<=1048576) (hae:∀ z∈a,Bt e z) (hbt:e+f+7<=8796093022208) :
  Ans tab (.fn h9 [va,vb,vc]) H fun v H'=>v=.bool (Lin.keepB a E I)/\Kp H H':=by
 have oa:=ha.one
 refine jP C.cone_keeps (by decide) fun T hl g0 g1 g2=>?_
 refine zW (aT hl g0 g1 g2) ?_
 refine AnsH.eq (lD C (l:=E) zF (hb.mono (Kp.sub (H:=H) zK)) (by omega) (fun r=>!decide (Lin.dot a r=0)) (fun r hr H' w hk' hw'=>cone_keeps_f1 C hk'.wf hw' (hk'.get (eA)) (ha.mono (Kp.sub (H:=H) (Kp.trans zK hk'))) (by rw [hal]; exact (hE.len r hr).symm) (by omega) hae (hE.bt r hr) hbt)) fun H2 hk2=>?_
 obtain ⟨k2,_,w2⟩:=zT H zK hk2
 have hbx:H2.get H.next=some (.cells [va] ae true):=hk2.get (eA)
 cases hx:E.any (fun r=>!decide (Lin.dot a r=0)) with
 | true =>
  refine zW (aT hl g0 g1 g2) ?_
  exact ⟨by unfold Lin.keepB; rw [hx]; rfl,zK⟩
 | false =>
  refine zW (aT hl g0 g1 g2) ?_
  refine AnsH.eq (lD C (l:=I) zF (hc.mono (Kp.sub (H:=H) zK)) (by omega) (fun r=>decide (Lin.dot a r<0)) (fun r hr H' w hk' hw'=>cone_keeps_f2 C hk'.wf hw' (hk'.get hbx) (ha.mono (Kp.sub (H:=H) (Kp.trans zK hk'))) (by rw [hal]; exact (hI.len r hr).symm) (by omega) hae (hI.bt r hr) hbt)) fun H3 hk3=>?_
  obtain ⟨k3,_,_⟩:=zT H zK hk3
  refine zW (aT hl g0 g1 g2) ?_
  exact ⟨by unfold Lin.keepB; rw [hx]; rfl,zK⟩
theorem cone_asked (C:Code tab) (hw:Wf H) {va vb vc:AV} {a:List (Bool × List Nat)} {E I:List (List Int)} {d f:Nat} (ha:SlV rawE aa H va a) (hb:aZ H vb E) (hc:aZ H vc I) (hal:a.length=d) (d0:0<d) (d64:d<=64) (hE:RowsB d f E) (hI:RowsB d f I) (lE:E.length<=1024) (lI:I.length<=1024) (hf:f<=8796093022208) (hba:tj a) :
  Ans tab (.fn ia [va,vb,vc]) H fun v H'=>v=.int .i64 (aN [a])/\Kp H H':=by
 have oa:=ha.one
 have ob:=hb.one
 have oc:=hc.one
 have ok1:=hE.ok d0 d64 hf
 have ok2:=hI.ok d0 d64 hf
 refine jP C.cone_asked (by decide) fun T hl g0 g1 g2=>?_
 refine zW (aT hl g0 g1 g2) ?_
 refine AnsH.eq (cone_checked C zF ((kr hb).mono (Kp.sub (H:=H) zK)) ((kr hc).mono (Kp.sub (H:=H) zK)) (by rw [List.length_map]; omega) (by rw [List.length_map]; omega) (fun r hr=>?_) (fun r hr=>?_)) fun H2 hk2=>?_
 ·obtain ⟨x,hx,rfl⟩:=List.mem_map.1 hr
  exact jH (by rw [ok1.len x hx]; omega) (ok1.sm x hx)
 ·obtain ⟨x,hx,rfl⟩:=List.mem_map.1 hr
  exact jH (by rw [ok2.len x hx]; omega) (ok2.sm x hx)
 rw [pZ ok1 ok2 lE lI]
 obtain ⟨k2,_,w2⟩:=zT H zK hk2
 refine zW (aT hl g0 g1 g2) ?_
 refine AnsH.eq (rows_Check C (ls:=[a]) zF (GE (E:=rawE) (t1:=aa) (ha.mono k2.sub) (Kp.sub (H:=H2) zK) (eA)) (by simp) (fun r hr=>by rw [List.mem_singleton] at hr; subst hr; exact hba)) fun H3 hk3=>?_
 obtain ⟨k3,_,w3⟩:=zT H zK hk3
 by_cases h0:aN [a]=0
 ·refine zW (da hl g0 g1 g2 h0) ?_
  refine AnsH.eq (cone_long C (Ls:=[E,I]) (d:=d) zF (pS (E:=rowsE) (t1:=ae) (hb.mono k3.sub) (hc.mono k3.sub) (Kp.sub (H:=H3) zK) (eA)) (by simp) (fun L hL r hr=>?_)) fun H4 hk4=>?_
  ·rcases List.mem_cons.1 hL with rfl | hL
   ·exact ok1.len r hr
   ·rcases List.mem_cons.1 hL with rfl | hL
    ·exact ok2.len r hr
    ·cases hL
  obtain ⟨k4,_,_⟩:=zT H zK hk4
  have la:lenV va=some (.int .i64 (d:Int)):=by rw [ha.lenV,hal]
  have q3:(0:Int)<=(d:Int):=by omega
  cases hany:[E,I].any (fun L=>!L.isEmpty) with
  | true =>
   refine zW (iq hl g0 g1 g2 la q3) ?_
   exact ⟨by rw [h0],zK⟩
  | false =>
   refine zW (aT hl g0 g1 g2) ?_
   exact ⟨by rw [h0],zK⟩
 ·refine zW (da hl g0 g1 g2 h0) ?_
  exact zK
theorem zm {a:List Int} (h0:0<a.length) (h64:a.length<=64):aN [a.map kw]=0:=by
 refine oO (by simp) (fun k hk=>?_) fun k hk=>?_
 ·have:k=0:=by simpa using hk
  subst this
  unfold qa
  simp only [List.getElem_cons_zero]
  rw [Bb h64,decide_eq_false (by rw [List.length_map]; omega)]
  rfl
 ·have:k=0:=by simpa using hk
  subst this; rfl
theorem uZ (C:Code tab) (hw:Wf H) {va vb vc:AV} {a:List (Bool × List Nat)} {E I:List (List Int)} {d f:Nat} (ha:SlV rawE aa H va a) (hb:aZ H vb E) (hc:aZ H vc I) (hal:a.length=d) (d0:0<d) (d64:d<=64) (hE:RowsB d f E) (hI:RowsB d f I) (lE:E.length<=1024) (lI:I.length<=1024) (hf:f<=8796093022208) (hba:tj a) (hbad:aN [a]≠0) :
  Ans tab (.fn ib [va,vb,vc]) H fun v H'=>v=.tup [.bool false,.int .i64 (aN [a])]/\Kp H H':=by
 refine jP C.cone_Keeps (by decide) fun T hl g0 g1 g2=>?_
 have hbad:¬ aN [a]=0:=hbad
 refine zW (aT hl g0 g1 g2) ?_
 refine AnsH.eq (cone_asked C zF (ha.mono (Kp.sub (H:=H) zK)) (hb.mono (Kp.sub (H:=H) zK)) (hc.mono (Kp.sub (H:=H) zK)) hal d0 d64 hE hI lE lI hf hba) fun H2 hk2=>?_
 obtain ⟨k2,_,_⟩:=zT H zK hk2
 refine zW (da hl g0 g1 g2 hbad) ?_
 exact zK
theorem wq (C:Code tab) (hw:Wf H) {va vb vc:AV} {a:List (Bool × List Nat)} {E I:List (List Int)} {d f:Nat} (ha:SlV rawE aa H va a) (hb:aZ H vb E) (hc:aZ H vc I) (hal:a.length=d) (d0:0<d) (d64:d<=64) (hE:RowsB d f E) (hI:RowsB d f I) (lE:E.length<=1024) (lI:I.length<=1024) (hf:f<=8796093022208) (hba:tj a) (hbad:aN [a]≠0) :
  Ans tab (.fn fp [va,vb,vc]) H fun v H'=>v=.tup [.bool false,.int .i64 (aN [a])]/\Kp H H':=by
 refine jP C.cone_Made (by decide) fun T hl g0 g1 g2=>?_
 have hbad:¬ aN [a]=0:=hbad
 refine zW (aT hl g0 g1 g2) ?_
 refine AnsH.eq (cone_asked C zF (ha.mono (Kp.sub (H:=H) zK)) (hb.mono (Kp.sub (H:=H) zK)) (hc.mono (Kp.sub (H:=H) zK)) hal d0 d64 hE hI lE lI hf hba) fun H2 hk2=>?_
 obtain ⟨k2,_,_⟩:=zT H zK hk2
 refine zW (da hl g0 g1 g2 hbad) ?_
 exact zK
theorem cone_Keeps (C:Code tab) (hw:Wf H) {va vb vc:AV} {a:List Int} {E I:List (List Int)} {d e f:Nat} (ha:RowV H va a) (hb:aZ H vb E) (hc:aZ H vc I) (hal:a.length=d) (d0:0<d) (d64:d<=64) (hE:RowsB d f E) (hI:RowsB d f I) (lE:E.length<=1024) (lI:I.length<=1024) (hae:∀ z∈a,Bt e z) (hbt:e+f+7<=8796093022208) :
  Ans tab (.fn ib [va,vb,vc]) H fun v H'=>v=.tup [.bool (Lin.keepB a E I),.int .i64 0]/\Kp H H':=by
 refine jP C.cone_Keeps (by decide) fun T hl g0 g1 g2=>?_
 refine zW (aT hl g0 g1 g2) ?_
 refine AnsH.eq (cone_asked C zF ((SlV.raw ha).mono (Kp.sub (H:=H) zK)) (hb.mono (Kp.sub (H:=H) zK)) (hc.mono (Kp.sub (H:=H) zK)) (by rw [List.length_map]; exact hal) d0 d64 hE hI lE lI (by omega) (jH (by omega) fun z hz=>(hae z hz).sm (by omega))) fun H2 hk2=>?_
 rw [zm (by omega) (by omega)]
 obtain ⟨k2,_,w2⟩:=zT H zK hk2
 refine zW (aT hl g0 g1 g2) ?_
 refine AnsH.eq (cone_keeps C zF (ha.mono (Kp.sub (H:=H) zK)) (hb.mono (Kp.sub (H:=H) zK)) (hc.mono (Kp.sub (H:=H) zK)) hal d64 hE hI (by omega) (by omega) hae hbt) fun H3 hk3=>?_
 obtain ⟨k3,_,_⟩:=zT H zK hk3
 refine zW (aT hl g0 g1 g2) ?_
 exact zK
theorem cone_Made (C:Code tab) (hw:Wf H) {va vb vc:AV} {a:List Int} {E I:List (List Int)} {d e m:Nat} (ha:RowV H va a) (hb:aZ H vb E) (hc:aZ H vc I) (hal:a.length=d) (d0:0<d) (d6:d<=6) (hE:∀ r∈E,r.length=d/\Lin.Bd (2^m) r) (hI:∀ r∈I,r.length=d/\Lin.Bd (2^m) r) (lE:E.length<=1024) (lI:I.length<=20) (hm:m<=300000) (hae:∀ z∈a,Bt e z) (he:e<=1099511627776) :
  Ans tab (.fn fp [va,vb,vc]) H fun v H'=>v=.tup [.bool (Lin.keepB a (Lin.gensL d E I) (Lin.gensR d E I)),.int .i64 0]/\Kp H H':=by
 obtain ⟨o1,o2⟩:=ts (m:=m) d0 d6 hE hI
 have t1:=Lin.gens_told (d:=d) (fun a ha=>(hE a ha).1) (fun a ha=>(hI a ha).1)
 have lL:=ech_len t1.form
 have lR:=t1.dd.count
 have hp:2^I.length<=2^20:=Nat.pow_le_pow_right (by decide) lI
 have hp2:(2:Nat)^20=1048576:=by decide
 have la:lenV va=some (.int .i64 (d:Int)):=by rw [ha.lenV,hal]
 refine jP C.cone_Made (by decide) fun T hl g0 g1 g2=>?_
 refine zW (aT hl g0 g1 g2) ?_
 refine AnsH.eq (cone_asked C (f:=m+1) zF ((SlV.raw ha).mono (Kp.sub (H:=H) zK)) (hb.mono (Kp.sub (H:=H) zK)) (hc.mono (Kp.sub (H:=H) zK)) (by rw [List.length_map]; exact hal) d0 (by omega) (RowsB.of hE) (RowsB.of hI) lE (by omega) (by omega) (jH (by omega) fun z hz=>(hae z hz).sm (by omega))) fun H2 hk2=>?_
 rw [zm (by omega) (by omega)]
 obtain ⟨k2,_,w2⟩:=zT H zK hk2
 refine zW (da hl g0 g1 g2 la) ?_
 refine AnsH.use (cone_Gens C (d:=d) (m:=m) zF (hb.mono (Kp.sub (H:=H) zK)) (hc.mono (Kp.sub (H:=H) zK)) d0 d6 lE lI hE hI hm) ?_
 rintro v H3 ⟨p,q,rfl,hp3,hq3,hk3⟩
 obtain ⟨k3,_,w3⟩:=zT H zK hk3
 refine zW (aT hl g0 g1 g2) ?_
 refine AnsH.eq (cone_keeps C (f:=64*(m+4)+1) zF (ha.mono (Kp.sub (H:=H) zK)) (hp3.mono (Kp.sub (H:=H3) zK)) (hq3.mono (Kp.sub (H:=H3) zK)) hal (by omega) (RowsB.of o1) (RowsB.of o2) (by omega) (by omega) hae (by omega)) fun H4 hk4=>?_
 obtain ⟨k4,_,_⟩:=zT H zK hk4
 refine zW (aT hl g0 g1 g2) ?_
 exact zK
end
section
variable {tab:Nat->Option aq} {H:Heap} {s:AV}
theorem vec_Add_f1 (C:Code tab) (hw:Wf H) {i:Nat} {a:AV} {b:Nat} {x:Int} {l:List Int} (hi:i<l.length) (ha:IntV H a x) (hb:BoxR H b l) (hx:fz x) (hy:fz l[i]) :
  Ans tab (.fn jK [.int .i64 (i:Int),a,.ptr b 0]) H fun v H'=>IntV H' v (x+l[i])/\Kp H H':=by
 obtain ⟨p,rfl,hp⟩:=ha
 obtain ⟨q,hb,hq⟩:=hb
 have op:=hp.one
 have lb:=hw _ _ hb
 obtain ⟨w,hn,L,hix⟩:=jO hw hq hi
 have Lp:=L.put
 have Ll:=L.ld
 refine jP C.vec_Add_f1 (by decide) fun T hl g0 g1 g2=>?_
 refine zW (aT hl g0 g1 g2) ?_
 refine aR ?_
 refine zD (lW hl g0 g1 g2 hb hix Lp Ll) ?_
 refine AnsH.use (vec_sum C zF ⟨p,rfl,hp.mono (Kp.sub (H:=H) zK)⟩ ⟨w,rfl,hn.mono (Kp.sub (H:=H) zK)⟩ hx hy) ?_
 rintro v H2 ⟨⟨r,rfl,hr⟩,hk2⟩
 obtain ⟨k2,_,w2⟩:=zT H zK hk2
 have orr:=hr.one
 have d1:=hk2.get (b:=H.next+1) (e:=.cells [.bool false,.nilSl] aa true) (eA)
 have lt1:=w2 _ _ d1
 have m1:NoTy [ad] H2 (H.next+1):=NoTy.ty d1 (by decide)
 refine zD (nF hl g0 g1 g2 hb hix Lp Ll d1) ?_
 exact ⟨⟨r,rfl,SlV.monoT (E:=bz b7) zS hr⟩,zK⟩
theorem vec_Add (C:Code tab) (hw:Wf H) {a b:AV} {l m:List Int} (ha:RowV H a l) (hb:RowV H b m) (hlm:l.length=m.length) (h64:l.length<=64) (hl':∀ z∈l,fz z) (hm':∀ z∈m,fz z) :
  Ans tab (.fn ml [a,b]) H fun v H'=>∃ r,v=.tup [r,.int .i64 0]/\RowV H' r (Lin.mix 1 l 1 m)/\Kp H H':=by
 have oa:=ha.one
 have ob:=hb.one
 refine cD C.vec_Add (by decide) fun T hl g0 g1=>?_
 refine zW (aB hl g0 g1) ?_
 refine AnsH.eq (eC C (d:=l.length) zF (pS ha hb (Kp.sub (H:=H) zK) (by refine s9 ?_; rfl)) (by simp) (by simp) h64 fun r hr=>?_) fun H2 hk2=>?_
 ·simp at hr; rcases hr with rfl | rfl
  ·exact ⟨rfl,hl'⟩
  ·exact ⟨hlm.symm,hm'⟩
 obtain ⟨k2,_,w2⟩:=zT H zK hk2
 have b0:=hk2.get (b:=H.next) (e:=.cells [b] ae true) (eA)
 refine zW (aB hl g0 g1) ?_
 refine AnsH.use (vec_each C zF (ha.mono (Kp.sub (H:=H) zK)) (by omega) (fun i z=>z+m.getD i 0) fun i hi H' w hk hv=>?_) ?_
 ·have hi2:i<m.length:=by omega
  have e:m.getD i 0=m[i]:=by simp [hi2]
  show Ans tab _ H' fun v H2=>IntV H2 v (l[i]+m.getD i 0)/\Kp H' H2
  rw [e]
  exact vec_Add_f1 C hk.wf hi2 hv ⟨b,hk.get (b:=H.next) (zV @b0),hb.mono (Kp.sub (H:=H) (Kp.trans zK hk))⟩ (hl' _ (List.getElem_mem hi)) (hm' _ (List.getElem_mem hi2))
 ·rintro v H4 ⟨hr,hk4⟩
  obtain ⟨k4,_,_⟩:=zT H zK hk4
  rw [yO hlm (fun x y=>x+y)] at hr
  have e:List.zipWith (fun x y=>x+y) l m=Lin.mix 1 l 1 m:=by simp [Lin.mix]
  rw [e] at hr
  refine zW (aB hl g0 g1) ?_
  exact ⟨_,rfl,hr,zK⟩
end
theorem FN {i:Int} (h:0<=i/\i<256) {n:Nat} (hn:0<n):∃ k:Nat,k<n/\bP .rem .int (.int .i64 i) (.int .i64 (n:Int))=some (.int .i64 (k:Int)):=by
 obtain ⟨m,rfl⟩:∃ m:Nat,i=(m:Int):=⟨i.toNat,by omega⟩
 exact ⟨m % n,Nat.mod_lt _ hn,Ci hn⟩
theorem CP {i:Int} (h:0<=i/\i<256):IntKind.i64.wrap i=i:=by rw [wrap_i64 (by omega) (by omega)]
section
variable {tab:Nat->Option aq} {H:Heap} {s:AV}
end
section
variable {tab:Nat->Option aq} {H:Heap} {s:AV}
theorem rm (C:Code tab) (hw:Wf H) {a b:AV} {l m:List Nat} (ha:Lb H a l) (hb:Lb H b m) (hl':l.length<4611686018427387904) :
  Ans tab (.fn cm [a,b]) H fun v H'=>v=.bool (decide (l=m))/\Kp H H':=by
 refine cD C.slices_Equal_api_Nat_uint64 (by decide) fun T hl g0 g1=>?_
 by_cases he:l.length=m.length
 ·have lb:lenV b=some (.int .i64 (l.length:Int)):=by rw [hb.lenV,he]
  refine zW (da hl g0 g1 ha.lenV lb) ?_
  refine al H [] (fun j _ _=>∀ q (h:q<l.length) (h':q<m.length),q<j->l[q]=m[q]) (a:=0) (N:=l.length) rfl (by refine zW (aB hl g0 g1) ?_; rfl) (zV (aB hl g0 g1)) (Nat.zero_le _) (by omega) (by simp only [List.length_set,hl]; rfl) rfl (fun _ _ _ _ h=>h) zK (fun q _ _ h=>by omega) ?_ ?_
  ·intro i T1 H1 _ hi hl1 hi1 hs1 hk1 hP
   have w1:=hk1.wf
   have le_hk1:=hk1.le
   have t0:af T1 0=a:=(hs1.at_ 0 (by decide)).trans (zV (aw hl g0))
   have t1:af T1 1=b:=(hs1.at_ 1 (by decide)).trans (zV (aT hl g0 g1 g1))
   have hi':i<m.length:=by omega
   obtain ⟨w,hr,hld⟩:=SlV.at1 (ha.mono hk1.sub) (List.getElem?_eq_getElem hi)
   obtain ⟨w',hr',hld'⟩:=SlV.at1 (hb.mono hk1.sub) (List.getElem?_eq_getElem hi')
   have hr:w=.int .u64 ((l[i]:Nat):Int):=hr
   have hr':w'=.int .u64 ((m[i]:Nat):Int):=hr'
   subst hr; subst hr'
   have hix:=SlV.idx1 ha .i64 i hi
   have hix':=SlV.idx1 hb .i64 i hi'
   simp only [List.length_set,hl] at hl1
   refine zW (aT hl1 t0 t1 hi1) ?_
   refine aR ?_
   by_cases hq:l[i]=m[i]
   ·have hq':((l[i]:Nat):Int)=((m[i]:Nat):Int):=by omega
    refine zD (lW hl1 t0 t1 hix hld hix' hld' hq') ?_
    refine ⟨zK,fun q h h' hqi=>?_⟩
    by_cases eq:q=i
    ·subst eq; exact hq
    ·exact hP q h h' (by omega)
   ·have hq':¬ ((l[i]:Nat):Int)=((m[i]:Nat):Int):=by omega
    refine zD (nF hl1 t0 t1 hix hld hix' hld' hq' hq) ?_
    refine ⟨?_,zK⟩
    rw [decide_eq_false]
    intro e; subst e; exact hq rfl
  ·intro T1 H1 hl1 hs1 hk1 hP
   simp only [List.length_set,hl] at hl1
   refine zW hl1 ?_
   exact ⟨by rw [decide_eq_true (my he fun q h h'=>hP q h h' h)],zK⟩
 ·have he':¬ (l.length:Int)=(m.length:Int):=by omega
  refine zW (kT hl g0 g1 ha.lenV hb.lenV he' he) ?_
  refine ⟨?_,zK⟩
  rw [decide_eq_false]
  intro e; subst e; exact he rfl
theorem whole_Same (C:Code tab) (hw:Wf H) {a b:AV} {x y:Int} (ha:IntV H a x) (hb:IntV H b y) (hx:fz x) :
  Ans tab (.fn fJ [a,b]) H fun v H'=>v=.bool (decide (x=y))/\Kp H H':=by
 obtain ⟨p,rfl,hp⟩:=ha
 obtain ⟨q,rfl,hq⟩:=hb
 have op:=hp.one
 have oq:=hq.one
 unfold fz Sm at hx
 refine cD C.whole_Same (by decide) fun T hl g0 g1=>?_
 by_cases h:decide (x<0)=decide (y<0)
 ·have h':(decide (x<0) == decide (y<0))=true:=by rw [h]; simp
  refine zW (aT hl g0 g1 h') ?_
  refine AnsH.eq (rm C zF (hp.mono (Kp.sub (H:=H) zK)) (hq.mono (Kp.sub (H:=H) zK)) (by omega)) fun H2 hk2=>?_
  obtain ⟨k2,_,_⟩:=zT H zK hk2
  refine zW (aB hl g0 g1) ?_
  refine ⟨?_,zK⟩
  by_cases e:x=y
  ·rw [decide_eq_true e,decide_eq_true (by rw [e])]
  ·rw [decide_eq_false e,decide_eq_false]
   intro h2
   have:=wR h2
   have h3:(x<0) ↔ (y<0):=by simpa using h
   omega
 ·have h':(decide (x<0) == decide (y<0))=false:=by simpa using h
  refine zW (aT hl g0 g1 h') ?_
  refine ⟨?_,zK⟩
  rw [decide_eq_false]
  intro e; subst e; exact h rfl
theorem vec_Same (C:Code tab) (hw:Wf H) {a b:AV} {l m:List Int} (ha:RowV H a l) (hb:RowV H b m) (hbig:l.length<1099511627776) (hz:∀ z∈l,fz z) :
  Ans tab (.fn mN [a,b]) H fun v H'=>v=.bool (decide (l=m))/\Kp H H':=by
 have key:∀ {H:Heap},Wf H->RowV H a l->RowV H b m->Ans tab (.fn aF [a,b,.fn (.func fJ) [] []]) H fun v H'=>v=.bool (decide (l=m))/\Kp H H':=by
  intro H hw ha hb
  refine jP C.slices_EqualFunc_api_Vec_api_Vec_api_Int_api_Int (by decide) fun T hl g0 g1 g2=>?_
  by_cases he:l.length=m.length
  ·have lb:lenV b=some (.int .i64 (l.length:Int)):=by rw [hb.lenV,he]
   refine zW (iq hl g0 g1 g2 ha.lenV lb) ?_
   refine al H [] (fun j _ _=>∀ q (h:q<l.length) (h':q<m.length),q<j->l[q]=m[q]) (a:=0) (N:=l.length) rfl (by refine zW (aT hl g0 g1 g2) ?_; rfl) (zV (aT hl g0 g1 g2)) (Nat.zero_le _) (by omega) (by simp only [List.length_set,hl]; rfl) rfl (fun _ _ _ _ h=>h) zK (fun q _ _ h=>by omega) ?_ ?_
   ·intro j T1 H1 _ hj hl1 hi1 hs1 hk1 hP
    have w1:=hk1.wf
    have le_hk1:=hk1.le
    have hj2:j<m.length:=by omega
    have t15:af T1 15=a:=(hs1.at_ 15 (by decide)).trans (zV (aw hl g0))
    have t1:af T1 1=b:=(hs1.at_ 1 (by decide)).trans (zV (da hl g0 g1 g2 g1))
    have t2:af T1 2=.fn (.func fJ) [] []:=(hs1.at_ 2 (by decide)).trans (zV (da hl g0 g1 g2 g2))
    obtain ⟨w,hn,L0,hix⟩:=jO w1 (ha.mono hk1.sub) hj
    obtain ⟨u,hu,L,hiy⟩:=jO w1 (hb.mono hk1.sub) hj2
    have ow:=hn.one
    have ou:=hu.one
    have Lp0:=L0.put
    have Ll0:=L0.ld
    have Lp:=L.put
    have Ll:=L.ld
    simp only [List.length_set,hl] at hl1
    refine zW (rh hl1 t15 t1 t2 hi1 hix Lp0 Ll0 hiy Lp Ll) ?_
    refine AnsH.eq (whole_Same C (x:=l[j]) (y:=m[j]) zF ⟨w,rfl,hn.mono (Kp.sub (H:=H1) zK)⟩ ⟨u,rfl,hu.mono (Kp.sub (H:=H1) zK)⟩ (hz _ (List.getElem_mem hj))) fun H2 hk2=>?_
    obtain ⟨k2,_,_⟩:=zT H zK hk2
    cases hq:decide (l[j]=m[j]) with
    | true =>
     have hq:=of_decide_eq_true hq
     refine zW hl1 ?_
     refine ⟨zK,fun q h h' hqi=>?_⟩
     by_cases e:q=j
     ·subst e; exact hq
     ·exact hP q h h' (by omega)
    | false =>
     have hq:=of_decide_eq_false hq
     refine zW hl1 ?_
     refine ⟨?_,zK⟩
     rw [decide_eq_false]
     intro e; subst e; exact hq rfl
   ·intro T1 H1 hl1 hs1 hk1 hP
    simp only [List.length_set,hl] at hl1
    refine zW hl1 ?_
    exact ⟨by rw [decide_eq_true (my he fun q h h'=>hP q h h' h)],zK⟩
  ·have he':¬ (l.length:Int)=(m.length:Int):=by omega
   refine zW (lW hl g0 g1 g2 ha.lenV hb.lenV he' he) ?_
   refine ⟨?_,zK⟩
   rw [decide_eq_false]
   intro e; subst e; exact he rfl
 refine cD C.vec_Same (by decide) fun T hl g0 g1=>?_
 refine zW (aB hl g0 g1) ?_
 refine AnsH.eq (key zF (ha.mono (Kp.sub (H:=H) zK)) (hb.mono (Kp.sub (H:=H) zK))) fun H2 hk2=>?_
 obtain ⟨k2,_,_⟩:=zT H zK hk2
 refine zW (aB hl g0 g1) ?_
 exact zK
theorem vec_Zero_f1 (C:Code tab) (hw:Wf H) {cs:List AV} {z:Int} (hz:intE.R H cs z) :
  Ans tab (.fn iY [.agg cs]) H fun v H'=>v=.bool (!decide (z=0))/\Kp H H':=by
 obtain ⟨w,rfl,hn⟩:=hz
 have ow:=hn.one
 refine d9 C.vec_Zero_f1 (by decide) fun T hl g0=>?_
 cases h:decide (z<0) with
 | true =>
  have h1:=of_decide_eq_true h
  refine zW (aB hl g0 h) ?_
  exact ⟨by rw [decide_eq_false (by omega)]; rfl,zK⟩
 | false =>
  refine zW (aT hl g0 h hn.lenV) ?_
  refine ⟨?_,zK⟩
  by_cases hz:z=0
  ·subst hz; simp [cw]
  ·have:0<(ag z.natAbs).length:=by
    rcases Nat.eq_zero_or_pos (ag z.natAbs).length with e | e
    ·have:=limbs_nil.1 (List.eq_nil_of_length_eq_zero e)
     omega
    ·exact e
   rw [decide_eq_true this,decide_eq_false hz]; rfl
theorem vec_Zero (C:Code tab) (hw:Wf H) {l:List Int} (hs:RowV H s l) (hbig:l.length<4611686018427387904) :
  Ans tab (.fn mM [s]) H fun v H'=>v=.bool (!l.any fun z=>!decide (z=0))/\Kp H H':=by
 refine d9 C.vec_Zero (by decide) fun T hl g0=>?_
 refine zW (aw hl g0) ?_
 refine AnsH.eq (mF C zF rfl (hs.mono (Kp.sub (H:=H) zK)) hbig (fun z=>!decide (z=0)) fun a ha H' cs hk hr=>vec_Zero_f1 C hk.wf hr) fun H2 hk2=>?_
 obtain ⟨k2,_,_⟩:=zT H zK hk2
 refine zW (aw hl g0) ?_
 exact zK
end
section
variable {tab:Nat->Option aq} {H:Heap} {s:AV}
end
theorem Hk {ty ty2 id idz:Nat} {H:Heap} {w:AV} (hz:H.get idz=some (.cells [] ty true)) (hy:tk (nD intE aa) ty2 H w []) :
  eP H id 1 24 ty (.own idz 0 0 0 1 true) w=some (.own idz 0 0 0 1 true,H):=by
 obtain ⟨news,hr,hty2,hc⟩:=hy
 obtain ⟨m,hm,hlen⟩:=hr.length
 obtain ⟨-,-,m',hm',hf⟩:=hr
 rw [hm] at hm'; cases hm'
 have h0:news.length=0:=by have:=hc.1; simpa using this
 have e1:(bz (nD intE aa)).sz=1:=rfl
 have hml:m=0:=by rw [e1] at hlen; omega
 subst hml
 have hn:news=[]:=List.eq_nil_of_length_eq_zero h0
 subst hn
 unfold eP
 rw [hm]
 simp only
 rw [e1] at hf
 rw [hf]
 simp only [cB,hz]
 simp
theorem EQ {ty ty2 id idz:Nat} {H:Heap} {w:AV} {L:List (List Int)} (hz:H.get idz=some (.cells [] ty true)) (hy:tk (nD intE aa) ty2 H w L) (h0:0<L.length) (hl:L.length<=1000) :
  ∃ news,eP H id 1 24 ty (.own idz 0 0 0 1 true) w=some (.own id 0 L.length L.length 1 false,H.put id (.cells news ty true))/\Cells rowsE H news L:=by
 obtain ⟨news,hr,hty2,hc⟩:=hy
 obtain ⟨m,hm,hlen⟩:=hr.length
 obtain ⟨-,-,m',hm',hf⟩:=hr
 rw [hm] at hm'; cases hm'
 have e1:(bz (nD intE aa)).sz=1:=rfl
 have h1:news.length=L.length:=by have:=hc.1; rw [e1] at this; omega
 have hml:m=L.length:=by rw [e1] at hlen; omega
 subst hml
 refine ⟨news,?_,hc⟩
 unfold eP
 rw [hm]
 simp only
 rw [e1] at hf
 rw [hf]
 simp only [cB,hz]
 have hne:¬ L.length=0:=by omega
 simp [hne]
 omega
theorem Mw {H0 H:Heap} {p q:AV} {L R:List (List Int)} {idz id1 id2:Nat} (hk:Kp H0 H) (hp:aZ H p L) (hq:aZ H q R) (z1:H0.next<=idz) (z2:idz<H.next) (z3:H.get idz=none) (a1:H0.next<=id1) (a2:id1<H.next) (a3:H.get id1=none) (b1:H0.next<=id2) (b2:id2<H.next) (b3:H.get id2=none)
  (n1:idz≠id1) (n2:idz≠id2) (n3:id1≠id2) (lL:L.length<=1000) (lR:R.length<=1000) :
  ∃ v1 G1 v2 G2,eP (H.put idz (.cells [] ae true)) id1 1 24 ae (.own idz 0 0 0 1 true) p=some (v1,G1)/\eP G1 id2 1 24 ae v1 q=some (v2,G2)/\aZ G2 v2 (L++R)/\Kp H0 G2/\G2.next=H.next:=by
 obtain ⟨H1,hH1⟩:∃ H1,H1=H.put idz (.cells [] ae true):=⟨_,rfl⟩
 have s1:Sub H H1:=by rw [hH1]; exact bB z3
 have k1:Kp H0 H1:=by rw [hH1]; exact hk.put z1 z2
 have le_k1:=k1.le
 have nx1:H1.next=H.next:=by rw [hH1]; rfl
 have gz:H1.get idz=some (.cells [] ae true):=by rw [hH1]; exact aG _ _ _
 have hz:SlV rowsE ae H1 (.own idz 0 ([]:List (List Int)).length ([]:List (List Int)).length rowsE.sz true) []:=by
  have:Own rowsE ae H0 H1 idz true (.own idz 0 0 0 1 true) []:=⟨[],rfl,gz,Cells.nil _ _,z1⟩
  exact this.sl
 have f1:H1.get id1=none:=by rw [hH1,au (Ne.symm n1)]; exact a3
 have f2:H1.get id2=none:=by rw [hH1,au (Ne.symm n2)]; exact b3
 rw [<- hH1]
 by_cases hL:L=[]
 ·subst hL
  have e1:=Hk (id:=id1) gz (hp.mono s1)
  obtain ⟨v2,G2,e2,h2,k2,nx2,-,-⟩:=SlV.app (bytes:=24) (id:=id2) hz k1 (hq.mono s1) b1 (by omega) f2 (by simp; omega) (by simp; omega)
  exact ⟨_,_,v2,G2,e1,e2,h2,k2,by omega⟩
 ·have hpos:0<L.length:=List.length_pos_iff.2 hL
  obtain ⟨news,e1,hc⟩:=EQ (id:=id1) gz (hp.mono s1) hpos lL
  obtain ⟨G1,hG1⟩:∃ G1,G1=H1.put id1 (.cells news ae true):=⟨_,rfl⟩
  rw [<- hG1] at e1
  have sg:Sub H1 G1:=by rw [hG1]; exact bB f1
  have k1':Kp H0 G1:=by rw [hG1]; exact k1.put a1 (by omega)
  have nxg:G1.next=H1.next:=by rw [hG1]; rfl
  have hg:G1.get id1=some (.cells news ae true):=by rw [hG1]; exact aG _ _ _
  have hbl:Bl rowsE ae H0 G1 (.own id1 0 L.length L.length 1 false) L:=.inr ⟨id1,news,rfl,hg,Cells.mono (E:=rowsE) (sg.t _) hc,a1⟩
  have f2':G1.get id2=none:=by rw [hG1,au (Ne.symm n3)]; exact f2
  obtain ⟨v2,G2,e2,b2',k2,nx2,-,-⟩:=Bl.app (E:=rowsE) (ty2:=ae) (bytes:=24) (id:=id2) hbl (by decide) k1' (hq.mono (s1.trans sg)) b1 (by omega) f2' (fun b n hv' off m c z x hw=>by
   cases hv'
   obtain ⟨cells',-,ht,-⟩:=hq
   obtain ⟨cs,r,hg'⟩:=ht _ _ _ _ _ _ hw
   rw [a3] at hg'; cases hg') (by omega) (by omega)
  exact ⟨_,G1,v2,G2,e1,e2,b2'.sl,k2,by omega⟩
section
variable {tab:Nat->Option aq} {H:Heap} {s:AV}
theorem Kd {z:Bool × List Nat} {n:Nat} (hl:Lim z.2) (hn:z.2.length<=n):Bt (64*n) (fS z):=by
 have h1:=pO hl
 have h2:B^z.2.length<=B^n:=Nat.pow_le_pow_right (by decide) hn
 have h3:B^n=2^(64*n):=by
  have:B=2^64:=by decide
  rw [this,<- Nat.pow_mul]
 unfold Bt fS
 split
 ·rw [Int.natAbs_neg,Int.natAbs_natCast]; omega
 ·rw [Int.natAbs_natCast]; omega
theorem Gc {va:AV} {a:List (Bool × List Nat)} {n:Nat} (ha:Jt H va a) (ga:eZ a) (h64:a.length<=64) (hn:∀ z∈a,z.2.length<=n) (hn2:n<=1048576) :
  (tj a/\aN [a]≠0)\/∃ l:List Int,RowV H va l/\l.length=a.length/\∀ z∈l,Bt (64*n) z:=by
 by_cases hc:aN [a]=0
 ·obtain ⟨h1,-,-⟩:=iU hc a (List.mem_singleton.2 rfl)
  refine .inr ⟨a.map fS,SlV.int ha fun z hz=>⟨h1 z hz,(ga.1 z hz).1⟩,by rw [List.length_map],fun z hz=>?_⟩
  obtain ⟨x,hx,rfl⟩:=List.mem_map.1 hz
  exact Kd (ga.1 x hx).1 (hn x hx)
 ·refine .inl ⟨⟨?_,fun z hz=>?_⟩,hc⟩
  ·omega
  ·have:=hn z hz
   omega
theorem KH {m:Nat} {x y:List Int} (hxy:x.length=y.length) (h:Lin.Bd (2^m) x) (h2:Lin.Bd (2^m) y):∀ z∈Lin.mix 1 x 1 y,Bt (m+2) z:=by
 have e:2^(m+1)=2^m+2^m:=by rw [Nat.pow_succ]; omega
 exact kM (m:=m+1) (by rw [e]; exact Lin.mix1_bd hxy h h2)
set_option maxHeartbeats 20000000 in
theorem law20_ConeKeeps (C:Code tab) (hw:Wf H) {va vb vc:AV} {d i k:Int} {A B:List (List (Bool × List Nat))} {a:List (Bool × List Nat)} (ha:gQ H va A) (hb:gQ H vb B) (hc:Jt H vc a) (gA:∀ r∈A,eZ r) (gB:∀ r∈B,eZ r) (ga:eZ a) (na:∀ z∈a,z.2.length<=1048576) (_ : -9223372036854775808<=d/\d<9223372036854775808) (hi:0<=i/\i<256) (hk:0<=k/\k<256) :
  Ans tab (.fn dw [.int .i64 d,va,vb,vc,.int .u8 i,.int .u8 k]) H fun v H'=>v=.bool true/\Kp H H':=by
 refine AA C.facetroomlaw20_ConeKeeps rfl rfl (by decide) fun T hl g=>?_
 have hl:T.length=197:=hl
 have hrs:c_facetroomlaw20_ConeKeeps.results=[(12,none)]:=rfl
 have g0:af T 0=.int .i64 d:=g 0 (by simp)
 have g1:af T 1=va:=g 1 (by simp)
 have g2:af T 2=vb:=g 2 (by simp)
 have g3:af T 3=vc:=g 3 (by simp)
 have g4:af T 4=.int .u8 i:=g 4 (by simp)
 have g5:af T 5=.int .u8 k:=g 5 (by simp)
 refine cd ?_
 refine zW (aw hl @aQ) ?_
 refine cd ?_
 refine zW hl ?_
 refine AnsH.eq (zJ C zF) fun H2 hk2=>?_
 obtain ⟨k2,_,w2⟩:=zT H zK hk2
 refine zW (aw hl @aQ) ?_
 refine cd ?_
 refine zW (aT hl g0 g1 g2) ?_
 refine AnsH.eq (zI C zF (ha.mono (Kp.sub (H:=H) zK)) (hb.mono (Kp.sub (H:=H) zK))) fun H3 hk3=>?_
 obtain ⟨k3,_,w3⟩:=zT H zK hk3
 cases hg:cG 4 5 1 A || cG 7 5 1 B || decide (5<d) with
 | true =>
  refine zW (aB hl @l7 hrs) ?_
  exact zK
 | false =>
 simp only [Bool.or_eq_false_iff,decide_eq_false_iff_not] at hg
 obtain ⟨⟨q1,q2⟩,q3⟩:=hg
 refine zW (aw hl @aQ) ?_
 refine cd ?_
 refine zW (aT hl g0 g1 g2) ?_
 rcases Eh C ha hb gA gB q1 q2 q3 with hbad | ⟨dd,E,I,rfl,d0,d5,hE,hI,gE,gI⟩
 ·refine AnsH.use (hbad _ zF (Kp.sub (H:=H) zK)) ?_
  rintro v H4 ⟨e,he,rfl,hk4⟩
  obtain ⟨k4,_,w4⟩:=zT H zK hk4
  refine zW (aw hl @aQ) ?_
  refine cd ?_
  refine zW (aT hl he @l7 hrs) ?_
  exact zK
 refine AnsH.use (cone_Gens C (d:=dd) (m:=64) zF (hE.mono (Kp.sub (H:=H) zK)) (hI.mono (Kp.sub (H:=H) zK)) d0 (by omega) (by have:=gE.len; omega) (by have:=gI.len; omega) gE.row gI.row (by omega)) ?_
 rintro v H4 ⟨p,q,rfl,hp,hq,hk4⟩
 obtain ⟨k4,_,w4⟩:=zT H zK hk4
 have lE:=gE.len
 have lI:=gI.len
 have e1:∀ a∈E,a.length=dd:=fun a ha=>(gE.row a ha).1
 have e2:∀ a∈I,a.length=dd:=fun a ha=>(gI.row a ha).1
 obtain ⟨o1,o2⟩:=ts (m:=64) d0 (by omega) gE.row gI.row
 have t1:=Lin.gens_told (d:=dd) e1 e2
 have lL:=ech_len t1.form
 have keepL:=fun {l:List Int}=>Lin.line_keeps (l:=l) e1 e2
 have keepR:=fun {r:List Int}=>Lin.ray_keeps (r:=r) e1 e2
 have made:=fun {a:List Int}=>Lin.keeps_made (a:=a) e1 e2
 obtain ⟨L,hL⟩:∃ L,L=Lin.gensL dd E I:=⟨_,rfl⟩
 obtain ⟨R,hR⟩:∃ R,R=Lin.gensR dd E I:=⟨_,rfl⟩
 rw [<- hL] at hp o1 lL keepL made t1
 rw [<- hR] at hq o2 keepR made t1
 have bE:RowsB dd 65 E:=RowsB.of gE.row
 have bI:RowsB dd 65 I:=RowsB.of gI.row
 have bL:=RowsB.of o1
 have bR:=RowsB.of o2
 have keepA:∀ r∈L++R,Lin.keepB r E I=true:=fun r hr=>by
  rcases List.mem_append.1 hr with hr | hr
  ·exact (keepL hr).1
  ·exact keepR hr
 have oA:∀ r∈L++R,r.length=dd/\Lin.Bd (2^(64*(64+4))) r:=fun r hr=>by
  rcases List.mem_append.1 hr with hr | hr
  ·exact o1 r hr
  ·exact o2 r hr
 have bA:=RowsB.of oA
 have hse:=hE.mono k4.sub
 have hsi:=hI.mono k4.sub
 refine zW (aw hl @aQ) ?_
 refine cd ?_
 by_cases h20:(20:Int)<(R.length:Int)
 ·refine zW (da hl hq.lenV h20 @l7 hrs) ?_
  exact zK
 have l20:R.length<=20:=by omega
 refine zW (aT hl hq.lenV h20 @aQ) ?_
 refine cd ?_
 obtain ⟨v1,G1,o5,H5,f1,f2,hall,k5,nx5⟩:=Mw (H0:=H4) (H:=H4.up 13) (L:=L) (R:=R) (idz:=H4.next+7) (id1:=H4.next+9) (id2:=H4.next+11) zK (hp.mono (Sub.bump H4 13)) (hq.mono (Sub.bump H4 13)) (by omega) (by rw [fG]; omega) (w4.fresh (by omega)) (by omega) (by rw [fG]; omega) (w4.fresh (by omega)) (by omega) (by rw [fG]; omega) (w4.fresh (by omega)) (by omega) (by omega) (by omega) (by omega) (by omega)
 have ef:dj ([]:List AV) []=some []:=rfl
 refine zW (da hl ef f1 f2 @aQ) ?_
 have w5:=k5.wf
 obtain ⟨S,hS⟩:∃ S,S=L++R:=⟨_,rfl⟩
 rw [<- hS] at hall keepA oA bA
 have lS:S.length<=1000:=by rw [hS,List.length_append]; omega
 refine fd (fun T' H'=>Kp H5 H') rfl ?_ ?_
 ·refine zW hl ?_
  refine bK H5 [18] (fun k vs H'=>∃ i:Nat,vs=[.int .i64 (i:Int)]/\i+k=S.length) S.length (by simp only [List.length_set]; exact hl) rfl zK ⟨0,by refine zW hl ?_; rfl,by omega⟩ ?_
  rintro k T1 H1 hl1 hs1 hk1 ⟨j,hv,hjk⟩
  have w1:=hk1.wf
  have le_hk1:=hk1.le
  simp only [List.map_cons,List.map_nil,List.cons.injEq,and_true] at hv
  have t1':af T1 1=va:=(hs1.at_ 1 (by decide)).trans (zV (aw hl g1))
  have t2':af T1 2=vb:=(hs1.at_ 2 (by decide)).trans (zV (aw hl g2))
  have t17:af T1 17=o5:=(hs1.at_ 17 (by decide)).trans (zV hl)
  by_cases hj:j<S.length
  ·have hjj:(j:Int)<(S.length:Int):=by omega
   have hm:=List.getElem_mem hj
   obtain ⟨w,hr,hld⟩:=cJ (hall.mono hk1.sub) hj
   have hix:=SlV.idx1 hall .i64 j hj
   have ej:IntKind.i64.wrap ((j:Int)+1)=((j+1:Nat):Int):=by rw [wrap_i64] <;> omega
   refine zW (pM hl1 hv t1' t2' t17 hall.lenV hjj hj hix hld) ?_
   refine AnsH.eq (cone_Keeps C (d:=dd) (e:=64*(64+4)+1) (f:=65) (H:=H1.up _) zF (hr.mono (Kp.sub (H:=H1) zK)) ((hse.mono (k5.sub.trans hk1.sub)).mono (Kp.sub (H:=H1) zK)) ((hsi.mono (k5.sub.trans hk1.sub)).mono (Kp.sub (H:=H1) zK)) (oA _ hm).1 d0 (by omega) bE bI (by omega) (by omega) (bA.bt _ hm) (by omega)) fun H6 hk6=>?_
   rw [keepA _ hm]
   obtain ⟨k6,_,_⟩:=zT H1 zK hk6
   have k56:Kp H5 H6:=hk1.trans k6
   have le_k56:=k56.le
   have w6:=k56.wf
   refine zW (aB hl1 hv ej) ?_
   exact ⟨zK,k-1,by omega,j+1,rfl,by omega⟩
  ·have hjj:¬ (j:Int)<(S.length:Int):=by omega
   refine zW (kT hl1 hv t17 hall.lenV hjj hj @bg) ?_
   exact zK
 rintro T6 H6 hs6 k6
 have w6:=k6.wf
 have hl6:T6.length=197:=hs6.len.trans (by simp only [List.length_set]; exact hl)
 have a0:af T6 0=.int .i64 (dd:Int):=(hs6.at_ 0 (by decide)).trans (zV (aw hl g0))
 have a1:af T6 1=va:=(hs6.at_ 1 (by decide)).trans (zV (aw hl g1))
 have a2:af T6 2=vb:=(hs6.at_ 2 (by decide)).trans (zV (aw hl g2))
 have a3:af T6 3=vc:=(hs6.at_ 3 (by decide)).trans (zV (aw hl g3))
 have a4:af T6 4=.int .u8 i:=(hs6.at_ 4 (by decide)).trans (zV (aw hl g4))
 have a5:af T6 5=.int .u8 k:=(hs6.at_ 5 (by decide)).trans (zV (aw hl g5))
 have a14:af T6 14=p:=(hs6.at_ 14 (by decide)).trans (zV hl)
 have a15:af T6 15=q:=(hs6.at_ 15 (by decide)).trans (zV hl)
 have a17:af T6 17=o5:=(hs6.at_ 17 (by decide)).trans (zV hl)
 have k46:Kp H4 H6:=k5.trans k6
 have le_k46:=k46.le
 have mu1:MuI (-1):=(show Bt 1 (-1) by unfold Bt; decide).len (by omega)
 refine fd (fun T' H'=>Kp H6 H') rfl ?_ ?_
 ·refine zW hl6 ?_
  refine bK H6 [21] (fun k vs H'=>∃ i:Nat,vs=[.int .i64 (i:Int)]/\i+k=L.length) L.length (by simp only [List.length_set]; exact hl6) rfl zK ⟨0,by refine zW hl6 ?_; rfl,by omega⟩ ?_
  rintro k T1 H1 hl1 hs1 hk1 ⟨j,hv,hjk⟩
  have w1:=hk1.wf
  have le_hk1:=hk1.le
  simp only [List.map_cons,List.map_nil,List.cons.injEq,and_true] at hv
  have t1':af T1 1=va:=(hs1.at_ 1 (by decide)).trans (zV (aw hl6 @a1))
  have t2':af T1 2=vb:=(hs1.at_ 2 (by decide)).trans (zV (aw hl6 @a2))
  have t14:af T1 14=p:=(hs1.at_ 14 (by decide)).trans (zV (aw hl6 a14))
  by_cases hj:j<L.length
  ·have hjj:(j:Int)<(L.length:Int):=by omega
   have hm:=List.getElem_mem hj
   have k41:=k46.trans hk1
   obtain ⟨w,hr,hld⟩:=cJ (hp.mono k41.sub) hj
   have hix:=SlV.idx1 hp .i64 j hj
   have ej:IntKind.i64.wrap ((j:Int)+1)=((j+1:Nat):Int):=by rw [wrap_i64] <;> omega
   refine zW (iq hl1 hv t14 hp.lenV hjj hj) ?_
   refine aR ?_
   refine zD (da hl1 hv t14 hix hld) ?_
   refine AnsH.use (whole_Of C (n:=-1) zF (by omega) (by omega)) ?_
   rintro v7 H7 ⟨hn7,hk7⟩
   obtain ⟨k17,_,w7⟩:=zT H1 zK hk7
   have hld7:=dq k17.sub hld
   refine zD (iq hl1 hv t14 hix hld hld7) ?_
   refine AnsH.use (vec_Scale C (y:=-1) zF ((hr.mono k17.sub).mono (Kp.sub (H:=H7) zK)) (hn7.mono (Kp.sub (H:=H7) zK)) (by rw [(o1 _ hm).1]; omega) (fun z hz=>(bL.bt _ hm z hz).len (by omega)) mu1) ?_
   rintro v8 H8 ⟨r,rfl,hr8,hk8⟩
   obtain ⟨k78,_,_⟩:=zT H7 zK hk8
   have k18:Kp H1 H8:=k17.trans k78
   have le_k18:=k18.le
   have k48:Kp H4 H8:=k41.trans k18
   have le_k48:=k48.le
   have w8:=k48.wf
   refine zD (lW hl1 hv t14 t1' t2' hix hld hld7) ?_
   refine AnsH.eq (cone_Keeps C (a:=Lin.scl (-1) L[j]) (d:=dd) (e:=64*(64+4)+1) (f:=65) zF (hr8.mono (Kp.sub (H:=H8) zK)) ((hse.mono k48.sub).mono (Kp.sub (H:=H8) zK)) ((hsi.mono k48.sub).mono (Kp.sub (H:=H8) zK)) (Lin.scl_length (o1 _ hm).1) d0 (by omega) bE bI (by omega) (by omega) (kM (Lin.scl_bd (o1 _ hm).2)) (by omega)) fun H9 hk9=>?_
   rw [(keepL hm).2]
   obtain ⟨k89,_,_⟩:=zT H8 zK hk9
   have k69:Kp H6 H9:=(hk1.trans k18).trans k89
   have le_k69:=k69.le
   have w9:=k69.wf
   refine zD (aB hl1 hv ej) ?_
   exact ⟨zK,k-1,by omega,j+1,rfl,by omega⟩
  ·have hjj:¬ (j:Int)<(L.length:Int):=by omega
   refine zW (kT hl1 hv t14 hp.lenV hjj hj @bg) ?_
   exact zK
 rintro T7 H7 hs7 k7
 have w7:=k7.wf
 have hl7:T7.length=197:=hs7.len.trans hl6
 have b0:af T7 0=.int .i64 (dd:Int):=(hs7.at_ 0 (by decide)).trans a0
 have b1:af T7 1=va:=(hs7.at_ 1 (by decide)).trans a1
 have b2:af T7 2=vb:=(hs7.at_ 2 (by decide)).trans a2
 have b3:af T7 3=vc:=(hs7.at_ 3 (by decide)).trans a3
 have b4:af T7 4=.int .u8 i:=(hs7.at_ 4 (by decide)).trans a4
 have b5:af T7 5=.int .u8 k:=(hs7.at_ 5 (by decide)).trans a5
 have b14:af T7 14=p:=(hs7.at_ 14 (by decide)).trans a14
 have b15:af T7 15=q:=(hs7.at_ 15 (by decide)).trans a15
 have b17:af T7 17=o5:=(hs7.at_ 17 (by decide)).trans a17
 have k57:Kp H5 H7:=k6.trans k7
 have le_k57:=k57.le
 have k47:Kp H4 H7:=k5.trans k57
 have le_k47:=k47.le
 refine fd (fun T' H'=>Kp H7 H') rfl ?_ ?_
 ·refine zW (aB hl7 b17 hall.lenV) ?_
  refine iteH.split (fun hpos=>?_) fun hpos=>?_
  ·have hpos':0<S.length:=by omega
   obtain ⟨x,hx,rx⟩:=FN hi hpos'
   obtain ⟨y,hy,ry⟩:=FN hk hpos'
   obtain ⟨wx,hrx,hldx⟩:=cJ (hall.mono k57.sub) hx
   obtain ⟨wy,hry,hldy⟩:=cJ (hall.mono k57.sub) hy
   have hix:=SlV.idx1 hall .i64 x hx
   have hiy:=SlV.idx1 hall .i64 y hy
   have c1:=CP hi
   have c2:=CP hk
   have hmx:=List.getElem_mem hx
   have hmy:=List.getElem_mem hy
   have lxy:S[x].length=S[y].length:=(oA _ hmx).1.trans (oA _ hmy).1.symm
   have sx:∀ r∈S,∀ z∈r,fz z:=fun r hr z hz=>(bA.bt r hr z hz).sm (by omega)
   refine zW hl7 ?_
   refine aR ?_
   refine zD (Fc hl7 @b4 b5 b17 hall.lenV @c1 @c2 rx ry hix hiy hldx hldy) ?_
   refine AnsH.use (vec_Add C zF (hrx.mono (Kp.sub (H:=H7) zK)) (hry.mono (Kp.sub (H:=H7) zK)) lxy (by rw [(oA _ hmx).1]; omega) (sx _ hmx) (sx _ hmy)) ?_
   rintro v H8 ⟨r,rfl,hr8,hk8⟩
   obtain ⟨k78,_,_⟩:=zT H7 zK hk8
   have k48:Kp H4 H8:=k47.trans k78
   have le_k48:=k48.le
   have w8:=k48.wf
   have lr:(Lin.mix 1 S[x] 1 S[y]).length=dd:=Lin.mix_length (oA _ hmx).1 (oA _ hmy).1
   have br:∀ z∈Lin.mix 1 S[x] 1 S[y],Bt (64*(64+4)+2) z:=KH lxy (oA _ hmx).2 (oA _ hmy).2
   have hkeep:=Lin.keepB_add lxy (keepA _ hmx) (keepA _ hmy)
   refine zD (HJ hl7 @b4 b5 b17 hall.lenV @c1 @c2 rx ry hix hiy hldx hldy b1 b2) ?_
   refine AnsH.eq (cone_Keeps C (a:=Lin.mix 1 S[x] 1 S[y]) (d:=dd) (e:=64*(64+4)+2) (f:=65) zF (hr8.mono (Kp.sub (H:=H8) zK)) ((hse.mono k48.sub).mono (Kp.sub (H:=H8) zK)) ((hsi.mono k48.sub).mono (Kp.sub (H:=H8) zK)) lr d0 (by omega) bE bI (by omega) (by omega) br (by omega)) fun H9 hk9=>?_
   rw [hkeep]
   obtain ⟨k89,_,_⟩:=zT H8 zK hk9
   have k49:Kp H4 H9:=k48.trans k89
   have le_k49:=k49.le
   have k79:Kp H7 H9:=k78.trans k89
   have le_k79:=k79.le
   have w9:=k49.wf
   refine zD (aB hl7 b14 b15) ?_
   refine AnsH.eq (cone_Made C (a:=Lin.mix 1 S[x] 1 S[y]) (d:=dd) (m:=64*(64+4)) (e:=64*(64+4)+2) zF ((hr8.mono k89.sub).mono (Kp.sub (H:=H9) zK)) ((hp.mono k49.sub).mono (Kp.sub (H:=H9) zK)) ((hq.mono k49.sub).mono (Kp.sub (H:=H9) zK)) lr d0 (by omega) o1 o2 (by omega) l20 (by omega) br (by omega)) fun H10 hk10=>?_
   rw [made lr,hkeep]
   obtain ⟨k910,_,_⟩:=zT H9 zK hk10
   have k710:Kp H7 H10:=k79.trans k910
   have le_k710:=k710.le
   have w10:=k710.wf
   refine zD (aw hl7 @bg) ?_
   exact zK
  ·refine zW (aw hl7 @bg) ?_
   exact zK
 rintro T8 H8 hs8 k8
 have w8:=k8.wf
 have hl8:T8.length=197:=hs8.len.trans hl7
 have c0:af T8 0=.int .i64 (dd:Int):=(hs8.at_ 0 (by decide)).trans b0
 have c1:af T8 1=va:=(hs8.at_ 1 (by decide)).trans b1
 have c2:af T8 2=vb:=(hs8.at_ 2 (by decide)).trans b2
 have c3:af T8 3=vc:=(hs8.at_ 3 (by decide)).trans b3
 have c14:af T8 14=p:=(hs8.at_ 14 (by decide)).trans b14
 have c15:af T8 15=q:=(hs8.at_ 15 (by decide)).trans b15
 have k48:Kp H4 H8:=k47.trans k8
 have le_k48:=k48.le
 have k08:Kp H H8:=k4.trans k48
 have le_k08:=k08.le
 refine cd ?_
 by_cases had:(a.length:Int)=(dd:Int)
 case neg =>
  refine zW (kT hl8 c3 c0 hc.lenV had @l7 hrs) ?_
  exact zK
 have had':a.length=dd:=by omega
 refine zW (iq hl8 c3 c0 hc.lenV had @aQ) ?_
 refine WC.wb ?_
 refine zW (aT hl8 c3 @c1 @c2) ?_
 rcases Gc hc ga (by omega) na (by omega) with ⟨hbig,hbad⟩ | ⟨l,hrow,hll,hbt⟩
 ·refine AnsH.eq (uZ C (d:=dd) (f:=65) zF ((hc.mono k08.sub).mono (Kp.sub (H:=H8) zK)) ((hse.mono k48.sub).mono (Kp.sub (H:=H8) zK)) ((hsi.mono k48.sub).mono (Kp.sub (H:=H8) zK)) had' d0 (by omega) bE bI (by omega) (by omega) (by omega) hbig hbad) fun H9 hk9=>?_
  obtain ⟨k89,_,_⟩:=zT H8 zK hk9
  have k49:Kp H4 H9:=k48.trans k89
  have le_k49:=k49.le
  have k09:Kp H H9:=k08.trans k89
  have le_k09:=k09.le
  have w9:=k49.wf
  refine zW (aT hl8 c3 c14 c15) ?_
  refine AnsH.eq (wq C (d:=dd) (f:=64*(64+4)+1) zF ((hc.mono k09.sub).mono (Kp.sub (H:=H9) zK)) ((hp.mono k49.sub).mono (Kp.sub (H:=H9) zK)) ((hq.mono k49.sub).mono (Kp.sub (H:=H9) zK)) had' d0 (by omega) bL bR (by omega) (by omega) (by omega) hbig hbad) fun H10 hk10=>?_
  have k10:Kp H H10:=k09.trans (Kp.trans zK hk10)
  have le_k10:=k10.le
  refine zW (aw hl8 hrs) ?_
  exact ⟨rfl,zK⟩
 ·have hld:l.length=dd:=by omega
  refine AnsH.eq (cone_Keeps C (a:=l) (d:=dd) (e:=64*1048576) (f:=65) zF ((hrow.mono k08.sub).mono (Kp.sub (H:=H8) zK)) ((hse.mono k48.sub).mono (Kp.sub (H:=H8) zK)) ((hsi.mono k48.sub).mono (Kp.sub (H:=H8) zK)) hld d0 (by omega) bE bI (by omega) (by omega) hbt (by omega)) fun H9 hk9=>?_
  obtain ⟨k89,_,_⟩:=zT H8 zK hk9
  have k49:Kp H4 H9:=k48.trans k89
  have le_k49:=k49.le
  have k09:Kp H H9:=k08.trans k89
  have le_k09:=k09.le
  have w9:=k49.wf
  refine zW (aT hl8 c3 c14 c15) ?_
  refine AnsH.eq (cone_Made C (a:=l) (d:=dd) (m:=64*(64+4)) (e:=64*1048576) zF ((hrow.mono k09.sub).mono (Kp.sub (H:=H9) zK)) ((hp.mono k49.sub).mono (Kp.sub (H:=H9) zK)) ((hq.mono k49.sub).mono (Kp.sub (H:=H9) zK)) hld d0 (by omega) o1 o2 (by omega) l20 (by omega) hbt (by omega)) fun H10 hk10=>?_
  rw [made hld]
  have k10:Kp H H10:=k09.trans (Kp.trans zK hk10)
  have le_k10:=k10.le
  refine zW (aw hl8 hrs) ?_
  exact ⟨by rw [beq_self_eq_true],zK⟩
end
end Go.Proofs.YtichbdepocojaaaGreat.Ev
