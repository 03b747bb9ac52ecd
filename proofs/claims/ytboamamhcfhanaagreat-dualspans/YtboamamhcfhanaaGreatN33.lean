/- A part. -/
import Derived.Test.YtboamamhcfhanaaGreatEch
namespace Go.Proofs.YtboamamhcfhanaaGreat.Ev
open Go Nn
set_option linter.all false
def iu (w:List Int->List Int) (F:List (List Int)) (j:Nat):List (List Int):=(F.take j).map w++F.drop j
theorem uM (w:List Int->List Int) (F:List (List Int)):iu w F 0=F:=by simp [iu]
theorem oZ (w:List Int->List Int) (F:List (List Int)) {j:Nat} (h:j<=F.length):(iu w F j).length=F.length:=by simp [iu]; omega
theorem xF (w:List Int->List Int) (F:List (List Int)):iu w F F.length=F.map w:=by simp [iu]
theorem xE (w:List Int->List Int) (F:List (List Int)) {j:Nat} (h:j<F.length):(iu w F j)[j]? = some F[j]:=by
 unfold iu
 rw [List.getElem?_append_right (by simp; omega)]
 have e:j-((F.take j).map w).length=0:=by simp; omega
 rw [e,List.getElem?_drop]
 simp [h]
theorem xD (w:List Int->List Int) (F:List (List Int)) {j:Nat} (h:j<F.length):(iu w F j).set j (w F[j])=iu w F (j+1):=by
 apply List.ext_getElem?
 intro i
 rw [List.getElem?_set]
 have hl:=oZ w F (Nat.le_of_lt h)
 by_cases e:j=i
 ·subst e
  rw [if_pos rfl,if_pos (by omega)]
  unfold iu
  rw [List.getElem?_append_left (by simp; omega)]
  simp [h]
 ·rw [if_neg e]
  unfold iu
  by_cases hi:i<j
  ·rw [List.getElem?_append_left (by simp; omega),List.getElem?_append_left (by simp; omega)]
   simp [hi,show i<j+1 by omega]
  ·rw [List.getElem?_append_right (by simp; omega),List.getElem?_append_right (by simp; omega),List.getElem?_drop,List.getElem?_drop]
   congr 1
   simp; omega
theorem DA {x:List Int} {p:Nat}:∀ {F:List (List Int)} {k:Nat},k<=F.length->(∀ i (h:i<F.length),i<k->Lin.before (Lin.pv F[i]) p=true)->(∀ h:k<F.length,Lin.before (Lin.pv F[k]) p=false)->Lin.insP x p F=F.take k++x :: F.drop k
 | [],k,hk,_,_=>by
  have:k=0:=by simpa using hk
  subst this; rfl
 | r :: F,0,_,_,h1=>by
  have:=h1 (by simp)
  simp only [List.getElem_cons_zero] at this
  simp [Lin.insP,this]
 | r :: F,k+1,hk,h0,h1=>by
  have h2:=h0 0 (by simp) (by omega)
  simp only [List.getElem_cons_zero] at h2
  have ih:=DA (x:=x) (p:=p) (F:=F) (k:=k) (by simpa using hk) (fun i h hi=>by have:=h0 (i+1) (by simpa using h) (by omega); simpa using this) (fun h=>by have:=h1 (by simpa using h); simpa using this)
  simp [Lin.insP,h2,ih]
theorem Bu:MuI (-1):=by
 have:=bk (n:=1) (k:=1) (by decide)
 unfold MuI
 show (ag 1).length<_
 omega
section
variable {tab:Nat->Option aq} {H:Heap} {s:AV}
theorem HS (C:Code tab) {H0:Heap} {fb:Nat} {q va:AV} {F:List (List Int)} {x:List Int} {d e f:Nat} (hk:Kp H0 H) (hfb0:H0.next<=fb) (hfb:H.get fb=some (.cells [q] dF true)) (hq:Bl rowsE af H0 H q F) (ha:RowV H va x) (hx:x.length=d) (h64:d<=64) (hE:Lin.Ech d F) (hlF:F.length<=64)
  (hFe:∀ r∈F,∀ z∈r,Bt f z) (hxe:∀ z∈x,Bt e z) (hb:e+66*(f+1)<=8796093022208) :
  Ans tab (.fn eR [.ptr fb 0,va]) H fun v H'=>v=.tup []/\Kp H0 H'/\∃ q',H'.get fb=some (.cells [q'] dF true)/\Bl rowsE af H0 H' q' (Lin.putF F x):=by
 have hw:=hk.wf
 have hF:∀ r∈F,r.length=d/\Lin.pivot r=some (Lin.pv r)/\∀ z∈r,Bt f z:=fun r hr=>⟨hE.len r hr,(hE.pos hr).1,hFe r hr⟩
 have hyl:(Lin.restF F x).length=d:=by rw [<- iM]; exact mB hx (fun r h=>(hF r h).1) _ (Nat.le_refl _)
 have hle64:F.length*(f+1)<=64*(f+1):=Nat.mul_le_mul_right _ hlF
 have hye:∀ z∈Lin.restF F x,Bt (e+64*(f+1)) z:=fun z hz=>by
  rw [<- iM] at hz
  exact (lX hxe (fun r h=>(hF r h).2.2) _ (Nat.le_refl _) z hz).mono (by omega)
 refine xw C.P_rows_form_put rfl rfl (by decide) fun T hl g=>?_
 have hl:T.length=79:=hl
 have hrs:c_P_rows_form_put.results=[]:=rfl
 have g0:ae T 0=.ptr fb 0:=g 0 (by simp)
 have g1:ae T 1=va:=g 1 (by simp)
 refine br ?_
 refine zW (bg hl g0 g1 @aK) ?_
 refine AnsH.use (su C (H:=H.up 4) zF hfb (hq.sl.mono (Sub.bump H 4)) (ha.mono (Sub.bump H 4)) hx h64 hlF hF hxe (by omega)) ?_
 rintro v H2 ⟨hr2,hk2⟩
 obtain ⟨k2,_,w2⟩:=zT H zK hk2
 refine zW (bg hl g0 g1 @aK) ?_
 refine br ?_
 refine zW (bg hl g0 g1 @aK) ?_
 refine AnsH.eq (rows_pivot C zF (hr2.mono (Kp.sub (H:=H2) zK)) (by omega)) fun H3 hk3=>?_
 have k3:Kp H H3:=Kp.trans k2 (Kp.trans zK hk3)
 have le_k3:=k3.le
 have w3:=k3.wf
 have hr3:RowV H3 v (Lin.restF F x):=hr2.mono (Kp.sub (H:=H2) (Kp.trans zK hk3))
 cases hpv:Lin.pivot (Lin.restF F x) with
 | none =>
  have e1:LD (Lin.restF F x) = -1:=by unfold LD; rw [hpv]
  rw [e1]
  refine zW (bg hl g0 g1 @aK) ?_
  refine br ?_
  refine zW (fW hl g0 g1 @aK @nM hrs) ?_
  have e2:Lin.putF F x=F:=by unfold Lin.putF; rw [hpv]
  rw [e2]
  have k03:Kp H0 H3:=hk.trans k3
  have le_k03:=k03.le
  exact ⟨zK,q,k3.get hfb,hq.mono (Kp.sub (H:=H) zK)⟩
 | some p =>
  rw [B4 hpv]
  have hp:p<(Lin.restF F x).length:=(Lin.pivot_some.1 hpv).1
  have hp0:=(Lin.pivot_some.1 hpv).2.1
  have hneg:¬ (p:Int)<0:=by omega
  refine zW (bg hl g0 g1 @aK) ?_
  refine br ?_
  refine zW (fW hl g0 g1 @aK @nM hneg) ?_
  refine OF (fun T' H'=>∃ va',ae T' 1=va'/\RowV H' va' (Lin.signed (Lin.restF F x) p)/\Kp H H') rfl ?_ ?_
  ·obtain ⟨w,hn,hld,hsg,hab⟩:=js hr3 hp
   have hix:Ox 2 v (.int .i64 (p:Int))=some (al v (p*2)):=SlV.idx hr3 .i64 p hp
   have hfa:vZ 0 (al v (p*2))=some (al v (p*2)):=SlV.fa hr3 (by omega) 0 (p*2)
   refine zW (jm hl g0 g1 hix hfa hsg @aQ) ?_
   refine iteH.split (fun h=>?_) fun h=>?_
   ·refine zW (aC hl g0 g1) ?_
    refine AnsH.use (whole_Of C (n:=-1) zF (by omega) (by omega)) ?_
    rintro v4 H4 ⟨hi4,hk4⟩
    have k4:Kp H H4:=Kp.trans k3 (Kp.trans zK hk4)
    have le_k4:=k4.le
    have w4:=k4.wf
    refine zW (aC hl g0 g1) ?_
    refine AnsH.use (vec_Scale C zF (hr3.mono (Kp.sub (H:=H3) (Kp.trans zK hk4))) hi4 (by omega) (fun z hz=>(hye z hz).len (by omega)) Bu) ?_
    rintro v5 H5 ⟨r5,rfl,hr5,hk5⟩
    have k5:Kp H H5:=Kp.trans k4 hk5
    have le_k5:=k5.le
    refine zW (bg hl g0 g1 @aQ) ?_
    refine ⟨_,rfl,?_,k5⟩
    unfold Lin.signed
    rw [if_pos (by rw [oR hp]; exact h)]
    exact hr5
   ·refine zW (bg hl g0 g1 @aQ) ?_
    refine ⟨_,rfl,?_,zK⟩
    unfold Lin.signed
    rw [if_neg (by rw [oR hp]; exact h)]
    exact hr3.mono (Sub.bump H3 _)
  ·rintro T1 H4 hs1 ⟨va',hv1,hr4,k4⟩
   have w4:=k4.wf
   have k04:Kp H0 H4:=hk.trans k4
   have le_k04:=k04.le
   have t0:ae T1 0=.ptr fb 0:=(hs1.at_ 0 (by decide)).trans (zV (aC hl g0 g1))
   have t4:ae T1 4=.int .i64 (p:Int):=(hs1.at_ 4 (by decide)).trans (zV (aC hl g0 g1))
   have hl1:T1.length=79:=hs1.len.trans (by simp only [List.length_set]; exact hl)
   have hfb4:=k4.get hfb
   have hq4:Bl rowsE af H0 H4 q F:=hq.mono k4.sub
   have hput:Lin.putF F x=Lin.insP (Lin.signed (Lin.restF F x) p) p (F.map fun r=>Lin.wo r (Lin.signed (Lin.restF F x) p) p):=by unfold Lin.putF; rw [hpv]
   have hEp:=(Lin.put_ech hE hx).1
   rw [hput] at hEp ⊢
   have hyl':(Lin.signed (Lin.restF F x) p).length=d:=Lin.signed_length hyl
   have hye':∀ z∈Lin.signed (Lin.restF F x) p,Bt (e+64*(f+1)) z:=by
    unfold Lin.signed
    split
    ·exact BU hye
    ·exact hye
   have hmem:∀ r'∈F.map (fun r=>Lin.wo r (Lin.signed (Lin.restF F x) p) p),r'.length=d/\Lin.pivot r'=some (Lin.pv r'):=fun r' h=>by
    have hm:r'∈Lin.insP (Lin.signed (Lin.restF F x) p) p (F.map fun r=>Lin.wo r (Lin.signed (Lin.restF F x) p) p):=Lin.mem_insP.2 (.inr h)
    exact ⟨hEp.len _ hm,(hEp.pos hm).1⟩
   generalize Lin.signed (Lin.restF F x) p=y at *
   obtain ⟨w,hw0⟩:∃ w:List Int->List Int,w=fun r=>Lin.wo r y p:=⟨_,rfl⟩
   rw [<- hw0] at hmem ⊢
   have hpd:p<d:=by omega
   refine WC.wb ?_
   refine zW (cJ hl1 t0 t4 hfb4 hq4.sl.lenV) ?_
   refine ak H0 [] (fun j _ H'=>H'.get fb=some (.cells [q] dF true)/\Bl rowsE af H0 H' q (iu w F j)/\RowV H' va' y) (a:=0) (N:=F.length) rfl (by refine zW hl1 ?_; rfl) (zV hl1) (Nat.zero_le _) (by omega) (by simp only [List.length_set,hl1]; rfl) rfl (fun j vs H' m ⟨h1,h2,h3⟩=>⟨h1,h2.mono (Sub.bump H' m),h3.mono (Sub.bump H' m)⟩) zK ⟨hfb4,by rw [uM]; exact hq4.mono (Sub.bump H4 _),hr4.mono (Sub.bump H4 _)⟩ ?_ ?_
   ·rintro j T2 H5 _ hj hl2 hi2 hs2 hk5 ⟨j1,j2,j3⟩
    have w5:=hk5.wf
    have le_hk5:=hk5.le
    have hsl:=oZ w F (Nat.le_of_lt hj)
    rcases j2 with ⟨-,hnil⟩ | ⟨b,cells,hqe,hb5,hcl,hb0⟩
    ·exfalso
     rw [hnil] at hsl; simp at hsl; omega
    rw [hsl] at hqe
    have hjl:j<(iu w F j).length:=by omega
    obtain ⟨vr,htk,hvr⟩:=hcl.at1 hjl
    have hgj:(iu w F j)[j]=F[j]:=by
     have:=xE w F hj
     rw [List.getElem?_eq_getElem hjl] at this
     exact Option.some.inj this
    rw [hgj] at hvr
    have hvr:RowV H5 vr F[j]:=hvr
    have hFj:=hF _ (List.getElem_mem hj)
    have hcn:cells.length=F.length:=by have:=hcl.1; simp [cB] at this; omega
    have hne:fb≠b:=fun e=>by
     subst e
     rw [j1] at hb5; injection hb5 with h; injection h with _ h2; exact absurd h2 (by decide)
    have t29:ae T2 29=q:=(hs2.at_ 29 (by decide)).trans (zV hl1)
    have t0':ae T2 0=.ptr fb 0:=(hs2.at_ 0 (by decide)).trans (zV (az hl1 t0))
    have t1':ae T2 1=va':=(hs2.at_ 1 (by decide)).trans (zV (az hl1 hv1))
    have t4':ae T2 4=.int .i64 (p:Int):=(hs2.at_ 4 (by decide)).trans (zV (az hl1 t4))
    have hix:Ox 1 q (.int .i64 (j:Int))=some (.ptr b j):=by
     have:=mU (b:=b) (off:=0) (c:=F.length) (sz:=1) (x:=false) (k:=.i64) hj
     rw [Nat.zero_add,Nat.mul_one] at this
     rw [hqe]; exact this
    simp only [List.length_set,hl1] at hl2
    refine zW (fW hl2 t29 hi2 hix hb5 htk) ?_
    refine aO ?_
    refine zD (fW hl2 t0' t1' t4' hi2 j1) ?_
    refine AnsH.use (rows_without C zF (hvr.mono (Kp.sub (H:=H5) zK)) (j3.mono (Kp.sub (H:=H5) zK)) (hFj.1.trans hyl'.symm) (by omega) (by omega) hFj.2.2 hye' (by omega)) ?_
    rintro v6 H6 ⟨hr6,hk6⟩
    obtain ⟨k56,_,_⟩:=zT H5 zK hk6
    have k06:Kp H0 H6:=hk5.trans k56
    have le_k06:=k06.le
    have w6:=k06.wf
    have hb6:=k56.get hb5
    have lb6:=w6 _ _ hb6
    have j16:=k56.get j1
    have o6:=hr6.one
    have hjc:j<cells.length:=by omega
    refine zD (nE hl2 t0' t1' t4' hi2 j1 j16 hix hb6 hjc) ?_
    have mb:NoTy (pE intE aa).tys H6 b:=NoTy.ty hb6 (by decide)
    have st6:SubT (pE intE aa).tys H6 (H6.put b (.cells (cells.set j v6) af true)):=SubT.puts (SubT.refl _ _) mb
    have hwj:w F[j]=Lin.wo F[j] y p:=by rw [hw0]
    have hcl6:Cells rowsE H6 cells (iu w F j):=hcl.mono (k56.sub.t _)
    refine ⟨zK,.inr ⟨b,_,?_,aA _ _ _,?_,hb0⟩,SlV.monoT (E:=intE) st6 (j3.mono k56.sub)⟩
    ·rw [oZ w F (by omega)]; exact hqe
    ·rw [<- xD w F hj,hwj]
     exact Cells.mono (E:=rowsE) st6 (hcl6.set1 hjl hr6)
   ·rintro T3 H7 hl3 hs3 hk7 ⟨j1,j2,j3⟩
    have w7:=hk7.wf
    have le_hk7:=hk7.le
    rw [xF] at j2
    have t0'':ae T3 0=.ptr fb 0:=(hs3.at_ 0 (by decide)).trans (zV (az hl1 t0))
    have t1'':ae T3 1=va':=(hs3.at_ 1 (by decide)).trans (zV (az hl1 hv1))
    have t4'':ae T3 4=.int .i64 (p:Int):=(hs3.at_ 4 (by decide)).trans (zV (az hl1 t4))
    simp only [List.length_set,hl1] at hl3
    obtain ⟨F',hF'⟩:∃ F',F'=F.map w:=⟨_,rfl⟩
    rw [<- hF'] at j2 hmem ⊢
    have hF'l:F'.length=F.length:=by rw [hF']; simp
    refine zW (bg hl3 t0'' t1'' t4'') ?_
    refine jK H0 [7] (fun m vs H'=>∃ k:Nat,vs=[.int .i64 (k:Int)]/\k<=F'.length/\(∀ i (h:i<F'.length),i<k->Lin.before (Lin.pv F'[i]) p=true)/\m=F'.length-k/\H'.get fb=some (.cells [q] dF true)/\Bl rowsE af H0 H' q F'/\RowV H' va' y)
     (fun vs H'=>∃ k:Nat,vs=[.int .i64 (k:Int)]/\k<=F'.length/\(∀ i (h:i<F'.length),i<k->Lin.before (Lin.pv F'[i]) p=true)/\(∀ h:k<F'.length,Lin.before (Lin.pv F'[k]) p=false)/\H'.get fb=some (.cells [q] dF true)/\Bl rowsE af H0 H' q F'/\RowV H' va' y)
     F'.length (by simp only [List.length_set,hl3]; rfl) rfl zK ⟨0,by refine zW hl3 ?_; rfl,by omega,fun i _ h=>by omega,by omega,j1,j2.mono (Sub.bump H7 _),j3.mono (Sub.bump H7 _)⟩ ?_ ?_
    ·rintro m T4 H8 hl4 hs4 hk8 ⟨k,hv,hkn,hbf,hm,i1,i2,i3⟩
     have w8:=hk8.wf
     have le_hk8:=hk8.le
     simp only [List.map_cons,List.map_nil,List.cons.injEq,and_true] at hv
     have t0a:ae T4 0=.ptr fb 0:=(hs4.at_ 0 (by decide)).trans (zV (az hl3 t0''))
     have t4a:ae T4 4=.int .i64 (p:Int):=(hs4.at_ 4 (by decide)).trans (zV (az hl3 t4''))
     by_cases hkl:k<F'.length
     ·obtain ⟨wv,hrk,hld⟩:=cV i2.sl hkl
      have hix:=SlV.idx1 i2.sl .i64 k hkl
      have hmk:=hmem _ (List.getElem_mem hkl)
      refine zW (kU hl4 hv t0a t4a i1 i2.sl.lenV hkl hix hld) ?_
      refine AnsH.eq (rows_pivot C zF (hrk.mono (Kp.sub (H:=H8) zK)) (by omega)) fun H9 hk9=>?_
      obtain ⟨k89,_,w9⟩:=zT H8 zK hk9
      rw [B4 hmk.2]
      refine zW (bg hl4 hv t0a t4a) ?_
      refine AnsH.eq (rows_before C zF) fun H10 hk10=>?_
      have k810:Kp H8 H10:=Kp.trans k89 hk10
      have le_k810:=k810.le
      have k010:Kp H0 H10:=hk8.trans k810
      have le_k010:=k010.le
      cases hbv:Lin.before (Lin.pv F'[k]) p with
      | true =>
       have e:IntKind.i64.wrap ((k:Int)+1)=((k+1:Nat):Int):=by rw [wrap_i64] <;> omega
       refine zW (aC hl4 hv e) ?_
       refine ⟨zK,F'.length-(k+1),by omega,k+1,rfl,by omega,fun i h hi=>?_,rfl,k810.get i1,i2.mono (Kp.sub (H:=H8) zK),i3.mono (Kp.sub (H:=H8) zK)⟩
       by_cases ei:i=k
       ·subst ei; exact hbv
       ·exact hbf i h (by omega)
      | false =>
       refine zW (az hl4 hv) ?_
       exact ⟨zK,k,rfl,hkn,hbf,fun _=>hbv,k810.get i1,i2.mono k810.sub,i3.mono k810.sub⟩
     ·refine zW (jm hl4 hv t0a t4a i1 i2.sl.lenV hkl) ?_
      exact ⟨zK,k,rfl,hkn,hbf,fun h=>absurd h hkl,i2.mono (Sub.bump H8 _),i3.mono (Sub.bump H8 _)⟩
    ·rintro T5 H11 hl5 hs5 hk11 ⟨k,hv,hkn,hbf,hbn,i1,i2,i3⟩
     have w11:=hk11.wf
     have le_hk11:=hk11.le
     simp only [List.map_cons,List.map_nil,List.cons.injEq,and_true] at hv
     have t0a:ae T5 0=.ptr fb 0:=(hs5.at_ 0 (by decide)).trans (zV (az hl3 t0''))
     have t1a:ae T5 1=va':=(hs5.at_ 1 (by decide)).trans (zV (az hl3 t1''))
     rw [DA hkn hbf hbn]
     have oa:=i3.one
     have lfb:=w11 _ _ i1
     refine zW (cJ hl5 hv t0a t1a i1) ?_
     have hf7:H11.get (H11.next+7)=none:=w11.fresh (by omega)
     have hqne:∀ n,q ≠ .own (H11.next+7) 0 n n 1 false:=fun n e=>by
      rcases i2 with ⟨h,-⟩ | ⟨b,cells,h,hb',-⟩
      ·rw [h] at e; cases e
      ·rw [h] at e; injection e with e1; rw [e1,hf7] at hb'; cases hb'
     have sx:Sub H11 ((H11.up 12).put (H11.next+7) (.cells [va'] af true)):=(Sub.bump H11 12).trans (bh (H:=H11.up 12) hf7)
     refine AnsH.use (Bv C (H0:=H0) (F:=F') (x:=y) (k:=k) zK (i2.mono sx) hkn (dC) (i3.mono sx) hqne (by omega)) ?_
     rintro v12 H12 ⟨k12,bl,keep,⟨n,rfl⟩,hnx⟩
     have w12:=k12.wf
     have hfx:((H11.up 12).put (H11.next+7) (.cells [va'] af true)).get fb=some (.cells [q] dF true):=by exact zV i1
     have hne':∀ n,q ≠ .own fb 0 n n 1 false:=fun n=>i2.ne i1 (fun cs h=>by injection h with _ h2; exact absurd h2 (by decide)) n
     have f12:=keep fb _ hfx hne'
     have lt12:=w12 _ _ f12
     refine zW (aC hl5 hrs f12) ?_
     refine ⟨zK,_,rfl,bl.put (fun n' h=>?_) (SubT.put_ty f12 (by decide))⟩
     injection h with h1
     simp only [next_put,cw] at h1
     omega
end
theorem Aj {d:Nat}:∀ {l:List Nat} {lo:Nat},lo<=d->l.Pairwise (· < ·)->(∀ a∈l,lo<a/\a<=d)->l.length+lo<=d
 | [],lo,h,_,_=>by simpa using h
 | a :: l,lo,h,hp,hb=>by
  have ha:=hb a (List.mem_cons_self ..)
  have hp':=List.pairwise_cons.1 hp
  have:=Aj (d:=d) (lo:=a) ha.2 hp'.2 fun b hb'=>⟨hp'.1 b hb',(hb b (List.mem_cons_of_mem _ hb')).2⟩
  simp only [List.length_cons]
  omega
theorem ech_len {d:Nat} {F:List (List Int)} (h:Lin.Ech d F):F.length<=d:=by
 have h1:(F.map fun r=>Lin.rank (Lin.pv r) d).Pairwise (· < ·):=by
  rw [List.pairwise_map]
  refine h.sorted.imp_of_mem fun {r s} hr hs hb=>?_
  exact (Lin.before_iff (h.pos hr).2.2 (h.pos hs).2.2).1 hb
 have h2:=Aj (d:=d) (lo:=0) (Nat.zero_le _) h1 fun a ha=>by
  rw [List.mem_map] at ha
  obtain ⟨r,hr,rfl⟩:=ha
  have:=(h.pos hr).2.2
  unfold Lin.rank
  split <;> omega
 simpa using h2
def iy (e:Nat):Nat->Nat
 | 0=>0
 | k+1=>e+(k+1)*(iy e k+1)
theorem CC (e k:Nat):iy e k<=iy e (k+1):=by
 show iy e k<=e+(k+1)*(iy e k+1)
 rw [Nat.succ_mul]; omega
theorem qD (e:Nat) {k m:Nat} (h:k<=m):iy e k<=iy e m:=by
 induction m with
 | zero =>
  have:k=0:=by omega
  subst this; exact Nat.le_refl _
 | succ m ih =>
  by_cases hk:k<=m
  ·exact Nat.le_trans (ih hk) (CC e m)
  ·have:k=m+1:=by omega
   subst this; exact Nat.le_refl _
theorem insP_len {x:List Int} {p:Nat}:∀ F:List (List Int),(Lin.insP x p F).length=F.length+1
 | []=>rfl
 | r :: F=>by
  unfold Lin.insP
  split
  ·simp [insP_len F]
  ·simp
theorem JB {d e f:Nat} {F:List (List Int)} {x:List Int} (hF:∀ r∈F,∀ z∈r,Bt f z) (hx:∀ z∈x,Bt e z) :
  Lin.putF F x=F\/((Lin.putF F x).length=F.length+1/\∀ r∈Lin.putF F x,∀ z∈r,Bt (e+(F.length+1)*(f+1)) z):=by
 have hy:∀ z∈Lin.restF F x,Bt (e+F.length*(f+1)) z:=by
  rw [<- iM]; exact lX hx hF _ (Nat.le_refl _)
 have hs:∀ p,∀ z∈Lin.signed (Lin.restF F x) p,Bt (e+F.length*(f+1)) z:=fun p=>by
  unfold Lin.signed
  split
  ·exact BU hy
  ·exact hy
 unfold Lin.putF
 cases hp:Lin.pivot (Lin.restF F x) with
 | none=>exact .inl rfl
 | some p =>
  refine .inr ⟨by simp [insP_len],fun r hr=>?_⟩
  have e1:(F.length+1)*(f+1)=F.length*(f+1)+(f+1):=Nat.succ_mul _ _
  rcases Lin.mem_insP.1 hr with rfl | hr
  ·exact fun z hz=>(hs p z hz).mono (by omega)
  ·rw [List.mem_map] at hr
   obtain ⟨u,hu,rfl⟩:=hr
   exact fun z hz=>(Ks (hF u hu) (hs p) z hz).mono (by omega)
def lM (l:List (List Int)) (k:Nat):List (List Int):=(l.take k).foldl Lin.putF []
theorem tj {l:List (List Int)} {k:Nat} (h:k<l.length):lM l (k+1)=Lin.putF (lM l k) l[k]:=by
 unfold lM
 rw [List.take_succ_eq_append_getElem h,List.foldl_append]; rfl
theorem Rs (l:List (List Int)):lM l l.length=Lin.formF l:=by
 unfold lM Lin.formF
 rw [List.take_length]
theorem Cz {d:Nat} {l:List (List Int)} (hl:∀ r∈l,r.length=d) (k:Nat):Lin.Ech d (lM l k) :=
 (Lin.form_go (l.take k) [] (Lin.Ech.nil d) fun a ha=>hl a (List.mem_of_mem_take ha)).1
theorem sv {d e:Nat} {l:List (List Int)} (hl:∀ r∈l,r.length=d) (hb:∀ r∈l,∀ z∈r,Bt e z):∀ k,k<=l.length->∀ r∈lM l k,∀ z∈r,Bt (iy e (lM l k).length) z
 | 0,_=>by intro r hr; cases hr
 | k+1,h=>by
  have ih:=sv hl hb k (by omega)
  rw [tj (by omega)]
  rcases JB (d:=d) ih (hb _ (List.getElem_mem (show k<l.length by omega))) with h1 | ⟨h1,h2⟩
  ·rw [h1]; exact ih
  ·rw [h1]; exact h2
section
variable {tab:Nat->Option aq} {H:Heap} {s:AV}
theorem rows_formed (C:Code tab) (hw:Wf H) {l:List (List Int)} {d e:Nat} (hs:cI H s l) (hbig:l.length<1099511627776) (hd:d<=64) (hl':∀ r∈l,r.length=d) (hbt:∀ r∈l,∀ z∈r,Bt e z) (hb:e+66*(iy e d+1)<=8796093022208) :
  Ans tab (.fn lv [s]) H fun v H'=>∃ fb q,v=.ptr fb 0/\H'.get fb=some (.cells [q] dF true)/\cI H' q (Lin.formF l)/\Kp H H':=by
 refine OD C.rows_formed (by decide) fun T hl g0=>?_
 have hb1:iq (.agg [.nilSl])=some [.nilSl]:=rfl
 refine zW (bg hl g0 hs.lenV hb1) ?_
 refine ak H [] (fun j _ H'=>∃ q,H'.get (H.next+2)=some (.cells [q] dF true)/\Bl rowsE af H H' q (lM l j)) (a:=0) (N:=l.length) rfl (by refine zW (az hl g0) ?_; rfl) (zV (az hl g0)) (Nat.zero_le _) (by omega) (by simp only [List.length_set,hl]; rfl) rfl (fun j vs H' m ⟨q,h1,h2⟩=>⟨q,h1,h2.mono (Sub.bump H' m)⟩) zK ⟨.nilSl,by exact dC,Bl.nil⟩ ?_ ?_
 ·rintro j T1 H1 _ hj hl1 hi1 hs1 hk1 ⟨q,j1,j2⟩
  have w1:=hk1.wf
  have le_hk1:=hk1.le
  have t11:ae T1 11=s:=(hs1.at_ 11 (by decide)).trans (zV (az hl g0))
  have t4:ae T1 4=.fn (.func eR) [.ptr (H.next+2) 0] []:=(hs1.at_ 4 (by decide)).trans (zV (az hl g0))
  obtain ⟨w,hr,hld⟩:=cV (hs.mono hk1.sub) hj
  have hix:=SlV.idx1 hs .i64 j hj
  have hE:=Cz hl' j
  have hfm:=qD e (ech_len hE)
  have hlj:=ech_len hE
  have hj':=List.getElem_mem hj
  simp only [List.length_set,hl] at hl1
  refine zW (fW hl1 t11 t4 hi1 hix hld) ?_
  refine AnsH.use (HS C (H0:=H) (f:=iy e (lM l j).length) zK (by omega) (by exact j1) (j2.mono (Sub.bump H1 _)) (hr.mono (Sub.bump H1 _)) (hl' _ hj') hd hE (by omega) (sv hl' hbt j (by omega)) (hbt _ hj') (by omega)) ?_
  rintro v H2 ⟨rfl,hk2,q',i1,i2⟩
  refine zW hl1 ?_
  refine ⟨zK,q',i1,?_⟩
  rw [tj hj]
  exact i2
 ·rintro T1 H1 hl1 hs1 hk1 ⟨q,j1,j2⟩
  have w1:=hk1.wf
  have le_hk1:=hk1.le
  have t3:ae T1 3=.ptr (H.next+2) 0:=(hs1.at_ 3 (by decide)).trans (zV (az hl g0))
  simp only [List.length_set,hl] at hl1
  rw [Rs] at j2
  refine zW (az hl1 t3) ?_
  exact ⟨_,q,rfl,j1,j2.sl.mono (Sub.bump H1 _),zK⟩
theorem rows_Echelon (C:Code tab) (hw:Wf H) {l:List (List Int)} {d e:Nat} (hs:cI H s l) (h1024:l.length<=1024) (hd0:0<d) (hd:d<=64) (hl':∀ r∈l,r.length=d) (hbt:∀ r∈l,∀ z∈r,Bt e z) (hb:e+66*(iy e d+1)<=8796093022208) :
  Ans tab (.fn ke [s]) H fun v H'=>∃ q,v=.tup [q,.int .i64 0]/\cI H' q (Lin.formF l)/\Kp H H':=by
 refine OD C.rows_Echelon (by decide) fun T hl g0=>?_
 refine zW (az hl g0) ?_
 refine AnsH.eq (iW C (ty:=0) zF (hs.mono (Kp.sub (H:=H) zK)) h1024 ⟨hd0,hd,hl',fun r hr z hz=>(hbt r hr z hz).sm (by omega)⟩) fun H2 hk2=>?_
 obtain ⟨k2,_,w2⟩:=zT H zK hk2
 refine zW (az hl g0) ?_
 refine AnsH.use (rows_formed C zF (hs.mono (Kp.sub (H:=H) zK)) (by omega) hd hl' hbt hb) ?_
 rintro v H3 ⟨fb,q,rfl,hf,hq,hk3⟩
 obtain ⟨k3,_,_⟩:=zT H zK hk3
 refine zW (aC hl g0 hf) ?_
 exact ⟨q,rfl,hq,k3⟩
theorem rows_Reduce (C:Code tab) (hw:Wf H) {a:AV} {x:List Int} {l:List (List Int)} {d e:Nat} (ha:RowV H a x) (hs:cI H s l) (h1024:l.length<=1024) (hd0:0<d) (hd:d<=64) (hx:x.length=d) (hl':∀ r∈l,r.length=d) (hxe:∀ z∈x,Bt e z) (hbt:∀ r∈l,∀ z∈r,Bt e z) (hb:e+66*(iy e d+1)<=8796093022208) :
  Ans tab (.fn ly [a,s]) H fun v H'=>∃ q,v=.tup [q,.int .i64 0]/\RowV H' q (Lin.restF (Lin.formF l) x)/\Kp H H':=by
 have oa:=ha.one
 refine ca C.rows_Reduce (by decide) fun T hl g0 g1=>?_
 refine zW (aC hl g0 g1) ?_
 refine AnsH.eq (iW C (ty:=0) zF (hs.mono (Kp.sub (H:=H) zK)) h1024 ⟨hd0,hd,hl',fun r hr z hz=>(hbt r hr z hz).sm (by omega)⟩) fun H2 hk2=>?_
 obtain ⟨k2,_,w2⟩:=zT H zK hk2
 refine zW (aC hl g0 g1) ?_
 refine AnsH.eq (iW C (ty:=0) (d:=d) (ls:=[x]) zF (LN (ha.mono k2.sub) (Kp.sub (H:=H2) zK) (dC)) (by simp) ⟨hd0,hd,by simpa using hx,by simpa using fun z hz=>(hxe z hz).sm (by omega)⟩) fun H3 hk3=>?_
 have k3:Kp H H3:=Kp.trans k2 (Kp.trans zK hk3)
 have le_k3:=k3.le
 have w3:=k3.wf
 have hE:=(Lin.form_ech hl').1
 have hlen:=ech_len hE
 have hfm:=qD e hlen
 have hyl:(Lin.restF (Lin.formF l) x).length=d:=by rw [<- iM]; exact mB hx hE.len _ (Nat.le_refl _)
 have hfb:∀ r∈Lin.formF l,∀ z∈r,Bt (iy e d) z:=fun r hr z hz=>by
  have:=sv hl' hbt l.length (Nat.le_refl _)
  rw [Rs] at this
  exact (this r hr z hz).mono hfm
 have hle:(Lin.formF l).length*(iy e d+1)<=64*(iy e d+1):=Nat.mul_le_mul_right _ (by omega)
 have hye:∀ z∈Lin.restF (Lin.formF l) x,Bt (e+64*(iy e d+1)) z:=fun z hz=>by
  rw [<- iM] at hz
  exact (lX hxe hfb _ (Nat.le_refl _) z hz).mono (by omega)
 rcases Nat.eq_zero_or_pos l.length with h0 | h0
 ·have hlv:lenV s=some (.int .i64 0):=by rw [hs.lenV,h0]; rfl
  refine zW (bg hl g0 g1 hlv) ?_
  refine AnsH.use (rows_formed C zF (hs.mono (Kp.sub (H:=H) zK)) (by omega) hd hl' hbt hb) ?_
  rintro v H5 ⟨fb,q,rfl,hf,hq,hk5⟩
  obtain ⟨k5,_,w5⟩:=zT H zK hk5
  refine zW (aC hl g0 g1) ?_
  refine AnsH.use (su C zF hf hq (ha.mono k5.sub) hx hd (by omega) (fun r hr=>⟨hE.len r hr,(hE.pos hr).1,hfb r hr⟩) hxe (by omega)) ?_
  rintro v6 H6 ⟨hr6,hk6⟩
  have k6:Kp H H6:=Kp.trans k5 hk6
  have le_k6:=k6.le
  have w6:=k6.wf
  refine zW (aC hl g0 g1) ?_
  refine AnsH.use (vec_Twin C zF hr6 (by omega) fun z hz=>(hye z hz).sm (by omega)) ?_
  rintro v7 H7 ⟨hr7,hk7⟩
  have k7:Kp H H7:=Kp.trans k6 hk7
  have le_k7:=k7.le
  refine zW (aC hl g0 g1) ?_
  exact ⟨_,rfl,hr7,k7⟩
 ·obtain ⟨w0,hr0,hld0⟩:=cV (hs.mono k3.sub) h0
  have hix0:Ox 1 s (.int .i64 0)=some (al s 0):=SlV.idx1 hs .i64 0 h0
  have l0:lenV w0=some (.int .i64 (d:Int)):=by rw [hr0.lenV,hl' _ (List.getElem_mem h0)]
  have la:lenV a=some (.int .i64 (d:Int)):=by rw [ha.lenV,hx]
  have hpos:(0:Int)<(l.length:Int):=by omega
  refine zW (nE hl g0 g1 hs.lenV hpos h0 hix0 hld0 l0 la) ?_
  refine AnsH.use (rows_formed C zF (hs.mono (Kp.sub (H:=H) zK)) (by omega) hd hl' hbt hb) ?_
  rintro v H5 ⟨fb,q,rfl,hf,hq,hk5⟩
  obtain ⟨k5,_,w5⟩:=zT H zK hk5
  refine zW (aC hl g0 g1) ?_
  refine AnsH.use (su C zF hf hq (ha.mono k5.sub) hx hd (by omega) (fun r hr=>⟨hE.len r hr,(hE.pos hr).1,hfb r hr⟩) hxe (by omega)) ?_
  rintro v6 H6 ⟨hr6,hk6⟩
  have k6:Kp H H6:=Kp.trans k5 hk6
  have le_k6:=k6.le
  have w6:=k6.wf
  refine zW (aC hl g0 g1) ?_
  refine AnsH.use (vec_Twin C zF hr6 (by omega) fun z hz=>(hye z hz).sm (by omega)) ?_
  rintro v7 H7 ⟨hr7,hk7⟩
  have k7:Kp H H7:=Kp.trans k6 hk7
  have le_k7:=k7.le
  refine zW (aC hl g0 g1) ?_
  exact ⟨_,rfl,hr7,k7⟩
end
theorem DL {e f:Nat} {x y:List Int} (hx:∀ z∈x,Bt e z) (hy:∀ z∈y,Bt f z):∀ j,j<=x.length->j<=y.length->(sC x y j).natAbs<=j*2^(e+f)
 | 0,_,_=>by simp [sC,Lin.dot]
 | j+1,h1,h2=>by
  rw [sB (by omega) (by omega),Nat.succ_mul]
  have ih:=DL hx hy j (by omega) (by omega)
  have hm:=(hx _ (List.getElem_mem (show j<x.length by omega))).mul (hy _ (List.getElem_mem (show j<y.length by omega)))
  unfold Bt at hm
  have:=Int.natAbs_add_le (sC x y j) (x[j]*y[j])
  omega
theorem DN {e f:Nat} {x y:List Int} (hx:∀ z∈x,Bt e z) (hy:∀ z∈y,Bt f z) {j:Nat} (h1:j<=x.length) (h2:j<=y.length) (h64:j<=64):Bt (e+f+7) (sC x y j):=by
 have h:=DL hx hy j h1 h2
 have h3:j*2^(e+f)<=64*2^(e+f):=Nat.mul_le_mul_right _ h64
 have h4:0<2^(e+f):=Nat.pow_pos (by decide)
 unfold Bt
 rw [Nat.pow_add]
 omega
theorem mY {e f:Nat} {x y:List Int} (hx:∀ z∈x,Bt e z) (hy:∀ z∈y,Bt f z) (hxy:x.length=y.length) (h64:x.length<=64):Bt (e+f+7) (Lin.dot x y):=by
 rw [<- AZ hxy]; exact DN hx hy (Nat.le_refl _) (by omega) h64
section
variable {tab:Nat->Option aq} {H:Heap} {s:AV}
theorem qc (C:Code tab) (hw:Wf H) {a b:AV} {x y:List Int} {e f:Nat} (ha:RowV H a x) (hb:RowV H b y) (hxy:x.length=y.length) (h64:x.length<=64) (hx:∀ z∈x,Bt e z) (hy:∀ z∈y,Bt f z) (hb':e+f+7<=8796093022208) :
  Ans tab (.fn pg [a,b]) H fun v H'=>∃ r,v=.tup [r,.int .i64 0]/\IntV H' r (Lin.dot x y)/\Kp H H' :=
 vec_Dot C hw ha hb hxy h64 (fun z hz=>(hx z hz).len (by omega)) (fun z hz=>(hy z hz).len (by omega)) (fun i h h'=>((hx _ (List.getElem_mem h)).mul (hy _ (List.getElem_mem h'))).sm (by omega)) fun j hj=>(DN hx hy hj (by omega) (by omega)).sm hb'
theorem cone_dot (C:Code tab) (hw:Wf H) {a b:AV} {x y:List Int} {e f:Nat} (ha:RowV H a x) (hb:RowV H b y) (hxy:x.length=y.length) (h64:x.length<=64) (hx:∀ z∈x,Bt e z) (hy:∀ z∈y,Bt f z) (hb':e+f+7<=8796093022208) :
  Ans tab (.fn mQ [a,b]) H fun v H'=>IntV H' v (Lin.dot x y)/\Kp H H':=by
 refine ca C.cone_dot (by decide) fun T hl g0 g1=>?_
 refine zW (aC hl g0 g1) ?_
 refine AnsH.use (qc C zF (ha.mono (Kp.sub (H:=H) zK)) (hb.mono (Kp.sub (H:=H) zK)) hxy h64 hx hy hb') ?_
 rintro v H2 ⟨r,rfl,⟨w,rfl,hr⟩,hk2⟩
 obtain ⟨k2,_,w2⟩:=zT H zK hk2
 have ow:=hr.one
 have n2:H.next+10<=H2.next:=hk2.le
 have d2:=hk2.get (b:=H.next) (e:=.cells [.bool false,.nilSl] aa true) (dC)
 have f2:H2.get (H.next+7)=none:=hk2.free (show _<H.next+10 by omega) (by rw [au (by omega)]; exact hw.fresh (b:=H.next+7) (by omega))
 have m2:NoTy [ad] H2 H.next:=NoTy.ty d2 (by decide)
 have m7:NoTy [ad] H2 (H.next+7):=NoTy.none f2
 refine zW (bg hl g0 g1 d2) ?_
 exact ⟨⟨w,rfl,SlV.monoT (E:=cB bX) zS hr⟩,zK⟩
theorem cone_sign (C:Code tab) (hw:Wf H) {a:AV} {z:Int} (ha:IntV H a z) (hz:OV z):Ans tab (.fn jg [a]) H fun v H'=>v=.int .i64 (gI z)/\Kp H H':=by
 obtain ⟨p,rfl,hp⟩:=ha
 have op:=hp.one
 refine OD C.cone_sign (by decide) fun T hl g0=>?_
 refine zW (az hl g0) ?_
 refine AnsH.eq (whole_Sign C zF ⟨p,rfl,hp.mono (Kp.sub (H:=H) zK)⟩ hz) fun H2 hk2=>?_
 obtain ⟨k2,_,_⟩:=zT H zK hk2
 refine zW (az hl g0) ?_
 exact zK
theorem cone_neg (C:Code tab) (hw:Wf H) {a:AV} {z:Int} (ha:IntV H a z) (hz:OV z):Ans tab (.fn mO [a]) H fun v H'=>IntV H' v (-z)/\Kp H H':=by
 obtain ⟨p,rfl,hp⟩:=ha
 have op:=hp.one
 refine OD C.cone_neg (by decide) fun T hl g0=>?_
 refine zW (az hl g0) ?_
 refine AnsH.use (whole_Neg C zF ⟨p,rfl,hp.mono (Kp.sub (H:=H) zK)⟩ hz) ?_
 rintro v H2 ⟨r,rfl,⟨w,rfl,hr⟩,hk2⟩
 obtain ⟨k2,_,w2⟩:=zT H zK hk2
 have ow:=hr.one
 have n2:H.next+10<=H2.next:=hk2.le
 have d2:=hk2.get (b:=H.next+1) (e:=.cells [.bool false,.nilSl] aa true) (dC)
 have f2:H2.get (H.next+7)=none:=hk2.free (show _<H.next+10 by omega) (by rw [au (by omega),au (by omega)]; exact hw.fresh (b:=H.next+7) (by omega))
 have m2:NoTy [ad] H2 (H.next+1):=NoTy.ty d2 (by decide)
 have m7:NoTy [ad] H2 (H.next+7):=NoTy.none f2
 refine zW (aC hl g0 d2) ?_
 exact ⟨⟨w,rfl,SlV.monoT (E:=cB bX) zS hr⟩,zK⟩
theorem cone_mix (C:Code tab) (hw:Wf H) {vm vn a b:AV} {m n:Int} {x y:List Int} {e f g h:Nat} (hm:IntV H vm m) (hn:IntV H vn n) (ha:RowV H a x) (hb:RowV H b y) (hxy:x.length=y.length) (h64:x.length<=64) (hmb:Bt g m) (hnb:Bt h n) (hx:∀ z∈x,Bt e z) (hy:∀ z∈y,Bt f z) (hbits:g+e+h+f+1<=8796093022208) :
  Ans tab (.fn mP [vm,a,vn,b]) H fun v H'=>RowV H' v (Lin.prime (Lin.mix m x n y))/\Kp H H':=by
 obtain ⟨mq,rfl,hmq⟩:=hm
 obtain ⟨nq,rfl,hnq⟩:=hn
 have om:=hmq.one
 have on:=hnq.one
 refine LX C.cone_mix (by decide) fun T hl g0 g1 g2 g3=>?_
 refine zW (cJ hl g0 g1 g2 g3) ?_
 refine AnsH.use (vec_Mix C zF ⟨mq,rfl,hmq.mono (Kp.sub (H:=H) zK)⟩ ⟨nq,rfl,hnq.mono (Kp.sub (H:=H) zK)⟩ (ha.mono (Kp.sub (H:=H) zK)) (hb.mono (Kp.sub (H:=H) zK)) hxy h64 (hmb.len (by omega)) (hnb.len (by omega)) (fun z hz=>⟨(hx z hz).len (by omega),(hmb.mul (hx z hz)).sm (by omega)⟩) (fun z hz=>⟨(hy z hz).len (by omega),(hnb.mul (hy z hz)).sm (by omega)⟩)) ?_
 rintro v H2 ⟨r,rfl,hr,hk2⟩
 obtain ⟨k2,_,w2⟩:=zT H zK hk2
 refine zW (cJ hl g0 g1 g2 g3) ?_
 refine AnsH.use (vec_Prime C zF (hr.mono (Kp.sub (H:=H2) zK)) (by rw [Lin.mix_length rfl hxy.symm]; exact h64) fun z hz=>(Ch hmb hnb hx hy z hz).sm (by omega)) ?_
 rintro v3 H3 ⟨r3,rfl,hr3,hk3⟩
 have k3:Kp H H3:=Kp.trans k2 (Kp.trans zK hk3)
 have le_k3:=k3.le
 refine zW (cJ hl g0 g1 g2 g3) ?_
 exact ⟨hr3.mono (Sub.bump H3 _),zK⟩
abbrev xd (H0 H:Heap) (v:AV) (l:List Int):Prop:=Bl (cB (zi .i64)) fL H0 H v l
theorem sat_Signs (C:Code tab) (hw:Wf H) {a:AV} {x:List Int} {l:List (List Int)} {d e f:Nat} (ha:RowV H a x) (hs:cI H s l) (h1024:l.length<=1024) (hd0:0<d) (hd:d<=64) (hx:x.length=d) (hl':∀ r∈l,r.length=d) (hxe:∀ z∈x,Bt e z) (hbt:∀ r∈l,∀ z∈r,Bt f z) (hb:e+f+7<=8796093022208) :
  Ans tab (.fn nZ [a,s]) H fun v H'=>∃ q,v=.tup [q,.int .i64 0]/\xd H H' q (l.map fun r=>gI (Lin.dot x r))/\Kp H H':=by
 have oa:=ha.one
 refine xw C.sat_Signs rfl rfl (by decide) fun T hl g=>?_
 have hl:T.length=55:=hl
 have hrs:c_sat_Signs.results=[(4,none),(5,none)]:=rfl
 have g0:ae T 0=a:=g 0 (by simp)
 have g1:ae T 1=s:=g 1 (by simp)
 refine br ?_
 refine zW (bg hl g0 g1 @aK) ?_
 refine OF (fun T' H'=>ae T' 5=.int .i64 0/\Kp H H') rfl ?_ ?_
 ·refine zW (aC hl g0 g1) ?_
  refine AnsH.eq (iW C (ty:=0) zF (hs.mono (Kp.sub (H:=H) zK)) h1024 ⟨hd0,hd,hl',fun r hr z hz=>(hbt r hr z hz).sm (by omega)⟩) fun H2 hk2=>?_
  obtain ⟨k2,_,_⟩:=zT H zK hk2
  refine zW (az hl @aQ) ?_
  exact zK
 rintro T1 H1 hs1 ⟨t5,k1⟩
 have w1:=k1.wf
 have t0:ae T1 0=a:=(hs1.at_ 0 (by decide)).trans (zV (az hl g0))
 have t1:ae T1 1=s:=(hs1.at_ 1 (by decide)).trans (zV (az hl g1))
 have t4:ae T1 4=.nilSl:=(hs1.at_ 4 (by decide)).trans (zV hl)
 have hl1:T1.length=55:=hs1.len.trans (by simp only [List.length_set]; exact hl)
 refine OF (fun T' H'=>ae T' 4=.nilSl/\ae T' 5=.int .i64 0/\Kp H H') rfl ?_ ?_
 ·refine zW (aC hl1 t0 t1) ?_
  refine AnsH.eq (qQ C zF (ha.mono (Kp.sub (H:=H) zK)) (by omega) fun z hz=>(hxe z hz).sm (by omega)) fun H2 hk2=>?_
  obtain ⟨k2,_,_⟩:=zT H zK hk2
  rcases Nat.eq_zero_or_pos l.length with h0 | h0
  ·have hlv:lenV s=some (.int .i64 0):=by rw [hs.lenV,h0]; rfl
   refine zW (jm hl1 t0 t1 hlv t4 t5 @aQ) ?_
   exact zK
  ·obtain ⟨w0,hr0,hld0⟩:=cV (hs.mono k2.sub) h0
   have hix0:Ox 1 s (.int .i64 0)=some (al s 0):=SlV.idx1 hs .i64 0 h0
   have l0:lenV w0=some (.int .i64 (d:Int)):=by rw [hr0.lenV,hl' _ (List.getElem_mem h0)]
   have la:lenV a=some (.int .i64 (d:Int)):=by rw [ha.lenV,hx]
   have hpos:(0:Int)<(l.length:Int):=by omega
   refine zW (Ei hl1 t0 t1 hs.lenV hpos h0 hix0 hld0 l0 la t4 t5 @aQ) ?_
   exact zK
 rintro T2 H2 hs2 ⟨t4',t5',k2⟩
 have w2:=k2.wf
 have t0':ae T2 0=a:=(hs2.at_ 0 (by decide)).trans t0
 have t1':ae T2 1=s:=(hs2.at_ 1 (by decide)).trans t1
 have hl2:T2.length=55:=hs2.len.trans hl1
 refine WC.wb ?_
 refine zW (bg hl2 t0' t1' hs.lenV) ?_
 refine ak H [4] (fun j vs H'=>∃ o,vs=[o]/\xd H H' o ((l.take j).map fun r=>gI (Lin.dot x r))) (a:=0) (N:=l.length) rfl (by refine zW hl2 ?_; rfl) (zV hl2) (Nat.zero_le _) (by omega) (by simp only [List.length_set,hl2]; rfl) rfl (fun j vs H' m ⟨o,h1,h2⟩=>⟨o,h1,h2.mono (Sub.bump H' m)⟩) zK ⟨.nilSl,by exact zV (az hl2 t4'),Bl.nil⟩ ?_ ?_
 ·rintro j T3 H3 _ hj hl3 hi3 hs3 hk3 ⟨o,hv,ho⟩
  have w3:=hk3.wf
  have le_hk3:=hk3.le
  simp only [List.map_cons,List.map_nil,List.cons.injEq,and_true] at hv
  have t33:ae T3 33=s:=(hs3.at_ 33 (by decide)).trans (zV hl2)
  have t00:ae T3 0=a:=(hs3.at_ 0 (by decide)).trans (zV (az hl2 t0'))
  obtain ⟨w,hr,hld⟩:=cV (hs.mono hk3.sub) hj
  have hix:=SlV.idx1 hs .i64 j hj
  have hj':=List.getElem_mem hj
  have hlr:=hl' _ hj'
  simp only [List.length_set,hl2] at hl3
  refine zW (fW hl3 t33 t00 hi3 hix hld) ?_
  refine AnsH.use (qc C zF (ha.mono (Kp.sub (H:=H) zK)) (hr.mono (Kp.sub (H:=H3) zK)) (by omega) (by omega) hxe (hbt _ hj') hb) ?_
  rintro v H4 ⟨r,rfl,⟨w4,rfl,hr4⟩,hk4⟩
  obtain ⟨k34,_,_⟩:=zT H3 zK hk4
  have w4':=k34.wf
  have n4:H3.next+12<=H4.next:=hk4.le
  have f4:H4.get (H3.next+9)=none:=hk4.free (show _<H3.next+12 by omega) (w3.fresh (b:=H3.next+9) (by omega))
  have ow:=hr4.one
  have m9:NoTy [ad] H4 (H3.next+9):=NoTy.none f4
  refine zW (az hl3 hv) ?_
  refine AnsH.eq (whole_Sign C (x:=Lin.dot x l[j]) zF ⟨w4,rfl,SlV.monoT (E:=cB bX) zS hr4⟩ ((mY hxe (hbt _ hj') (by omega) (by omega)).sm hb)) fun H5 hk5=>?_
  obtain ⟨k35,_,_⟩:=zT H3 zK hk5
  have k5:Kp H H5:=hk3.trans k35
  have le_k5:=k5.le
  have ho5:=ho.mono k35.sub
  have hlen:((l.take j).map fun r=>gI (Lin.dot x r)).length=j:=by simp; omega
  obtain ⟨n,H6,e1,h2,k6,n6,-⟩:=Bl.push (ty2:=fL) (bytes:=8) (id:=H5.next+3) (id2:=H5.next+2) (k:=5) (cs:=[.int .i64 (gI (Lin.dot x l[j]))]) (a:=gI (Lin.dot x l[j])) ho5 (fun h=>by cases h) k5 ⟨_,rfl,rfl⟩ (by omega) (by omega) (by omega) (by omega) (by omega) (by omega) (by omega)
  have e1':OC ((H5.up 5).put (H5.next+2) (.cells [.int .i64 (gI (Lin.dot x l[j]))] fL true)) (H5.next+3) 1 8 fL o (.own (H5.next+2) 0 1 1 1 true)=some (.own (H5.next+3) 0 n n 1 false,H6):=e1
  refine zW (aC hl3 hv e1') ?_
  refine ⟨k6,_,rfl,?_⟩
  rw [List.take_succ_eq_append_getElem hj,List.map_append]
  exact h2
 ·rintro T3 H3 hl3 hs3 hk3 ⟨o,hv,ho⟩
  simp only [List.map_cons,List.map_nil,List.cons.injEq,and_true] at hv
  have t5'':ae T3 5=.int .i64 0:=(hs3.at_ 5 (by decide)).trans (zV (az hl2 t5'))
  simp only [List.length_set,hl2] at hl3
  rw [List.take_length] at ho
  refine zW (bg hl3 hv t5'' hrs) ?_
  exact ⟨o,rfl,ho,hk3⟩
end
section
variable {tab:Nat->Option aq} {base i k:Nat} {T0:Tm} {dst:Option Nat} {op:AOp} {us:List (Nat × Option Nat)} {adds:List Nat} {ds:List ir} {Vs:List AV} {Cs:List Heap} {Es:List (Option Ent)} {Q:DS->Prop}
theorem dM {t:Nat} {w:Bool}:WD tab base T0 i (⟨dst,op,some (t,w),us,2,[(k,adds)]⟩ :: ds) ⟨Vs,Cs,Es⟩ Q =
  iS (ae (bO T0 Vs us) t) w (jT tab (Src.ev (bO T0 Vs us)) (da base Es (Cs.getD k default) adds) (base+i) op fun v H'=>WD tab base T0 (i+1) ds ⟨Vs++[v],Cs++[H'],Es++[none]⟩ Q) (WD tab base T0 (i+1) ds ⟨Vs++[.tup []],Cs++[da base Es (Cs.getD k default) adds],Es++[none]⟩ Q) () ():=by
 rw [xc]
 have hw:bw (bO T0 Vs us) (some (t,w))=match ae (bO T0 Vs us) t with | .bool b=>some (b == w) | .tup []=>some false | _=>none:=by
  generalize bO T0 Vs us=T
  unfold ae
  rw [List.getD_eq_getElem?_getD]
  cases h:T[t]? with
  | none=>simp only [bw,h]; rfl
  | some v =>
   simp only [bw,h,Option.getD_some]
   cases v with
   | tup vs=>cases vs <;> rfl
   | _=>rfl
 conv=>lhs; unfold wd
 simp only [hw,iS]
 cases ae (bO T0 Vs us) t with
 | bool b=>cases b <;> cases w <;> rfl
 | tup vs=>cases vs <;> rfl
 | _=>rfl
end
def IO (a b:Nat):Nat:=(BitVec.ofNat 64 a &&& ~~~ BitVec.ofNat 64 b).toNat
theorem Mg (a b:Nat):IO a b<18446744073709551616:=(BitVec.ofNat 64 a &&& ~~~ BitVec.ofNat 64 b).isLt
theorem pf (a:Nat):BitVec.ofInt 64 (a:Int)=BitVec.ofNat 64 a:=by
 apply BitVec.eq_of_toNat_eq
 simp
theorem FO {a b:Nat} (ha:a<18446744073709551616) (hb:b<18446744073709551616):bP .and .int (.int .u64 (a:Int)) (.int .u64 (b:Int))=some (.int .u64 ((a &&& b:Nat):Int)):=by
 have e:(BitVec.ofInt 64 (a:Int) &&& BitVec.ofInt 64 (b:Int)).toNat=a &&& b:=by
  rw [pf,pf,BitVec.toNat_and,BitVec.toNat_ofNat,BitVec.toNat_ofNat,Nat.mod_eq_of_lt (by omega),Nat.mod_eq_of_lt (by omega)]
 have hlt:a &&& b<=a:=Nat.and_le_left
 show some (AV.int .u64 (IntKind.u64.wrap ((BitVec.ofInt 64 (a:Int) &&& BitVec.ofInt 64 (b:Int)).toNat:Nat)))=_
 rw [e,eW (by omega) (by omega)]
theorem zz (a b:Nat):bP .andNot .int (.int .u64 (a:Int)) (.int .u64 (b:Int))=some (.int .u64 ((IO a b:Nat):Int)):=by
 have hlt:=Mg a b
 show some (AV.int .u64 (IntKind.u64.wrap ((BitVec.ofInt 64 (a:Int) &&& ~~~ BitVec.ofInt 64 (b:Int)).toNat:Nat)))=_
 rw [pf,pf]
 show some (AV.int .u64 (IntKind.u64.wrap ((IO a b:Nat):Int)))=_
 rw [eW (by omega) (by omega)]
theorem IB {a b:Nat}:IO a b=0 ↔ ∀ j,j<64->a.testBit j=true->b.testBit j=true:=by
 unfold IO
 constructor
 ·intro h j hj ha
  have h1:(BitVec.ofNat 64 a &&& ~~~ BitVec.ofNat 64 b).getLsbD j=false:=by
   rw [<- BitVec.testBit_toNat,h]; simp
  rw [BitVec.getLsbD_and,BitVec.getLsbD_not,BitVec.getLsbD_ofNat,BitVec.getLsbD_ofNat,decide_eq_true hj] at h1
  simpa [ha] using h1
 ·intro h
  have h1:(BitVec.ofNat 64 a &&& ~~~ BitVec.ofNat 64 b)=0#64:=by
   apply BitVec.eq_of_getLsbD_eq
   intro j hj
   have:=h j hj
   rw [BitVec.getLsbD_and,BitVec.getLsbD_not,BitVec.getLsbD_ofNat,BitVec.getLsbD_ofNat,decide_eq_true hj]
   cases ha:a.testBit j with
   | false=>simp
   | true=>simp [this ha]
  rw [h1]; rfl
structure MaskUp (bs:List Bool) (k:Nat) (W:List Nat):Prop where
 len:W.length=bs.length / 64+1
 lt:∀ i,W.getD i 0<18446744073709551616
 bit:∀ i j,j<64->(W.getD i 0).testBit j=(decide (64*i+j<k) && bs.getD (64*i+j) false)
abbrev nl (bs:List Bool) (W:List Nat):Prop:=MaskUp bs bs.length W
theorem MaskUp.zero (bs:List Bool):MaskUp bs 0 (List.replicate (bs.length / 64+1) 0):=by
 have h0:∀ i,(List.replicate (bs.length / 64+1) 0).getD i 0=0:=fun i=>by
  rw [List.getD_eq_getElem?_getD,List.getElem?_replicate]; split <;> rfl
 exact ⟨by simp,fun i=>by rw [h0]; decide,fun i j _=>by rw [h0]; simp⟩
theorem MaskUp.skip {bs:List Bool} {k:Nat} {W:List Nat} (h:MaskUp bs k W) (hb:bs.getD k false=false):MaskUp bs (k+1) W:=by
 refine ⟨h.len,h.lt,fun i j hj=>?_⟩
 rw [h.bit i j hj]
 by_cases e:64*i+j=k
 ·rw [e,hb]; simp
 ·congr 2
  simp only [eq_iff_iff]
  omega
theorem MaskUp.mark {bs:List Bool} {k:Nat} {W:List Nat} (h:MaskUp bs k W) (hk:k<bs.length) (hb:bs.getD k false=true):MaskUp bs (k+1) (W.set (k / 64) (W.getD (k / 64) 0 ||| 2^(k % 64))):=by
 have hi:k / 64<W.length:=by rw [h.len]; have:=Nat.div_le_div_right (c:=64) (Nat.le_of_lt hk); omega
 have hp:(2:Nat)^(k % 64)<2^64:=Nat.pow_lt_pow_right (by decide) (Nat.mod_lt _ (by decide))
 have hg:∀ i,(W.set (k / 64) (W.getD (k / 64) 0 ||| 2^(k % 64))).getD i 0=if i=k / 64 then W.getD (k / 64) 0 ||| 2^(k % 64) else W.getD i 0:=fun i=>by
  rw [List.getD_eq_getElem?_getD,List.getElem?_set]
  by_cases e:k / 64=i
  ·subst e; rw [if_pos rfl,if_pos hi,if_pos rfl]; rfl
  ·rw [if_neg e,if_neg (fun e'=>e e'.symm),<- List.getD_eq_getElem?_getD]
 refine ⟨by rw [List.length_set]; exact h.len,fun i=>?_,fun i j hj=>?_⟩
 ·rw [hg]
  split
  ·have:=h.lt (k / 64)
   have h2:W.getD (k / 64) 0 ||| 2^(k % 64)<2^64:=Nat.or_lt_two_pow (by omega) hp
   omega
  ·exact h.lt i
 ·rw [hg]
  by_cases ei:i=k / 64
  ·rw [if_pos ei,Nat.testBit_or,<- ei,h.bit i j hj,Nat.testBit_two_pow]
   by_cases e:64*i+j=k
   ·have e2:k % 64=j:=by omega
    rw [e,hb,e2]; simp
   ·have e2:¬ k % 64=j:=by omega
    rw [decide_eq_false e2,Bool.or_false]
    congr 2
    simp only [eq_iff_iff]
    omega
  ·rw [if_neg ei,h.bit i j hj]
   have e:64*i+j≠k:=by omega
   congr 2
   simp only [eq_iff_iff]
   omega
def zk (bt ba bb:List Bool):Bool:=(List.range bt.length).all fun k=>!(ba.getD k false && bb.getD k false) || bt.getD k false
theorem AJ {bt ba bb:List Bool} {T A B:List Nat} (ht:nl bt T) (ha:nl ba A) (hb:nl bb B) (h1:ba.length=bt.length) (h2:bb.length=bt.length) :
  zk bt ba bb=true ↔ ∀ i,i<T.length->IO (A.getD i 0 &&& B.getD i 0) (T.getD i 0)=0:=by
 have key:∀ i,IO (A.getD i 0 &&& B.getD i 0) (T.getD i 0)=0 ↔ ∀ j,j<64->64*i+j<bt.length->ba.getD (64*i+j) false=true->bb.getD (64*i+j) false=true->bt.getD (64*i+j) false=true:=fun i=>by
  rw [IB]
  constructor
  ·intro h j hj hlt p q
   have:=h j hj (by rw [Nat.testBit_and,ha.bit i j hj,hb.bit i j hj,p,q,decide_eq_true (by omega),decide_eq_true (by omega)]; rfl)
   rw [ht.bit i j hj,Bool.and_eq_true] at this
   exact this.2
  ·intro h j hj hab
   rw [Nat.testBit_and,ha.bit i j hj,hb.bit i j hj] at hab
   simp only [Bool.and_eq_true,decide_eq_true_eq] at hab
   rw [ht.bit i j hj,Bool.and_eq_true,decide_eq_true_eq]
   exact ⟨by omega,h j hj (by omega) hab.1.2 hab.2.2⟩
 unfold zk
 rw [List.all_eq_true]
 constructor
 ·intro h i _
  rw [key]
  intro j _ hlt p q
  have:=h (64*i+j) (by simpa using hlt)
  rw [p,q] at this
  simpa using this
 ·intro h k hk
  have hk:k<bt.length:=by simpa using hk
  have hlt:k / 64<T.length:=by rw [ht.len]; have:=Nat.div_le_div_right (c:=64) (Nat.le_of_lt hk); omega
  have hm:=(key (k / 64)).1 (h _ hlt) (k % 64) (Nat.mod_lt _ (by decide))
  rw [Nat.div_add_mod] at hm
  cases p:ba.getD k false with
  | false=>simp
  | true =>
   cases q:bb.getD k false with
   | false=>simp
   | true=>simpa using hm hk p q
section
variable {tab:Nat->Option aq} {H:Heap} {s:AV}
theorem cone_has (C:Code tab) (hw:Wf H) {vt va vb:AV} {bt ba bb:List Bool} {Tw A Bw:List Nat} (ht:Lb H vt Tw) (ha:Lb H va A) (hb:Lb H vb Bw) (mt:nl bt Tw) (ma:nl ba A) (mb:nl bb Bw) (h1:ba.length=bt.length) (h2:bb.length=bt.length) (hbig:bt.length<1099511627776) :
  Ans tab (.fn qw [vt,va,vb]) H fun v H'=>v=.bool (zk bt ba bb)/\Kp H H':=by
 refine Qg C.cone_has (by decide) fun T hl g0 g1 g2=>?_
 have hlt:=mt.len
 have hla:=ma.len
 have hlb:=mb.len
 rw [h1] at hla
 rw [h2] at hlb
 have hdiv:bt.length / 64<=bt.length:=Nat.div_le_self _ _
 refine zW (cJ hl g0 g1 g2 ht.lenV) ?_
 refine ak H [] (fun j _ _=>∀ i,i<j->IO (A.getD i 0 &&& Bw.getD i 0) (Tw.getD i 0)=0) (a:=0) (N:=Tw.length) rfl (by refine zW (bg hl g0 g1 g2) ?_; rfl) (zV (bg hl g0 g1 g2)) (Nat.zero_le _) (by omega) (by simp only [List.length_set,hl]; rfl) rfl (fun _ _ _ _ h=>h) zK (fun i h=>by omega) ?_ ?_
 ·intro j T1 H1 _ hj hl1 hi1 hs1 hk1 hP
  have w1:=hk1.wf
  have le_hk1:=hk1.le
  have t9:ae T1 9=vt:=(hs1.at_ 9 (by decide)).trans (zV (bg hl g0 g1 g2))
  have t1:ae T1 1=va:=(hs1.at_ 1 (by decide)).trans (zV (bg hl g0 g1 g2))
  have t2:ae T1 2=vb:=(hs1.at_ 2 (by decide)).trans (zV (bg hl g0 g1 g2))
  have x0:=SlV.idx1 ht .i64 j hj
  have x1:=SlV.idx1 ha .i64 j (by omega)
  have x2:=SlV.idx1 hb .i64 j (by omega)
  have d0:=dO (ht.mono hk1.sub) hj
  have d1:=dO (ha.mono hk1.sub) (i:=j) (by omega)
  have d2:=dO (hb.mono hk1.sub) (i:=j) (by omega)
  have la:=ma.lt j
  have lb:=mb.lt j
  have ba':=FO la lb
  have bn:=zz (A.getD j 0 &&& Bw.getD j 0) (Tw.getD j 0)
  simp only [List.length_set,hl] at hl1
  refine zW (cJ hl1 t9 hi1 x0 d0) ?_
  refine aO ?_
  refine zD (p9 hl1 t9 t1 t2 hi1 x1 x2 d1 d2 ba' bn) ?_
  refine iteH.split (fun hz=>?_) fun hz=>?_
  ·have hz':¬ IO (A.getD j 0 &&& Bw.getD j 0) (Tw.getD j 0)=0:=by omega
   simp only [gM,iN,gL,jM,List.nil_append,List.cons_append,pt,nk,List.getLastD_cons,List.getLastD_nil,List.getD_cons_zero,List.getD_cons_succ]
   refine zW hl1 ?_
   refine ⟨?_,zK⟩
   cases hh:zk bt ba bb with
   | false=>rfl
   | true=>exact absurd ((AJ mt ma mb h1 h2).1 hh j hj) hz'
  ·have hz':IO (A.getD j 0 &&& Bw.getD j 0) (Tw.getD j 0)=0:=by omega
   simp only [gM,iN,gL,jM,List.nil_append,List.cons_append,pt,nk,List.getLastD_cons,List.getLastD_nil,List.getD_cons_zero,List.getD_cons_succ]
   refine zW hl1 ?_
   refine ⟨zK,fun i hi=>?_⟩
   by_cases e:i=j
   ·subst e; exact hz'
   ·exact hP i (by omega)
 ·intro T1 H1 hl1 hs1 hk1 hP
  simp only [List.length_set,hl] at hl1
  refine zW hl1 ?_
  exact ⟨by rw [(AJ mt ma mb h1 h2).2 hP],zK⟩
end
theorem Ku {k:Nat} (hk:k<4611686018427387904):bP .quo .int (.int .i64 (k:Int)) (.int .i64 64)=some (.int .i64 ((k / 64:Nat):Int)):=Hi (c:=64) (by omega) hk
theorem Mz (k:Nat):bP .rem .int (.int .i64 (k:Int)) (.int .i64 64)=some (.int .i64 ((k % 64:Nat):Int)):=Hf (c:=64) (by omega)
def zeros (r:List Int) (D:List (List Int)):List Bool:=D.map fun b=>decide (Lin.dot r b=0)
theorem QZ (r:List Int) (D:List (List Int)):(zeros r D).length=D.length:=by simp [zeros]
theorem gq (x:Int):gI x=0 ↔ x=0:=by unfold gI; split <;> (try split) <;> omega
section
variable {tab:Nat->Option aq} {H:Heap} {s:AV}
theorem FF (C:Code tab) (hw:Wf H) {ub:Nat} {ql qr qd vr:AV} {r:List Int} {D:List (List Int)} {d e f:Nat} (hub:H.get ub=some (.cells [ql,qr,qd] aN true)) (hqd:cI H qd D) (hr:RowV H vr r) (h1024:D.length<=1024) (hd0:0<d) (hd:d<=64) (hrl:r.length=d) (hDl:∀ x∈D,x.length=d) (hre:∀ z∈r,Bt e z) (hDf:∀ x∈D,∀ z∈x,Bt f z) (hb:e+f+7<=8796093022208) :
  Ans tab (.fn OW [.ptr ub 0,vr]) H fun v H'=>∃ W,Lb H' v W/\nl (zeros r D) W/\Kp H H':=by
 refine ca C.P_cone_under_mask (by decide) fun T hl g0 g1=>?_
 have lub:=hw _ _ hub
 have hq:=Ku (k:=D.length) (by omega)
 have hdiv:D.length / 64<=D.length:=Nat.div_le_self _ _
 have e1:IntKind.i64.wrap (((D.length / 64:Nat):Int)+1)=((D.length / 64+1:Nat):Int):=by rw [wrap_i64] <;> omega
 have hmk:∀ H':Heap,E3 H' (H.next+8) ad 1 8 [.int .u64 0] (.int .i64 ((D.length / 64+1:Nat):Int)) (.int .i64 ((D.length / 64+1:Nat):Int))=some (.own (H.next+8) 0 (D.length / 64+1) (D.length / 64+1) 1 true,H'.put (H.next+8) (.cells ((List.replicate (D.length / 64+1) [AV.int .u64 0]).flatten) ad true)):=fun H'=>iZ _ _ _ _ _ _ _ _ _ (by omega) (by omega) rfl
 refine zW (mw hl g0 g1 hub hqd.lenV hq e1 hmk) ?_
 refine AnsH.use (sat_Signs C zF (hr.mono (Kp.sub (H:=H) zK)) (hqd.mono (Kp.sub (H:=H) zK)) h1024 hd0 hd hrl hDl hre hDf hb) ?_
 rintro v H2 ⟨q,rfl,hq2,hk2⟩
 obtain ⟨k2,_,w2⟩:=zT H zK hk2
 have b0:=hk2.get (b:=H.next+8) (e:=.cells (aI (List.replicate (D.length / 64+1) 0)) ad true) (dC)
 have hsl:=hq2.sl
 have hzl:=QZ r D
 refine zW (cJ hl g0 g1 hsl.lenV @List.length_map.{0,0}) ?_
 have hq2':SlV (cB (zi .i64)) fL H2 q (D.map fun b=>gI (Lin.dot r b)):=hsl
 refine ak H [] (fun j _ H'=>∃ W,H'.get (H.next+8)=some (.cells (aI W) ad true)/\MaskUp (zeros r D) j W/\SlV (cB (zi .i64)) fL H' q (D.map fun b=>gI (Lin.dot r b))) (a:=0) (N:=D.length) rfl (by refine zW (aC hl g0 g1) ?_; rfl) (zV (aC hl g0 g1)) (Nat.zero_le _) (by omega) (by simp only [List.length_set,hl]; rfl) rfl (fun j vs H' m ⟨W,h1,h2,h3⟩=>⟨W,h1,h2,h3.mono (Sub.bump H' m)⟩) zK ⟨_,by exact b0,by rw [<- hzl]; exact MaskUp.zero _,hq2'.mono (Sub.bump H2 _)⟩ ?_ ?_
 ·rintro j T1 H1 _ hj hl1 hi1 hs1 hk1 ⟨W,hW,mW,hsW⟩
  have w1:=hk1.wf
  have le_hk1:=hk1.le
  have lt8:=w1 _ _ hW
  have t27:ae T1 27=q:=(hs1.at_ 27 (by decide)).trans (zV (aC hl g0 g1))
  have t5:ae T1 5=.own (H.next+8) 0 (D.length / 64+1) (D.length / 64+1) 1 true:=(hs1.at_ 5 (by decide)).trans (zV (aC hl g0 g1))
  have hsj:(D.map fun b=>gI (Lin.dot r b))[j]? = some (gI (Lin.dot r D[j])):=by simp [hj]
  obtain ⟨c,hc,hld⟩:=SlV.at1 hsW hsj
  have hc:c=.int .i64 (gI (Lin.dot r D[j])):=hc
  rw [hc] at hld
  have hix:=SlV.idx1 hsW .i64 j (by simp; exact hj)
  have hgz:(zeros r D).getD j false=decide (Lin.dot r D[j]=0):=by simp [zeros,hj]
  have hWl:=mW.len
  rw [hzl] at hWl
  have hj64:j / 64<D.length / 64+1:=by have:=Nat.div_le_div_right (c:=64) (Nat.le_of_lt hj); omega
  have hj64':j / 64<W.length:=by omega
  have hq':=Ku (k:=j) (by omega)
  have hr':=Mz j
  have hmod:j % 64<64:=Nat.mod_lt _ (by decide)
  have hsh:=Bi (r:=j % 64) hmod (k:=.i64)
  have hp:(2:Nat)^(j % 64)<2^64:=Nat.pow_lt_pow_right (by decide) hmod
  have hor:=rC (mW.lt (j / 64)) (b:=2^(j % 64)) (by omega)
  simp only [List.length_set,hl] at hl1
  refine zW (cJ hl1 t27 hi1 hix hld) ?_
  refine iteH.split (fun h=>?_) fun h=>?_
  ·have hz:=(gq _).1 h
   refine aO ?_
   refine zD (nE hl1 t5 hi1 hq' hr' hsh hor hW hj64 hj64') ?_
   have m8:NoTy [fL] H1 (H.next+8):=NoTy.ty hW (by decide)
   refine ⟨zK,_,rfl,mW.mark (by rw [hzl]; exact hj) (by rw [hgz,decide_eq_true hz]),SlV.monoT (E:=cB (zi .i64)) zS hsW⟩
  ·have hz:¬ Lin.dot r D[j]=0:=fun e=>h ((gq _).2 e)
   refine zW hl1 ?_
   exact ⟨zK,W,hW,mW.skip (by rw [hgz,decide_eq_false hz]),hsW.mono (Sub.bump H1 _)⟩
 ·rintro T1 H1 hl1 hs1 hk1 ⟨W,hW,mW,hsW⟩
  have w1:=hk1.wf
  have le_hk1:=hk1.le
  have t5:ae T1 5=.own (H.next+8) 0 (D.length / 64+1) (D.length / 64+1) 1 true:=(hs1.at_ 5 (by decide)).trans (zV (aC hl g0 g1))
  simp only [List.length_set,hl] at hl1
  have hWl:=mW.len
  rw [hzl] at hWl
  refine zW (az hl1 t5) ?_
  rw [<- hzl] at mW
  exact ⟨W,(rc (H0:=H) hW (by omega) hWl).sl.mono (Sub.bump H1 _),mW,zK⟩
abbrev Mj (H:Heap) (v:AV) (Ws:List (List Nat)):Prop:=tX (pE (cB bX) ad) dG H v Ws
def vC (zs:List (List Bool)) (i k:Nat):Bool:=(List.range zs.length).all fun t=>t == i || t == k || !zk (zs.getD t []) (zs.getD i []) (zs.getD k [])
theorem cone_near (C:Code tab) (hw:Wf H) {vm:AV} {Ws:List (List Nat)} {zs:List (List Bool)} {n i k:Nat} (hm:Mj H vm Ws) (hl':Ws.length=zs.length) (hok:∀ t (h:t<zs.length) (h':t<Ws.length),nl zs[t] Ws[t]) (hn:∀ z∈zs,z.length=n) (hbig:n<1099511627776) (hbig2:zs.length<1099511627776) (hi:i<zs.length) (hk:k<zs.length) :
  Ans tab (.fn kE [vm,.int .i64 (i:Int),.int .i64 (k:Int)]) H fun v H'=>v=.bool (vC zs i k)/\Kp H H':=by
 refine Qg C.cone_near (by decide) fun T hl g0 g1 g2=>?_
 refine zW (cJ hl g0 g1 g2 hm.lenV) ?_
 refine ak H [] (fun j _ _=>∀ t,t<j->(t == i || t == k || !zk (zs.getD t []) (zs.getD i []) (zs.getD k []))=true) (a:=0) (N:=Ws.length) rfl (by refine zW (bg hl g0 g1 g2) ?_; rfl) (zV (bg hl g0 g1 g2)) (Nat.zero_le _) (by omega) (by simp only [List.length_set,hl]; rfl) rfl (fun _ _ _ _ h=>h) zK (fun i h=>by omega) ?_ ?_
 ·rintro j T1 H1 _ hj hl1 hi1 hs1 hk1 hP
  have w1:=hk1.wf
  have le_hk1:=hk1.le
  have t9:ae T1 9=vm:=(hs1.at_ 9 (by decide)).trans (zV (bg hl g0 g1 g2))
  have t0:ae T1 0=vm:=(hs1.at_ 0 (by decide)).trans (zV (bg hl g0 g1 g2))
  have t1:ae T1 1=.int .i64 (i:Int):=(hs1.at_ 1 (by decide)).trans (zV (bg hl g0 g1 g2))
  have t2:ae T1 2=.int .i64 (k:Int):=(hs1.at_ 2 (by decide)).trans (zV (bg hl g0 g1 g2))
  have hm1:=hm.mono hk1.sub
  have hi':i<Ws.length:=by omega
  have hk':k<Ws.length:=by omega
  have hj':j<zs.length:=by omega
  obtain ⟨wj,hrj,hldj⟩:=SlV.at1 hm1 (List.getElem?_eq_getElem hj)
  obtain ⟨wi,hri,hldi⟩:=SlV.at1 hm1 (List.getElem?_eq_getElem hi')
  obtain ⟨wk,hrk,hldk⟩:=SlV.at1 hm1 (List.getElem?_eq_getElem hk')
  have hrj:Lb H1 wj Ws[j]:=hrj
  have hri:Lb H1 wi Ws[i]:=hri
  have hrk:Lb H1 wk Ws[k]:=hrk
  have xj:=SlV.idx1 hm .i64 j hj
  have xi:=SlV.idx1 hm .i64 i hi'
  have xk:=SlV.idx1 hm .i64 k hk'
  have gj:zs.getD j []=zs[j]:=by simp [hj']
  have gi:zs.getD i []=zs[i]:=by simp [hi]
  have gk:zs.getD k []=zs[k]:=by simp [hk]
  simp only [List.length_set,hl] at hl1
  refine zW (cJ hl1 t9 hi1 xj hldj) ?_
  refine aO ?_
  by_cases hji:j=i
  ·subst hji
   refine zD (jm hl1 t0 t1 t2 hi1 @dM @bQ) ?_
   refine ⟨zK,fun t ht=>?_⟩
   by_cases e:t=j
   ·subst e; simp
   ·exact hP t (by omega)
  ·have hji':¬ (j:Int)=(i:Int):=by omega
   by_cases hjk:j=k
   ·subst hjk
    refine zD (kU hl1 t0 t1 t2 hi1 @dM @bQ hji hji') ?_
    refine ⟨zK,fun t ht=>?_⟩
    by_cases e:t=j
    ·subst e; simp
    ·exact hP t (by omega)
   ·have hjk':¬ (j:Int)=(k:Int):=by omega
    refine zD (KN hl1 t0 t1 t2 hi1 @dM @bQ hji hji' hjk hjk' xi xk hldi hldk) ?_
    have lj:=hn _ (List.getElem_mem hj')
    have li:=hn _ (List.getElem_mem hi)
    have lk:=hn _ (List.getElem_mem hk)
    refine AnsH.eq (cone_has C zF (hrj.mono (Kp.sub (H:=H1) zK)) (hri.mono (Kp.sub (H:=H1) zK)) (hrk.mono (Kp.sub (H:=H1) zK)) (hok j hj' hj) (hok i hi hi') (hok k hk hk') (by omega) (by omega) (by omega)) fun H2 hk2=>?_
    obtain ⟨k2,_,_⟩:=zT H1 zK hk2
    have k02:Kp H H2:=hk1.trans k2
    have le_k02:=k02.le
    cases hh:zk zs[j] zs[i] zs[k] with
    | true =>
     refine zD (KN hl1 t0 t1 t2 hi1 @dM @bQ hji hji' hjk hjk' xi xk hldi hldk) ?_
     refine ⟨?_,zK⟩
     cases hn':vC zs i k with
     | false=>rfl
     | true =>
      unfold vC at hn'
      rw [List.all_eq_true] at hn'
      have:=hn' j (by simpa using hj')
      rw [gj,gi,gk,hh] at this
      simp [hji,hjk] at this
    | false =>
     refine zD (KN hl1 t0 t1 t2 hi1 @dM @bQ hji hji' hjk hjk' xi xk hldi hldk) ?_
     refine ⟨zK,fun t ht=>?_⟩
     by_cases e:t=j
     ·subst e; rw [gj,gi,gk,hh]; simp
     ·exact hP t (by omega)
 ·rintro T1 H1 hl1 hs1 hk1 hP
  simp only [List.length_set,hl] at hl1
  refine zW hl1 ?_
  refine ⟨?_,zK⟩
  have:vC zs i k=true:=by
   unfold vC
   rw [List.all_eq_true]
   intro t ht
   exact hP t (by simp at ht; omega)
  rw [this]
end
theorem Gh {tab:Nat->Option aq} (ev:Src->AV) (H:Heap) (id:Nat) (Q:AV->Heap->Prop) (size:Nat) (z:List AV) (x:Src) :
  jT tab ev H id (.clear size z x) Q=Pa (oI H size z (ev x)) (fun H'=>Q (.tup []) H') ():=by
 rw [bU,fC tab ev H id Q (o:=.clear size z x) (fun f a e=>by cases e) rfl]
 show Pk ((oI H size z (ev x)).map fun H'=>(AV.tup [],H')) _=_
 cases oI H size z (ev x) <;> rfl
theorem Kp.at_ {H0 H H':Heap} {b:Nat} (hk:Kp H0 H) (hg:∀ c,c≠b->H'.get c=H.get c) (hn:H'.next=H.next) (hb0:H0.next<=b) (hlt:b<H.next):Kp H0 H' :=
 ⟨hk.wf0,fun c e hc=>by
  by_cases h:c=b
  ·rw [h,hn]; exact hlt
  ·rw [hn]; exact hk.wf c e (by rw [<- hg c h]; exact hc),by rw [hn]; exact hk.le,fun c hc=>by rw [hg c (by omega)]; exact hk.same c hc⟩
section
variable {tab:Nat->Option aq} {H:Heap} {s:AV}
theorem oV (C:Code tab) (hw:Wf H) {fi:Nat} {first caps:List AV} {l:List (List Int)} (hs:cI H s l) (hbig:l.length<4611686018427387904) (p:List Int->Bool)
  (hf:∀ r∈l,∀ H' w,Kp H H'->RowV H' w r->Ans tab (.fn fi (first++[w]++caps)) H' fun v H2=>v=.bool (p r)/\Kp H' H2) :
  Ans tab (.fn bR [s,.fn (.func fi) first caps]) H fun v H'=>v=.int .i64 (mf p l)/\Kp H H':=by
 refine ca C.slices_IndexFunc_Sl_api_Vec_api_Vec (by decide) fun T hl g0 g1=>?_
 refine zW (bg hl g0 g1 hs.lenV) ?_
 refine ak H [] (fun j _ _=>∀ k (h:k<l.length),k<j->p l[k]=false) (a:=0) (N:=l.length) rfl (by refine zW (aC hl g0 g1) ?_; rfl) (zV (aC hl g0 g1)) (Nat.zero_le _) (by omega) (by simp only [List.length_set,hl]; rfl) rfl (fun _ _ _ _ h=>h) zK (fun k _ h=>by omega) ?_ ?_
 ·intro j T1 H1 _ hj hl1 hi1 hs1 hk1 hP
  have w1:=hk1.wf
  have le_hk1:=hk1.le
  have t0:ae T1 0=s:=(hs1.at_ 0 (by decide)).trans (zV (aC hl g0 g1))
  have t1:ae T1 1=.fn (.func fi) first caps:=(hs1.at_ 1 (by decide)).trans (zV (aC hl g0 g1))
  obtain ⟨w,hr,hld⟩:=cV (hs.mono hk1.sub) hj
  have hix:=SlV.idx1 hs .i64 j hj
  simp only [List.length_set,hl] at hl1
  refine zW (fW hl1 t0 t1 hi1 hix hld) ?_
  refine AnsH.eq (hf _ (List.getElem_mem hj) _ w zK (hr.mono (Kp.sub (H:=H1) zK))) fun H2 hk2=>?_
  obtain ⟨k2,_,_⟩:=zT H zK hk2
  cases hp:p l[j] with
  | true =>
   refine zW hl1 ?_
   exact ⟨by rw [sq hj hP hp],zK⟩
  | false =>
   refine zW hl1 ?_
   refine ⟨zK,fun k h hk=>?_⟩
   by_cases e:k=j
   ·subst e; exact hp
   ·exact hP k h (by omega)
 ·intro T1 H1 hl1 hs1 hk1 hP
  simp only [List.length_set,hl] at hl1
  refine zW hl1 ?_
  exact ⟨by rw [qC fun k h=>hP k h h],zK⟩
theorem CZ (C:Code tab) (hw:Wf H) {l:List (List Int)} (hs:cI H s l) (h0:0<l.length) (hbig:l.length<1099511627776):Ans tab (.fn cr [s]) H fun v H'=>Kp H H'/\∃ b,Own rowsE af H H' b false v l:=by
 refine OD C.slices_Clone_Sl_api_Vec_api_Vec (by decide) fun T hl g0=>?_
 rcases hs.nilcase with ⟨rfl,rfl⟩ | hne
 ·simp at h0
 ·have ef:cM ([]:List AV) []=some []:=rfl
  refine zW (bg hl g0 hne ef) ?_
  have k1:Kp H ((H.up 7).put (H.next+3) (.cells [] af true)):=zK
  have le_k1:=k1.le
  have hz:SlV rowsE af ((H.up 7).put (H.next+3) (.cells [] af true)) (.own (H.next+3) 0 0 0 1 true) ([]:List (List Int)) :=
   (show Own rowsE af H _ (H.next+3) true _ [] from ⟨_,rfl,aA _ _ _,Cells.nil _ _,by omega⟩).sl
  obtain ⟨v',H2,e1,h2,hk2,hn2,hs2,ho⟩:=SlV.app (l:=[]) (id:=H.next+5) (bytes:=24) hz k1 (hs.mono k1.sub) (by omega) (by show _<H.next+7; omega) (by rw [au (by omega)]; exact hw.fresh (b:=H.next+5) (by omega)) (by simp; omega) (by simp; omega)
  have e1':OC ((H.up 7).put (H.next+3) (.cells [] af true)) (H.next+5) 1 24 af (.own (H.next+3) 0 0 0 1 true) s=some (v',H2):=e1
  refine zW (aC hl g0 e1') ?_
  exact ⟨hk2,_,ho h0⟩
theorem J7 {H':Heap} {b n i:Nat} {cells:List AV} (hb:H'.get b=some (.cells cells af true)) (hn:cells.length=n) (hi:i<n) (hbig:n<1099511627776) (hones:cells.all AV.one=true) :
  ∃ y H2 cells2,cR 1 (.own b 0 n n 1 false) (some (.int .i64 ((i+1:Nat):Int))) none none=some y/\(∀ id,OC H' id 1 24 af (.own b 0 i n 1 false) y=some (.own b 0 (n-1) n 1 false,H2))/\H2.get b=some (.cells cells2 af true)/\cells2.take (n-1)=cells.eraseIdx i/\cells2.length=n/\(∀ c,c≠b->H2.get c=H'.get c)/\H2.next=H'.next:=by
 have he:cells.eraseIdx i=cells.take i++cells.drop (i+1):=List.eraseIdx_eq_take_drop_succ ..
 by_cases h:i+1<n
 ·refine ⟨.own b (0+(i+1)*1) (n-(i+1)) (n-(i+1)) 1 false,H'.put b (.cells (cells.take (0+i*1)++cells.drop (i+1)++cells.drop (0+i*1+(n-(i+1))*1)) af true),_,?_,fun id=>?_,aA _ _ _,?_,?_,fun c hc=>au hc,rfl⟩
  ·show bH 1 (.own b 0 n n 1 false) (some (.int .i64 ((i+1:Nat):Int))) none none=_
   simp only [bH,eS,ne_eq,not_true_eq_false,if_false,Option.bind_eq_bind,Option.bind_some,Option.map_none,Option.map_some,Option.getD_none,Option.getD_some]
   rw [if_pos ⟨Nat.le_refl _,by omega⟩,if_pos (.inl h)]
  ·have hf:aJ H' 1 (n-(i+1)) (.own b (0+(i+1)*1) (n-(i+1)) (n-(i+1)) 1 false)=some (cells.drop (i+1)):=by
    simp only [aJ,hb]
    rw [if_pos ⟨trivial,Nat.le_refl _,by omega⟩]
    rw [List.take_of_length_le (by simp; omega)]
    simp
   have hones2:(cells.drop (i+1)).all AV.one=true:=by
    rw [List.all_eq_true] at hones ⊢
    exact fun x hx=>hones x (List.mem_of_mem_drop hx)
   unfold OC
   simp only [fI]
   rw [hf]
   simp only [cE,hb]
   rw [if_pos ⟨trivial,by omega,by omega,trivial,by omega⟩,if_pos (by omega),if_neg (by omega),if_pos ⟨trivial,hones2⟩]
   congr 3
   omega
  ·rw [he,List.take_append_of_le_length (by simp; omega),List.take_of_length_le (by simp; omega)]
   simp
  ·simp; omega
 ·have hi':n=i+1:=by omega
  refine ⟨.sl [] 0,H',cells,?_,fun id=>?_,hb,?_,hn,fun _ _=>rfl,rfl⟩
  ·show bH 1 (.own b 0 n n 1 false) (some (.int .i64 ((i+1:Nat):Int))) none none=_
   simp only [bH,eS,ne_eq,not_true_eq_false,if_false,Option.bind_eq_bind,Option.bind_some,Option.map_none,Option.map_some,Option.getD_none,Option.getD_some]
   rw [if_pos ⟨Nat.le_refl _,by omega⟩,if_neg (by omega)]
   simp
  ·unfold OC
   simp only [fI,aJ]
   simp only [cE,hb]
   simp
   refine ⟨by omega,?_⟩
   have e:n-1=i:=by omega
   rw [if_pos (by omega),e]
  ·rw [he,List.drop_eq_nil_of_le (by omega),List.append_nil]
   congr 1
   omega
theorem Bx (C:Code tab) {H0:Heap} {v:AV} {l:List (List Int)} {i b:Nat} (hk:Kp H0 H) (hs:Own rowsE af H0 H b false v l) (hi:i<l.length) (hbig:l.length<1099511627776) :
  Ans tab (.fn Oy [v,.int .i64 (i:Int),.int .i64 ((i+1:Nat):Int)]) H fun v' H'=>v'=.own b 0 (l.length-1) l.length 1 false/\Kp H0 H'/\(∃ cells,H'.get b=some (.cells cells af true)/\cells.length=l.length/\Cells rowsE H' (cells.take (l.length-1)) (l.eraseIdx i))/\∀ c,c≠b->H'.get c=H.get c:=by
 obtain ⟨cells,hv,hb,hcl,hb0⟩:=hs
 have hv:v=.own b 0 l.length l.length 1 false:=hv
 subst hv
 have hn:cells.length=l.length:=by have:=hcl.1; simpa [cB] using this
 have hlt:=hk.wf _ _ hb
 have hones:=hcl.ones
 obtain ⟨n,hln⟩:∃ n,l.length=n:=⟨_,rfl⟩
 rw [hln] at hn hi hbig ⊢
 refine Qg C.slices_Delete_Sl_api_Vec_api_Vec (by decide) fun T hl g0 g1 g2=>?_
 have e13:cR 1 (.own b 0 n n 1 false) (some (.int .i64 (i:Int))) (some (.int .i64 ((i+1:Nat):Int))) (some (.int .i64 (n:Int)))=some (.own b (0+i*1) (i+1-i) (n-i) 1 true):=by
  simp only [cR,bH,eS,ne_eq,not_true_eq_false,if_false,Option.bind_eq_bind,Option.bind_some,Option.map_none,Option.map_some,Option.getD_none,Option.getD_some]
  rw [if_pos ⟨Nat.le_refl _,by omega,by omega⟩,if_neg (by omega)]
 have hne1:¬ (i:Int)=((i+1:Nat):Int):=by omega
 have hne2:¬ i=i+1:=by omega
 have x22:=B9 b 0 n n 1 i false .i64 (Nat.le_of_lt hi)
 obtain ⟨y,H2,cells2,hy,happ,q2,qt,ql,qo,qn⟩:=J7 (H':=H.up 21) (b:=b) (i:=i) hb hn hi hbig hones
 have hsl:cR 1 (.own b 0 (n-1) n 1 false) (some (.int .i64 ((n-1:Nat):Int))) (some (.int .i64 (n:Int))) none=some (.own b (n-1) 1 1 1 false):=by
  simp only [cR,bH,eS,ne_eq,not_true_eq_false,if_false,Option.bind_eq_bind,Option.bind_some,Option.map_none,Option.map_some,Option.getD_none,Option.getD_some]
  rw [if_pos ⟨Nat.le_refl _,by omega⟩,if_pos (.inl (by omega))]
  congr 2 <;> omega
 have hclr:∀ X:Heap,X.get b=some (.cells cells2 af true)->oI X 1 [.nilSl] (.own b (n-1) 1 1 1 false)=some (X.put b (.cells (cells2.take (n-1)++(List.replicate 1 [AV.nilSl]).flatten++cells2.drop (n-1+1*1)) af true)):=fun X hX=>by
  simp only [oI,hX]
  rw [if_neg (by omega),if_pos ⟨trivial,by omega,rfl,rfl⟩]
 have hclr2:=hclr (H2.up 6) q2
 refine zW (jm hl g0 g1 g2 e13 hne1 hne2) ?_
 refine aO ?_
 simp -dsimp (maxSteps:=1000000) (disch:=(first | omega | assumption | exact aF _ | exact aR _ _ | exact aV | exact bB _ _ _ | exact aY _ _ | exact aU _ _ _ _ _ _ | exact bI _ _ | exact bc _)) only [↓nD,nC,↓BH,BG,Nat.reduceLT,Nat.reduceEqDiff,Nat.reduceAdd,reduceIte,reduceCtorEq,Nat.reduceBEq,Int.reduceEq,Int.reduceLT,Int.reduceLE,Int.reduceAdd,Int.reduceSub,hl,g0,g1,g2,x22,hy,happ,Dr,hsl,↓Gh,hclr2]
 obtain ⟨cells3,hc3⟩:∃ c,c=cells2.take (n-1)++(List.replicate 1 [AV.nilSl]).flatten++cells2.drop (n-1+1):=⟨_,rfl⟩
 rw [<- hc3]
 have k2:Kp H0 H2:=(hk.up 21).at_ qo qn hb0 (by show b<H.next+21; omega)
 have le_k2:=k2.le
 have lt2:b<H2.next:=by rw [qn]; show _<H.next+21; omega
 have sH:SubT (pE intE aa).tys H ((H2.up 8).put b (.cells cells3 af true)):=fun c cs t r ht hc=>by
  have hcb:c≠b:=fun e=>by
   subst e
   rw [hb] at hc; cases hc
   revert ht; decide
  rw [au hcb]
  exact (qo c hcb).trans hc
 have ht3:cells3.take (n-1)=cells.eraseIdx i:=by
  rw [hc3,List.append_assoc,List.take_append_of_le_length (by simp; omega),List.take_of_length_le (by simp; omega),qt]
 have hl3:cells3.length=n:=by rw [hc3]; simp; omega
 refine ⟨zK,⟨cells3,rfl,hl3,?_⟩,fun c hc=>?_⟩
 ·rw [ht3,List.eraseIdx_eq_take_drop_succ,List.eraseIdx_eq_take_drop_succ]
  have h1:=(hcl.mono sH).take (n:=i) (by omega)
  have h2:=(hcl.mono sH).drop (i+1)
  have h3:=h1.append h2
  have es:rowsE.sz=1:=rfl
  rw [es,Nat.mul_one,Nat.mul_one] at h3
  exact h3
 ·rw [au hc]; exact qo c hc
end
def Sep (v w:AV):Prop:=∀ b,iH v=some b->iH w≠some b
theorem Sep.symm {v w:AV} (h:Sep v w):Sep w v:=fun b h1 h2=>h b h2 h1
def Wr (H0 H:Heap) (v:AV) (l:List (List Int)) (c:Nat):Prop :=
 (v=.nilSl/\l=[])\/∃ b cells,v=.own b 0 l.length c 1 false/\H.get b=some (.cells cells af true)/\cells.length=c/\l.length<=c/\Cells rowsE H (cells.take l.length) l/\H0.next<=b
theorem Wr.sl {H0 H:Heap} {v:AV} {l:List (List Int)} {c:Nat} (h:Wr H0 H v l c):cI H v l:=by
 rcases h with ⟨rfl,rfl⟩ | ⟨b,cells,rfl,hb,hc,hl,hcl,-⟩
 ·exact SlV.nil _ _ _
 ·refine ⟨_,⟨hl,(fun s h=>by cases h),l.length,rfl,?_⟩,fun _ _ _ _ _ _ e=>by cases e; exact ⟨_,_,hb⟩,hcl⟩
  simp only [aJ,hb]
  rw [if_pos ⟨rfl,Nat.le_refl _,by show 0+l.length*1<=_; omega⟩]
  show some ((cells.drop 0).take (l.length*1))=_
  rw [List.drop_zero,Nat.mul_one]
theorem Bl.wr {H0 H:Heap} {v:AV} {l:List (List Int)} (h:Bl rowsE af H0 H v l):Wr H0 H v l l.length:=by
 rcases h with h | ⟨b,cells,h1,h2,h3,h4⟩
 ·exact .inl h
 ·have hc:cells.length=l.length:=by have:=h3.1; simpa [cB] using this
  exact .inr ⟨b,cells,h1,h2,hc,Nat.le_refl _,by rw [<- hc,List.take_length]; exact h3,h4⟩
theorem Wr.bl {H0 H:Heap} {v:AV} {l:List (List Int)} (h:Wr H0 H v l l.length):Bl rowsE af H0 H v l:=by
 rcases h with h | ⟨b,cells,h1,h2,h3,h4,h5,h6⟩
 ·exact .inl h
 ·rw [<- h3,List.take_length] at h5
  exact .inr ⟨b,cells,h1,h2,h5,h6⟩
theorem Wr.mono {H0 H H':Heap} (hs:Sub H H') {v:AV} {l:List (List Int)} {c:Nat} (h:Wr H0 H v l c):Wr H0 H' v l c:=by
 rcases h with h | ⟨b,cells,h1,h2,h3,h4,h5,h6⟩
 ·exact .inl h
 ·exact .inr ⟨b,cells,h1,hs.get _ _ h2,h3,h4,h5.mono (hs.t _),h6⟩
theorem Wr.base {H0 H1 H:Heap} (hs:H0.next<=H1.next) {v:AV} {l:List (List Int)} {c:Nat} (h:Wr H1 H v l c):Wr H0 H v l c:=by
 rcases h with h | ⟨b,cells,h1,h2,h3,h4,h5,h6⟩
 ·exact .inl h
 ·exact .inr ⟨b,cells,h1,h2,h3,h4,h5,Nat.le_trans hs h6⟩
theorem Wr.put {H0 H:Heap} {v:AV} {l:List (List Int)} {c b:Nat} {e:Ent} (h:Wr H0 H v l c) (hb:iH v≠some b) (ht:NoTy (pE intE aa).tys H b):Wr H0 (H.put b e) v l c:=by
 rcases h with h | ⟨b',cells,h1,h2,h3,h4,h5,h6⟩
 ·exact .inl h
 ·refine .inr ⟨b',cells,h1,?_,h3,h4,h5.mono (SubT.puts (SubT.refl _ _) ht),h6⟩
  rw [au (fun e1=>hb (by rw [h1,e1]; rfl))]
  exact h2
theorem Wr.old {H0 H:Heap} {v:AV} {l:List (List Int)} {c b:Nat} (hw:Wf H) (h:Wr H0 H v l c) (hb:iH v=some b):b<H.next:=by
 rcases h with ⟨rfl,-⟩ | ⟨b',cells,rfl,h2,-⟩
 ·cases hb
 ·cases hb; exact hw _ _ h2
theorem RowV.put_ne {H:Heap} {v:AV} {l:List Int} {b:Nat} {e:Ent} (h:RowV H v l) (hb:iH v≠some b) (hn:NoTy [ad] H b):RowV (H.put b e) v l:=by
 obtain ⟨cells,⟨h0,h1,n,h2,h3⟩,ht,hc⟩:=h
 refine ⟨cells,⟨h0,h1,n,h2,?_⟩,fun b' off n' c z x e'=>?_,hc.mono (SubT.puts (SubT.refl _ _) hn)⟩
 ·unfold aJ at h3 ⊢
  split at h3
  ·rename_i b' off m c sz ex
   rw [au (fun e1=>hb (by rw [<- e1]; rfl))]; exact h3
  ·exact h3
  ·exact h3
  ·exact h3
  ·cases h3
 ·obtain ⟨cs,r,hb'⟩:=ht b' off n' c z x e'
  exact ⟨cs,r,by rw [au (fun e1=>hb (by rw [e',<- e1]; rfl))]; exact hb'⟩
theorem Wr.store {H0 H:Heap} {v va:AV} {l:List (List Int)} {x:List Int} {c j:Nat} (h:Wr H0 H v l c) (hj:j<l.length) (hx:RowV H va x) :
  ∃ b cells,iH v=some b/\H0.next<=b/\H.get b=some (.cells cells af true)/\j<cells.length/\Ox 1 v (.int .i64 (j:Int))=some (.ptr b j)/\Wr H0 (H.put b (.cells (cells.set j va) af true)) v (l.set j x) c:=by
 rcases h with ⟨-,rfl⟩ | ⟨b,cells,rfl,h2,h3,h4,h5,h6⟩
 ·simp at hj
 ·have hjc:j<cells.length:=by omega
  refine ⟨b,cells,rfl,h6,h2,hjc,?_,.inr ⟨b,_,by rw [List.length_set],aA _ _ _,by rw [List.length_set]; exact h3,by rw [List.length_set]; exact h4,?_,h6⟩⟩
  ·have:=mU (b:=b) (off:=0) (c:=c) (sz:=1) (x:=false) (k:=.i64) hj
   rw [Nat.zero_add,Nat.mul_one] at this
   exact this
  ·have hn:NoTy (pE intE aa).tys H b:=NoTy.ty h2 (by decide)
   have hst:SubT (pE intE aa).tys H (H.put b (.cells (cells.set j va) af true)):=SubT.puts (SubT.refl _ _) hn
   rw [List.length_set,List.take_set]
   exact Cells.mono (E:=rowsE) hst (h5.set1 hj hx)
theorem Wr.elem {H0 H:Heap} {v:AV} {l:List (List Int)} {c j:Nat} (h:Wr H0 H v l c) (hj:j<l.length) :
  ∃ w,RowV H w l[j]/\aZ H none (al v j)=some w/\Ox 1 v (.int .i64 (j:Int))=some (al v j):=by
 obtain ⟨w,h1,h2⟩:=cV h.sl hj
 exact ⟨w,h1,h2,SlV.idx1 h.sl .i64 j hj⟩
def UnderV (H0 H:Heap) (ub:Nat) (u:Lin.Under):Prop:=∃ ql qr qd cl,H.get ub=some (.cells [ql,qr,qd] aN true)/\Wr H0 H ql u.lines cl/\Wr H0 H qr u.rays u.rays.length/\Wr H0 H qd u.done u.done.length/\Sep ql qr/\Sep ql qd/\Sep qr qd
theorem UnderV.mono {H0 H H':Heap} {ub:Nat} {u:Lin.Under} (hs:Sub H H') (h:UnderV H0 H ub u):UnderV H0 H' ub u:=by
 obtain ⟨ql,qr,qd,cl,h1,h2,h3,h4,h5⟩:=h
 exact ⟨ql,qr,qd,cl,hs.get _ _ h1,h2.mono hs,h3.mono hs,h4.mono hs,h5⟩
theorem Le (a u:List Int):Lin.dot a (Lin.upV a u)=if Lin.dot a u<0 then -(Lin.dot a u) else Lin.dot a u:=by
 unfold Lin.upV
 split
 ·rw [Lin.dot_scl]; omega
 ·rfl
theorem Ld {d:Nat} {a u:List Int} (hu:u.length=d):(Lin.upV a u).length=d:=by
 unfold Lin.upV
 split
 ·simp [Lin.scl,hu]
 ·exact hu
theorem Mv {f:Nat} {a u:List Int} (hu:∀ z∈u,Bt f z):∀ z∈Lin.upV a u,Bt f z:=by
 unfold Lin.upV
 split
 ·exact BU hu
 ·exact hu
structure FoldC (Hs H0 H:Heap) (ub:Nat) (LV qr qd:AV) (D:List (List Int)) (bx:Nat) (z:Int) (vl va:AV) (up a:List Int) (sb:Nat):Prop where
 u:H.get ub=some (.cells [LV,qr,qd] aN true)
 d:Wr H0 H qd D D.length
 bx:BoxI H bx z
 vl:RowV H vl up
 va:RowV H va a
 sb:H.get sb=some (.cells [.ptr ub 0,.ptr ub 1] jV true)
 oth:∀ b e,Hs.get b=some e->b≠ub->iH qr≠some b->H.get b=some e
theorem FoldC.mono {Hs H0 H H':Heap} {ub:Nat} {LV qr qd:AV} {D:List (List Int)} {bx:Nat} {z:Int} {vl va:AV} {up a:List Int} {sb:Nat} (hs:Sub H H') (h:FoldC Hs H0 H ub LV qr qd D bx z vl va up a sb):FoldC Hs H0 H' ub LV qr qd D bx z vl va up a sb :=
 ⟨hs.get _ _ h.u,h.d.mono hs,h.bx.mono hs,h.vl.mono hs,h.va.mono hs,hs.get _ _ h.sb,fun b e h1 h2 h3=>hs.get _ _ (h.oth b e h1 h2 h3)⟩
theorem GE {H:Heap} {b c t1 t2:Nat} {x y:List AV} {r1 r2:Bool} (h1:H.get b=some (.cells x t1 r1)) (h2:H.get c=some (.cells y t2 r2)) (hn:t1≠t2):b≠c:=fun e=>by
 subst e
 rw [h1] at h2
 injection h2 with h; injection h with _ h; exact hn h
theorem FoldC.put {Hs H0 H:Heap} {ub:Nat} {LV qr qd:AV} {D:List (List Int)} {bx:Nat} {z:Int} {vl va:AV} {up a:List Int} {sb b:Nat} {cells cs:List AV} (h:FoldC Hs H0 H ub LV qr qd D bx z vl va up a sb) (hb:H.get b=some (.cells cells af true)) (hd:iH qd≠some b) (ho:∀ e,Hs.get b=some e->iH qr=some b):FoldC Hs H0 (H.put b (.cells cs af true)) ub LV qr qd D bx z vl va up a sb:=by
 have n1:NoTy (pE intE aa).tys H b:=NoTy.ty hb (by decide)
 have n2:NoTy [ad] H b:=NoTy.ty hb (by decide)
 obtain ⟨q,hq1,hq2⟩:=h.bx
 refine ⟨?_,h.d.put hd n1,⟨q,?_,SlV.monoT (E:=cB bX) (SubT.puts (SubT.refl _ _) n2) hq2⟩,SlV.monoT (E:=intE) (SubT.puts (SubT.refl _ _) n1) h.vl,SlV.monoT (E:=intE) (SubT.puts (SubT.refl _ _) n1) h.va,?_,fun c e h1 h2 h3=>?_⟩
 ·rw [au (GE h.u hb (by decide))]; exact h.u
 ·rw [au (GE hq1 hb (by decide))]; exact hq1
 ·rw [au (GE h.sb hb (by decide))]; exact h.sb
 ·rw [au (fun e1=>h3 (by rw [e1] at h1 ⊢; exact ho e h1))]; exact h.oth c e h1 h2 h3
section
variable {tab:Nat->Option aq} {H:Heap} {s:AV}
theorem FG (C:Code tab) {H0:Heap} {ub i:Nat} {u:Lin.Under} {va:AV} {a:List Int} {d e f:Nat} (hk:Kp H0 H) (hub0:H0.next<=ub) (hu:UnderV H0 H ub u) (ha:RowV H va a) (hi:i<u.lines.length) (hd:d<=64) (hal:a.length=d) (hL:∀ r∈u.lines,r.length=d/\∀ z∈r,Bt f z) (hR:∀ r∈u.rays,r.length=d/\∀ z∈r,Bt f z) (hae:∀ z∈a,Bt e z) (hb:2*(e+f+7)+2*f+1<=8796093022208) (hbig:u.lines.length<1099511627776) (hbig2:u.rays.length<1099511627776) :
  Ans tab (.fn gg [.ptr ub 0,va,.int .i64 (i:Int)]) H fun v H'=>Kp H0 H'/\RowV H' v (Lin.upV a u.lines[i])/\UnderV H0 H' ub ⟨(u.lines.eraseIdx i).map (Lin.foldV a (Lin.upV a u.lines[i])),u.rays.map (Lin.foldV a (Lin.upV a u.lines[i])),u.done⟩/\(∀ b e,H.get b=some e->b≠ub->(∀ q1 q2 q3,H.get ub=some (.cells [q1,q2,q3] aN true)->iH q2≠some b)->H'.get b=some e)/\∀ q1 q2 q3,H.get ub=some (.cells [q1,q2,q3] aN true)->∃ q1',H'.get ub=some (.cells [q1',q2,q3] aN true):=by
 have hw:=hk.wf
 obtain ⟨ql,qr,qd,cl,hub,hql,hqr,hqd,s1,s2,s3⟩:=hu
 have lub:=hw _ _ hub
 obtain ⟨vl,hvl,hld,hix⟩:=hql.elem hi
 have hLi:=hL _ (List.getElem_mem hi)
 refine xw C.P_cone_under_fold rfl rfl (by decide) fun T hl g=>?_
 have hl:T.length=81:=hl
 have hrs:c_P_cone_under_fold.results=[(6,none)]:=rfl
 have g0:ae T 0=.ptr ub 0:=g 0 (by simp)
 have g1:ae T 1=va:=g 1 (by simp)
 have g2:ae T 2=.int .i64 (i:Int):=g 2 (by simp)
 refine br ?_
 refine zW (cJ hl g0 g1 g2 @aK) ?_
 refine br ?_
 refine zW (mw hl g0 g1 g2 @aK hub hix hld) ?_
 refine br ?_
 refine zW (cJ hl g0 g1 g2 @aK) ?_
 refine AnsH.use (cone_dot C zF (ha.mono (Kp.sub (H:=H) zK)) (hvl.mono (Kp.sub (H:=H) zK)) (hal.trans hLi.1.symm) (by omega) hae hLi.2 (by omega)) ?_
 rintro v H2 ⟨⟨w,rfl,hr2⟩,hk2⟩
 obtain ⟨k2,_,w2⟩:=zT H zK hk2
 have ow:=hr2.one
 have n2:H.next+14<=H2.next:=hk2.le
 have f2:H2.get (H.next+12)=none:=hk2.free (show _<H.next+14 by omega) (hw.fresh (b:=H.next+12) (by omega))
 have m12:NoTy [ad] H2 (H.next+12):=NoTy.none f2
 refine zW (cJ hl g0 g1 g2 @aK) ?_
 refine OF (fun T' H'=>∃ vl,ae T' 6=vl/\RowV H' vl (Lin.upV a u.lines[i])/\BoxI H' (H.next+12) (Lin.dot a (Lin.upV a u.lines[i]))/\Kp H H') rfl ?_ ?_
 ·refine zW (cJ hl g0 g1 g2 @aQ) ?_
  refine iteH.split (fun h=>?_) fun h=>?_
  ·refine zW (bg hl g0 g1 g2) ?_
   refine AnsH.use (whole_Of C (n:=-1) zF (by omega) (by omega)) ?_
   rintro v3 H3 ⟨hi3,hk3⟩
   obtain ⟨k3,_,w3⟩:=zT H zK hk3
   have b3:=hk3.get (b:=H.next+12) (e:=.cells [.bool (decide (Lin.dot a u.lines[i]<0)),w] aa true) (dC)
   have lt3:=w3 _ _ b3
   have hw3:bZ H3 w (Lin.dot a u.lines[i]).natAbs:=SlV.mono hk3.sub (SlV.monoT (E:=cB bX) zS hr2)
   refine zW (bg hl g0 g1 g2) ?_
   refine AnsH.use (qP C zF (hvl.mono (Kp.sub (H:=H) zK)) hi3 (by omega) (fun z hz=>(hLi.2 z hz).len (by omega)) Bu) ?_
   rintro v4 H4 ⟨r4,rfl,hr4,hk4,hf4⟩
   obtain ⟨k4,_,w4⟩:=zT H zK hk4
   have b4:=hk4.get b3
   have hw4:=hw3.mono hk4.sub
   refine zW (cJ hl g0 g1 g2 @b4) ?_
   refine AnsH.use (cone_neg C (z:=Lin.dot a u.lines[i]) zF ⟨w,rfl,hw4.mono (Kp.sub (H:=H4) zK)⟩ ((mY hae hLi.2 (hal.trans hLi.1.symm) (by omega)).sm (by omega))) ?_
   rintro v5 H5 ⟨⟨w5,rfl,hw5⟩,hk5⟩
   obtain ⟨k45,_,_⟩:=zT H4 zK hk5
   have k5:Kp H H5:=Kp.trans k4 k45
   have le_k5:=k5.le
   have w5':=k5.wf
   have b5:=k45.get b4
   have lt5:=w5' _ _ b5
   have ow5:=hw5.one
   have m5:NoTy [ad] H5 (H.next+12):=NoTy.ty b5 (by decide)
   refine zW (fW hl g0 g1 g2 b5 @aQ) ?_
   have eu:Lin.upV a u.lines[i]=Lin.scl (-1) u.lines[i]:=by unfold Lin.upV; rw [if_pos h]
   have ed:Lin.dot a (Lin.upV a u.lines[i]) = -(Lin.dot a u.lines[i]):=by rw [Le,if_pos h]
   refine ⟨r4,rfl,?_,⟨w5,by rw [ed]; exact dC,by rw [ed]; exact SlV.monoT (E:=cB bX) zS hw5⟩,zK⟩
   rw [eu]
   refine RowV.put_ne (hr4.mono k45.sub) (fun hb=>?_) m5
   have:=hf4 _ hb
   omega
  ·refine zW (cJ hl g0 g1 g2 @aQ) ?_
   have eu:Lin.upV a u.lines[i]=u.lines[i]:=by unfold Lin.upV; rw [if_neg h]
   rw [eu]
   exact ⟨vl,rfl,hvl.mono (Kp.sub (H:=H) zK),⟨w,by exact dC,SlV.monoT (E:=cB bX) zS hr2⟩,zK⟩
 ·rintro T1 H1 hs1 ⟨vl',t6,hvl',hbx,k1⟩
  have w1:=k1.wf
  have t0:ae T1 0=.ptr ub 0:=(hs1.at_ 0 (by decide)).trans (zV (az hl g0))
  have t1:ae T1 1=va:=(hs1.at_ 1 (by decide)).trans (zV (az hl g1))
  have t2:ae T1 2=.int .i64 (i:Int):=(hs1.at_ 2 (by decide)).trans (zV (az hl g2))
  have t7:ae T1 7=.ptr (H.next+12) 0:=(hs1.at_ 7 (by decide)).trans (zV hl)
  have hl1:T1.length=81:=hs1.len.trans (by simp only [List.length_set]; exact hl)
  have hub1:=k1.get hub
  refine WC.wb ?_
  refine zW (cJ hl1 t0 t1 t2 hub1) ?_
  refine AnsH.use (CZ C zF (hql.sl.mono (Kp.sub (H:=H) zK)) (by omega) hbig) ?_
  rintro v2 H2' ⟨hk2',b,hown⟩
  have e1:IntKind.i64.wrap ((i:Int)+1)=((i+1:Nat):Int):=by rw [wrap_i64] <;> omega
  refine zW (cJ hl1 t0 t1 t2 e1) ?_
  refine AnsH.use (Bx C hk2' hown hi hbig) ?_
  rintro v3 H3 ⟨rfl,hk3,⟨cells,hb3,hcn,hcl3⟩,hfr⟩
  have k3:Kp H H3:=Kp.trans k1 (Kp.trans zK hk3)
  have le_k3:=k3.le
  have w3:=k3.wf
  have hub3:=k3.get hub
  have hvl3:RowV H3 vl' (Lin.upV a u.lines[i]):=hvl'.mono (Kp.sub (H:=H1) (Kp.trans zK hk3))
  have hbx3:BoxI H3 (H.next+12) (Lin.dot a (Lin.upV a u.lines[i])):=hbx.mono (Kp.sub (H:=H1) (Kp.trans zK hk3))
  refine zW (aC hl1 t0 hub3) ?_
  refine aO ?_
  refine zD (az hl1 t0) ?_
  obtain ⟨-,-,-,-,hb0⟩:=hown
  have hb0:H.next<=b:=Nat.le_trans (Nat.le_trans k1.le (Nat.le_add_right _ _)) hb0
  have lb3:=w3 _ _ hb3
  have lub3:=w3 _ _ hub3
  have hubb:ub≠b:=by omega
  obtain ⟨up,hup⟩:∃ x,x=Lin.upV a u.lines[i]:=⟨_,rfl⟩
  rw [<- hup] at hvl3 hbx3 ⊢
  have hupl:up.length=d:=by rw [hup]; exact Ld hLi.1
  have hupb:∀ z∈up,Bt f z:=by rw [hup]; exact Mv hLi.2
  obtain ⟨n,hn⟩:∃ n,n=u.lines.length:=⟨_,rfl⟩
  rw [<- hn] at hcn hcl3 hi hbig ⊢
  obtain ⟨L,hL0⟩:∃ L,L=u.lines.eraseIdx i:=⟨_,rfl⟩
  have hLlen:L.length=n-1:=by rw [hL0,List.length_eraseIdx_of_lt (by omega),hn]
  have hLm:∀ r∈L,r.length=d/\∀ z∈r,Bt f z:=fun r hr=>hL r (List.mem_of_mem_eraseIdx (by rw [hL0] at hr; exact hr))
  rw [<- hL0] at hcl3 ⊢
  obtain ⟨LV,hLV⟩:∃ v,v=AV.own b 0 (n-1) n 1 false:=⟨_,rfl⟩
  rw [<- hLV]
  have hlv0:Wr H0 (((H3.up 9).put ub (.cells [LV,qr,qd] aN true)).put (H3.next+6) (.cells [.ptr ub 0,.ptr ub 1] jV true)) LV L n:=by
   have m1:NoTy (pE intE aa).tys H3 ub:=NoTy.ty hub3 (by decide)
   have m2:NoTy (pE intE aa).tys H3 (H3.next+6):=NoTy.none (w3.fresh (by omega))
   refine .inr ⟨b,cells,by rw [hLV,hLlen],by exact zV hb3,hcn,by omega,?_,by have:=hk.le; omega⟩
   rw [hLlen]
   exact Cells.mono (E:=rowsE) zS hcl3
  have keepW:∀ {v l c},Wr H0 H v l c->Wr H0 (((H3.up 9).put ub (.cells [LV,qr,qd] aN true)).put (H3.next+6) (.cells [.ptr ub 0,.ptr ub 1] jV true)) v l c:=fun {v l c} h=>by
   have m1:NoTy (pE intE aa).tys H3 ub:=NoTy.ty hub3 (by decide)
   have m2:NoTy (pE intE aa).tys (H3.up 9) (H3.next+6):=NoTy.none (w3.fresh (b:=H3.next+6) (by omega))
   have h3:Wr H0 (H3.up 9) v l c:=(h.mono k3.sub).mono (Sub.bump H3 9)
   have hne:∀ x e,(H3.up 9).get x=some (.cells e aN true)->iH v≠some x:=fun x e hx hv=>by
    rcases h3 with ⟨rfl,-⟩ | ⟨b',cells',rfl,h2,-⟩
    ·cases hv
    ·cases hv
     rw [hx] at h2; injection h2 with h; injection h with _ h; exact absurd h (by decide)
   refine (h3.put (hne ub _ hub3) m1).put (fun hv=>?_) (by
    refine NoTy.none ?_
    rw [au (by omega)]; exact w3.fresh (b:=H3.next+6) (by omega))
   have:=h.old hw hv
   omega
  have sLr:Sep LV qr:=fun x hx hy=>by
   rw [hLV] at hx; cases hx
   have:=hqr.old hw hy
   omega
  have sLd:Sep LV qd:=fun x hx hy=>by
   rw [hLV] at hx; cases hx
   have:=hqd.old hw hy
   omega
  obtain ⟨qs,hqs⟩:∃ qs:Nat->AV,qs=fun j=>if j=0 then LV else qr:=⟨_,rfl⟩
  obtain ⟨Ls,hLs⟩:∃ Ls:Nat->List (List Int),Ls=fun j=>if j=0 then L else u.rays:=⟨_,rfl⟩
  obtain ⟨cs,hcs⟩:∃ cs:Nat->Nat,cs=fun j=>if j=0 then n else u.rays.length:=⟨_,rfl⟩
  have hLsm:∀ j,∀ r∈Ls j,r.length=d/\∀ z∈r,Bt f z:=fun j r hr=>by
   rw [hLs] at hr
   by_cases h:j=0
   ·exact hLm r (by simpa [h] using hr)
   ·exact hR r (by simpa [h] using hr)
  have hLsl:∀ j,(Ls j).length<1099511627776:=fun j=>by
   rw [hLs]
   by_cases h:j=0
   ·simp [h]; omega
   ·simp [h]; omega
  have hsep:∀ j m,j<2->m<2->m≠j->Sep (qs j) (qs m):=fun j m h1 h2 h3=>by
   rw [hqs]
   by_cases h:j=0
   ·have h4:m≠0:=by omega
    simpa [h,h4] using sLr
   ·have h4:m=0:=by omega
    simpa [h,h4] using sLr.symm
  have hsepd:∀ j,Sep (qs j) qd:=fun j=>by
   rw [hqs]
   by_cases h:j=0
   ·simpa [h] using sLd
   ·simpa [h] using s3
  have htq:∀ j,j<2->bA [LV,qr,qd] j none=some (qs j):=fun j h=>by
   rw [hqs]
   match j,h with
   | 0,_=>rfl
   | 1,_=>rfl
  have htp:∀ j,j<2->bA [AV.ptr ub 0,AV.ptr ub 1] j none=some (.ptr ub j):=fun j h=>by
   match j,h with
   | 0,_=>rfl
   | 1,_=>rfl
  obtain ⟨w',hw'⟩:∃ w',w'=Lin.foldV a up:=⟨_,rfl⟩
  rw [<- hw']
  have hva3:RowV H3 va a:=ha.mono k3.sub
  refine ak H0 [] (fun j _ H'=>FoldC H H0 H' ub LV qr qd u.done (H.next+12) (Lin.dot a up) vl' va up a (H3.next+6)/\∀ m,m<2->Wr H0 H' (qs m) (if m<j then (Ls m).map w' else Ls m) (cs m)) (a:=0) (N:=2) rfl (by refine zW hl1 ?_; rfl) (zV hl1) (Nat.zero_le _) (by omega) (by simp only [List.length_set,hl1]; rfl) rfl (fun j vs H' m ⟨h1,h2⟩=>⟨h1.mono (Sub.bump H' m),fun m' hm'=>(h2 m' hm').mono (Sub.bump H' m)⟩) (by
   have kk:Kp H0 H3:=hk.trans k3
   have:=kk.le
   exact zK) ⟨⟨by exact dC,keepW hqd,?_,?_,?_,by exact dC,fun c e hc hne _=>by
   have hc3:=k3.get hc
   have:=w3 _ _ hc3
   rw [au (by omega),au hne]; exact hc3⟩,?_⟩ ?_ ?_
  ·obtain ⟨q,hq1,hq2⟩:=hbx3
   have lb12:=w3 _ _ hq1
   have hnu:H.next+12≠ub:=by omega
   have m1:NoTy [ad] H3 ub:=NoTy.ty hub3 (by decide)
   have m2:NoTy [ad] H3 (H3.next+6):=NoTy.none (w3.fresh (by omega))
   exact ⟨q,by exact zV hq1,SlV.monoT (E:=cB bX) zS hq2⟩
  ·have m1:NoTy (aa :: intE.tys) H3 ub:=NoTy.ty hub3 (by decide)
   have m2:NoTy (aa :: intE.tys) H3 (H3.next+6):=NoTy.none (w3.fresh (by omega))
   exact SlV.monoT (E:=intE) zS hvl3
  ·have m1:NoTy (aa :: intE.tys) H3 ub:=NoTy.ty hub3 (by decide)
   have m2:NoTy (aa :: intE.tys) H3 (H3.next+6):=NoTy.none (w3.fresh (by omega))
   exact SlV.monoT (E:=intE) zS hva3
  ·intro m hm
   rw [if_neg (by omega),hqs,hLs,hcs]
   by_cases h:m=0
   ·simpa [h] using hlv0
   ·simpa [h] using keepW hqr
  ·rintro j T2 H5 _ hj hl2 hi2 hs2 hk5 ⟨p1,p2⟩
   have w5:=hk5.wf
   have le_hk5:=hk5.le
   have t50:ae T2 50=.own (H3.next+6) 0 2 2 1 true:=(hs2.at_ 50 (by decide)).trans (zV hl1)
   have t7a:ae T2 7=.ptr (H.next+12) 0:=(hs2.at_ 7 (by decide)).trans (zV (az hl1 t7))
   have t1a:ae T2 1=va:=(hs2.at_ 1 (by decide)).trans (zV (az hl1 t1))
   have t6a:ae T2 6=vl':=(hs2.at_ 6 (by decide)).trans (zV (az hl1 t6))
   have hqj:=p2 j hj
   rw [if_neg (by omega)] at hqj
   have htq':=htq j hj
   have htp':=htp j hj
   have p1u:=p1.u
   have p1s:=p1.sb
   simp only [List.length_set,hl1] at hl2
   refine zW (mw hl2 t50 hi2 p1s htp' p1u htq' hqj.sl.lenV) ?_
   refine ak H0 [] (fun k _ H'=>FoldC H H0 H' ub LV qr qd u.done (H.next+12) (Lin.dot a up) vl' va up a (H3.next+6)/\Wr H0 H' (qs j) (iu w' (Ls j) k) (cs j)/\∀ m,m<2->m≠j->Wr H0 H' (qs m) (if m<j then (Ls m).map w' else Ls m) (cs m)) (a:=0) (N:=(Ls j).length) rfl (by refine zW hl2 ?_; rfl) (zV hl2) (Nat.zero_le _) (by have:=hLsl j; omega) (by simp only [List.length_set,hl2]; rfl) rfl (fun k vs H' m ⟨h1,h2,h3⟩=>⟨h1.mono (Sub.bump H' m),h2.mono (Sub.bump H' m),fun m' a b=>(h3 m' a b).mono (Sub.bump H' m)⟩) zK ⟨p1.mono (Sub.bump H5 _),by rw [uM]; exact hqj.mono (Sub.bump H5 _),fun m hm _=>(p2 m hm).mono (Sub.bump H5 _)⟩ ?_ ?_
   ·rintro k T3 H6 _ hkk hl3 hi3 hs3 hk6 ⟨q1,q2,q3⟩
    have w6:=hk6.wf
    have le_hk6:=hk6.le
    have t58:ae T3 58=qs j:=(hs3.at_ 58 (by decide)).trans (zV hl2)
    have t9:ae T3 9=.ptr ub j:=(hs3.at_ 9 (by decide)).trans (zV hl2)
    have t7b:ae T3 7=.ptr (H.next+12) 0:=(hs3.at_ 7 (by decide)).trans (zV (az hl2 t7a))
    have t1b:ae T3 1=va:=(hs3.at_ 1 (by decide)).trans (zV (az hl2 t1a))
    have t6b:ae T3 6=vl':=(hs3.at_ 6 (by decide)).trans (zV (az hl2 t6a))
    have hsl:=oZ w' (Ls j) (Nat.le_of_lt hkk)
    obtain ⟨vr,hvr,hldr,hixr⟩:=q2.elem (j:=k) (by omega)
    have hgk:(iu w' (Ls j) k)[k]'(by omega)=(Ls j)[k]:=by
     have:=xE w' (Ls j) hkk
     rw [List.getElem?_eq_getElem (by omega)] at this
     exact Option.some.inj this
    rw [hgk] at hvr
    have hRk:=hLsm j _ (List.getElem_mem hkk)
    have q1u:=q1.u
    obtain ⟨bq,hbq,hbn⟩:=q1.bx
    simp only [List.length_set,hl2] at hl3
    refine zW (cJ hl3 t58 hi3 hixr hldr) ?_
    refine aO ?_
    refine zD (kU hl3 t9 t7b t1b t6b q1u htq' hbq @bQ) ?_
    have hda:=mY hae hRk.2 (hal.trans hRk.1.symm) (by omega)
    refine AnsH.use (cone_dot C zF (q1.va.mono (Kp.sub (H:=H6) zK)) (hvr.mono (Kp.sub (H:=H6) zK)) (hal.trans hRk.1.symm) (by omega) hae hRk.2 (by omega)) ?_
    rintro v7 H7 ⟨hr7,hk7⟩
    obtain ⟨k67,_,w7⟩:=zT H6 zK hk7
    have r1u:=k67.get q1u
    have r1b:=k67.get hbq
    refine zD (p9 hl3 t9 t7b t1b t6b q1u htq' hbq @bQ r1u r1b) ?_
    refine AnsH.use (cone_neg C zF hr7 (hda.sm (by omega))) ?_
    rintro v8 H8 ⟨hr8,hk8⟩
    have k68:Kp H6 H8:=Kp.trans k67 (Kp.trans zK hk8)
    have le_k68:=k68.le
    have w8:=k68.wf
    have x1u:=k68.get q1u
    have x1b:=k68.get hbq
    refine zD (Ei hl3 t9 t7b t1b t6b q1u htq' hbq @bQ r1u r1b x1u x1b) ?_
    have hdu:=mY hae hupb (hal.trans hupl.symm) (by omega)
    refine AnsH.use (cone_mix C zF (m:=Lin.dot a up) (n:=-(Lin.dot a (Ls j)[k])) ⟨bq,rfl,hbn.mono (Kp.sub (H:=H6) zK)⟩ (hr8.mono (Kp.sub (H:=H8) zK)) (hvr.mono (Kp.sub (H:=H6) zK)) (q1.vl.mono (Kp.sub (H:=H6) zK)) (hRk.1.trans hupl.symm) (by omega) hdu hda.neg hRk.2 hupb (by omega)) ?_
    rintro v9 H9 ⟨hr9,hk9⟩
    have k69:Kp H6 H9:=Kp.trans k68 (Kp.trans zK hk9)
    have le_k69:=k69.le
    have k09:Kp H0 H9:=hk6.trans k69
    have le_k09:=k09.le
    have w9:=k69.wf
    have y1u:=k69.get q1u
    have y1b:=k69.get hbq
    obtain ⟨b',cells',hb',hb0',hg',hjc',hix',hwr'⟩:=(q2.mono k69.sub).store (j:=k) (by omega) hr9
    have o9:=hr9.one
    have lb':=w9 _ _ hg'
    refine zD (KM hl3 t9 t7b t1b t6b q1u htq' hbq @bQ r1u r1b x1u x1b y1u y1b hix' hg' hjc') ?_
    have hwk:w' (Ls j)[k]=Lin.prime (Lin.mix (Lin.dot a up) (Ls j)[k] (-(Lin.dot a (Ls j)[k])) up):=by rw [hw']; rfl
    refine ⟨zK,(q1.mono k69.sub).put hg' (hsepd j _ hb') (fun e he=>by
     have hlt:=hw _ _ he
     rw [hqs] at hb'
     by_cases hj0:j=0
     ·simp only [hj0,if_true] at hb'
      rw [hLV] at hb'
      cases hb'
      omega
     ·simp only [hj0,if_false] at hb'
      exact hb'),?_,fun m hm hne=>((q3 m hm hne).mono k69.sub).put (hsep j m hj hm hne _ hb') (NoTy.ty hg' (by decide))⟩
    rw [<- xD w' (Ls j) hkk,hwk]
    exact hwr'
   ·rintro T3 H6 hl3 hs3 hk6 ⟨q1,q2,q3⟩
    simp only [List.length_set,hl2] at hl3
    rw [xF] at q2
    refine zW hl3 ?_
    refine ⟨hk6,q1,fun m hm=>?_⟩
    by_cases h:m=j
    ·subst h; rw [if_pos (by omega)]; exact q2
    ·have:=q3 m hm h
     by_cases h2:m<j
     ·rw [if_pos h2] at this; rw [if_pos (by omega)]; exact this
     ·rw [if_neg h2] at this; rw [if_neg (by omega)]; exact this
  ·rintro T2 H5 hl2 hs2 hk5 ⟨p1,p2⟩
   have w5:=hk5.wf
   have le_hk5:=hk5.le
   have t6a:ae T2 6=vl':=(hs2.at_ 6 (by decide)).trans (zV (az hl1 t6))
   simp only [List.length_set,hl1] at hl2
   refine zW (aC hl2 t6a hrs) ?_
   have p0:=p2 0 (by omega)
   have p1':=p2 1 (by omega)
   rw [if_pos (by omega),hqs,hLs,hcs] at p0 p1'
   simp only [if_true,Nat.one_ne_zero,if_false] at p0 p1'
   have e:(u.rays.map w').length=u.rays.length:=by simp
   refine ⟨zK,p1.vl.mono (Sub.bump H5 _),⟨LV,qr,qd,n,p1.u,p0.mono (Sub.bump H5 _),?_,p1.d.mono (Sub.bump H5 _),sLr,sLd,s3⟩,fun c e hc hne hq=>p1.oth c e hc hne (hq ql qr qd (by first | exact hub | rfl)),fun q1 q2 q3 h=>by
    try rw [hub] at h
    cases h
    exact ⟨LV,p1.u⟩⟩
   show Wr H0 _ qr (u.rays.map w') (u.rays.map w').length
   rw [e]
   exact p1'.mono (Sub.bump H5 _)
end
section
variable {tab:Nat->Option aq} (ev:Src->AV) (H:Heap) (id:Nat) (Q:AV->Heap->Prop)
theorem Ge:jT tab ev H id .mkmap Q=Q (.map id) (H.put id (.map [])):=by
 rw [bU,fC tab ev H id Q (o:=.mkmap) (fun f a e=>by cases e) rfl]; rfl
theorem lP (kd:BK) (z:AV) (x i:Src) (ok:Bool):jT tab ev H id (.lookup kd z x i ok) Q=Pa (pH H kd z (ev x) (ev i) ok) (fun v=>Q v H) ():=by
 rw [bU,fC tab ev H id Q (o:=.lookup kd z x i ok) (fun f a e=>by cases e) rfl]
 show Pk ((pH H kd z (ev x) (ev i) ok).map fun v=>(v,H)) _=_
 cases pH H kd z (ev x) (ev i) ok <;> rfl
theorem El (kd:BK) (m k v:Src):jT tab ev H id (.mapUpd kd m k v) Q=Pa (kH H kd (ev m) (ev k) (ev v)) (fun H'=>Q .undef H') ():=by
 rw [bU,fC tab ev H id Q (o:=.mapUpd kd m k v) (fun f a e=>by cases e) rfl]
 show Pk ((kH H kd (ev m) (ev k) (ev v)).map fun H'=>(AV.undef,H')) _=_
 cases kH H kd (ev m) (ev k) (ev v) <;> rfl
theorem BA {kd:BK} {z:AV} {x i:Src} {ok:Bool}:qO (.lookup kd z x i ok)=true:=rfl
end
def np (es:List (AV × AV)):Prop:=∀ p∈es,∃ z,p.1=.int .i64 z
def fm (es:List (AV × AV)) (z:Int):AV:=match mg (.int .i64 z) es with
 | some (some v)=>v
 | _=>.nilSl
theorem CB:∀ {es:List (AV × AV)},np es->∀ z,∃ o,mg (.int .i64 z) es=some o
 | [],_,z=>⟨none,rfl⟩
 | (k,v) :: es,h,z=>by
  obtain ⟨y,hy⟩:=h _ (List.mem_cons_self ..)
  simp only at hy
  subst hy
  have ih:=CB (es:=es) (fun p hp=>h p (List.mem_cons_of_mem _ hp)) z
  simp only [mg,Pr,if_true]
  cases z == y with
  | true=>exact ⟨_,rfl⟩
  | false=>exact ih
theorem eO {H:Heap} {mb:Nat} {es:List (AV × AV)} (hm:H.get mb=some (.map es)) (hk:np es) (z:Int):pH H .int .nilSl (.map mb) (.int .i64 z) false=some (fm es z):=by
 obtain ⟨o,ho⟩:=CB hk z
 simp only [pH,fJ,Bool.true_eq_false,if_false,Q8,hm,ho,fm]
 cases o <;> rfl
theorem Ms {H:Heap} {mb:Nat} {es:List (AV × AV)} (hm:H.get mb=some (.map es)) (hk:np es) (z:Int) (v:AV):kH H .int (.map mb) (.int .i64 z) v=some (H.put mb (.map (pw (.int .i64 z) v es))):=by
 obtain ⟨o,ho⟩:=CB hk z
 simp only [kH,fJ,Bool.true_eq_false,if_false,hm,ho]
theorem zR:∀ {es:List (AV × AV)},np es->∀ z v,np (pw (.int .i64 z) v es)
 | [],_,z,v=>fun p hp=>by simp [pw] at hp; exact ⟨z,by rw [hp]⟩
 | (k,w) :: es,h,z,v=>by
  obtain ⟨y,hy⟩:=h _ (List.mem_cons_self ..)
  simp only at hy
  subst hy
  have ih:=zR (es:=es) (fun p hp=>h p (List.mem_cons_of_mem _ hp)) z v
  simp only [pw,Pr,if_true]
  cases z == y with
  | true =>
   intro p hp
   rcases List.mem_cons.1 hp with rfl | hp
   ·exact ⟨z,rfl⟩
   ·exact h p (List.mem_cons_of_mem _ hp)
  | false =>
   intro p hp
   rcases List.mem_cons.1 hp with rfl | hp
   ·exact ⟨y,rfl⟩
   ·exact ih p hp
theorem pi:∀ {es:List (AV × AV)},np es->∀ z v z',fm (pw (.int .i64 z) v es) z'=if z'=z then v else fm es z'
 | [],_,z,v,z'=>by
  simp only [pw,fm,mg,Pr,if_true]
  by_cases h:z'=z
  ·simp [h]
  ·have e:(z' == z)=false:=by simpa using h
   simp [h,e]
 | (k,w) :: es,h,z,v,z'=>by
  obtain ⟨y,hy⟩:=h _ (List.mem_cons_self ..)
  simp only at hy
  subst hy
  have ih:=pi (es:=es) (fun p hp=>h p (List.mem_cons_of_mem _ hp)) z v z'
  simp only [fm] at ih
  simp only [pw,Pr,if_true,fm]
  by_cases hzy:z=y
  ·subst hzy
   simp only [beq_self_eq_true,mg,Pr,if_true]
   by_cases h:z'=z
   ·simp [h]
   ·have e:(z' == z)=false:=by simpa using h
    simp [h,e]
  ·have e1:(z == y)=false:=by simpa using hzy
   simp only [e1,mg,Pr,if_true]
   by_cases h:z'=y
   ·subst h
    simp [Ne.symm hzy]
   ·have e2:(z' == y)=false:=by simpa using h
    simp only [e2]
    exact ih
theorem FS {H H':Heap} {id sz bytes ty c m:Nat} {v v':AV} {news:List AV} {fr:Option Nat} (h:cE H id sz bytes ty v m news fr=some (v',H')) (hc:c≠id) (hn:H.get c=none):H'.get c=none:=by
 unfold cE at h
 split at h
 ·split at h
  ·cases h; exact hn
  ·split at h
   ·cases h; rw [au hc]; exact hn
   ·cases h
 ·split at h
  ·rename_i b off n c' sz' ex x cs ty' rw' hb
   have hcb:c≠b:=fun e=>by rw [<- e,hn] at hb; cases hb
   split at h
   ·split at h
    ·split at h
     ·cases h; exact hn
     ·split at h
      ·cases h; rw [au hcb]; exact hn
      ·cases h
    ·split at h
     ·cases h; rw [au hc]; exact hn
     ·split at h
      ·cases h; rw [au hc,cH hcb]; exact hn
      ·cases h
   ·cases h
  ·cases h
 ·cases h
theorem yq {H H':Heap} {id sz bytes ty c:Nat} {v w v':AV} (h:OC H id sz bytes ty v w=some (v',H')) (hc:c≠id) (hn:H.get c=none):H'.get c=none:=by
 unfold OC at h
 split at h
 ·cases h
 ·split at h
  ·cases h
  ·exact FS h hc hn
def Frm (v:AV) (H H':Heap):Prop:=∀ b e,H.get b=some e->iH v≠some b->H'.get b=some e
theorem Frm.subT {α:Type} {E:eU α} {ty:Nat} {tys:List Nat} {H0 H H':Heap} {v:AV} {l:List α} (hf:Frm v H H') (h:Bl E ty H0 H v l) (hn:ty ∉ tys):SubT tys H H':=fun c cs t r ht hc=>hf c _ hc fun e=>by
 rcases h with ⟨rfl,-⟩ | ⟨b,cells,rfl,hb,-⟩
 ·cases e
 ·cases e
  rw [hb] at hc; cases hc
  exact hn ht
theorem Frm.other {α:Type} {E:eU α} {ty:Nat} {H0 H H':Heap} {v:AV} {l:List α} (hf:Frm v H H') (h:Bl E ty H0 H v l) {b:Nat} {e:Ent} (hb:H.get b=some e) (he:∀ cs,e ≠ .cells cs ty true):H'.get b=some e:=hf b e hb fun e1=>by
 rcases h with ⟨rfl,-⟩ | ⟨b',cells,rfl,hb',-⟩
 ·cases e1
 ·cases e1
  rw [hb] at hb'; cases hb'
  exact he _ rfl
theorem Frm.bl {α β:Type} {E:eU α} {E':eU β} {ty:Nat} {H0 H H':Heap} {v w:AV} {l:List α} {m:List β} (hf:Frm v H H') (h:Bl E ty H0 H v l) (hw:Bl E' ty H0 H w m) (hs:Sep v w) (ht:ty ∉ E'.tys):Bl E' ty H0 H' w m:=by
 rcases hw with hw | ⟨b,cells,rfl,hb,hc,h0⟩
 ·exact .inl hw
 ·exact .inr ⟨b,cells,rfl,hf b _ hb fun e=>hs b e rfl,hc.mono (hf.subT h ht),h0⟩
theorem Bl.push2 {α:Type} {E:eU α} {ty ty2 bytes id id2:Nat} {H0 H:Heap} {v:AV} {l:List α} {cs:List AV} {a:α} (h:Bl E ty H0 H v l) (hty:ty ∉ E.tys) (hk:Kp H0 H) (hr:E.R H cs a) (hid:H0.next<=id) (hid':id<H.next) (hf:H.get id=none) (hid2:H0.next<=id2) (hid2':id2<H.next) (hf2:H.get id2=none) (hne:id≠id2)
  (hb:(l.length+1)*bytes<=70368744177664) (hl:l.length+1<4611686018427387904) :
  ∃ n H',OC (H.put id2 (.cells cs ty2 true)) id E.sz bytes ty v (.own id2 0 1 1 E.sz true)=some (.own id 0 n n E.sz false,H')/\Bl E ty H0 H' (.own id 0 n n E.sz false) (l++[a])/\Kp H0 H'/\H'.next=H.next/\Frm v H H'/\(∀ c,c≠id->c≠id2->H.get c=none->H'.get c=none):=by
 have hsub:Sub H (H.put id2 (.cells cs ty2 true)):=bh hf2
 have hk':Kp H0 (H.put id2 (.cells cs ty2 true)):=hk.put hid2 hid2'
 have hy:SlV E ty2 (H.put id2 (.cells cs ty2 true)) (.own id2 0 1 1 E.sz true) [a] :=
  (show Own E ty2 H0 _ id2 true (.own id2 0 1 1 E.sz true) [a] from ⟨cs,rfl,aA _ _ _,Cells.one (E.mono (hsub.t _) hr),hid2⟩).sl
 have hvne:∀ b n,v=.own b 0 n n E.sz false->b≠id2:=fun b n hv e=>by
  rcases h with ⟨h,-⟩ | ⟨b',cells,h,hb',-⟩
  ·rw [h] at hv; cases hv
  ·rw [h] at hv; cases hv
   rw [e,hf2] at hb'; cases hb'
 obtain ⟨v',H',e1,e2,e3,e4,e5,e6⟩:=(h.mono hsub).app (id:=id) (bytes:=bytes) hty hk' hy hid hid' (by rw [au hne]; exact hf) (fun b n hv off m c z x hw=>by cases hw; exact hvne _ _ hv rfl) hb hl
 obtain ⟨n,rfl⟩:=e6 (by simp)
 refine ⟨n,H',e1,e2,e3,e4,fun b e hbe he=>e5 b e (hsub.get _ _ hbe) fun n hv=>he (by rw [hv]; rfl),fun c h1 h2 h3=>yq e1 h1 (by rw [au h2]; exact h3)⟩
theorem Bl.push1 {α:Type} {E:eU α} {ty ty2 bytes id id2 k:Nat} {H0 H:Heap} {v:AV} {l:List α} {cs:List AV} {a:α} (h:Bl E ty H0 H v l) (hty:ty ∉ E.tys) (hk:Kp H0 H) (hr:E.R H cs a) (hid:H.next<=id) (hidk:id<H.next+k) (hid2:H.next<=id2) (hid2k:id2<H.next+k) (hne:id≠id2)
  (hb:(l.length+1)*bytes<=70368744177664) (hl:l.length+1<4611686018427387904) :
  ∃ n H',OC ((H.up k).put id2 (.cells cs ty2 true)) id E.sz bytes ty v (.own id2 0 1 1 E.sz true)=some (.own id 0 n n E.sz false,H')/\Bl E ty H0 H' (.own id 0 n n E.sz false) (l++[a])/\Kp H0 H'/\H'.next=H.next+k/\Frm v H H'/\(∀ c,c≠id->c≠id2->H.get c=none->H'.get c=none):=by
 have hle:=hk.le
 exact Bl.push2 (H:=H.up k) (h.mono (Sub.bump H k)) hty (hk.up k) (E.mono ((Sub.bump H k).t _) hr) (by omega) hidk (hk.wf.fresh (b:=id) hid) (by omega) hid2k (hk.wf.fresh (b:=id2) hid2) hne hb hl
def uR (a:List Int) (R:List (List Int)) (k:Nat) (s:Int):List Int:=((List.range k).filter fun i=>gI (Lin.dot a (R.getD i [])) == s).map fun i:Nat=>(i:Int)
theorem BR (a:List Int) (R:List (List Int)) (k:Nat) (s:Int):uR a R (k+1) s=uR a R k s++if gI (Lin.dot a (R.getD k []))=s then [(k:Int)] else []:=by
 unfold uR
 rw [List.range_succ,List.filter_append,List.map_append]
 congr 1
 by_cases h:gI (Lin.dot a (R.getD k []))=s
 ·have e:List.filter (fun i=>gI (Lin.dot a (R.getD i [])) == s) [k]=[k]:=List.filter_cons_of_pos (p:=fun i=>gI (Lin.dot a (R.getD i [])) == s) (beq_iff_eq.2 h)
  rw [if_pos h,e]; rfl
 ·have e:List.filter (fun i=>gI (Lin.dot a (R.getD i [])) == s) [k]=[]:=List.filter_cons_of_neg (p:=fun i=>gI (Lin.dot a (R.getD i [])) == s) (fun h'=>h (beq_iff_eq.1 h'))
  rw [if_neg h,e]; rfl
theorem EE (a:List Int) (R:List (List Int)) (k:Nat) (s:Int):(uR a R k s).length<=k:=by
 unfold uR
 rw [List.length_map]
 exact Nat.le_trans (List.length_filter_le _ _) (by simp)
structure SidesV (H0 H:Heap) (mb:Nat) (a:List Int) (R:List (List Int)) (k:Nat) (es:List (AV × AV)):Prop where
 get:H.get mb=some (.map es)
 keys:np es
 bl:∀ s,xd H0 H (fm es s) (uR a R k s)
 sep:∀ s s',s≠s'->Sep (fm es s) (fm es s')
theorem SidesV.mono {H0 H H':Heap} {mb:Nat} {a:List Int} {R:List (List Int)} {k:Nat} {es:List (AV × AV)} (hs:Sub H H') (h:SidesV H0 H mb a R k es):SidesV H0 H' mb a R k es :=
 ⟨hs.get _ _ h.get,h.keys,fun s=>(h.bl s).mono hs,h.sep⟩
abbrev LJ:eU (List Nat):=cB (pE (cB bX) ad)
structure CutV (H H':Heap) (mb:Nat) (a:List Int) (R D:List (List Int)) (k:Nat) (vm vd:AV) (es:List (AV × AV)) (Ws:List (List Nat)):Prop where
 bm:Bl LJ dG H H' vm Ws
 wl:Ws.length=k
 wok:∀ t (h:t<R.length) (h':t<Ws.length),nl (zeros R[t] D) Ws[t]
 bd:Bl intE aa H H' vd ((R.take k).map (Lin.dot a))
 sd:SidesV H H' mb a R k es
theorem CutV.mono {H H' H'':Heap} {mb:Nat} {a:List Int} {R D:List (List Int)} {k:Nat} {vm vd:AV} {es:List (AV × AV)} {Ws:List (List Nat)} (hs:Sub H' H'') (h:CutV H H' mb a R D k vm vd es Ws):CutV H H'' mb a R D k vm vd es Ws :=
 ⟨h.bm.mono hs,h.wl,h.wok,h.bd.mono hs,h.sd.mono hs⟩
theorem NoTy.map {tys:List Nat} {H:Heap} {b:Nat} {es:List (AV × AV)} (h:H.get b=some (.map es)):NoTy tys H b:=fun cs t r _ e=>by rw [h] at e; cases e
theorem Bl.blk {α:Type} {E:eU α} {ty:Nat} {H0 H:Heap} {v:AV} {l:List α} (h:Bl E ty H0 H v l) {b:Nat} (hb:iH v=some b):∃ cells,H.get b=some (.cells cells ty true):=by
 rcases h with ⟨rfl,-⟩ | ⟨b',cells,rfl,h1,-⟩
 ·cases hb
 ·cases hb; exact ⟨_,h1⟩
section
variable {tab:Nat->Option aq} {H:Heap} {s:AV}
theorem FB (C:Code tab) {ub mb k:Nat} {ql qr qd va vm vd:AV} {a:List Int} {R D:List (List Int)} {d e f:Nat} {es:List (AV × AV)} {Ws:List (List Nat)} {T1:Tm} {H1:Heap} (hub:H.get ub=some (.cells [ql,qr,qd] aN true)) (hqr:cI H qr R) (hqd:cI H qd D) (ha:RowV H va a) (hd0:0<d) (hd:d<=64) (hal:a.length=d) (hR:∀ r∈R,r.length=d/\∀ z∈r,Bt f z) (hD:∀ r∈D,r.length=d/\∀ z∈r,Bt e z) (hD1:D.length<=1024) (hae:∀ z∈a,Bt e z) (hb:e+f+7<=8796093022208) (hbig:R.length<1099511627776) (hk1:Kp H H1) (hkk:k<R.length) (hl1:T1.length=135)
  (t0:ae T1 0=.ptr ub 0) (t1:ae T1 1=va) (t6:ae T1 6=.map mb) (t23:ae T1 23=qr) (hi1:ae T1 25=.int .i64 (k:Int)) (v7:ae T1 7=vm) (v8:ae T1 8=vd) (hmb:H.next<=mb) (hc:CutV H H1 mb a R D k vm vd es Ws) {Q:Ex->Tm->Heap->Prop}
  (hq:∀ T2 H2 vm' vd' es' Ws',T2.length=135->ae T2 7=vm'->ae T2 8=vd'->Kp H H2->CutV H H2 mb a R D (k+1) vm' vd' es' Ws'->Q .nrm T2 H2) :
  WC tab false (.seq (.region [⟨some 27,.mv (.t 25),none⟩,⟨some 28,.indexAddr 1 (.t 23) (.t 25),none⟩,⟨some 29,.load none (.t 28),none⟩,⟨some 9,.mv (.t 27),none⟩,⟨some 10,.mv (.t 29),none⟩]) <|
   .seq (.region [⟨some 30,.mv (.t 1),none⟩,⟨some 31,.mv (.t 10),none⟩,⟨some 32,.call (.c (.fn (.func mQ) [] [])) [(.t 30),(.t 31)],none⟩,⟨some 11,.alloc aa [(.bool false),.nilSl],none⟩,⟨none,.store 2 (.t 11) (.t 32),none⟩]) <|
   .seq (.region [⟨some 33,.mv (.t 8),none⟩,⟨some 34,.load (some 2) (.t 11),none⟩,⟨some 35,.buildSlice aa 2 [(.bool false),.nilSl] 1 [((0,2),(.t 34))],none⟩,⟨some 36,.append 2 32 aa [(.bool false),.nilSl] (.t 33) (.t 35),none⟩,⟨some 37,.mv (.t 7),none⟩,⟨some 38,.mv (.t 0),none⟩,⟨some 39,.mv (.t 10),none⟩,⟨some 40,.call (.c (.fn (.func OW) [] [])) [(.t 38),(.t 39)],none⟩,⟨some 41,.buildSlice dG 1 [.nilSl] 1 [((0,1),(.t 40))],none⟩,⟨some 42,.append 1 24 dG [.nilSl] (.t 37) (.t 41),none⟩,⟨some 8,.mv (.t 36),none⟩,⟨some 7,.mv (.t 42),none⟩]) <|
   .draw [
    ⟨(some 43),.mv (.t 6),none,[(6,none)],0,[(0,[]),(1,[]),(2,[]),(3,[])]⟩,
    ⟨(some 44),.load (some 2) (.t 11),none,[(11,none)],0,[(0,[])]⟩,
    ⟨(some 45),.call (.c (.fn (.func jg) [] [])) [(.t 44)],none,[(44,(some 1))],2,[(0,[])]⟩,
    ⟨(some 46),.mv (.t 6),none,[(6,none)],0,[(0,[]),(1,[]),(2,[])]⟩,
    ⟨(some 47),.load (some 2) (.t 11),none,[(11,none)],0,[(0,[]),(1,[])]⟩,
    ⟨(some 48),.call (.c (.fn (.func jg) [] [])) [(.t 47)],none,[(47,(some 4))],2,[(1,[])]⟩,
    ⟨(some 49),.lookup .int .nilSl (.t 46) (.t 48) false,none,[(46,(some 3)),(48,(some 5))],0,[(2,[])]⟩,
    ⟨(some 50),.mv (.t 9),none,[(9,none)],0,[(0,[]),(1,[]),(2,[])]⟩,
    ⟨(some 51),.buildSlice fL 1 [(.int .i64 0)] 1 [((0,1),(.t 50))],none,[(50,(some 7))],1,[(0,[]),(1,[]),(2,[])]⟩,
    ⟨(some 52),.append 1 8 fL [(.int .i64 0)] (.t 49) (.t 51),none,[(49,(some 6)),(51,(some 8))],2,[(2,[8])]⟩,
    ⟨none,.mapUpd .int (.t 43) (.t 45) (.t 52),none,[(43,(some 0)),(45,(some 2)),(52,(some 9))],2,[(3,[])]⟩] []) T1 H1 Q:=by
 have hw:=hk1.wf0
 have w1:=hk1.wf
 have le_hk1:=hk1.le
 have le1:=hk1.le
 obtain ⟨vr,hvr,hldr⟩:=cV hqr hkk
 have hixr:=SlV.idx1 hqr .i64 k hkk
 have hldr1:=aH hk1.sub hldr
 have hRk:=hR _ (List.getElem_mem hkk)
 have lub:=hw _ _ hub
 have hdot:=mY hae hRk.2 (hal.trans hRk.1.symm) (by omega)
 refine zW (jm hl1 t0 t1 t23 hi1 hixr hldr1) ?_
 refine AnsH.use (cone_dot C zF (ha.mono (Kp.sub (H:=H) zK)) (hvr.mono (Kp.sub (H:=H) zK)) (hal.trans hRk.1.symm) (by omega) hae hRk.2 (by omega)) ?_
 rintro v H2 ⟨⟨w,rfl,hr2⟩,hk2⟩
 obtain ⟨k12,_,_⟩:=zT H1 zK hk2
 have k02:Kp H H2:=hk1.trans k12
 have le_k02:=k02.le
 have w2:=k02.wf
 have n2:H1.next+10<=H2.next:=hk2.le
 have f8:H2.get (H1.next+8)=none:=hk2.free (show _<H1.next+10 by omega) (w1.fresh (b:=H1.next+8) (by omega))
 have ow:=hr2.one
 obtain ⟨z,hz⟩:∃ z,z=Lin.dot a R[k]:=⟨_,rfl⟩
 rw [<- hz] at hr2 hdot ⊢
 obtain ⟨Hc,hHc⟩:∃ X,X=(H2.put (H1.next+8) (.cells [.bool false,.nilSl] aa true)).put (H1.next+8) (.cells [.bool (decide (z<0)),w] aa true):=⟨_,rfl⟩
 have s2c:Sub H2 Hc:=by rw [hHc]; exact (bh f8).put f8 _
 have k0c:Kp H Hc:=by rw [hHc]; exact zK
 have nc:Hc.next=H2.next:=by rw [hHc]; rfl
 have hbxc:Hc.get (H1.next+8)=some (.cells [.bool (decide (z<0)),w] aa true):=by rw [hHc]; exact aA _ _ _
 have k1c:Kp H1 Hc:=by rw [hHc]; exact zK
 have cc:=hc.mono k1c.sub
 have hrc:bZ Hc w z.natAbs:=hr2.mono s2c
 have wc:=k0c.wf
 have hlen1:((R.take k).map (Lin.dot a)).length=k:=by simp; omega
 obtain ⟨n36,H36,e36,b36,k36,nx36,f36,u36⟩:=Bl.push1 (ty2:=aa) (bytes:=32) (id:=Hc.next+3) (id2:=Hc.next+2) (k:=12) (cs:=[.bool (decide (z<0)),w]) (a:=z) cc.bd (by decide) k0c ⟨w,rfl,hrc⟩ (by omega) (by omega) (by omega) (by omega) (by omega) (by omega) (by omega)
 rw [nc] at e36 b36 nx36 u36
 have e36':OC ((((H2.up 12).put (H1.next+8) (.cells [.bool false,.nilSl] aa true)).put (H1.next+8) (.cells [.bool (decide (z<0)),w] aa true)).put (H2.next+2) (.cells [.bool (decide (z<0)),w] aa true)) (H2.next+3) 2 32 aa vd (.own (H2.next+2) 0 1 1 2 true)=some (.own (H2.next+3) 0 n36 n36 2 false,H36):=by rw [hHc] at e36; exact e36
 refine zW (cJ hl1 t0 v7 v8 e36') ?_
 have w36:=k36.wf
 have hubc:Hc.get ub=some (.cells [ql,qr,qd] aN true):=k0c.get hub
 have hub36:=f36.other cc.bd hubc (fun cs h=>by injection h with _ h2; exact absurd h2 (by decide))
 have hbd1:∀ x,iH vd=some x->x<H1.next:=fun x hx=>by
  obtain ⟨cells,h⟩:=hc.bd.blk hx
  exact w1 _ _ h
 have hbx36:H36.get (H1.next+8)=some (.cells [.bool (decide (z<0)),w] aa true):=f36 _ _ hbxc fun e=>by have:=hbd1 _ e; omega
 have hr36:bZ H36 w z.natAbs:=SlV.monoT (E:=cB bX) (f36.subT cc.bd (by decide)) hrc
 refine AnsH.use (FF C zF hub36 (hqd.mono k36.sub) (hvr.mono k36.sub) hD1 hd0 hd hRk.1 (fun x hx=>(hD x hx).1) hRk.2 (fun x hx=>(hD x hx).2) (by omega)) ?_
 rintro v40 H40 ⟨W,hW,mW,hk40⟩
 have k40:Kp H H40:=k36.trans hk40
 have le_k40:=k40.le
 have w40:=k40.wf
 have o40:=hW.one
 have le40:=hk40.le
 have f40a:H40.get (H2.next+8)=none:=hk40.free (by omega) (u36 _ (by omega) (by omega) (wc.fresh (b:=H2.next+8) (by omega)))
 have f40b:H40.get (H2.next+9)=none:=hk40.free (by omega) (u36 _ (by omega) (by omega) (wc.fresh (b:=H2.next+9) (by omega)))
 have bm36:Bl LJ dG H H36 vm Ws:=cc.bm.monoT (f36.subT cc.bd (by decide))
 have sdm:SidesV H H36 mb a R k es:=by
  refine ⟨f36.other cc.bd cc.sd.get (fun cs h=>by cases h),cc.sd.keys,fun s=>?_,cc.sd.sep⟩
  exact (cc.sd.bl s).monoT (f36.subT cc.bd (by decide))
 obtain ⟨n42,H42,e42,b42,k42,nx42,f42,u42⟩:=Bl.push2 (ty2:=dG) (bytes:=24) (id:=H2.next+9) (id2:=H2.next+8) (cs:=[v40]) (a:=W) (bm36.mono hk40.sub) (by decide) k40 ⟨v40,rfl,hW⟩ (by omega) (by omega) f40b (by omega) (by omega) f40a (by omega) (by have:=hc.wl; omega) (by have:=hc.wl; omega)
 have e42':OC (H40.put (H2.next+8) (.cells [v40] dG true)) (H2.next+9) 1 24 dG vm (.own (H2.next+8) 0 1 1 1 true)=some (.own (H2.next+9) 0 n42 n42 1 false,H42):=e42
 refine zW (cJ hl1 t0 v7 v8 e42') ?_
 have bm40:Bl LJ dG H H40 vm Ws:=bm36.mono hk40.sub
 have w42:=k42.wf
 have hbx40:=hk40.get hbx36
 have hbx42:=f42.other bm40 hbx40 (fun cs h=>by injection h with _ h2; exact absurd h2 (by decide))
 have hr42:bZ H42 w z.natAbs:=SlV.monoT (E:=cB bX) (f42.subT bm40 (by decide)) (hr36.mono hk40.sub)
 have bd42:Bl intE aa H H42 (.own (H2.next+3) 0 n36 n36 2 false) ((R.take k).map (Lin.dot a)++[z]):=(b36.mono hk40.sub).monoT (f42.subT bm40 (by decide))
 have sd42:SidesV H H42 mb a R k es:=by
  have h40:=sdm.mono hk40.sub
  refine ⟨f42.other bm40 h40.get (fun cs h=>by cases h),h40.keys,fun s=>?_,h40.sep⟩
  exact (h40.bl s).monoT (f42.subT bm40 (by decide))
 have hsm:OV z:=hdot.sm (by omega)
 have lk:=eO sd42.get sd42.keys (gI z)
 refine aO ?_
 refine zD (aC hl1 t6 hbx42) ?_
 refine AnsH.eq (cone_sign C (z:=z) zF ⟨w,rfl,hr42.mono (Kp.sub (H:=H42) zK)⟩ hsm) fun H45 hk45=>?_
 obtain ⟨k4245,_,w45⟩:=zT H42 zK hk45
 have hbx45:=k4245.get hbx42
 refine zD (bg hl1 t6 hbx42 hbx45) ?_
 refine AnsH.eq (cone_sign C (z:=z) zF ⟨w,rfl,hr42.mono k4245.sub⟩ hsm) fun H48 hk48=>?_
 have k4248:Kp H42 H48:=k4245.trans hk48
 have le_k4248:=k4248.le
 have w48:=k4248.wf
 have sd48:=sd42.mono k4248.sub
 have lk48:=eO sd48.get sd48.keys (gI z)
 have le48:=k4248.le
 have f48a:H48.get (H42.next+8)=none:=hk48.free (by have:=hk45.le; simp only [cw] at this; omega) (hk45.free (show _<H42.next+11 by omega) (w42.fresh (b:=H42.next+8) (by omega)))
 have f48b:H48.get (H42.next+9)=none:=hk48.free (by have:=hk45.le; simp only [cw] at this; omega) (hk45.free (show _<H42.next+11 by omega) (w42.fresh (b:=H42.next+9) (by omega)))
 have nx48:H42.next+11<=H48.next:=Nat.le_trans hk45.le hk48.le
 have k48:Kp H H48:=k42.trans k4248
 have le_k48:=k48.le
 have le042:=k42.le
 have hsl:=EE a R k (gI z)
 obtain ⟨n52,H52,e52,b52,k52,nx52,f52,u52⟩:=Bl.push2 (ty2:=fL) (bytes:=8) (id:=H42.next+9) (id2:=H42.next+8) (cs:=[.int .i64 (k:Int)]) (a:=(k:Int)) (sd48.bl (gI z)) (fun h=>by cases h) k48 ⟨_,rfl,rfl⟩ (by omega) (by omega) f48b (by omega) (by omega) f48a (by omega) (by omega) (by omega)
 have e52':OC (H48.put (H42.next+8) (.cells [.int .i64 (k:Int)] fL true)) (H42.next+9) 1 8 fL (fm es (gI z)) (.own (H42.next+8) 0 1 1 1 true)=some (.own (H42.next+9) 0 n52 n52 1 false,H52):=e52
 have hm52:H52.get mb=some (.map es):=f52.other (sd48.bl (gI z)) sd48.get (fun cs h=>by cases h)
 have up52:=Ms hm52 sd48.keys (gI z) (.own (H42.next+9) 0 n52 n52 1 false)
 simp -dsimp (maxSteps:=1000000) (disch:=(first | omega | assumption | exact aF _ | exact aR _ _ | exact aV | exact bB _ _ _ | exact aY _ _ | exact aU _ _ _ _ _ _ | exact bI _ _ | exact bc _)) only [↓nD,nC,↓BH,BG,Nat.reduceLT,Nat.reduceEqDiff,Nat.reduceAdd,reduceIte,reduceCtorEq,Nat.reduceBEq,Int.reduceEq,Int.reduceLT,Int.reduceLE,Int.reduceAdd,Int.reduceSub,hl1,t6,hbx42,hbx45,↓lP,↓El,BA,lk48,hi1,e52',up52]
 have lmb:=k52.wf _ _ hm52
 have nm:∀ tys e,SubT tys H52 (H52.put mb e):=fun tys e=>SubT.puts (SubT.refl _ _) (NoTy.map hm52)
 have hgR:R.getD k []=R[k]:=by simp [hkk]
 refine hq _ _ (.own (H2.next+9) 0 n42 n42 1 false) (.own (H2.next+3) 0 n36 n36 2 false) _ (Ws++[W]) (by simp only [List.length_set]; exact hl1) (zV hl1) (zV hl1) zK ⟨?_,?_,?_,?_,aA _ _ _,zR sd48.keys _ _,fun s=>?_,fun s s' hne=>?_⟩
 ·exact ((b42.mono k4248.sub).monoT (f52.subT (sd48.bl (gI z)) (by decide))).monoT (nm _ _)
 ·rw [List.length_append,hc.wl]; rfl
 ·intro t h h'
  by_cases ht:t<Ws.length
  ·rw [List.getElem_append_left ht]; exact hc.wok t h ht
  ·have e:t=k:=by rw [List.length_append] at h'; have:=hc.wl; simp only [List.length_cons,List.length_nil] at h'; omega
   subst e
   rw [List.getElem_append_right (by omega)]
   simpa using mW
 ·rw [List.take_succ_eq_append_getElem hkk,List.map_append]
  have e:[R[k]].map (Lin.dot a)=[z]:=by rw [hz]; rfl
  rw [e]
  exact ((bd42.mono k4248.sub).monoT (f52.subT (sd48.bl (gI z)) (by decide))).monoT (nm _ _)
 ·rw [pi sd48.keys,BR,hgR,<- hz]
  by_cases hs:s=gI z
  ·subst hs
   rw [if_pos rfl,if_pos rfl]
   exact b52.monoT (nm _ _)
  ·rw [if_neg hs,if_neg (fun e=>hs e.symm),List.append_nil]
   exact (f52.bl (sd48.bl (gI z)) (sd48.bl s) (sd48.sep _ _ (fun e=>hs e.symm)) (fun h=>by cases h)).monoT (nm _ _)
 ·have hnew:∀ s,Sep (.own (H42.next+9) 0 n52 n52 1 false) (fm es s):=fun s x hx hy=>by
   cases hx
   obtain ⟨cells,hcl⟩:=(sd48.bl s).blk hy
   rw [f48b] at hcl; cases hcl
  rw [pi sd48.keys,pi sd48.keys]
  by_cases h1:s=gI z
  ·by_cases h2:s'=gI z
   ·exact absurd (h1.trans h2.symm) hne
   ·rw [if_pos h1,if_neg h2]; exact hnew s'
  ·by_cases h2:s'=gI z
   ·rw [if_neg h1,if_pos h2]; exact (hnew s).symm
   ·rw [if_neg h1,if_neg h2]; exact sd48.sep s s' hne
end
def b7 (a:List Int) (R:List (List Int)) (s:Int):List Nat:=(List.range R.length).filter fun i=>gI (Lin.dot a (R.getD i [])) == s
theorem yI (a:List Int) (R:List (List Int)) (s:Int):uR a R R.length s=(b7 a R s).map fun i:Nat=>(i:Int):=rfl
theorem uP {a:List Int} {R:List (List Int)} {s:Int} {i:Nat} (h:i∈b7 a R s):i<R.length:=by
 unfold b7 at h
 rw [List.mem_filter] at h
 simpa using h.1
theorem uQ (a:List Int) (R:List (List Int)) (s:Int):(b7 a R s).length<=R.length:=by
 unfold b7
 exact Nat.le_trans (List.length_filter_le _ _) (by simp)
def xo (D:List (List Int)) (a:List Int) (eq:Bool) (R:List (List Int)) (i:Nat):List (List Int) :=
 (if eq then [] else [R.getD i []])++((b7 a R (-1)).filter (Lin.nearB D R i)).map fun k=>Lin.prime (Lin.mx a (R.getD i []) (R.getD k []))
theorem DO (D:List (List Int)) (a:List Int) (eq:Bool) (R:List (List Int)):Lin.cutL D a eq R=(b7 a R 0).map (R.getD · [])++(b7 a R 1).flatMap (xo D a eq R):=by
 have h0:Lin.idxs R (fun r=>Lin.dot a r == 0)=b7 a R 0:=by
  unfold Lin.idxs b7
  refine List.filter_congr fun i _=>?_
  rw [Bool.eq_iff_iff,beq_iff_eq,beq_iff_eq,gq]
 have h1:Lin.idxs R (fun r=>decide (0<Lin.dot a r))=b7 a R 1:=by
  unfold Lin.idxs b7
  refine List.filter_congr fun i _=>?_
  rw [Bool.eq_iff_iff,decide_eq_true_eq,beq_iff_eq]
  unfold gI
  split
  ·constructor <;> intro h <;> omega
  ·split
   ·constructor <;> intro h <;> omega
   ·constructor <;> intro h <;> omega
 have h2:Lin.idxs R (fun r=>decide (Lin.dot a r<0))=b7 a R (-1):=by
  unfold Lin.idxs b7
  refine List.filter_congr fun i _=>?_
  rw [Bool.eq_iff_iff,decide_eq_true_eq,beq_iff_eq]
  unfold gI
  split
  ·constructor <;> intro h <;> omega
  ·split
   ·constructor <;> intro h <;> omega
   ·constructor <;> intro h <;> omega
 unfold Lin.cutL
 rw [h0,h1,h2]
 rfl
theorem JL {D R:List (List Int)} {i k:Nat} (hi:i<R.length) (hk:k<R.length):vC (R.map fun r=>zeros r D) i k=Lin.nearB D R i k:=by
 have hz:∀ t,t<R.length->(R.map fun r=>zeros r D).getD t []=zeros (R.getD t []) D:=fun t h=>by simp [h]
 have hh:∀ t,t<R.length->zk ((R.map fun r=>zeros r D).getD t []) ((R.map fun r=>zeros r D).getD i []) ((R.map fun r=>zeros r D).getD k [])=(D.all fun b=>!(Lin.dot b (R.getD i []) == 0 && Lin.dot b (R.getD k []) == 0) || Lin.dot b (R.getD t []) == 0):=fun t h=>by
  rw [hz t h,hz i hi,hz k hk]
  have hg:∀ r x,x<D.length->(zeros r D).getD x false=decide (Lin.dot (D.getD x []) r=0):=fun r x hx=>by
   simp [zeros,hx,Lin.dot_comm r]
  unfold zk
  rw [Bool.eq_iff_iff,List.all_eq_true,List.all_eq_true,QZ]
  constructor
  ·intro h b hb
   obtain ⟨x,hx,rfl⟩:=List.getElem_of_mem hb
   have:=h x (by simpa using hx)
   rw [hg _ x hx,hg _ x hx,hg _ x hx] at this
   have e:D.getD x []=D[x]:=by simp [hx]
   rw [e] at this
   simpa using this
  ·intro h x hx
   have hx:x<D.length:=by simpa using hx
   rw [hg _ x hx,hg _ x hx,hg _ x hx]
   have e:D.getD x []=D[x]:=by simp [hx]
   rw [e]
   have:=h D[x] (List.getElem_mem hx)
   simpa using this
 unfold vC Lin.nearB
 rw [List.length_map,Bool.eq_iff_iff,List.all_eq_true,List.all_eq_true]
 constructor
 ·intro h t ht
  have:=h t ht
  rw [hh t (by simpa using ht)] at this
  exact this
 ·intro h t ht
  have:=h t ht
  rw [hh t (by simpa using ht)]
  exact this
theorem CutV.frm {H H' H'':Heap} {mb:Nat} {a:List Int} {R D:List (List Int)} {k:Nat} {vm vd v:AV} {es:List (AV × AV)} {Ws:List (List Nat)} {l:List (List Int)} (h:CutV H H' mb a R D k vm vd es Ws) (hf:Frm v H' H'') (hb:Bl rowsE af H H' v l):CutV H H'' mb a R D k vm vd es Ws :=
 ⟨h.bm.monoT (hf.subT hb (by decide)),h.wl,h.wok,h.bd.monoT (hf.subT hb (by decide)),hf.other hb h.sd.get (fun cs e=>by cases e),h.sd.keys,fun s=>(h.sd.bl s).monoT (hf.subT hb (by decide)),h.sd.sep⟩
section
variable {tab:Nat->Option aq} {H:Heap} {s:AV}
theorem zh {H0 H:Heap} {v:AV} {l:List Nat} (h:xd H0 H v (l.map fun i:Nat=>(i:Int))) {j:Nat} (hj:j<l.length):aZ H none (al v j)=some (.int .i64 ((l[j]:Nat):Int))/\Ox 1 v (.int .i64 (j:Int))=some (al v j):=by
 obtain ⟨c,hc,hld⟩:=SlV.at1 h.sl (i:=j) (a:=((l[j]:Nat):Int)) (by simp [hj])
 have hc:c=.int .i64 ((l[j]:Nat):Int):=hc
 rw [hc] at hld
 exact ⟨hld,SlV.idx1 h.sl .i64 j (by simpa using hj)⟩
theorem Bl.ge {α:Type} {E:eU α} {ty:Nat} {H0 H:Heap} {v:AV} {l:List α} (h:Bl E ty H0 H v l) {b:Nat} (hb:iH v=some b):H0.next<=b:=by
 rcases h with ⟨rfl,-⟩ | ⟨b',cells,rfl,-,-,h0⟩
 ·cases hb
 ·cases hb; exact h0
theorem Wr.putT {H0 H:Heap} {v:AV} {l:List (List Int)} {c b ty:Nat} {cs:List AV} {r:Bool} {e:Ent} (h:Wr H0 H v l c) (hb:H.get b=some (.cells cs ty r)) (h1:ty≠af) (h2:ty ∉ (pE intE aa).tys):Wr H0 (H.put b e) v l c:=by
 refine h.put (fun hv=>?_) (NoTy.ty hb h2)
 rcases h with ⟨rfl,-⟩ | ⟨b',cells,rfl,h3,-⟩
 ·cases hv
 ·cases hv
  rw [hb] at h3
  injection h3 with h4; injection h4 with _ h5
  exact h1 h5
theorem xY (C:Code tab) {ub mb i:Nat} {ql qr qd va vm vd vo:AV} {a:List Int} {R D pre:List (List Int)} {d e f:Nat} {es:List (AV × AV)} {Ws:List (List Nat)} {T1:Tm} {H1:Heap} (hub:H.get ub=some (.cells [ql,qr,qd] aN true)) (hqr:cI H qr R) (hd:d<=64) (hal:a.length=d) (hR:∀ r∈R,r.length=d/\∀ z∈r,Bt f z) (hD1:D.length<=1024) (hae:∀ z∈a,Bt e z) (hb:2*(e+f+7)+2*f+1<=8796093022208) (hbig:R.length<=1099000000000) (hpre:pre.length<=1100000000000) (hk1:Kp H H1) (hi:i<R.length) (hl1:T1.length=135)
  (t0:ae T1 0=.ptr ub 0) (v7:ae T1 7=vm) (v8:ae T1 8=vd) (t16:ae T1 16=.int .i64 (i:Int)) (t12:ae T1 12=vo) (t92:ae T1 92=fm es (-1)) (t93:ae T1 93=.int .i64 ((b7 a R (-1)).length:Int)) (t94:ae T1 94=.int .i64 0) (hc:CutV H H1 mb a R D R.length vm vd es Ws) (ho:Bl rowsE af H H1 vo pre) {Q:Ex->Tm->Heap->Prop}
  (hq:∀ T2 H2 vo',T2.length=135->ae T2 12=vo'->Kp H H2->CutV H H2 mb a R D R.length vm vd es Ws->Bl rowsE af H H2 vo' (pre++((b7 a R (-1)).filter (Lin.nearB D R i)).map fun k=>Lin.prime (Lin.mx a (R.getD i []) (R.getD k [])))->Q .nrm T2 H2) :
  WC tab false (J3 6 7 94 93 95 129
  (.seq (.region [
  ⟨(some 96),.indexAddr 1 (.t 92) (.t 94),none⟩,
  ⟨(some 97),.load none (.t 96),none⟩,
  ⟨(some 18),.mv (.t 97),none⟩]) <|
  .seq (.region [
  ⟨(some 98),.mv (.t 7),none⟩,
  ⟨(some 99),.mv (.t 16),none⟩,
  ⟨(some 100),.mv (.t 18),none⟩,
  ⟨(some 101),.call (.c (.fn (.func kE) [] [])) [(.t 98),(.t 99),(.t 100)],none⟩]) <|
  .cond (.t 101)
  (.draw [
   ⟨(some 102),.mv (.t 12),none,[(12,none)],0,[(0,[]),(1,[]),(2,[])]⟩,
   ⟨(some 103),.mv (.t 8),none,[(8,none)],0,[(0,[])]⟩,
   ⟨(some 104),.mv (.t 18),none,[(18,none)],0,[(0,[])]⟩,
   ⟨(some 105),.indexAddr 2 (.t 103) (.t 104),none,[(103,(some 1)),(104,(some 2))],0,[(0,[])]⟩,
   ⟨(some 106),.load (some 2) (.t 105),none,[(105,(some 3))],0,[(0,[])]⟩,
   ⟨(some 107),.call (.c (.fn (.func mO) [] [])) [(.t 106)],none,[(106,(some 4))],2,[(0,[])]⟩,
   ⟨(some 108),.mv (.t 0),none,[(0,none)],0,[(0,[]),(1,[])]⟩,
   ⟨(some 109),.nilCheck (.t 108),none,[(108,(some 6))],0,[(0,[]),(1,[])]⟩,
   ⟨(some 110),.fieldAddr 1 (.t 109),none,[(109,(some 7))],0,[(0,[]),(1,[])]⟩,
   ⟨(some 111),.load none (.t 110),none,[(110,(some 8))],0,[(0,[]),(1,[])]⟩,
   ⟨(some 112),.mv (.t 16),none,[(16,none)],0,[(0,[]),(1,[])]⟩,
   ⟨(some 113),.indexAddr 1 (.t 111) (.t 112),none,[(111,(some 9)),(112,(some 10))],0,[(0,[]),(1,[])]⟩,
   ⟨(some 114),.load none (.t 113),none,[(113,(some 11))],0,[(0,[]),(1,[])]⟩,
   ⟨(some 115),.mv (.t 8),none,[(8,none)],0,[(0,[]),(1,[])]⟩,
   ⟨(some 116),.mv (.t 16),none,[(16,none)],0,[(0,[]),(1,[])]⟩,
   ⟨(some 117),.indexAddr 2 (.t 115) (.t 116),none,[(115,(some 13)),(116,(some 14))],0,[(0,[]),(1,[])]⟩,
   ⟨(some 118),.load (some 2) (.t 117),none,[(117,(some 15))],0,[(0,[]),(1,[])]⟩,
   ⟨(some 119),.mv (.t 0),none,[(0,none)],0,[(0,[]),(1,[])]⟩,
   ⟨(some 120),.nilCheck (.t 119),none,[(119,(some 17))],0,[(0,[]),(1,[])]⟩,
   ⟨(some 121),.fieldAddr 1 (.t 120),none,[(120,(some 18))],0,[(0,[]),(1,[])]⟩,
   ⟨(some 122),.load none (.t 121),none,[(121,(some 19))],0,[(0,[]),(1,[])]⟩,
   ⟨(some 123),.mv (.t 18),none,[(18,none)],0,[(0,[]),(1,[])]⟩,
   ⟨(some 124),.indexAddr 1 (.t 122) (.t 123),none,[(122,(some 20)),(123,(some 21))],0,[(0,[]),(1,[])]⟩,
   ⟨(some 125),.load none (.t 124),none,[(124,(some 22))],0,[(0,[]),(1,[])]⟩,
   ⟨(some 126),.call (.c (.fn (.func mP) [] [])) [(.t 107),(.t 114),(.t 118),(.t 125)],none,[(107,(some 5)),(114,(some 12)),(118,(some 16)),(125,(some 23))],2,[(1,[])]⟩,
   ⟨(some 127),.buildSlice af 1 [.nilSl] 1 [((0,1),(.t 126))],none,[(126,(some 24))],1,[(2,[])]⟩,
   ⟨(some 128),.append 1 24 af [.nilSl] (.t 102) (.t 127),none,[(102,(some 0)),(127,(some 25))],2,[(2,[25])]⟩,
   ⟨(some 12),.mv (.t 128),none,[(128,(some 26))],0,[(3,[])]⟩] [])
  (.skip))) T1 H1 Q:=by
 have hw:=hk1.wf0
 have lub:=hw _ _ hub
 have hsl:=uQ a R (-1)
 have hRi:=hR _ (List.getElem_mem hi)
 obtain ⟨vri,hvri,hldi⟩:=cV hqr hi
 have xri:=SlV.idx1 hqr .i64 i hi
 have gi:R.getD i []=R[i]:=by simp [hi]
 refine ak H [12] (fun m vs H'=>∃ vo,vs=[vo]/\CutV H H' mb a R D R.length vm vd es Ws/\Bl rowsE af H H' vo (pre++(((b7 a R (-1)).take m).filter (Lin.nearB D R i)).map fun k=>Lin.prime (Lin.mx a (R.getD i []) (R.getD k [])))) (a:=0) (N:=(b7 a R (-1)).length) hl1 t94 t93 (Nat.zero_le _) (by omega) rfl rfl (fun m vs H' n ⟨vo,h1,h2,h3⟩=>⟨vo,h1,h2.mono (Sub.bump H' n),h3.mono (Sub.bump H' n)⟩) hk1 ⟨vo,by show [ae T1 12]=_; rw [t12],hc,by simpa using ho⟩ ?_ ?_
 ·rintro m T2 H2 _ hm hl2 hi2 hs2 hk2 ⟨vo2,hv,c2,o2⟩
  have w2:=hk2.wf
  have le_hk2:=hk2.le
  have le2:=hk2.le
  simp only [List.map_cons,List.map_nil,List.cons.injEq,and_true] at hv
  have u0:ae T2 0=.ptr ub 0:=(hs2.at_ 0 (by decide)).trans t0
  have u7:ae T2 7=vm:=(hs2.at_ 7 (by decide)).trans v7
  have u8:ae T2 8=vd:=(hs2.at_ 8 (by decide)).trans v8
  have u16:ae T2 16=.int .i64 (i:Int):=(hs2.at_ 16 (by decide)).trans t16
  have u92:ae T2 92=fm es (-1):=(hs2.at_ 92 (by decide)).trans t92
  have hside:xd H H2 (fm es (-1)) ((b7 a R (-1)).map fun i:Nat=>(i:Int)):=c2.sd.bl (-1)
  obtain ⟨hld,hix⟩:=zh hside hm
  obtain ⟨k,hk⟩:∃ k,k=(b7 a R (-1))[m]:=⟨_,rfl⟩
  rw [<- hk] at hld
  have hkR:k<R.length:=by rw [hk]; exact uP (List.getElem_mem hm)
  have gk:R.getD k []=R[k]:=by simp [hkR]
  refine zW (jm hl2 u92 u7 u16 hi2 hix hld) ?_
  have hzl:(R.map fun r=>zeros r D).length=R.length:=by simp
  refine AnsH.eq (cone_near C (zs:=R.map fun r=>zeros r D) (n:=D.length) zF (c2.bm.sl.mono (Kp.sub (H:=H2) zK)) (by rw [c2.wl,hzl]) (fun t h h'=>?_) (fun z hz=>?_) (by omega) (by omega) (by omega) (by omega)) fun H3 hk3=>?_
  ·rw [List.getElem_map]; exact c2.wok t (by omega) h'
  ·rw [List.mem_map] at hz
   obtain ⟨r,-,rfl⟩:=hz
   exact QZ r D
  rw [JL hi hkR]
  obtain ⟨k23,_,_⟩:=zT H2 zK hk3
  have k03:Kp H H3:=hk2.trans k23
  have le_k03:=k03.le
  have w3:=k03.wf
  have hsucc:(b7 a R (-1)).take (m+1)=(b7 a R (-1)).take m++[k]:=by rw [List.take_succ_eq_append_getElem hm,<- hk]
  cases hnb:Lin.nearB D R i k with
  | false =>
   refine zW (az hl2 hv) ?_
   refine ⟨k03,vo2,rfl,c2.mono k23.sub,?_⟩
   rw [hsucc,List.filter_append]
   simp only [List.filter_cons,hnb,Bool.false_eq_true,if_false,List.filter_nil,List.append_nil]
   exact o2.mono k23.sub
  | true =>
   have hRk:=hR _ (List.getElem_mem hkR)
   have hdl:((R.take R.length).map (Lin.dot a)).length=R.length:=by simp
   have gd:∀ t (h:t<R.length),((R.take R.length).map (Lin.dot a))[t]'(by omega)=Lin.dot a R[t]:=fun t h=>by simp
   have dsl:=c2.bd.sl
   obtain ⟨wk,hnk,hlk,-,-⟩:=js (dsl.mono k23.sub) (i:=k) (by omega)
   obtain ⟨wi,hni,hli,-,-⟩:=js (dsl.mono k23.sub) (i:=i) (by omega)
   rw [gd k hkR] at hnk hlk
   rw [gd i hi] at hni hli
   have xk:Ox 2 vd (.int .i64 (k:Int))=some (al vd (k*2)):=SlV.idx dsl .i64 k (by omega)
   have xi:Ox 2 vd (.int .i64 (i:Int))=some (al vd (i*2)):=SlV.idx dsl .i64 i (by omega)
   obtain ⟨vrk,hvrk,hldk⟩:=cV hqr hkR
   have xrk:=SlV.idx1 hqr .i64 k hkR
   have hub3:=k03.get hub
   have hldi3:=aH k03.sub hldi
   have hldk3:=aH k03.sub hldk
   have dk:=mY hae hRk.2 (hal.trans hRk.1.symm) (by omega)
   have di:=mY hae hRi.2 (hal.trans hRi.1.symm) (by omega)
   refine zW (az hl2 hv) ?_
   refine aO ?_
   refine zD (mw hl2 hv u0 u8 u16 xk hlk @bQ) ?_
   refine AnsH.use (cone_neg C (z:=Lin.dot a R[k]) zF ⟨wk,rfl,hnk.mono (Kp.sub (H:=H3) zK)⟩ (dk.sm (by omega))) ?_
   rintro v4 H4 ⟨hr4,hk4⟩
   obtain ⟨k34,_,w4⟩:=zT H3 zK hk4
   have k04:Kp H H4:=k03.trans k34
   have le_k04:=k04.le
   have hub4:=k34.get hub3
   have hldi4:=aH k34.sub hldi3
   have hldk4:=aH k34.sub hldk3
   have hli4:=aH k34.sub hli
   refine zD (KL hl2 hv u0 u8 u16 xk xi xri xrk hlk hli hli4 hub3 hub4 hldi3 hldi4 hldk3 hldk4 @bQ) ?_
   refine AnsH.use (cone_mix C (m:=-(Lin.dot a R[k])) (n:=Lin.dot a R[i]) zF (hr4.mono (Kp.sub (H:=H4) zK)) ⟨wi,rfl,hni.mono (Kp.sub (H:=H3) zK)⟩ (hvri.mono (Kp.sub (H:=H) zK)) (hvrk.mono (Kp.sub (H:=H) zK)) (hRi.1.trans hRk.1.symm) (by omega) dk.neg di hRi.2 hRk.2 (by omega)) ?_
   rintro v5 H5 ⟨hr5,hk5⟩
   have k35:Kp H3 H5:=Kp.trans k34 (Kp.trans zK hk5)
   have le_k35:=k35.le
   have w5:=k35.wf
   have k05:Kp H H5:=k03.trans k35
   have le_k05:=k05.le
   have o5:=hr5.one
   have f25:H5.get (H3.next+25)=none:=hk5.free (by have:=hk4.le; simp only [cw] at this; omega) (hk4.free (show _<H3.next+28 by omega) (w3.fresh (b:=H3.next+25) (by omega)))
   have f26:H5.get (H3.next+26)=none:=hk5.free (by have:=hk4.le; simp only [cw] at this; omega) (hk4.free (show _<H3.next+28 by omega) (w3.fresh (b:=H3.next+26) (by omega)))
   have nx5:H3.next+28<=H5.next:=Nat.le_trans hk4.le hk5.le
   have o25:=o2.mono (k23.trans k35).sub
   have hr5':RowV H5 v5 (Lin.prime (Lin.mx a (R.getD i []) (R.getD k []))):=by rw [gi,gk]; exact hr5
   have hpl:(pre++(((b7 a R (-1)).take m).filter (Lin.nearB D R i)).map fun k=>Lin.prime (Lin.mx a (R.getD i []) (R.getD k []))).length<=pre.length+R.length:=by
    rw [List.length_append,List.length_map]
    have h1:=List.length_filter_le (Lin.nearB D R i) ((b7 a R (-1)).take m)
    rw [List.length_take] at h1
    omega
   obtain ⟨n6,H6,e6,b6,k6,nx6,f6,u6⟩:=Bl.push2 (ty2:=af) (bytes:=24) (id:=H3.next+26) (id2:=H3.next+25) (cs:=[v5]) (a:=Lin.prime (Lin.mx a (R.getD i []) (R.getD k []))) o25 (by decide) k05 ⟨v5,rfl,hr5'⟩ (by omega) (by omega) f26 (by omega) (by omega) f25 (by omega) (by omega) (by omega)
   have e6':OC (H5.put (H3.next+25) (.cells [v5] af true)) (H3.next+26) 1 24 af vo2 (.own (H3.next+25) 0 1 1 1 true)=some (.own (H3.next+26) 0 n6 n6 1 false,H6):=e6
   refine zD (M7 hl2 hv u0 u8 u16 xk xi xri xrk hlk hli hli4 hub3 hub4 hldi3 hldi4 hldk3 hldk4 @bQ e6') ?_
   refine ⟨k6,_,rfl,(c2.mono (k23.trans k35).sub).frm f6 o25,?_⟩
   rw [hsucc,List.filter_append,List.map_append,<- List.append_assoc]
   simp only [List.filter_cons,hnb,if_true,List.filter_nil,List.map_cons,List.map_nil]
   exact b6
 ·rintro T2 H2 hl2 hs2 hk2 ⟨vo2,hv,c2,o2⟩
  simp only [List.map_cons,List.map_nil,List.cons.injEq,and_true] at hv
  rw [List.take_length] at o2
  exact hq T2 H2 vo2 hl2 hv hk2 c2 o2
theorem Il (C:Code tab) {H0:Heap} {ub:Nat} {u:Lin.Under} {va:AV} {a:List Int} {eq:Bool} {d e f:Nat} (hk:Kp H0 H) (hub0:H0.next<=ub) (hu:UnderV H0 H ub u) (ha:RowV H va a) (hd0:0<d) (hd:d<=64) (hal:a.length=d) (hR:∀ r∈u.rays,r.length=d/\∀ z∈r,Bt f z) (hD:∀ r∈u.done,r.length=d/\∀ z∈r,Bt e z) (hD1:u.done.length<=1024) (hae:∀ z∈a,Bt e z) (hb:2*(e+f+7)+2*f+1<=8796093022208) (hbig:u.rays.length<=1099000000000) (hcl:(Lin.cutL u.done a eq u.rays).length<=1099000000000) :
  Ans tab (.fn Pt [.ptr ub 0,va,.bool eq]) H fun v H'=>v=.tup []/\Kp H0 H'/\UnderV H0 H' ub ⟨u.lines,Lin.cutL u.done a eq u.rays,u.done⟩/\∀ b e,H.get b=some e->b≠ub->H'.get b=some e:=by
 have hw:=hk.wf
 obtain ⟨ql,qr,qd,cl,hub,hql,hqr,hqd,s1,s2,s3⟩:=hu
 have lub:=hw _ _ hub
 obtain ⟨R,hRe⟩:∃ R,R=u.rays:=⟨_,rfl⟩
 obtain ⟨D,hDe⟩:∃ D,D=u.done:=⟨_,rfl⟩
 rw [<- hRe] at hR hqr hbig hcl ⊢
 rw [<- hDe] at hD hD1 hqd hcl ⊢
 refine xw C.P_cone_under_cut rfl rfl (by decide) fun T hl g=>?_
 have hl:T.length=135:=hl
 have hrs:c_P_cone_under_cut.results=[]:=rfl
 have g0:ae T 0=.ptr ub 0:=g 0 (by simp)
 have g1:ae T 1=va:=g 1 (by simp)
 have g2:ae T 2=.bool eq:=g 2 (by simp)
 refine br ?_
 simp -dsimp (maxSteps:=1000000) (disch:=(first | omega | assumption | exact aF _ | exact aR _ _ | exact aV | exact bB _ _ _ | exact aY _ _ | exact aU _ _ _ _ _ _ | exact bI _ _ | exact bc _)) only [↓nD,nC,Nat.reduceLT,Nat.reduceEqDiff,Nat.reduceAdd,reduceIte,reduceCtorEq,Nat.reduceBEq,Int.reduceEq,Int.reduceLT,Int.reduceLE,Int.reduceAdd,Int.reduceSub,hl,g0,g1,g2,↓Ge,aK]
 refine br ?_
 refine zW (cJ hl g0 g1 g2 @aK) ?_
 refine br ?_
 refine zW (cJ hl g0 g1 g2 @aK) ?_
 have hRb:R.length<1099511627776:=by omega
 refine OF (fun T' H'=>∃ vm vd es Ws,ae T' 7=vm/\ae T' 8=vd/\Kp H H'/\CutV H H' H.next a R D R.length vm vd es Ws) rfl ?_ ?_
 ·refine zW (jm hl g0 g1 g2 hub hqr.sl.lenV @aQ) ?_
  refine ak H [7,8] (fun k vs H'=>∃ vm vd es Ws,vs=[vm,vd]/\CutV H H' H.next a R D k vm vd es Ws) (a:=0) (N:=R.length) rfl (by refine zW hl ?_; rfl) (zV hl) (Nat.zero_le _) (by omega) (by simp only [List.length_set,hl]; rfl) rfl (fun k vs H' m ⟨vm,vd,es,Ws,h1,h2⟩=>⟨vm,vd,es,Ws,h1,h2.mono (Sub.bump H' m)⟩) zK ⟨.nilSl,.nilSl,[],[],by exact zV hl,Bl.nil,rfl,fun t h h'=>by simp at h',Bl.nil,by exact dC,(fun p hp=>by cases hp),(fun s=>Bl.nil),(fun s s' _ b hb=>by cases hb)⟩ ?_ ?_
  ·rintro k T1 H1 _ hkk hl1 hi1 hs1 hkp1 ⟨vm,vd,es,Ws,hv,hc⟩
   simp only [List.map_cons,List.map_nil,List.cons.injEq,and_true] at hv
   simp only [List.length_set,hl] at hl1
   refine FB C hub hqr.sl hqd.sl ha hd0 hd hal hR hD hD1 hae (by omega) hRb hkp1 hkk hl1 ((hs1.at_ 0 (by decide)).trans (zV (az hl g0))) ((hs1.at_ 1 (by decide)).trans (zV (az hl g1))) ((hs1.at_ 6 (by decide)).trans (zV hl)) ((hs1.at_ 23 (by decide)).trans (zV hl)) hi1 hv.1 hv.2 (Nat.le_refl _) hc ?_
   intro T2 H2 vm' vd' es' Ws' h1 h2 h3 h4 h5
   refine zW (aC h1 h2 h3) ?_
   exact ⟨h4,vm',vd',es',Ws',rfl,h5⟩
  ·rintro T1 H1 hl1 hs1 hk1 ⟨vm,vd,es,Ws,hv,hc⟩
   simp only [List.map_cons,List.map_nil,List.cons.injEq,and_true] at hv
   refine zW (az hl1 @aQ) ?_
   exact ⟨vm,vd,es,Ws,hv.1,hv.2,hk1,hc⟩
 rintro T1 H1 hs1 ⟨vm,vd,es,Ws,v7,v8,k1,hc⟩
 have w1:=k1.wf
 have t0:ae T1 0=.ptr ub 0:=(hs1.at_ 0 (by decide)).trans (zV (az hl g0))
 have t2:ae T1 2=.bool eq:=(hs1.at_ 2 (by decide)).trans (zV (az hl g2))
 have t6:ae T1 6=.map H.next:=(hs1.at_ 6 (by decide)).trans (zV hl)
 have hl1:T1.length=135:=hs1.len.trans (by simp only [List.length_set]; exact hl)
 have lkz:∀ (H':Heap),CutV H H' H.next a R D R.length vm vd es Ws->∀ z n,pH (H'.up n) .int .nilSl (.map H.next) (.int .i64 z) false=some (fm es z):=fun H' h z n=>eO (by exact h.sd.get) h.sd.keys z
 have lk0:=lkz H1 hc 0
 have len0:lenV (fm es 0)=some (.int .i64 ((b7 a R 0).length:Int)):=by
  rw [(hc.sd.bl 0).sl.lenV,yI,List.length_map]
 have hn0:=uQ a R 0
 have hn1:=uQ a R 1
 refine WC.wb ?_
 simp -dsimp (maxSteps:=1000000) (disch:=(first | omega | assumption | exact aF _ | exact aR _ _ | exact aV | exact bB _ _ _ | exact aY _ _ | exact aU _ _ _ _ _ _ | exact bI _ _ | exact bc _)) only [↓nD,nC,Nat.reduceLT,Nat.reduceEqDiff,Nat.reduceAdd,reduceIte,reduceCtorEq,Nat.reduceBEq,Int.reduceEq,Int.reduceLT,Int.reduceLE,Int.reduceAdd,Int.reduceSub,hl1,t0,t6,↓lP,lk0,len0]
 refine ak H [12] (fun m vs H'=>∃ vo,vs=[vo]/\CutV H H' H.next a R D R.length vm vd es Ws/\Bl rowsE af H H' vo (((b7 a R 0).take m).map (R.getD · []))) (a:=0) (N:=(b7 a R 0).length) rfl (by refine zW hl1 ?_; rfl) (zV hl1) (Nat.zero_le _) (by omega) (by simp only [List.length_set,hl1]; rfl) rfl (fun m vs H' n ⟨vo,h1,h2,h3⟩=>⟨vo,h1,h2.mono (Sub.bump H' n),h3.mono (Sub.bump H' n)⟩) zK ⟨.nilSl,by exact zV hl1,hc.mono (Sub.bump H1 _),Bl.nil⟩ ?_ ?_
 ·rintro m T2 H2 _ hm hl2 hi2 hs2 hk2 ⟨vo,hv,c2,o2⟩
  have w2:=hk2.wf
  have le_hk2:=hk2.le
  have le2:=hk2.le
  simp only [List.map_cons,List.map_nil,List.cons.injEq,and_true] at hv
  simp only [List.length_set,hl1] at hl2
  have u0:ae T2 0=.ptr ub 0:=(hs2.at_ 0 (by decide)).trans (zV (az hl1 t0))
  have u55:ae T2 55=fm es 0:=(hs2.at_ 55 (by decide)).trans (zV hl1)
  obtain ⟨hld,hix⟩:=zh (show xd H H2 (fm es 0) ((b7 a R 0).map fun i:Nat=>(i:Int)) from c2.sd.bl 0) hm
  obtain ⟨k,hkk⟩:∃ k,k=(b7 a R 0)[m]:=⟨_,rfl⟩
  rw [<- hkk] at hld
  have hkR:k<R.length:=by rw [hkk]; exact uP (List.getElem_mem hm)
  obtain ⟨vr,hvr,hldr⟩:=cV hqr.sl hkR
  have xr:=SlV.idx1 hqr.sl .i64 k hkR
  have hub2:=hk2.get hub
  have hldr2:=aH hk2.sub hldr
  have orr:=hvr.one
  have gk:R.getD k []=R[k]:=by simp [hkR]
  have hlen:(((b7 a R 0).take m).map (R.getD · [])).length<=R.length:=by simp; omega
  obtain ⟨n6,H6,e6,b6,k6,nx6,f6,u6⟩:=Bl.push1 (ty2:=af) (bytes:=24) (id:=H2.next+12) (id2:=H2.next+11) (k:=14) (cs:=[vr]) (a:=R.getD k []) o2 (by decide) hk2 ⟨vr,rfl,by rw [gk]; exact hvr.mono hk2.sub⟩ (by omega) (by omega) (by omega) (by omega) (by omega) (by omega) (by omega)
  have e6':OC ((H2.up 14).put (H2.next+11) (.cells [vr] af true)) (H2.next+12) 1 24 af vo (.own (H2.next+11) 0 1 1 1 true)=some (.own (H2.next+12) 0 n6 n6 1 false,H6):=e6
  refine zW (p9 hl2 u0 u55 hi2 hix hld hv hub2 xr hldr2 e6') ?_
  refine ⟨k6,_,rfl,c2.frm f6 o2,?_⟩
  rw [List.take_succ_eq_append_getElem hm,List.map_append,<- hkk]
  exact b6
 ·rintro T2 H2 hl2 hs2 hk2 ⟨vo,hv,c2,o2⟩
  have w2:=hk2.wf
  have le_hk2:=hk2.le
  simp only [List.map_cons,List.map_nil,List.cons.injEq,and_true] at hv
  simp only [List.length_set,hl1] at hl2
  rw [List.take_length] at o2
  have u0:ae T2 0=.ptr ub 0:=(hs2.at_ 0 (by decide)).trans (zV (az hl1 t0))
  have u2:ae T2 2=.bool eq:=(hs2.at_ 2 (by decide)).trans (zV (az hl1 t2))
  have u6:ae T2 6=.map H.next:=(hs2.at_ 6 (by decide)).trans (zV (az hl1 t6))
  have u7:ae T2 7=vm:=(hs2.at_ 7 (by decide)).trans (zV (az hl1 v7))
  have u8:ae T2 8=vd:=(hs2.at_ 8 (by decide)).trans (zV (az hl1 v8))
  have lk1:=lkz H2 c2 1
  have MH:lenV (fm es 1)=some (.int .i64 ((b7 a R 1).length:Int)):=by
   rw [(hc.sd.bl 1).sl.lenV,yI,List.length_map]
  simp -dsimp (maxSteps:=1000000) (disch:=(first | omega | assumption | exact aF _ | exact aR _ _ | exact aV | exact bB _ _ _ | exact aY _ _ | exact aU _ _ _ _ _ _ | exact bI _ _ | exact bc _)) only [↓nD,nC,Nat.reduceLT,Nat.reduceEqDiff,Nat.reduceAdd,reduceIte,reduceCtorEq,Nat.reduceBEq,Int.reduceEq,Int.reduceLT,Int.reduceLE,Int.reduceAdd,Int.reduceSub,hl2,u0,u6,↓lP,lk1,MH]
  refine ak H [12] (fun m vs H'=>∃ vo,vs=[vo]/\CutV H H' H.next a R D R.length vm vd es Ws/\Bl rowsE af H H' vo ((b7 a R 0).map (R.getD · [])++((b7 a R 1).take m).flatMap (xo D a eq R))) (a:=0) (N:=(b7 a R 1).length) rfl (by refine zW hl2 ?_; rfl) (zV hl2) (Nat.zero_le _) (by omega) (by simp only [List.length_set,hl2]; rfl) rfl (fun m vs H' n ⟨vo,h1,h2,h3⟩=>⟨vo,h1,h2.mono (Sub.bump H' n),h3.mono (Sub.bump H' n)⟩) zK ⟨vo,by exact zV (az hl2 hv),c2.mono (Sub.bump H2 _),by rw [List.take_zero,List.flatMap_nil,List.append_nil]; exact o2.mono (Sub.bump H2 _)⟩ ?_ ?_
  ·rintro m T3 H3 _ hm hl3 hi3 hs3 hk3 ⟨vo3,hv3,c3,o3⟩
   have w3:=hk3.wf
   have le_hk3:=hk3.le
   have le3:=hk3.le
   simp only [List.map_cons,List.map_nil,List.cons.injEq,and_true] at hv3
   simp only [List.length_set,hl2] at hl3
   have z0:ae T3 0=.ptr ub 0:=(hs3.at_ 0 (by decide)).trans (zV (az hl2 u0))
   have z2:ae T3 2=.bool eq:=(hs3.at_ 2 (by decide)).trans (zV (az hl2 u2))
   have z6:ae T3 6=.map H.next:=(hs3.at_ 6 (by decide)).trans (zV (az hl2 u6))
   have z7:ae T3 7=vm:=(hs3.at_ 7 (by decide)).trans (zV (az hl2 u7))
   have z8:ae T3 8=vd:=(hs3.at_ 8 (by decide)).trans (zV (az hl2 u8))
   have z73:ae T3 73=fm es 1:=(hs3.at_ 73 (by decide)).trans (zV hl2)
   obtain ⟨hld,hix⟩:=zh (show xd H H3 (fm es 1) ((b7 a R 1).map fun i:Nat=>(i:Int)) from c3.sd.bl 1) hm
   obtain ⟨i,hii⟩:∃ i,i=(b7 a R 1)[m]:=⟨_,rfl⟩
   rw [<- hii] at hld
   have hiR:i<R.length:=by rw [hii]; exact uP (List.getElem_mem hm)
   have gi:R.getD i []=R[i]:=by simp [hiR]
   obtain ⟨pre,hpre⟩:∃ pre,pre=(b7 a R 0).map (R.getD · [])++((b7 a R 1).take m).flatMap (xo D a eq R):=⟨_,rfl⟩
   have hpl:pre.length<=1099000000000:=by
    refine Nat.le_trans ?_ hcl
    have e:(b7 a R 1).flatMap (xo D a eq R)=((b7 a R 1).take m).flatMap (xo D a eq R)++((b7 a R 1).drop m).flatMap (xo D a eq R):=by rw [<- List.flatMap_append,List.take_append_drop]
    rw [DO,e,hpre]
    simp only [List.length_append]
    omega
   have hstep:(b7 a R 0).map (R.getD · [])++((b7 a R 1).take (m+1)).flatMap (xo D a eq R)=pre++xo D a eq R i:=by
    rw [List.take_succ_eq_append_getElem hm,List.flatMap_append,<- List.append_assoc,<- hpre,<- hii]
    simp
   rw [hstep]
   rw [<- hpre] at o3
   have lkm:=lkz H3 c3 (-1)
   have lenm:lenV (fm es (-1))=some (.int .i64 ((b7 a R (-1)).length:Int)):=by
    rw [(hc.sd.bl (-1)).sl.lenV,yI,List.length_map]
   cases heq:eq with
   | true =>
    rw [heq] at z2
    simp -dsimp (maxSteps:=1000000) (disch:=(first | omega | assumption | exact aF _ | exact aR _ _ | exact aV | exact bB _ _ _ | exact aY _ _ | exact aU _ _ _ _ _ _ | exact bI _ _ | exact bc _)) only [↓nD,nC,Nat.reduceLT,Nat.reduceEqDiff,Nat.reduceAdd,reduceIte,reduceCtorEq,Nat.reduceBEq,Int.reduceEq,Int.reduceLT,Int.reduceLE,Int.reduceAdd,Int.reduceSub,hl3,z0,z2,z6,z73,hi3,hix,hld,hv3,↓lP,lkm,lenm]
    refine xY (va:=va) C hub hqr.sl hd hal hR hD1 hae hb hbig (pre:=pre) (by omega) (hk3.up _) hiR (by simp only [List.length_set]; exact hl3) (zV (az hl3 z0)) (zV (az hl3 z7)) (zV (az hl3 z8)) (zV hl3) (zV (az hl3 hv3)) (zV hl3) (zV hl3) (zV hl3) (c3.mono (Sub.bump H3 _)) (o3.mono (Sub.bump H3 _)) ?_
    intro T4 H4 vo4 h1 h2 h3 h4 h5
    refine zW (az h1 h2) ?_
    exact ⟨h3,vo4,rfl,h4,by unfold xo; simpa using h5⟩
   | false =>
    rw [heq] at z2
    obtain ⟨vr,hvr,hldr⟩:=cV hqr.sl hiR
    have xr:=SlV.idx1 hqr.sl .i64 i hiR
    have hub3:=hk3.get hub
    have hldr3:=aH hk3.sub hldr
    have orr:=hvr.one
    obtain ⟨n6,H6,e6,b6,k6,nx6,f6,u6'⟩:=Bl.push1 (ty2:=af) (bytes:=24) (id:=H3.next+14) (id2:=H3.next+13) (k:=16) (cs:=[vr]) (a:=R.getD i []) o3 (by decide) hk3 ⟨vr,rfl,by rw [gi]; exact hvr.mono hk3.sub⟩ (by omega) (by omega) (by omega) (by omega) (by omega) (by omega) (by omega)
    have e6':OC ((H3.up 16).put (H3.next+13) (.cells [vr] af true)) (H3.next+14) 1 24 af vo3 (.own (H3.next+13) 0 1 1 1 true)=some (.own (H3.next+14) 0 n6 n6 1 false,H6):=e6
    have c6:=c3.frm f6 o3
    have lk6:=lkz H6 c6 (-1)
    have w6:=k6.wf
    simp -dsimp (maxSteps:=1000000) (disch:=(first | omega | assumption | exact aF _ | exact aR _ _ | exact aV | exact bB _ _ _ | exact aY _ _ | exact aU _ _ _ _ _ _ | exact bI _ _ | exact bc _)) only [↓nD,nC,Nat.reduceLT,Nat.reduceEqDiff,Nat.reduceAdd,reduceIte,reduceCtorEq,Nat.reduceBEq,Int.reduceEq,Int.reduceLT,Int.reduceLE,Int.reduceAdd,Int.reduceSub,hl3,z0,z2,z6,z73,hi3,hix,hld,hv3,hub3,xr,hldr3,e6',↓lP,lk6,lenm]
    refine xY (va:=va) C hub hqr.sl hd hal hR hD1 hae hb hbig (pre:=pre++[R.getD i []]) (by simp; omega) (k6.up _) hiR (by simp only [List.length_set]; exact hl3) (zV (az hl3 z0)) (zV (az hl3 z7)) (zV (az hl3 z8)) (zV hl3) (by refine zW hl3 ?_; rfl) (zV hl3) (zV hl3) (zV hl3) (c6.mono (Sub.bump H6 _)) (b6.mono (Sub.bump H6 _)) ?_
    intro T4 H4 vo4 h1 h2 h3 h4 h5
    refine zW (az h1 h2) ?_
    exact ⟨h3,vo4,rfl,h4,by unfold xo; simpa using h5⟩
  ·rintro T3 H3 hl3 hs3 hk3 ⟨vo3,hv3,c3,o3⟩
   have w3:=hk3.wf
   have le_hk3:=hk3.le
   simp only [List.map_cons,List.map_nil,List.cons.injEq,and_true] at hv3
   simp only [List.length_set,hl2] at hl3
   rw [List.take_length,<- DO] at o3
   have z0:ae T3 0=.ptr ub 0:=(hs3.at_ 0 (by decide)).trans (zV (az hl2 u0))
   have hub3:=hk3.get hub
   have lub3:=w3 _ _ hub3
   have k03:Kp H0 H3:=hk.trans hk3
   have le_k03:=k03.le
   have ov3:=o3.sl.one
   have hst:By (some (.cells [ql,qr,qd] aN true)) 1 1 vo3=some (.cells [ql,vo3,qd] aN true):=i9 ov3.fits (by simp)
   refine zW (fW hl3 z0 hv3 hub3 hrs hst) ?_
   have hle:=hk.le
   have o3w:Wr H0 H3 vo3 (Lin.cutL D a eq R) (Lin.cutL D a eq R).length:=o3.wr.base hle
   refine ⟨zK,⟨ql,vo3,qd,cl,aA _ _ _,((hql.mono hk3.sub).mono (Sub.bump H3 5)).putT hub3 (by decide) (by decide),(o3w.mono (Sub.bump H3 5)).putT hub3 (by decide) (by decide),((hqd.mono hk3.sub).mono (Sub.bump H3 5)).putT hub3 (by decide) (by decide),fun x hx hy=>?_,s2,fun x hx hy=>?_⟩,fun b e hb' hne=>?_⟩
   ·have h1:=hql.old hw hx
    have h2:=o3.ge hy
    omega
   ·have h1:=hqd.old hw hy
    have h2:=o3.ge hx
    omega
   ·rw [au hne]; exact hk3.get hb'
end
theorem SlV.ro {α:Type} {E:eU α} {ty:Nat} {H H':Heap} {v:AV} {l:List α} (hE:∀ cs a,E.R H cs a->E.R H' cs a) (hty:∀ b cs r,H.get b=some (.cells cs ty r)->∃ r',H'.get b=some (.cells cs ty r')) (hs:SlV E ty H v l):SlV E ty H' v l:=by
 obtain ⟨cells,⟨h0,h1,n,h2,h3⟩,ht,hc⟩:=hs
 refine ⟨cells,⟨h0,h1,n,h2,?_⟩,fun b off n c z x e=>?_,hc.1,fun i a hi=>hE _ _ (hc.2 i a hi)⟩
 ·unfold aJ at h3 ⊢
  split at h3
  ·rename_i b off m c sz ex
   obtain ⟨cs,r,hb⟩:=ht _ _ _ _ _ _ rfl
   obtain ⟨r',hb'⟩:=hty _ _ _ hb
   rw [hb] at h3
   rw [hb']
   exact h3
  ·exact h3
  ·exact h3
  ·exact h3
  ·cases h3
 ·obtain ⟨cs,r,hb⟩:=ht b off n c z x e
  obtain ⟨r',hb'⟩:=hty _ _ _ hb
  exact ⟨cs,r',hb'⟩
theorem RowV.ro {H H':Heap} {v:AV} {l:List Int} (h1:∀ b cs r,H.get b=some (.cells cs ad r)->∃ r',H'.get b=some (.cells cs ad r')) (h2:∀ b cs r,H.get b=some (.cells cs aa r)->∃ r',H'.get b=some (.cells cs aa r')) (h:RowV H v l):RowV H' v l :=
 SlV.ro (E:=intE) (fun cs a ⟨w,e,hn⟩=>⟨w,e,SlV.ro (E:=cB bX) (H:=H) (H':=H') (fun cs a ⟨v,e,hv⟩=>⟨v,e,hv⟩) h1 hn⟩) h2 h
theorem DU:∀ {x y:List Int},x.length=y.length->(zw x y<0 ↔ Lin.cmpV y x=false)
 | [],[],_=>by simp [zw,xp,Lin.cmpV]
 | a :: x,b :: y,h=>by
  have ih:=DU (x:=x) (y:=y) (by simpa using h)
  unfold zw at ih ⊢
  unfold xp Lin.cmpV
  by_cases h1:a=b
  ·subst h1
   have e:gI (a-a)=0:=by rw [gq]; omega
   simp only [e,Int.lt_irrefl,if_false,if_true,ne_eq,not_true_eq_false]
   exact ih
  ·have e:gI (a-b)≠0:=fun h=>h1 (by rw [gq] at h; omega)
   rcases Int.lt_or_gt_of_ne h1 with h2 | h2
   ·have e2:gI (a-b)<0:=by unfold gI; split <;> (try split) <;> omega
    have n1:¬ b<a:=by omega
    simp [e,e2,n1,Ne.symm h1]
   ·have e2:¬ gI (a-b)<0:=by unfold gI; split <;> (try split) <;> omega
    simp [e,e2,h2]
section
variable {tab:Nat->Option aq} {H:Heap} {s:AV}
theorem sM {f ty:Nat} {gs:List Nat} {fn:aq} (hf:tab f=some fn) (he:fn.ext=some (.sortF ty gs)) {args:List AV} {v:AV} {H':Heap} {Q:AV->Heap->Prop} (h:∃ N,∀ m n,N<=m->N<=n->xG (jC tab dK m n) ty gs H args=some (v,H')) (hq:Q v H'):Ans tab (.fn f args) H Q:=by
 obtain ⟨N,h⟩:=h
 refine ⟨v,H',⟨N+1,fun m n hm hn=>?_⟩,hq⟩
 obtain ⟨n',rfl⟩:∃ n',n=n'+1:=⟨n-1,by omega⟩
 show iv tab dK (jC tab dK m n') m (.fn f args) H=_
 simp only [iv,hf,he]
 exact h m n' (by omega) (by omega)
theorem wy {g:Nat} {caps:List AV} {D:Heap} {x:AV}:∀ (l:List AV) (c:Nat->Int),(∀ j (h:j<l.length),Ans tab (.fn g ([x,l[j]]++caps)) D fun v _=>v=.int .i64 (c j))->∃ N,∀ m n,N<=m->N<=n->oH (jC tab dK m n) g caps D x l=some ((List.range l.length).map c)
 | [],c,_=>⟨0,fun _ _ _ _=>rfl⟩
 | y :: l,c,h=>by
  obtain ⟨N,ih⟩:=wy l (fun j=>c (j+1)) fun j hj=>h (j+1) (by simpa using hj)
  obtain ⟨v,D',⟨N',h0⟩,hv⟩:=h 0 (by simp)
  simp only [List.getElem_cons_zero] at h0
  subst hv
  refine ⟨N+N',fun m n hm hn=>?_⟩
  simp only [oH,h0 m n (by omega) (by omega),ih m n (by omega) (by omega)]
  rw [List.length_cons,List.range_succ_eq_map,List.map_cons,List.map_map]
  rfl
theorem tq {g:Nat} {caps all:List AV} {D:Heap}:∀ (l:List AV) (c:Nat->Nat->Int),(∀ i (h:i<l.length) j (h':j<all.length),Ans tab (.fn g ([l[i],all[j]]++caps)) D fun v _=>v=.int .i64 (c i j)) ->
  ∃ N,∀ m n,N<=m->N<=n->po (jC tab dK m n) g caps D all l=some ((List.range l.length).map fun i=>(List.range all.length).map (c i))
 | [],c,_=>⟨0,fun _ _ _ _=>rfl⟩
 | x :: l,c,h=>by
  obtain ⟨N,ih⟩:=tq l (fun i=>c (i+1)) fun i hi j hj=>h (i+1) (by simpa using hi) j hj
  obtain ⟨N',h0⟩:=wy (tab:=tab) (g:=g) (caps:=caps) (D:=D) (x:=x) all (c 0) fun j hj=>h 0 (by simp) j hj
  refine ⟨N+N',fun m n hm hn=>?_⟩
  simp only [po,h0 m n (by omega) (by omega),ih m n (by omega) (by omega)]
  rw [List.length_cons,List.range_succ_eq_map,List.map_cons,List.map_map]
  rfl
theorem xx {f g:Nat} {fn:aq} (hf:tab f=some fn) (he:fn.ext=some (.sortF af [g])) {H0:Heap} (hk:Kp H0 H) {v:AV} {R:List (List Int)} {d:Nat} (hb:Bl rowsE af H0 H v R) (hd:∀ r∈R,r.length=d) (hn:R.Nodup) (hbig:R.length<1099511627776)
  (hc:∀ D a b,Wf D->∀ x∈R,∀ y∈R,RowV D a x->RowV D b y->Ans tab (.fn g [a,b]) D fun v _=>v=.int .i64 (zw x y)) :
  Ans tab (.fn f [v,.fn (.func g) [] []]) H fun v' H'=>v'=.tup []/\Kp H0 H'/\Bl rowsE af H0 H' v (R.mergeSort Lin.cmpV):=by
 rcases hb with ⟨rfl,rfl⟩ | ⟨b,cells,rfl,hgb,hcl,hb0⟩
 ·exact sM hf he ⟨0,fun m n _ _=>rfl⟩ ⟨rfl,hk,.inl ⟨rfl,by simp⟩⟩
 ·rcases Nat.eq_zero_or_pos R.length with h0 | h0
  ·have hR:=List.length_eq_zero_iff.1 h0
   subst hR
   exact sM hf he ⟨0,fun m n _ _=>rfl⟩ ⟨rfl,hk,.inr ⟨b,cells,by simp,hgb,by simpa using hcl,hb0⟩⟩
  ·have hlt:=hk.wf _ _ hgb
   have hw:=hk.wf
   have hcn:cells.length=R.length:=by have:=hcl.1; simpa [cB] using this
   have hones:=hcl.ones
   obtain ⟨D,hD⟩:∃ D,D=(H.kill b).ro:=⟨_,rfl⟩
   have hDg:∀ c,c<H.next->c≠b->D.get c=FY (H.get c):=fun c hc hne=>by
    rw [hD,Heap.get_ro,cH hne]
    exact if_pos (Nat.lt_of_lt_of_le hc (Nat.le_max_left _ _))
   have hDw:Wf D:=fun c e h=>by
    rw [hD,Heap.get_ro] at h
    rw [hD]
    show c<H.next
    split at h
    ·by_cases hcb:c=b
     ·omega
     ·rw [cH hcb] at h
      cases hg:H.get c with
      | none=>rw [hg] at h; cases h
      | some e'=>exact hw _ _ hg
    ·by_cases hcb:c=b
     ·omega
     ·rw [cH hcb] at h
      exact hw _ _ h
   have hro:∀ ty,ty≠af->∀ c cs r,H.get c=some (.cells cs ty r)->∃ r',D.get c=some (.cells cs ty r'):=fun ty hty c cs r hc=>by
    refine ⟨false,?_⟩
    rw [hDg c (hw _ _ hc) (fun e=>by rw [e,hgb] at hc; cases hc; exact hty rfl),hc]
    rfl
   have hrow:∀ i (h:i<R.length),RowV D (cells[i]'(by omega)) R[i]:=fun i h=>by
    obtain ⟨w,h1,h2⟩:=hcl.at1 h
    have e:w=cells[i]'(by omega):=by
     unfold bA at h1
     simpa [hcn,h] using h1.symm
    rw [<- e]
    exact RowV.ro (hro _ (by decide)) (hro _ (by decide)) h2
   obtain ⟨N,hN⟩:=tq (tab:=tab) (g:=g) (caps:=[]) (all:=cells) (D:=D) cells (fun i j=>zw (R.getD i []) (R.getD j [])) fun i hi j hj=>by
    have hi':i<R.length:=by omega
    have hj':j<R.length:=by omega
    have e1:R.getD i []=R[i]:=by simp [hi']
    have e2:R.getD j []=R[j]:=by simp [hj']
    rw [e1,e2]
    exact hc D _ _ hDw _ (List.getElem_mem hi') _ (List.getElem_mem hj') (hrow i hi') (hrow j hj')
   obtain ⟨M,hM⟩:∃ M,M=(List.range cells.length).map fun i=>(List.range cells.length).map fun j=>zw (R.getD i []) (R.getD j []):=⟨_,rfl⟩
   have hMat:∀ i j (hi:i<R.length) (hj:j<R.length),FZ M i j = !Lin.cmpV R[j] R[i]:=fun i j hi hj=>by
    have e1:(M.getD i []).getD j 0=zw R[i] R[j]:=by
     rw [hM]
     simp [hcn,hi,hj]
    unfold FZ
    rw [e1,Bool.eq_iff_iff,decide_eq_true_eq,Bool.not_eq_true']
    exact DU ((hd _ (List.getElem_mem hi)).trans (hd _ (List.getElem_mem hj)).symm)
   have hord:Ko M R.length:=by
    refine ⟨fun i hi=>?_,fun i hi j hj=>?_,fun i hi j hj k hk h1 h2=>?_⟩
    ·rw [hMat i i hi hi,Lin.cmpV_refl]; rfl
    ·by_cases hij:i=j
     ·exact .inl hij
     ·right
      rw [hMat i j hi hj,hMat j i hj hi]
      have ht:=Lin.cmpV_total R[i] R[j]
      have ha:=Lin.cmpV_antisymm R[i] R[j]
      have hne:R[i]≠R[j]:=fun e=>hij ((List.getElem_inj hn).1 e)
      cases h1:Lin.cmpV R[i] R[j] <;> cases h2:Lin.cmpV R[j] R[i]
      ·rw [h1,h2] at ht; cases ht
      ·rfl
      ·rfl
      ·exact absurd (ha h1 h2) hne
    ·rw [hMat i j hi hj] at h1
     rw [hMat j k hj hk] at h2
     rw [hMat i k hi hk]
     rw [Bool.not_eq_true'] at h1 h2 ⊢
     cases h3:Lin.cmpV R[k] R[i] with
     | false=>rfl
     | true =>
      have ht:=Lin.cmpV_total R[i] R[j]
      rw [h1,Bool.or_false] at ht
      have:=Lin.cmpV_trans _ _ _ h3 ht
      rw [this] at h2; cases h2
   have hsorted:(jp M R.length).map (fun i=>R.getD i.val [])=R.mergeSort Lin.cmpV:=by
    unfold jp
    rw [List.map_mergeSort (s:=Lin.cmpV) (fun i _ j _=>by
     have e1:R.getD i.val []=R[i.val]:=by simp
     have e2:R.getD j.val []=R[j.val]:=by simp
     rw [e1,e2,hMat _ _ j.isLt i.isLt,Bool.not_not])]
    congr 1
    apply List.ext_getElem
    ·simp
    ·intro i h1 h2
     simp [h2]
   have hlen:(jp M R.length).length=R.length:=by unfold jp; rw [List.length_mergeSort,List.length_finRange]
   refine sM (v:=.tup []) (H':=H.put b (.cells ((jp M R.length).map fun i=>cells.getD i.val .undef) af true)) hf he ⟨N,fun m n hm hn=>?_⟩ ⟨rfl,hk.put hb0 hlt,.inr ⟨b,(jp M R.length).map fun i=>cells.getD i.val .undef,?_,aA _ _ _,?_,hb0⟩⟩
   ·have hN':=hN m n hm hn
    rw [<- hM] at hN'
    show xG _ _ _ H [.own b 0 R.length R.length 1 false,.fn (.func g) [] []]=_
    simp only [xG,hgb]
    rw [if_neg (by omega),if_pos ⟨trivial,trivial,trivial,hcn,h0,by omega,by simp,hones⟩,<- hD,hN']
    simp only
    rw [if_pos hord]
   ·rw [List.length_mergeSort]
   ·rw [<- hsorted]
    refine ⟨by simp [cB],fun i a hi=>?_⟩
    rw [List.getElem?_map,Option.map_eq_some_iff] at hi
    obtain ⟨p,hp,rfl⟩:=hi
    obtain ⟨hi,hpe⟩:=List.getElem?_eq_some_iff.1 hp
    have e1:((((jp M R.length).map fun i=>cells.getD i.val .undef).drop (i*1)).take 1)=[cells.getD p.val .undef]:=by
     apply List.ext_getElem?
     intro t
     cases t with
     | zero=>simp [hi,hpe]
     | succ t=>simp; omega
    refine ⟨cells.getD p.val .undef,e1,?_⟩
    have e2:R.getD p.val []=R[p.val]:=by simp
    have e3:cells.getD p.val .undef=cells[p.val]'(by have:=p.isLt; omega):=by have:=p.isLt; simp [hcn]
    rw [e2,e3]
    obtain ⟨w,h1,h2⟩:=hcl.at1 p.isLt
    have e:w=cells[p.val]'(by have:=p.isLt; omega):=by
     unfold bA at h1
     have:=p.isLt
     simpa [hcn,this] using h1.symm
    rw [<- e]
    exact SlV.monoT (E:=intE) (SubT.puts (SubT.refl _ _) (NoTy.ty hgb (by decide))) h2
end
end Go.Proofs.YtboamamhcfhanaaGreat.Ev
