/- A part. -/
import Derived.Test.YthjdfjlhjnihfaaGreatA0
import Derived.Test.YthjdfjlhjnihfaaGreatN40
import Derived.Test.YthjdfjlhjnihfaaGreatSize2
import Derived.Test.YthjdfjlhjnihfaaGreatN8
namespace Go.Proofs.YthjdfjlhjnihfaaGreat.Ev
open Go Nn
set_option linter.all false
section
variable {tab:Nat->Option aw} {H:Heap} {s:AV}
theorem rL (C:Code tab) (hw:Wf H) {α:Type} {E:fh α} {ty fi:Nat} {first caps:List AV} {l:List α} (hE:E.sz=2) (hs:SlV E ty H s l) (hbig:l.length<4611686018427387904) (p:α->Bool)
  (hf:∀ a∈l,∀ H' cs,Kp H H'->E.R H' cs a->Ans tab (.fn fi (first++[.agg cs]++caps)) H' fun v H2=>v=.bool (p a)/\Kp H' H2) :
  Ans tab (.fn cd [s,.fn (.func fi) first caps]) H fun v H'=>v=.int .i64 (lM p l)/\Kp H H':=by
 refine bz C.q37 zU fun T hl g0 g1=>?_
 refine zW (aV hl g0 g1 hs.lenV) ?_
 refine am H [] (fun j _ _=>∀ k (h:k<l.length),k<j->p l[k]=false) (a:=0) (N:=l.length) rfl (by refine zW (aC hl g0 g1) ?_; rfl) (zV (aC hl g0 g1)) (SH _) zO (by simp only [Sr,hl]; rfl) rfl (fun _ _ _ _ h=>h) zK (fun k _ h=>by omega) ?_ ?_
 ·intro j T1 H1 _ hj hl1 hi1 hs1 hk1 hP
  have w1:=hk1.wf
  have le_hk1:=hk1.le
  have t0:ad T1 0=s:=(hs1.at_ 0 zU).trans (zV (aB hl g0))
  have t1:ad T1 1=.fn (.func fi) first caps:=(hs1.at_ 1 zU).trans (zV (aV hl g0 g1 g1))
  obtain ⟨cs,hr,hlen,-,hld⟩:=(hs.mono hk1.sub).at (Sv hj)
  have hix:=Yl hs .i64 j hj
  rw [hE] at hld hix
  simp only [Sr,hl] at hl1
  refine zW (eW hl1 t0 t1 hi1 hix hld) ?_
  refine XW (hf _ (Sx hj) _ cs zK (E.mono ((zG H1).t _) hr)) fun H2 hk2=>?_
  obtain ⟨k2,_,_⟩:=zT H zK hk2
  cases hp:p l[j] with
  | true =>
   refine zW hl1 ?_
   exact ⟨by rw [qO hj hP hp],zK⟩
  | false =>
   refine zW hl1 ?_
   refine ⟨zK,fun k h hk=>?_⟩
   by_cases e:k=j
   ·subst e; exact hp
   ·exact hP k h zO
 ·intro T1 H1 hl1 hs1 hk1 hP
  simp only [Sr,hl] at hl1
  refine zW hl1 ?_
  exact ⟨by rw [lJ fun k h=>hP k h h],zK⟩
theorem nK (C:Code tab) (hw:Wf H) {α:Type} {E:fh α} {ty fi:Nat} {first caps:List AV} {l:List α} (hE:E.sz=2) (hs:SlV E ty H s l) (hbig:l.length<4611686018427387904) (p:α->Bool)
  (hf:∀ a∈l,∀ H' cs,Kp H H'->E.R H' cs a->Ans tab (.fn fi (first++[.agg cs]++caps)) H' fun v H2=>v=.bool (p a)/\Kp H' H2) :
  Ans tab (.fn bO [s,.fn (.func fi) first caps]) H fun v H'=>v=.bool (l.any p)/\Kp H H':=by
 refine bz C.q52 zU fun T hl g0 g1=>?_
 refine zW (aC hl g0 g1) ?_
 refine XW (rL C zF hE (hs.mono (zG H)) hbig p fun a ha H' cs hk hr=>hf a ha H' cs (X9 (H:=H) zK hk) hr) fun H2 hk2=>?_
 obtain ⟨k2,_,_⟩:=zT H zK hk2
 refine zW (aC hl g0 g1) ?_
 exact ⟨by rw [qP],zK⟩
theorem AA (C:Code tab) (hw:Wf H) {α:Type} {E:fh α} {ty fi:Nat} {first caps:List AV} {l:List α} (hE:E.sz=2) (hs:SlV E ty H s l) (hbig:l.length<4611686018427387904) (p:α->Bool)
  (hf:∀ a∈l,∀ H' cs,Kp H H'->E.R H' cs a->Ans tab (.fn fi (first++[.agg cs]++caps)) H' fun v H2=>v=.bool (p a)/\Kp H' H2) :
  Ans tab (.fn ca [s,.fn (.func fi) first caps]) H fun v H'=>v=.int .i64 (lM p l)/\Kp H H':=by
 refine bz C.q93 zU fun T hl g0 g1=>?_
 refine zW (aV hl g0 g1 hs.lenV) ?_
 refine am H [] (fun j _ _=>∀ k (h:k<l.length),k<j->p l[k]=false) (a:=0) (N:=l.length) rfl (by refine zW (aC hl g0 g1) ?_; rfl) (zV (aC hl g0 g1)) (SH _) zO (by simp only [Sr,hl]; rfl) rfl (fun _ _ _ _ h=>h) zK (fun k _ h=>by omega) ?_ ?_
 ·intro j T1 H1 _ hj hl1 hi1 hs1 hk1 hP
  have w1:=hk1.wf
  have le_hk1:=hk1.le
  have t0:ad T1 0=s:=(hs1.at_ 0 zU).trans (zV (aB hl g0))
  have t1:ad T1 1=.fn (.func fi) first caps:=(hs1.at_ 1 zU).trans (zV (aV hl g0 g1 g1))
  obtain ⟨cs,hr,hlen,-,hld⟩:=(hs.mono hk1.sub).at (Sv hj)
  have hix:=Yl hs .i64 j hj
  rw [hE] at hld hix
  simp only [Sr,hl] at hl1
  refine zW (eW hl1 t0 t1 hi1 hix hld) ?_
  refine XW (hf _ (Sx hj) _ cs zK (E.mono ((zG H1).t _) hr)) fun H2 hk2=>?_
  obtain ⟨k2,_,_⟩:=zT H zK hk2
  cases hp:p l[j] with
  | true =>
   refine zW hl1 ?_
   exact ⟨by rw [qO hj hP hp],zK⟩
  | false =>
   refine zW hl1 ?_
   refine ⟨zK,fun k h hk=>?_⟩
   by_cases e:k=j
   ·subst e; exact hp
   ·exact hP k h zO
 ·intro T1 H1 hl1 hs1 hk1 hP
  simp only [Sr,hl] at hl1
  refine zW hl1 ?_
  exact ⟨by rw [lJ fun k h=>hP k h h],zK⟩
theorem nJ (C:Code tab) (hw:Wf H) {α:Type} {E:fh α} {ty fi:Nat} {first caps:List AV} {l:List α} (hE:E.sz=2) (hs:SlV E ty H s l) (hbig:l.length<4611686018427387904) (p:α->Bool)
  (hf:∀ a∈l,∀ H' cs,Kp H H'->E.R H' cs a->Ans tab (.fn fi (first++[.agg cs]++caps)) H' fun v H2=>v=.bool (p a)/\Kp H' H2) :
  Ans tab (.fn bN [s,.fn (.func fi) first caps]) H fun v H'=>v=.bool (l.any p)/\Kp H H':=by
 refine bz C.q70 zU fun T hl g0 g1=>?_
 refine zW (aC hl g0 g1) ?_
 refine XW (AA C zF hE (hs.mono (zG H)) hbig p fun a ha H' cs hk hr=>hf a ha H' cs (X9 (H:=H) zK hk) hr) fun H2 hk2=>?_
 obtain ⟨k2,_,_⟩:=zT H zK hk2
 refine zW (aC hl g0 g1) ?_
 exact ⟨by rw [qP],zK⟩
theorem lV (C:Code tab) (hw:Wf H) {l:List Int} (hs:RowV H s l) (hz:∀ z∈l,eU z):Ans tab (.fn ot [s]) H fun v H'=>v=.int .i64 (iv (Lin.hd1 l))/\Kp H H':=by
 refine cQ C.q58 zU fun T hl g0=>?_
 cases l with
 | nil =>
  have ls:lenV s=some (.int .i64 0):=hs.lenV
  refine zW (aC hl g0 ls) ?_
  exact ⟨rfl,zK⟩
 | cons a l =>
  have ls:lenV s=some (.int .i64 ((l.length+1:Nat):Int)):=hs.lenV
  have hne:¬ ((l.length+1:Nat):Int)=0:=by omega
  have hpos:0<(a :: l).length:=by simp
  obtain ⟨w,hn,hld,-,-⟩:=jM hs hpos
  have hix:co 2 s (.int .i64 0)=some (ap s 0):=Yl hs .i64 0 hpos
  have hld:aW H (some 2) (ap s 0)=some (.agg [.bool (decide (a<0)),w]):=hld
  have hn:cp H w a.natAbs:=hn
  refine zW (eW hl g0 ls hne hix hld) ?_
  refine XW (nM C (x:=a) zF ⟨w,rfl,hn.mono (zG H)⟩ (hz a (by simp))) fun H2 hk2=>?_
  obtain ⟨k2,_,_⟩:=zT H zK hk2
  refine zW (aB hl g0) ?_
  exact ⟨rfl,zK⟩
theorem wB (C:Code tab) (hw:Wf H) {v:AV} {b:Bool} (ov:One v):Ans tab (.fn eP [.agg [v,.bool b]]) H fun x H'=>x=v/\Kp H H':=by
 have hbv:fZ (.agg [v,.bool b])=some [v,.bool b]:=by simp [fZ,AV.cells,ov.2]; rfl
 refine cQ C.q31 zU fun T hl g0=>?_
 refine zW (aC hl g0 hbv) ?_
 exact zK
theorem wA (C:Code tab) (hw:Wf H) {v:AV} {k:Int} (ov:One v):Ans tab (.fn eO [.agg [.int .u8 k,v]]) H fun x H'=>x=v/\Kp H H':=by
 have hbv:fZ (.agg [.int .u8 k,v])=some [.int .u8 k,v]:=by simp [fZ,AV.cells,ov.2]; rfl
 refine cQ C.q45 zU fun T hl g0=>?_
 refine zW (aC hl g0 hbv) ?_
 exact zK
theorem JM (C:Code tab) (hw:Wf H) {v:AV} {b:Bool} (ov:One v):Ans tab (.fn jZ [.agg [v,.bool b]]) H fun x H'=>x=.bool false/\Kp H H':=by
 have hbv:fZ (.agg [v,.bool b])=some [v,.bool b]:=by simp [fZ,AV.cells,ov.2]; rfl
 refine cQ C.q32 zU fun T hl g0=>?_
 refine zW (aC hl g0 hbv) ?_
 exact zK
end
section
variable {tab:Nat->Option aw} {H:Heap} {s:AV}
theorem Fy (x:Int):0<=iv x ↔ 0<=x:=by unfold iv; split <;> (try split) <;> omega
end
section
variable {tab:Nat->Option aw} {H:Heap} {s:AV}
theorem vz (C:Code tab) (hw:Wf H) {n:Nat} {k:Int} (hn:n<=60) (hk1 : -9223372036854775808<=k) (hk2:k<9223372036854775808) :
  Ans tab (.fn pI [.int .i64 (n:Int),.int .i64 k]) H fun v H'=>RowV H' v (Lin.unitC n k)/\Kp H H':=by
 obtain ⟨cells,hcells⟩:∃ cells,cells=(List.replicate (n+1) [AV.bool false,AV.nilSl]).flatten:=⟨_,rfl⟩
 have hmk:∀ H':Heap,Ho H' (H.next+3) aa 2 32 [.bool false,.nilSl] (.int .i64 ((n+1:Nat):Int)) (.int .i64 ((n+1:Nat):Int))=some (.own (H.next+3) 0 (n+1) (n+1) 2 true,H'.put (H.next+3) (.cells cells aa true)):=fun H'=>by rw [hcells]; exact iW _ _ _ _ _ _ _ _ _ zO zO rfl
 have ej:IntKind.i64.wrap ((n:Int)+1)=((n+1:Nat):Int):=by rw [wrap_i64] <;> omega
 refine bz C.q54 zU fun T hl g0 g1=>?_
 refine zW (cr hl g0 g1 ej hmk) ?_
 refine XX (nf C (n:=k) zF hk1 hk2) ?_
 rintro v H2 ⟨⟨w,rfl,hn2⟩,hk2⟩
 obtain ⟨k2,_,w2⟩:=zT H zK hk2
 have ow:=hn2.one
 have hb2:=hk2.get (b:=H.next+3) (e:=.cells cells aa true) (cR)
 have lt2:=w2 _ _ hb2
 have hclen:cells.length=(n+1)*2:=by rw [hcells]; simp
 have hst:Db (some (.cells cells aa true)) 2 0 (.agg [.bool (decide (k<0)),w])=some (.cells (cells.take 0++[.bool (decide (k<0)),w]++cells.drop (0+2)) aa true):=iN (Ee (aQ _) ow) zO
 have hio:co 2 (.own (H.next+3) 0 (n+1) (n+1) 2 true) (.int .i64 0)=some (.ptr (H.next+3) 0):=mj (j:=0) zO
 obtain ⟨cells2,hc2⟩:∃ c,c=cells.take 0++[.bool (decide (k<0)),w]++cells.drop (0+2):=⟨_,rfl⟩
 rw [<- hc2] at hst
 have hz:intE.R H2 [.bool false,.nilSl] 0:=⟨.nilSl,by simp,fM H2⟩
 have hcl:Cells intE H2 cells (List.replicate (n+1) 0):=by rw [hcells]; exact qH hz _
 have hcl2:Cells intE H2 cells2 ((List.replicate (n+1) 0).set 0 k):=by rw [hc2]; exact hcl.set (i:=0) (by simp) ⟨w,rfl,hn2⟩
 have m3:NoTy [ae] H2 (H.next+3):=Yg hb2 zU
 refine zW (eW hl g0 g1 hio hb2 hst) ?_
 refine ⟨?_,zK⟩
 have e:(List.replicate (n+1) (0:Int)).set 0 k=Lin.unitC n k:=by rw [TV]; rfl
 rw [e] at hcl2
 obtain ⟨Hx,hHx⟩:∃ Hx,Hx=(H2.up 2).put (H.next+3) (.cells cells2 aa true):=⟨_,rfl⟩
 have hclx:Cells intE Hx cells2 (Lin.unitC n k):=by rw [hHx]; exact X0 (E:=intE) zS hcl2
 have:Own intE aa H Hx (H.next+3) true (.own (H.next+3) 0 (n+1) (n+1) 2 true) (Lin.unitC n k):=⟨cells2,by rw [Lin.unitC_len]; rfl,by rw [hHx]; exact au _ _ _,hclx,by omega⟩
 rw [<- hHx]
 exact this.sl
abbrev ur:=List (Bool × List Nat) × Bool
abbrev E6:=Nat × List (Bool × List Nat)
theorem zr (C:Code tab) (hw:Wf H) {cs:List AV} {c:ur} {b1 b2:Nat} {r1 r2:Bool} (hc:conQE.R H cs c) (hbig:vJ c.1)
  (h1:H.get b1=some (.cells [.fn (.func eP) [] []] fp r1)) (h2:H.get b2=some (.cells [.fn (.func jZ) [] []] rg r2)) :
  Ans tab (.fn eB [.agg cs,.ptr b1 0,.ptr b2 0]) H fun v H'=>v=.bool (!Aj c.1)/\Kp H H':=by
 obtain ⟨v,rfl,hv⟩:=hc
 have ov:=hv.one
 have lt1:=hw _ _ h1
 have lt2:=hw _ _ h2
 have hbv:fZ (.agg [v,.bool c.2])=some [v,.bool c.2]:=by simp [fZ,AV.cells,ov.2]; rfl
 refine lU C.q51 zU fun T hl g0 g1 g2=>?_
 refine zW (gf hl g0 g1 g2 hbv h1 h2) ?_
 refine XW (wB C zF ov) fun H2 hk2=>?_
 obtain ⟨k2,_,w2⟩:=zT H zK hk2
 have d0:=hk2.get (b:=H.next) (e:=.cells [v,.bool c.2] t_api_Con true) (cR)
 refine zW (aV hl g0 g1 g2) ?_
 refine XW (qC C zF (hv.mono (zG H)) hbig) fun H3 hk3=>?_
 obtain ⟨k3,_,w3⟩:=zT H zK hk3
 have d3:=hk3.get d0
 have e2:=k3.get h2
 cases hok:Aj c.1 with
 | false =>
  refine zW (aV hl g0 g1 g2) ?_
  exact zK
 | true =>
  refine zW (gf hl g0 g1 g2 d3 e2 g2) ?_
  refine XW (JM C zF ov) fun H4 hk4=>?_
  obtain ⟨k4,_,_⟩:=zT H zK hk4
  refine zW (aV hl g0 g1 g2) ?_
  exact zK
theorem zq (C:Code tab) (hw:Wf H) {cs:List AV} {c:ur} {n:Int} {b1 b2:Nat} {r1 r2:Bool} (hc:conQE.R H cs c) (hn:0<=n/\n<=1000)
  (h1:H.get b1=some (.cells [.fn (.func eP) [] []] fp r1)) (h2:H.get b2=some (.cells [.int .i64 n] fW r2)) :
  Ans tab (.fn eA [.agg cs,.ptr b1 0,.ptr b2 0]) H fun v H'=>v=.bool (decide ((c.1.length:Int)≠n+1))/\Kp H H':=by
 obtain ⟨v,rfl,hv⟩:=hc
 have ov:=hv.one
 have lt1:=hw _ _ h1
 have lt2:=hw _ _ h2
 have hbv:fZ (.agg [v,.bool c.2])=some [v,.bool c.2]:=by simp [fZ,AV.cells,ov.2]; rfl
 have ej:IntKind.i64.wrap (n+1)=n+1:=by rw [wrap_i64] <;> omega
 refine lU C.q53 zU fun T hl g0 g1 g2=>?_
 refine zW (gf hl g0 g1 g2 hbv h1 h2) ?_
 refine aH ?_
 refine zD (eW hl g0 g1 g2 h1 h2) ?_
 refine XW (wB C zF ov) fun H2 hk2=>?_
 obtain ⟨k2,_,w2⟩:=zT H zK hk2
 have e2:=k2.get h2
 refine zD (kj hl g0 g1 g2 h1 h2 e2 hv.lenV ej) ?_
 exact ⟨by simp,zK⟩
def dK (n:Int) (l:List ur):Int :=
 if n<0\/8<n then 2 else if 60<l.length then 4 else if l.any (fun c=>!Aj c.1) then 8 else if l.any (fun c=>decide ((c.1.length:Int)≠n+1)) then 70 else 0
theorem nC (C:Code tab) (hw:Wf H) {n:Int} {l:List ur} (hs:SlV conQE t_api_Con H s l) (hbig:∀ c∈l,vJ c.1) (hlen:l.length<4611686018427387904) :
  Ans tab (.fn fC [.int .i64 n,s,.fn (.func eP) [] [],.fn (.func jZ) [] []]) H fun v H'=>v=.int .i64 (dK n l)/\Kp H H':=by
 refine Or C.q30 zU fun T hl g0 g1 g2 g3=>?_
 by_cases q1:n<0
 ·refine zW (eW hl g0 g1 g2 g3 q1) ?_
  exact ⟨by rw [dK,if_pos (.inl q1)],zK⟩
 by_cases q2:8<n
 ·refine zW (gf hl g0 g1 g2 g3 q1 q2) ?_
  exact ⟨by rw [dK,if_pos (.inr q2)],zK⟩
 have e1:¬ (n<0\/8<n):=fun h=>h.elim q1 q2
 by_cases q3:(60:Int)<(l.length:Int)
 ·refine zW (kj hl g0 g1 g2 g3 q1 q2 q3 hs.lenV) ?_
  exact ⟨by rw [dK,if_neg e1,if_pos zO],zK⟩
 have e2:¬ 60<l.length:=by omega
 refine zW (kj hl g0 g1 g2 g3 q1 q2 q3 hs.lenV) ?_
 refine XW (nK C zF (first:=[]) rfl (hs.mono (zG H)) hlen (fun c=>!Aj c.1) fun a ha H' cs hk hr=>zr C hk.wf hr (hbig a ha) (hk.get (by refine uv ?_; rfl)) (hk.get (by refine uv ?_; rfl))) fun H2 hk2=>?_
 obtain ⟨k2,_,w2⟩:=zT H zK hk2
 cases q4:l.any (fun c=>!Aj c.1) with
 | true =>
  refine zW (cr hl g0 g1 g2 g3) ?_
  exact ⟨by rw [dK,if_neg e1,if_neg e2,if_pos q4],zK⟩
 | false =>
 have d0:=hk2.get (b:=H.next) (e:=.cells [.int .i64 n] fW true) (cR)
 have d1:=hk2.get (b:=H.next+1) (e:=.cells [.fn (.func eP) [] []] fp true) (cR)
 refine zW (aC hl g0 g1) ?_
 refine XW (nK C zF (first:=[]) rfl (hs.mono (zG H)) hlen (fun c=>decide ((c.1.length:Int)≠n+1)) fun a ha H' cs hk hr=>zq C hk.wf hr ⟨by omega,by omega⟩ (hk.get (b:=H.next+1) (by first | exact d1 | (refine uv ?_; exact d1))) (hk.get (b:=H.next) (by first | exact d0 | (refine uv ?_; exact d0)))) fun H3 hk3=>?_
 obtain ⟨k3,_,_⟩:=zT H zK hk3
 cases q5:l.any (fun c=>decide ((c.1.length:Int)≠n+1)) with
 | true =>
  refine zW (cr hl g0 g1 g2 g3) ?_
  exact ⟨by rw [dK,if_neg e1,if_neg e2,if_neg (by rw [q4]; decide),if_pos q5],zK⟩
 | false =>
  refine zW (cr hl g0 g1 g2 g3) ?_
  exact ⟨by rw [dK,if_neg e1,if_neg e2,if_neg (by rw [q4]; decide),if_neg (by rw [q5]; decide)],zK⟩
def FQ (g:Nat × List Int):Bool :=
 if g.1=1\/g.1=2 then decide (Lin.hd1 g.2≠0) else if g.1=3 then decide (Lin.hd1 g.2<=0) else true
theorem xA (x:Int):0<iv x ↔ 0<x:=by unfold iv; split <;> (try split) <;> omega
theorem PU (x:Int):iv x<=0 ↔ x<=0:=by unfold iv; split <;> (try split) <;> omega
theorem Mm (C:Code tab) (hw:Wf H) {v:AV} {k:Nat} {l:List Int} (hv:RowV H v l) (hz:∀ z∈l,eU z):Ans tab (.fn lA [.agg [.int .u8 (k:Int),v]]) H fun x H'=>x=.bool (FQ (k,l))/\Kp H H':=by
 have ov:=hv.one
 have hbv:fZ (.agg [.int .u8 (k:Int),v])=some [.int .u8 (k:Int),v]:=by simp [fZ,AV.cells,ov.2]; rfl
 refine cQ C.q46 zU fun T hl g0=>?_
 by_cases q1:(k:Int)=1
 ·refine zW (aV hl g0 hbv q1) ?_
  refine XW (lV C zF (hv.mono (zG H)) hz) fun H2 hk2=>?_
  obtain ⟨k2,_,_⟩:=zT H zK hk2
  refine zW (aB hl g0) ?_
  refine ⟨?_,zK⟩
  congr 1
  rw [FQ,if_pos (.inl zO),TU]
  simp [ig]
 by_cases q2:(k:Int)=2
 ·refine zW (cr hl g0 hbv q1 q2) ?_
  refine XW (lV C zF (hv.mono (zG H)) hz) fun H2 hk2=>?_
  obtain ⟨k2,_,_⟩:=zT H zK hk2
  refine zW (aB hl g0) ?_
  refine ⟨?_,zK⟩
  congr 1
  rw [FQ,if_pos (.inr zO),TU]
  simp [ig]
 have q12:¬ (k=1\/k=2):=by omega
 by_cases q3:(k:Int)=3
 ·refine zW (eW hl g0 hbv q1 q2 q3) ?_
  refine XW (lV C zF (hv.mono (zG H)) hz) fun H2 hk2=>?_
  obtain ⟨k2,_,_⟩:=zT H zK hk2
  refine zW (aB hl g0) ?_
  refine ⟨?_,zK⟩
  congr 1
  have q3':k=3:=by omega
  rw [FQ,if_neg q12,if_pos q3',TU]
  simp [PU]
 ·refine zW (eW hl g0 hbv q1 q2 q3) ?_
  refine ⟨?_,zK⟩
  have q3':¬ k=3:=by omega
  rw [FQ,if_neg q12,if_neg q3']
def FP (g:E6):Bool:=!Aj g.2 || FQ (g.1,g.2.map fE)
theorem zp (C:Code tab) (hw:Wf H) {cs:List AV} {c:E6} {b1 b2:Nat} {r1 r2:Bool} (hc:genQE.R H cs c) (hbig:vJ c.2) (hgood:∀ z∈c.2,Lim z.2/\z.2.length<=1048576)
  (h1:H.get b1=some (.cells [.fn (.func eO) [] []] fo r1)) (h2:H.get b2=some (.cells [.fn (.func lA) [] []] rf r2)) :
  Ans tab (.fn eh [.agg cs,.ptr b1 0,.ptr b2 0]) H fun v H'=>v=.bool (FP c)/\Kp H H':=by
 obtain ⟨v,rfl,hv⟩:=hc
 have ov:=hv.one
 have lt1:=hw _ _ h1
 have lt2:=hw _ _ h2
 have hbv:fZ (.agg [.int .u8 (c.1:Int),v])=some [.int .u8 (c.1:Int),v]:=by simp [fZ,AV.cells,ov.2]; rfl
 refine lU C.q69 zU fun T hl g0 g1 g2=>?_
 refine zW (gf hl g0 g1 g2 hbv h1 h2) ?_
 refine XW (wA C zF ov) fun H2 hk2=>?_
 obtain ⟨k2,_,w2⟩:=zT H zK hk2
 have d0:=hk2.get (b:=H.next) (e:=.cells [.int .u8 (c.1:Int),v] ak true) (cR)
 refine zW (aV hl g0 g1 g2) ?_
 refine XW (qC C zF (hv.mono (zG H)) hbig) fun H3 hk3=>?_
 obtain ⟨k3,_,w3⟩:=zT H zK hk3
 have d3:=hk3.get d0
 have e2:=k3.get h2
 cases hok:Aj c.2 with
 | false =>
  refine zW (aV hl g0 g1 g2) ?_
  exact ⟨by simp [FP,hok],zK⟩
 | true =>
  have hb:∀ z∈c.2,qq z=false:=by
   simp only [Aj,S7,TB,TY,Wi] at hok
   exact hok.2
  refine zW (gf hl g0 g1 g2 d3 e2 g2) ?_
  refine XW (Mm C (l:=c.2.map fE) zF ((SlV.int hv fun z hz=>⟨hb z hz,(hgood z hz).1⟩).mono (zG H)) fun z hz=>?_) fun H4 hk4=>?_
  ·obtain ⟨x,hx,rfl⟩:=Sy.1 hz
   exact (KV (hgood x hx).1 (hgood x hx).2).sm zO
  obtain ⟨k4,_,_⟩:=zT H zK hk4
  refine zW (aV hl g0 g1 g2) ?_
  exact ⟨by simp [FP,hok],zK⟩
theorem zo (C:Code tab) (hw:Wf H) {cs:List AV} {c:E6} {n:Int} {b1 b2:Nat} {r1 r2:Bool} (hc:genQE.R H cs c) (hn:0<=n/\n<=1000)
  (h1:H.get b1=some (.cells [.fn (.func eO) [] []] fo r1)) (h2:H.get b2=some (.cells [.int .i64 n] fW r2)) :
  Ans tab (.fn ee [.agg cs,.ptr b1 0,.ptr b2 0]) H fun v H'=>v=.bool (decide ((c.2.length:Int)≠n+1))/\Kp H H':=by
 obtain ⟨v,rfl,hv⟩:=hc
 have ov:=hv.one
 have lt1:=hw _ _ h1
 have lt2:=hw _ _ h2
 have hbv:fZ (.agg [.int .u8 (c.1:Int),v])=some [.int .u8 (c.1:Int),v]:=by simp [fZ,AV.cells,ov.2]; rfl
 have ej:IntKind.i64.wrap (n+1)=n+1:=by rw [wrap_i64] <;> omega
 refine lU C.q71 zU fun T hl g0 g1 g2=>?_
 refine zW (gf hl g0 g1 g2 hbv h1 h2) ?_
 refine aH ?_
 refine zD (eW hl g0 g1 g2 h1 h2) ?_
 refine XW (wA C zF ov) fun H2 hk2=>?_
 obtain ⟨k2,_,w2⟩:=zT H zK hk2
 have e2:=k2.get h2
 refine zD (kj hl g0 g1 g2 h1 h2 e2 hv.lenV ej) ?_
 exact ⟨by simp,zK⟩
def i8 (n:Int) (l:List E6):Int :=
 if n<0\/8<n then 2 else if 60<l.length then 4 else if l.any FP then 8 else if l.any (fun c=>decide ((c.2.length:Int)≠n+1)) then 70 else 0
theorem vA (C:Code tab) (hw:Wf H) {n:Int} {l:List E6} (hs:SlV genQE ak H s l) (hbig:∀ c∈l,vJ c.2) (hgood:∀ c∈l,∀ z∈c.2,Lim z.2/\z.2.length<=1048576) (hlen:l.length<4611686018427387904) :
  Ans tab (.fn fz [.int .i64 n,s,.fn (.func eO) [] [],.fn (.func lA) [] []]) H fun v H'=>v=.int .i64 (i8 n l)/\Kp H H':=by
 refine Or C.q44 zU fun T hl g0 g1 g2 g3=>?_
 by_cases q1:n<0
 ·refine zW (eW hl g0 g1 g2 g3 q1) ?_
  exact ⟨by rw [i8,if_pos (.inl q1)],zK⟩
 by_cases q2:8<n
 ·refine zW (gf hl g0 g1 g2 g3 q1 q2) ?_
  exact ⟨by rw [i8,if_pos (.inr q2)],zK⟩
 have e1:¬ (n<0\/8<n):=fun h=>h.elim q1 q2
 by_cases q3:(60:Int)<(l.length:Int)
 ·refine zW (kj hl g0 g1 g2 g3 q1 q2 q3 hs.lenV) ?_
  exact ⟨by rw [i8,if_neg e1,if_pos zO],zK⟩
 have e2:¬ 60<l.length:=by omega
 refine zW (kj hl g0 g1 g2 g3 q1 q2 q3 hs.lenV) ?_
 refine XW (nJ C zF (first:=[]) rfl (hs.mono (zG H)) hlen FP fun a ha H' cs hk hr=>zp C hk.wf hr (hbig a ha) (hgood a ha) (hk.get (by refine uv ?_; rfl)) (hk.get (by refine uv ?_; rfl))) fun H2 hk2=>?_
 obtain ⟨k2,_,w2⟩:=zT H zK hk2
 cases q4:l.any FP with
 | true =>
  refine zW (cr hl g0 g1 g2 g3) ?_
  exact ⟨by rw [i8,if_neg e1,if_neg e2,if_pos q4],zK⟩
 | false =>
 have d0:=hk2.get (b:=H.next) (e:=.cells [.int .i64 n] fW true) (cR)
 have d1:=hk2.get (b:=H.next+1) (e:=.cells [.fn (.func eO) [] []] fo true) (cR)
 refine zW (aC hl g0 g1) ?_
 refine XW (nJ C zF (first:=[]) rfl (hs.mono (zG H)) hlen (fun c=>decide ((c.2.length:Int)≠n+1)) fun a ha H' cs hk hr=>zo C hk.wf hr ⟨by omega,by omega⟩ (hk.get (b:=H.next+1) (by first | exact d1 | (refine uv ?_; exact d1))) (hk.get (b:=H.next) (by first | exact d0 | (refine uv ?_; exact d0)))) fun H3 hk3=>?_
 obtain ⟨k3,_,_⟩:=zT H zK hk3
 cases q5:l.any (fun c=>decide ((c.2.length:Int)≠n+1)) with
 | true =>
  refine zW (cr hl g0 g1 g2 g3) ?_
  exact ⟨by rw [i8,if_neg e1,if_neg e2,if_neg (by rw [q4]; decide),if_pos q5],zK⟩
 | false =>
  refine zW (cr hl g0 g1 g2 g3) ?_
  exact ⟨by rw [i8,if_neg e1,if_neg e2,if_neg (by rw [q4]; decide),if_neg (by rw [q5]; decide)],zK⟩
end
section
variable {tab:Nat->Option aw} {H:Heap} {s:AV}
theorem ut (C:Code tab) (hw:Wf H) {fi:Nat} {first caps:List AV} {l:List (List Int)} (hs:dS H s l) (hbig:l.length<4611686018427387904) (p:List Int->Bool)
  (hf:∀ r∈l,∀ H' w,Kp H H'->RowV H' w r->Ans tab (.fn fi (first++[w]++caps)) H' fun v H2=>v=.bool (p r)/\Kp H' H2) :
  Ans tab (.fn bM [s,.fn (.func fi) first caps]) H fun v H'=>v=.bool (l.any p)/\Kp H H':=by
 refine bz C.q56 zU fun T hl g0 g1=>?_
 refine zW (aC hl g0 g1) ?_
 refine XW (qz C zF (hs.mono (zG H)) hbig p fun r hr H' w hk hv=>hf r hr H' w (X9 (H:=H) zK hk) hv) fun H2 hk2=>?_
 obtain ⟨k2,_,_⟩:=zT H zK hk2
 refine zW (aC hl g0 g1) ?_
 exact ⟨by rw [qP],zK⟩
end
def Bq {α:Type} (E:fh α) (ty:Nat) (H0 H:Heap) (v:AV) (l:List α):Prop:=(v=.nilSl/\l=[])\/∃ b ex,Own E ty H0 H b ex v l
section
variable {α β:Type} {E:fh α} {E':fh β} {ty:Nat} {H0 H H':Heap} {v w:AV} {l:List α} {m:List β}
theorem Bq.nil:Bq E ty H0 H .nilSl []:=.inl ⟨rfl,rfl⟩
theorem Bq.of (h:Bl E ty H0 H v l):Bq E ty H0 H v l:=by
 rcases h with h | ⟨b,h⟩
 ·exact .inl h
 ·exact .inr ⟨b,false,h⟩
theorem Bq.sl (h:Bq E ty H0 H v l):SlV E ty H v l:=by
 rcases h with ⟨rfl,rfl⟩ | ⟨b,ex,h⟩
 ·exact Yo E ty H
 ·exact h.sl
theorem Bq.mono (hs:Sub H H') (h:Bq E ty H0 H v l):Bq E ty H0 H' v l:=by
 rcases h with h | ⟨b,ex,h⟩
 ·exact .inl h
 ·exact .inr ⟨b,ex,h.mono hs⟩
theorem Bq.lt (hw:Wf H) (h:Bq E ty H0 H v l) {b:Nat} (hb:jB v=some b):b<H.next:=by
 rcases h with ⟨rfl,-⟩ | ⟨b',ex,cells,rfl,hg,-⟩
 ·cases hb
 ·cases hb
  exact hw _ _ hg
theorem Frm.subTq {tys:List Nat} (hf:Frm v H H') (h:Bq E ty H0 H v l) (hn:ty ∉ tys):SubT tys H H':=fun c cs t r ht hc=>hf c _ hc fun e=>by
 rcases h with ⟨rfl,-⟩ | ⟨b,ex,cells,rfl,hb,-⟩
 ·cases e
 ·cases e
  rw [hb] at hc; cases hc
  exact hn ht
theorem Frm.bq (hf:Frm v H H') (h:Bq E ty H0 H v l) (hw:Bq E' ty H0 H w m) (hs:Sep v w) (ht:ty ∉ E'.tys):Bq E' ty H0 H' w m:=by
 rcases hw with hw | ⟨b,ex,cells,rfl,hb,hc,h0⟩
 ·exact .inl hw
 ·exact .inr ⟨b,ex,cells,rfl,hf b _ hb fun e=>hs b e rfl,hc.mono (hf.subTq h ht),h0⟩
theorem Bq.push {ty2 bytes id id2:Nat} {cs:List AV} {a:α} (h:Bq E ty H0 H v l) (hty:ty ∉ E.tys) (hk:Kp H0 H) (hr:E.R H cs a) (hid:H0.next<=id) (hid':id<H.next) (hf:H.get id=none) (hid2:H0.next<=id2) (hid2':id2<H.next) (hf2:H.get id2=none) (hne:id≠id2)
  (hb:(l.length+1)*bytes<=70368744177664) (hl:l.length+1<4611686018427387904) :
  ∃ n H',cN (H.put id2 (.cells cs ty2 true)) id E.sz bytes ty v (.own id2 0 1 1 E.sz true)=some (.own id 0 n n E.sz false,H')/\Bq E ty H0 H' (.own id 0 n n E.sz false) (l++[a])/\Kp H0 H'/\H'.next=H.next/\Frm v H H'/\(∀ c,c≠id->c≠id2->H.get c=none->H'.get c=none):=by
 have hbl:Bl E ty H0 H v l\/∃ b,Own E ty H0 H b true v l:=by
  rcases h with h | ⟨b,ex,h⟩
  ·exact .inl (.inl h)
  ·cases ex with
   | false=>exact .inl (.inr ⟨b,h⟩)
   | true=>exact .inr ⟨b,h⟩
 rcases hbl with hbl | ⟨b,ho⟩
 ·obtain ⟨n,H',e1,e2,e3⟩:=Bl.push2 (ty2:=ty2) (bytes:=bytes) hbl hty hk hr hid hid' hf hid2 hid2' hf2 hne hb hl
  exact ⟨n,H',e1,.of e2,e3⟩
 ·have hsub:Sub H (H.put id2 (.cells cs ty2 true)):=aP hf2
  have hk':Kp H0 (H.put id2 (.cells cs ty2 true)):=hk.put hid2 hid2'
  have hy:SlV E ty2 (H.put id2 (.cells cs ty2 true)) (.own id2 0 1 1 E.sz true) [a] :=
   (show Own E ty2 H0 _ id2 true (.own id2 0 1 1 E.sz true) [a] from ⟨cs,rfl,au _ _ _,X2 (E.mono (hsub.t _) hr),hid2⟩).sl
  have ho1:=ho.mono hsub
  have hs:=ho1.sl
  obtain ⟨cells,hv,hg,-,-⟩:=ho1
  rw [hv] at hs
  obtain ⟨v',H',e1,e2,e3,e4,e5,e6⟩:=SlV.app (bytes:=bytes) (id:=id) hs hk' hy hid hid' (by rw [az hne]; exact hf) hb hl
  obtain ⟨cells',hv',hg',hc',h0'⟩:=e6 (by simp)
  rw [hv'] at e1
  refine ⟨_,H',by rw [hv]; exact e1,.inr ⟨id,false,cells',rfl,hg',hc',h0'⟩,e3,e4,fun b e hbe _=>e5.get _ _ (hsub.get _ _ hbe),fun c h1 h2 h3=>By e1 h1 (by rw [az h2]; exact h3)⟩
def XZ:=@Bq.push
end
theorem xF {a:AV} (ha:One a) (x y:AV):ia [x,y] [((0,1),a)]=some (.agg [a,y]):=by
 simp [ia,cX,ha.1,ha.2]
section
open Lin
variable {n:Nat} {l:List (V × Bool)}
theorem Mk {j:Nat} (hj:j<l.length):eqsOf (l.take (j+1))=if l[j].2=true then eqsOf (l.take j)++[l[j].1] else eqsOf (l.take j):=by
 rw [SF hj]
 unfold eqsOf
 rw [TO,Tq]
 cases h:l[j].2 <;> simp [h]
theorem Ga {j:Nat} (hj:j<l.length):ineqsOf n (l.take (j+1))=if l[j].2=true then ineqsOf n (l.take j) else ineqsOf n (l.take j)++[l[j].1]:=by
 rw [SF hj]
 unfold ineqsOf
 rw [TO,Tq]
 cases h:l[j].2 <;> simp [h]
theorem Ml (l:List (V × Bool)):(eqsOf l).length<=l.length:=by
 unfold eqsOf
 rw [SG]
 exact Ut _ _
theorem tw (l:List (V × Bool)):(ineqsOf n l).length<=l.length+1:=by
 unfold ineqsOf
 rw [Tu,SG]
 have:=Ut (fun c:V × Bool=>!c.2) l
 omega
theorem GU (n m:Nat):Bd (2^m) (unitC n 1):=fun i=>by
 have h1:1<=2^m:=Tk zU
 unfold unitC at_
 cases i with
 | zero=>simpa using h1
 | succ i =>
  rw [Uj,Ss,TK]
  split <;> simp
end
section
variable {tab:Nat->Option aw} {H:Heap} {s:AV}
theorem ze (C:Code tab) (hw:Wf H) {l:List Int} (hs:RowV H s l) (hz:∀ z∈l,eU z):Ans tab (.fn jJ [s]) H fun v H'=>v=.bool (decide (0<Lin.hd1 l))/\Kp H H':=by
 refine cQ C.q57 zU fun T hl g0=>?_
 refine zW (aB hl g0) ?_
 refine XW (lV C zF (hs.mono (zG H)) hz) fun H2 hk2=>?_
 obtain ⟨k2,_,_⟩:=zT H zK hk2
 have e:decide (iv (Lin.hd1 l) > 0)=decide (0<Lin.hd1 l):=by
  rw [TU]
  simp [xA]
 refine zW (aB hl g0) ?_
 exact ⟨by simp [xA],zK⟩
set_option maxHeartbeats 4000000 in
theorem wz (C:Code tab) (hw:Wf H) {n m:Nat} {l:List (List Int × Bool)} (hs:SlV conE t_api_Con H s l) (hn:n<=4) (hlen:l.length<=1023) (hcnt:(l.length+1)^n<1099000000000) (hrow:∀ c∈l,c.1.length=n+1/\Lin.Bd (2^m) c.1) (hm:m<=300000) :
  Ans tab (.fn mX [.int .i64 (n:Int),s]) H fun v H'=>SlV genE ak H' v (Lin.gensP n l)/\Kp H H':=by
 refine Aw C.q33 rfl rfl zU fun T hl g=>?_
 have hl:T.length=79:=hl
 have hrs:c_dual_points.results=[(4,none)]:=rfl
 have g0:ad T 0=.int .i64 (n:Int):=g 0 (by simp)
 have g1:ad T 1=s:=g 1 (by simp)
 refine bk ?_
 refine zW (aB hl @aD) ?_
 refine bk ?_
 refine zW (aB hl @aD) ?_
 refine db (fun T' H'=>∃ o,ad T' 6=o/\Kp H H'/\Bq rowsE af H H' o [Lin.unitC n 1]) rfl ?_ ?_
 ·refine zW (aB hl g0) ?_
  refine XX (vz C (n:=n) (k:=1) zF zO zO zO) ?_
  rintro v H2 ⟨hr,hk2⟩
  obtain ⟨k2,_,w2⟩:=zT H zK hk2
  have ov:=hr.one
  have n2:H.next+6<=H2.next:=hk2.le
  have f2:H2.get (H.next+4)=none:=hk2.free (show H.next+4<H.next+6 by omega) (hw.fresh (b:=H.next+4) zO)
  refine zW (aB hl @aU) ?_
  refine ⟨_,rfl,zK,.inr ⟨H.next+4,true,[v],rfl,au _ _ _,?_,by omega⟩⟩
  exact X2 (E:=rowsE) ⟨v,rfl,hr.mono (aP f2)⟩
 rintro T1 H1 hs1 ⟨o,t6,k1,b1⟩
 have w1:=k1.wf
 have le1:=k1.le
 have t0:ad T1 0=.int .i64 (n:Int):=(hs1.at_ 0 zU).trans (zV (aB hl g0))
 have t1:ad T1 1=s:=(hs1.at_ 1 zU).trans (zV (aB hl g1))
 have t4:ad T1 4=.nilSl:=(hs1.at_ 4 zU).trans (zV hl)
 have t5:ad T1 5=.nilSl:=(hs1.at_ 5 zU).trans (zV hl)
 have hl1:T1.length=79:=hs1.len.trans (by simp only [Sr]; exact hl)
 have hsl1:=hs.mono k1.sub
 refine db (fun T' H'=>∃ o5 o6,ad T' 5=o5/\ad T' 6=o6/\Kp H H'/\dS H' o5 (Lin.eqsOf l)/\dS H' o6 (Lin.ineqsOf n l)) rfl ?_ ?_
 ·refine zW (aC hl1 t1 hs.lenV) ?_
  refine am H [5,6] (fun j vs H'=>∃ o5 o6,vs=[o5,o6]/\Bq rowsE af H H' o5 (Lin.eqsOf (l.take j))/\Bq rowsE af H H' o6 (Lin.ineqsOf n (l.take j))/\Sep o5 o6) (a:=0) (N:=l.length) rfl (by refine zW hl1 ?_; rfl) (zV hl1) (SH _) zO (by simp only [Sr,hl1]; rfl) rfl (fun j vs H' m ⟨o5,o6,q1,q2,q3,q4⟩=>⟨o5,o6,q1,q2.mono (Ys H' m),q3.mono (Ys H' m),q4⟩) zK ⟨.nilSl,o,by exact zV (aC hl1 t5 t6),Bq.nil,b1.mono (Ys H1 _),fun b h=>by cases h⟩ ?_ ?_
  ·rintro j T2 H2 _ hj hl2 hi2 hs2 hk2 ⟨o5,o6,hv,bq5,bq6,hsep⟩
   have w2:=hk2.wf
   have le_hk2:=hk2.le
   have le2:=hk2.le
   simp only [SA,SD,SB,and_true] at hv
   obtain ⟨v5,v6⟩:=hv
   have t20:ad T2 20=s:=(hs2.at_ 20 zU).trans (zV (aB hl1 t1))
   obtain ⟨cs,⟨w,rfl,hr⟩,hlen',-,hld⟩:=(hs.mono hk2.sub).at (Sv hj)
   have hix:co 2 s (.int .i64 (j:Int))=some (ap s (j*2)):=Yl hs .i64 j hj
   have hld:aW H2 (some 2) (ap s (j*2))=some (.agg [w,.bool l[j].2]):=hld
   have ow:=hr.one
   simp only [Sr,hl1] at hl2
   have he:=Mk (l:=l) hj
   have hi:=Ga (n:=n) (l:=l) hj
   have l5:=Ml (l.take j)
   have l6:=tw (n:=n) (l.take j)
   rw [SY] at l5 l6
   obtain ⟨Hx,hHx⟩:∃ Hx,Hx=((H2.up 12).put (H2.next+2) (.cells [.nilSl,.bool false] t_api_Con true)).put (H2.next+2) (.cells [w,.bool l[j].2] t_api_Con true):=⟨_,rfl⟩
   have kx:Kp H2 Hx:=by rw [hHx]; exact zK
   have kx0:Kp H Hx:=hk2.trans kx
   have nx:Hx.next=H2.next+12:=by rw [hHx]; rfl
   have fx:∀ c,H2.next<=c->c≠H2.next+2->Hx.get c=none:=fun c h1 h2=>by rw [hHx,az h2,az h2]; exact w2.fresh h1
   have hrx:rowsE.R Hx [w] l[j].1:=⟨w,rfl,hr.mono kx.sub⟩
   cases hb:l[j].2 with
   | true =>
    rw [hb] at hld hHx he hi
    obtain ⟨n6,H6,e6,b6,k6,nx6,f6,-⟩:=XZ (ty2:=af) (bytes:=24) (id:=H2.next+10) (id2:=H2.next+9) (bq5.mono kx.sub) zU kx0 hrx zO zO (fx _ zO zO) zO zO (fx _ zO zO) zO zO zO
    have e6':cN ((((H2.up 12).put (H2.next+2) (.cells [.nilSl,.bool false] t_api_Con true)).put (H2.next+2) (.cells [w,.bool true] t_api_Con true)).put (H2.next+9) (.cells [w] af true)) (H2.next+10) 1 24 af o5 (.own (H2.next+9) 0 1 1 1 true)=some (.own (H2.next+10) 0 n6 n6 1 false,H6):=by rw [hHx] at e6; exact e6
    refine zW (ki hl2 t20 hi2 hix hld v5 v6 e6') ?_
    refine ⟨k6,_,_,rfl,?_,?_,?_⟩
    ·rw [he,if_pos rfl]; exact b6
    ·rw [hi,if_pos rfl]; exact f6.bq (bq5.mono kx.sub) (bq6.mono kx.sub) hsep zU
    ·intro b h1 h2
     have:=bq6.lt w2 h2
     cases h1
     omega
   | false =>
    rw [hb] at hld hHx he hi
    obtain ⟨n6,H6,e6,b6,k6,nx6,f6,-⟩:=XZ (ty2:=af) (bytes:=24) (id:=H2.next+10) (id2:=H2.next+9) (bq6.mono kx.sub) zU kx0 hrx zO zO (fx _ zO zO) zO zO (fx _ zO zO) zO zO zO
    have e6':cN ((((H2.up 12).put (H2.next+2) (.cells [.nilSl,.bool false] t_api_Con true)).put (H2.next+2) (.cells [w,.bool false] t_api_Con true)).put (H2.next+9) (.cells [w] af true)) (H2.next+10) 1 24 af o6 (.own (H2.next+9) 0 1 1 1 true)=some (.own (H2.next+10) 0 n6 n6 1 false,H6):=by rw [hHx] at e6; exact e6
    refine zW (ki hl2 t20 hi2 hix hld v5 v6 e6') ?_
    refine ⟨k6,_,_,rfl,?_,?_,?_⟩
    ·rw [he,if_neg zU]; exact f6.bq (bq6.mono kx.sub) (bq5.mono kx.sub) hsep.symm zU
    ·rw [hi,if_neg zU]; exact b6
    ·intro b h1 h2
     have:=bq5.lt w2 h1
     cases h2
     omega
  ·rintro T2 H2 hl2 hs2 hk2 ⟨o5,o6,hv,bq5,bq6,hsep⟩
   simp only [SA,SD,SB,and_true] at hv
   rw [S2] at bq5 bq6
   refine zW (aB hl2 @aU) ?_
   exact ⟨o5,o6,hv.1,hv.2,hk2,bq5.sl,bq6.sl⟩
 rintro T2 H2 hs2 ⟨o5,o6,v5,v6,k2,r5,r6⟩
 have w2:=k2.wf
 have le2:=k2.le
 have u0:ad T2 0=.int .i64 (n:Int):=(hs2.at_ 0 zU).trans t0
 have u4:ad T2 4=.nilSl:=(hs2.at_ 4 zU).trans t4
 have hl2:T2.length=79:=hs2.len.trans hl1
 have hE:∀ a∈Lin.eqsOf l,a.length=n+1/\Lin.Bd (2^m) a:=fun a ha=>hrow _ (Lin.mem_eqs.1 ha)
 have hI:∀ a∈Lin.ineqsOf n l,a.length=n+1/\Lin.Bd (2^m) a:=fun a ha=>by
  rcases Lin.mem_ineqs.1 ha with rfl | ha
  ·exact ⟨Lin.unitC_len n 1,GU n m⟩
  ·exact hrow _ ha
 have lE:=Ml l
 have lI:=tw (n:=n) l
 obtain ⟨c1,c2⟩:=sP (d:=n+1) (m:=m) zO zO hE hI
 have hT:=Lin.gens_told (d:=n+1) (fun a ha=>(hE a ha).1) (fun a ha=>(hI a ha).1)
 have lL:=ech_len hT.form
 have hcI:(Lin.ineqsOf n l).length^n<1099000000000:=TE (UR lI n) hcnt
 have lR:(Lin.gensR (n+1) (Lin.eqsOf l) (Lin.ineqsOf n l)).length<=1099000000000:=by
  have:=hT.dd.count3 (fun a ha=>(hI a ha).1)
  simp only [Uv] at this
  omega
 obtain ⟨L,hL⟩:∃ L,L=Lin.gensL (n+1) (Lin.eqsOf l) (Lin.ineqsOf n l):=⟨_,rfl⟩
 obtain ⟨R,hR⟩:∃ R,R=Lin.gensR (n+1) (Lin.eqsOf l) (Lin.ineqsOf n l):=⟨_,rfl⟩
 have smR:∀ r∈R,∀ z∈r,eU z:=fun r hr z hz=>by
  rw [hR] at hr
  exact (jk (c2 r hr).2 z hz).sm zO
 have ej:IntKind.i64.wrap ((n:Int)+1)=((n+1:Nat):Int):=by rw [wrap_i64] <;> omega
 refine db (fun T' H'=>∃ p q,ad T' 9=p/\ad T' 10=q/\Kp H H'/\dS H' p L/\dS H' q R) rfl ?_ ?_
 ·refine zW (cr hl2 u0 v5 v6 ej) ?_
  refine XX (zk C (d:=n+1) (m:=m) zF (r5.mono (zG H2)) (r6.mono (zG H2)) zO zO zO zO (by simpa using hcI) hE hI hm) ?_
  rintro v H3 ⟨p,q,rfl,hp,hq,hk3⟩
  obtain ⟨k23,_,_⟩:=zT H2 zK hk3
  have k3:Kp H H3:=k2.trans k23
  have le_k3:=k3.le
  refine zW (aB hl2 @aU) ?_
  rw [hL,hR]
  exact ⟨p,q,rfl,rfl,zK,hp,hq⟩
 rintro T3 H3 hs3 ⟨p,q,v9,v10,k3,hp,hq⟩
 have w3:=k3.wf
 have le3:=k3.le
 have x4:ad T3 4=.nilSl:=(hs3.at_ 4 zU).trans u4
 have hl3:T3.length=79:=hs3.len.trans hl2
 rw [<- hL] at lL
 rw [<- hR] at lR
 have hany:R.any (fun r=>decide (0<Lin.hd1 r))=(Lin.gensR (n+1) (Lin.eqsOf l) (Lin.ineqsOf n l)).any (fun r=>decide (0<Lin.hd1 r)):=by rw [hR]
 refine db (fun T' H'=>Kp H3 H'/\ad T' 4=.nilSl/\R.any (fun r=>decide (0<Lin.hd1 r))=true) rfl ?_ ?_
 ·refine zW (aB hl3 v10) ?_
  refine XW (ut C zF (first:=[]) (hq.mono (zG H3)) zO (fun r=>decide (0<Lin.hd1 r)) fun a ha H' w hk hr=>ze C hk.wf hr (smR a ha)) fun H4 hk4=>?_
  obtain ⟨k34,_,_⟩:=zT H3 zK hk4
  have k4:Kp H H4:=k3.trans k34
  have le_k4:=k4.le
  cases hc:R.any (fun r=>decide (0<Lin.hd1 r)) with
  | true =>
   refine zW (aC hl3 @aU x4) ?_
   exact zK
  | false =>
   refine zW (aC hl3 @tK hrs) ?_
   refine ⟨?_,zK⟩
   unfold Lin.gensP
   rw [<- hany,hc]
   exact Yo _ _ _
 rintro T4 H4 hs4 ⟨k34,y4,hyes⟩
 have w4:=k34.wf
 have le4:=k34.le
 have k4:Kp H H4:=k3.trans k34
 have le_k4:=k4.le
 have y9:ad T4 9=p:=(hs4.at_ 9 zU).trans v9
 have y10:ad T4 10=q:=(hs4.at_ 10 zU).trans v10
 have hl4:T4.length=79:=hs4.len.trans hl3
 refine db (fun T' H'=>∃ o,ad T' 4=o/\Kp H4 H'/\Bq genE ak H4 H' o (L.map fun r=>(1,r))) rfl ?_ ?_
 ·refine zW (aC hl4 y9 hp.lenV) ?_
  refine am H4 [4] (fun j vs H'=>∃ o,vs=[o]/\Bq genE ak H4 H' o ((L.take j).map fun r=>(1,r))) (a:=0) (N:=L.length) rfl (by refine zW hl4 ?_; rfl) (zV hl4) (SH _) zO (by simp only [Sr,hl4]; rfl) rfl (fun j vs H' m ⟨o,q1,q2⟩=>⟨o,q1,q2.mono (Ys H' m)⟩) (Kp.up (X7 w4) _) ⟨.nilSl,by exact zV (aB hl4 y4),Bq.nil⟩ ?_ ?_
  ·rintro j T5 H5 _ hj hl5 hi5 hs5 hk5 ⟨o,hv,ho⟩
   have w5:=hk5.wf
   have le_hk5:=hk5.le
   have le5:=hk5.le
   simp only [SA,SD,SB,and_true] at hv
   have t51:ad T5 51=p:=(hs5.at_ 51 zU).trans (zV (aB hl4 y9))
   obtain ⟨w,hr,hld⟩:=dy ((hp.mono k34.sub).mono hk5.sub) hj
   have hix:=Ym hp .i64 j hj
   have ow:=hr.one
   simp only [Sr,hl4] at hl5
   obtain ⟨n6,H6,e6,b6,k6,nx6,f6,-⟩:=XZ (ty2:=ak) (bytes:=32) (id:=H5.next+7) (id2:=H5.next+6) (H:=H5.up 9) (cs:=[.int .u8 1,w]) (a:=(1,L[j])) (ho.mono (Ys H5 9)) zU (hk5.up 9) ⟨w,rfl,hr.mono (Ys H5 9)⟩ zO (by rw [cZ]; omega) (w5.fresh zO) zO (by rw [cZ]; omega) (w5.fresh zO) zO (by simp; omega) (by simp; omega)
   have e6':cN ((H5.up 9).put (H5.next+6) (.cells [.int .u8 1,w] ak true)) (H5.next+7) 2 32 ak o (.own (H5.next+6) 0 1 1 2 true)=some (.own (H5.next+7) 0 n6 n6 2 false,H6):=e6
   refine zW (gf hl5 t51 hi5 hix hld hv e6') ?_
   refine ⟨k6,_,rfl,?_⟩
   rw [SF hj,Tq]
   exact b6
  ·rintro T5 H5 hl5 hs5 hk5 ⟨o,hv,ho⟩
   simp only [SA,SD,SB,and_true] at hv
   rw [S2] at ho
   refine zW (aB hl5 @aU) ?_
   exact ⟨o,hv,hk5,ho⟩
 rintro T5 H5 hs5 ⟨o5',z4,k45,bo5⟩
 have w5:=k45.wf
 have le5:=k45.le
 have z10:ad T5 10=q:=(hs5.at_ 10 zU).trans y10
 have hl5:T5.length=79:=hs5.len.trans hl4
 refine db (fun T' H'=>∃ o,ad T' 4=o/\Kp H4 H'/\Bq genE ak H4 H' o ((L.map fun r=>(1,r))++R.map fun r=>(Lin.kindOf r,r))) rfl ?_ ?_
 ·refine zW (aC hl5 z10 hq.lenV) ?_
  refine am H4 [4] (fun j vs H'=>∃ o,vs=[o]/\Bq genE ak H4 H' o ((L.map fun r=>(1,r))++(R.take j).map fun r=>(Lin.kindOf r,r))) (a:=0) (N:=R.length) rfl (by refine zW hl5 ?_; rfl) (zV hl5) (SH _) zO (by simp only [Sr,hl5]; rfl) rfl (fun j vs H' m ⟨o,q1,q2⟩=>⟨o,q1,q2.mono (Ys H' m)⟩) (k45.up _) ⟨o5',by exact zV (aB hl5 z4),by rw [WA,SD,TZ]; exact bo5.mono (Ys H5 _)⟩ ?_ ?_
  ·rintro j T6 H6 _ hj hl6 hi6 hs6 hk6 ⟨o,hv,ho⟩
   have w6:=hk6.wf
   have le_hk6:=hk6.le
   have le6:=hk6.le
   simp only [SA,SD,SB,and_true] at hv
   have t63:ad T6 63=q:=(hs6.at_ 63 zU).trans (zV (aB hl5 z10))
   obtain ⟨w,hr,hld⟩:=dy ((hq.mono k34.sub).mono hk6.sub) hj
   have hix:=Ym hq .i64 j hj
   have ow:=hr.one
   simp only [Sr,hl5] at hl6
   have hm:=Sx hj
   refine zW (cr hl6 t63 hi6 hix hld) ?_
   refine XW (lV C zF (hr.mono (zG H6)) (smR _ hm)) fun H7 hk7=>?_
   obtain ⟨k67,_,_⟩:=zT H6 zK hk7
   have k47:Kp H4 H7:=hk6.trans k67
   have le_k47:=k47.le
   have w7:=k67.wf
   by_cases h0:0<Lin.hd1 R[j]
   ·have hk3:Lin.kindOf R[j]=3:=by unfold Lin.kindOf; rw [if_pos h0]
    have hs0:(0:Int)<iv (Lin.hd1 R[j]):=(xA _).2 h0
    obtain ⟨n8,H8,e8,b8,k8,nx8,f8,-⟩:=XZ (ty2:=ak) (bytes:=32) (id:=H7.next+6) (id2:=H7.next+5) (H:=H7.up 8) (cs:=[.int .u8 3,w]) (a:=(3,R[j])) ((ho.mono k67.sub).mono (Ys H7 8)) zU (k47.up 8) ⟨w,rfl,(hr.mono k67.sub).mono (Ys H7 8)⟩ zO (by rw [cZ]; omega) (w7.fresh zO) zO (by rw [cZ]; omega) (w7.fresh zO) zO (by simp; omega) (by simp; omega)
    have e8':cN ((H7.up 8).put (H7.next+5) (.cells [.int .u8 3,w] ak true)) (H7.next+6) 2 32 ak o (.own (H7.next+5) 0 1 1 2 true)=some (.own (H7.next+6) 0 n8 n8 2 false,H8):=e8
    refine zW (aV hl6 hs0 hv e8') ?_
    refine ⟨k8,_,rfl,?_⟩
    rw [SF hj,Tq,<- UD]
    simp only [SA,SD,hk3]
    exact b8
   ·have hk3:Lin.kindOf R[j]=2:=by unfold Lin.kindOf; rw [if_neg h0]
    have hs0:¬ (0:Int)<iv (Lin.hd1 R[j]):=fun h=>h0 ((xA _).1 h)
    obtain ⟨n8,H8,e8,b8,k8,nx8,f8,-⟩:=XZ (ty2:=ak) (bytes:=32) (id:=H7.next+5) (id2:=H7.next+4) (H:=H7.up 7) (cs:=[.int .u8 2,w]) (a:=(2,R[j])) ((ho.mono k67.sub).mono (Ys H7 7)) zU (k47.up 7) ⟨w,rfl,(hr.mono k67.sub).mono (Ys H7 7)⟩ zO (by rw [cZ]; omega) (w7.fresh zO) zO (by rw [cZ]; omega) (w7.fresh zO) zO (by simp; omega) (by simp; omega)
    have e8':cN ((H7.up 7).put (H7.next+4) (.cells [.int .u8 2,w] ak true)) (H7.next+5) 2 32 ak o (.own (H7.next+4) 0 1 1 2 true)=some (.own (H7.next+5) 0 n8 n8 2 false,H8):=e8
    refine zW (aV hl6 hs0 hv e8') ?_
    refine ⟨k8,_,rfl,?_⟩
    rw [SF hj,Tq,<- UD]
    simp only [SA,SD,hk3]
    exact b8
  ·rintro T6 H6 hl6 hs6 hk6 ⟨o,hv,ho⟩
   simp only [SA,SD,SB,and_true] at hv
   rw [S2] at ho
   refine zW (aB hl6 @aU) ?_
   exact ⟨o,hv,hk6,ho⟩
 rintro T6 H6 hs6 ⟨o6',a4,k46,bo6⟩
 have hl6:T6.length=79:=hs6.len.trans hl5
 refine Yx ?_
 refine zW (aC hl6 @a4 hrs) ?_
 have hG:Lin.gensP n l=(L.map fun r=>(1,r))++R.map fun r=>(Lin.kindOf r,r):=by
  unfold Lin.gensP
  rw [<- hany,hyes,<- hL,<- hR]
  rfl
 rw [hG]
 exact ⟨bo6.sl,k4.trans k46⟩
end
section
variable {tab:Nat->Option aw} {H:Heap} {s:AV}
theorem uB (C:Code tab) (hw:Wf H) {a b:AV} {l m:List Nat} (ha:Lb H a l) (hb:Lb H b m) (hl':l.length<4611686018427387904) :
  Ans tab (.fn de [a,b]) H fun v H'=>v=.bool (decide (l=m))/\Kp H H':=by
 refine bz C.q109 zU fun T hl g0 g1=>?_
 by_cases he:l.length=m.length
 ·have lb:lenV b=some (.int .i64 (l.length:Int)):=by rw [hb.lenV,he]
  refine zW (cr hl g0 g1 ha.lenV lb) ?_
  refine am H [] (fun j _ _=>∀ q (h:q<l.length) (h':q<m.length),q<j->l[q]=m[q]) (a:=0) (N:=l.length) rfl (by refine zW (aC hl g0 g1) ?_; rfl) (zV (aC hl g0 g1)) (SH _) zO (by simp only [Sr,hl]; rfl) rfl (fun _ _ _ _ h=>h) zK (fun q _ _ h=>by omega) ?_ ?_
  ·intro i T1 H1 _ hi hl1 hi1 hs1 hk1 hP
   have w1:=hk1.wf
   have le_hk1:=hk1.le
   have t0:ad T1 0=a:=(hs1.at_ 0 zU).trans (zV (aB hl g0))
   have t1:ad T1 1=b:=(hs1.at_ 1 zU).trans (zV (aV hl g0 g1 g1))
   have hi':i<m.length:=by omega
   obtain ⟨w,hr,hld⟩:=Yk (ha.mono hk1.sub) (Sv hi)
   obtain ⟨w',hr',hld'⟩:=Yk (hb.mono hk1.sub) (Sv hi')
   have hr:w=.int .u64 ((l[i]:Nat):Int):=hr
   have hr':w'=.int .u64 ((m[i]:Nat):Int):=hr'
   subst hr; subst hr'
   have hix:=Ym ha .i64 i hi
   have hix':=Ym hb .i64 i hi'
   simp only [Sr,hl] at hl1
   refine zW (aV hl1 t0 t1 hi1) ?_
   refine aH ?_
   by_cases hq:l[i]=m[i]
   ·have hq':((l[i]:Nat):Int)=((m[i]:Nat):Int):=by omega
    refine zD (ki hl1 t0 t1 hix hld hix' hld' hq') ?_
    refine ⟨zK,fun q h h' hqi=>?_⟩
    by_cases eq:q=i
    ·subst eq; exact hq
    ·exact hP q h h' zO
   ·have hq':¬ ((l[i]:Nat):Int)=((m[i]:Nat):Int):=by omega
    refine zD (kj hl1 t0 t1 hix hld hix' hld' hq' hq) ?_
    refine ⟨?_,zK⟩
    rw [decide_eq_false]
    intro e; subst e; exact hq rfl
  ·intro T1 H1 hl1 hs1 hk1 hP
   simp only [Sr,hl] at hl1
   refine zW hl1 ?_
   exact ⟨by rw [decide_eq_true (iH he fun q h h'=>hP q h h' h)],zK⟩
 ·have he':¬ (l.length:Int)=(m.length:Int):=by omega
  refine zW (gf hl g0 g1 ha.lenV hb.lenV he' he) ?_
  refine ⟨?_,zK⟩
  rw [decide_eq_false]
  intro e; subst e; exact he rfl
theorem Fj (C:Code tab) (hw:Wf H) {a b:AV} {x y:Int} (ha:IntV H a x) (hb:IntV H b y) (hx:eU x) :
  Ans tab (.fn iP [a,b]) H fun v H'=>v=.bool (decide (x=y))/\Kp H H':=by
 obtain ⟨p,rfl,hp⟩:=ha
 obtain ⟨q,rfl,hq⟩:=hb
 have op:=hp.one
 have oq:=hq.one
 unfold eU Sm at hx
 refine bz C.q95 zU fun T hl g0 g1=>?_
 by_cases h:decide (x<0)=decide (y<0)
 ·have h':(decide (x<0) == decide (y<0))=true:=by rw [h]; simp
  refine zW (aV hl g0 g1 h') ?_
  refine XW (uB C zF (hp.mono (zG H)) (hq.mono (zG H)) zO) fun H2 hk2=>?_
  obtain ⟨k2,_,_⟩:=zT H zK hk2
  refine zW (aC hl g0 g1) ?_
  refine ⟨?_,zK⟩
  by_cases e:x=y
  ·rw [decide_eq_true e,decide_eq_true (by rw [e])]
  ·rw [decide_eq_false e,decide_eq_false]
   intro h2
   have:=AX h2
   have h3:(x<0) ↔ (y<0):=by simpa using h
   omega
 ·have h':(decide (x<0) == decide (y<0))=false:=by simpa using h
  refine zW (aV hl g0 g1 h') ?_
  refine ⟨?_,zK⟩
  rw [decide_eq_false]
  intro e; subst e; exact h rfl
theorem xS (C:Code tab) (hw:Wf H) {a b:AV} {l m:List Int} (ha:RowV H a l) (hb:RowV H b m) (hbig:l.length<1099511627776) (hz:∀ z∈l,eU z) :
  Ans tab (.fn rY [a,b]) H fun v H'=>v=.bool (decide (l=m))/\Kp H H':=by
 have key:∀ {H:Heap},Wf H->RowV H a l->RowV H b m->Ans tab (.fn bc [a,b,.fn (.func iP) [] []]) H fun v H'=>v=.bool (decide (l=m))/\Kp H H':=by
  intro H hw ha hb
  refine lU C.q94 zU fun T hl g0 g1 g2=>?_
  by_cases he:l.length=m.length
  ·have lb:lenV b=some (.int .i64 (l.length:Int)):=by rw [hb.lenV,he]
   refine zW (eW hl g0 g1 g2 ha.lenV lb) ?_
   refine am H [] (fun j _ _=>∀ q (h:q<l.length) (h':q<m.length),q<j->l[q]=m[q]) (a:=0) (N:=l.length) rfl (by refine zW (aV hl g0 g1 g2) ?_; rfl) (zV (aV hl g0 g1 g2)) (SH _) zO (by simp only [Sr,hl]; rfl) rfl (fun _ _ _ _ h=>h) zK (fun q _ _ h=>by omega) ?_ ?_
   ·intro j T1 H1 _ hj hl1 hi1 hs1 hk1 hP
    have w1:=hk1.wf
    have le_hk1:=hk1.le
    have hj2:j<m.length:=by omega
    have t15:ad T1 15=a:=(hs1.at_ 15 zU).trans (zV (aB hl g0))
    have t1:ad T1 1=b:=(hs1.at_ 1 zU).trans (zV (cr hl g0 g1 g2 g1))
    have t2:ad T1 2=.fn (.func iP) [] []:=(hs1.at_ 2 zU).trans (zV (cr hl g0 g1 g2 g2))
    obtain ⟨w,hn,L0,hix⟩:=mi w1 (ha.mono hk1.sub) hj
    obtain ⟨u,hu,L,hiy⟩:=mi w1 (hb.mono hk1.sub) hj2
    have ow:=hn.one
    have ou:=hu.one
    have Lp0:=L0.put
    have Ll0:=L0.ld
    have Lp:=L.put
    have Ll:=L.ld
    simp only [Sr,hl] at hl1
    refine zW (rc hl1 t15 t1 t2 hi1 hix Lp0 Ll0 hiy Lp Ll) ?_
    refine XW (Fj C (x:=l[j]) (y:=m[j]) zF ⟨w,rfl,hn.mono (zG H1)⟩ ⟨u,rfl,hu.mono (zG H1)⟩ (hz _ (Sx hj))) fun H2 hk2=>?_
    obtain ⟨k2,_,_⟩:=zT H zK hk2
    cases hq:decide (l[j]=m[j]) with
    | true =>
     have hq:=of_decide_eq_true hq
     refine zW hl1 ?_
     refine ⟨zK,fun q h h' hqi=>?_⟩
     by_cases e:q=j
     ·subst e; exact hq
     ·exact hP q h h' zO
    | false =>
     have hq:=of_decide_eq_false hq
     refine zW hl1 ?_
     refine ⟨?_,zK⟩
     rw [decide_eq_false]
     intro e; subst e; exact hq rfl
   ·intro T1 H1 hl1 hs1 hk1 hP
    simp only [Sr,hl] at hl1
    refine zW hl1 ?_
    exact ⟨by rw [decide_eq_true (iH he fun q h h'=>hP q h h' h)],zK⟩
  ·have he':¬ (l.length:Int)=(m.length:Int):=by omega
   refine zW (ki hl g0 g1 g2 ha.lenV hb.lenV he' he) ?_
   refine ⟨?_,zK⟩
   rw [decide_eq_false]
   intro e; subst e; exact he rfl
 refine bz C.q72 zU fun T hl g0 g1=>?_
 refine zW (aC hl g0 g1) ?_
 refine XW (key zF (ha.mono (zG H)) (hb.mono (zG H))) fun H2 hk2=>?_
 obtain ⟨k2,_,_⟩:=zT H zK hk2
 refine zW (aC hl g0 g1) ?_
 exact zK
end
section
open Lin
variable {n:Nat} {g:List (Nat × V)}
theorem F4 {j:Nat} (hj:j<g.length):linesOf (g.take (j+1))=if g[j].1=1 then linesOf (g.take j)++[g[j].2] else linesOf (g.take j):=by
 rw [SF hj]
 unfold linesOf
 rw [TO,Tq]
 by_cases h:g[j].1=1 <;> simp [h]
theorem IV {j:Nat} (hj:j<g.length):raysOf (g.take (j+1))=if g[j].1=1 then raysOf (g.take j) else raysOf (g.take j)++[g[j].2]:=by
 rw [SF hj]
 unfold raysOf
 rw [TO,Tq]
 by_cases h:g[j].1=1 <;> simp [h]
theorem IF {j:Nat} (hj:j<g.length):(g.take (j+1)).any (fun x=>x.1 == 3)=((g.take j).any (fun x=>x.1 == 3) || g[j].1 == 3):=by
 rw [SF hj,List.any_append]
 simp
theorem DP (g:List (Nat × V)):(linesOf g).length<=g.length:=by
 unfold linesOf
 rw [SG]
 exact Ut _ _
theorem Hb (g:List (Nat × V)):(raysOf g).length<=g.length:=by
 unfold raysOf
 rw [SG]
 exact Ut _ _
theorem AU {x:V} (h:x∈raysOf g):∃ y∈g,y.2=x:=by
 obtain ⟨k,-,h⟩:=mem_rays.1 h
 exact ⟨_,h,rfl⟩
end
section
variable {tab:Nat->Option aw} {H:Heap} {s:AV}
set_option maxHeartbeats 4000000 in
theorem A6 (C:Code tab) (hw:Wf H) {n m:Nat} {g:List (Nat × List Int)} (hs:SlV genE ak H s g) (hn:n<=4) (hlen:g.length<=1023) (hcnt:g.length^n<1099000000000) (hrow:∀ x∈g,x.2.length=n+1/\Lin.Bd (2^m) x.2) (hm:m<=300000) :
  Ans tab (.fn pK [.int .i64 (n:Int),s]) H fun v H'=>SlV conE t_api_Con H' v (Lin.consP n g)/\Kp H H':=by
 refine Aw C.q47 rfl rfl zU fun T hl g'=>?_
 have hl:T.length=84:=hl
 have hrs:c_dual_cons.results=[(4,none)]:=rfl
 have g0:ad T 0=.int .i64 (n:Int):=g' 0 (by simp)
 have g1:ad T 1=s:=g' 1 (by simp)
 refine bk ?_
 refine zW (aB hl @aD) ?_
 refine bk ?_
 refine zW (aB hl @aD) ?_
 refine bk ?_
 refine zW (aB hl @aD) ?_
 refine db (fun T' H'=>∃ o5 o6,ad T' 5=o5/\ad T' 6=o6/\ad T' 7=.bool (g.any fun x=>x.1 == 3)/\Kp H H'/\dS H' o5 (Lin.linesOf g)/\dS H' o6 (Lin.raysOf g)) rfl ?_ ?_
 ·refine zW (aC hl g1 hs.lenV) ?_
  refine am H [5,6,7] (fun j vs H'=>∃ o5 o6,vs=[o5,o6,.bool ((g.take j).any fun x=>x.1 == 3)]/\Bq rowsE af H H' o5 (Lin.linesOf (g.take j))/\Bq rowsE af H H' o6 (Lin.raysOf (g.take j))/\Sep o5 o6) (a:=0) (N:=g.length) rfl (by refine zW hl ?_; rfl) (zV hl) (SH _) zO (by simp only [Sr,hl]; rfl) rfl (fun j vs H' m ⟨o5,o6,q1,q2,q3,q4⟩=>⟨o5,o6,q1,q2.mono (Ys H' m),q3.mono (Ys H' m),q4⟩) zK ⟨.nilSl,.nilSl,by refine zW hl ?_; rfl,Bq.nil,Bq.nil,fun b h=>by cases h⟩ ?_ ?_
  ·rintro j T2 H2 _ hj hl2 hi2 hs2 hk2 ⟨o5,o6,hv,bq5,bq6,hsep⟩
   have w2:=hk2.wf
   have le_hk2:=hk2.le
   have le2:=hk2.le
   simp only [SA,SD,SB,and_true] at hv
   obtain ⟨v5,v6,v7⟩:=hv
   have t17:ad T2 17=s:=(hs2.at_ 17 zU).trans (zV (aB hl g1))
   obtain ⟨cs,⟨w,rfl,hr⟩,hlen',-,hld⟩:=(hs.mono hk2.sub).at (Sv hj)
   have hix:co 2 s (.int .i64 (j:Int))=some (ap s (j*2)):=Yl hs .i64 j hj
   have hld:aW H2 (some 2) (ap s (j*2))=some (.agg [.int .u8 (g[j].1:Int),w]):=hld
   have ow:=hr.one
   simp only [Sr,hl] at hl2
   have he:=F4 (g:=g) hj
   have hi:=IV (g:=g) hj
   have hso:=IF (g:=g) hj
   have l5:=DP (g.take j)
   have l6:=Hb (g.take j)
   rw [SY] at l5 l6
   have main:∀ K:Nat,6<=K->∃ Hx,Hx=((H2.up K).put (H2.next+2) (.cells [.int .u8 0,.nilSl] ak true)).put (H2.next+2) (.cells [.int .u8 (g[j].1:Int),w] ak true)/\Kp H2 Hx/\Hx.next=H2.next+K/\(∀ c,H2.next<=c->c≠H2.next+2->Hx.get c=none):=fun K hK=>by
    refine ⟨_,rfl,zK,rfl,fun c h1 h2=>?_⟩
    rw [az h2,az h2]; exact w2.fresh h1
   by_cases c1:g[j].1=1
   ·have c1':(g[j].1:Int)=1:=by omega
    rw [c1'] at hld
    obtain ⟨Hx,hHx,kx,nx,fx⟩:=main 14 zO
    rw [c1'] at hHx
    obtain ⟨n6,H6,e6,b6,k6,nx6,f6,-⟩:=XZ (ty2:=af) (bytes:=24) (id:=H2.next+12) (id2:=H2.next+11) (cs:=[w]) (a:=g[j].2) (bq5.mono kx.sub) zU (hk2.trans kx) ⟨w,rfl,hr.mono kx.sub⟩ zO zO (fx _ zO zO) zO zO (fx _ zO zO) zO zO zO
    have e6':cN ((((H2.up 14).put (H2.next+2) (.cells [.int .u8 0,.nilSl] ak true)).put (H2.next+2) (.cells [.int .u8 1,w] ak true)).put (H2.next+11) (.cells [w] af true)) (H2.next+12) 1 24 af o5 (.own (H2.next+11) 0 1 1 1 true)=some (.own (H2.next+12) 0 n6 n6 1 false,H6):=by rw [hHx] at e6; exact e6
    refine zW (kj hl2 t17 hi2 hix hld v5 v6 v7 e6') ?_
    have c13:(g[j].1 == 3)=false:=by rw [c1]; rfl
    rw [hso,c13,W6]
    refine ⟨k6,.own (H2.next+12) 0 n6 n6 1 false,o6,rfl,?_,?_,?_⟩
    ·rw [he,if_pos c1]; exact b6
    ·rw [hi,if_pos c1]; exact f6.bq (bq5.mono kx.sub) (bq6.mono kx.sub) hsep zU
    ·intro b h1 h2
     have:=bq6.lt w2 h2
     cases h1
     omega
   have c1':¬ (g[j].1:Int)=1:=by omega
   have c1b:(g[j].1 == 1)=false:=by simpa using c1
   by_cases c3:g[j].1=3
   ·have c3':(g[j].1:Int)=3:=by omega
    rw [c3'] at hld
    obtain ⟨Hx,hHx,kx,nx,fx⟩:=main 17 zO
    rw [c3'] at hHx
    obtain ⟨n6,H6,e6,b6,k6,nx6,f6,-⟩:=XZ (ty2:=af) (bytes:=24) (id:=H2.next+15) (id2:=H2.next+14) (cs:=[w]) (a:=g[j].2) (bq6.mono kx.sub) zU (hk2.trans kx) ⟨w,rfl,hr.mono kx.sub⟩ zO zO (fx _ zO zO) zO zO (fx _ zO zO) zO zO zO
    have e6':cN ((((H2.up 17).put (H2.next+2) (.cells [.int .u8 0,.nilSl] ak true)).put (H2.next+2) (.cells [.int .u8 3,w] ak true)).put (H2.next+14) (.cells [w] af true)) (H2.next+15) 1 24 af o6 (.own (H2.next+14) 0 1 1 1 true)=some (.own (H2.next+15) 0 n6 n6 1 false,H6):=by rw [hHx] at e6; exact e6
    refine zW (kj hl2 t17 hi2 hix hld v5 v6 v7 e6') ?_
    have c13:(g[j].1 == 3)=true:=by rw [c3]; rfl
    rw [hso,c13,Xf]
    refine ⟨k6,o5,.own (H2.next+15) 0 n6 n6 1 false,rfl,?_,?_,?_⟩
    ·rw [he,if_neg c1]; exact f6.bq (bq6.mono kx.sub) (bq5.mono kx.sub) hsep.symm zU
    ·rw [hi,if_neg c1]; exact b6
    ·intro b h1 h2
     have:=bq5.lt w2 h1
     cases h2
     omega
   ·have c3':¬ (g[j].1:Int)=3:=by omega
    have c3b:(g[j].1 == 3)=false:=by simpa using c3
    obtain ⟨Hx,hHx,kx,nx,fx⟩:=main 16 zO
    obtain ⟨n6,H6,e6,b6,k6,nx6,f6,-⟩:=XZ (ty2:=af) (bytes:=24) (id:=H2.next+14) (id2:=H2.next+13) (cs:=[w]) (a:=g[j].2) (bq6.mono kx.sub) zU (hk2.trans kx) ⟨w,rfl,hr.mono kx.sub⟩ zO zO (fx _ zO zO) zO zO (fx _ zO zO) zO zO zO
    have e6':cN ((((H2.up 16).put (H2.next+2) (.cells [.int .u8 0,.nilSl] ak true)).put (H2.next+2) (.cells [.int .u8 (g[j].1:Int),w] ak true)).put (H2.next+13) (.cells [w] af true)) (H2.next+14) 1 24 af o6 (.own (H2.next+13) 0 1 1 1 true)=some (.own (H2.next+14) 0 n6 n6 1 false,H6):=by rw [hHx] at e6; exact e6
    refine zW (rc hl2 t17 hi2 hix hld v5 v6 v7 e6' c1' c3') ?_
    rw [hso,c3b,W6]
    refine ⟨k6,o5,.own (H2.next+14) 0 n6 n6 1 false,rfl,?_,?_,?_⟩
    ·rw [he,if_neg c1]; exact f6.bq (bq6.mono kx.sub) (bq5.mono kx.sub) hsep.symm zU
    ·rw [hi,if_neg c1]; exact b6
    ·intro b h1 h2
     have:=bq5.lt w2 h1
     cases h2
     omega
  ·rintro T2 H2 hl2 hs2 hk2 ⟨o5,o6,hv,bq5,bq6,hsep⟩
   simp only [SA,SD,SB,and_true] at hv
   rw [S2] at bq5 bq6 hv
   refine zW (aB hl2 @aU) ?_
   exact ⟨o5,o6,hv.1,hv.2.1,hv.2.2,hk2,bq5.sl,bq6.sl⟩
 rintro T2 H2 hs2 ⟨o5,o6,v5,v6,v7,k2,r5,r6⟩
 have w2:=k2.wf
 have le2:=k2.le
 have u0:ad T2 0=.int .i64 (n:Int):=(hs2.at_ 0 zU).trans (zV (aB hl g0))
 have u4:ad T2 4=.nilSl:=(hs2.at_ 4 zU).trans (zV hl)
 have hl2:T2.length=84:=hs2.len.trans (by simp only [Sr]; exact hl)
 refine db (fun T' H'=>Kp H2 H'/\ad T' 4=.nilSl/\(g.any fun x=>x.1 == 3)=true) rfl ?_ ?_
 ·cases hc:g.any fun x=>x.1 == 3 with
  | true =>
   rw [hc] at v7
   refine zW (aV hl2 v7 u4 @aU) ?_
   exact zK
  | false =>
   rw [hc] at v7
   refine zW (aC hl2 v7 u0) ?_
   refine XX (vz C (n:=n) (k:=-1) zF zO zO zO) ?_
   rintro v H3 ⟨hr,hk3⟩
   obtain ⟨k23,_,_⟩:=zT H2 zK hk3
   have k3:Kp H H3:=k2.trans k23
   have le_k3:=k3.le
   have w3:=k3.wf
   have ov:=hr.one
   have n3:H2.next+7<=H3.next:=hk3.le
   have f3:H3.get (H2.next+5)=none:=hk3.free (show H2.next+5<H2.next+7 by omega) (w2.fresh (b:=H2.next+5) zO)
   refine zW (aV hl2 (xF ov) @tK hrs) ?_
   refine ⟨?_,zK⟩
   have e:Lin.consP n g=[(Lin.unitC n (-1),false)]:=by unfold Lin.consP; rw [if_neg (by rw [hc]; decide)]
   rw [e]
   obtain ⟨Hx,hHx⟩:∃ Hx,Hx=H3.put (H2.next+5) (.cells [v,.bool false] t_api_Con true):=⟨_,rfl⟩
   have sx:Sub H3 Hx:=by rw [hHx]; exact aP f3
   have:Own conE t_api_Con H Hx (H2.next+5) true (.own (H2.next+5) 0 1 1 2 true) [(Lin.unitC n (-1),false)]:=⟨[v,.bool false],rfl,by rw [hHx]; exact au _ _ _,X2 (E:=conE) ⟨v,rfl,hr.mono sx⟩,by omega⟩
   rw [<- hHx]
   exact this.sl
 rintro T3 H3 hs3 ⟨k23,x4,hyes⟩
 have k3:Kp H H3:=k2.trans k23
 have le_k3:=k3.le
 have w3:=k3.wf
 have le3:=k3.le
 have x0:ad T3 0=.int .i64 (n:Int):=(hs3.at_ 0 zU).trans u0
 have x5:ad T3 5=o5:=(hs3.at_ 5 zU).trans v5
 have x6:ad T3 6=o6:=(hs3.at_ 6 zU).trans v6
 have hl3:T3.length=84:=hs3.len.trans hl2
 have hE:∀ a∈Lin.linesOf g,a.length=n+1/\Lin.Bd (2^m) a:=fun a ha=>hrow _ (Lin.mem_lines.1 ha)
 have hI:∀ a∈Lin.raysOf g,a.length=n+1/\Lin.Bd (2^m) a:=fun a ha=>by
  obtain ⟨y,hy,rfl⟩:=AU ha
  exact hrow _ hy
 have lE:=DP g
 have lI:=Hb g
 obtain ⟨c1,c2⟩:=sP (d:=n+1) (m:=m) zO zO hE hI
 have hT:=Lin.gens_told (d:=n+1) (fun a ha=>(hE a ha).1) (fun a ha=>(hI a ha).1)
 have lL:=ech_len hT.form
 have hcI:(Lin.raysOf g).length^n<1099000000000:=TE (UR lI n) hcnt
 have lR:(Lin.gensR (n+1) (Lin.linesOf g) (Lin.raysOf g)).length<=1099000000000:=by
  have:=hT.dd.count3 (fun a ha=>(hI a ha).1)
  simp only [Uv] at this
  omega
 obtain ⟨L,hL⟩:∃ L,L=Lin.gensL (n+1) (Lin.linesOf g) (Lin.raysOf g):=⟨_,rfl⟩
 obtain ⟨R,hR⟩:∃ R,R=Lin.gensR (n+1) (Lin.linesOf g) (Lin.raysOf g):=⟨_,rfl⟩
 have lnR:∀ r∈R,r.length=n+1:=fun r hr=>by rw [hR] at hr; exact (c2 r hr).1
 have smR:∀ r∈R,∀ z∈r,eU z:=fun r hr z hz=>by
  rw [hR] at hr
  exact (jk (c2 r hr).2 z hz).sm zO
 have ej:IntKind.i64.wrap ((n:Int)+1)=((n+1:Nat):Int):=by rw [wrap_i64] <;> omega
 refine db (fun T' H'=>∃ p q,ad T' 10=p/\ad T' 11=q/\Kp H H'/\dS H' p L/\dS H' q R) rfl ?_ ?_
 ·refine zW (cr hl3 x0 x5 x6 ej) ?_
  refine XX (zk C (d:=n+1) (m:=m) zF ((r5.mono k23.sub).mono (zG H3)) ((r6.mono k23.sub).mono (zG H3)) zO zO zO zO (by simpa using hcI) hE hI hm) ?_
  rintro v H4 ⟨p,q,rfl,hp,hq,hk4⟩
  obtain ⟨k34,_,_⟩:=zT H3 zK hk4
  have k4:Kp H H4:=k3.trans k34
  have le_k4:=k4.le
  refine zW (aB hl3 @aU) ?_
  rw [hL,hR]
  exact ⟨p,q,rfl,rfl,zK,hp,hq⟩
 rintro T4 H4 hs4 ⟨p,q,y10,y11,k4,hp,hq⟩
 have w4:=k4.wf
 have le4:=k4.le
 have y0:ad T4 0=.int .i64 (n:Int):=(hs4.at_ 0 zU).trans x0
 have y4:ad T4 4=.nilSl:=(hs4.at_ 4 zU).trans x4
 have hl4:T4.length=84:=hs4.len.trans hl3
 rw [<- hL] at lL
 rw [<- hR] at lR
 refine db (fun T' H'=>∃ o,ad T' 4=o/\Kp H4 H'/\Bq conE t_api_Con H4 H' o (L.map fun r=>(r,true))) rfl ?_ ?_
 ·refine zW (aC hl4 y10 hp.lenV) ?_
  refine am H4 [4] (fun j vs H'=>∃ o,vs=[o]/\Bq conE t_api_Con H4 H' o ((L.take j).map fun r=>(r,true))) (a:=0) (N:=L.length) rfl (by refine zW hl4 ?_; rfl) (zV hl4) (SH _) zO (by simp only [Sr,hl4]; rfl) rfl (fun j vs H' m ⟨o,q1,q2⟩=>⟨o,q1,q2.mono (Ys H' m)⟩) (Kp.up (X7 w4) _) ⟨.nilSl,by exact zV (aB hl4 y4),Bq.nil⟩ ?_ ?_
  ·rintro j T5 H5 _ hj hl5 hi5 hs5 hk5 ⟨o,hv,ho⟩
   have w5:=hk5.wf
   have le_hk5:=hk5.le
   have le5:=hk5.le
   simp only [SA,SD,SB,and_true] at hv
   have t55:ad T5 55=p:=(hs5.at_ 55 zU).trans (zV (aB hl4 y10))
   obtain ⟨w,hr,hld⟩:=dy (hp.mono hk5.sub) hj
   have hix:=Ym hp .i64 j hj
   have ow:=hr.one
   simp only [Sr,hl4] at hl5
   obtain ⟨n6,H6,e6,b6,k6,nx6,f6,-⟩:=XZ (ty2:=t_api_Con) (bytes:=32) (id:=H5.next+7) (id2:=H5.next+6) (H:=H5.up 9) (cs:=[w,.bool true]) (a:=(L[j],true)) (ho.mono (Ys H5 9)) zU (hk5.up 9) ⟨w,rfl,hr.mono (Ys H5 9)⟩ zO (by rw [cZ]; omega) (w5.fresh zO) zO (by rw [cZ]; omega) (w5.fresh zO) zO (by simp; omega) (by simp; omega)
   have e6':cN ((H5.up 9).put (H5.next+6) (.cells [w,.bool true] t_api_Con true)) (H5.next+7) 2 32 t_api_Con o (.own (H5.next+6) 0 1 1 2 true)=some (.own (H5.next+7) 0 n6 n6 2 false,H6):=e6
   refine zW (gf hl5 t55 hi5 hix hld hv e6') ?_
   refine ⟨k6,_,rfl,?_⟩
   rw [SF hj,Tq]
   exact b6
  ·rintro T5 H5 hl5 hs5 hk5 ⟨o,hv,ho⟩
   simp only [SA,SD,SB,and_true] at hv
   rw [S2] at ho
   refine zW (aB hl5 @aU) ?_
   exact ⟨o,hv,hk5,ho⟩
 rintro T5 H5 hs5 ⟨o5',z4,k45,bo5⟩
 have w5:=k45.wf
 have le5:=k45.le
 have z0:ad T5 0=.int .i64 (n:Int):=(hs5.at_ 0 zU).trans y0
 have z11:ad T5 11=q:=(hs5.at_ 11 zU).trans y11
 have hl5:T5.length=84:=hs5.len.trans hl4
 refine db (fun T' H'=>∃ o,ad T' 4=o/\Kp H4 H'/\Bq conE t_api_Con H4 H' o ((L.map fun r=>(r,true))++(R.filter fun r=>!decide (r=Lin.unitC n 1)).map fun r=>(r,false))) rfl ?_ ?_
 ·refine zW (aC hl5 z11 hq.lenV) ?_
  refine am H4 [4] (fun j vs H'=>∃ o,vs=[o]/\Bq conE t_api_Con H4 H' o ((L.map fun r=>(r,true))++((R.take j).filter fun r=>!decide (r=Lin.unitC n 1)).map fun r=>(r,false))) (a:=0) (N:=R.length) rfl (by refine zW hl5 ?_; rfl) (zV hl5) (SH _) zO (by simp only [Sr,hl5]; rfl) rfl (fun j vs H' m ⟨o,q1,q2⟩=>⟨o,q1,q2.mono (Ys H' m)⟩) (k45.up _) ⟨o5',by exact zV (aB hl5 z4),by rw [WA,VA,SD,TZ]; exact bo5.mono (Ys H5 _)⟩ ?_ ?_
  ·rintro j T6 H6 _ hj hl6 hi6 hs6 hk6 ⟨o,hv,ho⟩
   have w6:=hk6.wf
   have le_hk6:=hk6.le
   have le6:=hk6.le
   simp only [SA,SD,SB,and_true] at hv
   have t0:ad T6 0=.int .i64 (n:Int):=(hs6.at_ 0 zU).trans (zV (aB hl5 z0))
   have t67:ad T6 67=q:=(hs6.at_ 67 zU).trans (zV (aB hl5 z11))
   obtain ⟨w,hr,hld⟩:=dy (hq.mono hk6.sub) hj
   have hix:=Ym hq .i64 j hj
   have ow:=hr.one
   simp only [Sr,hl5] at hl6
   have hm:=Sx hj
   refine zW (eW hl6 t0 t67 hi6 hix hld) ?_
   refine XX (vz C (n:=n) (k:=1) zF zO zO zO) ?_
   rintro v H7 ⟨hu,hk7⟩
   obtain ⟨k67,_,_⟩:=zT H6 zK hk7
   have k47:Kp H4 H7:=hk6.trans k67
   have le_k47:=k47.le
   have w7:=k67.wf
   refine zW hl6 ?_
   refine XW (xS C zF ((hr.mono k67.sub).mono (zG H7)) (hu.mono (zG H7)) (by rw [lnR _ hm]; omega) (smR _ hm)) fun H8 hk8=>?_
   obtain ⟨k78,_,_⟩:=zT H7 zK hk8
   have k48:Kp H4 H8:=k47.trans k78
   have le_k48:=k48.le
   have k68:Kp H6 H8:=k67.trans k78
   have le_k68:=k68.le
   have w8:=k48.wf
   by_cases hq1:R[j]=Lin.unitC n 1
   ·refine zW (aC hl6 hv hq1) ?_
    refine ⟨k48,_,rfl,?_⟩
    rw [SF hj,TO]
    simp only [hq1,UJ,VA,decide_true,VN,Tv,if_false,TZ]
    exact ho.mono k68.sub
   ·have lf:((R.take j).filter fun r=>!decide (r=Lin.unitC n 1)).length<=R.length:=SM (Ut _ _) (by rw [SY]; omega)
    obtain ⟨n8,H9,e8,b8,k8,nx8,f8,-⟩:=XZ (ty2:=t_api_Con) (bytes:=32) (id:=H8.next+4) (id2:=H8.next+3) (H:=H8.up 6) (cs:=[w,.bool false]) (a:=(R[j],false)) ((ho.mono k68.sub).mono (Ys H8 6)) zU (k48.up 6) ⟨w,rfl,(hr.mono k68.sub).mono (Ys H8 6)⟩ zO (by rw [cZ]; omega) (w8.fresh zO) zO (by rw [cZ]; omega) (w8.fresh zO) zO (by rw [SN,SG,SG]; omega) (by rw [SN,SG,SG]; omega)
    have e8':cN ((H8.up 6).put (H8.next+3) (.cells [w,.bool false] t_api_Con true)) (H8.next+4) 2 32 t_api_Con o (.own (H8.next+3) 0 1 1 2 true)=some (.own (H8.next+4) 0 n8 n8 2 false,H9):=e8
    refine zW (cr hl6 hv hq1 e8' (xF ow)) ?_
    refine ⟨k8,_,rfl,?_⟩
    rw [SF hj,TO]
    simp only [UJ,VA,hq1,decide_false,WE,if_true,Tq,SA,SD,<- UD]
    exact b8
  ·rintro T6 H6 hl6 hs6 hk6 ⟨o,hv,ho⟩
   simp only [SA,SD,SB,and_true] at hv
   rw [S2] at ho
   refine zW (aB hl6 @aU) ?_
   exact ⟨o,hv,hk6,ho⟩
 rintro T6 H6 hs6 ⟨o6',a4,k46,bo6⟩
 have hl6:T6.length=84:=hs6.len.trans hl5
 refine Yx ?_
 refine zW (aC hl6 @a4 hrs) ?_
 have hG:Lin.consP n g=(L.map fun r=>(r,true))++(R.filter fun r=>!decide (r=Lin.unitC n 1)).map fun r=>(r,false):=by
  unfold Lin.consP
  rw [if_pos hyes,<- hL,<- hR]
 rw [hG]
 exact ⟨bo6.sl,k4.trans k46⟩
end
theorem mF {x y z a b c:AV} {ty:Nat} (ha:One a) (hb:One b) (hc:One c):Db (some (.cells [x,y,z] ty true)) 3 0 (.agg [a,b,c])=some (.cells [a,b,c] ty true):=by
 simpa using iN (cs:=[x,y,z]) (vs:=[a,b,c]) (ty:=ty) (n:=3) (o:=0) (v:=.agg [a,b,c]) ⟨rfl,rfl,by simp [ha.2,hb.2,hc.2]⟩ (by simp)
theorem Qx {x y z a b c:AV} (ha:One a) (hb:One b) (hc:One c):ia [x,y,z] [((0,1),a),((1,1),b),((2,1),c)]=some (.agg [a,b,c]):=by
 simp [ia,cX,ha.1,ha.2,hb.1,hb.2,hc.1,hc.2]
section
variable {H:Heap} {s:AV}
theorem Eu {ty:Nat} {l:List (List Int × Bool)} (h:SlV conE ty H s l):SlV conQE ty H s (l.map fun c=>(c.1.map eR,c.2)):=by
 obtain ⟨cells,hr,ht,hc,ha⟩:=h
 refine ⟨cells,hr,ht,by rw [hc,SG]; rfl,fun i a hi=>?_⟩
 rw [Tt,SC] at hi
 obtain ⟨z,hz,rfl⟩:=hi
 obtain ⟨w,h1,h2⟩:=ha i z hz
 exact ⟨w,h1,h2.raw⟩
theorem Ea {ty:Nat} {l:List (Nat × List Int)} (h:SlV genE ty H s l):SlV genQE ty H s (l.map fun c=>(c.1,c.2.map eR)):=by
 obtain ⟨cells,hr,ht,hc,ha⟩:=h
 refine ⟨cells,hr,ht,by rw [hc,SG]; rfl,fun i a hi=>?_⟩
 rw [Tt,SC] at hi
 obtain ⟨z,hz,rfl⟩:=hi
 obtain ⟨w,h1,h2⟩:=ha i z hz
 exact ⟨w,h1,h2.raw⟩
end
theorem F8 (z:Int):fE (eR z)=z:=by
 unfold fE eR
 simp only [bI]
 by_cases h:z<0
 ·simp [h]; omega
 ·simp [h]; omega
theorem Md (l:List Int):(l.map eR).map fE=l:=by
 rw [UN]
 conv=>rhs; rw [<- Wn l]
 exact Uq fun z _=>F8 z
section
open Lin
variable {n m:Nat}
theorem tD {l:List (V × Bool)} (hn:n<=5) (h:∀ c∈l,c.1.length=n+1/\Bd (2^m) c.1):∀ x∈gensP n l,x.2.length=n+1/\Bd (2^(64*(m+4))) x.2:=fun x hx=>by
 have hE:∀ a∈eqsOf l,a.length=n+1/\Bd (2^m) a:=fun a ha=>h _ (mem_eqs.1 ha)
 have hI:∀ a∈ineqsOf n l,a.length=n+1/\Bd (2^m) a:=fun a ha=>by
  rcases mem_ineqs.1 ha with rfl | ha
  ·exact ⟨unitC_len n 1,GU n m⟩
  ·exact h _ ha
 obtain ⟨c1,c2⟩:=sP (d:=n+1) (m:=m) zO zO hE hI
 unfold gensP at hx
 split at hx
 ·rcases SQ.1 hx with hx | hx
  ·obtain ⟨r,hr,rfl⟩:=Sy.1 hx
   exact c1 r hr
  ·obtain ⟨r,hr,rfl⟩:=Sy.1 hx
   exact c2 r hr
 ·cases hx
theorem K2 (n m:Nat):Bd (2^m) (unitC n (-1)):=fun i=>by
 have h1:1<=2^m:=Tk zU
 unfold unitC at_
 cases i with
 | zero=>simpa using h1
 | succ i =>
  rw [Uj,Ss,TK]
  split <;> simp
theorem Mz {g:List (Nat × V)} (hn:n<=5) (h:∀ x∈g,x.2.length=n+1/\Bd (2^m) x.2):∀ c∈consP n g,c.1.length=n+1/\Bd (2^(64*(m+4))) c.1:=fun x hx=>by
 have hE:∀ a∈linesOf g,a.length=n+1/\Bd (2^m) a:=fun a ha=>h _ (mem_lines.1 ha)
 have hI:∀ a∈raysOf g,a.length=n+1/\Bd (2^m) a:=fun a ha=>by
  obtain ⟨y,hy,rfl⟩:=AU ha
  exact h _ hy
 obtain ⟨c1,c2⟩:=sP (d:=n+1) (m:=m) zO zO hE hI
 unfold consP at hx
 split at hx
 ·rcases SQ.1 hx with hx | hx
  ·obtain ⟨r,hr,rfl⟩:=Sy.1 hx
   exact c1 r hr
  ·obtain ⟨r,hr,rfl⟩:=Sy.1 hx
   exact c2 r (SO.1 hr).1
 ·rw [TD] at hx
  subst hx
  exact ⟨unitC_len n (-1),K2 n _⟩
theorem I4 {k n:Nat} (hk:k<=1023) (hn:n<=4):k^n<1099000000000:=by
 have h1:k^n<=1023^n:=UR hk n
 have h2:1023^n<=1023^4:=Tb zU hn
 have h3:(1023:Nat)^4=1095222947841:=by decide
 omega
end
abbrev Cc:AV:=.agg [.int .i64 0,.nilSl,.nilSl]
def PolyV (H:Heap) (v:AV) (n:Nat) (c:List (List Int × Bool)) (g:List (Nat × List Int)):Prop:=∃ vc vg,v=.agg [.int .i64 (n:Int),vc,vg]/\SlV conE t_api_Con H vc c/\SlV genE ak H vg g
theorem PolyV.mono {H H':Heap} (hs:Sub H H') {v:AV} {n:Nat} {c:List (List Int × Bool)} {g:List (Nat × List Int)} (h:PolyV H v n c g):PolyV H' v n c g:=by
 obtain ⟨vc,vg,e,h1,h2⟩:=h
 exact ⟨vc,vg,e,h1.mono hs,h2.mono hs⟩
def mB (H:Heap) (v:AV) (n:Nat) (g:List (Nat × List Int)):Prop :=
 (v=.tup [Cc,.int .i64 4]/\(1024<=g.length\/1024<=(Lin.consP n g).length))\/∃ p,v=.tup [p,.int .i64 0]/\PolyV H p n (Lin.consP n g) g/\g.length<1024/\(Lin.consP n g).length<1024
section
variable {tab:Nat->Option aw} {H:Heap} {s:AV}
theorem A5 (C:Code tab) (hw:Wf H) {n m:Nat} {g:List (Nat × List Int)} (hs:SlV genE ak H s g) (hbig:g.length<1099511627776) (hn:n<=4) (hrow:∀ x∈g,x.2.length=n+1/\Lin.Bd (2^m) x.2) (hm:m<=300000) :
  Ans tab (.fn pJ [.int .i64 (n:Int),s]) H fun v H'=>mB H' v n g/\Kp H H':=by
 have os:=hs.one
 refine bz C.q34 zU fun T hl g0 g1=>?_
 by_cases q1:(1024:Int)<=(g.length:Int)
 ·refine zW (eW hl g0 g1 hs.lenV q1 @mF) ?_
  exact ⟨.inl ⟨rfl,.inl zO⟩,zK⟩
 refine zW (cr hl g0 g1 hs.lenV q1) ?_
 refine XX (A6 C zF (hs.mono (zG H)) hn zO (I4 zO hn) hrow hm) ?_
 rintro v H2 ⟨hc,hk2⟩
 obtain ⟨k2,_,w2⟩:=zT H zK hk2
 have ov:=hc.one
 have d0:=hk2.get (b:=H.next) (e:=.cells [.int .i64 0,.nilSl,.nilSl] ah true) (cR)
 have lt0:=w2 _ _ d0
 by_cases q2:(1024:Int)<=((Lin.consP n g).length:Int)
 ·refine zW (gf hl g0 g1 hc.lenV q2 d0 @mF) ?_
  exact ⟨.inl ⟨rfl,.inr zO⟩,zK⟩
 have st:NoTy [t_api_Con,aa,ae,ak] H2 H.next:=Yg d0 zU
 refine zW (ki hl hc.lenV q2 d0 g0 g1 @Qx @mF) ?_
 refine ⟨.inr ⟨_,rfl,⟨v,s,rfl,?_,?_⟩,by omega,by omega⟩,zK⟩
 ·have m3:NoTy (t_api_Con :: conE.tys) H2 H.next:=Yg d0 zU
  exact Yn (E:=conE) zS hc
 ·have m3:NoTy (ak :: genE.tys) H2 H.next:=Yg d0 zU
  exact Yn (E:=genE) zS (hs.mono k2.sub)
end
section
open Lin
variable {n:Nat}
theorem EH {l:List (V × Bool)} (hn:n<=8) (hl:l.length<=60) (h:∀ c∈l,c.1.length=n+1):dK n (l.map fun c=>(c.1.map eR,c.2))=0:=by
 unfold dK
 rw [if_neg zO,if_neg (by rw [SG]; omega),if_neg,if_neg]
 ·rw [Tj]
  rintro ⟨c,hc,h1⟩
  obtain ⟨x,hx,rfl⟩:=Sy.1 hc
  have h1:=of_decide_eq_true h1
  have:=h x hx
  simp only [SG] at h1
  omega
 ·rw [Tj]
  rintro ⟨c,hc,h1⟩
  obtain ⟨x,hx,rfl⟩:=Sy.1 hc
  have:=h x hx
  rw [TB,B5 zO] at h1
  cases h1
theorem OL {l:List (V × Bool)} (hn:n<=60) (h:∀ c∈l,c.1.length=n+1/\∀ z∈c.1,eU z):∀ c∈l.map fun c=>(c.1.map eR,c.2),vJ c.1:=fun c hc=>by
 obtain ⟨x,hx,rfl⟩:=Sy.1 hc
 exact sX (by rw [(h x hx).1]; omega) (h x hx).2
theorem EG {g:List (Nat × V)} (hn:n<=8) (hl:g.length<=60) (h:ValidG n g) (hk:∀ x∈g,x.1=1\/x.1=2\/x.1=3):i8 n (g.map fun c=>(c.1,c.2.map eR))=0:=by
 unfold i8
 rw [if_neg zO,if_neg (by rw [SG]; omega),if_neg,if_neg]
 ·rw [Tj]
  rintro ⟨c,hc,h1⟩
  obtain ⟨x,hx,rfl⟩:=Sy.1 hc
  have h1:=of_decide_eq_true h1
  have:=(h x hx).1
  simp only [SG] at h1
  omega
 ·rw [Tj]
  rintro ⟨c,hc,h1⟩
  obtain ⟨x,hx,rfl⟩:=Sy.1 hc
  obtain ⟨h2,h3,h4⟩:=h x hx
  simp only [FP,Md,Uo,TB,B5 (r:=x.2) zO,FQ] at h1
  rcases h1 with h1 | h1
  ·cases h1
  ·rcases hk x hx with e | e | e
   ·rw [if_pos (.inl e)] at h1
    exact absurd (h4 zO) (of_decide_eq_true h1)
   ·rw [if_pos (.inr e)] at h1
    exact absurd (h4 zO) (of_decide_eq_true h1)
   ·rw [if_neg zO,if_pos e] at h1
    have:=h3 e
    have:=of_decide_eq_true h1
    omega
theorem OK {g:List (Nat × V)} (hn:n<=60) (h:∀ c∈g,c.2.length=n+1/\∀ z∈c.2,eU z):∀ c∈g.map fun c=>(c.1,c.2.map eR),vJ c.2:=fun c hc=>by
 obtain ⟨x,hx,rfl⟩:=Sy.1 hc
 exact sX (by rw [(h x hx).1]; omega) (h x hx).2
end
section
variable {tab:Nat->Option aw} {H:Heap} {s:AV}
theorem El (C:Code tab) (hw:Wf H) {n:Int} {l:List ur} (hs:SlV conQE t_api_Con H s l) (hbig:∀ c∈l,vJ c.1) (hlen:l.length<4611686018427387904) (hc:dK n l≠0) :
  Ans tab (.fn nw [.int .i64 n,s]) H fun v H'=>v=.tup [Cc,.int .i64 (dK n l)]/\Kp H H':=by
 refine bz C.q14 zU fun T hl g0 g1=>?_
 refine zW (aC hl g0 g1) ?_
 refine XW (nC C zF (hs.mono (zG H)) hbig hlen) fun H2 hk2=>?_
 obtain ⟨k2,_,w2⟩:=zT H zK hk2
 have d0:=hk2.get (b:=H.next) (e:=.cells [.int .i64 0,.nilSl,.nilSl] ah true) (cR)
 have lt0:=w2 _ _ d0
 have hc:¬ dK n l=0:=hc
 refine zW (eW hl g0 g1 hc d0 @mF) ?_
 exact zK
theorem iA (C:Code tab) (hw:Wf H) {n m m2:Nat} {l:List (List Int × Bool)} (hs:SlV conE t_api_Con H s l) (hn:n<=4) (hlen:l.length<=60) (hrow:∀ c∈l,c.1.length=n+1/\Lin.Bd (2^m) c.1) (hm:m<=300000) (hG:∀ x∈Lin.gensP n l,Lin.Bd (2^m2) x.2) (hm2:m2<=300000) :
  Ans tab (.fn nw [.int .i64 (n:Int),s]) H fun v H'=>mB H' v n (Lin.gensP n l)/\Kp H H':=by
 refine bz C.q14 zU fun T hl g0 g1=>?_
 refine zW (aC hl g0 g1) ?_
 refine XW (nC C zF ((Eu hs).mono (zG H)) (OL (n:=n) zO fun c hc=>⟨(hrow c hc).1,fun z hz=>(jk (hrow c hc).2 z hz).sm zO⟩) (by rw [SG]; omega)) fun H2 hk2=>?_
 rw [EH zO hlen fun c hc=>(hrow c hc).1]
 obtain ⟨k2,_,w2⟩:=zT H zK hk2
 refine zW (aC hl g0 g1) ?_
 refine XX (wz C zF ((hs.mono k2.sub).mono (zG H2)) hn zO (I4 zO hn) hrow hm) ?_
 rintro v H3 ⟨hg,hk3⟩
 obtain ⟨k23,_,_⟩:=zT H2 zK hk3
 have k3:Kp H H3:=k2.trans k23
 have le_k3:=k3.le
 have w3:=k3.wf
 refine zW (aC hl g0 g1) ?_
 refine XX (A5 C zF (hg.mono (zG H3)) ?_ hn (fun x hx=>⟨(tD zO hrow x hx).1,hG x hx⟩) hm2) ?_
 ·have hT:=Lin.gens_told (d:=n+1) (Lin.eqs_len (l:=l) fun c hc=>(hrow c hc).1) (Lin.ineqs_len (l:=l) fun c hc=>(hrow c hc).1)
  have h1:=hT.dd.count3 (Lin.ineqs_len (l:=l) fun c hc=>(hrow c hc).1)
  have h2:=ech_len hT.form
  have h3:(Lin.ineqsOf n l).length^n<1099000000000:=I4 (SM (tw l) zO) hn
  simp only [Uv] at h1
  unfold Lin.gensP
  split
  ·rw [SN,SG,SG]; omega
  ·simp
 rintro v2 H4 ⟨hm4,hk4⟩
 have k4:Kp H H4:=k3.trans (X9 zK hk4)
 have le_k4:=k4.le
 have w4:=k4.wf
 have d0:=hk4.get (hk3.get (hk2.get (b:=H.next) (e:=.cells [.int .i64 0,.nilSl,.nilSl] ah true) (cR)))
 have lt0:=w4 _ _ d0
 rcases hm4 with ⟨rfl,hm4⟩ | ⟨p,rfl,⟨vc,vg,rfl,hc,hg4⟩,h1,h2⟩
 ·refine zW (cr hl g0 g1 d0 @mF) ?_
  exact ⟨.inl ⟨rfl,hm4⟩,zK⟩
 ·have oc:=hc.one
  have og:=hg4.one
  have e1:Eg 0 (.tup [.agg [.int .i64 (n:Int),vc,vg],.int .i64 0])=some (.agg [.int .i64 (n:Int),vc,vg]):=rfl
  refine zW (cr hl g0 g1 d0 @mF) ?_
  refine ⟨.inr ⟨_,rfl,⟨vc,vg,rfl,?_,?_⟩,h1,h2⟩,zK⟩
  ·have m3:NoTy (t_api_Con :: conE.tys) H4 H.next:=Yg d0 zU
   exact Yn (E:=conE) zS hc
  ·have m3:NoTy (ak :: genE.tys) H4 H.next:=Yg d0 zU
   exact Yn (E:=genE) zS hg4
theorem DR {n k m:Nat} (h:n<2^m) (hm:m<=64*k):(ag n).length<=k:=bh (by
 have e:B^k=2^(64*k):=by
  have:B=2^64:=by decide
  rw [this,<- VU]
 rw [e]
 exact SP h (Tb zU hm))
def Ie (H:Heap) (v:AV) (n:Nat) (g:List (Nat × List Int)):Prop :=
 (v=.tup [Cc,.int .i64 4]/\1024<=(Lin.consP n g).length)\/mB H v n (Lin.gensP n (Lin.consP n g))
theorem tJ (C:Code tab) (hw:Wf H) {n m m2 m3:Nat} {g:List (Nat × List Int)} (hs:SlV genE ak H s g) (hn:n<=4) (hlen:g.length<=60) (hv:Lin.ValidG n g) (hk:∀ x∈g,x.1=1\/x.1=2\/x.1=3) (hrow:∀ c∈g,Lin.Bd (2^m) c.2) (hm:m<=300000) (hC:∀ c∈Lin.consP n g,Lin.Bd (2^m2) c.1) (hm2:m2<=300000) (hG:∀ x∈Lin.gensP n (Lin.consP n g),Lin.Bd (2^m3) x.2) (hm3:m3<=300000)
  (hlc:(Lin.consP n g).length<=1022\/1024<=(Lin.consP n g).length) :
  Ans tab (.fn pL [.int .i64 (n:Int),s]) H fun v H'=>Ie H' v n g/\Kp H H':=by
 have hrow':∀ c∈g,c.2.length=n+1/\Lin.Bd (2^m) c.2:=fun c hc=>⟨(hv c hc).1,hrow c hc⟩
 have hgood:∀ c∈g.map fun c=>(c.1,c.2.map eR),∀ z∈c.2,Lim z.2/\z.2.length<=1048576:=fun c hc z hz=>by
  obtain ⟨x,hx,rfl⟩:=Sy.1 hc
  obtain ⟨y,hy,rfl⟩:=Sy.1 hz
  have hb:=jk (hrow x hx) y hy
  exact ⟨bu _,DR (n:=y.natAbs) (k:=1048576) (m:=m+1) hb zO⟩
 refine bz C.q26 zU fun T hl g0 g1=>?_
 refine zW (aC hl g0 g1) ?_
 refine XW (vA C zF ((Ea hs).mono (zG H)) (OK (n:=n) zO fun c hc=>⟨(hrow' c hc).1,fun z hz=>(jk (hrow c hc) z hz).sm zO⟩) hgood (by rw [SG]; omega)) fun H2 hk2=>?_
 rw [EG zO hlen hv hk]
 obtain ⟨k2,_,w2⟩:=zT H zK hk2
 refine zW (aC hl g0 g1) ?_
 refine XX (A6 C zF ((hs.mono k2.sub).mono (zG H2)) hn zO (I4 zO hn) hrow' zO) ?_
 rintro v H3 ⟨hc3,hk3⟩
 obtain ⟨k23,_,_⟩:=zT H2 zK hk3
 have k3:Kp H H3:=k2.trans k23
 have le_k3:=k3.le
 have w3:=k3.wf
 have d3:=hk3.get (hk2.get (b:=H.next) (e:=.cells [.int .i64 0,.nilSl,.nilSl] ah true) (cR))
 have lt3:=w3 _ _ d3
 by_cases q1:(1024:Int)<=((Lin.consP n g).length:Int)
 ·refine zW (gf hl g0 g1 hc3.lenV q1 d3 @mF) ?_
  exact ⟨.inl ⟨rfl,by omega⟩,zK⟩
 have hrc:∀ c∈Lin.consP n g,c.1.length=n+1/\Lin.Bd (2^m2) c.1:=fun c hc=>⟨(Mz zO hrow' c hc).1,hC c hc⟩
 refine zW (aV hl hc3.lenV q1 g0) ?_
 refine XX (wz C zF (hc3.mono (zG H3)) hn zO (I4 zO hn) hrc hm2) ?_
 rintro v4 H4 ⟨hg4,hk4⟩
 obtain ⟨k34,_,_⟩:=zT H3 zK hk4
 have k4:Kp H H4:=k3.trans k34
 have le_k4:=k4.le
 have w4:=k4.wf
 refine zW (aB hl g0) ?_
 refine XX (A5 C zF (hg4.mono (zG H4)) ?_ hn (fun x hx=>⟨(tD zO hrc x hx).1,hG x hx⟩) hm3) ?_
 ·have hT:=Lin.gens_told (d:=n+1) (Lin.eqs_len (l:=Lin.consP n g) fun c hc=>(hrc c hc).1) (Lin.ineqs_len (l:=Lin.consP n g) fun c hc=>(hrc c hc).1)
  have h1:=hT.dd.count3 (Lin.ineqs_len (l:=Lin.consP n g) fun c hc=>(hrc c hc).1)
  have h2:=ech_len hT.form
  have h3:(Lin.ineqsOf n (Lin.consP n g)).length^n<1099000000000:=I4 (SM (tw _) zO) hn
  simp only [Uv] at h1
  unfold Lin.gensP
  split
  ·rw [SN,SG,SG]; omega
  ·simp
 rintro v5 H5 ⟨hm5,hk5⟩
 have k5:Kp H H5:=k4.trans (X9 zK hk5)
 have le_k5:=k5.le
 have w5:=k5.wf
 have d0:=hk5.get (hk4.get d3)
 have lt0:=w5 _ _ d0
 rcases hm5 with ⟨rfl,hm5⟩ | ⟨p,rfl,⟨vc,vg,rfl,hc,hg5⟩,h1,h2⟩
 ·refine zW (cr hl g0 g1 d0 @mF) ?_
  exact ⟨.inr (.inl ⟨rfl,hm5⟩),zK⟩
 ·have oc:=hc.one
  have og:=hg5.one
  refine zW (cr hl g0 g1 d0 @mF) ?_
  refine ⟨.inr (.inr ⟨_,rfl,⟨vc,vg,rfl,?_,?_⟩,h1,h2⟩),zK⟩
  ·have m3:NoTy (t_api_Con :: conE.tys) H5 H.next:=Yg d0 zU
   exact Yn (E:=conE) zS hc
  ·have m3:NoTy (ak :: genE.tys) H5 H.next:=Yg d0 zU
   exact Yn (E:=genE) zS hg5
end
section
variable {tab:Nat->Option aw} {base i k:Nat} {T0:Tm} {dst:Option Nat} {op:AOp} {us:List (Nat × Option Nat)} {adds:List Nat} {r:List (Nat × List Nat)} {ds:List jm} {Vs:List AV} {Cs:List Heap} {Es:List (Option Ent)} {Q:DS->Prop} {t:Nat} {w:Bool}
end
section
variable {tab:Nat->Option aw} {H:Heap} {s:AV}
theorem yw (C:Code tab) (hw:Wf H) {a b:AV} {l m:List (List Int × Bool)} (ha:SlV conE t_api_Con H a l) (hb:SlV conE t_api_Con H b m) (hl':l.length<1099511627776) (hz:∀ r∈l,r.1.length<1099511627776/\∀ z∈r.1,eU z) :
  Ans tab (.fn d9 [a,b]) H fun v H'=>v=.bool (decide (l=m))/\Kp H H':=by
 refine bz C.q41 zU fun T hl g0 g1=>?_
 by_cases he:l.length=m.length
 ·have lb:lenV b=some (.int .i64 (l.length:Int)):=by rw [hb.lenV,he]
  refine zW (cr hl g0 g1 ha.lenV lb) ?_
  refine bC H [5] (fun k vs H'=>∃ i:Nat,vs=[.int .i64 (i:Int)]/\i+k=l.length/\∀ q (h:q<l.length) (h':q<m.length),q<i->l[q]=m[q]) l.length (by simp only [Sr]; exact hl) rfl zK ⟨0,by refine zW (aC hl g0 g1) ?_; rfl,by omega,fun q _ _ h=>by omega⟩ ?_
  rintro k T1 H1 hl1 hs1 hk1 ⟨i,hv,hik,hP⟩
  have w1:=hk1.wf
  have le_hk1:=hk1.le
  simp only [SA,SD,SB,and_true] at hv
  have t0:ad T1 0=a:=(hs1.at_ 0 zU).trans (zV (aB hl g0))
  have t1:ad T1 1=b:=(hs1.at_ 1 zU).trans (zV (aV hl g0 g1 g1))
  by_cases hi:i<l.length
  ·have hii:(i:Int)<(l.length:Int):=by omega
   have hi':i<m.length:=by omega
   obtain ⟨cs,⟨w,rfl,hr⟩,-,h2,-⟩:=(ha.mono hk1.sub).at (Sv hi)
   obtain ⟨cs',⟨w',rfl,hr'⟩,-,h2',-⟩:=(hb.mono hk1.sub).at (Sv hi')
   have l0:aW H1 none (ap a (i*2))=some w:=h2 0 _ rfl
   have l1:aW H1 none (ap a (i*2+1))=some (.bool l[i].2):=h2 1 _ rfl
   have l0':aW H1 none (ap b (i*2))=some w':=h2' 0 _ rfl
   have l1':aW H1 none (ap b (i*2+1))=some (.bool m[i].2):=h2' 1 _ rfl
   have hix:co 2 a (.int .i64 (i:Int))=some (ap a (i*2)):=Yl ha .i64 i hi
   have hix':co 2 b (.int .i64 (i:Int))=some (ap b (i*2)):=Yl hb .i64 i hi'
   have f0:xv 0 (ap a (i*2))=some (ap a (i*2)):=ha.fa zO 0 (i*2)
   have f1:xv 1 (ap a (i*2))=some (ap a (i*2+1)):=ha.fa zO 1 (i*2)
   have f0':xv 0 (ap b (i*2))=some (ap b (i*2)):=hb.fa zO 0 (i*2)
   have f1':xv 1 (ap b (i*2))=some (ap b (i*2+1)):=hb.fa zO 1 (i*2)
   have e:IntKind.i64.wrap ((i:Int)+1)=((i+1:Nat):Int):=by rw [wrap_i64] <;> omega
   refine zW (gf hl1 hv t0 t1 ha.lenV hii hi) ?_
   by_cases hx:l[i].2=m[i].2
   ·skip
    refine aH ?_
    refine zX (QK hl1 hv t0 t1 hix hix' l0 l1 l0' l1' f0 f1 f0' f1' hx (beq_self_eq_true (α:=Bool))) ?_
    refine XW (yx C zF (hr.mono (zG H1)) (hr'.mono (zG H1)) (hz _ (Sx hi)).1 (hz _ (Sx hi)).2) fun H2 hk2=>?_
    obtain ⟨k12,_,_⟩:=zT H1 zK hk2
    have k2:Kp H H2:=X9 hk1 k12
    have le_k2:=k2.le
    have l0b:=bJ k12.sub l0
    have l1b:=bJ k12.sub l1
    have l0b':=bJ k12.sub l0'
    have l1b':=bJ k12.sub l1'
    cases hq:decide (l[i].1=m[i].1) with
    | true =>
     have hq:=of_decide_eq_true hq
     refine zX (QI hl1 hv t0 t1 hix hix' l0 l1 l0' l1' l0b l1b l0b' l1b' f0 f1 f0' f1' hx e (beq_self_eq_true (α:=Bool))) ?_
     refine ⟨zK,k-1,by omega,i+1,rfl,by omega,fun q h h' hqi=>?_⟩
     by_cases eq:q=i
     ·subst eq; exact Prod.ext hq hx
     ·exact hP q h h' zO
    | false =>
     have hq:=of_decide_eq_false hq
     refine zX (QI hl1 hv t0 t1 hix hix' l0 l1 l0' l1' l0b l1b l0b' l1b' f0 f1 f0' f1' hx e (beq_self_eq_true (α:=Bool))) ?_
     refine ⟨?_,zK⟩
     rw [decide_eq_false]
     intro e; subst e; exact hq rfl
   ·have hxb:(l[i].2 == m[i].2)=false:=by simpa using hx
    refine aH ?_
    refine zX (Fd hl1 hv t0 t1 hix hix' l0 l1 l0' l1' f0 f1 f0' f1' hx hxb (beq_self_eq_true (α:=Bool))) ?_
    refine ⟨?_,zK⟩
    rw [decide_eq_false]
    intro e; subst e; exact hx rfl
  ·have hii:¬ (i:Int)<(l.length:Int):=by omega
   refine zW (gf hl1 hv t0 t1 ha.lenV hii hi) ?_
   refine ⟨?_,zK⟩
   rw [decide_eq_true (iH he fun q h h'=>hP q h h' zO)]
 ·have he':¬ (l.length:Int)=(m.length:Int):=by omega
  refine zW (gf hl g0 g1 ha.lenV hb.lenV he' he) ?_
  refine ⟨?_,zK⟩
  rw [decide_eq_false]
  intro e; subst e; exact he rfl
theorem yv (C:Code tab) (hw:Wf H) {a b:AV} {l m:List (Nat × List Int)} (ha:SlV genE ak H a l) (hb:SlV genE ak H b m) (hl':l.length<1099511627776) (hz:∀ r∈l,r.2.length<1099511627776/\∀ z∈r.2,eU z) :
  Ans tab (.fn dZ [a,b]) H fun v H'=>v=.bool (decide (l=m))/\Kp H H':=by
 refine bz C.q42 zU fun T hl g0 g1=>?_
 by_cases he:l.length=m.length
 ·have lb:lenV b=some (.int .i64 (l.length:Int)):=by rw [hb.lenV,he]
  refine zW (cr hl g0 g1 ha.lenV lb) ?_
  refine bC H [5] (fun k vs H'=>∃ i:Nat,vs=[.int .i64 (i:Int)]/\i+k=l.length/\∀ q (h:q<l.length) (h':q<m.length),q<i->l[q]=m[q]) l.length (by simp only [Sr]; exact hl) rfl zK ⟨0,by refine zW (aC hl g0 g1) ?_; rfl,by omega,fun q _ _ h=>by omega⟩ ?_
  rintro k T1 H1 hl1 hs1 hk1 ⟨i,hv,hik,hP⟩
  have w1:=hk1.wf
  have le_hk1:=hk1.le
  simp only [SA,SD,SB,and_true] at hv
  have t0:ad T1 0=a:=(hs1.at_ 0 zU).trans (zV (aB hl g0))
  have t1:ad T1 1=b:=(hs1.at_ 1 zU).trans (zV (aV hl g0 g1 g1))
  by_cases hi:i<l.length
  ·have hii:(i:Int)<(l.length:Int):=by omega
   have hi':i<m.length:=by omega
   obtain ⟨cs,⟨w,rfl,hr⟩,-,h2,-⟩:=(ha.mono hk1.sub).at (Sv hi)
   obtain ⟨cs',⟨w',rfl,hr'⟩,-,h2',-⟩:=(hb.mono hk1.sub).at (Sv hi')
   have l0:aW H1 none (ap a (i*2))=some (.int .u8 (l[i].1:Int)):=h2 0 _ rfl
   have l1:aW H1 none (ap a (i*2+1))=some w:=h2 1 _ rfl
   have l0':aW H1 none (ap b (i*2))=some (.int .u8 (m[i].1:Int)):=h2' 0 _ rfl
   have l1':aW H1 none (ap b (i*2+1))=some w':=h2' 1 _ rfl
   have hix:co 2 a (.int .i64 (i:Int))=some (ap a (i*2)):=Yl ha .i64 i hi
   have hix':co 2 b (.int .i64 (i:Int))=some (ap b (i*2)):=Yl hb .i64 i hi'
   have f0:xv 0 (ap a (i*2))=some (ap a (i*2)):=ha.fa zO 0 (i*2)
   have f1:xv 1 (ap a (i*2))=some (ap a (i*2+1)):=ha.fa zO 1 (i*2)
   have f0':xv 0 (ap b (i*2))=some (ap b (i*2)):=hb.fa zO 0 (i*2)
   have f1':xv 1 (ap b (i*2))=some (ap b (i*2+1)):=hb.fa zO 1 (i*2)
   have e:IntKind.i64.wrap ((i:Int)+1)=((i+1:Nat):Int):=by rw [wrap_i64] <;> omega
   refine zW (gf hl1 hv t0 t1 ha.lenV hii hi) ?_
   by_cases hx:l[i].1=m[i].1
   ·have hx2:(l[i].1:Int)=(m[i].1:Int):=by omega
    refine aH ?_
    refine zX (Fd hl1 hv t0 t1 hix hix' l0 l1 l0' l1' f0 f1 f0' f1' hx hx2 (beq_self_eq_true (α:=Bool))) ?_
    refine XW (yx C zF (hr.mono (zG H1)) (hr'.mono (zG H1)) (hz _ (Sx hi)).1 (hz _ (Sx hi)).2) fun H2 hk2=>?_
    obtain ⟨k12,_,_⟩:=zT H1 zK hk2
    have k2:Kp H H2:=X9 hk1 k12
    have le_k2:=k2.le
    have l0b:=bJ k12.sub l0
    have l1b:=bJ k12.sub l1
    have l0b':=bJ k12.sub l0'
    have l1b':=bJ k12.sub l1'
    cases hq:decide (l[i].2=m[i].2) with
    | true =>
     have hq:=of_decide_eq_true hq
     refine zX (Pg hl1 hv t0 t1 hix hix' l0 l1 l0' l1' l0b l1b l0b' l1b' f0 f1 f0' f1' hx hx2 e (beq_self_eq_true (α:=Bool))) ?_
     refine ⟨zK,k-1,by omega,i+1,rfl,by omega,fun q h h' hqi=>?_⟩
     by_cases eq:q=i
     ·subst eq; exact Prod.ext hx hq
     ·exact hP q h h' zO
    | false =>
     have hq:=of_decide_eq_false hq
     refine zX (Pg hl1 hv t0 t1 hix hix' l0 l1 l0' l1' l0b l1b l0b' l1b' f0 f1 f0' f1' hx hx2 e (beq_self_eq_true (α:=Bool))) ?_
     refine ⟨?_,zK⟩
     rw [decide_eq_false]
     intro e; subst e; exact hq rfl
   ·have hx2:¬ (l[i].1:Int)=(m[i].1:Int):=by omega
    have hxb:=hx2
    refine aH ?_
    refine zX (BC hl1 hv t0 t1 hix hix' l0 l1 l0' l1' f0 f1 f0' f1' hx hx2 hxb (beq_self_eq_true (α:=Bool))) ?_
    refine ⟨?_,zK⟩
    rw [decide_eq_false]
    intro e; subst e; exact hx rfl
  ·have hii:¬ (i:Int)<(l.length:Int):=by omega
   refine zW (gf hl1 hv t0 t1 ha.lenV hii hi) ?_
   refine ⟨?_,zK⟩
   rw [decide_eq_true (iH he fun q h h'=>hP q h h' zO)]
 ·have he':¬ (l.length:Int)=(m.length:Int):=by omega
  refine zW (gf hl g0 g1 ha.lenV hb.lenV he' he) ?_
  refine ⟨?_,zK⟩
  rw [decide_eq_false]
  intro e; subst e; exact he rfl
def fe (n:Nat) (l:List ur):Bool:=decide (n<l.length) || l.any fun c=>iX 5 1 c.1
theorem ko (C:Code tab) (hw:Wf H) {a:AV} {ls:List ur} {n:Nat} (ha:SlV conQE t_api_Con H a ls) (hn:n<4611686018427387904) :
  Ans tab (.fn dG [a,.int .i64 (n:Int)]) H fun v H'=>v=.bool (fe n ls)/\Kp H H':=by
 refine bz C.q13 zU fun T hl g0 g1=>?_
 by_cases he:n<ls.length
 ·have he':(n:Int)<(ls.length:Int):=by omega
  refine zW (eW hl g0 g1 ha.lenV he' he) ?_
  exact ⟨by unfold fe; rw [decide_eq_true he]; rfl,zK⟩
 ·have he':¬ (n:Int)<(ls.length:Int):=by omega
  refine zW (eW hl g0 g1 ha.lenV he' he) ?_
  refine bC H [5] (fun k vs H'=>∃ i:Nat,vs=[.int .i64 (i:Int)]/\i+k=ls.length/\∀ q (h:q<ls.length),q<i->iX 5 1 (ls[q]).1=false) ls.length (by simp only [Sr]; exact hl) rfl zK ⟨0,by refine zW (aC hl g0 g1) ?_; rfl,by omega,fun q _ h=>by omega⟩ ?_
  rintro k T1 H1 hl1 hs1 hk1 ⟨i,hv,hik,hP⟩
  have w1:=hk1.wf
  have le_hk1:=hk1.le
  simp only [SA,SD,SB,and_true] at hv
  have t0:ad T1 0=a:=(hs1.at_ 0 zU).trans (zV (aB hl g0))
  by_cases hi:i<ls.length
  ·have hii:(i:Int)<(ls.length:Int):=by omega
   obtain ⟨cs,⟨w,rfl,hr⟩,-,h2,-⟩:=(ha.mono hk1.sub).at (Sv hi)
   have hld:aW H1 none (ap a (i*2))=some w:=h2 0 _ rfl
   have hix:co 2 a (.int .i64 (i:Int))=some (ap a (i*2)):=Yl ha .i64 i hi
   have hfa:xv 0 (ap a (i*2))=some (ap a (i*2)):=ha.fa zO 0 (i*2)
   have e:IntKind.i64.wrap ((i:Int)+1)=((i+1:Nat):Int):=by rw [wrap_i64] <;> omega
   refine zW (kj hl1 hv t0 ha.lenV hii hi hix hfa hld) ?_
   refine XW (vY C (many:=5) (lim:=1) zF (hr.mono (zG H1)) zO) fun H2 hk2=>?_
   obtain ⟨k12,_,_⟩:=zT H1 zK hk2
   have k2:Kp H H2:=X9 hk1 k12
   have le_k2:=k2.le
   cases hq:iX 5 1 (ls[i]).1 with
   | true =>
    refine zW hl1 ?_
    refine ⟨?_,zK⟩
    unfold fe
    rw [Tj.2 ⟨_,Sx hi,hq⟩,Xf]
   | false =>
    refine zW (aC hl1 hv e) ?_
    refine ⟨zK,k-1,by omega,i+1,rfl,by omega,fun q h hqi=>?_⟩
    by_cases eq:q=i
    ·subst eq; exact hq
    ·exact hP q h zO
  ·have hii:¬ (i:Int)<(ls.length:Int):=by omega
   refine zW (eW hl1 hv t0 ha.lenV hii hi) ?_
   refine ⟨?_,zK⟩
   have e:(ls.any fun c=>iX 5 1 c.1)=false:=by
    rw [TY]
    intro z hz
    obtain ⟨q,hq,rfl⟩:=TG hz
    rw [hP q hq zO]; simp
   unfold fe
   rw [decide_eq_false he,Wk,e]
def lS (n:Nat) (l:List E6):Bool:=decide (n<l.length) || l.any fun c=>iX 5 1 c.2
theorem xq (C:Code tab) (hw:Wf H) {a:AV} {ls:List E6} {n:Nat} (ha:SlV genQE ak H a ls) (hn:n<4611686018427387904) :
  Ans tab (.fn dF [a,.int .i64 (n:Int)]) H fun v H'=>v=.bool (lS n ls)/\Kp H H':=by
 refine bz C.q84 zU fun T hl g0 g1=>?_
 by_cases he:n<ls.length
 ·have he':(n:Int)<(ls.length:Int):=by omega
  refine zW (eW hl g0 g1 ha.lenV he' he) ?_
  exact ⟨by unfold lS; rw [decide_eq_true he]; rfl,zK⟩
 ·have he':¬ (n:Int)<(ls.length:Int):=by omega
  refine zW (eW hl g0 g1 ha.lenV he' he) ?_
  refine bC H [5] (fun k vs H'=>∃ i:Nat,vs=[.int .i64 (i:Int)]/\i+k=ls.length/\∀ q (h:q<ls.length),q<i->iX 5 1 (ls[q]).2=false) ls.length (by simp only [Sr]; exact hl) rfl zK ⟨0,by refine zW (aC hl g0 g1) ?_; rfl,by omega,fun q _ h=>by omega⟩ ?_
  rintro k T1 H1 hl1 hs1 hk1 ⟨i,hv,hik,hP⟩
  have w1:=hk1.wf
  have le_hk1:=hk1.le
  simp only [SA,SD,SB,and_true] at hv
  have t0:ad T1 0=a:=(hs1.at_ 0 zU).trans (zV (aB hl g0))
  by_cases hi:i<ls.length
  ·have hii:(i:Int)<(ls.length:Int):=by omega
   obtain ⟨cs,⟨w,rfl,hr⟩,-,h2,-⟩:=(ha.mono hk1.sub).at (Sv hi)
   have hld:aW H1 none (ap a (i*2+1))=some w:=h2 1 _ rfl
   have hix:co 2 a (.int .i64 (i:Int))=some (ap a (i*2)):=Yl ha .i64 i hi
   have hfa:xv 1 (ap a (i*2))=some (ap a (i*2+1)):=ha.fa zO 1 (i*2)
   have e:IntKind.i64.wrap ((i:Int)+1)=((i+1:Nat):Int):=by rw [wrap_i64] <;> omega
   refine zW (kj hl1 hv t0 ha.lenV hii hi hix hfa hld) ?_
   refine XW (vY C (many:=5) (lim:=1) zF (hr.mono (zG H1)) zO) fun H2 hk2=>?_
   obtain ⟨k12,_,_⟩:=zT H1 zK hk2
   have k2:Kp H H2:=X9 hk1 k12
   have le_k2:=k2.le
   cases hq:iX 5 1 (ls[i]).2 with
   | true =>
    refine zW hl1 ?_
    refine ⟨?_,zK⟩
    unfold lS
    rw [Tj.2 ⟨_,Sx hi,hq⟩,Xf]
   | false =>
    refine zW (aC hl1 hv e) ?_
    refine ⟨zK,k-1,by omega,i+1,rfl,by omega,fun q h hqi=>?_⟩
    by_cases eq:q=i
    ·subst eq; exact hq
    ·exact hP q h zO
  ·have hii:¬ (i:Int)<(ls.length:Int):=by omega
   refine zW (eW hl1 hv t0 ha.lenV hii hi) ?_
   refine ⟨?_,zK⟩
   have e:(ls.any fun c=>iX 5 1 c.2)=false:=by
    rw [TY]
    intro z hz
    obtain ⟨q,hq,rfl⟩:=TG hz
    rw [hP q hq zO]; simp
   unfold lS
   rw [decide_eq_false he,Wk,e]
end
theorem yP {H:Heap} {b:Nat} {x y:Int} {r:Bool} (h:H.get b=some (.cells [.int .i64 x,.int .i64 y] fW r)):xJ (F9 .i64) fW H (.own b 0 2 2 1 true) [x,y] :=
 ⟨[_,_],Yi h rfl (Sz _),fun _ _ _ _ _ _ e=>by cases e; exact ⟨_,_,h⟩,rfl,fun i a hi=>by
  match i with
  | 0=>simp at hi; subst hi; exact ⟨_,rfl,rfl⟩
  | 1=>simp at hi; subst hi; exact ⟨_,rfl,rfl⟩
  | i+2=>simp at hi⟩
def Emp (H:Heap) (a e:Nat):Prop:=e<=H.next/\∀ c,a<=c->c<e->H.get c=none
theorem Emp.start {H:Heap} (hw:Wf H) {k:Nat}:Emp (H.up k) H.next (H.next+k):=⟨Sz _,fun c h _=>hw.fresh h⟩
theorem Emp.next {G H2:Heap} {a e p a':Nat} {x:Ent} (hf:Emp G a e) (hk:Kp (G.put p x) H2) (hp:p<a') (ha:a<=a'):Emp H2 a' e :=
 ⟨SM hf.1 hk.le,fun c h1 h2=>hk.free (by rw [next_put]; exact SP h2 hf.1) (by rw [az zO]; exact hf.2 c zO h2)⟩
theorem Emp.keep {G H2:Heap} {a e:Nat} (hf:Emp G a e) (hk:Kp G H2):Emp H2 a e :=
 ⟨SM hf.1 hk.le,fun c h1 h2=>hk.free (SP h2 hf.1) (hf.2 c h1 h2)⟩
theorem Emp.sub {G:Heap} {a e p:Nat} {x:Ent} (hf:Emp G a e) (h1:a<=p) (h2:p<e):Sub G (G.put p x):=aP (hf.2 p h1 h2)
section
variable {tab:Nat->Option aw} {H:Heap} {s:AV}
end
end Go.Proofs.YthjdfjlhjnihfaaGreat.Ev
namespace Go.Proofs.YthjdfjlhjnihfaaGreat.Lin
set_option linter.all false
theorem Gn:gensL 2 [] [[1,1]]=[[-1,1]]/\gensR 2 [] [[1,1]]=[[1,0]]:=by
 have r:(gensU 2 [] [[1,1]]).rays.map (restF (gensL 2 [] [[1,1]]))=[[1,0]]:=by decide +kernel
 refine ⟨by decide +kernel,?_⟩
 unfold gensR; rw [r]; simp
end Go.Proofs.YthjdfjlhjnihfaaGreat.Lin
namespace Go.Proofs.YthjdfjlhjnihfaaGreat.Ev
open Go Nn
set_option linter.all false
theorem Emp.put {G:Heap} {a e p a':Nat} {x:Ent} (hf:Emp G a e) (hp:p<a') (ha:a<=a'):Emp (G.put p x) a' e :=
 ⟨hf.1,fun c h1 h2=>by rw [az zO]; exact hf.2 c zO h2⟩
section
variable {tab:Nat->Option aw} {H:Heap} {s:AV}
end
end Go.Proofs.YthjdfjlhjnihfaaGreat.Ev
namespace Go.Proofs.YthjdfjlhjnihfaaGreat.Lin
set_option linter.all false
end Go.Proofs.YthjdfjlhjnihfaaGreat.Lin
namespace Go.Proofs.YthjdfjlhjnihfaaGreat.Ev
open Go Nn
set_option linter.all false
theorem Rs {a b c:AV} (ha:One a) (hb:One b) (hc:One c):fZ (.agg [a,b,c])=some [a,b,c]:=by
 simp [fZ,AV.cells,ha.2,hb.2,hc.2]
theorem kg {b c:AV} (hb:One b) (hc:One c) (k:IntKind) (n:Int):fZ (.agg [.int k n,b,c])=some [.int k n,b,c]:=Rs (bf _ _) hb hc
section
variable {tab:Nat->Option aw} {H:Heap} {s:AV}
def lP (c:List (List Int × Bool)) (g:List (Nat × List Int)):Bool:=fe 9 (c.map fun c=>(c.1.map eR,c.2)) || lS 9 (g.map fun c=>(c.1,c.2.map eR))
theorem Dq (C:Code tab) (hw:Wf H) {v:AV} {n:Nat} {c:List (List Int × Bool)} {g:List (Nat × List Int)} (hp:PolyV H v n c g) :
  Ans tab (.fn ft [v]) H fun x H'=>x=.bool (lP c g)/\Kp H H':=by
 obtain ⟨vc,vg,rfl,hc,hg⟩:=hp
 have oc:=hc.one
 have og:=hg.one
 refine cQ C.q59 zU fun T hl g0=>?_
 refine zW (aC hl g0 (kg oc og)) ?_
 refine XW (ko C (n:=9) zF ((Eu hc).mono (zG H)) zO) fun H2 hk2=>?_
 obtain ⟨k2,_,w2⟩:=zT H zK hk2
 have d0:=hk2.get (b:=H.next) (e:=.cells [.int .i64 (n:Int),vc,vg] ah true) (cR)
 cases hq:fe 9 (c.map fun c=>(c.1.map eR,c.2)) with
 | true =>
  refine zW (aB hl g0) ?_
  exact ⟨by unfold lP; rw [hq,Bool.true_or],zK⟩
 | false =>
  refine zW (aC hl g0 d0) ?_
  refine XW (xq C (n:=9) zF ((Ea (hg.mono k2.sub)).mono (zG H2)) zO) fun H3 hk3=>?_
  have k3:Kp H H3:=k2.trans (X9 zK hk3)
  have le_k3:=k3.le
  refine zW (aB hl g0) ?_
  exact ⟨by unfold lP; rw [hq,Wk],zK⟩
theorem FE (C:Code tab) (hw:Wf H) {v v':AV} {n n':Nat} {c c':List (List Int × Bool)} {g g':List (Nat × List Int)} (hp:PolyV H v n c g) (hp':PolyV H v' n' c' g') (hc1:c.length<1099511627776) (hc2:∀ r∈c,r.1.length<1099511627776/\∀ z∈r.1,eU z) (hg1:g.length<1099511627776) (hg2:∀ r∈g,r.2.length<1099511627776/\∀ z∈r.2,eU z) :
  Ans tab (.fn fP [v,v']) H fun x H'=>x=.bool (decide (n=n'/\c=c'/\g=g'))/\Kp H H':=by
 obtain ⟨vc,vg,rfl,hc,hg⟩:=hp
 obtain ⟨vc',vg',rfl,hc',hg'⟩:=hp'
 have oc:=hc.one
 have og:=hg.one
 have oc':=hc'.one
 have og':=hg'.one
 refine bz C.q23 zU fun T hl g0 g1=>?_
 by_cases hn:n=n'
 ·subst hn
  refine zW (cr hl g0 g1 (kg oc og) (kg oc' og')) ?_
  refine XW (yw C zF (hc.mono (zG H)) (hc'.mono (zG H)) hc1 hc2) fun H2 hk2=>?_
  obtain ⟨k2,_,w2⟩:=zT H zK hk2
  have d0:=hk2.get (b:=H.next) (e:=.cells [.int .i64 (n:Int),vc,vg] ah true) (cR)
  have d1:=hk2.get (b:=H.next+1) (e:=.cells [.int .i64 (n:Int),vc',vg'] ah true) (cR)
  by_cases hcc:c=c'
  ·rw [decide_eq_true hcc]
   refine zW (cr hl g0 g1 d0 d1) ?_
   refine XW (yv C zF ((hg.mono k2.sub).mono (zG H2)) ((hg'.mono k2.sub).mono (zG H2)) hg1 hg2) fun H3 hk3=>?_
   have k3:Kp H H3:=k2.trans (X9 zK hk3)
   have le_k3:=k3.le
   refine zW (aC hl g0 g1) ?_
   exact ⟨by simp [hcc],zK⟩
  ·rw [decide_eq_false hcc]
   refine zW (aC hl g0 g1) ?_
   exact ⟨by simp [hcc],zK⟩
 ·have hn':¬ (n:Int)=(n':Int):=by omega
  refine zW (eW hl g0 g1 (kg oc og) (kg oc' og') hn') ?_
  exact ⟨by simp [hn],zK⟩
end
section
variable {tab:Nat->Option aw} {H:Heap} {s:AV}
theorem Q5 {H:Heap} {b:Nat} {v:AV} {x:List Int} {p r:Bool} (h:H.get b=some (.cells [v,.bool p] t_api_Con r)) (hv:RowV H v x):SlV conE t_api_Con H (.own b 0 1 1 2 true) [(x,p)] :=
 ⟨[_,_],Yi h rfl (Sz _),fun _ _ _ _ _ _ e=>by cases e; exact ⟨_,_,h⟩,X2 (E:=conE) ⟨v,rfl,hv⟩⟩
theorem Q4 {H:Heap} {b:Nat} {v w:AV} {x y:List Int} {p q r:Bool} (h:H.get b=some (.cells [v,.bool p,w,.bool q] t_api_Con r)) (hv:RowV H v x) (hw:RowV H w y):SlV conE t_api_Con H (.own b 0 2 2 2 true) [(x,p),(y,q)] :=
 ⟨[_,_,_,_],Yi h rfl (Sz _),fun _ _ _ _ _ _ e=>by cases e; exact ⟨_,_,h⟩,(X2 (E:=conE) ⟨v,rfl,hv⟩).append (X2 (E:=conE) ⟨w,rfl,hw⟩)⟩
theorem tx {many lim:Nat} {r:List (Bool × List Nat)} (h:iX many lim r=false):r.length<=many/\∀ z∈r,z.2.length<=lim:=by
 unfold iX at h
 rw [U3,decide_eq_false_iff_not,TY] at h
 refine ⟨by omega,fun z hz=>?_⟩
 have:=h.2 z hz
 simp only [decide_eq_true_eq] at this
 omega
theorem iY {n:Nat} {l:List ur} (h:fe n l=false):l.length<=n/\∀ c∈l,c.1.length<=5/\∀ z∈c.1,z.2.length<=1:=by
 unfold fe at h
 rw [U3,decide_eq_false_iff_not,TY] at h
 exact ⟨by omega,fun c hc=>tx (by simpa using h.2 c hc)⟩
theorem yZ {n:Nat} {l:List E6} (h:lS n l=false):l.length<=n/\∀ c∈l,c.2.length<=5/\∀ z∈c.2,z.2.length<=1:=by
 unfold lS at h
 rw [U3,decide_eq_false_iff_not,TY] at h
 exact ⟨by omega,fun c hc=>tx (by simpa using h.2 c hc)⟩
theorem Gg {n:Nat} {l:List ur} (h:fe n l=false):∀ c∈l,vJ c.1:=fun c hc=>by
 obtain ⟨h1,h2⟩:=(iY h).2 c hc
 exact ⟨by omega,fun z hz=>by have:=h2 z hz; omega⟩
abbrev O6 (c:ur):List Int × Bool:=(c.1.map fE,c.2)
theorem PZ {r:List (Bool × List Nat)} (hl:∀ z∈r,Lim z.2/\z.2.length<=1):Lin.Bd (2^64) (r.map fE):=fun i=>by
 unfold Lin.at_
 rw [Ss]
 cases hi:(r.map fE)[i]? with
 | none=>simp
 | some z =>
  obtain ⟨x,hx,rfl⟩:=Sy.1 (SL hi)
  have:=KV (n:=1) (hl x hx).1 (hl x hx).2
  unfold Bt at this
  simp only [TW] at this
  simp only [Uc]
  omega
theorem N5 {r:List (Bool × List Nat)} (h:Aj r=true):∀ z∈r,qq z=false:=by
 simp only [Aj,S7,TB,TY,Wi] at h
 exact h.2
theorem JV {d:Int} {n:Nat} {l:List ur} (hs:SlV conQE t_api_Con H s l) (gl:∀ r∈l,jU r.1) (hg:fe n l=false) (h4:¬ 4<d) (hn:n<=60) :
  dK d l≠0\/∃ k:Nat,d=(k:Int)/\k<=4/\SlV conE t_api_Con H s (l.map O6)/\l.length<=n/\∀ c∈l.map O6,c.1.length=k+1/\Lin.Bd (2^64) c.1:=by
 by_cases hc:dK d l=0
 ·refine .inr ?_
  obtain ⟨h1,h2⟩:=iY hg
  unfold dK at hc
  split at hc
  ·omega
  split at hc
  ·omega
  split at hc
  ·omega
  split at hc
  ·omega
  rename_i q1 q2 q3 q4
  have q3:∀ c∈l,Aj c.1=true:=fun c hc=>by
   cases hok:Aj c.1 with
   | true=>rfl
   | false=>exact absurd (Tj.2 ⟨c,hc,by rw [hok]; rfl⟩) q3
  have q4:∀ c∈l,(c.1.length:Int)=d+1:=fun c hc=>by
   apply Um
   intro hn
   exact q4 (Tj.2 ⟨c,hc,by simpa using hn⟩)
  refine ⟨d.toNat,by omega,by omega,My hs fun r hr z hz=>⟨N5 (q3 r hr) z hz,((gl r hr).1 z hz).1⟩,h1,fun c hc=>?_⟩
  obtain ⟨x,hx,rfl⟩:=Sy.1 hc
  refine ⟨?_,PZ fun z hz=>⟨((gl x hx).1 z hz).1,(h2 x hx).2 z hz⟩⟩
  have:=q4 x hx
  show (x.1.map fE).length=_
  rw [SG]
  omega
 ·exact .inl hc
end
end Go.Proofs.YthjdfjlhjnihfaaGreat.Ev
namespace Go.Proofs.YthjdfjlhjnihfaaGreat.Lin
set_option linter.all false
section
variable {n:Nat} {l:List (V × Bool)}
end
section
variable {n:Nat} {l m:List (V × Bool)}
theorem qX (hne:gensP n l≠[]):(gensR (n+1) (eqsOf l) (ineqsOf n l)).any (fun r=>decide (0<hd1 r))=true:=by
 cases hs:(gensR (n+1) (eqsOf l) (ineqsOf n l)).any (fun r=>decide (0<hd1 r)) with
 | true=>rfl
 | false=>exact absurd (by unfold gensP; rw [if_neg (by rw [hs]; decide)]) hne
theorem u3 (h:∀ c∈l,c.1.length=n+1):gensP n l≠[] ↔ ∃ x,im n l x/\0<hd1 x:=by
 constructor
 ·intro hne
  have:=qX hne
  rw [Tj] at this
  obtain ⟨r,hr,h0⟩:=this
  exact ⟨r,NU h hr,of_decide_eq_true h0⟩
 ·rintro ⟨x,hx,h0⟩ he
  have hs:¬ (gensR (n+1) (eqsOf l) (ineqsOf n l)).any (fun r=>decide (0<hd1 r))=true:=fun hs=>by
   have:=(y5 hs).2.2
   rw [he] at this
   cases this
  have t:=gens_told (eqs_len h) (ineqs_len h)
  have h1:∀ r∈gensR (n+1) (eqsOf l) (ineqsOf n l),dot (unitC n 1) r=0:=fun r hr=>by
   rw [jP]
   have h2:=(keepP_iff.1 (NU h hr)).2.1
   have h3:¬ 0<hd1 r:=fun h3=>hs (Tj.2 ⟨r,hr,by simpa using h3⟩)
   omega
  have h2:∀ r∈gensL (n+1) (eqsOf l) (ineqsOf n l),dot (unitC n 1) r=0:=fun r hr=>t.dd.lineI r hr _ (mem_ineqs.2 (.inl rfl))
  have:=(t.dd.all x hx).dot_zero t.dd.lenL t.dd.lenR h2 h1
  rw [jP] at this
  omega
theorem wt {c:V × Bool} {g:Nat × V}:keepsP c g=true ↔ (if c.2=true\/g.1=1 then dot c.1 g.2=0 else 0<=dot c.1 g.2):=by
 unfold keepsP
 by_cases h:c.2=true\/g.1=1
 ·rw [if_pos h,if_pos (by simpa using h)]; simp
 ·rw [if_neg h,if_neg (by simpa using h)]; simp
theorem xT (h:∀ c∈l,c.1.length=n+1) (hne:gensP n l≠[]) {c:V × Bool}:(∀ g∈gensP n l,keepsP c g=true) ↔ E4 n l c:=by
 constructor
 ·intro hk x hx
  have t:=gens_told (eqs_len h) (ineqs_len h)
  have hs:=qX hne
  have e:gensP n l=(gensL (n+1) (eqsOf l) (ineqsOf n l)).map (fun r=>(1,r))++(gensR (n+1) (eqsOf l) (ineqsOf n l)).map (fun r=>(kindOf r,r)):=by
   unfold gensP; rw [if_pos hs]
  have hL:∀ r∈gensL (n+1) (eqsOf l) (ineqsOf n l),dot c.1 r=0:=fun r hr=>by
   have:=hk (1,r) (by rw [e]; exact TX _ (Sy.2 ⟨r,hr,rfl⟩))
   rw [wt,if_pos (.inr rfl)] at this
   exact this
  have hR:∀ r∈gensR (n+1) (eqsOf l) (ineqsOf n l),(c.2=true->dot c.1 r=0)/\0<=dot c.1 r:=fun r hr=>by
   have:=hk (kindOf r,r) (by rw [e]; exact Uh _ (Sy.2 ⟨r,hr,rfl⟩))
   rw [wt] at this
   split at this
   ·exact ⟨fun _=>this,by simp only at this; omega⟩
   ·rename_i hc
    exact ⟨fun e=>absurd (.inl e) hc,this⟩
  exact ⟨fun hb=>(t.dd.all x hx).dot_zero t.dd.lenL t.dd.lenR hL fun r hr=>(hR r hr).1 hb,(t.dd.all x hx).dot_nonneg t.dd.lenL t.dd.lenR hL fun r hr=>(hR r hr).2⟩
 ·intro hv g hg
  obtain ⟨k1,k2⟩:=oE h hg
  exact ts hv k1 k2
def inP (G:List (Nat × V)) (K:List (V × Bool)):Bool:=G.all fun g=>K.all fun c=>keepsP c g
theorem inP_iff {G:List (Nat × V)} {K:List (V × Bool)}:inP G K=true ↔ ∀ g∈G,∀ c∈K,keepsP c g=true:=by
 unfold inP
 rw [SV]
 exact ⟨fun h g hg=>SV.1 (h g hg),fun h g hg=>SV.2 (h g hg)⟩
theorem Ct {x:V} (hx:im n l x) (hv:∀ c∈m,E4 n l c):im n m x:=by
 have:=keepP_iff.1 hx
 exact keepP_iff.2 ⟨this.1,this.2.1,fun c hc=>⟨(hv c hc x hx).1,fun _=>(hv c hc x hx).2⟩⟩
theorem in_iff (hl:∀ c∈l,c.1.length=n+1) (hm:∀ c∈m,c.1.length=n+1):inP (gensP n l) (consP n (gensP n m))=true ↔ (gensP n l=[]\/∀ x,im n l x->im n m x):=by
 rw [inP_iff]
 by_cases he:gensP n l=[]
 ·rw [he]; simp
 constructor
 ·intro h
  right
  have hv:∀ c∈consP n (gensP n m),E4 n l c:=fun c hc=>(xT hl he).1 fun g hg=>h g hg c hc
  obtain ⟨x0,hx0,p0⟩:=(u3 hl).1 he
  have hm0:gensP n m≠[]:=fun e=>by
   rw [e] at hv
   have:=(hv (unitC n (-1),false) (TD.2 rfl) x0 hx0).2
   rw [jP] at this
   omega
  intro x hx
  exact (sZ hm (qX hm0) x).1 (Ct hx hv)
 ·rintro (h | h)
  ·exact absurd h he
  obtain ⟨x0,hx0,p0⟩:=(u3 hl).1 he
  have hm0:gensP n m≠[]:=(u3 hm).2 ⟨x0,h x0 hx0,p0⟩
  intro g hg c hc
  exact (xT hl he).2 (fun x hx=>ux hc x ((sZ hm (qX hm0) x).2 (h x hx))) g hg
structure Own (n:Nat) (K:List (V × Bool)) (G:List (Nat × V)):Prop where
 rows:∀ c∈K,c.1.length=n+1
 gens:gensP n K=G
 cons:consP n G=K
theorem own_of (h:∀ c∈l,c.1.length=n+1):Own n (consP n (gensP n l)) (gensP n l):=⟨Ew (vj h),I7 h,rfl⟩
theorem Own.valid {K:List (V × Bool)} {G:List (Nat × V)} (h:Own n K G):ValidG n G:=by rw [<- h.gens]; exact Ed h.rows
theorem Own.in_iff {K K':List (V × Bool)} {G G':List (Nat × V)} (h:Own n K G) (h':Own n K' G'):inP G K'=true ↔ (G=[]\/∀ x,im n K x->im n K' x):=by
 have:=Lin.in_iff (n:=n) h.rows h'.rows
 rw [h.gens,h'.gens,h'.cons] at this
 exact this
section
variable {K K' Kr:List (V × Bool)} {G G' Gr:List (Nat × V)}
end
section
variable {g g':List (Nat × V)}
end
section
variable {K K' Kr:List (V × Bool)} {G G' Gr:List (Nat × V)}
theorem validG_app (h:ValidG n G) (h':ValidG n G'):ValidG n (G++G'):=fun x hx=>(SQ.1 hx).elim (h x) (h' x)
end
end
end Go.Proofs.YthjdfjlhjnihfaaGreat.Lin
namespace Go.Proofs.YthjdfjlhjnihfaaGreat.Ev
open Go Nn
set_option linter.all false
section
variable {tab:Nat->Option aw} {H:Heap} {s:AV}
theorem Ab {v:AV} (ov:One v) (b:Bool):fZ (.agg [v,.bool b])=some [v,.bool b]:=by simp [fZ,AV.cells,ov.2]; rfl
theorem EP {v:AV} (ov:One v) (k:Int):fZ (.agg [.int .u8 k,v])=some [.int .u8 k,v]:=by simp [fZ,AV.cells,ov.2]; rfl
theorem CE (C:Code tab) (hw:Wf H) {cs cs':List AV} {x y:List Int × Bool} (hx:conE.R H cs x) (hy:conE.R H cs' y) (hl':x.1.length<1099511627776) (hz:∀ z∈x.1,eU z) :
  Ans tab (.fn gy [.agg cs,.agg cs']) H fun v H'=>v=.bool (decide (x=y))/\Kp H H':=by
 obtain ⟨v,rfl,hv⟩:=hx
 obtain ⟨w,rfl,hw'⟩:=hy
 have ov:=hv.one
 have ow:=hw'.one
 obtain ⟨a,p⟩:=x
 obtain ⟨b,q⟩:=y
 have hv:RowV H v a:=hv
 have hw':RowV H w b:=hw'
 refine bz C.q60 zU fun T hl g0 g1=>?_
 by_cases hb:p=q
 ·subst hb
  refine zW (eW hl g0 g1 (Ab ov) (Ab ow) (beq_self_eq_true (α:=Bool))) ?_
  refine XW (xS C zF (hv.mono (zG H)) (hw'.mono (zG H)) hl' hz) fun H2 hk2=>?_
  obtain ⟨k2,_,_⟩:=zT H zK hk2
  refine zW (aC hl g0 g1) ?_
  exact ⟨by simp,zK⟩
 ·have hxb:(p == q)=false:=by simpa using hb
  refine zW (eW hl g0 g1 (Ab ov) (Ab ow) hxb) ?_
  exact ⟨by simp [hb],zK⟩
theorem CD (C:Code tab) (hw:Wf H) {cs cs':List AV} {x y:Nat × List Int} (hx:genE.R H cs x) (hy:genE.R H cs' y) (hl':x.2.length<1099511627776) (hz:∀ z∈x.2,eU z) :
  Ans tab (.fn gw [.agg cs,.agg cs']) H fun v H'=>v=.bool (decide (x=y))/\Kp H H':=by
 obtain ⟨v,rfl,hv⟩:=hx
 obtain ⟨w,rfl,hw'⟩:=hy
 have ov:=hv.one
 have ow:=hw'.one
 obtain ⟨p,a⟩:=x
 obtain ⟨q,b⟩:=y
 have hv:RowV H v a:=hv
 have hw':RowV H w b:=hw'
 refine bz C.q61 zU fun T hl g0 g1=>?_
 by_cases hb:p=q
 ·subst hb
  refine zW (cr hl g0 g1 (EP ov) (EP ow)) ?_
  refine XW (xS C zF (hv.mono (zG H)) (hw'.mono (zG H)) hl' hz) fun H2 hk2=>?_
  obtain ⟨k2,_,_⟩:=zT H zK hk2
  refine zW (aC hl g0 g1) ?_
  exact ⟨by simp,zK⟩
 ·have hxb:¬ (p:Int)=(q:Int):=by omega
  refine zW (eW hl g0 g1 (EP ov) (EP ow) hxb) ?_
  exact ⟨by simp [hb],zK⟩
theorem AC (C:Code tab) (hw:Wf H) {a b:AV} {l m:List (List Int × Bool)} (ha:SlV conE t_api_Con H a l) (hb:SlV conE t_api_Con H b m) (hbig:l.length<1099511627776) (hz:∀ r∈l,r.1.length<1099511627776/\∀ z∈r.1,eU z) :
  Ans tab (.fn aT [a,b,.fn (.func gy) [] []]) H fun v H'=>v=.bool (decide (l=m))/\Kp H H':=by
 refine lU C.q62 zU fun T hl g0 g1 g2=>?_
 by_cases he:l.length=m.length
 ·have lb:lenV b=some (.int .i64 (l.length:Int)):=by rw [hb.lenV,he]
  refine zW (eW hl g0 g1 g2 ha.lenV lb) ?_
  refine am H [] (fun j _ _=>∀ q (h:q<l.length) (h':q<m.length),q<j->l[q]=m[q]) (a:=0) (N:=l.length) rfl (by refine zW (aV hl g0 g1 g2) ?_; rfl) (zV (aV hl g0 g1 g2)) (SH _) zO (by simp only [Sr,hl]; rfl) rfl (fun _ _ _ _ h=>h) zK (fun q _ _ h=>by omega) ?_ ?_
  ·intro j T1 H1 _ hj hl1 hi1 hs1 hk1 hP
   have w1:=hk1.wf
   have le_hk1:=hk1.le
   have hj2:j<m.length:=by omega
   have t15:ad T1 15=a:=(hs1.at_ 15 zU).trans (zV (aB hl g0))
   have t1:ad T1 1=b:=(hs1.at_ 1 zU).trans (zV (cr hl g0 g1 g2 g1))
   have t2:ad T1 2=.fn (.func gy) [] []:=(hs1.at_ 2 zU).trans (zV (cr hl g0 g1 g2 g2))
   obtain ⟨_,⟨v,rfl,hr⟩,-,-,L⟩:=(ha.mono hk1.sub).at (Sv hj)
   obtain ⟨_,⟨w,rfl,hr'⟩,-,-,L'⟩:=(hb.mono hk1.sub).at (Sv hj2)
   have L:aW H1 (some 2) (ap a (j*2))=some (.agg [v,.bool l[j].2]):=L
   have L':aW H1 (some 2) (ap b (j*2))=some (.agg [w,.bool m[j].2]):=L'
   have hix:co 2 a (.int .i64 (j:Int))=some (ap a (j*2)):=Yl ha .i64 j hj
   have hiy:co 2 b (.int .i64 (j:Int))=some (ap b (j*2)):=Yl hb .i64 j hj2
   have ov:=hr.one
   have ow:=hr'.one
   have Lp0:=(Yd w1 L).put
   have Ll0:=(Yd w1 L).ld
   have Lp:=(Yd w1 L').put
   have Ll:=(Yd w1 L').ld
   simp only [Sr,hl] at hl1
   refine zW (rc hl1 t15 t1 t2 hi1 hix hiy Lp0 Ll0 Lp Ll) ?_
   refine XW (CE C (x:=l[j]) (y:=m[j]) zF ⟨v,rfl,hr.mono (zG H1)⟩ ⟨w,rfl,hr'.mono (zG H1)⟩ (hz _ (Sx hj)).1 (hz _ (Sx hj)).2) fun H2 hk2=>?_
   obtain ⟨k2,_,_⟩:=zT H zK hk2
   cases hq:decide (l[j]=m[j]) with
   | true =>
    have hq:=of_decide_eq_true hq
    refine zW hl1 ?_
    refine ⟨zK,fun q h h' hqi=>?_⟩
    by_cases e:q=j
    ·subst e; exact hq
    ·exact hP q h h' zO
   | false =>
    have hq:=of_decide_eq_false hq
    refine zW hl1 ?_
    refine ⟨?_,zK⟩
    rw [decide_eq_false]
    intro e; subst e; exact hq rfl
  ·intro T1 H1 hl1 hs1 hk1 hP
   simp only [Sr,hl] at hl1
   refine zW hl1 ?_
   exact ⟨by rw [decide_eq_true (iH he fun q h h'=>hP q h h' h)],zK⟩
 ·have he':¬ (l.length:Int)=(m.length:Int):=by omega
  refine zW (ki hl g0 g1 g2 ha.lenV hb.lenV he' he) ?_
  refine ⟨?_,zK⟩
  rw [decide_eq_false]
  intro e; subst e; exact he rfl
theorem AB (C:Code tab) (hw:Wf H) {a b:AV} {l m:List (Nat × List Int)} (ha:SlV genE ak H a l) (hb:SlV genE ak H b m) (hbig:l.length<1099511627776) (hz:∀ r∈l,r.2.length<1099511627776/\∀ z∈r.2,eU z) :
  Ans tab (.fn aS [a,b,.fn (.func gw) [] []]) H fun v H'=>v=.bool (decide (l=m))/\Kp H H':=by
 refine lU C.q63 zU fun T hl g0 g1 g2=>?_
 by_cases he:l.length=m.length
 ·have lb:lenV b=some (.int .i64 (l.length:Int)):=by rw [hb.lenV,he]
  refine zW (eW hl g0 g1 g2 ha.lenV lb) ?_
  refine am H [] (fun j _ _=>∀ q (h:q<l.length) (h':q<m.length),q<j->l[q]=m[q]) (a:=0) (N:=l.length) rfl (by refine zW (aV hl g0 g1 g2) ?_; rfl) (zV (aV hl g0 g1 g2)) (SH _) zO (by simp only [Sr,hl]; rfl) rfl (fun _ _ _ _ h=>h) zK (fun q _ _ h=>by omega) ?_ ?_
  ·intro j T1 H1 _ hj hl1 hi1 hs1 hk1 hP
   have w1:=hk1.wf
   have le_hk1:=hk1.le
   have hj2:j<m.length:=by omega
   have t15:ad T1 15=a:=(hs1.at_ 15 zU).trans (zV (aB hl g0))
   have t1:ad T1 1=b:=(hs1.at_ 1 zU).trans (zV (cr hl g0 g1 g2 g1))
   have t2:ad T1 2=.fn (.func gw) [] []:=(hs1.at_ 2 zU).trans (zV (cr hl g0 g1 g2 g2))
   obtain ⟨_,⟨v,rfl,hr⟩,-,-,L⟩:=(ha.mono hk1.sub).at (Sv hj)
   obtain ⟨_,⟨w,rfl,hr'⟩,-,-,L'⟩:=(hb.mono hk1.sub).at (Sv hj2)
   have L:aW H1 (some 2) (ap a (j*2))=some (.agg [.int .u8 (l[j].1:Int),v]):=L
   have L':aW H1 (some 2) (ap b (j*2))=some (.agg [.int .u8 (m[j].1:Int),w]):=L'
   have hix:co 2 a (.int .i64 (j:Int))=some (ap a (j*2)):=Yl ha .i64 j hj
   have hiy:co 2 b (.int .i64 (j:Int))=some (ap b (j*2)):=Yl hb .i64 j hj2
   have ov:=hr.one
   have ow:=hr'.one
   have Lp0:=(Yd w1 L).put
   have Ll0:=(Yd w1 L).ld
   have Lp:=(Yd w1 L').put
   have Ll:=(Yd w1 L').ld
   simp only [Sr,hl] at hl1
   refine zW (rc hl1 t15 t1 t2 hi1 hix hiy Lp0 Ll0 Lp Ll) ?_
   refine XW (CD C (x:=l[j]) (y:=m[j]) zF ⟨v,rfl,hr.mono (zG H1)⟩ ⟨w,rfl,hr'.mono (zG H1)⟩ (hz _ (Sx hj)).1 (hz _ (Sx hj)).2) fun H2 hk2=>?_
   obtain ⟨k2,_,_⟩:=zT H zK hk2
   cases hq:decide (l[j]=m[j]) with
   | true =>
    have hq:=of_decide_eq_true hq
    refine zW hl1 ?_
    refine ⟨zK,fun q h h' hqi=>?_⟩
    by_cases e:q=j
    ·subst e; exact hq
    ·exact hP q h h' zO
   | false =>
    have hq:=of_decide_eq_false hq
    refine zW hl1 ?_
    refine ⟨?_,zK⟩
    rw [decide_eq_false]
    intro e; subst e; exact hq rfl
  ·intro T1 H1 hl1 hs1 hk1 hP
   simp only [Sr,hl] at hl1
   refine zW hl1 ?_
   exact ⟨by rw [decide_eq_true (iH he fun q h h'=>hP q h h' h)],zK⟩
 ·have he':¬ (l.length:Int)=(m.length:Int):=by omega
  refine zW (ki hl g0 g1 g2 ha.lenV hb.lenV he' he) ?_
  refine ⟨?_,zK⟩
  rw [decide_eq_false]
  intro e; subst e; exact he rfl
theorem A7 (C:Code tab) (hw:Wf H) {v v':AV} {n n':Nat} {c c':List (List Int × Bool)} {g g':List (Nat × List Int)} (hp:PolyV H v n c g) (hp':PolyV H v' n' c' g') (hc1:c.length<1099511627776) (hc2:∀ r∈c,r.1.length<1099511627776/\∀ z∈r.1,eU z) (hg1:g.length<1099511627776) (hg2:∀ r∈g,r.2.length<1099511627776/\∀ z∈r.2,eU z) :
  Ans tab (.fn pM [v,v']) H fun x H'=>x=.bool (decide (n=n'/\c=c'/\g=g'))/\Kp H H':=by
 obtain ⟨vc,vg,rfl,hc,hg⟩:=hp
 obtain ⟨vc',vg',rfl,hc',hg'⟩:=hp'
 have oc:=hc.one
 have og:=hg.one
 have oc':=hc'.one
 have og':=hg'.one
 refine bz C.q36 zU fun T hl g0 g1=>?_
 by_cases hn:n=n'
 ·subst hn
  refine zW (cr hl g0 g1 (kg oc og) (kg oc' og')) ?_
  refine XW (AC C zF (hc.mono (zG H)) (hc'.mono (zG H)) hc1 hc2) fun H2 hk2=>?_
  obtain ⟨k2,_,w2⟩:=zT H zK hk2
  have d0:=hk2.get (b:=H.next) (e:=.cells [.int .i64 (n:Int),vc,vg] ah true) (cR)
  have d1:=hk2.get (b:=H.next+1) (e:=.cells [.int .i64 (n:Int),vc',vg'] ah true) (cR)
  by_cases hcc:c=c'
  ·rw [decide_eq_true hcc]
   refine zW (cr hl g0 g1 d0 d1) ?_
   refine XW (AB C zF ((hg.mono k2.sub).mono (zG H2)) ((hg'.mono k2.sub).mono (zG H2)) hg1 hg2) fun H3 hk3=>?_
   have k3:Kp H H3:=k2.trans (X9 zK hk3)
   have le_k3:=k3.le
   refine zW (aC hl g0 g1) ?_
   exact ⟨by simp [hcc],zK⟩
  ·rw [decide_eq_false hcc]
   refine zW (aC hl g0 g1) ?_
   exact ⟨by simp [hcc],zK⟩
 ·have hn':¬ (n:Int)=(n':Int):=by omega
  refine zW (eW hl g0 g1 (kg oc og) (kg oc' og') hn') ?_
  exact ⟨by simp [hn],zK⟩
theorem I5 (C:Code tab) (hw:Wf H) {v w:AV} {a r:List Int} {e f:Nat} (ha:RowV H v a) (hr:RowV H w r) (har:a.length=r.length) (h64:a.length<=64) (hae:∀ z∈a,Bt e z) (hrf:∀ z∈r,Bt f z) (hbt:e+f+7<=8796093022208) :
  Ans tab (.fn pA [v,w]) H fun x H'=>x=.int .i64 (iv (Lin.dot a r))/\Kp H H':=by
 refine bz C.q40 zU fun T hl g0 g1=>?_
 refine zW (aC hl g0 g1) ?_
 refine XX (rO C zF (ha.mono (zG H)) (hr.mono (zG H)) har h64 hae hrf hbt) ?_
 rintro x H2 ⟨q,rfl,⟨p,rfl,hp⟩,hk2⟩
 obtain ⟨k2,_,w2⟩:=zT H zK hk2
 have op:=hp.one
 have n2:H.next+10<=H2.next:=hk2.le
 have fr:H2.get (H.next+7)=none:=hk2.free (show H.next+7<H.next+10 by omega) (hw.fresh (b:=H.next+7) zO)
 obtain ⟨G,hG⟩:∃ G,G=((H2.up 7).put (H.next+7) (.cells [.bool false,.nilSl] aa true)).put (H.next+7) (.cells [.bool (decide (Lin.dot a r<0)),p] aa true):=⟨_,rfl⟩
 have kG:Kp H G:=by rw [hG]; exact zK
 have hpG:cp G p (Lin.dot a r).natAbs:=by
  rw [hG]
  exact hp.mono (((Ys H2 7).put fr _).put fr _)
 refine zW (aC hl g0 g1) ?_
 rw [<- hG]
 refine XW (nM C (x:=Lin.dot a r) kG.wf ⟨p,rfl,hpG⟩ ((oF hae hrf har h64).sm hbt)) fun H3 hk3=>?_
 have k3:Kp H H3:=kG.trans hk3
 have le_k3:=k3.le
 refine zW (aC hl g0 g1) ?_
 exact zK
theorem poly_keeps (C:Code tab) (hw:Wf H) {v w:AV} {b:Bool} {k:Nat} {a r:List Int} {e f:Nat} (ha:RowV H v a) (hr:RowV H w r) (har:a.length=r.length) (h64:a.length<=64) (hae:∀ z∈a,Bt e z) (hrf:∀ z∈r,Bt f z) (hbt:e+f+7<=8796093022208) :
  Ans tab (.fn gO [.agg [.int .u8 (k:Int),w],.agg [v,.bool b]]) H fun x H'=>x=.bool (Lin.keepsP (a,b) (k,r))/\Kp H H':=by
 have ov:=ha.one
 have ow:=hr.one
 refine bz C.q22 zU fun T hl g0 g1=>?_
 refine zW (cr hl g0 g1 (Ab ov) (EP ow)) ?_
 refine XW (I5 C (e:=f) (f:=e) zF (hr.mono (zG H)) (ha.mono (zG H)) har.symm zO hrf hae zO) fun H2 hk2=>?_
 obtain ⟨k2,_,w2⟩:=zT H zK hk2
 have d1:H2.get H.next=some (.cells [.int .u8 (k:Int),w] ak true):=hk2.get (cR)
 have d2:H2.get (H.next+1)=some (.cells [v,.bool b] t_api_Con true):=hk2.get (cR)
 have hd:=Lin.dot_comm r a
 cases b with
 | true =>
  refine zW (cr hl g0 g1 d1 d2) ?_
  refine ⟨?_,zK⟩
  congr 1
  rw [TU]
  simp [Lin.keepsP,ig,hd]
 | false =>
  by_cases hk1:k=1
  ·subst hk1
   have d1:H2.get H.next=some (.cells [.int .u8 1,w] ak true):=d1
   refine zW (cr hl g0 g1 d1 d2) ?_
   refine ⟨?_,zK⟩
   congr 1
   rw [TU]
   simp [Lin.keepsP,ig,hd]
  ·have hk2':¬ (k:Int)=1:=by omega
   refine zW (eW hl g0 g1 d1 d2 hk2') ?_
   refine ⟨?_,zK⟩
   congr 1
   rw [TU]
   simp [Lin.keepsP,Fy,hd,hk1]
theorem EZ {α:Type} {p:α->Bool} {l:List α} {j:Nat} (hj:j<l.length):(l.take (j+1)).all p=((l.take j).all p && p l[j]):=by
 rw [List.take_succ,Sv hj,List.all_append]; simp
theorem FK (C:Code tab) (hw:Wf H) {a b:AV} {n e f:Nat} {G:List (Nat × List Int)} {K:List (List Int × Bool)} (ha:SlV genE ak H a G) (hb:SlV conE t_api_Con H b K) (hG:∀ x∈G,x.2.length=n+1/\Lin.Bd (2^e) x.2) (hK:∀ c∈K,c.1.length=n+1/\Lin.Bd (2^f) c.1) (hn:n<=60) (hlG:G.length<1099511627776) (hlK:K.length<1099511627776) (hef:e+f<=4398046511104) :
  Ans tab (.fn nZ [a,b,.fn (.func gO) [] []]) H fun v H'=>v=.bool (Lin.inP G K)/\Kp H H':=by
 refine lU C.q21 zU fun T hl g0 g1 g2=>?_
 refine zW (cr hl g0 g1 g2 ha.lenV) ?_
 refine am H [] (fun j _ _=>Lin.inP (G.take j) K=true) (a:=0) (N:=G.length) rfl (by refine zW (aV hl g0 g1 g2) ?_; rfl) (zV (aV hl g0 g1 g2)) (SH _) zO (by simp only [Sr,hl]; rfl) rfl (fun _ _ _ _ h=>h) zK rfl ?_ ?_
 ·intro j T1 H1 _ hj hl1 hi1 hs1 hk1 hP
  have w1:=hk1.wf
  have le_hk1:=hk1.le
  have t11:ad T1 11=a:=(hs1.at_ 11 zU).trans (zV (aB hl g0))
  have t1:ad T1 1=b:=(hs1.at_ 1 zU).trans (zV (cr hl g0 g1 g2 g1))
  have t2:ad T1 2=.fn (.func gO) [] []:=(hs1.at_ 2 zU).trans (zV (cr hl g0 g1 g2 g2))
  obtain ⟨_,⟨v,rfl,hr⟩,-,-,L⟩:=(ha.mono hk1.sub).at (Sv hj)
  have L:aW H1 (some 2) (ap a (j*2))=some (.agg [.int .u8 (G[j].1:Int),v]):=L
  have hix:co 2 a (.int .i64 (j:Int))=some (ap a (j*2)):=Yl ha .i64 j hj
  have hr:RowV H1 v G[j].2:=hr
  have ov:=hr.one
  have Lp0:=(Yd w1 L).put
  have Ll0:=(Yd w1 L).ld
  have mG:=Sx hj
  simp only [Sr,hl] at hl1
  refine zW (ki hl1 t11 t1 hi1 hix Lp0 Ll0 hb.lenV) ?_
  obtain ⟨H2,hH2⟩:∃ H2,H2=((H1.up 7).put (H1.next+2) (.cells [.int .u8 0,.nilSl] ak true)).put (H1.next+2) (.cells [.int .u8 (G[j].1:Int),v] ak true):=⟨_,rfl⟩
  have k12:Kp H1 H2:=by rw [hH2]; exact zK
  have le_k12:=k12.le
  have k2:Kp H H2:=hk1.trans k12
  have le_k2:=k2.le
  have w2:=k2.wf
  have d8:H2.get (H1.next+2)=some (.cells [.int .u8 (G[j].1:Int),v] ak true):=by rw [hH2]; exact au _ _ _
  rw [<- hH2]
  refine am H2 [] (fun i _ _=>(K.take i).all (fun c=>Lin.keepsP c G[j])=true) (a:=0) (N:=K.length) rfl (by refine zW hl1 ?_; rfl) (zV hl1) (SH _) zO (by simp only [Sr,hl1]; rfl) rfl (fun _ _ _ _ h=>h) zK rfl ?_ ?_
  ·intro i T2 H3 _ hi hl2 hi2 hs2 hk3 hP2
   have w3:=hk3.wf
   have le_hk3:=hk3.le
   have t17:ad T2 17=b:=(hs2.at_ 17 zU).trans (zV (aB hl1 t1))
   have t2b:ad T2 2=.fn (.func gO) [] []:=(hs2.at_ 2 zU).trans (zV (aB hl1 t2))
   have t8:ad T2 8=.ptr (H1.next+2) 0:=(hs2.at_ 8 zU).trans (zV hl1)
   have d8':=hk3.get d8
   have lt8:=w3 _ _ d8'
   have s13:Sub H1 H3:=k12.sub.trans hk3.sub
   obtain ⟨_,⟨w,rfl,hc⟩,-,-,L'⟩:=((hb.mono hk1.sub).mono s13).at (Sv hi)
   have L':aW H3 (some 2) (ap b (i*2))=some (.agg [w,.bool K[i].2]):=L'
   have hiy:co 2 b (.int .i64 (i:Int))=some (ap b (i*2)):=Yl hb .i64 i hi
   have hc:RowV H3 w K[i].1:=hc
   have ow:=hc.one
   have Lp:=(Yd w3 L').put
   have Ll:=(Yd w3 L').ld
   have mK:=Sx hi
   have hr3:=hr.mono s13
   simp only [Sr,hl1] at hl2
   refine zW (kj hl2 t17 t2b t8 hi2 hiy Lp Ll d8') ?_
   refine XW (poly_keeps C (e:=f+1) (f:=e+1) (b:=K[i].2) (k:=G[j].1) (a:=K[i].1) (r:=G[j].2) zF (hc.mono (zG H3)) (hr3.mono (zG H3)) ((hK _ mK).1.trans (hG _ mG).1.symm) (by rw [(hK _ mK).1]; omega) (fun z hz=>jk (hK _ mK).2 z hz) (fun z hz=>jk (hG _ mG).2 z hz) zO) fun H4 hk4=>?_
   obtain ⟨k4,_,_⟩:=zT H2 zK hk4
   have k4':Kp H H4:=k2.trans k4
   cases hq:Lin.keepsP (K[i].1,K[i].2) (G[j].1,G[j].2) with
   | true =>
    refine zW hl2 ?_
    refine ⟨zK,?_⟩
    rw [EZ hi,hP2]
    exact hq
   | false =>
    refine zW hl2 ?_
    refine ⟨?_,zK⟩
    have:Lin.inP G K=false:=by
     cases h:Lin.inP G K with
     | false=>rfl
     | true =>
      have:=Lin.inP_iff.1 h _ mG _ mK
      exact absurd (this.symm.trans hq) zU
    rw [this]
  ·intro T2 H3 hl2 hs2 hk3 hP2
   rw [S2] at hP2
   simp only [Sr,hl1] at hl2
   have k3:Kp H H3:=k2.trans hk3
   have le_k3:=k3.le
   refine zW hl2 ?_
   refine ⟨zK,?_⟩
   unfold Lin.inP at hP ⊢
   rw [EZ hj,hP]
   exact hP2
 ·intro T1 H1 hl1 hs1 hk1 hP
  simp only [Sr,hl] at hl1
  rw [S2] at hP
  refine zW hl1 ?_
  exact ⟨by rw [hP],zK⟩
end
section
variable {tab:Nat->Option aw} {H:Heap} {s:AV}
end
section
open Lin
theorem AL {r:V} (h:∀ z∈r.map eR,z.2.length<=1):Bd (2^64) r:=fun i=>by
 unfold at_
 rw [Ss]
 cases hi:r[i]? with
 | none=>simp
 | some z =>
  have h1:=h (eR z) (Sy.2 ⟨z,SL hi,rfl⟩)
  have h2:z.natAbs<B^1:=uV (n:=z.natAbs) h1
  have h3:B^1=2^64:=by decide
  simp only [Uc]
  omega
theorem tz {c:List (V × Bool)} {g:List (Nat × V)} (h:lP c g=false):(c.length<=9/\∀ x∈c,x.1.length<=5/\Bd (2^64) x.1)/\g.length<=9/\∀ x∈g,x.2.length<=5/\Bd (2^64) x.2:=by
 unfold lP at h
 rw [U3] at h
 obtain ⟨h1,h2⟩:=iY h.1
 obtain ⟨h3,h4⟩:=yZ h.2
 rw [SG] at h1 h3
 refine ⟨⟨h1,fun x hx=>?_⟩,h3,fun x hx=>?_⟩
 ·obtain ⟨q1,q2⟩:=h2 _ (Sy.2 ⟨x,hx,rfl⟩)
  simp only [SG] at q1
  exact ⟨q1,AL q2⟩
 ·obtain ⟨q1,q2⟩:=h4 _ (Sy.2 ⟨x,hx,rfl⟩)
  simp only [SG] at q1
  exact ⟨q1,AL q2⟩
theorem Jz {n:Nat} {l:List (V × Bool)}:∀ x∈gensP n l,x.1=1\/x.1=2\/x.1=3:=fun x hx=>by
 unfold gensP at hx
 split at hx
 ·rcases SQ.1 hx with hx | hx
  ·obtain ⟨r,hr,rfl⟩:=Sy.1 hx
   exact .inl rfl
  ·obtain ⟨r,hr,rfl⟩:=Sy.1 hx
   show kindOf r=1\/kindOf r=2\/kindOf r=3
   unfold kindOf
   split <;> simp
 ·cases hx
end
section
variable {tab:Nat->Option aw} {H:Heap} {s:AV}
end
section
variable {tab:Nat->Option aw} {H:Heap} {s:AV}
structure PolyOK (n e f:Nat) (K:List (List Int × Bool)) (G:List (Nat × List Int)):Prop where
 own:Lin.Own n K G
 dim:n<=4
 few:K.length<=60\/K.length<=1022/\G.length<=60
 many:G.length<1024
 bK:∀ c∈K,Lin.Bd (2^f) c.1
 bG:∀ x∈G,Lin.Bd (2^e) x.2
 e3:e<=300000
 f3:f<=300000
section
variable {n e f:Nat} {K:List (List Int × Bool)} {G:List (Nat × List Int)}
theorem PolyOK.rowK (h:PolyOK n e f K G):∀ c∈K,c.1.length=n+1/\Lin.Bd (2^f) c.1:=fun c hc=>⟨h.own.rows c hc,h.bK c hc⟩
theorem PolyOK.rowG (h:PolyOK n e f K G):∀ x∈G,x.2.length=n+1/\Lin.Bd (2^e) x.2:=fun x hx=>⟨(h.own.valid x hx).1,h.bG x hx⟩
theorem PolyOK.kinds (h:PolyOK n e f K G):∀ x∈G,x.1=1\/x.1=2\/x.1=3:=fun x hx=>Jz (n:=n) (l:=K) x (by rw [h.own.gens]; exact hx)
theorem PolyOK.smK (h:PolyOK n e f K G):∀ r∈K,r.1.length<1099511627776/\∀ z∈r.1,eU z:=fun r hr=>⟨by rw [(h.rowK r hr).1]; have:=h.dim; omega,fun z hz=>(jk (h.rowK r hr).2 z hz).sm (by have:=h.f3; omega)⟩
theorem PolyOK.smG (h:PolyOK n e f K G):∀ r∈G,r.2.length<1099511627776/\∀ z∈r.2,eU z:=fun r hr=>⟨by rw [(h.rowG r hr).1]; have:=h.dim; omega,fun z hz=>(jk (h.rowG r hr).2 z hz).sm (by have:=h.e3; omega)⟩
theorem PolyOK.lenK (h:PolyOK n e f K G):K.length<=1022:=by rcases h.few with h | h <;> omega
end
set_option maxHeartbeats 4000000 in
theorem rU (C:Code tab) (hw:Wf H) {v:AV} {n e f:Nat} {K:List (List Int × Bool)} {G:List (Nat × List Int)} (hp:PolyV H v n K G) (ho:PolyOK n e f K G) :
  Ans tab (.fn oi [v]) H fun x H'=>x=.int .i64 0/\Kp H H':=by
 obtain ⟨vc,vg,rfl,hc,hg⟩:=hp
 have oc:=hc.one
 have og:=hg.one
 have lK:=ho.lenK
 have lG:=ho.many
 have eG:Lin.gensP n K=G:=ho.own.gens
 have eK:Lin.consP n G=K:=ho.own.cons
 have e3:=ho.e3
 have f3:=ho.f3
 have smK:=ho.smK
 have smG:=ho.smG
 refine cQ C.q16 zU fun T hl g0=>?_
 by_cases q1:(K.length:Int)<=60
 ·refine zW (cr hl g0 (kg oc og) hc.lenV q1) ?_
  refine XX (iA C (n:=n) (m:=f) (m2:=e) zF (hc.mono (zG H)) ho.dim zO ho.rowK f3 (by rw [eG]; exact ho.bG) e3) ?_
  rintro v H2 ⟨hm,hk2⟩
  obtain ⟨k2,_,w2⟩:=zT H zK hk2
  have n2:H.next+17<=H2.next:=hk2.le
  have d0:H2.get H.next=some (.cells [.int .i64 (n:Int),vc,vg] ah true):=hk2.get (cR)
  have f2:H2.get (H.next+14)=none:=hk2.free (show H.next+14<H.next+17 by omega) (by rw [az zO]; exact hw.fresh (b:=H.next+14) zO)
  rw [eG] at hm
  unfold mB at hm
  rw [eK] at hm
  rcases hm with ⟨-,hm⟩ | ⟨p,rfl,⟨vc2,vg2,rfl,hc2,hg2⟩,-,-⟩
  ·omega
  have oc2:=hc2.one
  have og2:=hg2.one
  obtain ⟨H3,hH3⟩:∃ H3,H3=((H2.up 7).put (H.next+14) (.cells [.int .i64 0,.nilSl,.nilSl] ah true)).put (H.next+14) (.cells [.int .i64 (n:Int),vc2,vg2] ah true):=⟨_,rfl⟩
  have s23:Sub H2 H3:=by rw [hH3]; exact ((Ys H2 7).put f2 _).put f2 _
  have k3:Kp H H3:=by rw [hH3]; exact zK
  have le_k3:=k3.le
  have w3:=k3.wf
  refine zW (aV hl g0 @mF d0) ?_
  rw [<- hH3]
  refine XW (A7 C zF ⟨vc,vg,rfl,(hc.mono k2.sub).mono s23,(hg.mono k2.sub).mono s23⟩ ⟨vc2,vg2,rfl,hc2.mono s23,hg2.mono s23⟩ zO smK zO smG) fun H4 hk4=>?_
  have k4:Kp H H4:=k3.trans hk4
  have le_k4:=k4.le
  rw [decide_eq_true ⟨rfl,rfl,rfl⟩]
  refine zW (aB hl g0) ?_
  exact zK
 ·have q2:(G.length:Int)<=60:=by rcases ho.few with h | h <;> omega
  refine zW (gf hl g0 (kg oc og) hc.lenV q1 hg.lenV q2) ?_
  refine XX (tJ C (n:=n) (m:=e) (m2:=f) (m3:=e) zF (hg.mono (zG H)) ho.dim zO ho.own.valid ho.kinds ho.bG e3 (by rw [eK]; exact ho.bK) f3 (by rw [eK,eG]; exact ho.bG) e3 (by rw [eK]; exact .inl lK)) ?_
  rintro v H2 ⟨hm,hk2⟩
  obtain ⟨k2,_,w2⟩:=zT H zK hk2
  have n2:H.next+21<=H2.next:=hk2.le
  have d0:H2.get H.next=some (.cells [.int .i64 (n:Int),vc,vg] ah true):=hk2.get (cR)
  have f2:H2.get (H.next+18)=none:=hk2.free (show H.next+18<H.next+21 by omega) (by rw [az zO]; exact hw.fresh (b:=H.next+18) zO)
  unfold Ie mB at hm
  rw [eK,eG,eK] at hm
  rcases hm with ⟨-,hm⟩ | ⟨-,hm⟩ | ⟨p,rfl,⟨vc2,vg2,rfl,hc2,hg2⟩,-,-⟩
  ·omega
  ·omega
  have oc2:=hc2.one
  have og2:=hg2.one
  obtain ⟨H3,hH3⟩:∃ H3,H3=((H2.up 7).put (H.next+18) (.cells [.int .i64 0,.nilSl,.nilSl] ah true)).put (H.next+18) (.cells [.int .i64 (n:Int),vc2,vg2] ah true):=⟨_,rfl⟩
  have s23:Sub H2 H3:=by rw [hH3]; exact ((Ys H2 7).put f2 _).put f2 _
  have k3:Kp H H3:=by rw [hH3]; exact zK
  have le_k3:=k3.le
  have w3:=k3.wf
  refine zW (aV hl g0 @mF d0) ?_
  rw [<- hH3]
  refine XW (A7 C zF ⟨vc,vg,rfl,(hc.mono k2.sub).mono s23,(hg.mono k2.sub).mono s23⟩ ⟨vc2,vg2,rfl,hc2.mono s23,hg2.mono s23⟩ zO smK zO smG) fun H4 hk4=>?_
  have k4:Kp H H4:=k3.trans hk4
  have le_k4:=k4.le
  rw [decide_eq_true ⟨rfl,rfl,rfl⟩]
  refine zW (aB hl g0) ?_
  exact zK
end
abbrev RB:=Nat × List (List Int × Bool) × List (Nat × List Int)
def OY:fh RB where
 sz:=3
 tys:=(t_api_Con :: conE.tys)++(ak :: genE.tys)
 R H cs x:=∃ vc vg,cs=[.int .i64 (x.1:Int),vc,vg]/\SlV conE t_api_Con H vc x.2.1/\SlV genE ak H vg x.2.2
 pos:=by omega
 len:=by rintro H cs x ⟨v,w,rfl,h,h'⟩; exact ⟨rfl,by simp [h.one.2,h'.one.2]; rfl⟩
 mono:=by
  rintro H H' cs x hs ⟨v,w,rfl,h,h'⟩
  exact ⟨v,w,rfl,h.monoT fun b cs t r ht=>hs b cs t r (TX _ ht),h'.monoT fun b cs t r ht=>hs b cs t r (Uh _ ht)⟩
section
variable {tab:Nat->Option aw} {H:Heap} {s:AV}
theorem GC {a2 a3 b2 b3:AV} (h2:One a2) (h3:One a3) (h5:One b2) (h6:One b3) (x1 x2 x3 y1 y2 y3:AV) (k k':IntKind) (n n':Int):cX [x1,x2,x3,y1,y2,y3] [((0,3),.agg [.int k n,a2,a3]),((3,3),.agg [.int k' n',b2,b3])]=some [.int k n,a2,a3,.int k' n',b2,b3]:=by
 simp [cX,AV.cells,(bf k n).2,(bf k' n').2,h2.2,h3.2,h5.2,h6.2]
set_option maxHeartbeats 4000000 in
theorem nR (C:Code tab) (hw:Wf H) {n:Nat} {l:List RB} (hs:SlV OY ah H s l) (hl':l.length<1000) (h:∀ x∈l,x.1=n/\∃ e f,PolyOK n e f x.2.1 x.2.2) :
  Ans tab (.fn lz [s]) H fun x H'=>x=.int .i64 0/\Kp H H':=by
 refine cQ C.q20 zU fun T hl g0=>?_
 refine zW (aC hl g0 hs.lenV) ?_
 refine am H [] (fun _ _ _=>True) (a:=0) (N:=l.length) rfl (by refine zW (aB hl g0) ?_; rfl) (zV (aB hl g0)) (SH _) zO (by simp only [Sr,hl]; rfl) rfl (fun _ _ _ _ h=>h) zK trivial ?_ ?_
 ·intro j T1 H1 _ hj hl1 hi1 hs1 hk1 _
  have w1:=hk1.wf
  have le_hk1:=hk1.le
  have t8:ad T1 8=s:=(hs1.at_ 8 zU).trans (zV (aB hl g0))
  obtain ⟨_,⟨vc,vg,rfl,hc,hg⟩,-,-,L⟩:=(hs.mono hk1.sub).at (Sv hj)
  have L:aW H1 (some 3) (ap s (j*3))=some (.agg [.int .i64 (l[j].1:Int),vc,vg]):=L
  have hix:co 3 s (.int .i64 (j:Int))=some (ap s (j*3)):=Yl hs .i64 j hj
  have oc:=hc.one
  have og:=hg.one
  have Lp:=(Yd w1 L).put
  have Ll:=(Yd w1 L).ld
  obtain ⟨hn,e,f,ok⟩:=h _ (Sx hj)
  simp only [Sr,hl] at hl1
  refine zW (gf hl1 t8 hi1 hix Lp Ll @mF) ?_
  rw [hn]
  refine XW (rU C zF ⟨vc,vg,rfl,hc.mono (zG H1),hg.mono (zG H1)⟩ ok) fun H2 hk2=>?_
  obtain ⟨k2,_,_⟩:=zT H zK hk2
  refine zW hl1 ?_
  exact zK
 ·intro T1 H1 hl1 hs1 hk1 _
  have w1:=hk1.wf
  have le_hk1:=hk1.le
  have t0:ad T1 0=s:=(hs1.at_ 0 zU).trans (zV (aB hl g0))
  have hsb:=hs.mono hk1.sub
  simp only [Sr,hl] at hl1
  refine zW (aC hl1 t0 hsb.lenV) ?_
  refine am H [] (fun _ _ _=>True) (a:=0) (N:=l.length) rfl (by refine zW hl1 ?_; rfl) (zV hl1) (SH _) zO (by simp only [Sr,hl1]; rfl) rfl (fun _ _ _ _ h=>h) zK trivial ?_ ?_
  ·intro j T2 H2 _ hj hl2 hi2 hs2 hk2 _
   have w2:=hk2.wf
   have le_hk2:=hk2.le
   have t20:ad T2 20=s:=(hs2.at_ 20 zU).trans (zV (aB hl1 t0))
   have t0':ad T2 0=s:=(hs2.at_ 0 zU).trans (zV (aB hl1 t0))
   have hs3:=hs.mono hk2.sub
   have h0:0<l.length:=by omega
   obtain ⟨_,⟨vc,vg,rfl,hc,hg⟩,-,-,L⟩:=hs3.at (Sv hj)
   have L:aW H2 (some 3) (ap s (j*3))=some (.agg [.int .i64 (l[j].1:Int),vc,vg]):=L
   obtain ⟨_,⟨vc',vg',rfl,hc',hg'⟩,-,L1,-⟩:=hs3.at (Sv h0)
   have L1:aW H2 none (ap s 0)=some (.int .i64 (l[0].1:Int)):=L1 0 _ rfl
   have hix:co 3 s (.int .i64 (j:Int))=some (ap s (j*3)):=Yl hs .i64 j hj
   have hi0:co 3 s (.int .i64 0)=some (ap s 0):=Yl hs .i64 0 h0
   have fa0:xv 0 (ap s 0)=some (ap s 0):=hs.fa h0 0 0
   have oc:=hc.one
   have og:=hg.one
   have Lp:=(Yd w2 L).put
   have Ll:=(Yd w2 L).ld
   have Lp1:=(Yd w2 L1).put
   have Ll1:=(Yd w2 L1).ld
   have hn:=(h _ (Sx hj)).1
   have hn0:=(h _ (Sx h0)).1
   have hnn:((l[j].1:Nat):Int)=(l[0].1:Int):=by rw [hn,hn0]
   simp only [Sr,hl1] at hl2
   refine zW (gf hl2 t20 hi2 hix Lp Ll @mF) ?_
   refine aH ?_
   refine zD (gf hl2 t0' hi0 fa0 Lp1 Ll1 hnn) ?_
   exact zK
  ·intro T2 H2 hl2 hs2 hk2 _
   simp only [Sr,hl1] at hl2
   refine zW hl2 ?_
   exact zK
theorem uW {H:Heap} {b:Nat} {vc vg vc' vg':AV} {x y:RB} {r:Bool} (h:H.get b=some (.cells [.int .i64 (x.1:Int),vc,vg,.int .i64 (y.1:Int),vc',vg'] ah r)) (h1:SlV conE t_api_Con H vc x.2.1) (h2:SlV genE ak H vg x.2.2) (h3:SlV conE t_api_Con H vc' y.2.1) (h4:SlV genE ak H vg' y.2.2):SlV OY ah H (.own b 0 2 2 3 true) [x,y] :=
 ⟨_,Yi h rfl (Sz _),fun _ _ _ _ _ _ e=>by cases e; exact ⟨_,_,h⟩,rfl,fun i a hi=>by
  match i with
  | 0=>simp at hi; subst hi; exact ⟨vc,vg,rfl,h1,h2⟩
  | 1=>simp at hi; subst hi; exact ⟨vc',vg',rfl,h3,h4⟩
  | i+2=>simp at hi⟩
theorem Fs {n e f e' f':Nat} {K K':List (List Int × Bool)} {G G':List (Nat × List Int)} (ho:PolyOK n e f K G) (ho':PolyOK n e' f' K' G'):∀ x∈[((n,K,G):RB),(n,K',G')],x.1=n/\∃ e f,PolyOK n e f x.2.1 x.2.2:=fun x hx=>by
 rcases SX.1 hx with rfl | hx
 ·exact ⟨rfl,_,_,ho⟩
 ·rcases SX.1 hx with rfl | hx
  ·exact ⟨rfl,_,_,ho'⟩
  ·cases hx
set_option maxHeartbeats 4000000 in
theorem N0 (C:Code tab) (hw:Wf H) {v w:AV} {n e f e' f':Nat} {K K':List (List Int × Bool)} {G G':List (Nat × List Int)} (hp:PolyV H v n K G) (hq:PolyV H w n K' G') (ho:PolyOK n e f K G) (ho':PolyOK n e' f' K' G') :
  Ans tab (.fn uL [v,w]) H fun x H'=>x=.tup [.bool (Lin.inP G K'),.int .i64 0]/\Kp H H':=by
 obtain ⟨vc,vg,rfl,hc,hg⟩:=hp
 obtain ⟨vc',vg',rfl,hc',hg'⟩:=hq
 have oc:=hc.one
 have og:=hg.one
 have oc':=hc'.one
 have og':=hg'.one
 refine bz C.q4 zU fun T hl g0 g1=>?_
 refine zW (eW hl g0 g1 (kg oc og) (kg oc' og') (GC oc og oc' og')) ?_
 refine XW (nR C (n:=n) (l:=[(n,K,G),(n,K',G')]) zF (uW (au _ _ _) (hc.mono (zG H)) (hg.mono (zG H)) (hc'.mono (zG H)) (hg'.mono (zG H))) (by simp) (Fs ho ho')) fun H2 hk2=>?_
 obtain ⟨k2,_,w2⟩:=zT H zK hk2
 have d0:H2.get H.next=some (.cells [.int .i64 (n:Int),vc,vg] ah true):=hk2.get (cR)
 have d1:H2.get (H.next+1)=some (.cells [.int .i64 (n:Int),vc',vg'] ah true):=hk2.get (cR)
 have e3:=ho.e3
 have f3:=ho'.f3
 have hn:=ho.dim
 have l1:=ho.many
 have l2:=ho'.lenK
 refine zW (cr hl g0 g1 d0 d1) ?_
 refine XW (FK C (n:=n) (e:=e) (f:=f') zF ((hg.mono k2.sub).mono (zG H2)) ((hc'.mono k2.sub).mono (zG H2)) ho.rowG ho'.rowK zO zO zO zO) fun H3 hk3=>?_
 have k3:Kp H H3:=k2.trans (X9 zK hk3)
 have le_k3:=k3.le
 refine zW (aC hl g0 g1) ?_
 exact zK
end
section
variable {tab:Nat->Option aw} {H:Heap} {s:AV}
theorem EX {H:Heap} {id sz bytes ty:Nat} {z:List AV} {m:Nat} (hz:z.length=sz) (h0:0<m) (hb:m*bytes<=70368744177664) (hm:m<4611686018427387904) :
  Bx H id sz bytes ty z .nilSl (.int .i64 (m:Int))=some (.own id 0 m m sz false,H.put id (.cells ((List.replicate m z).flatten) ty true)):=by
 unfold Bx
 rw [e9]
 simp only
 rw [if_pos ⟨hz,hb,hm⟩]
 simp only [cI]
 rw [if_neg zO,if_pos ⟨hb,hm⟩]
def GB:AV->Option AV
 | .own _ _ _ c _ true=>some (.int .i64 c)
 | .nilSl=>some (.int .i64 0)
 | _=>none
theorem I3 {ev:Src->AV} (x:Src):aM ev (.cap x)=GB (ev x):=by
 simp only [aM]
 generalize ev x=a
 cases a <;> rfl
theorem BE {ev:Src->AV} {H:Heap} {id:Nat} {Q:AV->Heap->Prop} (x:Src):kW tab ev H id (.cap x) Q=gr (GB (ev x)) (fun v=>Q v H) ():=by
 rw [bY,dU tab ev H id Q (o:=.cap x) (v:=GB (ev x)) (fun f a e=>by cases e) (I3 x) rfl]
 rfl
theorem yd {b m sz:Nat} {ex:Bool}:bD sz (.own b 0 m m sz ex) none (some (.int .i64 0)) none=some (.own b 0 0 m sz ex):=by
 simp [bD,bE,nL]
theorem M2 (C:Code tab) (hw:Wf H) {m:Nat} (h0:0<m) (hm:m<=4000) :
  Ans tab (.fn bR [.nilSl,.int .i64 (m:Int)]) H fun v H'=>∃ b,v=.own b 0 0 m 2 false/\H'.get b=some (.cells ((List.replicate m [.nilSl,.bool false]).flatten) t_api_Con true)/\H.next<=b/\Kp H H':=by
 refine bz C.q48 zU fun T hl g0 g1=>?_
 have e0:¬ (m:Int)<0:=by omega
 have e1:IntKind.i64.wrap ((m:Int)-0)=(m:Int):=by rw [wrap_i64] <;> omega
 have e2:(0:Int)<(m:Int):=by omega
 have cn:GB .nilSl=some (.int .i64 0):=rfl
 have z0:IntKind.i64.wrap 0=0:=by rw [wrap_i64] <;> omega
 have sn:bD 2 .nilSl none (some (.int .i64 0)) none=some .nilSl:=rfl
 have ln:lenV .nilSl=some (.int .i64 0):=rfl
 have ea:=EX (H:=H.up 23) (id:=H.next+18) (sz:=2) (bytes:=32) (ty:=t_api_Con) (z:=[.nilSl,.bool false]) (m:=m) rfl h0 zO zO
 have so:bD 2 (.own (H.next+18) 0 m m 2 false) none (some (.int .i64 0)) none=some (.own (H.next+18) 0 0 m 2 false):=yd
 simp -dsimp (maxSteps:=1000000) (disch:=(first | omega | assumption | exact aQ _ | exact bf _ _ | exact bp | exact cz _ _ _ | exact bF _ _ | exact bo _ _ _ _ _ _ | exact cJ _ _ | exact bH _)) only [↓sL,sK,Nat.reduceLT,Nat.reduceEqDiff,Nat.reduceAdd,reduceIte,reduceCtorEq,Nat.reduceBEq,Int.reduceEq,Int.reduceLT,Int.reduceLE,Int.reduceAdd,Int.reduceSub,hl,g0,g1,e0,e1,e2,↓BE,ln,cn,z0,sn,↓BF,ea,so]
 exact ⟨_,rfl,au _ _ _,by omega,zK⟩
theorem Kj (C:Code tab) (hw:Wf H) :
  Ans tab (.fn bR [.nilSl,.int .i64 0]) H fun v H'=>v=.nilSl/\Kp H H':=by
 refine bz C.q48 zU fun T hl g0 g1=>?_
 have ln:lenV .nilSl=some (.int .i64 0):=rfl
 have cn:GB .nilSl=some (.int .i64 0):=rfl
 have z0:IntKind.i64.wrap 0=0:=by rw [wrap_i64] <;> omega
 simp -dsimp (maxSteps:=1000000) (disch:=(first | omega | assumption | exact aQ _ | exact bf _ _ | exact bp | exact cz _ _ _ | exact bF _ _ | exact bo _ _ _ _ _ _ | exact cJ _ _ | exact bH _)) only [↓sL,sK,Nat.reduceLT,Nat.reduceEqDiff,Nat.reduceAdd,reduceIte,reduceCtorEq,Nat.reduceBEq,Int.reduceEq,Int.reduceLT,Int.reduceLE,Int.reduceAdd,Int.reduceSub,hl,g0,g1,↓BE,ln,cn,z0]
 exact zK
theorem qW {α:Type} {E:fh α} {ty ty2 bytes id g k m N:Nat} {H:Heap} {w:AV} {cells:List AV} {l1 l2:List α} (hg:H.get g=some (.cells cells ty true)) (hty:ty ∉ E.tys) (hp:Cells E H (cells.take (k*E.sz)) l1) (hy:SlV E ty2 H w l2) (hm:l2.length=m) (hcl:cells.length=N*E.sz) (hN:k+m<=N) (hb:N*bytes<=70368744177664) (hbig:N<4611686018427387904) :
  ∃ cells' H',cN H id E.sz bytes ty (.own g 0 k N E.sz false) w=some (.own g 0 (k+m) N E.sz false,H')/\H'.get g=some (.cells cells' ty true)/\cells'.length=N*E.sz/\Cells E H' (cells'.take ((k+m)*E.sz)) (l1++l2)/\(H'=H\/∃ e,H'=H.put g e):=by
 obtain ⟨news,hr,-,hc⟩:=hy
 obtain ⟨m',hm',hlen⟩:=hr.length
 obtain ⟨-,-,m2,hm2,hf⟩:=hr
 rw [hm'] at hm2; cases hm2
 have hmm:m'=m:=Ul E.pos (by rw [<- hlen,hc.1,hm])
 subst hmm
 have hb2:(k+m')*bytes<=70368744177664:=SM (SJ _ hN) hb
 have ones:=hc.ones
 have hle:(k+m')*E.sz<=N*E.sz:=SJ _ hN
 rw [Tx] at hle
 have e:cN H id E.sz bytes ty (.own g 0 k N E.sz false) w=if m'=0 then some (.own g 0 k N E.sz false,H) else some (.own g 0 (k+m') N E.sz false,H.put g (.cells (cells.take (0+k*E.sz)++news++cells.drop (0+k*E.sz+m'*E.sz)) ty true)):=by
  unfold cN
  rw [hm']
  simp only
  rw [hf]
  simp only [cI,hg]
  rw [if_pos ⟨trivial,hb2,by omega,trivial,by omega⟩,if_pos hN]
  by_cases h0:m'=0
  ·rw [if_pos h0,if_pos h0]
  ·rw [if_neg h0,if_neg h0,if_pos ⟨trivial,ones⟩]
 by_cases h0:m'=0
 ·subst h0
  have hn:l2=[]:=S6 hm
  subst hn
  refine ⟨cells,H,by rw [e,if_pos rfl]; rfl,hg,hcl,?_,.inl rfl⟩
  rw [TZ]; exact hp
 ·have hst:SubT E.tys H (H.put g (.cells (cells.take (0+k*E.sz)++news++cells.drop (0+k*E.sz+m'*E.sz)) ty true)):=fun b cs t r ht hget=>by
   by_cases hbg:b=g
   ·subst hbg
    rw [hg] at hget; cases hget
    exact absurd ht hty
   ·rw [az hbg]; exact hget
  refine ⟨_,_,by rw [e,if_neg h0],au _ _ _,?_,?_,.inr ⟨_,rfl⟩⟩
  ·simp only [SN,SY,TN,hcl,hlen]
   omega
  ·have ht:((cells.take (0+k*E.sz)++news++cells.drop (0+k*E.sz+m'*E.sz)).take ((k+m')*E.sz))=cells.take (k*E.sz)++news:=by
    rw [S8,Vd (by rw [SN,SY,hlen,Tx]; omega)]
   rw [ht]
   exact (hp.mono hst).append (hc.mono hst)
theorem GM (C:Code tab) (hw:Wf H) {b:Nat} {va vb:AV} {l m:List (List Int × Bool)} {x:Bool} {ty:Nat} (hb:H.get b=some (.cells [va,vb] ty x)) (ha:SlV conE t_api_Con H va l) (hb':SlV conE t_api_Con H vb m) (hl':l.length<=2000) (hm':m.length<=2000) :
  Ans tab (.fn cF [.own b 0 2 2 1 true]) H fun v H'=>SlV conE t_api_Con H' v (l++m)/\Kp H H':=by
 refine cQ C.q27 zU fun T hl g0=>?_
 have l2:lenV (.own b 0 2 2 1 true)=some (.int .i64 ((2:Nat):Int)):=rfl
 have hbl:=hw _ _ hb
 refine zW (aC hl g0 l2) ?_
 refine am H [3] (fun j vs _=>vs=[.int .i64 (((if j=0 then 0 else if j=1 then l.length else l.length+m.length:Nat)):Int)]) (a:=0) (N:=2) rfl (by refine zW (aB hl g0) ?_ <;> rfl) (zV (aB hl g0)) (SH _) zO (by simp only [Sr,hl]; rfl) rfl (fun _ _ _ _ h=>h) zK (by refine zW (aB hl g0) ?_ <;> rfl) ?_ ?_
 ·intro j T1 H1 _ hj hl1 hi1 hs1 hk1 hv
  simp only [SA,SD,SB,and_true] at hv
  have w1:=hk1.wf
  have le_hk1:=hk1.le
  have t9:ad T1 9=.own b 0 2 2 1 true:=(hs1.at_ 9 zU).trans (zV (aB hl g0))
  have hb1:=hk1.get hb
  simp only [Sr,hl] at hl1
  by_cases h0:j=0
  ·subst h0
   have hix:co 1 (.own b 0 2 2 1 true) (.int .i64 ((0:Nat):Int))=some (.ptr b 0):=rfl
   have e1:IntKind.i64.wrap (0+(l.length:Int))=(l.length:Int):=by rw [wrap_i64] <;> omega
   have e2:¬ (l.length:Int)<0:=by omega
   have hv:ad T1 3=.int .i64 0:=hv
   refine zW (kj hl1 t9 hi1 hix hb1 ha.lenV hv e1 e2) ?_
   exact zK
  ·have h1:j=1:=by omega
   subst h1
   have hix:co 1 (.own b 0 2 2 1 true) (.int .i64 ((1:Nat):Int))=some (.ptr b 1):=rfl
   have e1:IntKind.i64.wrap ((l.length:Int)+(m.length:Int))=(l.length:Int)+(m.length:Int):=by rw [wrap_i64] <;> omega
   have e2:¬ (l.length:Int)+(m.length:Int)<0:=by omega
   have hv:ad T1 3=.int .i64 (l.length:Int):=hv
   refine zW (kj hl1 t9 hi1 hix hb1 hb'.lenV hv e1 e2) ?_
   exact ⟨zK,by simp⟩
 ·intro T1 H1 hl1 hs1 hk1 hv
  simp only [SA,SD,SB,and_true] at hv
  have w1:=hk1.wf
  have le_hk1:=hk1.le
  have t0:ad T1 0=.own b 0 2 2 1 true:=(hs1.at_ 0 zU).trans (zV (aB hl g0))
  have hv:ad T1 3=.int .i64 (((l.length+m.length:Nat)):Int):=hv
  simp only [Sr,hl] at hl1
  have hb1:=hk1.get hb
  by_cases h0:l.length+m.length=0
  ·have hv:ad T1 3=.int .i64 0:=by rw [hv,h0]; rfl
   have el:l=[]:=S6 zO
   have em:m=[]:=S6 zO
   refine zW (aB hl1 hv) ?_
   refine XX (Kj C zF) ?_
   rintro _ H2 ⟨rfl,hk2⟩
   obtain ⟨k2,_,w2⟩:=zT H zK hk2
   have hb2:=k2.get hb
   refine zW (aC hl1 t0 l2) ?_
   refine am H [6] (fun j vs _=>vs=[.nilSl]) (a:=0) (N:=2) rfl (by refine zW hl1 ?_ <;> rfl) (zV hl1) (SH _) zO (by simp only [Sr,hl1]; rfl) rfl (fun _ _ _ _ h=>h) zK (zV hl1) ?_ ?_
   ·intro j T2 H3 _ hj hl2 hi2 hs2 hk3 hv2
    simp only [SA,SD,SB,and_true] at hv2
    have w3:=hk3.wf
    have le_hk3:=hk3.le
    have t25:ad T2 25=.own b 0 2 2 1 true:=(hs2.at_ 25 zU).trans (zV (aB hl1 t0))
    have hb3:=hk3.get hb
    simp only [Sr,hl1] at hl2
    have na:∀ {K:List (List Int × Bool)} {v:AV} (H':Heap) (id:Nat),K=[]->SlV conE t_api_Con H' v K->cN H' id 2 32 t_api_Con .nilSl v=some (.nilSl,H'):=fun H' id e hs=>by
     subst e
     obtain ⟨news,hr,-,hc⟩:=hs
     obtain ⟨m',hm',hlen⟩:=hr.length
     obtain ⟨-,-,m2,hm2,hf⟩:=hr
     rw [hm'] at hm2; cases hm2
     have hmm:m'=0:=by
      have:=hc.1
      rw [hlen] at this
      have e2:conE.sz=2:=rfl
      rw [e2] at this
      simp at this
      omega
     subst hmm
     unfold cN
     rw [hm']
     simp only
     have e2:conE.sz=2:=rfl
     rw [e2] at hf
     rw [hf]
     rfl
    by_cases h0:j=0
    ·subst h0
     have hix:co 1 (.own b 0 2 2 1 true) (.int .i64 ((0:Nat):Int))=some (.ptr b 0):=rfl
     have ea:=na (H3.up 7) (H3.next+5) el ((ha.mono hk3.sub).mono (Ys H3 7))
     refine zW (gf hl2 t25 hi2 hix hb3 hv2 ea) ?_
     exact zK
    ·have h1:j=1:=by omega
     subst h1
     have hix:co 1 (.own b 0 2 2 1 true) (.int .i64 ((1:Nat):Int))=some (.ptr b 1):=rfl
     have ea:=na (H3.up 7) (H3.next+5) em ((hb'.mono hk3.sub).mono (Ys H3 7))
     refine zW (gf hl2 t25 hi2 hix hb3 hv2 ea) ?_
     exact zK
   ·intro T2 H3 hl2 hs2 hk3 hv2
    simp only [SA,SD,SB,and_true] at hv2
    simp only [Sr,hl1] at hl2
    refine zW (aB hl2 hv2) ?_
    exact ⟨by rw [el,em]; exact Yo _ _ _,zK⟩
  ·obtain ⟨N,hN⟩:∃ N,N=l.length+m.length:=⟨_,rfl⟩
   rw [<- hN] at hv h0
   refine zW (aB hl1 hv) ?_
   refine XX (M2 C (m:=N) zF zO zO) ?_
   rintro _ H2 ⟨g,rfl,hg,hgn,hk2⟩
   obtain ⟨k2,_,w2⟩:=zT H zK hk2
   have hgn:H.next<=g:=by
    have:=hk1.le
    have:H1.next+3<=g:=hgn
    omega
   have hb2:=k2.get hb
   have l0:=w2 _ _ hg
   obtain ⟨z,hz⟩:∃ z,z=(List.replicate N [AV.nilSl,.bool false]).flatten:=⟨_,rfl⟩
   have zl:z.length=N*2:=by rw [hz]; simp
   rw [<- hz] at hg
   clear hz
   refine zW (aC hl1 t0 l2) ?_
   refine am H [6] (fun j vs H'=>∃ k cells,k=(if j=0 then 0 else if j=1 then l.length else N)/\vs=[.own g 0 k N 2 false]/\H'.get g=some (.cells cells t_api_Con true)/\cells.length=N*2/\Cells conE H' (cells.take (k*2)) ((l++m).take k)) (a:=0) (N:=2) rfl (by refine zW hl1 ?_ <;> rfl) (zV hl1) (SH _) zO (by simp only [Sr,hl1]; rfl) rfl (fun _ _ _ _ h=>h) zK ⟨0,z,rfl,by exact zV hl1,by exact zV hg,zl,X1 _ _⟩ ?_ ?_
   ·rintro j T2 H3 _ hj hl2 hi2 hs2 hk3 ⟨k,cells,hk,hv2,hg3,hcl,hcc⟩
    simp only [SA,SD,SB,and_true] at hv2
    have w3:=hk3.wf
    have le_hk3:=hk3.le
    have lt3:=w3 _ _ hg3
    have t25:ad T2 25=.own b 0 2 2 1 true:=(hs2.at_ 25 zU).trans (zV (aB hl1 t0))
    have hb3:=hk3.get hb
    simp only [Sr,hl1] at hl2
    have hfin:∀ H4,(H4=H3.up 7\/∃ e,H4=(H3.up 7).put g e)->Kp H H4:=fun H4 h=>by
     rcases h with rfl | ⟨e,rfl⟩
     ·exact zK
     ·exact (hk3.up 7).put hgn (by show g<H3.next+7; omega)
    by_cases h0:j=0
    ·subst h0
     have hix:co 1 (.own b 0 2 2 1 true) (.int .i64 ((0:Nat):Int))=some (.ptr b 0):=rfl
     have hk:k=0:=hk
     subst hk
     obtain ⟨cells',H4,e4,g4,c4,cc4,hH4⟩:=qW (E:=conE) (bytes:=32) (id:=H3.next+5) (k:=0) (l1:=[]) (H:=H3.up 7) hg3 zU (X1 _ _) ((ha.mono hk3.sub).mono (Ys H3 7)) rfl hcl zO zO zO
     have e4:cN (H3.up 7) (H3.next+5) 2 32 t_api_Con (.own g 0 0 N 2 false) va=some (.own g 0 (0+l.length) N 2 false,H4):=e4
     refine zW (gf hl2 t25 hi2 hix hb3 hv2 e4) ?_
     refine ⟨hfin _ hH4,l.length,cells',by simp,by simp,g4,c4,?_⟩
     rw [Vd rfl]
     rw [S8] at cc4
     exact cc4
    ·have h1:j=1:=by omega
     subst h1
     have hix:co 1 (.own b 0 2 2 1 true) (.int .i64 ((1:Nat):Int))=some (.ptr b 1):=rfl
     have hk:k=l.length:=hk
     subst hk
     rw [Vd rfl] at hcc
     obtain ⟨cells',H4,e4,g4,c4,cc4,hH4⟩:=qW (E:=conE) (bytes:=32) (id:=H3.next+5) (k:=l.length) (l1:=l) (H:=H3.up 7) hg3 zU (hcc.mono ((Ys H3 7).t _)) ((hb'.mono hk3.sub).mono (Ys H3 7)) rfl hcl zO zO zO
     have e4:cN (H3.up 7) (H3.next+5) 2 32 t_api_Con (.own g 0 l.length N 2 false) vb=some (.own g 0 (l.length+m.length) N 2 false,H4):=e4
     rw [<- hN] at e4 cc4
     refine zW (gf hl2 t25 hi2 hix hb3 hv2 e4) ?_
     refine ⟨hfin _ hH4,N,cells',by simp,by simp,g4,c4,?_⟩
     have ht:(l++m).take N=l++m:=SS (by rw [SN]; omega)
     rw [ht]
     exact cc4
   ·rintro T2 H3 hl2 hs2 hk3 ⟨k,cells,hk,hv2,hg3,hcl,hcc⟩
    simp only [SA,SD,SB,and_true] at hv2
    have hk:k=N:=hk
    subst hk
    have ht:(l++m).take k=l++m:=SS (by rw [SN]; omega)
    have ht2:cells.take (k*2)=cells:=SS zO
    rw [ht,ht2] at hcc
    have w3:=hk3.wf
    have le_hk3:=hk3.le
    simp only [Sr,hl1] at hl2
    refine zW (aB hl2 hv2) ?_
    have hs3:SlV conE t_api_Con H3 (.own g 0 k k 2 false) (l++m):=⟨cells,Yi hg3 hcl zO,fun _ _ _ _ _ _ e=>by cases e; exact ⟨_,_,hg3⟩,hcc⟩
    exact ⟨hs3.mono (Ys H3 _),zK⟩
end
end Go.Proofs.YthjdfjlhjnihfaaGreat.Ev
