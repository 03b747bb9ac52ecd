/- A part. -/
import Derived.Test.YteaefaohjlmjdaaGreatA0
import Derived.Test.YteaefaohjlmjdaaGreatSize2
set_option linter.all false
namespace Go.Proofs.YteaefaohjlmjdaaGreat.Ev
open Go Nn
def Sep (v w:AV):Prop:=∀ b,gY v=some b->gY w≠some b
def Sep.symm {v w:AV} (h:Sep v w):Sep w v:=fun b h1 h2=>h b h2 h1
def Wr (H0 H:Heap) (v:AV) (l:List (List Int)) (c:Nat):Prop :=
 (v=.nilSl/\l=[])\/∃ b cells,v=.own b 0 l.length c 1 false/\H.get b=some (.cells cells af true)/\cells.length=c/\l.length<=c/\Cells rowsE H (cells.take l.length) l/\H0.next<=b
def Wr.sl {H0 H:Heap} {v:AV} {l:List (List Int)} {c:Nat} (h:Wr H0 H v l c):dK H v l:=by
 rcases h with ⟨rfl,rfl⟩ | ⟨b,cells,rfl,hb,hc,hl,hcl,-⟩
 ·exact SlV.nil _ _ _
 ·refine ⟨_,⟨hl,(fun s h=>by cases h),l.length,rfl,?_⟩,fun _ _ _ _ _ _ e=>by cases e; exact ⟨_,_,hb⟩,hcl⟩;simp only [aN,hb];rw [if_pos ⟨rfl,Vb _,by show 0+l.length*1<=_; omega⟩];show some ((cells.drop 0).take (l.length*1))=_;rw [List.drop_zero,WE]
def Bl.wr {H0 H:Heap} {v:AV} {l:List (List Int)} (h:Bl rowsE af H0 H v l):Wr H0 H v l l.length:=by
 rcases h with h | ⟨b,cells,h1,h2,h3,h4⟩
 ·exact .inl h
 ·have hc:cells.length=l.length:=by have:=h3.1; simpa [bS] using this
  exact .inr ⟨b,cells,h1,h2,hc,Vb _,by rw [<- hc,VD]; exact h3,h4⟩
def Wr.bl {H0 H:Heap} {v:AV} {l:List (List Int)} (h:Wr H0 H v l l.length):Bl rowsE af H0 H v l:=by
 rcases h with h | ⟨b,cells,h1,h2,h3,h4,h5,h6⟩
 ·exact .inl h
 ·rw [<- h3,VD] at h5;exact .inr ⟨b,cells,h1,h2,h5,h6⟩
def Wr.mono {H0 H H':Heap} (hs:Sub H H') {v:AV} {l:List (List Int)} {c:Nat} (h:Wr H0 H v l c):Wr H0 H' v l c:=by
 rcases h with h | ⟨b,cells,h1,h2,h3,h4,h5,h6⟩
 ·exact .inl h
 ·exact .inr ⟨b,cells,h1,hs.get _ _ h2,h3,h4,h5.mono (hs.t _),h6⟩
def Wr.base {H0 H1 H:Heap} (hs:H0.next<=H1.next) {v:AV} {l:List (List Int)} {c:Nat} (h:Wr H1 H v l c):Wr H0 H v l c:=by
 rcases h with h | ⟨b,cells,h1,h2,h3,h4,h5,h6⟩
 ·exact .inl h
 ·exact .inr ⟨b,cells,h1,h2,h3,h4,h5,Vn hs h6⟩
def Wr.put {H0 H:Heap} {v:AV} {l:List (List Int)} {c b:Nat} {e:Ent} (h:Wr H0 H v l c) (hb:gY v≠some b) (ht:NoTy (tk intE aa).tys H b):Wr H0 (H.put b e) v l c:=by
 rcases h with h | ⟨b',cells,h1,h2,h3,h4,h5,h6⟩
 ·exact .inl h
 ·refine .inr ⟨b',cells,h1,?_,h3,h4,h5.mono (SubT.puts (SubT.refl _ _) ht),h6⟩;rw [az (fun e1=>hb (by rw [h1,e1]; rfl))];exact h2
def Wr.old {H0 H:Heap} {v:AV} {l:List (List Int)} {c b:Nat} (hw:Wf H) (h:Wr H0 H v l c) (hb:gY v=some b):b<H.next:=by
 rcases h with ⟨rfl,-⟩ | ⟨b',cells,rfl,h2,-⟩
 ·cases hb
 ·cases hb; exact hw _ _ h2
def RowV.put_ne {H:Heap} {v:AV} {l:List Int} {b:Nat} {e:Ent} (h:RowV H v l) (hb:gY v≠some b) (hn:NoTy [ae] H b):RowV (H.put b e) v l:=by
 obtain ⟨cells,⟨h0,h1,n,h2,h3⟩,ht,hc⟩:=h;refine ⟨cells,⟨h0,h1,n,h2,?_⟩,fun b' off n' c z x e'=>?_,hc.mono (SubT.puts (SubT.refl _ _) hn)⟩
 ·unfold aN at h3 ⊢;split at h3
  ·rename_i b' off m c sz ex;rw [az (fun e1=>hb (by rw [<- e1]; rfl))]; exact h3
  ·exact h3
  ·exact h3
  ·exact h3
  ·cases h3
 ·obtain ⟨cs,r,hb'⟩:=ht b' off n' c z x e';exact ⟨cs,r,by rw [az (fun e1=>hb (by rw [e',<- e1]; rfl))]; exact hb'⟩
def Wr.store {H0 H:Heap} {v va:AV} {l:List (List Int)} {x:List Int} {c j:Nat} (h:Wr H0 H v l c) (hj:j<l.length) (hx:RowV H va x) :
  ∃ b cells,gY v=some b/\H0.next<=b/\H.get b=some (.cells cells af true)/\j<cells.length/\cI 1 v (.int .i64 (j:Int))=some (.ptr b j)/\Wr H0 (H.put b (.cells (cells.set j va) af true)) v (l.set j x) c:=by
 rcases h with ⟨-,rfl⟩ | ⟨b,cells,rfl,h2,h3,h4,h5,h6⟩
 ·simp at hj
 ·have hjc:j<cells.length:=zO;refine ⟨b,cells,rfl,h6,h2,hjc,?_,.inr ⟨b,_,by rw [U4],ap _ _ _,by rw [U4]; exact h3,by rw [U4]; exact h4,?_,h6⟩⟩
  ·have:=ke (b:=b) (off:=0) (c:=c) (sz:=1) (x:=false) (k:=.i64) hj
   rw [VQ,WE] at this;exact this
  ·have hn:NoTy (tk intE aa).tys H b:=NoTy.ty h2 zU;have hst:SubT (tk intE aa).tys H (H.put b (.cells (cells.set j va) af true)):=SubT.puts (SubT.refl _ _) hn;rw [U4,List.take_set];exact Cells.mono (E:=rowsE) hst (h5.set1 hj hx)
def Wr.elem {H0 H:Heap} {v:AV} {l:List (List Int)} {c j:Nat} (h:Wr H0 H v l c) (hj:j<l.length) :
  ∃ w,RowV H w l[j]/\aX H none (au v j)=some w/\cI 1 v (.int .i64 (j:Int))=some (au v j):=by
 obtain ⟨w,h1,h2⟩:=dl h.sl hj;exact ⟨w,h1,h2,SlV.idx1 h.sl .i64 j hj⟩
def UnderV (H0 H:Heap) (ub:Nat) (u:Lin.Under):Prop:=∃ ql qr qd cl,H.get ub=some (.cells [ql,qr,qd] aR true)/\Wr H0 H ql u.lines cl/\Wr H0 H qr u.rays u.rays.length/\Wr H0 H qd u.done u.done.length/\Sep ql qr/\Sep ql qd/\Sep qr qd
def UnderV.mono {H0 H H':Heap} {ub:Nat} {u:Lin.Under} (hs:Sub H H') (h:UnderV H0 H ub u):UnderV H0 H' ub u:=by
 obtain ⟨ql,qr,qd,cl,h1,h2,h3,h4,h5⟩:=h;exact ⟨ql,qr,qd,cl,hs.get _ _ h1,h2.mono hs,h3.mono hs,h4.mono hs,h5⟩
def RT (a u:List Int):Lin.dot a (Lin.upV a u)=if Lin.dot a u<0 then -(Lin.dot a u) else Lin.dot a u:=by
 unfold Lin.upV;split
 ·rw [Lin.dot_scl]; omega
 ·rfl
def RS {d:Nat} {a u:List Int} (hu:u.length=d):(Lin.upV a u).length=d:=by
 unfold Lin.upV;split
 ·simp [Lin.scl,hu]
 ·exact hu
def Th {f:Nat} {a u:List Int} (hu:∀ z∈u,Bt f z):∀ z∈Lin.upV a u,Bt f z:=by
 unfold Lin.upV;split
 ·exact Hv hu
 ·exact hu
structure FoldC (Hs H0 H:Heap) (ub:Nat) (LV qr qd:AV) (D:List (List Int)) (bx:Nat) (z:Int) (vl va:AV) (up a:List Int) (sb:Nat):Prop where
 u:H.get ub=some (.cells [LV,qr,qd] aR true)
 d:Wr H0 H qd D D.length
 bx:BoxI H bx z
 vl:RowV H vl up
 va:RowV H va a
 sb:H.get sb=some (.cells [.ptr ub 0,.ptr ub 1] mh true)
 oth:∀ b e,Hs.get b=some e->b≠ub->gY qr≠some b->H.get b=some e
def FoldC.mono {Hs H0 H H':Heap} {ub:Nat} {LV qr qd:AV} {D:List (List Int)} {bx:Nat} {z:Int} {vl va:AV} {up a:List Int} {sb:Nat} (hs:Sub H H') (h:FoldC Hs H0 H ub LV qr qd D bx z vl va up a sb):FoldC Hs H0 H' ub LV qr qd D bx z vl va up a sb :=
 ⟨hs.get _ _ h.u,h.d.mono hs,h.bx.mono hs,h.vl.mono hs,h.va.mono hs,hs.get _ _ h.sb,fun b e h1 h2 h3=>hs.get _ _ (h.oth b e h1 h2 h3)⟩
def Nc {H:Heap} {b c t1 t2:Nat} {x y:List AV} {r1 r2:Bool} (h1:H.get b=some (.cells x t1 r1)) (h2:H.get c=some (.cells y t2 r2)) (hn:t1≠t2):b≠c:=fun e=>by
 subst e;rw [h1] at h2
 injection h2 with h; injection h with _ h; exact hn h
def FoldC.put {Hs H0 H:Heap} {ub:Nat} {LV qr qd:AV} {D:List (List Int)} {bx:Nat} {z:Int} {vl va:AV} {up a:List Int} {sb b:Nat} {cells cs:List AV} (h:FoldC Hs H0 H ub LV qr qd D bx z vl va up a sb) (hb:H.get b=some (.cells cells af true)) (hd:gY qd≠some b) (ho:∀ e,Hs.get b=some e->gY qr=some b):FoldC Hs H0 (H.put b (.cells cs af true)) ub LV qr qd D bx z vl va up a sb:=by
 have n1:NoTy (tk intE aa).tys H b:=NoTy.ty hb zU;have n2:NoTy [ae] H b:=NoTy.ty hb zU;obtain ⟨q,hq1,hq2⟩:=h.bx;refine ⟨?_,h.d.put hd n1,⟨q,?_,SlV.monoT (E:=bS cj) (SubT.puts (SubT.refl _ _) n2) hq2⟩,SlV.monoT (E:=intE) (SubT.puts (SubT.refl _ _) n1) h.vl,SlV.monoT (E:=intE) (SubT.puts (SubT.refl _ _) n1) h.va,?_,fun c e h1 h2 h3=>?_⟩
 ·rw [az (Nc h.u hb zU)]; exact h.u
 ·rw [az (Nc hq1 hb zU)]; exact hq1
 ·rw [az (Nc h.sb hb zU)]; exact h.sb
 ·rw [az (fun e1=>h3 (by rw [e1] at h1 ⊢; exact ho e h1))]; exact h.oth c e h1 h2 h3
section
variable {tab:Nat->Option aA} {H:Heap} {s:AV}
def Ma (C:Code tab) {H0:Heap} {ub i:Nat} {u:Lin.Under} {va:AV} {a:List Int} {d e f:Nat} (hk:Kp H0 H) (hub0:H0.next<=ub) (hu:UnderV H0 H ub u) (ha:RowV H va a) (hi:i<u.lines.length) (hd:d<=64) (hal:a.length=d) (hL:∀ r∈u.lines,r.length=d/\∀ z∈r,Bt f z) (hR:∀ r∈u.rays,r.length=d/\∀ z∈r,Bt f z) (hae:∀ z∈a,Bt e z) (hb:2*(e+f+7)+2*f+1<=8796093022208) (hbig:u.lines.length<1099511627776) (hbig2:u.rays.length<1099511627776) :
  Ans tab (.fn ie [.ptr ub 0,va,.int .i64 (i:Int)]) H fun v H'=>Kp H0 H'/\RowV H' v (Lin.upV a u.lines[i])/\UnderV H0 H' ub ⟨(u.lines.eraseIdx i).map (Lin.foldV a (Lin.upV a u.lines[i])),u.rays.map (Lin.foldV a (Lin.upV a u.lines[i])),u.done⟩/\(∀ b e,H.get b=some e->b≠ub->(∀ q1 q2 q3,H.get ub=some (.cells [q1,q2,q3] aR true)->gY q2≠some b)->H'.get b=some e)/\∀ q1 q2 q3,H.get ub=some (.cells [q1,q2,q3] aR true)->∃ q1',H'.get ub=some (.cells [q1',q2,q3] aR true):=by
 have hw:=hk.wf;obtain ⟨ql,qr,qd,cl,hub,hql,hqr,hqd,s1,s2,s3⟩:=hu;have lub:=hw _ _ hub;obtain ⟨vl,hvl,hld,hix⟩:=hql.elem hi;have hLi:=hL _ (U9 hi);refine BP C.q116 rfl rfl zU fun T hl g=>?_;have hl:T.length=81:=hl;have hrs:c_P_cone_under_fold.results=[(6,none)]:=rfl;have g0:ad T 0=.ptr ub 0:=g 0 (by simp);have g1:ad T 1=va:=g 1 (by simp);have g2:ad T 2=.int .i64 (i:Int):=g 2 (by simp);refine aS ?_;refine zW (bA hl g0 g1 g2 @aC) ?_;refine aS ?_;refine zW (iy hl g0 g1 g2 @aC hub hix hld) ?_;refine aS ?_;refine zW (bA hl g0 g1 g2 @aC) ?_;refine AnsH.use (vP C zF (ha.mono (zG H)) (hvl.mono (zG H)) (hal.trans hLi.1.symm) zO hae hLi.2 zO) ?_;rintro v H2 ⟨⟨w,rfl,hr2⟩,hk2⟩;obtain ⟨k2,_,w2⟩:=zT H zK hk2;have ow:=hr2.one;have n2:H.next+14<=H2.next:=hk2.le
 have f2:H2.get (H.next+12)=none:=hk2.free (show _<H.next+14 by omega) (hw.fresh (b:=H.next+12) zO);have m12:NoTy [ae] H2 (H.next+12):=NoTy.none f2;refine zW (bA hl g0 g1 g2 @aC) ?_;refine de (fun T' H'=>∃ vl,ad T' 6=vl/\RowV H' vl (Lin.upV a u.lines[i])/\BoxI H' (H.next+12) (Lin.dot a (Lin.upV a u.lines[i]))/\Kp H H') rfl ?_ ?_
 ·refine zW (bA hl g0 g1 g2 @aW) ?_;refine iteH.split (fun h=>?_) fun h=>?_
  ·refine zW (aQ hl g0 g1 g2) ?_;refine AnsH.use (iP C (n:=-1) zF zO zO) ?_;rintro v3 H3 ⟨hi3,hk3⟩;obtain ⟨k3,_,w3⟩:=zT H zK hk3;have b3:=hk3.get (b:=H.next+12) (e:=.cells [.bool (decide (Lin.dot a u.lines[i]<0)),w] aa true) (cH);have lt3:=w3 _ _ b3;have hw3:bJ H3 w (Lin.dot a u.lines[i]).natAbs:=SlV.mono hk3.sub (SlV.monoT (E:=bS cj) zS hr2);refine zW (aQ hl g0 g1 g2) ?_;refine AnsH.use (uJ C zF (hvl.mono (zG H)) hi3 zO (fun z hz=>(hLi.2 z hz).len zO) GV) ?_;rintro v4 H4 ⟨r4,rfl,hr4,hk4,hf4⟩;obtain ⟨k4,_,w4⟩:=zT H zK hk4;have b4:=hk4.get b3;have hw4:=hw3.mono hk4.sub;refine zW (bA hl g0 g1 g2 @b4) ?_;refine AnsH.use (Be C (z:=Lin.dot a u.lines[i]) zF ⟨w,rfl,hw4.mono (zG H4)⟩ ((oy hae hLi.2 (hal.trans hLi.1.symm) zO).sm zO)) ?_;rintro v5 H5 ⟨⟨w5,rfl,hw5⟩,hk5⟩;obtain ⟨k45,_,_⟩:=zT H4 zK hk5;have k5:Kp H H5:=Kp.trans k4 k45;have le_k5:=k5.le;have w5':=k5.wf;have b5:=k45.get b4;have lt5:=w5' _ _ b5;have ow5:=hw5.one;have m5:NoTy [ae] H5 (H.next+12):=NoTy.ty b5 zU;refine zW (dL hl g0 g1 g2 b5 @aW) ?_;have eu:Lin.upV a u.lines[i]=Lin.scl (-1) u.lines[i]:=by unfold Lin.upV; rw [if_pos h]
   have ed:Lin.dot a (Lin.upV a u.lines[i]) = -(Lin.dot a u.lines[i]):=by rw [RT,if_pos h]
   refine ⟨r4,rfl,?_,⟨w5,by rw [ed]; exact cH,by rw [ed]; exact SlV.monoT (E:=bS cj) zS hw5⟩,zK⟩;rw [eu];refine RowV.put_ne (hr4.mono k45.sub) (fun hb=>?_) m5
   have:=hf4 _ hb
   omega
  ·refine zW (bA hl g0 g1 g2 @aW) ?_;have eu:Lin.upV a u.lines[i]=u.lines[i]:=by unfold Lin.upV; rw [if_neg h]
   rw [eu];exact ⟨vl,rfl,hvl.mono (zG H),⟨w,by exact cH,SlV.monoT (E:=bS cj) zS hr2⟩,zK⟩
 ·rintro T1 H1 hs1 ⟨vl',t6,hvl',hbx,k1⟩;have w1:=k1.wf;have t0:ad T1 0=.ptr ub 0:=(hs1.at_ 0 zU).trans (zV (aD hl g0));have t1:ad T1 1=va:=(hs1.at_ 1 zU).trans (zV (aD hl g1));have t2:ad T1 2=.int .i64 (i:Int):=(hs1.at_ 2 zU).trans (zV (aD hl g2));have t7:ad T1 7=.ptr (H.next+12) 0:=(hs1.at_ 7 zU).trans (zV hl);have hl1:T1.length=81:=hs1.len.trans (by simp only [U4]; exact hl);have hub1:=k1.get hub;refine WC.wb ?_;refine zW (bA hl1 t0 t1 t2 hub1) ?_;refine AnsH.use (I5 C zF (hql.sl.mono (zG H)) zO hbig) ?_;rintro v2 H2' ⟨hk2',b,hown⟩;have e1:IntKind.i64.wrap ((i:Int)+1)=((i+1:Nat):Int):=by rw [wrap_i64] <;> omega
  refine zW (bA hl1 t0 t1 t2 e1) ?_;refine AnsH.use (GX C hk2' hown hi hbig) ?_;rintro v3 H3 ⟨rfl,hk3,⟨cells,hb3,hcn,hcl3⟩,hfr⟩;have k3:Kp H H3:=Kp.trans k1 (Kp.trans zK hk3);have le_k3:=k3.le;have w3:=k3.wf;have hub3:=k3.get hub;have hvl3:RowV H3 vl' (Lin.upV a u.lines[i]):=hvl'.mono (Kp.sub (H:=H1) (Kp.trans zK hk3));have hbx3:BoxI H3 (H.next+12) (Lin.dot a (Lin.upV a u.lines[i])):=hbx.mono (Kp.sub (H:=H1) (Kp.trans zK hk3));refine zW (aE hl1 t0 hub3) ?_;refine aF ?_;refine zD (aD hl1 t0) ?_;obtain ⟨-,-,-,-,hb0⟩:=hown;have hb0:H.next<=b:=Vn (Vn k1.le (VH _ _)) hb0
  have lb3:=w3 _ _ hb3;have lub3:=w3 _ _ hub3;have hubb:ub≠b:=zO;obtain ⟨up,hup⟩:∃ x,x=Lin.upV a u.lines[i]:=⟨_,rfl⟩
  rw [<- hup] at hvl3 hbx3 ⊢;have hupl:up.length=d:=by rw [hup]; exact RS hLi.1
  have hupb:∀ z∈up,Bt f z:=by rw [hup]; exact Th hLi.2
  obtain ⟨n,hn⟩:∃ n,n=u.lines.length:=⟨_,rfl⟩
  rw [<- hn] at hcn hcl3 hi hbig ⊢;obtain ⟨L,hL0⟩:∃ L,L=u.lines.eraseIdx i:=⟨_,rfl⟩
  have hLlen:L.length=n-1:=by rw [hL0,Zi zO,hn]
  have hLm:∀ r∈L,r.length=d/\∀ z∈r,Bt f z:=fun r hr=>hL r (VM (by rw [hL0] at hr; exact hr));rw [<- hL0] at hcl3 ⊢;obtain ⟨LV,hLV⟩:∃ v,v=AV.own b 0 (n-1) n 1 false:=⟨_,rfl⟩
  rw [<- hLV];have hlv0:Wr H0 (((H3.up 9).put ub (.cells [LV,qr,qd] aR true)).put (H3.next+6) (.cells [.ptr ub 0,.ptr ub 1] mh true)) LV L n:=by
   have m1:NoTy (tk intE aa).tys H3 ub:=NoTy.ty hub3 zU;have m2:NoTy (tk intE aa).tys H3 (H3.next+6):=NoTy.none (w3.fresh zO);refine .inr ⟨b,cells,by rw [hLV,hLlen],by exact zV hb3,hcn,zO,?_,by have:=hk.le; omega⟩;rw [hLlen];exact Cells.mono (E:=rowsE) zS hcl3
  have keepW:∀ {v l c},Wr H0 H v l c->Wr H0 (((H3.up 9).put ub (.cells [LV,qr,qd] aR true)).put (H3.next+6) (.cells [.ptr ub 0,.ptr ub 1] mh true)) v l c:=fun {v l c} h=>by
   have m1:NoTy (tk intE aa).tys H3 ub:=NoTy.ty hub3 zU;have m2:NoTy (tk intE aa).tys (H3.up 9) (H3.next+6):=NoTy.none (w3.fresh (b:=H3.next+6) zO);have h3:Wr H0 (H3.up 9) v l c:=(h.mono k3.sub).mono (Sub.bump H3 9);have hne:∀ x e,(H3.up 9).get x=some (.cells e aR true)->gY v≠some x:=fun x e hx hv=>by
    rcases h3 with ⟨rfl,-⟩ | ⟨b',cells',rfl,h2,-⟩
    ·cases hv
    ·cases hv;rw [hx] at h2; injection h2 with h; injection h with _ h; exact absurd h zU
   refine (h3.put (hne ub _ hub3) m1).put (fun hv=>?_) (by
    refine NoTy.none ?_;rw [az zO]; exact w3.fresh (b:=H3.next+6) zO)
   have:=h.old hw hv
   omega
  have sLr:Sep LV qr:=fun x hx hy=>by
   rw [hLV] at hx; cases hx
   have:=hqr.old hw hy
   omega
  have sLd:Sep LV qd:=fun x hx hy=>by
   rw [hLV] at hx; cases hx
   have:=hqd.old hw hy
   omega
  obtain ⟨qs,hqs⟩:∃ qs:Nat->AV,qs=fun j=>if j=0 then LV else qr:=⟨_,rfl⟩
  obtain ⟨Ls,hLs⟩:∃ Ls:Nat->List (List Int),Ls=fun j=>if j=0 then L else u.rays:=⟨_,rfl⟩
  obtain ⟨cs,hcs⟩:∃ cs:Nat->Nat,cs=fun j=>if j=0 then n else u.rays.length:=⟨_,rfl⟩
  have hLsm:∀ j,∀ r∈Ls j,r.length=d/\∀ z∈r,Bt f z:=fun j r hr=>by
   rw [hLs] at hr;by_cases h:j=0
   ·exact hLm r (by simpa [h] using hr)
   ·exact hR r (by simpa [h] using hr)
  have hLsl:∀ j,(Ls j).length<1099511627776:=fun j=>by
   rw [hLs];by_cases h:j=0
   ·simp [h]; omega
   ·simp [h]; omega
  have hsep:∀ j m,j<2->m<2->m≠j->Sep (qs j) (qs m):=fun j m h1 h2 h3=>by
   rw [hqs];by_cases h:j=0
   ·have h4:m≠0:=zO
    simpa [h,h4] using sLr
   ·have h4:m=0:=zO
    simpa [h,h4] using sLr.symm
  have hsepd:∀ j,Sep (qs j) qd:=fun j=>by
   rw [hqs];by_cases h:j=0
   ·simpa [h] using sLd
   ·simpa [h] using s3
  have htq:∀ j,j<2->aY [LV,qr,qd] j none=some (qs j):=fun j h=>by
   rw [hqs]
   match j,h with
   | 0,_=>rfl
   | 1,_=>rfl
  have htp:∀ j,j<2->aY [AV.ptr ub 0,AV.ptr ub 1] j none=some (.ptr ub j):=fun j h=>by
   match j,h with
   | 0,_=>rfl
   | 1,_=>rfl
  obtain ⟨w',hw'⟩:∃ w',w'=Lin.foldV a up:=⟨_,rfl⟩
  rw [<- hw'];have hva3:RowV H3 va a:=ha.mono k3.sub;refine aq H0 [] (fun j _ H'=>FoldC H H0 H' ub LV qr qd u.done (H.next+12) (Lin.dot a up) vl' va up a (H3.next+6)/\∀ m,m<2->Wr H0 H' (qs m) (if m<j then (Ls m).map w' else Ls m) (cs m)) (a:=0) (N:=2) rfl (by refine zW hl1 ?_; rfl) (zV hl1) (Vj _) zO (by simp only [U4,hl1]; rfl) rfl (fun j vs H' m ⟨h1,h2⟩=>⟨h1.mono (Sub.bump H' m),fun m' hm'=>(h2 m' hm').mono (Sub.bump H' m)⟩) (by
   have kk:Kp H0 H3:=hk.trans k3
   have:=kk.le
   exact zK) ⟨⟨by exact cH,keepW hqd,?_,?_,?_,by exact cH,fun c e hc hne _=>by
   have hc3:=k3.get hc
   have:=w3 _ _ hc3
   rw [az zO,az hne]; exact hc3⟩,?_⟩ ?_ ?_
  ·obtain ⟨q,hq1,hq2⟩:=hbx3;have lb12:=w3 _ _ hq1;have hnu:H.next+12≠ub:=zO
   have m1:NoTy [ae] H3 ub:=NoTy.ty hub3 zU;have m2:NoTy [ae] H3 (H3.next+6):=NoTy.none (w3.fresh zO);exact ⟨q,by exact zV hq1,SlV.monoT (E:=bS cj) zS hq2⟩
  ·have m1:NoTy (aa :: intE.tys) H3 ub:=NoTy.ty hub3 zU;have m2:NoTy (aa :: intE.tys) H3 (H3.next+6):=NoTy.none (w3.fresh zO);exact SlV.monoT (E:=intE) zS hvl3
  ·have m1:NoTy (aa :: intE.tys) H3 ub:=NoTy.ty hub3 zU;have m2:NoTy (aa :: intE.tys) H3 (H3.next+6):=NoTy.none (w3.fresh zO);exact SlV.monoT (E:=intE) zS hva3
  ·intro m hm;rw [if_neg zO,hqs,hLs,hcs];by_cases h:m=0
   ·simpa [h] using hlv0
   ·simpa [h] using keepW hqr
  ·rintro j T2 H5 _ hj hl2 hi2 hs2 hk5 ⟨p1,p2⟩;have w5:=hk5.wf;have le_hk5:=hk5.le;have t50:ad T2 50=.own (H3.next+6) 0 2 2 1 true:=(hs2.at_ 50 zU).trans (zV hl1);have t7a:ad T2 7=.ptr (H.next+12) 0:=(hs2.at_ 7 zU).trans (zV (aD hl1 t7));have t1a:ad T2 1=va:=(hs2.at_ 1 zU).trans (zV (aD hl1 t1));have t6a:ad T2 6=vl':=(hs2.at_ 6 zU).trans (zV (aD hl1 t6));have hqj:=p2 j hj;rw [if_neg zO] at hqj;have htq':=htq j hj;have htp':=htp j hj;have p1u:=p1.u;have p1s:=p1.sb;simp only [U4,hl1] at hl2;refine zW (iy hl2 t50 hi2 p1s htp' p1u htq' hqj.sl.lenV) ?_;refine aq H0 [] (fun k _ H'=>FoldC H H0 H' ub LV qr qd u.done (H.next+12) (Lin.dot a up) vl' va up a (H3.next+6)/\Wr H0 H' (qs j) (jy w' (Ls j) k) (cs j)/\∀ m,m<2->m≠j->Wr H0 H' (qs m) (if m<j then (Ls m).map w' else Ls m) (cs m)) (a:=0) (N:=(Ls j).length) rfl (by refine zW hl2 ?_; rfl) (zV hl2) (Vj _) (by have:=hLsl j; omega) (by simp only [U4,hl2]; rfl) rfl (fun k vs H' m ⟨h1,h2,h3⟩=>⟨h1.mono (Sub.bump H' m),h2.mono (Sub.bump H' m),fun m' a b=>(h3 m' a b).mono (Sub.bump H' m)⟩) zK ⟨p1.mono (Sub.bump H5 _),by rw [zY]; exact hqj.mono (Sub.bump H5 _),fun m hm _=>(p2 m hm).mono (Sub.bump H5 _)⟩ ?_ ?_
   ·rintro k T3 H6 _ hkk hl3 hi3 hs3 hk6 ⟨q1,q2,q3⟩;have w6:=hk6.wf;have le_hk6:=hk6.le;have t58:ad T3 58=qs j:=(hs3.at_ 58 zU).trans (zV hl2);have t9:ad T3 9=.ptr ub j:=(hs3.at_ 9 zU).trans (zV hl2);have t7b:ad T3 7=.ptr (H.next+12) 0:=(hs3.at_ 7 zU).trans (zV (aD hl2 t7a));have t1b:ad T3 1=va:=(hs3.at_ 1 zU).trans (zV (aD hl2 t1a));have t6b:ad T3 6=vl':=(hs3.at_ 6 zU).trans (zV (aD hl2 t6a));have hsl:=so w' (Ls j) (W0 hkk);obtain ⟨vr,hvr,hldr,hixr⟩:=q2.elem (j:=k) zO;have hgk:(jy w' (Ls j) k)[k]'zO=(Ls j)[k]:=by
     have:=Cl w' (Ls j) hkk
     rw [U7 zO] at this;exact Option.some.inj this
    rw [hgk] at hvr;have hRk:=hLsm j _ (U9 hkk);have q1u:=q1.u;obtain ⟨bq,hbq,hbn⟩:=q1.bx;simp only [U4,hl2] at hl3;refine zW (bA hl3 t58 hi3 hixr hldr) ?_;refine aF ?_;refine zD (jW hl3 t9 t7b t1b t6b q1u htq' hbq @al) ?_;have hda:=oy hae hRk.2 (hal.trans hRk.1.symm) zO;refine AnsH.use (vP C zF (q1.va.mono (zG H6)) (hvr.mono (zG H6)) (hal.trans hRk.1.symm) zO hae hRk.2 zO) ?_;rintro v7 H7 ⟨hr7,hk7⟩;obtain ⟨k67,_,w7⟩:=zT H6 zK hk7;have r1u:=k67.get q1u;have r1b:=k67.get hbq;refine zD (iO hl3 t9 t7b t1b t6b q1u htq' hbq @al r1u r1b) ?_;refine AnsH.use (Be C zF hr7 (hda.sm zO)) ?_;rintro v8 H8 ⟨hr8,hk8⟩;have k68:Kp H6 H8:=Kp.trans k67 (Kp.trans zK hk8);have le_k68:=k68.le;have w8:=k68.wf;have x1u:=k68.get q1u;have x1b:=k68.get hbq;refine zD (Kn hl3 t9 t7b t1b t6b q1u htq' hbq @al r1u r1b x1u x1b) ?_;have hdu:=oy hae hupb (hal.trans hupl.symm) zO;refine AnsH.use (Gj C zF (m:=Lin.dot a up) (n:=-(Lin.dot a (Ls j)[k])) ⟨bq,rfl,hbn.mono (zG H6)⟩ (hr8.mono (zG H8)) (hvr.mono (zG H6)) (q1.vl.mono (zG H6)) (hRk.1.trans hupl.symm) zO hdu hda.neg hRk.2 hupb zO) ?_;rintro v9 H9 ⟨hr9,hk9⟩;have k69:Kp H6 H9:=Kp.trans k68 (Kp.trans zK hk9);have le_k69:=k69.le;have k09:Kp H0 H9:=hk6.trans k69;have le_k09:=k09.le;have w9:=k69.wf;have y1u:=k69.get q1u;have y1b:=k69.get hbq;obtain ⟨b',cells',hb',hb0',hg',hjc',hix',hwr'⟩:=(q2.mono k69.sub).store (j:=k) zO hr9;have o9:=hr9.one;have lb':=w9 _ _ hg';refine zD (Pr hl3 t9 t7b t1b t6b q1u htq' hbq @al r1u r1b x1u x1b y1u y1b hix' hg' hjc') ?_;have hwk:w' (Ls j)[k]=Lin.prime (Lin.mix (Lin.dot a up) (Ls j)[k] (-(Lin.dot a (Ls j)[k])) up):=by rw [hw']; rfl
    refine ⟨zK,(q1.mono k69.sub).put hg' (hsepd j _ hb') (fun e he=>by
     have hlt:=hw _ _ he;rw [hqs] at hb';by_cases hj0:j=0
     ·simp only [hj0,if_true] at hb';rw [hLV] at hb';cases hb';omega
     ·simp only [hj0,if_false] at hb';exact hb'),?_,fun m hm hne=>((q3 m hm hne).mono k69.sub).put (hsep j m hj hm hne _ hb') (NoTy.ty hg' zU)⟩
    rw [<- Ck w' (Ls j) hkk,hwk];exact hwr'
   ·rintro T3 H6 hl3 hs3 hk6 ⟨q1,q2,q3⟩;simp only [U4,hl2] at hl3;rw [Cm] at q2;refine zW hl3 ?_;refine ⟨hk6,q1,fun m hm=>?_⟩;by_cases h:m=j
    ·subst h; rw [if_pos zO]; exact q2
    ·have:=q3 m hm h
     by_cases h2:m<j
     ·rw [if_pos h2] at this; rw [if_pos zO]; exact this
     ·rw [if_neg h2] at this; rw [if_neg zO]; exact this
  ·rintro T2 H5 hl2 hs2 hk5 ⟨p1,p2⟩;have w5:=hk5.wf;have le_hk5:=hk5.le;have t6a:ad T2 6=vl':=(hs2.at_ 6 zU).trans (zV (aD hl1 t6));simp only [U4,hl1] at hl2;refine zW (aE hl2 t6a hrs) ?_;have p0:=p2 0 zO;have p1':=p2 1 zO;rw [if_pos zO,hqs,hLs,hcs] at p0 p1';simp only [if_true,Nat.one_ne_zero,if_false] at p0 p1';have e:(u.rays.map w').length=u.rays.length:=by simp
   refine ⟨zK,p1.vl.mono (Sub.bump H5 _),⟨LV,qr,qd,n,p1.u,p0.mono (Sub.bump H5 _),?_,p1.d.mono (Sub.bump H5 _),sLr,sLd,s3⟩,fun c e hc hne hq=>p1.oth c e hc hne (hq ql qr qd (by first | exact hub | rfl)),fun q1 q2 q3 h=>by
    try rw [hub] at h
    cases h;exact ⟨LV,p1.u⟩⟩
   show Wr H0 _ qr (u.rays.map w') (u.rays.map w').length;rw [e];exact p1'.mono (Sub.bump H5 _)
end
section
variable {tab:Nat->Option aA} (ev:Src->AV) (H:Heap) (id:Nat) (Q:AV->Heap->Prop)
def ML:mR tab ev H id .mkmap Q=Q (.map id) (H.put id (.map [])):=by
 rw [ca,gH tab ev H id Q (o:=.mkmap) (fun f a e=>by cases e) rfl]; rfl
def oC (kd:BK) (z:AV) (x i:Src) (ok:Bool):mR tab ev H id (.lookup kd z x i ok) Q=gL (tp H kd z (ev x) (ev i) ok) (fun v=>Q v H) ():=by
 rw [ca,gH tab ev H id Q (o:=.lookup kd z x i ok) (fun f a e=>by cases e) rfl];show h9 ((tp H kd z (ev x) (ev i) ok).map fun v=>(v,H)) _=_;cases tp H kd z (ev x) (ev i) ok <;> rfl
def Ks (kd:BK) (m k v:Src):mR tab ev H id (.mapUpd kd m k v) Q=gL (nj H kd (ev m) (ev k) (ev v)) (fun H'=>Q .undef H') ():=by
 rw [ca,gH tab ev H id Q (o:=.mapUpd kd m k v) (fun f a e=>by cases e) rfl];show h9 ((nj H kd (ev m) (ev k) (ev v)).map fun H'=>(AV.undef,H')) _=_;cases nj H kd (ev m) (ev k) (ev v) <;> rfl
theorem GZ {kd:BK} {z:AV} {x i:Src} {ok:Bool}:uI (.lookup kd z x i ok)=true:=rfl
end
def qg (es:List (AV × AV)):Prop:=∀ p∈es,∃ z,p.1=.int .i64 z
def gB (es:List (AV × AV)) (z:Int):AV:=match oV (.int .i64 z) es with
 | some (some v)=>v
 | _=>.nilSl
def ID:∀ {es:List (AV × AV)},qg es->∀ z,∃ o,oV (.int .i64 z) es=some o
 | [],_,z=>⟨none,rfl⟩
 | (k,v) :: es,h,z=>by
  obtain ⟨y,hy⟩:=h _ (Vh ..);simp only at hy;subst hy;have ih:=ID (es:=es) (fun p hp=>h p (Vd _ hp)) z;simp only [oV,iv,if_true];cases z == y with
  | true=>exact ⟨_,rfl⟩
  | false=>exact ih
def Ef {H:Heap} {mb:Nat} {es:List (AV × AV)} (hm:H.get mb=some (.map es)) (hk:qg es) (z:Int):tp H .int .nilSl (.map mb) (.int .i64 z) false=some (gB es z):=by
 obtain ⟨o,ho⟩:=ID hk z;simp only [tp,gQ,Bool.true_eq_false,if_false,yi,hm,ho,gB];cases o <;> rfl
def Tf {H:Heap} {mb:Nat} {es:List (AV × AV)} (hm:H.get mb=some (.map es)) (hk:qg es) (z:Int) (v:AV):nj H .int (.map mb) (.int .i64 z) v=some (H.put mb (.map (sV (.int .i64 z) v es))):=by
 obtain ⟨o,ho⟩:=ID hk z;simp only [nj,gQ,Bool.true_eq_false,if_false,hm,ho]
def EY:∀ {es:List (AV × AV)},qg es->∀ z v,qg (sV (.int .i64 z) v es)
 | [],_,z,v=>fun p hp=>by simp [sV] at hp; exact ⟨z,by rw [hp]⟩
 | (k,w) :: es,h,z,v=>by
  obtain ⟨y,hy⟩:=h _ (Vh ..);simp only at hy;subst hy;have ih:=EY (es:=es) (fun p hp=>h p (Vd _ hp)) z v;simp only [sV,iv,if_true];cases z == y with
  | true =>
   intro p hp;rcases VA.1 hp with rfl | hp
   ·exact ⟨z,rfl⟩
   ·exact h p (Vd _ hp)
  | false =>
   intro p hp;rcases VA.1 hp with rfl | hp
   ·exact ⟨y,rfl⟩
   ·exact ih p hp
def sB:∀ {es:List (AV × AV)},qg es->∀ z v z',gB (sV (.int .i64 z) v es) z'=if z'=z then v else gB es z'
 | [],_,z,v,z'=>by
  simp only [sV,gB,oV,iv,if_true];by_cases h:z'=z
  ·simp [h]
  ·have e:(z' == z)=false:=by simpa using h
   simp [h,e]
 | (k,w) :: es,h,z,v,z'=>by
  obtain ⟨y,hy⟩:=h _ (Vh ..);simp only at hy;subst hy;have ih:=sB (es:=es) (fun p hp=>h p (Vd _ hp)) z v z';simp only [gB] at ih;simp only [sV,iv,if_true,gB];by_cases hzy:z=y
  ·subst hzy;simp only [beq_self_eq_true,oV,iv,if_true];by_cases h:z'=z
   ·simp [h]
   ·have e:(z' == z)=false:=by simpa using h
    simp [h,e]
  ·have e1:(z == y)=false:=by simpa using hzy
   simp only [e1,oV,iv,if_true];by_cases h:z'=y
   ·subst h;simp [Ne.symm hzy]
   ·have e2:(z' == y)=false:=by simpa using h
    simp only [e2];exact ih
def Mm {H H':Heap} {id sz bytes ty c m:Nat} {v v':AV} {news:List AV} {fr:Option Nat} (h:cU H id sz bytes ty v m news fr=some (v',H')) (hc:c≠id) (hn:H.get c=none):H'.get c=none:=by
 unfold cU at h;split at h
 ·split at h
  ·cases h; exact hn
  ·split at h
   ·cases h; rw [az hc]; exact hn
   ·cases h
 ·split at h
  ·rename_i b off n c' sz' ex x cs ty' rw' hb;have hcb:c≠b:=fun e=>by rw [<- e,hn] at hb; cases hb
   split at h
   ·split at h
    ·split at h
     ·cases h; exact hn
     ·split at h
      ·cases h; rw [az hcb]; exact hn
      ·cases h
    ·split at h
     ·cases h; rw [az hc]; exact hn
     ·split at h
      ·cases h; rw [az hc,cD hcb]; exact hn
      ·cases h
   ·cases h
  ·cases h
 ·cases h
def Db {H H':Heap} {id sz bytes ty c:Nat} {v w v':AV} (h:dI H id sz bytes ty v w=some (v',H')) (hc:c≠id) (hn:H.get c=none):H'.get c=none:=by
 unfold dI at h;split at h
 ·cases h
 ·split at h
  ·cases h
  ·exact Mm h hc hn
def Frm (v:AV) (H H':Heap):Prop:=∀ b e,H.get b=some e->gY v≠some b->H'.get b=some e
def Frm.subT {α:Type} {E:fw α} {ty:Nat} {tys:List Nat} {H0 H H':Heap} {v:AV} {l:List α} (hf:Frm v H H') (h:Bl E ty H0 H v l) (hn:ty ∉ tys):SubT tys H H':=fun c cs t r ht hc=>hf c _ hc fun e=>by
 rcases h with ⟨rfl,-⟩ | ⟨b,cells,rfl,hb,-⟩
 ·cases e
 ·cases e;rw [hb] at hc; cases hc;exact hn ht
def Frm.other {α:Type} {E:fw α} {ty:Nat} {H0 H H':Heap} {v:AV} {l:List α} (hf:Frm v H H') (h:Bl E ty H0 H v l) {b:Nat} {e:Ent} (hb:H.get b=some e) (he:∀ cs,e ≠ .cells cs ty true):H'.get b=some e:=hf b e hb fun e1=>by
 rcases h with ⟨rfl,-⟩ | ⟨b',cells,rfl,hb',-⟩
 ·cases e1
 ·cases e1;rw [hb] at hb'; cases hb';exact he _ rfl
def Frm.bl {α β:Type} {E:fw α} {E':fw β} {ty:Nat} {H0 H H':Heap} {v w:AV} {l:List α} {m:List β} (hf:Frm v H H') (h:Bl E ty H0 H v l) (hw:Bl E' ty H0 H w m) (hs:Sep v w) (ht:ty ∉ E'.tys):Bl E' ty H0 H' w m:=by
 rcases hw with hw | ⟨b,cells,rfl,hb,hc,h0⟩
 ·exact .inl hw
 ·exact .inr ⟨b,cells,rfl,hf b _ hb fun e=>hs b e rfl,hc.mono (hf.subT h ht),h0⟩
def Bl.push2 {α:Type} {E:fw α} {ty ty2 bytes id id2:Nat} {H0 H:Heap} {v:AV} {l:List α} {cs:List AV} {a:α} (h:Bl E ty H0 H v l) (hty:ty ∉ E.tys) (hk:Kp H0 H) (hr:E.R H cs a) (hid:H0.next<=id) (hid':id<H.next) (hf:H.get id=none) (hid2:H0.next<=id2) (hid2':id2<H.next) (hf2:H.get id2=none) (hne:id≠id2)
  (hb:(l.length+1)*bytes<=70368744177664) (hl:l.length+1<4611686018427387904) :
  ∃ n H',dI (H.put id2 (.cells cs ty2 true)) id E.sz bytes ty v (.own id2 0 1 1 E.sz true)=some (.own id 0 n n E.sz false,H')/\Bl E ty H0 H' (.own id 0 n n E.sz false) (l++[a])/\Kp H0 H'/\H'.next=H.next/\Frm v H H'/\(∀ c,c≠id->c≠id2->H.get c=none->H'.get c=none):=by
 have hsub:Sub H (H.put id2 (.cells cs ty2 true)):=aJ hf2;have hk':Kp H0 (H.put id2 (.cells cs ty2 true)):=hk.put hid2 hid2';have hy:SlV E ty2 (H.put id2 (.cells cs ty2 true)) (.own id2 0 1 1 E.sz true) [a] :=
  (show Own E ty2 H0 _ id2 true (.own id2 0 1 1 E.sz true) [a] from ⟨cs,rfl,ap _ _ _,Cells.one (E.mono (hsub.t _) hr),hid2⟩).sl
 have hvne:∀ b n,v=.own b 0 n n E.sz false->b≠id2:=fun b n hv e=>by
  rcases h with ⟨h,-⟩ | ⟨b',cells,h,hb',-⟩
  ·rw [h] at hv; cases hv
  ·rw [h] at hv; cases hv;rw [e,hf2] at hb'; cases hb'
 obtain ⟨v',H',e1,e2,e3,e4,e5,e6⟩:=(h.mono hsub).app (id:=id) (bytes:=bytes) hty hk' hy hid hid' (by rw [az hne]; exact hf) (fun b n hv off m c z x hw=>by cases hw; exact hvne _ _ hv rfl) hb hl;obtain ⟨n,rfl⟩:=e6 (by simp);refine ⟨n,H',e1,e2,e3,e4,fun b e hbe he=>e5 b e (hsub.get _ _ hbe) fun n hv=>he (by rw [hv]; rfl),fun c h1 h2 h3=>Db e1 h1 (by rw [az h2]; exact h3)⟩
def Bl.push1 {α:Type} {E:fw α} {ty ty2 bytes id id2 k:Nat} {H0 H:Heap} {v:AV} {l:List α} {cs:List AV} {a:α} (h:Bl E ty H0 H v l) (hty:ty ∉ E.tys) (hk:Kp H0 H) (hr:E.R H cs a) (hid:H.next<=id) (hidk:id<H.next+k) (hid2:H.next<=id2) (hid2k:id2<H.next+k) (hne:id≠id2)
  (hb:(l.length+1)*bytes<=70368744177664) (hl:l.length+1<4611686018427387904) :
  ∃ n H',dI ((H.up k).put id2 (.cells cs ty2 true)) id E.sz bytes ty v (.own id2 0 1 1 E.sz true)=some (.own id 0 n n E.sz false,H')/\Bl E ty H0 H' (.own id 0 n n E.sz false) (l++[a])/\Kp H0 H'/\H'.next=H.next+k/\Frm v H H'/\(∀ c,c≠id->c≠id2->H.get c=none->H'.get c=none):=by
 have hle:=hk.le;exact Bl.push2 (H:=H.up k) (h.mono (Sub.bump H k)) hty (hk.up k) (E.mono ((Sub.bump H k).t _) hr) zO hidk (hk.wf.fresh (b:=id) hid) zO hid2k (hk.wf.fresh (b:=id2) hid2) hne hb hl
def Ae (a:List Int) (R:List (List Int)) (k:Nat) (s:Int):List Int:=((List.range k).filter fun i=>ik (Lin.dot a (R.getD i [])) == s).map fun i:Nat=>(i:Int)
def Hr (a:List Int) (R:List (List Int)) (k:Nat) (s:Int):Ae a R (k+1) s=Ae a R k s++if ik (Lin.dot a (R.getD k []))=s then [(k:Int)] else []:=by
 unfold Ae;rw [ZI,Wo,VW];congr 1;by_cases h:ik (Lin.dot a (R.getD k []))=s
 ·have e:List.filter (fun i=>ik (Lin.dot a (R.getD i [])) == s) [k]=[k]:=Yt (p:=fun i=>ik (Lin.dot a (R.getD i [])) == s) (beq_iff_eq.2 h);rw [if_pos h,e]; rfl
 ·have e:List.filter (fun i=>ik (Lin.dot a (R.getD i [])) == s) [k]=[]:=Yu (p:=fun i=>ik (Lin.dot a (R.getD i [])) == s) (fun h'=>h (beq_iff_eq.1 h'));rw [if_neg h,e]; rfl
def KP (a:List Int) (R:List (List Int)) (k:Nat) (s:Int):(Ae a R k s).length<=k:=by
 unfold Ae;rw [Vc];exact Vn (Wn _ _) (by simp)
structure SidesV (H0 H:Heap) (mb:Nat) (a:List Int) (R:List (List Int)) (k:Nat) (es:List (AV × AV)):Prop where
 get:H.get mb=some (.map es)
 keys:qg es
 bl:∀ s,BS H0 H (gB es s) (Ae a R k s)
 sep:∀ s s',s≠s'->Sep (gB es s) (gB es s')
def SidesV.mono {H0 H H':Heap} {mb:Nat} {a:List Int} {R:List (List Int)} {k:Nat} {es:List (AV × AV)} (hs:Sub H H') (h:SidesV H0 H mb a R k es):SidesV H0 H' mb a R k es :=
 ⟨hs.get _ _ h.get,h.keys,fun s=>(h.bl s).mono hs,h.sep⟩
abbrev Sp:fw (List Nat):=bS (tk (bS cj) ae)
structure CutV (H H':Heap) (mb:Nat) (a:List Int) (R D:List (List Int)) (k:Nat) (vm vd:AV) (es:List (AV × AV)) (Ws:List (List Nat)):Prop where
 bm:Bl Sp d9 H H' vm Ws
 wl:Ws.length=k
 wok:∀ t (h:t<R.length) (h':t<Ws.length),qf (zeros R[t] D) Ws[t]
 bd:Bl intE aa H H' vd ((R.take k).map (Lin.dot a))
 sd:SidesV H H' mb a R k es
def CutV.mono {H H' H'':Heap} {mb:Nat} {a:List Int} {R D:List (List Int)} {k:Nat} {vm vd:AV} {es:List (AV × AV)} {Ws:List (List Nat)} (hs:Sub H' H'') (h:CutV H H' mb a R D k vm vd es Ws):CutV H H'' mb a R D k vm vd es Ws :=
 ⟨h.bm.mono hs,h.wl,h.wok,h.bd.mono hs,h.sd.mono hs⟩
def NoTy.map {tys:List Nat} {H:Heap} {b:Nat} {es:List (AV × AV)} (h:H.get b=some (.map es)):NoTy tys H b:=fun cs t r _ e=>by rw [h] at e; cases e
def Bl.blk {α:Type} {E:fw α} {ty:Nat} {H0 H:Heap} {v:AV} {l:List α} (h:Bl E ty H0 H v l) {b:Nat} (hb:gY v=some b):∃ cells,H.get b=some (.cells cells ty true):=by
 rcases h with ⟨rfl,-⟩ | ⟨b',cells,rfl,h1,-⟩
 ·cases hb
 ·cases hb; exact ⟨_,h1⟩
section
variable {tab:Nat->Option aA} {H:Heap} {s:AV}
def L3 (C:Code tab) {ub mb k:Nat} {ql qr qd va vm vd:AV} {a:List Int} {R D:List (List Int)} {d e f:Nat} {es:List (AV × AV)} {Ws:List (List Nat)} {T1:Tm} {H1:Heap} (hub:H.get ub=some (.cells [ql,qr,qd] aR true)) (hqr:dK H qr R) (hqd:dK H qd D) (ha:RowV H va a) (hd0:0<d) (hd:d<=64) (hal:a.length=d) (hR:∀ r∈R,r.length=d/\∀ z∈r,Bt f z) (hD:∀ r∈D,r.length=d/\∀ z∈r,Bt e z) (hD1:D.length<=1024) (hae:∀ z∈a,Bt e z) (hb:e+f+7<=8796093022208) (hbig:R.length<1099511627776) (hk1:Kp H H1) (hkk:k<R.length) (hl1:T1.length=135)
  (t0:ad T1 0=.ptr ub 0) (t1:ad T1 1=va) (t6:ad T1 6=.map mb) (t23:ad T1 23=qr) (hi1:ad T1 25=.int .i64 (k:Int)) (v7:ad T1 7=vm) (v8:ad T1 8=vd) (hmb:H.next<=mb) (hc:CutV H H1 mb a R D k vm vd es Ws) {Q:Ex->Tm->Heap->Prop}
  (hq:∀ T2 H2 vm' vd' es' Ws',T2.length=135->ad T2 7=vm'->ad T2 8=vd'->Kp H H2->CutV H H2 mb a R D (k+1) vm' vd' es' Ws'->Q .nrm T2 H2) :
  WC tab false (.seq (.region [⟨some 27,.mv (.t 25),none⟩,⟨some 28,.indexAddr 1 (.t 23) (.t 25),none⟩,⟨some 29,.load none (.t 28),none⟩,⟨some 9,.mv (.t 27),none⟩,⟨some 10,.mv (.t 29),none⟩]) <|
   .seq (.region [⟨some 30,.mv (.t 1),none⟩,⟨some 31,.mv (.t 10),none⟩,⟨some 32,.call (.c (.fn (.func pP) [] [])) [(.t 30),(.t 31)],none⟩,⟨some 11,.alloc aa [(.bool false),.nilSl],none⟩,⟨none,.store 2 (.t 11) (.t 32),none⟩]) <|
   .seq (.region [⟨some 33,.mv (.t 8),none⟩,⟨some 34,.load (some 2) (.t 11),none⟩,⟨some 35,.buildSlice aa 2 [(.bool false),.nilSl] 1 [((0,2),(.t 34))],none⟩,⟨some 36,.append 2 32 aa [(.bool false),.nilSl] (.t 33) (.t 35),none⟩,⟨some 37,.mv (.t 7),none⟩,⟨some 38,.mv (.t 0),none⟩,⟨some 39,.mv (.t 10),none⟩,⟨some 40,.call (.c (.fn (.func eJ) [] [])) [(.t 38),(.t 39)],none⟩,⟨some 41,.buildSlice d9 1 [.nilSl] 1 [((0,1),(.t 40))],none⟩,⟨some 42,.append 1 24 d9 [.nilSl] (.t 37) (.t 41),none⟩,⟨some 8,.mv (.t 36),none⟩,⟨some 7,.mv (.t 42),none⟩]) <|
   .draw [
    ⟨(some 43),.mv (.t 6),none,[(6,none)],0,[(0,[]),(1,[]),(2,[]),(3,[])]⟩,
    ⟨(some 44),.load (some 2) (.t 11),none,[(11,none)],0,[(0,[])]⟩,
    ⟨(some 45),.call (.c (.fn (.func kv) [] [])) [(.t 44)],none,[(44,(some 1))],2,[(0,[])]⟩,
    ⟨(some 46),.mv (.t 6),none,[(6,none)],0,[(0,[]),(1,[]),(2,[])]⟩,
    ⟨(some 47),.load (some 2) (.t 11),none,[(11,none)],0,[(0,[]),(1,[])]⟩,
    ⟨(some 48),.call (.c (.fn (.func kv) [] [])) [(.t 47)],none,[(47,(some 4))],2,[(1,[])]⟩,
    ⟨(some 49),.lookup .int .nilSl (.t 46) (.t 48) false,none,[(46,(some 3)),(48,(some 5))],0,[(2,[])]⟩,
    ⟨(some 50),.mv (.t 9),none,[(9,none)],0,[(0,[]),(1,[]),(2,[])]⟩,
    ⟨(some 51),.buildSlice fz 1 [(.int .i64 0)] 1 [((0,1),(.t 50))],none,[(50,(some 7))],1,[(0,[]),(1,[]),(2,[])]⟩,
    ⟨(some 52),.append 1 8 fz [(.int .i64 0)] (.t 49) (.t 51),none,[(49,(some 6)),(51,(some 8))],2,[(2,[8])]⟩,
    ⟨none,.mapUpd .int (.t 43) (.t 45) (.t 52),none,[(43,(some 0)),(45,(some 2)),(52,(some 9))],2,[(3,[])]⟩] []) T1 H1 Q:=by
 have hw:=hk1.wf0;have w1:=hk1.wf;have le_hk1:=hk1.le;have le1:=hk1.le;obtain ⟨vr,hvr,hldr⟩:=dl hqr hkk;have hixr:=SlV.idx1 hqr .i64 k hkk;have hldr1:=bE hk1.sub hldr;have hRk:=hR _ (U9 hkk);have lub:=hw _ _ hub;have hdot:=oy hae hRk.2 (hal.trans hRk.1.symm) zO;refine zW (fy hl1 t0 t1 t23 hi1 hixr hldr1) ?_;refine AnsH.use (vP C zF (ha.mono (zG H)) (hvr.mono (zG H)) (hal.trans hRk.1.symm) zO hae hRk.2 zO) ?_;rintro v H2 ⟨⟨w,rfl,hr2⟩,hk2⟩;obtain ⟨k12,_,_⟩:=zT H1 zK hk2;have k02:Kp H H2:=hk1.trans k12;have le_k02:=k02.le;have w2:=k02.wf;have n2:H1.next+10<=H2.next:=hk2.le
 have f8:H2.get (H1.next+8)=none:=hk2.free (show _<H1.next+10 by omega) (w1.fresh (b:=H1.next+8) zO);have ow:=hr2.one;obtain ⟨z,hz⟩:∃ z,z=Lin.dot a R[k]:=⟨_,rfl⟩
 rw [<- hz] at hr2 hdot ⊢;obtain ⟨Hc,hHc⟩:∃ X,X=(H2.put (H1.next+8) (.cells [.bool false,.nilSl] aa true)).put (H1.next+8) (.cells [.bool (decide (z<0)),w] aa true):=⟨_,rfl⟩
 have s2c:Sub H2 Hc:=by rw [hHc]; exact (aJ f8).put f8 _
 have k0c:Kp H Hc:=by rw [hHc]; exact zK
 have nc:Hc.next=H2.next:=by rw [hHc]; rfl
 have hbxc:Hc.get (H1.next+8)=some (.cells [.bool (decide (z<0)),w] aa true):=by rw [hHc]; exact ap _ _ _
 have k1c:Kp H1 Hc:=by rw [hHc]; exact zK
 have cc:=hc.mono k1c.sub;have hrc:bJ Hc w z.natAbs:=hr2.mono s2c;have wc:=k0c.wf;have hlen1:((R.take k).map (Lin.dot a)).length=k:=by simp; omega
 obtain ⟨n36,H36,e36,b36,k36,nx36,f36,u36⟩:=Bl.push1 (ty2:=aa) (bytes:=32) (id:=Hc.next+3) (id2:=Hc.next+2) (k:=12) (cs:=[.bool (decide (z<0)),w]) (a:=z) cc.bd zU k0c ⟨w,rfl,hrc⟩ zO zO zO zO zO zO zO;rw [nc] at e36 b36 nx36 u36;have e36':dI ((((H2.up 12).put (H1.next+8) (.cells [.bool false,.nilSl] aa true)).put (H1.next+8) (.cells [.bool (decide (z<0)),w] aa true)).put (H2.next+2) (.cells [.bool (decide (z<0)),w] aa true)) (H2.next+3) 2 32 aa vd (.own (H2.next+2) 0 1 1 2 true)=some (.own (H2.next+3) 0 n36 n36 2 false,H36):=by rw [hHc] at e36; exact e36
 refine zW (bA hl1 t0 v7 v8 e36') ?_;have w36:=k36.wf;have hubc:Hc.get ub=some (.cells [ql,qr,qd] aR true):=k0c.get hub;have hub36:=f36.other cc.bd hubc (fun cs h=>by injection h with _ h2; exact absurd h2 zU);have hbd1:∀ x,gY vd=some x->x<H1.next:=fun x hx=>by
  obtain ⟨cells,h⟩:=hc.bd.blk hx;exact w1 _ _ h
 have hbx36:H36.get (H1.next+8)=some (.cells [.bool (decide (z<0)),w] aa true):=f36 _ _ hbxc fun e=>by have:=hbd1 _ e; omega
 have hr36:bJ H36 w z.natAbs:=SlV.monoT (E:=bS cj) (f36.subT cc.bd zU) hrc;refine AnsH.use (L8 C zF hub36 (hqd.mono k36.sub) (hvr.mono k36.sub) hD1 hd0 hd hRk.1 (fun x hx=>(hD x hx).1) hRk.2 (fun x hx=>(hD x hx).2) zO) ?_;rintro v40 H40 ⟨W,hW,mW,hk40⟩;have k40:Kp H H40:=k36.trans hk40;have le_k40:=k40.le;have w40:=k40.wf;have o40:=hW.one;have le40:=hk40.le;have f40a:H40.get (H2.next+8)=none:=hk40.free zO (u36 _ zO zO (wc.fresh (b:=H2.next+8) zO));have f40b:H40.get (H2.next+9)=none:=hk40.free zO (u36 _ zO zO (wc.fresh (b:=H2.next+9) zO));have bm36:Bl Sp d9 H H36 vm Ws:=cc.bm.monoT (f36.subT cc.bd zU);have sdm:SidesV H H36 mb a R k es:=by
  refine ⟨f36.other cc.bd cc.sd.get (fun cs h=>by cases h),cc.sd.keys,fun s=>?_,cc.sd.sep⟩;exact (cc.sd.bl s).monoT (f36.subT cc.bd zU)
 obtain ⟨n42,H42,e42,b42,k42,nx42,f42,u42⟩:=Bl.push2 (ty2:=d9) (bytes:=24) (id:=H2.next+9) (id2:=H2.next+8) (cs:=[v40]) (a:=W) (bm36.mono hk40.sub) zU k40 ⟨v40,rfl,hW⟩ zO zO f40b zO zO f40a zO (by have:=hc.wl; omega) (by have:=hc.wl; omega);have e42':dI (H40.put (H2.next+8) (.cells [v40] d9 true)) (H2.next+9) 1 24 d9 vm (.own (H2.next+8) 0 1 1 1 true)=some (.own (H2.next+9) 0 n42 n42 1 false,H42):=e42;refine zW (bA hl1 t0 v7 v8 e42') ?_;have bm40:Bl Sp d9 H H40 vm Ws:=bm36.mono hk40.sub;have w42:=k42.wf;have hbx40:=hk40.get hbx36;have hbx42:=f42.other bm40 hbx40 (fun cs h=>by injection h with _ h2; exact absurd h2 zU);have hr42:bJ H42 w z.natAbs:=SlV.monoT (E:=bS cj) (f42.subT bm40 zU) (hr36.mono hk40.sub);have bd42:Bl intE aa H H42 (.own (H2.next+3) 0 n36 n36 2 false) ((R.take k).map (Lin.dot a)++[z]):=(b36.mono hk40.sub).monoT (f42.subT bm40 zU);have sd42:SidesV H H42 mb a R k es:=by
  have h40:=sdm.mono hk40.sub;refine ⟨f42.other bm40 h40.get (fun cs h=>by cases h),h40.keys,fun s=>?_,h40.sep⟩;exact (h40.bl s).monoT (f42.subT bm40 zU)
 have hsm:dJ z:=hdot.sm zO;have lk:=Ef sd42.get sd42.keys (ik z);refine aF ?_;refine zD (aE hl1 t6 hbx42) ?_;refine AnsH.eq (xJ C (z:=z) zF ⟨w,rfl,hr42.mono (zG H42)⟩ hsm) fun H45 hk45=>?_;obtain ⟨k4245,_,w45⟩:=zT H42 zK hk45;have hbx45:=k4245.get hbx42;refine zD (aQ hl1 t6 hbx42 hbx45) ?_;refine AnsH.eq (xJ C (z:=z) zF ⟨w,rfl,hr42.mono k4245.sub⟩ hsm) fun H48 hk48=>?_;have k4248:Kp H42 H48:=k4245.trans hk48;have le_k4248:=k4248.le;have w48:=k4248.wf;have sd48:=sd42.mono k4248.sub;have lk48:=Ef sd48.get sd48.keys (ik z);have le48:=k4248.le;have f48a:H48.get (H42.next+8)=none:=hk48.free (by have:=hk45.le; simp only [cT] at this; omega) (hk45.free (show _<H42.next+11 by omega) (w42.fresh (b:=H42.next+8) zO));have f48b:H48.get (H42.next+9)=none:=hk48.free (by have:=hk45.le; simp only [cT] at this; omega) (hk45.free (show _<H42.next+11 by omega) (w42.fresh (b:=H42.next+9) zO));have nx48:H42.next+11<=H48.next:=Vn hk45.le hk48.le
 have k48:Kp H H48:=k42.trans k4248;have le_k48:=k48.le;have le042:=k42.le;have hsl:=KP a R k (ik z);obtain ⟨n52,H52,e52,b52,k52,nx52,f52,u52⟩:=Bl.push2 (ty2:=fz) (bytes:=8) (id:=H42.next+9) (id2:=H42.next+8) (cs:=[.int .i64 (k:Int)]) (a:=(k:Int)) (sd48.bl (ik z)) (fun h=>by cases h) k48 ⟨_,rfl,rfl⟩ zO zO f48b zO zO f48a zO zO zO;have e52':dI (H48.put (H42.next+8) (.cells [.int .i64 (k:Int)] fz true)) (H42.next+9) 1 8 fz (gB es (ik z)) (.own (H42.next+8) 0 1 1 1 true)=some (.own (H42.next+9) 0 n52 n52 1 false,H52):=e52;have hm52:H52.get mb=some (.map es):=f52.other (sd48.bl (ik z)) sd48.get (fun cs h=>by cases h);have up52:=Tf hm52 sd48.keys (ik z) (.own (H42.next+9) 0 n52 n52 1 false);simp -dsimp (maxSteps:=1000000) (disch:=(first | omega | assumption | exact am _ | exact bp _ _ | exact bF | exact cO _ _ _ | exact bX _ _ | exact bP _ _ _ _ _ _ | exact cW _ _ | exact cp _)) only [↓xX,xW,↓Te,Td,Nat.reduceLT,Nat.reduceEqDiff,Nat.reduceAdd,reduceIte,reduceCtorEq,Nat.reduceBEq,Int.reduceEq,Int.reduceLT,Int.reduceLE,Int.reduceAdd,Int.reduceSub,hl1,t6,hbx42,hbx45,↓oC,↓Ks,GZ,lk48,hi1,e52',up52];have lmb:=k52.wf _ _ hm52;have nm:∀ tys e,SubT tys H52 (H52.put mb e):=fun tys e=>SubT.puts (SubT.refl _ _) (NoTy.map hm52);have hgR:R.getD k []=R[k]:=by simp [hkk]
 refine hq _ _ (.own (H2.next+9) 0 n42 n42 1 false) (.own (H2.next+3) 0 n36 n36 2 false) _ (Ws++[W]) (by simp only [U4]; exact hl1) (zV hl1) (zV hl1) zK ⟨?_,?_,?_,?_,ap _ _ _,EY sd48.keys _ _,fun s=>?_,fun s s' hne=>?_⟩
 ·exact ((b42.mono k4248.sub).monoT (f52.subT (sd48.bl (ik z)) zU)).monoT (nm _ _)
 ·rw [Vr,hc.wl]; rfl
 ·intro t h h';by_cases ht:t<Ws.length
  ·rw [Zz ht]; exact hc.wok t h ht
  ·have e:t=k:=by rw [Vr] at h'; have:=hc.wl; simp only [VT,Xq] at h'; omega
   subst e;rw [Zp zO]
   simpa using mW
 ·rw [Vi hkk,VW];have e:[R[k]].map (Lin.dot a)=[z]:=by rw [hz]; rfl
  rw [e];exact ((bd42.mono k4248.sub).monoT (f52.subT (sd48.bl (ik z)) zU)).monoT (nm _ _)
 ·rw [sB sd48.keys,Hr,hgR,<- hz];by_cases hs:s=ik z
  ·subst hs;rw [if_pos rfl,if_pos rfl];exact b52.monoT (nm _ _)
  ·rw [if_neg hs,if_neg (fun e=>hs e.symm),Wy];exact (f52.bl (sd48.bl (ik z)) (sd48.bl s) (sd48.sep _ _ (fun e=>hs e.symm)) (fun h=>by cases h)).monoT (nm _ _)
 ·have hnew:∀ s,Sep (.own (H42.next+9) 0 n52 n52 1 false) (gB es s):=fun s x hx hy=>by
   cases hx;obtain ⟨cells,hcl⟩:=(sd48.bl s).blk hy;rw [f48b] at hcl; cases hcl
  rw [sB sd48.keys,sB sd48.keys];by_cases h1:s=ik z
  ·by_cases h2:s'=ik z
   ·exact absurd (h1.trans h2.symm) hne
   ·rw [if_pos h1,if_neg h2]; exact hnew s'
  ·by_cases h2:s'=ik z
   ·rw [if_neg h1,if_pos h2]; exact (hnew s).symm
   ·rw [if_neg h1,if_neg h2]; exact sd48.sep s s' hne
end
def co (a:List Int) (R:List (List Int)) (s:Int):List Nat:=(List.range R.length).filter fun i=>ik (Lin.dot a (R.getD i [])) == s
theorem DG (a:List Int) (R:List (List Int)) (s:Int):Ae a R R.length s=(co a R s).map fun i:Nat=>(i:Int):=rfl
def Ac {a:List Int} {R:List (List Int)} {s:Int} {i:Nat} (h:i∈co a R s):i<R.length:=by
 unfold co at h;rw [Vp] at h
 simpa using h.1
def Ad (a:List Int) (R:List (List Int)) (s:Int):(co a R s).length<=R.length:=by
 unfold co;exact Vn (Wn _ _) (by simp)
def B3 (D:List (List Int)) (a:List Int) (eq:Bool) (R:List (List Int)) (i:Nat):List (List Int) :=
 (if eq then [] else [R.getD i []])++((co a R (-1)).filter (Lin.nearB D R i)).map fun k=>Lin.prime (Lin.mx a (R.getD i []) (R.getD k []))
def J3 (D:List (List Int)) (a:List Int) (eq:Bool) (R:List (List Int)):Lin.cutL D a eq R=(co a R 0).map (R.getD · [])++(co a R 1).flatMap (B3 D a eq R):=by
 have h0:Lin.idxs R (fun r=>Lin.dot a r == 0)=co a R 0:=by
  unfold Lin.idxs co;refine YA fun i _=>?_;rw [Wz,beq_iff_eq,beq_iff_eq,il]
 have h1:Lin.idxs R (fun r=>decide (0<Lin.dot a r))=co a R 1:=by
  unfold Lin.idxs co;refine YA fun i _=>?_;rw [Wz,decide_eq_true_eq,beq_iff_eq];unfold ik;split
  ·constructor <;> intro h <;> omega
  ·split
   ·constructor <;> intro h <;> omega
   ·constructor <;> intro h <;> omega
 have h2:Lin.idxs R (fun r=>decide (Lin.dot a r<0))=co a R (-1):=by
  unfold Lin.idxs co;refine YA fun i _=>?_;rw [Wz,decide_eq_true_eq,beq_iff_eq];unfold ik;split
  ·constructor <;> intro h <;> omega
  ·split
   ·constructor <;> intro h <;> omega
   ·constructor <;> intro h <;> omega
 unfold Lin.cutL;rw [h0,h1,h2];rfl
def Qo {D R:List (List Int)} {i k:Nat} (hi:i<R.length) (hk:k<R.length):AB (R.map fun r=>zeros r D) i k=Lin.nearB D R i k:=by
 have hz:∀ t,t<R.length->(R.map fun r=>zeros r D).getD t []=zeros (R.getD t []) D:=fun t h=>by simp [h]
 have hh:∀ t,t<R.length->Eo ((R.map fun r=>zeros r D).getD t []) ((R.map fun r=>zeros r D).getD i []) ((R.map fun r=>zeros r D).getD k [])=(D.all fun b=>!(Lin.dot b (R.getD i []) == 0 && Lin.dot b (R.getD k []) == 0) || Lin.dot b (R.getD t []) == 0):=fun t h=>by
  rw [hz t h,hz i hi,hz k hk];have hg:∀ r x,x<D.length->(zeros r D).getD x false=decide (Lin.dot (D.getD x []) r=0):=fun r x hx=>by
   simp [zeros,hx,Lin.dot_comm r]
  unfold Eo;rw [Wz,Vy,Vy,wK];constructor
  ·intro h b hb;obtain ⟨x,hx,rfl⟩:=Wg hb
   have:=h x (by simpa using hx)
   rw [hg _ x hx,hg _ x hx,hg _ x hx] at this;have e:D.getD x []=D[x]:=by simp [hx]
   rw [e] at this
   simpa using this
  ·intro h x hx;have hx:x<D.length:=by simpa using hx
   rw [hg _ x hx,hg _ x hx,hg _ x hx];have e:D.getD x []=D[x]:=by simp [hx]
   rw [e]
   have:=h D[x] (U9 hx)
   simpa using this
 unfold AB Lin.nearB;rw [Vc,Wz,Vy,Vy];constructor
 ·intro h t ht
  have:=h t ht
  rw [hh t (by simpa using ht)] at this;exact this
 ·intro h t ht
  have:=h t ht
  rw [hh t (by simpa using ht)];exact this
def CutV.frm {H H' H'':Heap} {mb:Nat} {a:List Int} {R D:List (List Int)} {k:Nat} {vm vd v:AV} {es:List (AV × AV)} {Ws:List (List Nat)} {l:List (List Int)} (h:CutV H H' mb a R D k vm vd es Ws) (hf:Frm v H' H'') (hb:Bl rowsE af H H' v l):CutV H H'' mb a R D k vm vd es Ws :=
 ⟨h.bm.monoT (hf.subT hb zU),h.wl,h.wok,h.bd.monoT (hf.subT hb zU),hf.other hb h.sd.get (fun cs e=>by cases e),h.sd.keys,fun s=>(h.sd.bl s).monoT (hf.subT hb zU),h.sd.sep⟩
section
variable {tab:Nat->Option aA} {H:Heap} {s:AV}
def El {H0 H:Heap} {v:AV} {l:List Nat} (h:BS H0 H v (l.map fun i:Nat=>(i:Int))) {j:Nat} (hj:j<l.length):aX H none (au v j)=some (.int .i64 ((l[j]:Nat):Int))/\cI 1 v (.int .i64 (j:Int))=some (au v j):=by
 obtain ⟨c,hc,hld⟩:=SlV.at1 h.sl (i:=j) (a:=((l[j]:Nat):Int)) (by simp [hj]);have hc:c=.int .i64 ((l[j]:Nat):Int):=hc;rw [hc] at hld;exact ⟨hld,SlV.idx1 h.sl .i64 j (by simpa using hj)⟩
def Bl.ge {α:Type} {E:fw α} {ty:Nat} {H0 H:Heap} {v:AV} {l:List α} (h:Bl E ty H0 H v l) {b:Nat} (hb:gY v=some b):H0.next<=b:=by
 rcases h with ⟨rfl,-⟩ | ⟨b',cells,rfl,-,-,h0⟩
 ·cases hb
 ·cases hb; exact h0
def Wr.putT {H0 H:Heap} {v:AV} {l:List (List Int)} {c b ty:Nat} {cs:List AV} {r:Bool} {e:Ent} (h:Wr H0 H v l c) (hb:H.get b=some (.cells cs ty r)) (h1:ty≠af) (h2:ty ∉ (tk intE aa).tys):Wr H0 (H.put b e) v l c:=by
 refine h.put (fun hv=>?_) (NoTy.ty hb h2);rcases h with ⟨rfl,-⟩ | ⟨b',cells,rfl,h3,-⟩
 ·cases hv
 ·cases hv;rw [hb] at h3
  injection h3 with h4; injection h4 with _ h5
  exact h1 h5
def CQ (C:Code tab) {ub mb i:Nat} {ql qr qd va vm vd vo:AV} {a:List Int} {R D pre:List (List Int)} {d e f:Nat} {es:List (AV × AV)} {Ws:List (List Nat)} {T1:Tm} {H1:Heap} (hub:H.get ub=some (.cells [ql,qr,qd] aR true)) (hqr:dK H qr R) (hd:d<=64) (hal:a.length=d) (hR:∀ r∈R,r.length=d/\∀ z∈r,Bt f z) (hD1:D.length<=1024) (hae:∀ z∈a,Bt e z) (hb:2*(e+f+7)+2*f+1<=8796093022208) (hbig:R.length<=1099000000000) (hpre:pre.length<=1100000000000) (hk1:Kp H H1) (hi:i<R.length) (hl1:T1.length=135)
  (t0:ad T1 0=.ptr ub 0) (v7:ad T1 7=vm) (v8:ad T1 8=vd) (t16:ad T1 16=.int .i64 (i:Int)) (t12:ad T1 12=vo) (t92:ad T1 92=gB es (-1)) (t93:ad T1 93=.int .i64 ((co a R (-1)).length:Int)) (t94:ad T1 94=.int .i64 0) (hc:CutV H H1 mb a R D R.length vm vd es Ws) (ho:Bl rowsE af H H1 vo pre) {Q:Ex->Tm->Heap->Prop}
  (hq:∀ T2 H2 vo',T2.length=135->ad T2 12=vo'->Kp H H2->CutV H H2 mb a R D R.length vm vd es Ws->Bl rowsE af H H2 vo' (pre++((co a R (-1)).filter (Lin.nearB D R i)).map fun k=>Lin.prime (Lin.mx a (R.getD i []) (R.getD k [])))->Q .nrm T2 H2) :
  WC tab false (QG 6 7 94 93 95 129
  (.seq (.region [
  ⟨(some 96),.indexAddr 1 (.t 92) (.t 94),none⟩,
  ⟨(some 97),.load none (.t 96),none⟩,
  ⟨(some 18),.mv (.t 97),none⟩]) <|
  .seq (.region [
  ⟨(some 98),.mv (.t 7),none⟩,
  ⟨(some 99),.mv (.t 16),none⟩,
  ⟨(some 100),.mv (.t 18),none⟩,
  ⟨(some 101),.call (.c (.fn (.func ni) [] [])) [(.t 98),(.t 99),(.t 100)],none⟩]) <|
  .cond (.t 101)
  (.draw [
   ⟨(some 102),.mv (.t 12),none,[(12,none)],0,[(0,[]),(1,[]),(2,[])]⟩,
   ⟨(some 103),.mv (.t 8),none,[(8,none)],0,[(0,[])]⟩,
   ⟨(some 104),.mv (.t 18),none,[(18,none)],0,[(0,[])]⟩,
   ⟨(some 105),.indexAddr 2 (.t 103) (.t 104),none,[(103,(some 1)),(104,(some 2))],0,[(0,[])]⟩,
   ⟨(some 106),.load (some 2) (.t 105),none,[(105,(some 3))],0,[(0,[])]⟩,
   ⟨(some 107),.call (.c (.fn (.func pN) [] [])) [(.t 106)],none,[(106,(some 4))],2,[(0,[])]⟩,
   ⟨(some 108),.mv (.t 0),none,[(0,none)],0,[(0,[]),(1,[])]⟩,
   ⟨(some 109),.nilCheck (.t 108),none,[(108,(some 6))],0,[(0,[]),(1,[])]⟩,
   ⟨(some 110),.fieldAddr 1 (.t 109),none,[(109,(some 7))],0,[(0,[]),(1,[])]⟩,
   ⟨(some 111),.load none (.t 110),none,[(110,(some 8))],0,[(0,[]),(1,[])]⟩,
   ⟨(some 112),.mv (.t 16),none,[(16,none)],0,[(0,[]),(1,[])]⟩,
   ⟨(some 113),.indexAddr 1 (.t 111) (.t 112),none,[(111,(some 9)),(112,(some 10))],0,[(0,[]),(1,[])]⟩,
   ⟨(some 114),.load none (.t 113),none,[(113,(some 11))],0,[(0,[]),(1,[])]⟩,
   ⟨(some 115),.mv (.t 8),none,[(8,none)],0,[(0,[]),(1,[])]⟩,
   ⟨(some 116),.mv (.t 16),none,[(16,none)],0,[(0,[]),(1,[])]⟩,
   ⟨(some 117),.indexAddr 2 (.t 115) (.t 116),none,[(115,(some 13)),(116,(some 14))],0,[(0,[]),(1,[])]⟩,
   ⟨(some 118),.load (some 2) (.t 117),none,[(117,(some 15))],0,[(0,[]),(1,[])]⟩,
   ⟨(some 119),.mv (.t 0),none,[(0,none)],0,[(0,[]),(1,[])]⟩,
   ⟨(some 120),.nilCheck (.t 119),none,[(119,(some 17))],0,[(0,[]),(1,[])]⟩,
   ⟨(some 121),.fieldAddr 1 (.t 120),none,[(120,(some 18))],0,[(0,[]),(1,[])]⟩,
   ⟨(some 122),.load none (.t 121),none,[(121,(some 19))],0,[(0,[]),(1,[])]⟩,
   ⟨(some 123),.mv (.t 18),none,[(18,none)],0,[(0,[]),(1,[])]⟩,
   ⟨(some 124),.indexAddr 1 (.t 122) (.t 123),none,[(122,(some 20)),(123,(some 21))],0,[(0,[]),(1,[])]⟩,
   ⟨(some 125),.load none (.t 124),none,[(124,(some 22))],0,[(0,[]),(1,[])]⟩,
   ⟨(some 126),.call (.c (.fn (.func pO) [] [])) [(.t 107),(.t 114),(.t 118),(.t 125)],none,[(107,(some 5)),(114,(some 12)),(118,(some 16)),(125,(some 23))],2,[(1,[])]⟩,
   ⟨(some 127),.buildSlice af 1 [.nilSl] 1 [((0,1),(.t 126))],none,[(126,(some 24))],1,[(2,[])]⟩,
   ⟨(some 128),.append 1 24 af [.nilSl] (.t 102) (.t 127),none,[(102,(some 0)),(127,(some 25))],2,[(2,[25])]⟩,
   ⟨(some 12),.mv (.t 128),none,[(128,(some 26))],0,[(3,[])]⟩] [])
  (.skip))) T1 H1 Q:=by
 have hw:=hk1.wf0;have lub:=hw _ _ hub;have hsl:=Ad a R (-1);have hRi:=hR _ (U9 hi);obtain ⟨vri,hvri,hldi⟩:=dl hqr hi;have xri:=SlV.idx1 hqr .i64 i hi;have gi:R.getD i []=R[i]:=by simp [hi]
 refine aq H [12] (fun m vs H'=>∃ vo,vs=[vo]/\CutV H H' mb a R D R.length vm vd es Ws/\Bl rowsE af H H' vo (pre++(((co a R (-1)).take m).filter (Lin.nearB D R i)).map fun k=>Lin.prime (Lin.mx a (R.getD i []) (R.getD k [])))) (a:=0) (N:=(co a R (-1)).length) hl1 t94 t93 (Vj _) zO rfl rfl (fun m vs H' n ⟨vo,h1,h2,h3⟩=>⟨vo,h1,h2.mono (Sub.bump H' n),h3.mono (Sub.bump H' n)⟩) hk1 ⟨vo,by show [ad T1 12]=_; rw [t12],hc,by simpa using ho⟩ ?_ ?_
 ·rintro m T2 H2 _ hm hl2 hi2 hs2 hk2 ⟨vo2,hv,c2,o2⟩;have w2:=hk2.wf;have le_hk2:=hk2.le;have le2:=hk2.le;simp only [Ve,Vk,Vg,and_true] at hv;have u0:ad T2 0=.ptr ub 0:=(hs2.at_ 0 zU).trans t0;have u7:ad T2 7=vm:=(hs2.at_ 7 zU).trans v7;have u8:ad T2 8=vd:=(hs2.at_ 8 zU).trans v8;have u16:ad T2 16=.int .i64 (i:Int):=(hs2.at_ 16 zU).trans t16;have u92:ad T2 92=gB es (-1):=(hs2.at_ 92 zU).trans t92;have hside:BS H H2 (gB es (-1)) ((co a R (-1)).map fun i:Nat=>(i:Int)):=c2.sd.bl (-1);obtain ⟨hld,hix⟩:=El hside hm;obtain ⟨k,hk⟩:∃ k,k=(co a R (-1))[m]:=⟨_,rfl⟩
  rw [<- hk] at hld;have hkR:k<R.length:=by rw [hk]; exact Ac (U9 hm)
  have gk:R.getD k []=R[k]:=by simp [hkR]
  refine zW (fy hl2 u92 u7 u16 hi2 hix hld) ?_;have hzl:(R.map fun r=>zeros r D).length=R.length:=by simp
  refine AnsH.eq (L7 C (zs:=R.map fun r=>zeros r D) (n:=D.length) zF (c2.bm.sl.mono (zG H2)) (by rw [c2.wl,hzl]) (fun t h h'=>?_) (fun z hz=>?_) zO zO zO zO) fun H3 hk3=>?_
  ·rw [X5]; exact c2.wok t zO h'
  ·rw [Va] at hz;obtain ⟨r,-,rfl⟩:=hz;exact wK r D
  rw [Qo hi hkR];obtain ⟨k23,_,_⟩:=zT H2 zK hk3;have k03:Kp H H3:=hk2.trans k23;have le_k03:=k03.le;have w3:=k03.wf;have hsucc:(co a R (-1)).take (m+1)=(co a R (-1)).take m++[k]:=by rw [Vi hm,<- hk]
  cases hnb:Lin.nearB D R i k with
  | false =>
   refine zW (aD hl2 hv) ?_;refine ⟨k03,vo2,rfl,c2.mono k23.sub,?_⟩;rw [hsucc,Wo];simp only [Xg,hnb,V3,if_false,Yc,Wy];exact o2.mono k23.sub
  | true =>
   have hRk:=hR _ (U9 hkR);have hdl:((R.take R.length).map (Lin.dot a)).length=R.length:=by simp
   have gd:∀ t (h:t<R.length),((R.take R.length).map (Lin.dot a))[t]'zO=Lin.dot a R[t]:=fun t h=>by simp
   have dsl:=c2.bd.sl;obtain ⟨wk,hnk,hlk,-,-⟩:=je (dsl.mono k23.sub) (i:=k) zO;obtain ⟨wi,hni,hli,-,-⟩:=je (dsl.mono k23.sub) (i:=i) zO;rw [gd k hkR] at hnk hlk;rw [gd i hi] at hni hli;have xk:cI 2 vd (.int .i64 (k:Int))=some (au vd (k*2)):=SlV.idx dsl .i64 k zO;have xi:cI 2 vd (.int .i64 (i:Int))=some (au vd (i*2)):=SlV.idx dsl .i64 i zO;obtain ⟨vrk,hvrk,hldk⟩:=dl hqr hkR;have xrk:=SlV.idx1 hqr .i64 k hkR;have hub3:=k03.get hub;have hldi3:=bE k03.sub hldi;have hldk3:=bE k03.sub hldk;have dk:=oy hae hRk.2 (hal.trans hRk.1.symm) zO;have di:=oy hae hRi.2 (hal.trans hRi.1.symm) zO;refine zW (aD hl2 hv) ?_;refine aF ?_;refine zD (iy hl2 hv u0 u8 u16 xk hlk @al) ?_;refine AnsH.use (Be C (z:=Lin.dot a R[k]) zF ⟨wk,rfl,hnk.mono (zG H3)⟩ (dk.sm zO)) ?_;rintro v4 H4 ⟨hr4,hk4⟩;obtain ⟨k34,_,w4⟩:=zT H3 zK hk4;have k04:Kp H H4:=k03.trans k34;have le_k04:=k04.le;have hub4:=k34.get hub3;have hldi4:=bE k34.sub hldi3;have hldk4:=bE k34.sub hldk3;have hli4:=bE k34.sub hli;refine zD (Rv hl2 hv u0 u8 u16 xk xi xri xrk hlk hli hli4 hub3 hub4 hldi3 hldi4 hldk3 hldk4 @al) ?_;refine AnsH.use (Gj C (m:=-(Lin.dot a R[k])) (n:=Lin.dot a R[i]) zF (hr4.mono (zG H4)) ⟨wi,rfl,hni.mono (zG H3)⟩ (hvri.mono (zG H)) (hvrk.mono (zG H)) (hRi.1.trans hRk.1.symm) zO dk.neg di hRi.2 hRk.2 zO) ?_;rintro v5 H5 ⟨hr5,hk5⟩;have k35:Kp H3 H5:=Kp.trans k34 (Kp.trans zK hk5);have le_k35:=k35.le;have w5:=k35.wf;have k05:Kp H H5:=k03.trans k35;have le_k05:=k05.le;have o5:=hr5.one;have f25:H5.get (H3.next+25)=none:=hk5.free (by have:=hk4.le; simp only [cT] at this; omega) (hk4.free (show _<H3.next+28 by omega) (w3.fresh (b:=H3.next+25) zO));have f26:H5.get (H3.next+26)=none:=hk5.free (by have:=hk4.le; simp only [cT] at this; omega) (hk4.free (show _<H3.next+28 by omega) (w3.fresh (b:=H3.next+26) zO));have nx5:H3.next+28<=H5.next:=Vn hk4.le hk5.le
   have o25:=o2.mono (k23.trans k35).sub;have hr5':RowV H5 v5 (Lin.prime (Lin.mx a (R.getD i []) (R.getD k []))):=by rw [gi,gk]; exact hr5
   have hpl:(pre++(((co a R (-1)).take m).filter (Lin.nearB D R i)).map fun k=>Lin.prime (Lin.mx a (R.getD i []) (R.getD k []))).length<=pre.length+R.length:=by
    rw [Vr,Vc];have h1:=Wn (Lin.nearB D R i) ((co a R (-1)).take m);rw [VC] at h1;omega
   obtain ⟨n6,H6,e6,b6,k6,nx6,f6,u6⟩:=Bl.push2 (ty2:=af) (bytes:=24) (id:=H3.next+26) (id2:=H3.next+25) (cs:=[v5]) (a:=Lin.prime (Lin.mx a (R.getD i []) (R.getD k []))) o25 zU k05 ⟨v5,rfl,hr5'⟩ zO zO f26 zO zO f25 zO zO zO;have e6':dI (H5.put (H3.next+25) (.cells [v5] af true)) (H3.next+26) 1 24 af vo2 (.own (H3.next+25) 0 1 1 1 true)=some (.own (H3.next+26) 0 n6 n6 1 false,H6):=e6;refine zD (Ua hl2 hv u0 u8 u16 xk xi xri xrk hlk hli hli4 hub3 hub4 hldi3 hldi4 hldk3 hldk4 @al e6') ?_;refine ⟨k6,_,rfl,(c2.mono (k23.trans k35).sub).frm f6 o25,?_⟩;rw [hsucc,Wo,VW,<- WZ];simp only [Xg,hnb,if_true,Yc,Ve,Vk];exact b6
 ·rintro T2 H2 hl2 hs2 hk2 ⟨vo2,hv,c2,o2⟩;simp only [Ve,Vk,Vg,and_true] at hv;rw [VD] at o2;exact hq T2 H2 vo2 hl2 hv hk2 c2 o2
def OQ (C:Code tab) {H0:Heap} {ub:Nat} {u:Lin.Under} {va:AV} {a:List Int} {eq:Bool} {d e f:Nat} (hk:Kp H0 H) (hub0:H0.next<=ub) (hu:UnderV H0 H ub u) (ha:RowV H va a) (hd0:0<d) (hd:d<=64) (hal:a.length=d) (hR:∀ r∈u.rays,r.length=d/\∀ z∈r,Bt f z) (hD:∀ r∈u.done,r.length=d/\∀ z∈r,Bt e z) (hD1:u.done.length<=1024) (hae:∀ z∈a,Bt e z) (hb:2*(e+f+7)+2*f+1<=8796093022208) (hbig:u.rays.length<=1099000000000) (hcl:(Lin.cutL u.done a eq u.rays).length<=1099000000000) :
  Ans tab (.fn iF [.ptr ub 0,va,.bool eq]) H fun v H'=>v=.tup []/\Kp H0 H'/\UnderV H0 H' ub ⟨u.lines,Lin.cutL u.done a eq u.rays,u.done⟩/\∀ b e,H.get b=some e->b≠ub->H'.get b=some e:=by
 have hw:=hk.wf;obtain ⟨ql,qr,qd,cl,hub,hql,hqr,hqd,s1,s2,s3⟩:=hu;have lub:=hw _ _ hub;obtain ⟨R,hRe⟩:∃ R,R=u.rays:=⟨_,rfl⟩
 obtain ⟨D,hDe⟩:∃ D,D=u.done:=⟨_,rfl⟩
 rw [<- hRe] at hR hqr hbig hcl ⊢;rw [<- hDe] at hD hD1 hqd hcl ⊢;refine BP C.q115 rfl rfl zU fun T hl g=>?_;have hl:T.length=135:=hl;have hrs:c_P_cone_under_cut.results=[]:=rfl;have g0:ad T 0=.ptr ub 0:=g 0 (by simp);have g1:ad T 1=va:=g 1 (by simp);have g2:ad T 2=.bool eq:=g 2 (by simp);refine aS ?_;simp -dsimp (maxSteps:=1000000) (disch:=(first | omega | assumption | exact am _ | exact bp _ _ | exact bF | exact cO _ _ _ | exact bX _ _ | exact bP _ _ _ _ _ _ | exact cW _ _ | exact cp _)) only [↓xX,xW,Nat.reduceLT,Nat.reduceEqDiff,Nat.reduceAdd,reduceIte,reduceCtorEq,Nat.reduceBEq,Int.reduceEq,Int.reduceLT,Int.reduceLE,Int.reduceAdd,Int.reduceSub,hl,g0,g1,g2,↓ML,aC];refine aS ?_;refine zW (bA hl g0 g1 g2 @aC) ?_;refine aS ?_;refine zW (bA hl g0 g1 g2 @aC) ?_;have hRb:R.length<1099511627776:=zO;refine de (fun T' H'=>∃ vm vd es Ws,ad T' 7=vm/\ad T' 8=vd/\Kp H H'/\CutV H H' H.next a R D R.length vm vd es Ws) rfl ?_ ?_
 ·refine zW (fy hl g0 g1 g2 hub hqr.sl.lenV @aW) ?_;refine aq H [7,8] (fun k vs H'=>∃ vm vd es Ws,vs=[vm,vd]/\CutV H H' H.next a R D k vm vd es Ws) (a:=0) (N:=R.length) rfl (by refine zW hl ?_; rfl) (zV hl) (Vj _) zO (by simp only [U4,hl]; rfl) rfl (fun k vs H' m ⟨vm,vd,es,Ws,h1,h2⟩=>⟨vm,vd,es,Ws,h1,h2.mono (Sub.bump H' m)⟩) zK ⟨.nilSl,.nilSl,[],[],by exact zV hl,Bl.nil,rfl,fun t h h'=>by simp at h',Bl.nil,by exact cH,(fun p hp=>by cases hp),(fun s=>Bl.nil),(fun s s' _ b hb=>by cases hb)⟩ ?_ ?_
  ·rintro k T1 H1 _ hkk hl1 hi1 hs1 hkp1 ⟨vm,vd,es,Ws,hv,hc⟩;simp only [Ve,Vk,Vg,and_true] at hv;simp only [U4,hl] at hl1;refine L3 C hub hqr.sl hqd.sl ha hd0 hd hal hR hD hD1 hae zO hRb hkp1 hkk hl1 ((hs1.at_ 0 zU).trans (zV (aD hl g0))) ((hs1.at_ 1 zU).trans (zV (aD hl g1))) ((hs1.at_ 6 zU).trans (zV hl)) ((hs1.at_ 23 zU).trans (zV hl)) hi1 hv.1 hv.2 (Vb _) hc ?_;intro T2 H2 vm' vd' es' Ws' h1 h2 h3 h4 h5;refine zW (aE h1 h2 h3) ?_;exact ⟨h4,vm',vd',es',Ws',rfl,h5⟩
  ·rintro T1 H1 hl1 hs1 hk1 ⟨vm,vd,es,Ws,hv,hc⟩;simp only [Ve,Vk,Vg,and_true] at hv;refine zW (aD hl1 @aW) ?_;exact ⟨vm,vd,es,Ws,hv.1,hv.2,hk1,hc⟩
 rintro T1 H1 hs1 ⟨vm,vd,es,Ws,v7,v8,k1,hc⟩;have w1:=k1.wf;have t0:ad T1 0=.ptr ub 0:=(hs1.at_ 0 zU).trans (zV (aD hl g0));have t2:ad T1 2=.bool eq:=(hs1.at_ 2 zU).trans (zV (aD hl g2));have t6:ad T1 6=.map H.next:=(hs1.at_ 6 zU).trans (zV hl)
 have hl1:T1.length=135:=hs1.len.trans (by simp only [U4]; exact hl);have lkz:∀ (H':Heap),CutV H H' H.next a R D R.length vm vd es Ws->∀ z n,tp (H'.up n) .int .nilSl (.map H.next) (.int .i64 z) false=some (gB es z):=fun H' h z n=>Ef (by exact h.sd.get) h.sd.keys z
 have lk0:=lkz H1 hc 0;have len0:lenV (gB es 0)=some (.int .i64 ((co a R 0).length:Int)):=by
  rw [(hc.sd.bl 0).sl.lenV,DG,Vc]
 have hn0:=Ad a R 0;have hn1:=Ad a R 1;refine WC.wb ?_;simp -dsimp (maxSteps:=1000000) (disch:=(first | omega | assumption | exact am _ | exact bp _ _ | exact bF | exact cO _ _ _ | exact bX _ _ | exact bP _ _ _ _ _ _ | exact cW _ _ | exact cp _)) only [↓xX,xW,Nat.reduceLT,Nat.reduceEqDiff,Nat.reduceAdd,reduceIte,reduceCtorEq,Nat.reduceBEq,Int.reduceEq,Int.reduceLT,Int.reduceLE,Int.reduceAdd,Int.reduceSub,hl1,t0,t6,↓oC,lk0,len0];refine aq H [12] (fun m vs H'=>∃ vo,vs=[vo]/\CutV H H' H.next a R D R.length vm vd es Ws/\Bl rowsE af H H' vo (((co a R 0).take m).map (R.getD · []))) (a:=0) (N:=(co a R 0).length) rfl (by refine zW hl1 ?_; rfl) (zV hl1) (Vj _) zO (by simp only [U4,hl1]; rfl) rfl (fun m vs H' n ⟨vo,h1,h2,h3⟩=>⟨vo,h1,h2.mono (Sub.bump H' n),h3.mono (Sub.bump H' n)⟩) zK ⟨.nilSl,by exact zV hl1,hc.mono (Sub.bump H1 _),Bl.nil⟩ ?_ ?_
 ·rintro m T2 H2 _ hm hl2 hi2 hs2 hk2 ⟨vo,hv,c2,o2⟩;have w2:=hk2.wf;have le_hk2:=hk2.le;have le2:=hk2.le;simp only [Ve,Vk,Vg,and_true] at hv;simp only [U4,hl1] at hl2;have u0:ad T2 0=.ptr ub 0:=(hs2.at_ 0 zU).trans (zV (aD hl1 t0));have u55:ad T2 55=gB es 0:=(hs2.at_ 55 zU).trans (zV hl1);obtain ⟨hld,hix⟩:=El (show BS H H2 (gB es 0) ((co a R 0).map fun i:Nat=>(i:Int)) from c2.sd.bl 0) hm;obtain ⟨k,hkk⟩:∃ k,k=(co a R 0)[m]:=⟨_,rfl⟩
  rw [<- hkk] at hld;have hkR:k<R.length:=by rw [hkk]; exact Ac (U9 hm)
  obtain ⟨vr,hvr,hldr⟩:=dl hqr.sl hkR;have xr:=SlV.idx1 hqr.sl .i64 k hkR;have hub2:=hk2.get hub;have hldr2:=bE hk2.sub hldr;have orr:=hvr.one;have gk:R.getD k []=R[k]:=by simp [hkR]
  have hlen:(((co a R 0).take m).map (R.getD · [])).length<=R.length:=by simp; omega
  obtain ⟨n6,H6,e6,b6,k6,nx6,f6,u6⟩:=Bl.push1 (ty2:=af) (bytes:=24) (id:=H2.next+12) (id2:=H2.next+11) (k:=14) (cs:=[vr]) (a:=R.getD k []) o2 zU hk2 ⟨vr,rfl,by rw [gk]; exact hvr.mono hk2.sub⟩ zO zO zO zO zO zO zO;have e6':dI ((H2.up 14).put (H2.next+11) (.cells [vr] af true)) (H2.next+12) 1 24 af vo (.own (H2.next+11) 0 1 1 1 true)=some (.own (H2.next+12) 0 n6 n6 1 false,H6):=e6;refine zW (iO hl2 u0 u55 hi2 hix hld hv hub2 xr hldr2 e6') ?_;refine ⟨k6,_,rfl,c2.frm f6 o2,?_⟩;rw [Vi hm,VW,<- hkk];exact b6
 ·rintro T2 H2 hl2 hs2 hk2 ⟨vo,hv,c2,o2⟩;have w2:=hk2.wf;have le_hk2:=hk2.le;simp only [Ve,Vk,Vg,and_true] at hv;simp only [U4,hl1] at hl2;rw [VD] at o2;have u0:ad T2 0=.ptr ub 0:=(hs2.at_ 0 zU).trans (zV (aD hl1 t0));have u2:ad T2 2=.bool eq:=(hs2.at_ 2 zU).trans (zV (aD hl1 t2));have u6:ad T2 6=.map H.next:=(hs2.at_ 6 zU).trans (zV (aD hl1 t6))
  have u7:ad T2 7=vm:=(hs2.at_ 7 zU).trans (zV (aD hl1 v7));have u8:ad T2 8=vd:=(hs2.at_ 8 zU).trans (zV (aD hl1 v8));have lk1:=lkz H2 c2 1;have TA:lenV (gB es 1)=some (.int .i64 ((co a R 1).length:Int)):=by
   rw [(hc.sd.bl 1).sl.lenV,DG,Vc]
  simp -dsimp (maxSteps:=1000000) (disch:=(first | omega | assumption | exact am _ | exact bp _ _ | exact bF | exact cO _ _ _ | exact bX _ _ | exact bP _ _ _ _ _ _ | exact cW _ _ | exact cp _)) only [↓xX,xW,Nat.reduceLT,Nat.reduceEqDiff,Nat.reduceAdd,reduceIte,reduceCtorEq,Nat.reduceBEq,Int.reduceEq,Int.reduceLT,Int.reduceLE,Int.reduceAdd,Int.reduceSub,hl2,u0,u6,↓oC,lk1,TA];refine aq H [12] (fun m vs H'=>∃ vo,vs=[vo]/\CutV H H' H.next a R D R.length vm vd es Ws/\Bl rowsE af H H' vo ((co a R 0).map (R.getD · [])++((co a R 1).take m).flatMap (B3 D a eq R))) (a:=0) (N:=(co a R 1).length) rfl (by refine zW hl2 ?_; rfl) (zV hl2) (Vj _) zO (by simp only [U4,hl2]; rfl) rfl (fun m vs H' n ⟨vo,h1,h2,h3⟩=>⟨vo,h1,h2.mono (Sub.bump H' n),h3.mono (Sub.bump H' n)⟩) zK ⟨vo,by exact zV (aD hl2 hv),c2.mono (Sub.bump H2 _),by rw [Y8,List.flatMap_nil,Wy]; exact o2.mono (Sub.bump H2 _)⟩ ?_ ?_
  ·rintro m T3 H3 _ hm hl3 hi3 hs3 hk3 ⟨vo3,hv3,c3,o3⟩;have w3:=hk3.wf;have le_hk3:=hk3.le;have le3:=hk3.le;simp only [Ve,Vk,Vg,and_true] at hv3;simp only [U4,hl2] at hl3;have z0:ad T3 0=.ptr ub 0:=(hs3.at_ 0 zU).trans (zV (aD hl2 u0));have z2:ad T3 2=.bool eq:=(hs3.at_ 2 zU).trans (zV (aD hl2 u2));have z6:ad T3 6=.map H.next:=(hs3.at_ 6 zU).trans (zV (aD hl2 u6))
   have z7:ad T3 7=vm:=(hs3.at_ 7 zU).trans (zV (aD hl2 u7));have z8:ad T3 8=vd:=(hs3.at_ 8 zU).trans (zV (aD hl2 u8));have z73:ad T3 73=gB es 1:=(hs3.at_ 73 zU).trans (zV hl2);obtain ⟨hld,hix⟩:=El (show BS H H3 (gB es 1) ((co a R 1).map fun i:Nat=>(i:Int)) from c3.sd.bl 1) hm;obtain ⟨i,hii⟩:∃ i,i=(co a R 1)[m]:=⟨_,rfl⟩
   rw [<- hii] at hld;have hiR:i<R.length:=by rw [hii]; exact Ac (U9 hm)
   have gi:R.getD i []=R[i]:=by simp [hiR]
   obtain ⟨pre,hpre⟩:∃ pre,pre=(co a R 0).map (R.getD · [])++((co a R 1).take m).flatMap (B3 D a eq R):=⟨_,rfl⟩
   have hpl:pre.length<=1099000000000:=by
    refine Vn ?_ hcl;have e:(co a R 1).flatMap (B3 D a eq R)=((co a R 1).take m).flatMap (B3 D a eq R)++((co a R 1).drop m).flatMap (B3 D a eq R):=by rw [<- Y2,ZJ]
    rw [J3,e,hpre];simp only [Vr];omega
   have hstep:(co a R 0).map (R.getD · [])++((co a R 1).take (m+1)).flatMap (B3 D a eq R)=pre++B3 D a eq R i:=by
    rw [Vi hm,Y2,<- WZ,<- hpre,<- hii]
    simp
   rw [hstep];rw [<- hpre] at o3;have lkm:=lkz H3 c3 (-1);have lenm:lenV (gB es (-1))=some (.int .i64 ((co a R (-1)).length:Int)):=by
    rw [(hc.sd.bl (-1)).sl.lenV,DG,Vc]
   cases heq:eq with
   | true =>
    rw [heq] at z2;simp -dsimp (maxSteps:=1000000) (disch:=(first | omega | assumption | exact am _ | exact bp _ _ | exact bF | exact cO _ _ _ | exact bX _ _ | exact bP _ _ _ _ _ _ | exact cW _ _ | exact cp _)) only [↓xX,xW,Nat.reduceLT,Nat.reduceEqDiff,Nat.reduceAdd,reduceIte,reduceCtorEq,Nat.reduceBEq,Int.reduceEq,Int.reduceLT,Int.reduceLE,Int.reduceAdd,Int.reduceSub,hl3,z0,z2,z6,z73,hi3,hix,hld,hv3,↓oC,lkm,lenm];refine CQ (va:=va) C hub hqr.sl hd hal hR hD1 hae hb hbig (pre:=pre) zO (hk3.up _) hiR (by simp only [U4]; exact hl3) (zV (aD hl3 z0)) (zV (aD hl3 z7)) (zV (aD hl3 z8)) (zV hl3) (zV (aD hl3 hv3)) (zV hl3) (zV hl3) (zV hl3) (c3.mono (Sub.bump H3 _)) (o3.mono (Sub.bump H3 _)) ?_;intro T4 H4 vo4 h1 h2 h3 h4 h5;refine zW (aD h1 h2) ?_;exact ⟨h3,vo4,rfl,h4,by unfold B3; simpa using h5⟩
   | false =>
    rw [heq] at z2;obtain ⟨vr,hvr,hldr⟩:=dl hqr.sl hiR;have xr:=SlV.idx1 hqr.sl .i64 i hiR;have hub3:=hk3.get hub;have hldr3:=bE hk3.sub hldr;have orr:=hvr.one;obtain ⟨n6,H6,e6,b6,k6,nx6,f6,u6'⟩:=Bl.push1 (ty2:=af) (bytes:=24) (id:=H3.next+14) (id2:=H3.next+13) (k:=16) (cs:=[vr]) (a:=R.getD i []) o3 zU hk3 ⟨vr,rfl,by rw [gi]; exact hvr.mono hk3.sub⟩ zO zO zO zO zO zO zO;have e6':dI ((H3.up 16).put (H3.next+13) (.cells [vr] af true)) (H3.next+14) 1 24 af vo3 (.own (H3.next+13) 0 1 1 1 true)=some (.own (H3.next+14) 0 n6 n6 1 false,H6):=e6;have c6:=c3.frm f6 o3;have lk6:=lkz H6 c6 (-1);have w6:=k6.wf;simp -dsimp (maxSteps:=1000000) (disch:=(first | omega | assumption | exact am _ | exact bp _ _ | exact bF | exact cO _ _ _ | exact bX _ _ | exact bP _ _ _ _ _ _ | exact cW _ _ | exact cp _)) only [↓xX,xW,Nat.reduceLT,Nat.reduceEqDiff,Nat.reduceAdd,reduceIte,reduceCtorEq,Nat.reduceBEq,Int.reduceEq,Int.reduceLT,Int.reduceLE,Int.reduceAdd,Int.reduceSub,hl3,z0,z2,z6,z73,hi3,hix,hld,hv3,hub3,xr,hldr3,e6',↓oC,lk6,lenm];refine CQ (va:=va) C hub hqr.sl hd hal hR hD1 hae hb hbig (pre:=pre++[R.getD i []]) (by simp; omega) (k6.up _) hiR (by simp only [U4]; exact hl3) (zV (aD hl3 z0)) (zV (aD hl3 z7)) (zV (aD hl3 z8)) (zV hl3) (by refine zW hl3 ?_; rfl) (zV hl3) (zV hl3) (zV hl3) (c6.mono (Sub.bump H6 _)) (b6.mono (Sub.bump H6 _)) ?_;intro T4 H4 vo4 h1 h2 h3 h4 h5;refine zW (aD h1 h2) ?_;exact ⟨h3,vo4,rfl,h4,by unfold B3; simpa using h5⟩
  ·rintro T3 H3 hl3 hs3 hk3 ⟨vo3,hv3,c3,o3⟩;have w3:=hk3.wf;have le_hk3:=hk3.le;simp only [Ve,Vk,Vg,and_true] at hv3;simp only [U4,hl2] at hl3;rw [VD,<- J3] at o3;have z0:ad T3 0=.ptr ub 0:=(hs3.at_ 0 zU).trans (zV (aD hl2 u0));have hub3:=hk3.get hub;have lub3:=w3 _ _ hub3;have k03:Kp H0 H3:=hk.trans hk3;have le_k03:=k03.le;have ov3:=o3.sl.one;have hst:BY (some (.cells [ql,qr,qd] aR true)) 1 1 vo3=some (.cells [ql,vo3,qd] aR true):=gh ov3.fits (by simp);refine zW (dL hl3 z0 hv3 hub3 hrs hst) ?_;have hle:=hk.le;have o3w:Wr H0 H3 vo3 (Lin.cutL D a eq R) (Lin.cutL D a eq R).length:=o3.wr.base hle;refine ⟨zK,⟨ql,vo3,qd,cl,ap _ _ _,((hql.mono hk3.sub).mono (Sub.bump H3 5)).putT hub3 zU zU,(o3w.mono (Sub.bump H3 5)).putT hub3 zU zU,((hqd.mono hk3.sub).mono (Sub.bump H3 5)).putT hub3 zU zU,fun x hx hy=>?_,s2,fun x hx hy=>?_⟩,fun b e hb' hne=>?_⟩
   ·have h1:=hql.old hw hx;have h2:=o3.ge hy;omega
   ·have h1:=hqd.old hw hy;have h2:=o3.ge hx;omega
   ·rw [az hne]; exact hk3.get hb'
end
def SlV.ro {α:Type} {E:fw α} {ty:Nat} {H H':Heap} {v:AV} {l:List α} (hE:∀ cs a,E.R H cs a->E.R H' cs a) (hty:∀ b cs r,H.get b=some (.cells cs ty r)->∃ r',H'.get b=some (.cells cs ty r')) (hs:SlV E ty H v l):SlV E ty H' v l:=by
 obtain ⟨cells,⟨h0,h1,n,h2,h3⟩,ht,hc⟩:=hs;refine ⟨cells,⟨h0,h1,n,h2,?_⟩,fun b off n c z x e=>?_,hc.1,fun i a hi=>hE _ _ (hc.2 i a hi)⟩
 ·unfold aN at h3 ⊢;split at h3
  ·rename_i b off m c sz ex;obtain ⟨cs,r,hb⟩:=ht _ _ _ _ _ _ rfl;obtain ⟨r',hb'⟩:=hty _ _ _ hb;rw [hb] at h3;rw [hb'];exact h3
  ·exact h3
  ·exact h3
  ·exact h3
  ·cases h3
 ·obtain ⟨cs,r,hb⟩:=ht b off n c z x e;obtain ⟨r',hb'⟩:=hty _ _ _ hb;exact ⟨cs,r',hb'⟩
def RowV.ro {H H':Heap} {v:AV} {l:List Int} (h1:∀ b cs r,H.get b=some (.cells cs ae r)->∃ r',H'.get b=some (.cells cs ae r')) (h2:∀ b cs r,H.get b=some (.cells cs aa r)->∃ r',H'.get b=some (.cells cs aa r')) (h:RowV H v l):RowV H' v l :=
 SlV.ro (E:=intE) (fun cs a ⟨w,e,hn⟩=>⟨w,e,SlV.ro (E:=bS cj) (H:=H) (H':=H') (fun cs a ⟨v,e,hv⟩=>⟨v,e,hv⟩) h1 hn⟩) h2 h
def J8:∀ {x y:List Int},x.length=y.length->(EF x y<0 ↔ Lin.cmpV y x=false)
 | [],[],_=>by simp [EF,B4,Lin.cmpV]
 | a :: x,b :: y,h=>by
  have ih:=J8 (x:=x) (y:=y) (by simpa using h);unfold EF at ih ⊢;unfold B4 Lin.cmpV;by_cases h1:a=b
  ·subst h1;have e:ik (a-a)=0:=by rw [il]; omega
   simp only [e,Int.lt_irrefl,if_false,if_true,ne_eq,not_true_eq_false];exact ih
  ·have e:ik (a-b)≠0:=fun h=>h1 (by rw [il] at h; omega);rcases Int.lt_or_gt_of_ne h1 with h2 | h2
   ·have e2:ik (a-b)<0:=by unfold ik; split <;> (try split) <;> omega
    have n1:¬ b<a:=zO;simp [e,e2,n1,Ne.symm h1]
   ·have e2:¬ ik (a-b)<0:=by unfold ik; split <;> (try split) <;> omega
    simp [e,e2,h2]
section
variable {tab:Nat->Option aA} {H:Heap} {s:AV}
def xR {f ty:Nat} {gs:List Nat} {fn:aA} (hf:tab f=some fn) (he:fn.ext=some (.sortF ty gs)) {args:List AV} {v:AV} {H':Heap} {Q:AV->Heap->Prop} (h:∃ N,∀ m n,N<=m->N<=n->Co (lx tab eH m n) ty gs H args=some (v,H')) (hq:Q v H'):Ans tab (.fn f args) H Q:=by
 obtain ⟨N,h⟩:=h;refine ⟨v,H',⟨N+1,fun m n hm hn=>?_⟩,hq⟩;obtain ⟨n',rfl⟩:∃ n',n=n'+1:=⟨n-1,zO⟩
 show jA tab eH (lx tab eH m n') m (.fn f args) H=_;simp only [jA,hf,he];exact h m n' zO zO
def Bh {g:Nat} {caps:List AV} {D:Heap} {x:AV}:∀ (l:List AV) (c:Nat->Int),(∀ j (h:j<l.length),Ans tab (.fn g ([x,l[j]]++caps)) D fun v _=>v=.int .i64 (c j))->∃ N,∀ m n,N<=m->N<=n->rH (lx tab eH m n) g caps D x l=some ((List.range l.length).map c)
 | [],c,_=>⟨0,fun _ _ _ _=>rfl⟩
 | y :: l,c,h=>by
  obtain ⟨N,ih⟩:=Bh l (fun j=>c (j+1)) fun j hj=>h (j+1) (by simpa using hj);obtain ⟨v,D',⟨N',h0⟩,hv⟩:=h 0 (by simp);simp only [YD] at h0;subst hv;refine ⟨N+N',fun m n hm hn=>?_⟩;simp only [rH,h0 m n zO zO,ih m n zO zO];rw [VT,ZF,Ve,Xl];rfl
def yz {g:Nat} {caps all:List AV} {D:Heap}:∀ (l:List AV) (c:Nat->Nat->Int),(∀ i (h:i<l.length) j (h':j<all.length),Ans tab (.fn g ([l[i],all[j]]++caps)) D fun v _=>v=.int .i64 (c i j)) ->
  ∃ N,∀ m n,N<=m->N<=n->sP (lx tab eH m n) g caps D all l=some ((List.range l.length).map fun i=>(List.range all.length).map (c i))
 | [],c,_=>⟨0,fun _ _ _ _=>rfl⟩
 | x :: l,c,h=>by
  obtain ⟨N,ih⟩:=yz l (fun i=>c (i+1)) fun i hi j hj=>h (i+1) (by simpa using hi) j hj;obtain ⟨N',h0⟩:=Bh (tab:=tab) (g:=g) (caps:=caps) (D:=D) (x:=x) all (c 0) fun j hj=>h 0 (by simp) j hj;refine ⟨N+N',fun m n hm hn=>?_⟩;simp only [sP,h0 m n zO zO,ih m n zO zO];rw [VT,ZF,Ve,Xl];rfl
def B7 {f g:Nat} {fn:aA} (hf:tab f=some fn) (he:fn.ext=some (.sortF af [g])) {H0:Heap} (hk:Kp H0 H) {v:AV} {R:List (List Int)} {d:Nat} (hb:Bl rowsE af H0 H v R) (hd:∀ r∈R,r.length=d) (hn:R.Nodup) (hbig:R.length<1099511627776)
  (hc:∀ D a b,Wf D->∀ x∈R,∀ y∈R,RowV D a x->RowV D b y->Ans tab (.fn g [a,b]) D fun v _=>v=.int .i64 (EF x y)) :
  Ans tab (.fn f [v,.fn (.func g) [] []]) H fun v' H'=>v'=.tup []/\Kp H0 H'/\Bl rowsE af H0 H' v (R.mergeSort Lin.cmpV):=by
 rcases hb with ⟨rfl,rfl⟩ | ⟨b,cells,rfl,hgb,hcl,hb0⟩
 ·exact xR hf he ⟨0,fun m n _ _=>rfl⟩ ⟨rfl,hk,.inl ⟨rfl,by simp⟩⟩
 ·rcases Xd R.length with h0 | h0
  ·have hR:=Wk.1 h0;subst hR;exact xR hf he ⟨0,fun m n _ _=>rfl⟩ ⟨rfl,hk,.inr ⟨b,cells,by simp,hgb,by simpa using hcl,hb0⟩⟩
  ·have hlt:=hk.wf _ _ hgb;have hw:=hk.wf;have hcn:cells.length=R.length:=by have:=hcl.1; simpa [bS] using this
   have hones:=hcl.ones;obtain ⟨D,hD⟩:∃ D,D=(H.kill b).ro:=⟨_,rfl⟩
   have hDg:∀ c,c<H.next->c≠b->D.get c=Mt (H.get c):=fun c hc hne=>by
    rw [hD,Heap.get_ro,cD hne];exact if_pos (Vq hc (Nat.le_max_left _ _))
   have hDw:Wf D:=fun c e h=>by
    rw [hD,Heap.get_ro] at h;rw [hD];show c<H.next
    split at h
    ·by_cases hcb:c=b
     ·omega
     ·rw [cD hcb] at h;cases hg:H.get c with
      | none=>rw [hg] at h; cases h
      | some e'=>exact hw _ _ hg
    ·by_cases hcb:c=b
     ·omega
     ·rw [cD hcb] at h;exact hw _ _ h
   have hro:∀ ty,ty≠af->∀ c cs r,H.get c=some (.cells cs ty r)->∃ r',D.get c=some (.cells cs ty r'):=fun ty hty c cs r hc=>by
    refine ⟨false,?_⟩;rw [hDg c (hw _ _ hc) (fun e=>by rw [e,hgb] at hc; cases hc; exact hty rfl),hc];rfl
   have hrow:∀ i (h:i<R.length),RowV D (cells[i]'zO) R[i]:=fun i h=>by
    obtain ⟨w,h1,h2⟩:=hcl.at1 h;have e:w=cells[i]'zO:=by
     unfold aY at h1
     simpa [hcn,h] using h1.symm
    rw [<- e];exact RowV.ro (hro _ zU) (hro _ zU) h2
   obtain ⟨N,hN⟩:=yz (tab:=tab) (g:=g) (caps:=[]) (all:=cells) (D:=D) cells (fun i j=>EF (R.getD i []) (R.getD j [])) fun i hi j hj=>by
    have hi':i<R.length:=zO;have hj':j<R.length:=zO;have e1:R.getD i []=R[i]:=by simp [hi']
    have e2:R.getD j []=R[j]:=by simp [hj']
    rw [e1,e2];exact hc D _ _ hDw _ (U9 hi') _ (U9 hj') (hrow i hi') (hrow j hj')
   obtain ⟨M,hM⟩:∃ M,M=(List.range cells.length).map fun i=>(List.range cells.length).map fun j=>EF (R.getD i []) (R.getD j []):=⟨_,rfl⟩
   have hMat:∀ i j (hi:i<R.length) (hj:j<R.length),Mv M i j = !Lin.cmpV R[j] R[i]:=fun i j hi hj=>by
    have e1:(M.getD i []).getD j 0=EF R[i] R[j]:=by
     rw [hM];simp [hcn,hi,hj]
    unfold Mv;rw [e1,Wz,decide_eq_true_eq,V8];exact J8 ((hd _ (U9 hi)).trans (hd _ (U9 hj)).symm)
   have hord:Q5 M R.length:=by
    refine ⟨fun i hi=>?_,fun i hi j hj=>?_,fun i hi j hj k hk h1 h2=>?_⟩
    ·rw [hMat i i hi hi,Lin.cmpV_refl]; rfl
    ·by_cases hij:i=j
     ·exact .inl hij
     ·right
      rw [hMat i j hi hj,hMat j i hj hi];have ht:=Lin.cmpV_total R[i] R[j];have ha:=Lin.cmpV_antisymm R[i] R[j];have hne:R[i]≠R[j]:=fun e=>hij ((List.getElem_inj hn).1 e);cases h1:Lin.cmpV R[i] R[j] <;> cases h2:Lin.cmpV R[j] R[i]
      ·rw [h1,h2] at ht; cases ht
      ·rfl
      ·rfl
      ·exact absurd (ha h1 h2) hne
    ·rw [hMat i j hi hj] at h1;rw [hMat j k hj hk] at h2;rw [hMat i k hi hk];rw [V8] at h1 h2 ⊢;cases h3:Lin.cmpV R[k] R[i] with
     | false=>rfl
     | true =>
      have ht:=Lin.cmpV_total R[i] R[j];rw [h1,Zy] at ht
      have:=Lin.cmpV_trans _ _ _ h3 ht
      rw [this] at h2; cases h2
   have hsorted:(kH M R.length).map (fun i=>R.getD i.val [])=R.mergeSort Lin.cmpV:=by
    unfold kH;rw [List.map_mergeSort (s:=Lin.cmpV) (fun i _ j _=>by
     have e1:R.getD i.val []=R[i.val]:=by simp
     have e2:R.getD j.val []=R[j.val]:=by simp
     rw [e1,e2,hMat _ _ j.isLt i.isLt,Bool.not_not])]
    congr 1
    apply W4
    ·simp
    ·intro i h1 h2;simp [h2]
   have hlen:(kH M R.length).length=R.length:=by unfold kH; rw [YI,ZN]
   refine xR (v:=.tup []) (H':=H.put b (.cells ((kH M R.length).map fun i=>cells.getD i.val .undef) af true)) hf he ⟨N,fun m n hm hn=>?_⟩ ⟨rfl,hk.put hb0 hlt,.inr ⟨b,(kH M R.length).map fun i=>cells.getD i.val .undef,?_,ap _ _ _,?_,hb0⟩⟩
   ·have hN':=hN m n hm hn;rw [<- hM] at hN';show Co _ _ _ H [.own b 0 R.length R.length 1 false,.fn (.func g) [] []]=_;simp only [Co,hgb];rw [if_neg zO,if_pos ⟨trivial,trivial,trivial,hcn,h0,zO,by simp,hones⟩,<- hD,hN'];simp only;rw [if_pos hord]
   ·rw [YI]
   ·rw [<- hsorted];refine ⟨by simp [bS],fun i a hi=>?_⟩;rw [V5,Vf] at hi;obtain ⟨p,hp,rfl⟩:=hi;obtain ⟨hi,hpe⟩:=Vm.1 hp;have e1:((((kH M R.length).map fun i=>cells.getD i.val .undef).drop (i*1)).take 1)=[cells.getD p.val .undef]:=by
     apply WM
     intro t;cases t with
     | zero=>simp [hi,hpe]
     | succ t=>simp; omega
    refine ⟨cells.getD p.val .undef,e1,?_⟩;have e2:R.getD p.val []=R[p.val]:=by simp
    have e3:cells.getD p.val .undef=cells[p.val]'(by have:=p.isLt; omega):=by have:=p.isLt; simp [hcn]
    rw [e2,e3];obtain ⟨w,h1,h2⟩:=hcl.at1 p.isLt;have e:w=cells[p.val]'(by have:=p.isLt; omega):=by
     unfold aY at h1
     have:=p.isLt
     simpa [hcn,this] using h1.symm
    rw [<- e];exact SlV.monoT (E:=intE) (SubT.puts (SubT.refl _ _) (NoTy.ty hgb zU)) h2
end
def Frm.wr {H0 H H':Heap} {v w:AV} {l m:List (List Int)} {c:Nat} (hf:Frm v H H') (h:Bl rowsE af H0 H v l) (hw:Wr H0 H w m c) (hs:Sep v w):Wr H0 H' w m c:=by
 rcases hw with hw | ⟨b,cells,h1,h2,h3,h4,h5,h6⟩
 ·exact .inl hw
 ·exact .inr ⟨b,cells,h1,hf b _ h2 (fun e=>hs b e (by rw [h1]; rfl)),h3,h4,h5.mono (hf.subT h zU),h6⟩
def Is {α:Type} (p:α->Bool) (l:List α):(nr p l<0/\l.findIdx? p=none)\/∃ i:Nat,nr p l=(i:Int)/\l.findIdx? p=some i:=by
 unfold nr;cases h:l.findIdx? p with
 | none=>exact .inl ⟨by simp,rfl⟩
 | some i=>exact .inr ⟨i,rfl,rfl⟩
section
variable {tab:Nat->Option aA} {H:Heap} {s:AV}
def Gk (C:Code tab) (hw:Wf H) {w va:AV} {r a:List Int} {bx e f:Nat} (hr:RowV H w r) (hb:H.get bx=some (.cells [va] af true)) (ha:RowV H va a) (hra:a.length=r.length) (h64:a.length<=64) (hae:∀ z∈a,Bt e z) (hrf:∀ z∈r,Bt f z) (hbt:e+f+7<=8796093022208) :
  Ans tab (.fn fV [w,.ptr bx 0]) H fun v H'=>v=.bool (!decide (Lin.dot a r=0))/\Kp H H':=by
 refine bB C.q114 zU fun T hl g0 g1=>?_;refine zW (aQ hl g0 g1 hb) ?_;refine AnsH.use (vP C zF (ha.mono (zG H)) (hr.mono (zG H)) hra h64 hae hrf hbt) ?_;rintro v H2 ⟨hr2,hk2⟩;obtain ⟨k2,_,w2⟩:=zT H zK hk2;refine zW (aE hl g0 g1) ?_;refine AnsH.eq (xJ C (z:=Lin.dot a r) zF (hr2.mono (zG H2)) ((oy hae hrf hra h64).sm hbt)) fun H3 hk3=>?_;have k3:Kp H H3:=Kp.trans k2 (Kp.trans zK hk3);have le_k3:=k3.le;refine zW (aE hl g0 g1) ?_;refine ⟨?_,zK⟩;congr 1;rw [Wz];simp [il]
def Gl (C:Code tab) {H0:Heap} {ub:Nat} {u:Lin.Under} {va:AV} {a:List Int} {eq:Bool} {d e f:Nat} (hk:Kp H0 H) (hub0:H0.next<=ub) (hu:UnderV H0 H ub u) (ha:RowV H0 va a) (hd0:0<d) (hd:d<=64) (hal:a.length=d) (hL:∀ r∈u.lines,r.length=d/\∀ z∈r,Bt f z) (hR:∀ r∈u.rays,r.length=d/\∀ z∈r,Bt f z) (hD:∀ r∈u.done,r.length=d/\∀ z∈r,Bt e z) (hD1:u.done.length<=1024) (hae:∀ z∈a,Bt e z) (hb:2*(e+f+7)+2*f+1<=8796093022208) (hbigL:u.lines.length<=1048576) (hbig:u.rays.length<=1099000000000) (hnx:(Lin.addU a eq u).rays.length<=1099000000000) :
  Ans tab (.fn cQ [.ptr ub 0,va,.bool eq]) H fun v H'=>v=.tup []/\Kp H0 H'/\UnderV H0 H' ub (Lin.addU a eq u):=by
 have hw:=hk.wf;have hle:=hk.le;have oa:=ha.one;have haH:=ha.mono hk.sub;have hu0:=hu;obtain ⟨ql,qr,qd,cl,hub,hql,hqr,hqd,s1,s2,s3⟩:=hu;have lub:=hw _ _ hub;refine BP C.q94 rfl rfl zU fun T hl g=>?_;have hl:T.length=48:=hl;have hrs:c_P_cone_under_add.results=[]:=rfl;have g0:ad T 0=.ptr ub 0:=g 0 (by simp);have g1:ad T 1=va:=g 1 (by simp);have g2:ad T 2=.bool eq:=g 2 (by simp);refine aS ?_;refine zW (bA hl g0 g1 g2 @aC) ?_;refine aS ?_;refine zW (dL hl g0 g1 g2 @aC hub) ?_;refine AnsH.eq (rZ C (l:=u.lines) zF (hql.sl.mono (zG H)) zO (fun r=>!decide (Lin.dot a r=0)) (fun r hr H' w hk' hw'=>Gk C hk'.wf hw' (hk'.get (cH)) (haH.mono (Kp.sub (H:=H) (Kp.trans zK hk'))) (by rw [hal]; exact (hL r hr).1.symm) zO hae (hL r hr).2 zO)) fun H2 hk2=>?_;obtain ⟨k2,_,w2⟩:=zT H zK hk2;have hbx:H2.get H.next=some (.cells [va] af true):=hk2.get (cH)
 have hub2:=k2.get hub;have n2:H.next+8<=H2.next:=hk2.le
 have k02:Kp H0 H2:=hk.trans k2;have le_k02:=k02.le;have hu2:UnderV H0 H2 ub u:=hu0.mono k2.sub;refine zW (bA hl g0 g1 g2 @aC) ?_;refine de (fun T' H'=>Kp H0 H'/\UnderV H0 H' ub ⟨(Lin.addU a eq u).lines,(Lin.addU a eq u).rays,u.done⟩/\H'.get H.next=some (.cells [va] af true)) rfl ?_ ?_
 ·rcases Is (fun r=>!decide (Lin.dot a r=0)) u.lines with ⟨hneg,hf⟩ | ⟨i,hi,hf⟩
  ·have hcl:(Lin.cutL u.done a eq u.rays).length<=1099000000000:=by
    have e:Lin.addU a eq u=⟨u.lines,Lin.cutL u.done a eq u.rays,u.done++if eq then [] else [a]⟩:=by unfold Lin.addU; rw [hf]
    rw [e] at hnx;exact hnx
   refine zW (dL hl g0 g1 g2 hneg hbx) ?_;refine AnsH.use (OQ C (u:=u) (H0:=H0) zK hub0 (hu2.mono (Sub.bump H2 _)) (haH.mono (zG H)) hd0 hd hal hR hD hD1 hae hb hbig hcl) ?_;rintro v H3 ⟨rfl,hk3,hu3,ho3⟩;refine zW (aD hl @aW) ?_;refine ⟨zK,?_,ho3 _ _ hbx zO⟩;have e:Lin.addU a eq u=⟨u.lines,Lin.cutL u.done a eq u.rays,u.done++if eq then [] else [a]⟩:=by unfold Lin.addU; rw [hf]
   rw [e];exact hu3
  ·obtain ⟨hil,-,-⟩:=V2.1 hf;have hnn:¬ ((i:Int)<0):=zO;have gi:u.lines.getD i []=u.lines[i]:=by simp [hil]
   refine zW (fy hl g0 g1 g2 hi hnn hbx) ?_;refine AnsH.use (Ma C (u:=u) (H0:=H0) (k02.up _) hub0 (hu2.mono (Sub.bump H2 _)) (haH.mono (Kp.sub (k2.up _))) hil hd hal hL hR hae hb zO zO) ?_;rintro v H3 ⟨hk3,hrv,hu3,ho3,hq3⟩;have w3:=hk3.wf;have le_hk3:=hk3.le;have orv:=hrv.one;have hbx3:H3.get H.next=some (.cells [va] af true):=ho3 _ _ hbx zO fun q1 q2 q3 h=>by
    have h':H2.get ub=some (.cells [q1,q2,q3] aR true):=h;rw [hub2] at h';cases h';intro hq
    have:=hqr.old hw hq
    omega
   have e:Lin.addU a eq u=⟨(u.lines.eraseIdx i).map (Lin.foldV a (Lin.upV a u.lines[i])),u.rays.map (Lin.foldV a (Lin.upV a u.lines[i]))++(if eq then [] else [Lin.upV a u.lines[i]]),u.done++if eq then [] else [a]⟩:=by
    unfold Lin.addU; rw [hf]; simp only [gi]
   rw [e];cases eq with
   | true =>
    refine zW (bA hl g0 g1 g2 @aW) ?_;refine ⟨zK,?_,hbx3⟩
    try simp only [if_true,Wy]
    exact hu3.mono (Sub.bump H3 2)
   | false =>
    obtain ⟨q1',hq1⟩:=hq3 ql qr qd hub2;obtain ⟨ql3,qr3,qd3,cl3,hub3,hql3,hqr3,hqd3,t1,t2,t3⟩:=hu3;have hub3':H3.get ub=some (.cells [ql3,qr3,qd3] aR true):=hub3;rw [hq1] at hub3';cases hub3';have lub3:=w3 _ _ hub3;have lbx3:=w3 _ _ hbx3;have hqr3:Wr H0 H3 qr (u.rays.map (Lin.foldV a (Lin.upV a u.lines[i]))) (u.rays.map (Lin.foldV a (Lin.upV a u.lines[i]))).length:=hqr3;have hrl:(u.rays.map (Lin.foldV a (Lin.upV a u.lines[i]))).length=u.rays.length:=by simp
    obtain ⟨n6,H6,e6,b6,k6,nx6,f6,u6⟩:=Bl.push1 (ty2:=af) (bytes:=24) (id:=H3.next+9) (id2:=H3.next+8) (k:=13) (cs:=[v]) (a:=Lin.upV a u.lines[i]) hqr3.bl zU hk3 ⟨v,rfl,hrv⟩ zO zO zO zO zO zO zO;have e6':dI ((H3.up 13).put (H3.next+8) (.cells [v] af true)) (H3.next+9) 1 24 af qr (.own (H3.next+8) 0 1 1 1 true)=some (.own (H3.next+9) 0 n6 n6 1 false,H6):=e6;have hub6:=f6.other hqr3.bl hub3 (fun cs h=>by injection h with _ h2; exact absurd h2 zU);have lub6:=k6.wf _ _ hub6;have w6:=k6.wf;have hst:BY (some (.cells [q1',qr,qd] aR true)) 1 1 (.own (H3.next+9) 0 n6 n6 1 false)=some (.cells [q1',.own (H3.next+9) 0 n6 n6 1 false,qd] aR true):=gh (bP _ _ _ _ _ _).fits (by simp);refine zW (jW hl g0 g1 g2 hub3 e6' hub6 hst @aW) ?_;refine ⟨zK,⟨q1',.own (H3.next+9) 0 n6 n6 1 false,qd,cl3,ap _ _ _,(f6.wr hqr3.bl hql3 t1.symm).putT hub6 zU zU,?_,(f6.wr hqr3.bl hqd3 t3).putT hub6 zU zU,fun x hx hy=>?_,t2,fun x hx hy=>?_⟩,?_⟩
    ·simp only [V3,if_false];exact b6.wr.putT (e:=.cells [q1',.own (H3.next+9) 0 n6 n6 1 false,qd] aR true) hub6 zU zU
    ·cases hy
     have:=hql3.old w3 hx
     omega
    ·cases hx
     have:=hqd3.old w3 hy
     omega
    ·try rw [az zO]
     refine f6 _ _ hbx3 fun h=>?_
     have:=hqr.old hw h
     omega
 ·rintro T1 H1 hs1 ⟨k1,hu1,hbx1⟩;have w1:=k1.wf;have t0:ad T1 0=.ptr ub 0:=(hs1.at_ 0 zU).trans (zV (aD hl g0));have t2:ad T1 2=.bool eq:=(hs1.at_ 2 zU).trans (zV (aD hl g2));have t4:ad T1 4=.ptr H.next 0:=(hs1.at_ 4 zU).trans (zV hl)
  have hl1:T1.length=48:=hs1.len.trans (by simp only [U4]; exact hl);have e:Lin.addU a eq u=⟨(Lin.addU a eq u).lines,(Lin.addU a eq u).rays,u.done++if eq then [] else [a]⟩:=by
   unfold Lin.addU; split <;> rfl
  rw [e];refine WC.wb ?_;cases eq with
  | true =>
   refine zW (aE hl1 t2 hrs) ?_;refine ⟨zK,?_⟩
   try simp only [if_true,Wy]
   exact hu1.mono (Sub.bump H1 2)
  | false =>
   obtain ⟨ql3,qr3,qd3,cl3,hub3,hql3,hqr3,hqd3,s1',s2',s3'⟩:=hu1;have lub3:=w1 _ _ hub3;obtain ⟨n6,H6,e6,b6,k6,nx6,f6,u6⟩:=Bl.push1 (ty2:=af) (bytes:=24) (id:=H1.next+9) (id2:=H1.next+8) (k:=13) (cs:=[va]) (a:=a) hqd3.bl zU k1 ⟨va,rfl,ha.mono k1.sub⟩ zO zO zO zO zO (by simp only; omega) (by simp only; omega);have e6':dI ((H1.up 13).put (H1.next+8) (.cells [va] af true)) (H1.next+9) 1 24 af qd3 (.own (H1.next+8) 0 1 1 1 true)=some (.own (H1.next+9) 0 n6 n6 1 false,H6):=e6;have hub6:=f6.other hqd3.bl hub3 (fun cs h=>by injection h with _ h2; exact absurd h2 zU);have lub6:=k6.wf _ _ hub6;have w6:=k6.wf;refine zW (aD hl1 t2) ?_;refine aF ?_;have hst:BY (some (.cells [ql3,qr3,qd3] aR true)) 1 2 (.own (H1.next+9) 0 n6 n6 1 false)=some (.cells [ql3,qr3,.own (H1.next+9) 0 n6 n6 1 false] aR true):=gh (bP _ _ _ _ _ _).fits (Vb 3);refine zD (qz hl1 t0 t4 hub3 hbx1 e6' hub6 hst @al hrs) ?_;refine ⟨zK,⟨ql3,qr3,.own (H1.next+9) 0 n6 n6 1 false,cl3,ap _ _ _,(f6.wr hqd3.bl hql3 s2'.symm).putT hub6 zU zU,(f6.wr hqd3.bl hqr3 s3'.symm).putT hub6 zU zU,?_,s1',fun x hx hy=>?_,fun x hx hy=>?_⟩⟩
   ·simp only [V3,if_false];exact b6.wr.putT (e:=.cells [ql3,qr3,.own (H1.next+9) 0 n6 n6 1 false] aR true) hub6 zU zU
   ·cases hy
    have:=hql3.old w1 hx
    omega
   ·cases hy
    have:=hqr3.old w1 hx
    omega
def OS (C:Code tab) (hw:Wf H) {d:Nat} (hd:d<=64):Ans tab (.fn ur [.int .i64 (d:Int)]) H fun v H'=>Bl rowsE af H H' v (Lin.startU d).lines/\Kp H H':=by
 refine cR C.q93 zU fun T hl g0=>?_;refine zW (aD hl g0) ?_;refine aq H [2] (fun j vs H'=>∃ o,vs=[o]/\Bl rowsE af H H' o ((List.range j).map (Lin.unitV d))) (a:=0) (N:=d) rfl (by refine zW (aD hl g0) ?_; rfl) (zV (aD hl g0)) (Vj _) zO (by simp only [U4,hl]; rfl) rfl (fun j vs H' m ⟨o,h1,h2⟩=>⟨o,h1,h2.mono (Sub.bump H' m)⟩) zK ⟨.nilSl,by exact zV (aD hl g0),Bl.nil⟩ ?_ ?_
 ·rintro j T1 H1 _ hj hl1 hi1 hs1 hk1 ⟨o,hv,ho⟩;have w1:=hk1.wf;have le_hk1:=hk1.le;have le1:=hk1.le;simp only [Ve,Vk,Vg,and_true] at hv;have t0:ad T1 0=.int .i64 (d:Int):=(hs1.at_ 0 zU).trans (zV (aD hl g0));simp only [U4,hl] at hl1;obtain ⟨cells,hcells⟩:∃ cells,cells=(List.replicate d [AV.bool false,AV.nilSl]).flatten:=⟨_,rfl⟩
  have hmk:∀ H':Heap,Jy H' (H1.next+3) aa 2 32 [.bool false,.nilSl] (.int .i64 (d:Int)) (.int .i64 (d:Int))=some (.own (H1.next+3) 0 d d 2 true,H'.put (H1.next+3) (.cells cells aa true)):=fun H'=>by rw [hcells]; exact jc _ _ _ _ _ _ _ _ _ zO zO rfl
  refine zW (aQ hl1 t0 hi1 hmk) ?_;refine AnsH.use (iP C (n:=1) zF zO zO) ?_;rintro v H2 ⟨⟨w,rfl,hn⟩,hk2⟩;obtain ⟨k2,_,w2⟩:=zT H1 zK hk2;have ow:=hn.one;have hb2:=hk2.get (b:=H1.next+3) (e:=.cells cells aa true) (cH);have lt2:=w2 _ _ hb2;have hclen:cells.length=d*2:=by rw [hcells]; simp
  have hst:BY (some (.cells cells aa true)) 2 (0+j*2) (.agg [.bool false,w])=some (.cells (cells.take (0+j*2)++[.bool false,w]++cells.drop (0+j*2+2)) aa true):=gh (A4 (am _) ow) zO;have hio:cI 2 (.own (H1.next+3) 0 d d 2 true) (.int .i64 (j:Int))=some (.ptr (H1.next+3) (0+j*2)):=ke hj;rw [VQ] at hst hio;obtain ⟨cells2,hc2⟩:∃ c,c=cells.take (j*2)++[.bool false,w]++cells.drop (j*2+2):=⟨_,rfl⟩
  rw [<- hc2] at hst;have hz:intE.R H2 [.bool false,.nilSl] 0:=⟨.nilSl,by simp,eN H2⟩
  have hcl:Cells intE H2 cells (List.replicate d 0):=by rw [hcells]; exact oK hz _
  have hcl2:Cells intE H2 cells2 ((List.replicate d 0).set j 1):=by rw [hc2]; exact hcl.set (i:=j) (by simpa using hj) ⟨w,rfl,hn⟩
  have m3:NoTy [ae] H2 (H1.next+3):=NoTy.ty hb2 zU;obtain ⟨Hx,hHx⟩:∃ Hx,Hx=H2.put (H1.next+3) (.cells cells2 aa true):=⟨_,rfl⟩
  have kx:Kp H1 Hx:=by rw [hHx]; exact zK
  have k0x:Kp H Hx:=hk1.trans kx;have nx:Hx.next=H2.next:=by rw [hHx]; rfl
  have hclx:Cells intE Hx cells2 ((List.replicate d 0).set j 1):=by rw [hHx]; exact Cells.mono (E:=intE) zS hcl2
  have hrow:RowV Hx (.own (H1.next+3) 0 d d 2 true) (Lin.unitV d j):=by
   have:Own intE aa H1 Hx (H1.next+3) true (.own (H1.next+3) 0 d d 2 true) ((List.replicate d 0).set j 1):=⟨cells2,by simp [intE],by rw [hHx]; exact ap _ _ _,hclx,zO⟩
   exact this.sl
  have orr:=hrow.one;obtain ⟨n6,H6,e6,b6,k6,nx6,f6,u6⟩:=Bl.push1 (ty2:=af) (bytes:=24) (id:=Hx.next+3) (id2:=Hx.next+2) (k:=5) (cs:=[.own (H1.next+3) 0 d d 2 true]) (a:=Lin.unitV d j) (ho.mono kx.sub) zU k0x ⟨_,rfl,hrow⟩ zO zO zO zO zO (by simp; omega) (by simp; omega);have e6':dI ((((H2.up 5).put (H1.next+3) (.cells cells2 aa true))).put (H2.next+2) (.cells [.own (H1.next+3) 0 d d 2 true] af true)) (H2.next+3) 1 24 af o (.own (H2.next+2) 0 1 1 1 true)=some (.own (H2.next+3) 0 n6 n6 1 false,H6):=by rw [hHx] at e6; exact e6
  rw [nx] at b6;refine zW (dL hl1 hio hb2 hst hv e6') ?_;refine ⟨k6,_,rfl,?_⟩;rw [ZI,VW];exact b6
 ·rintro T1 H1 hl1 hs1 hk1 ⟨o,hv,ho⟩;have w1:=hk1.wf;have le_hk1:=hk1.le;simp only [Ve,Vk,Vg,and_true] at hv;simp only [U4,hl] at hl1;refine zW (aD hl1 hv) ?_;exact ⟨ho,hk1⟩
abbrev U0 (H:Heap) (v:AV) (Ls:List (List (List Int))):Prop:=BR (tk rowsE af) DB H v Ls
def L9 (C:Code tab) (hw:Wf H) {Ls:List (List (List Int))} {d:Nat} (hs:U0 H s Ls) (hbig:Ls.length<1099511627776) (hd:∀ L∈Ls,∀ r∈L,r.length=d):Ans tab (.fn rq [s]) H fun v H'=>v=.int .i64 (if Ls.any (fun L=>!L.isEmpty) then (d:Int) else -1)/\Kp H H':=by
 refine cR C.q92 zU fun T hl g0=>?_;refine zW (aE hl g0 hs.lenV) ?_;refine aq H [] (fun j _ _=>∀ k (h:k<Ls.length),k<j->Ls[k]=[]) (a:=0) (N:=Ls.length) rfl (by refine zW (aD hl g0) ?_; rfl) (zV (aD hl g0)) (Vj _) zO (by simp only [U4,hl]; rfl) rfl (fun _ _ _ _ h=>h) zK (fun k _ h=>by omega) ?_ ?_
 ·intro j T1 H1 _ hj hl1 hi1 hs1 hk1 hP;have w1:=hk1.wf;have le_hk1:=hk1.le;have t5:ad T1 5=s:=(hs1.at_ 5 zU).trans (zV (aD hl g0));obtain ⟨w,hr,hld⟩:=SlV.at1 (hs.mono hk1.sub) (U7 hj);have hr:dK H1 w Ls[j]:=hr;have hix:=SlV.idx1 hs .i64 j hj;simp only [U4,hl] at hl1;rcases Xd (Ls[j]).length with h0 | h0
  ·have he:=Wk.1 h0;have hlv:lenV w=some (.int .i64 0):=by rw [hr.lenV,h0]; rfl
   refine zW (dL hl1 t5 hi1 hix hld hlv) ?_;refine ⟨zK,fun k h hk=>?_⟩;by_cases e:k=j
   ·subst e; exact he
   ·exact hP k h zO
  ·obtain ⟨w0,hr0,hld0⟩:=dl hr h0;have hix0:cI 1 w (.int .i64 0)=some (au w 0):=SlV.idx1 hr .i64 0 h0;have l0:lenV w0=some (.int .i64 (d:Int)):=by rw [hr0.lenV,hd _ (U9 hj) _ (U9 h0)]
   have hpos:(0:Int)<((Ls[j]).length:Int):=zO;refine zW (iO hl1 t5 hi1 hix hld hr.lenV hpos h0 hix0 hld0 l0) ?_;refine ⟨?_,zK⟩;rw [if_pos];rw [VO];exact ⟨_,U9 hj,by cases h:Ls[j] with | nil=>rw [h] at h0; simp at h0 | cons a l=>rfl⟩
 ·intro T1 H1 hl1 hs1 hk1 hP;simp only [U4,hl] at hl1;refine zW hl1 ?_;refine ⟨?_,zK⟩;rw [if_neg];rw [YO,Wt];intro L hL;obtain ⟨k,hk,rfl⟩:=Wg hL;rw [hP k hk hk]; simp
def gD (A B:List (List (Bool × List Nat))):Int :=
 if cB A≠0 then cB A else if cB B≠0 then cB B else if A≠[]/\B≠[]/\(A.getD 0 []).length≠(B.getD 0 []).length then 70 else 0
def ED (C:Code tab) (hw:Wf H) {va vb:AV} {A B:List (List (Bool × List Nat))} (ha:Pc H va A) (hb:Pc H vb B) (hA:A.length<1099511627776) (hB:B.length<1099511627776) (ba:∀ r∈A,rV r) (bb:∀ r∈B,rV r) :
  Ans tab (.fn mC [va,vb]) H fun v H'=>v=.int .i64 (gD A B)/\Kp H H':=by
 have oa:=ha.one;have ob:=hb.one;refine BP C.q91 rfl rfl zU fun T hl g=>?_;have hl:T.length=39:=hl;have hrs:c_cone_checked.results=[(4,none)]:=rfl;have g0:ad T 0=va:=g 0 (by simp);have g1:ad T 1=vb:=g 1 (by simp);refine aS ?_;refine zW (aQ hl g0 g1 @aC) ?_;refine de (fun T' H'=>cB A=0/\cB B=0/\Kp H H') rfl ?_ ?_
 ·refine zW (aE hl g0 g1) ?_;refine cm H [11] (fun k vs H'=>∃ i:Nat,vs=[.int .i64 (i:Int)]/\i+k=2/\(1<=i->cB A=0)/\(2<=i->cB B=0)) 2 (by simp only [U4]; exact hl) rfl zK ⟨0,by refine zW hl ?_; rfl,rfl,zO,zO⟩ ?_;rintro k T1 H1 hl1 hs1 hk1 ⟨i,hv,hik,hc1,hc2⟩;have w1:=hk1.wf;have le_hk1:=hk1.le;simp only [Ve,Vk,Vg,and_true] at hv;have t10:ad T1 10=.agg [va,vb]:=(hs1.at_ 10 zU).trans (zV (aE hl g0 g1))
  have:i=0\/i=1\/i=2:=zO
  rcases this with rfl | rfl | rfl
  ·have hv:ad T1 11=.int .i64 0:=hv;refine zW (aE hl1 hv t10) ?_;refine AnsH.eq (tW C zF (ha.mono (zG H)) zO ba) fun H2 hk2=>?_;obtain ⟨k2,_,w2⟩:=zT H zK hk2;by_cases h:cB A=0
   ·refine zW (aE hl1 hv h) ?_;exact ⟨zK,1,zO,1,rfl,rfl,(by first | exact fun _=>h | exact fun _=>trivial),zO⟩
   ·refine zW (bA hl1 hv h @vO hrs) ?_;exact ⟨by unfold gD; rw [if_pos h],zK⟩
  ·have hv:ad T1 11=.int .i64 1:=hv;refine zW (aE hl1 hv t10) ?_;refine AnsH.eq (tW C zF (hb.mono (zG H)) zO bb) fun H2 hk2=>?_;obtain ⟨k2,_,w2⟩:=zT H zK hk2;have hA0:=hc1 zO;by_cases h:cB B=0
   ·refine zW (aE hl1 hv h) ?_;exact ⟨zK,0,zO,2,rfl,rfl,(by first | exact fun _=>hA0 | exact fun _=>trivial),(by first | exact fun _=>h | exact fun _=>trivial)⟩
   ·refine zW (bA hl1 hv h @vO hrs) ?_;refine ⟨?_,zK⟩;unfold gD;rw [if_neg (by simpa using hA0),if_pos h]
  ·have hv:ad T1 11=.int .i64 2:=hv;refine zW (aQ hl1 hv t10 @aW) ?_;exact ⟨hc1 zO,hc2 zO,zK⟩
 ·rintro T1 H1 hs1 ⟨c1,c2,k1⟩;have w1:=k1.wf;have t0:ad T1 0=va:=(hs1.at_ 0 zU).trans (zV (aD hl g0));have t1:ad T1 1=vb:=(hs1.at_ 1 zU).trans (zV (aD hl g1));have hl1:T1.length=39:=hs1.len.trans (by simp only [U4]; exact hl);have hcode:gD A B=if A≠[]/\B≠[]/\(A.getD 0 []).length≠(B.getD 0 []).length then 70 else 0:=by
   unfold gD;rw [if_neg (by simpa using c1),if_neg (by simpa using c2)]
  refine WC.wb ?_;refine zW (aE hl1 t0 t1) ?_;rcases Xd A.length with a0 | a0
  ·have hlA:lenV va=some (.int .i64 0):=by rw [ha.lenV,a0]; rfl
   have hA0:=Wk.1 a0;refine aF ?_;refine zD (dL hl1 t0 t1 hlA hrs @al) ?_;exact ⟨by rw [hcode,if_neg (fun h=>h.1 hA0)],zK⟩
  ·have posA:(0:Int)<(A.length:Int):=zO;have hAn:A≠[]:=fun e=>by rw [e] at a0; simp at a0
   rcases Xd B.length with b0 | b0
   ·have hlB:lenV vb=some (.int .i64 0):=by rw [hb.lenV,b0]; rfl
    have hB0:=Wk.1 b0;refine aF ?_;refine zD (jW hl1 t0 t1 ha.lenV posA a0 hlB hrs @al) ?_;exact ⟨by rw [hcode,if_neg (fun h=>h.2.1 hB0)],zK⟩
   ·have posB:(0:Int)<(B.length:Int):=zO;have hBn:B≠[]:=fun e=>by rw [e] at b0; simp at b0
    obtain ⟨wa,hra,hlda⟩:=Ap (ha.mono k1.sub) a0;obtain ⟨wb,hrb,hldb⟩:=Ap (hb.mono k1.sub) b0;have xa:cI 1 va (.int .i64 0)=some (au va 0):=SlV.idx1 ha .i64 0 a0;have xb:cI 1 vb (.int .i64 0)=some (au vb 0):=SlV.idx1 hb .i64 0 b0;have la:=hra.lenV;have lb:=hrb.lenV;have ga:A.getD 0 []=A[0]:=by simp [a0]
    have gb:B.getD 0 []=B[0]:=by simp [b0]
    by_cases he:A[0].length=B[0].length
    ·have he':((A[0].length:Nat):Int)=((B[0].length:Nat):Int):=zO;refine aF ?_;refine zD (Rv hl1 t0 t1 ha.lenV hb.lenV posA a0 posB @b0 xa xb hlda hldb la lb he' he hrs @al) ?_;exact ⟨by rw [hcode,ga,gb,if_neg (fun h=>h.2.2 he)],zK⟩
    ·have he':¬ ((A[0].length:Nat):Int)=((B[0].length:Nat):Int):=zO;refine aF ?_;refine zD (Rv hl1 t0 t1 ha.lenV hb.lenV posA a0 posB @b0 xa xb hlda hldb la lb he' he hrs @al) ?_;exact ⟨by rw [hcode,ga,gb,if_pos ⟨hAn,hBn,he⟩],zK⟩
end
end Go.Proofs.YteaefaohjlmjdaaGreat.Ev
namespace Go.Proofs.YteaefaohjlmjdaaGreat.Lin
def C8:∀ (n:Nat) (l:List (List Bool)),l.Nodup->(∀ b∈l,b.length=n)->l.length<=2^n
 | 0,[],_,_=>by simp
 | 0,[a],_,_=>by simp
 | 0,a :: b :: l,hn,h=>by
  have ha:=Wk.1 (h a (by simp));have hb:=Wk.1 (h b (by simp));subst ha; subst hb;simp at hn
 | n+1,l,hn,h=>by
  have part:∀ v:Bool,((l.filter fun b=>b.head? == some v).map List.tail).length<=2^n:=fun v=>by
   refine C8 n _ ?_ fun b hb=>?_
   ·refine Wx.2 (XT (fun {x y} hx hy hne e=>hne ?_) (Yi _ hn));have hx:=(Vp.1 hx).2;have hy:=(Vp.1 hy).2;cases x with
    | nil=>simp at hx
    | cons a x =>
     cases y with
     | nil=>simp at hy
     | cons b y =>
      simp at hx hy e;rw [hx,hy,e]
   ·obtain ⟨c,hc,rfl⟩:=Va.1 hb
    have:=h c (Vp.1 hc).1
    simp [this]
  have h1:=part true;have h2:=part false;rw [Vc] at h1 h2;have h3:l.length=(l.filter fun b=>b.head? == some true).length+(l.filter fun b=>b.head? == some false).length:=by
   rw [<- XE,<- XE,YE (p:=fun b:List Bool=>b.head? == some true)];congr 1;refine List.countP_congr fun b hb=>?_
   have:=h b hb
   cases b with
   | nil=>simp at this
   | cons a b=>cases a <;> simp
  rw [VJ]; omega
def DD.count {d:Nat} {E L:V->Prop} {dn R:List V} (h:DD d E (· ∈ dn) L R):R.length<=2^dn.length:=by
 have hn:(R.map fun r=>dn.map fun i=>decide (dot i r=0)).Nodup:=by
  refine Wx.2 (h.apart.imp fun hne e=>hne fun i hi=>?_)
  have:=List.map_inj_left.1 e i hi
  simpa using this
 have:=C8 dn.length _ hn fun b hb=>by obtain ⟨r,-,rfl⟩:=Va.1 hb; simp
 simpa using this
def gensU_done {d:Nat} {eqs ineqs:List V} (h1:∀ a∈eqs,a.length=d) (h2:∀ a∈ineqs,a.length=d):(gensU d eqs ineqs).done=ineqs:=by
 obtain ⟨g1,g2⟩:=zo eqs (startU d) _ oG h1;obtain ⟨g3,g4⟩:=xS ineqs _ g1 h2;exact g4.trans (by rw [g2]; simp [startU])
def Ba {d:Nat} (eq:Bool):∀ (l:List V) (u:Under) (E:V->Prop) (ps:List (Nat × V)),DD d E (· ∈ u.done) (· ∈ u.lines) u.rays->Rq d ps u->(∀ a∈l,a.length=d)->∃ ps',Rq d ps' (l.foldl (fun u a=>addU a eq u) u)
 | [],u,E,ps,_,h,_=>⟨ps,h⟩
 | a :: l,u,E,ps,hdd,h,hl=>by
  obtain ⟨ps',h'⟩:=QN (a:=a) hdd h eq;exact Ba eq l (addU a eq u) _ ps' (IY hdd (hl a (Vh ..)) eq) h' fun b hb=>hl b (Vd _ hb)
def LG {d:Nat} {eqs ineqs:List V} (h1:∀ a∈eqs,a.length=d) (h2:∀ a∈ineqs,a.length=d):∃ ps,Rq d ps (gensU d eqs ineqs):=by
 obtain ⟨g1,-⟩:=zo eqs (startU d) _ oG h1;obtain ⟨ps,hp⟩:=Ba true eqs (startU d) _ _ oG (L4 d) h1;exact Ba false ineqs _ _ ps g1 hp h2
def Mp (a:V) (eq:Bool) (u:Under):(addU a eq u).lines.length<=u.lines.length:=by
 unfold addU;split
 ·exact Vb _
 ·simp only [Vc];exact List.length_eraseIdx_le ..
def uD (eq:Bool):∀ (l:List V) (u:Under),(l.foldl (fun u a=>addU a eq u) u).lines.length<=u.lines.length
 | [],u=>Vb _
 | a :: l,u=>Vn (uD eq l (addU a eq u)) (Mp a eq u)
def gensU_lines (d:Nat) (eqs ineqs:List V):(gensU d eqs ineqs).lines.length<=d:=by
 refine Vn (uD false ineqs _) (Vn (uD true eqs _) ?_);simp [startU]
def gens_mid {d M:Nat} (hd:0<d) (hM:0<M) {eqs ineqs:List V} (h1:∀ a∈eqs,a.length=d/\Bd M a) (h2:∀ a∈ineqs,a.length=d/\Bd M a) :
  (∀ l∈(gensU d eqs ineqs).lines,l.length=d/\Bd ((2*d*M)^2^d) l)/\(∀ r∈(gensU d eqs ineqs).rays,r.length=d/\Bd ((2*d*M)^2^d) r)/\(gensU d eqs ineqs).rays.length<=2^ineqs.length:=by
 have e1:∀ a∈eqs,a.length=d:=fun a ha=>(h1 a ha).1;have e2:∀ a∈ineqs,a.length=d:=fun a ha=>(h2 a ha).1;have hdd:=gensU_dd e1 e2;obtain ⟨ps,hp⟩:=LG e1 e2;have hdn:=gensU_done e1 e2;obtain ⟨b1,b2⟩:=OL (Es:=eqs) hd hM (by rw [hdn]; exact hdd) hp h1 (by rw [hdn]; exact h2);exact ⟨fun l hl=>⟨hdd.lenL l hl,b1 l hl⟩,fun r hr=>⟨hdd.lenR r hr,b2 r hr⟩,hdd.count⟩
def Nk {d:Nat} {E I:V->Prop} {L R dn:List V} (h:y8 d E I L R):Rq d (L.map fun l=>(pv l,l)) ⟨L,R,dn⟩:=by
 refine ⟨by simp [Xl,Function.comp_def],fun q hq=>?_,fun q hq=>?_,?_,fun r hr q hq=>?_,h.form.cont,h.cont⟩
 ·obtain ⟨l,hl,rfl⟩:=Va.1 hq;exact (h.form.pos hl).2.2
 ·obtain ⟨l,hl,rfl⟩:=Va.1 hq
  have:=(h.form.pos hl).2.1
  simp only;omega
 ·exact Wx.2 h.form.clear
 ·obtain ⟨l,hl,rfl⟩:=Va.1 hq;exact h.rest r hr l hl
def told_bd {d M:Nat} (hd:0<d) (hM:0<M) {eqs ineqs L R:List V} (h:y8 d (· ∈ eqs) (· ∈ ineqs) L R) (h1:∀ a∈eqs,a.length=d/\Bd M a) (h2:∀ a∈ineqs,a.length=d/\Bd M a) :
  (∀ l∈L,Bd ((2*d*M)^2^d) l)/\(∀ r∈R,Bd ((2*d*M)^2^d) r) :=
 OL (u:=⟨L,R,ineqs⟩) hd hM h.dd (Nk h) h1 h2
def pow_bd {d m:Nat} (hd:d<=6):(2*d*2^m)^2^d<=2^(64*(m+4)):=by
 have h1:2*d*2^m<=2^(m+4):=by
  rw [VZ,Vt (2^m)];exact Vl _ zO
 have h2:2^d<=2^6:=Vx (by decide) hd;have h3:2^d*(m+4)<=64*(m+4):=Vl _ h2
 calc (2*d*2^m)^2^d<=(2^(m+4))^2^d:=WX h1 _
  _=2^((m+4)*2^d):=(Ym ..).symm
  _<=2^(64*(m+4)):=Vx (by decide) (by rw [Vt]; exact h3)
def CL {d:Nat} {E I:V->Prop} {L R A B:List V} (hE:∀ e,E e->e.length=d) (hI:∀ i,I i->i.length=d) (h:DD d E I (· ∈ L) R) (h':DD d (· ∈ L) (· ∈ R) (· ∈ A) B):∀ x,Keep d E I x ↔ Keep d (· ∈ A) (· ∈ B) x:=by
 intro x;constructor
 ·intro hx;have hc:=h.all x hx;refine ⟨hx.len,fun a ha=>hc.dot_zero h.lenL h.lenR (fun l hl=>?_) (fun r hr=>?_),fun b hb=>hc.dot_nonneg h.lenL h.lenR (fun l hl=>?_) (fun r hr=>?_)⟩
  ·rw [dot_comm]; exact h'.lineE a ha l hl
  ·rw [dot_comm]; exact h'.lineI a ha r hr
  ·rw [dot_comm]; exact (h'.keep b hb).eq l hl
  ·rw [dot_comm]; exact (h'.keep b hb).ge r hr
 ·intro hx;have key:∀ y,Keep d (· ∈ L) (· ∈ R) y->0<=dot x y:=fun y hy=>(h'.all y hy).dot_nonneg h'.lenL h'.lenR (fun l hl=>by rw [dot_comm]; exact hx.eq l hl) (fun r hr=>by rw [dot_comm]; exact hx.ge r hr);refine ⟨hx.len,fun e he=>?_,fun i hi=>?_⟩
  ·have k1:=key e ⟨hE e he,fun l hl=>by rw [dot_comm]; exact h.lineE l hl e he,fun r hr=>by rw [dot_comm,(h.keep r hr).eq e he]; exact Xi _⟩;have k2:=key (scl (-1) e) ⟨ah (hE e he),fun l hl=>by rw [dot_scl,dot_comm,h.lineE l hl e he]; rfl,fun r hr=>by rw [dot_scl,dot_comm,(h.keep r hr).eq e he]; exact Xi _⟩;rw [dot_scl] at k2;rw [dot_comm]; omega
  ·rw [dot_comm];exact key i ⟨hI i hi,fun l hl=>by rw [dot_comm]; exact h.lineI l hl i hi,fun r hr=>by rw [dot_comm]; exact (h.keep r hr).ge i hi⟩
def LI {d:Nat} {eqs ineqs:List V} (h1:∀ a∈eqs,a.length=d) (h2:∀ a∈ineqs,a.length=d):∀ l∈gensL d eqs ineqs,l.length=d:=(gens_told h1 h2).dd.lenL
def LH {d:Nat} {eqs ineqs:List V} (h1:∀ a∈eqs,a.length=d) (h2:∀ a∈ineqs,a.length=d):∀ r∈gensR d eqs ineqs,r.length=d:=(gens_told h1 h2).dd.lenR
def told_nodup {d:Nat} {E I:V->Prop} {L R:List V} (h:y8 d E I L R):R.Nodup:=h.dd.apart.imp fun hne e=>hne fun i hi=>by rw [e]
def ig:List V->List V->List V
 | _,[]=>[]
 | F,a :: l=>match pivot (restF F a) with
  | none=>ig F l
  | some _=>a :: ig (putF F a) l
def insP_len (x:V) (p:Nat):∀ F:List V,(insP x p F).length=F.length+1
 | []=>rfl
 | r :: F=>by
  unfold insP;split
  ·rw [VT,insP_len x p F,VT]
  ·rfl
def wz:∀ (l F:List V),(ig F l).foldl putF F=l.foldl putF F/\(l.foldl putF F).length=F.length+(ig F l).length
 | [],F=>⟨rfl,rfl⟩
 | a :: l,F=>by
  unfold ig;cases h:pivot (restF F a) with
  | none =>
   have e:putF F a=F:=by unfold putF; rw [h]
   simp only [WQ,e];exact wz l F
  | some p =>
   have e:(putF F a).length=F.length+1:=by unfold putF; rw [h]; simp only; rw [insP_len,Vc]
   obtain ⟨h1,h2⟩:=wz l (putF F a);simp only [WQ,VT];exact ⟨h1,by rw [h2,e]; omega⟩
def p9:∀ (l F:List V),∀ x∈ig F l,x∈l
 | [],F,x,h=>by cases h
 | a :: l,F,x,h=>by
  unfold ig at h;split at h
  ·exact Vd _ (p9 l F x h)
  ·rcases VA.1 h with rfl | h
   ·exact Vh ..
   ·exact Vd _ (p9 l _ x h)
def Ke {d:Nat} {l:List V} (hl:∀ a∈l,a.length=d):(ig [] l).length<=d/\∀ x,Spn d (· ∈ ig [] l) x ↔ Spn d (· ∈ l) x:=by
 obtain ⟨h1,h2⟩:=wz l [];obtain ⟨h3,h4⟩:=form_ech hl;obtain ⟨-,h5⟩:=form_ech (d:=d) (l:=ig [] l) fun a ha=>hl a (p9 l [] a ha);have e:formF (ig [] l)=formF l:=h1;have h6:=Ev.ech_len h3;have e2:(formF l).length=([]:List V).length+(ig [] l).length:=h2;refine ⟨by simp at e2; omega,fun x=>?_⟩;rw [<- h5 x,e,h4 x]
def CF {α:Type} [DecidableEq α] (M:Nat):∀ (A:List α) (l:List (List α)),(∀ b∈l,∃ a∈A,b.head? = some a)->(∀ a∈A,(l.filter fun b=>b.head? == some a).length<=M)->l.length<=A.length*M
 | [],l,h,_=>by
  cases l with
  | nil=>simp
  | cons b l=>obtain ⟨a,ha,_⟩:=h b (Vh ..); cases ha
 | a :: A,l,h,hM=>by
  have h1:=hM a (Vh ..);have h2:=CF M A (l.filter fun b=>!(b.head? == some a)) (fun b hb=>by
   obtain ⟨hb,hn⟩:=Vp.1 hb;obtain ⟨c,hc,e⟩:=h b hb;rcases VA.1 hc with rfl | hc
   ·simp [e] at hn
   ·exact ⟨c,hc,e⟩) fun c hc=>by
    refine Vn ?_ (hM c (Vd _ hc));exact (List.Sublist.filter _ List.filter_sublist).length_le
  have h3:l.length=(l.filter fun b=>b.head? == some a).length+(l.filter fun b=>!(b.head? == some a)).length:=by
   rw [<- XE,<- XE,YE (p:=fun b:List α=>b.head? == some a)];congr 1;refine List.countP_congr fun b _=>?_
   simp
  rw [VT,WP];omega
def CA {α:Type} [DecidableEq α] (A:List α):∀ (k:Nat) (l:List (List α)),l.Nodup->(∀ b∈l,b.length=k/\∀ x∈b,x∈A)->l.length<=A.length^k
 | 0,[],_,_=>by simp
 | 0,[a],_,_=>by simp
 | 0,a :: b :: l,hn,h=>by
  have ha:=Wk.1 (h a (by simp)).1;have hb:=Wk.1 (h b (by simp)).1;subst ha; subst hb;simp at hn
 | k+1,l,hn,h=>by
  have:=CF (A.length^k) A l (fun b hb=>by
   obtain ⟨h1,h2⟩:=h b hb;cases b with
   | nil=>simp at h1
   | cons x b=>exact ⟨x,h2 x (Vh ..),rfl⟩) fun v _=>by
    have:=CA A k ((l.filter fun b=>b.head? == some v).map List.tail) (by
     refine Wx.2 (XT (fun {x y} hx hy hne e=>hne ?_) (Yi _ hn));have hx:=(Vp.1 hx).2;have hy:=(Vp.1 hy).2;cases x with
     | nil=>simp at hx
     | cons a x =>
      cases y with
      | nil=>simp at hy
      | cons b y =>
       simp at hx hy e;rw [hx,hy,e]) fun b hb=>by
     obtain ⟨c,hc,rfl⟩:=Va.1 hb;obtain ⟨h1,h2⟩:=h c (Vp.1 hc).1;refine ⟨by simp [h1],fun x hx=>h2 x (List.mem_of_mem_tail hx)⟩
    rwa [Vc] at this
  rw [VJ,Vt]; exact this
def OF:∀ x:V,0<=dot x x/\(dot x x=0->∀ y:V,dot y x=0)
 | []=>⟨by simp [dot],fun _ y=>by cases y <;> simp [dot]⟩
 | a :: x=>by
  obtain ⟨h1,h2⟩:=OF x;have h3:0<=a*a:=by
   rcases Int.le_total 0 a with h | h
   ·exact VS h h
   ·exact Int.mul_nonneg_of_nonpos_of_nonpos h h
  have e:dot (a :: x) (a :: x)=a*a+dot x x:=by simp [dot]
  rw [e];refine ⟨zO,fun h0 y=>?_⟩;have ha:a=0:=by
   have:a*a=0:=zO
   rcases VB.1 this with h | h <;> exact h
  cases y with
  | nil=>simp [dot]
  | cons b y =>
   have:=h2 zO y
   simp [dot,ha] at this ⊢;exact this
def O4 {d:Nat} {l:List V} (hl:∀ a∈l,a.length=d) {r i:V} (hr:r.length=d) (hz:∀ a∈l,dot a r=0) (hn:dot i r≠0):(ig [] l).length+1<=d:=by
 obtain ⟨h1,h2⟩:=form_ech hl;obtain ⟨h3,h4⟩:=put_ech h1 hr;have e2:(formF l).length=([]:List V).length+(ig [] l).length:=(wz l []).2;cases hp:pivot (restF (formF l) r) with
 | some p =>
  have e:(putF (formF l) r).length=(formF l).length+1:=by unfold putF; rw [hp]; simp only; rw [insP_len,Vc]
  have:=Ev.ech_len h3
  simp at e2;omega
 | none =>
  exfalso
  have e:putF (formF l) r=formF l:=by unfold putF; rw [hp]
  have h5:Spn d (· ∈ l) r:=(h2 r).1 (by
   have:=(h4 r).2 (dN hr (.inr rfl))
   rw [e] at this;exact this)
  have h6:=Con.dot_zero (a:=r) hl (fun r h=>h.elim) (fun a ha=>by rw [dot_comm]; exact hz a ha) (fun r h=>h.elim) h5;exact hn ((OF r).2 h6 i)
def DD.count3 {d:Nat} {E L:V->Prop} {dn R:List V} (h:DD d E (· ∈ dn) L R) (hdn:∀ i∈dn,i.length=d):R.length<=1\/R.length<=dn.length^(d-1):=by
 obtain ⟨T,hT⟩:∃ T:V->List V,T=fun r=>dn.filter fun i=>decide (dot i r=0):=⟨_,rfl⟩
 have mT:∀ r i,i∈T r ↔ i∈dn/\dot i r=0:=fun r i=>by rw [hT,Vp]; simp
 have lT:∀ r,∀ i∈T r,i.length=d:=fun r i hi=>hdn i ((mT r i).1 hi).1;by_cases he:∃ r∈R,ig [] (T r)=[]
 ·left
  obtain ⟨r,hr,hb⟩:=he;have hz:∀ i,i∈dn->dot i r=0->∀ y,dot i y=0:=fun i hi h0 y=>by
   have h1:Spn d (· ∈ ig [] (T r)) i:=((Ke (lT r)).2 i).2 (dN (hdn i hi) ((mT r i).2 ⟨hi,h0⟩));rw [dot_comm];exact Con.dot_zero (fun l hl=>lT r l (p9 _ _ l hl)) (fun r h=>h.elim) (fun l hl=>by rw [hb] at hl; cases hl) (fun r h=>h.elim) h1
  have hsame:∀ s∈R,∀ i,i∈dn->(dot i s=0 ↔ dot i r=0):=fun s hs=>by
   obtain ⟨k,c,hk,hc,hsp⟩:=h.ext r hr s (h.keep s hs) fun i hi h0=>hz i hi h0 s;have hls:=h.lenR s hs;have hlr:=h.lenR r hr;have hdot:∀ i,i∈dn->k*dot i s=c*dot i r:=fun i hi=>by
    have:=Con.dot_zero (a:=i) h.lenL (fun r h=>h.elim) (fun l hl=>h.lineI l hl i hi) (fun r h=>h.elim) hsp
    rw [aT _ _ _ (hls.trans hlr.symm),YT] at this;omega
   have hc':c≠0:=fun e=>by
    obtain ⟨i,hi,hn⟩:=h.off s hs
    have:=hdot i hi
    rw [e,ZE] at this;rcases VB.1 this with h1 | h1
    ·omega
    ·exact hn h1
   intro i hi
   have:=hdot i hi
   constructor
   ·intro e;rw [e,Y6] at this;rcases VB.1 this.symm with h1 | h1
    ·exact absurd h1 hc'
    ·exact h1
   ·intro e;rw [e,Y6] at this;rcases VB.1 this with h1 | h1
    ·omega
    ·exact h1
  have ha:=h.apart
  match R,ha,hsame with
  | [],_,_=>simp
  | [x],_,_=>simp
  | x :: y :: R',ha,hsame =>
   exfalso
   have h1:=List.rel_of_pairwise_cons ha (Vh (a:=y) (l:=R'));exact h1 fun i hi=>(hsame x (by simp) i hi).trans (hsame y (by simp) i hi).symm
 ·right
  have hne:∀ r∈R,ig [] (T r)≠[]:=fun r hr e=>he ⟨r,hr,e⟩;have hd:∀ b:List V,b≠[]->b.headD []∈b:=fun b hb=>by
   cases b with
   | nil=>exact absurd rfl hb
   | cons a b=>exact Vh ..
  have hn:(R.map fun r=>ig [] (T r)++List.replicate (d-1-(ig [] (T r)).length) ((ig [] (T r)).headD [])).Nodup:=by
   have half:∀ r s:V,ig [] (T s)≠[]->ig [] (T r)++List.replicate (d-1-(ig [] (T r)).length) ((ig [] (T r)).headD [])=ig [] (T s)++List.replicate (d-1-(ig [] (T s)).length) ((ig [] (T s)).headD [])->∀ i,i∈dn->dot i r=0->dot i s=0:=fun r s hs e i hi hz=>by
    have h1:Spn d (· ∈ ig [] (T r)) i:=((Ke (lT r)).2 i).2 (dN (hdn i hi) ((mT r i).2 ⟨hi,hz⟩));rw [dot_comm];refine Con.dot_zero (fun l hl=>lT r l (p9 _ _ l hl)) (fun r h=>h.elim) (fun l hl=>?_) (fun r h=>h.elim) h1;have h2:l∈ig [] (T s)++List.replicate (d-1-(ig [] (T s)).length) ((ig [] (T s)).headD []):=by rw [<- e]; exact WF _ hl
    have h3:l∈ig [] (T s):=by
     rcases Vu.1 h2 with h2 | h2
     ·exact h2
     ·rw [XS h2]; exact hd _ hs
    rw [dot_comm]; exact ((mT s l).1 (p9 _ _ l h3)).2
   exact Wx.2 (h.apart.imp_of_mem fun {r s} hr hs hap e=>hap fun i hi=>⟨half _ _ (hne s hs) e i hi,half _ _ (hne r hr) e.symm i hi⟩)
  have:=CA dn (d-1) _ hn fun b hb=>by
   obtain ⟨r,hr,rfl⟩:=Va.1 hb;obtain ⟨i,hi,hni⟩:=h.off r hr;have h1:=O4 (lT r) (h.lenR r hr) (fun a ha=>((mT r a).1 ha).2) hni;refine ⟨by rw [Vr,XG]; omega,fun x hx=>?_⟩;have hm:x∈ig [] (T r):=by
    rcases Vu.1 hx with hx | hx
    ·exact hx
    ·rw [XS hx]; exact hd _ (hne r hr)
   exact ((mT r x).1 (p9 _ _ x hm)).1
  simpa using this
end Go.Proofs.YteaefaohjlmjdaaGreat.Lin
namespace Go.Proofs.YteaefaohjlmjdaaGreat.Ev
open Go Nn
def F0 (d:Nat) (E:List (List Int)) {j:Nat} (h:j<E.length):Lin.gensU d (E.take (j+1)) []=Lin.addU E[j] true (Lin.gensU d (E.take j) []):=by
 unfold Lin.gensU;rw [Vi h,Yg]; rfl
def FZ (d:Nat) (E I:List (List Int)) {j:Nat} (h:j<I.length):Lin.gensU d E (I.take (j+1))=Lin.addU I[j] false (Lin.gensU d E (I.take j)):=by
 unfold Lin.gensU;rw [Vi h,Yg]; rfl
def gZ {m:Nat} {x:List Int} (h:Lin.Bd (2^m) x):∀ z∈x,Bt (m+1) z:=fun z hz=>by
 have h1:=h.mem z hz;have h2:0<2^m:=VK zU;unfold Bt;rw [VJ];omega
def LK {d:Nat} {l:List (List Int)} (hl:∀ r∈l,r.length=d):Lin.formF (Lin.formF l)=Lin.formF l:=by
 have h:=Lin.form_ech hl;have h2:=Lin.form_ech h.1.len;exact h2.1.unique h.1 h2.2
structure Rp (d f:Nat) (u:Lin.Under) (I:List (List Int)):Prop where
 lines:∀ l∈u.lines,l.length=d/\∀ z∈l,Bt f z
 rays:∀ r∈u.rays,r.length=d/\∀ z∈r,Bt f z
 few:u.rays.length<=I.length^(d-1)+1
 some:u.lines.length<=d
 done:u.done=I
def Sr {d m:Nat} (hd0:0<d) (hd:d<=6) {E I:List (List Int)} (h1:∀ a∈E,a.length=d/\Lin.Bd (2^m) a) (h2:∀ a∈I,a.length=d/\Lin.Bd (2^m) a):Rp d (64*(m+4)+1) (Lin.gensU d E I) I:=by
 obtain ⟨g1,g2,g3⟩:=Lin.gens_mid hd0 (VK (n:=m) (show 0<2 by decide)) h1 h2;exact ⟨fun l hl=>⟨(g1 l hl).1,gZ ((g1 l hl).2.mono (Lin.pow_bd hd))⟩,fun l hl=>⟨(g2 l hl).1,gZ ((g2 l hl).2.mono (Lin.pow_bd hd))⟩,by rcases (Lin.gensU_dd (fun a ha=>(h1 a ha).1) (fun a ha=>(h2 a ha).1)).count3 (fun a ha=>(h2 a ha).1) with h | h <;> omega,Lin.gensU_lines d E I,Lin.gensU_done (fun a ha=>(h1 a ha).1) (fun a ha=>(h2 a ha).1)⟩
def uK {d m:Nat} (hd0:0<d) (hd:d<=6) {E I:List (List Int)} (h1:∀ a∈E,a.length=d/\Lin.Bd (2^m) a) (h2:∀ a∈I,a.length=d/\Lin.Bd (2^m) a) :
  (∀ l∈Lin.gensL d E I,l.length=d/\Lin.Bd (2^(64*(m+4))) l)/\∀ r∈Lin.gensR d E I,r.length=d/\Lin.Bd (2^(64*(m+4))) r:=by
 have t:=Lin.gens_told (fun a ha=>(h1 a ha).1) (fun a ha=>(h2 a ha).1);obtain ⟨g1,g2⟩:=Lin.told_bd hd0 (VK (n:=m) (show 0<2 by decide)) t h1 h2;exact ⟨fun l hl=>⟨t.dd.lenL l hl,(g1 l hl).mono (Lin.pow_bd hd)⟩,fun l hl=>⟨t.dd.lenR l hl,(g2 l hl).mono (Lin.pow_bd hd)⟩⟩
def SE {e d:Nat} (hd:d<=6):jB e d<=1237*e+1957:=by
 refine Vn (uy e hd) ?_;simp only [jB];omega
def IQ {d:Nat} {A B:List (List Int)} (h1:xU d A) (h2:xU d B) (hA:A.length<=1024) (hB:B.length<=1024):gD (A.map fun r=>r.map cC) (B.map fun r=>r.map cC)=0:=by
 have code:∀ {L:List (List Int)},xU d L->L.length<=1024->cB (L.map fun r=>r.map cC)=0:=fun {L} hok hL=>by
  refine wS (by rw [Vc]; exact hL) (fun k hk=>?_) fun k hk=>?_
  ·rw [Vc] at hk;have hm:=U9 hk;simp only [X5];unfold xP;rw [DP (by rw [hok.len _ hm]; exact hok.le),decide_eq_false (by rw [Vc,hok.len _ hm]; have:=hok.pos; omega)];rfl
  ·rw [Vc] at hk;simp only [X5,Vc];rw [hok.len _ (U9 hk),hok.len _ (U9 zO)]
 unfold gD;rw [code h1 hA,code h2 hB];simp only [ne_eq,not_true_eq_false,if_false];rw [if_neg];rintro ⟨ha,hb,hne⟩
 apply hne
 cases A with
 | nil=>simp at ha
 | cons a A =>
  cases B with
  | nil=>simp at hb
  | cons b B=>simp [h1.len a (by simp),h2.len b (by simp)]
def QO {a:AV} (ha:One a):fu [.nilSl,.nilSl,.nilSl] [((0,1),a)]=some (.agg [a,.nilSl,.nilSl]):=by
 simp [fu,cG,ha.1,ha.2]
section
variable {tab:Nat->Option aA} {H:Heap} {s:AV}
def EE (C:Code tab) (hw:Wf H) {a b:AV} {x y:List Int} (ha:RowV H a x) (hb:RowV H b y) (hxy:x.length=y.length) (h64:x.length<=64) (hx:∀ z∈x,dJ z) (hy:∀ z∈y,dJ z) :
  Ans tab (.fn i8 [a,b]) H fun v H'=>v=.int .i64 (EF x y)/\Kp H H':=by
 have oa:=ha.one;have ob:=hb.one;refine bB C.q98 zU fun T hl g0 g1=>?_;refine zW (aE hl g0 g1) ?_;refine AnsH.eq (PV C zF (ha.mono (zG H)) (hb.mono (zG H)) hxy h64 hx hy) fun H2 hk2=>?_;obtain ⟨k2,_,_⟩:=zT H zK hk2;refine zW (aE hl g0 g1) ?_;exact zK
def Bf (C:Code tab) (hw:Wf H) {va vb:AV} {E I:List (List Int)} {d m:Nat} (ha:dK H va E) (hb:dK H vb I) (hd0:0<d) (hd:d<=6) (he:E.length<=1024) (hi:I.length<=1024) (hcnt:I.length^(d-1)<1099000000000) (h1:∀ a∈E,a.length=d/\Lin.Bd (2^m) a) (h2:∀ a∈I,a.length=d/\Lin.Bd (2^m) a) (hm:m<=300000) :
  Ans tab (.fn rr [.int .i64 (d:Int),va,vb]) H fun v H'=>∃ p q,v=.tup [p,q,.int .i64 0]/\dK H' p (Lin.gensL d E I)/\dK H' q (Lin.gensR d E I)/\Kp H H':=by
 have oa:=ha.one;have ob:=hb.one;obtain ⟨f,hf⟩:∃ f,f=64*(m+4)+1:=⟨_,rfl⟩
 have ok1:xU d E:=⟨hd0,zO,fun r hr=>(h1 r hr).1,fun r hr z hz=>(gZ (h1 r hr).2 z hz).sm zO⟩
 have ok2:xU d I:=⟨hd0,zO,fun r hr=>(h2 r hr).1,fun r hr z hz=>(gZ (h2 r hr).2 z hz).sm zO⟩
 have mid:∀ {A B:List (List Int)},(∀ a∈A,a.length=d/\Lin.Bd (2^m) a)->(∀ a∈B,a.length=d/\Lin.Bd (2^m) a)->Rp d f (Lin.gensU d A B) B:=fun hA hB=>by rw [hf]; exact Sr hd0 hd hA hB
 have hfb:=SE (e:=f) hd;refine BP C.q66 rfl rfl zU fun T hl g=>?_;have hl:T.length=100:=hl;have hrs:c_cone_Gens.results=[(6,none),(7,none),(8,none)]:=rfl;have g0:ad T 0=.int .i64 (d:Int):=g 0 (by simp);have g1:ad T 1=va:=g 1 (by simp);have g2:ad T 2=vb:=g 2 (by simp);refine aS ?_;refine zW (bA hl g0 g1 g2 @aC) ?_;refine de (fun T' H'=>Kp H H') rfl ?_ ?_
 ·refine zW (aQ hl g0 g1 g2) ?_;refine AnsH.eq (ED C zF ((Ak ha).mono (zG H)) ((Ak hb).mono (zG H)) (by rw [Vc]; omega) (by rw [Vc]; omega) (fun r hr=>?_) (fun r hr=>?_)) fun H2 hk2=>?_
  ·obtain ⟨x,hx,rfl⟩:=Va.1 hr;exact uU (by rw [ok1.len x hx]; omega) (ok1.sm x hx)
  ·obtain ⟨x,hx,rfl⟩:=Va.1 hr;exact uU (by rw [ok2.len x hx]; omega) (ok2.sm x hx)
  rw [IQ ok1 ok2 he hi];obtain ⟨k2,_,_⟩:=zT H zK hk2;refine zW (aD hl @aW) ?_;exact zK
 intro T1 H1 hs1 k1;have w1:=k1.wf;have le1:=k1.le;have t0:ad T1 0=.int .i64 (d:Int):=(hs1.at_ 0 zU).trans (zV (aD hl g0));have t1:ad T1 1=va:=(hs1.at_ 1 zU).trans (zV (aD hl g1));have t2:ad T1 2=vb:=(hs1.at_ 2 zU).trans (zV (aD hl g2));have t7:ad T1 7=.nilSl:=(hs1.at_ 7 zU).trans (zV hl);have hl1:T1.length=100:=hs1.len.trans (by simp only [U4]; exact hl);refine de (fun T' H'=>Kp H H'/\ad T' 7=.nilSl) rfl ?_ ?_
 ·refine zW (aQ hl1 t0 t1 t2) ?_;refine AnsH.use (L9 C (Ls:=[E,I]) (d:=d) zF (B2 (E:=rowsE) (t1:=af) ha hb (zG H) (cH)) (by simp) (fun L hL r hr=>?_)) ?_
  ·rcases VA.1 hL with rfl | hL
   ·exact ok1.len r hr
   ·rcases VA.1 hL with rfl | hL
    ·exact ok2.len r hr
    ·cases hL
  rintro v H2 ⟨rfl,hk2⟩;obtain ⟨k2,_,_⟩:=zT H zK hk2;have q1:¬ ((d:Int)<1):=zO;have q2:¬ ((64:Int)<(d:Int)):=zO;have q3:(0:Int)<=(d:Int):=zO;cases hany:[E,I].any (fun L=>!L.isEmpty) with
  | true =>
   refine zW (fy hl1 t0 t7 q1 q2 q3 @aW) ?_;exact zK
  | false =>
   refine zW (fy hl1 t0 t7 q1 q2 q3 @aW) ?_;exact zK
 rintro T2 H2 hs2 ⟨k2,u7⟩;have w2:=k2.wf;have le2:=k2.le;have u0:ad T2 0=.int .i64 (d:Int):=(hs2.at_ 0 zU).trans t0;have u1:ad T2 1=va:=(hs2.at_ 1 zU).trans t1;have u2:ad T2 2=vb:=(hs2.at_ 2 zU).trans t2;have hl2:T2.length=100:=hs2.len.trans hl1;refine de (fun T' H'=>ad T' 10=.ptr (H2.next+3) 0/\Kp H H'/\UnderV H H' (H2.next+3) (Lin.gensU d [] [])) rfl ?_ ?_
 ·refine zW (aD hl2 u0) ?_;refine AnsH.use (OS C (d:=d) zF zO) ?_;rintro v H3 ⟨bl3,hk3⟩;obtain ⟨k23,_,_⟩:=zT H2 zK hk3;have k3:Kp H H3:=k2.trans k23;have le_k3:=k3.le;have w3:=k3.wf;have ov:=bl3.sl.one;have h0:AV.one .nilSl=true:=rfl;have hbv:fJ (.agg [v,.nilSl,.nilSl])=some [v,.nilSl,.nilSl]:=by simp [fJ,AV.cells,ov.2,h0]
  have n3:H2.next+5<=H3.next:=hk3.le
  have f3:H3.get (H2.next+3)=none:=hk3.free (show _<H2.next+5 by omega) (w2.fresh (b:=H2.next+3) zO);refine zW (aQ hl2 (QO ov) hbv @aW) ?_;have hbl:Wr H H3 v (Lin.startU d).lines (Lin.startU d).lines.length:=bl3.wr.base (show H.next<=H2.next+5 by omega);have hnb:gY v≠some (H2.next+3):=fun hx=>by
   have h2:H2.next+5<=H2.next+3:=bl3.ge hx
   omega
  exact ⟨zK,v,.nilSl,.nilSl,_,ap _ _ _,hbl.put hnb (NoTy.none f3),.inl ⟨rfl,rfl⟩,.inl ⟨rfl,rfl⟩,(fun x _ hy=>by cases hy),(fun x _ hy=>by cases hy),(fun x _ hy=>by cases hy)⟩
 obtain ⟨ub,hub⟩:∃ ub,ub=H2.next+3:=⟨_,rfl⟩
 rw [<- hub];have hubH:H.next<=ub:=zO
 rintro T3 H3 hs3 ⟨v10,k3,hu3⟩;have w3:=k3.wf;have le3:=k3.le;have v1:ad T3 1=va:=(hs3.at_ 1 zU).trans u1;have v2:ad T3 2=vb:=(hs3.at_ 2 zU).trans u2;have v7:ad T3 7=.nilSl:=(hs3.at_ 7 zU).trans u7;have hl3:T3.length=100:=hs3.len.trans hl2;refine aS ?_;refine zW (aE hl3 v10 @aC) ?_;refine de (fun T' H'=>Kp H H'/\UnderV H H' ub (Lin.gensU d E [])) rfl ?_ ?_
 ·refine zW (aE hl3 v1 ha.lenV) ?_;refine aq H [] (fun j _ H'=>UnderV H H' ub (Lin.gensU d (E.take j) [])) (a:=0) (N:=E.length) rfl (by refine zW hl3 ?_; rfl) (zV hl3) (Vj _) zO (by simp only [U4,hl3]; rfl) rfl (fun j vs H' m h=>h.mono (Sub.bump H' m)) zK (by exact hu3.mono (Sub.bump H3 _)) ?_ ?_
  ·rintro j T4 H4 _ hj hl4 hi4 hs4 hk4 hu4;have w4:=hk4.wf;have le_hk4:=hk4.le;have le4:=hk4.le;have t48:ad T4 48=va:=(hs4.at_ 48 zU).trans (zV (aD hl3 v1));have t11:ad T4 11=.fn (.func cQ) [.ptr ub 0] []:=(hs4.at_ 11 zU).trans (zV hl3);obtain ⟨w,hr,hld⟩:=dl ha hj;have hld4:=bE hk4.sub hld;have hix:=SlV.idx1 ha .i64 j hj;have mk:=mid (A:=E.take j) (B:=[]) (fun a h=>h1 a (Xh h)) (fun a h=>by cases h);have hEj:=h1 _ (U9 hj);have hso:=mk.some;have hfe:=mk.few;have h01:0^(d-1)<=1:=Vn (WX (Vj 1) _) (by rw [Nat.one_pow]; exact Vb _);simp only [Xq] at hfe;have hnx:(Lin.addU E[j] true (Lin.gensU d (E.take j) [])).rays.length<=1099000000000:=by
    rw [<- F0 d E hj]
    have:=(mid (A:=E.take (j+1)) (B:=[]) (fun a h=>h1 a (Xh h)) (fun a h=>by cases h)).few
    simp only [Xq] at this;omega
   simp only [U4,hl3] at hl4;refine zW (dL hl4 t48 t11 hi4 hix hld4) ?_;refine AnsH.use (Gl C (H0:=H) (u:=Lin.gensU d (E.take j) []) (e:=f) (f:=f) (hk4.up _) hubH (hu4.mono (Sub.bump H4 _)) hr hd0 zO hEj.1 mk.lines mk.rays (fun r hr=>by rw [mk.done] at hr; cases hr) (by rw [mk.done]; simp) (fun z hz=>(gZ hEj.2 z hz).mono zO) zO zO zO hnx) ?_;rintro v H5 ⟨rfl,hk5,hu5⟩;refine zW hl4 ?_;exact ⟨hk5,by rw [F0 d E hj]; exact hu5⟩
  ·rintro T4 H4 hl4 hs4 hk4 hu4;rw [VD] at hu4;refine zW (aD hl4 @aW) ?_;exact ⟨hk4,hu4⟩
 rintro T4 H4 hs4 ⟨k4,hu4⟩;have w4:=k4.wf;have le4:=k4.le;have x2:ad T4 2=vb:=(hs4.at_ 2 zU).trans (zV (aD hl3 v2));have x7:ad T4 7=.nilSl:=(hs4.at_ 7 zU).trans (zV (aD hl3 v7));have x10:ad T4 10=.ptr ub 0:=(hs4.at_ 10 zU).trans (zV (aD hl3 v10));have x11:ad T4 11=.fn (.func cQ) [.ptr ub 0] []:=(hs4.at_ 11 zU).trans (zV hl3);have hl4:T4.length=100:=hs4.len.trans (by simp only [U4]; exact hl3);refine de (fun T' H'=>Kp H H'/\UnderV H H' ub (Lin.gensU d E I)) rfl ?_ ?_
 ·refine zW (aE hl4 x2 hb.lenV) ?_;refine aq H [] (fun j _ H'=>UnderV H H' ub (Lin.gensU d E (I.take j))) (a:=0) (N:=I.length) rfl (by refine zW hl4 ?_; rfl) (zV hl4) (Vj _) zO (by simp only [U4,hl4]; rfl) rfl (fun j vs H' m h=>h.mono (Sub.bump H' m)) zK (by exact hu4.mono (Sub.bump H4 _)) ?_ ?_
  ·rintro j T5 H5 _ hj hl5 hi5 hs5 hk5 hu5;have w5:=hk5.wf;have le_hk5:=hk5.le;have le5:=hk5.le;have t58:ad T5 58=vb:=(hs5.at_ 58 zU).trans (zV (aD hl4 x2));have t11:ad T5 11=.fn (.func cQ) [.ptr ub 0] []:=(hs5.at_ 11 zU).trans (zV (aD hl4 x11));obtain ⟨w,hr,hld⟩:=dl hb hj;have hld5:=bE hk5.sub hld;have hix:=SlV.idx1 hb .i64 j hj;have hIt:∀ a∈I.take j,a.length=d/\Lin.Bd (2^m) a:=fun a h=>h2 a (Xh h);have mk:=mid (A:=E) (B:=I.take j) h1 hIt;have hIj:=h2 _ (U9 hj);have hso:=mk.some;have hfe:=mk.few;have hp:(I.take j).length^(d-1)<=I.length^(d-1):=WX (by rw [VC]; omega) _;have hnx:(Lin.addU I[j] false (Lin.gensU d E (I.take j))).rays.length<=1099000000000:=by
    rw [<- FZ d E I hj];have h3:=(mid (A:=E) (B:=I.take (j+1)) h1 (fun a h=>h2 a (Xh h))).few;have h4:(I.take (j+1)).length^(d-1)<=I.length^(d-1):=WX (by rw [VC]; omega) _;omega
   simp only [U4,hl4] at hl5;refine zW (dL hl5 t58 t11 hi5 hix hld5) ?_;refine AnsH.use (Gl C (H0:=H) (u:=Lin.gensU d E (I.take j)) (e:=f) (f:=f) (hk5.up _) hubH (hu5.mono (Sub.bump H5 _)) hr hd0 zO hIj.1 mk.lines mk.rays (fun r hr=>by rw [mk.done] at hr; exact ⟨(hIt r hr).1,fun z hz=>(gZ (hIt r hr).2 z hz).mono zO⟩) (by rw [mk.done,VC]; omega) (fun z hz=>(gZ hIj.2 z hz).mono zO) zO zO zO hnx) ?_;rintro v H6 ⟨rfl,hk6,hu6⟩;refine zW hl5 ?_;exact ⟨hk6,by rw [FZ d E I hj]; exact hu6⟩
  ·rintro T5 H5 hl5 hs5 hk5 hu5;rw [VD] at hu5;refine zW (aD hl5 @aW) ?_;exact ⟨hk5,hu5⟩
 rintro T5 H5 hs5 ⟨k5,hu5⟩;have w5:=k5.wf;have le5:=k5.le;have y7:ad T5 7=.nilSl:=(hs5.at_ 7 zU).trans x7;have y10:ad T5 10=.ptr ub 0:=(hs5.at_ 10 zU).trans x10;have hl5:T5.length=100:=hs5.len.trans hl4;have mk:=mid h1 h2;have hso:=mk.some;have hfe:=mk.few;obtain ⟨ql,qr,qd,cl,hub5,hql,hqr,hqd,-,-,-⟩:=hu5;have lub5:=w5 _ _ hub5;obtain ⟨tL,tR⟩:=uK hd0 hd h1 h2;have hT:=Lin.gens_told (fun a ha=>(h1 a ha).1) (fun a ha=>(h2 a ha).1);obtain ⟨L,hL⟩:∃ L,L=Lin.gensL d E I:=⟨_,rfl⟩
 have hLf:Lin.formF (Lin.gensU d E I).lines=L:=by rw [hL]; rfl
 have hLL:Lin.formF L=L:=by rw [<- hLf]; exact LK (fun r hr=>(mk.lines r hr).1)
 have hLlen:L.length<=d:=by rw [hL]; exact ech_len hT.form
 have hLm:∀ r∈L,r.length=d/\∀ z∈r,Bt f z:=fun r hr=>by
  rw [hL] at hr;exact ⟨(tL r hr).1,fun z hz=>by rw [hf]; exact gZ (tL r hr).2 z hz⟩
 refine de (fun T' H'=>∃ q6,ad T' 6=q6/\Kp H5 H'/\dK H' q6 L) rfl ?_ ?_
 ·refine zW (aE hl5 y10 hub5) ?_;refine AnsH.use (DJ C (d:=d) (e:=f) zF (hql.sl.mono (Sub.bump H5 _)) zO hd0 zO (fun r hr=>(mk.lines r hr).1) (fun r hr=>(mk.lines r hr).2) zO) ?_;rintro v H6 ⟨q6,rfl,hr6,hk6⟩;have k6:Kp H5 H6:=Kp.trans (Kp.up (Kp.refl w5) _) hk6;have le_k6:=k6.le;rw [hLf] at hr6;refine zW (aD hl5 @aW) ?_;exact ⟨q6,rfl,k6,hr6⟩
 rintro T6 H6 hs6 ⟨q6,z6,k56,hr6⟩;have w6:=k56.wf;have le6:=k56.le;have z7:ad T6 7=.nilSl:=(hs6.at_ 7 zU).trans y7;have z10:ad T6 10=.ptr ub 0:=(hs6.at_ 10 zU).trans y10;have hl6:T6.length=100:=hs6.len.trans hl5;have hub6:=k56.get hub5;have hqr6:dK H6 qr (Lin.gensU d E I).rays:=hqr.sl.mono k56.sub;obtain ⟨R,hR⟩:∃ R,R=(Lin.gensU d E I).rays:=⟨_,rfl⟩
 have hRm:∀ r∈R,r.length=d/\∀ z∈r,Bt f z:=fun r hr=>mk.rays r (by rw [<- hR]; exact hr);have hRl:R.length<=1099000000000:=by rw [hR]; omega
 rw [<- hR] at hqr6;refine de (fun T' H'=>∃ o,ad T' 7=o/\Kp H6 H'/\Bl rowsE af H6 H' o (R.map (Lin.restF L))) rfl ?_ ?_
 ·refine zW (aQ hl6 z10 hub6 hqr6.lenV) ?_;refine aq H6 [7] (fun j vs H'=>∃ o,vs=[o]/\Bl rowsE af H6 H' o ((R.take j).map (Lin.restF L))) (a:=0) (N:=R.length) rfl (by refine zW hl6 ?_; rfl) (zV hl6) (Vj _) zO (by simp only [U4,hl6]; rfl) rfl (fun j vs H' m ⟨o,q1,q2⟩=>⟨o,q1,q2.mono (Sub.bump H' m)⟩) (Kp.up (Kp.refl w6) _) ⟨.nilSl,by exact zV (aD hl6 z7),Bl.nil⟩ ?_ ?_
  ·rintro j T7 H7 _ hj hl7 hi7 hs7 hk7 ⟨o,hv,ho⟩;have w7:=hk7.wf;have le_hk7:=hk7.le;have le7:=hk7.le;simp only [Ve,Vk,Vg,and_true] at hv;have t79:ad T7 79=qr:=(hs7.at_ 79 zU).trans (zV hl6);have t6:ad T7 6=q6:=(hs7.at_ 6 zU).trans (zV (aD hl6 z6));obtain ⟨w,hr,hld⟩:=dl (hqr6.mono hk7.sub) hj;have hix:=SlV.idx1 hqr6 .i64 j hj;have hRj:=hRm _ (U9 hj);simp only [U4,hl6] at hl7;refine zW (dL hl7 t79 t6 hi7 hix hld) ?_;refine AnsH.use (Fp C (d:=d) (e:=f) zF (hr.mono (Sub.bump H7 _)) ((hr6.mono hk7.sub).mono (Sub.bump H7 _)) zO hd0 zO hRj.1 (fun r hr=>(hLm r hr).1) hRj.2 (fun r hr=>(hLm r hr).2) zO) ?_;rintro v H8 ⟨q,rfl,hrq,hk8⟩;have k78:Kp H7 H8:=Kp.trans (Kp.up (Kp.refl w7) _) hk8;have le_k78:=k78.le;have k68:Kp H6 H8:=hk7.trans k78;have le_k68:=k68.le;have w8:=k68.wf;rw [hLL] at hrq;have oq:=hrq.one;have hlen:((R.take j).map (Lin.restF L)).length<=R.length:=by simp; omega
   obtain ⟨n6,H9,e6,b6,k6,nx6,f6,u6⟩:=Bl.push1 (ty2:=af) (bytes:=24) (id:=H8.next+3) (id2:=H8.next+2) (k:=5) (cs:=[q]) (a:=Lin.restF L R[j]) (ho.mono k78.sub) zU k68 ⟨q,rfl,hrq⟩ zO zO zO zO zO zO zO;have e6':dI ((H8.up 5).put (H8.next+2) (.cells [q] af true)) (H8.next+3) 1 24 af o (.own (H8.next+2) 0 1 1 1 true)=some (.own (H8.next+3) 0 n6 n6 1 false,H9):=e6;refine zW (aE hl7 hv e6') ?_;refine ⟨k6,_,rfl,?_⟩;rw [Vi hj,VW];exact b6
  ·rintro T7 H7 hl7 hs7 hk7 ⟨o,hv,ho⟩;simp only [Ve,Vk,Vg,and_true] at hv;rw [VD] at ho;refine zW (aD hl7 @aW) ?_;exact ⟨o,hv,hk7,ho⟩
 rintro T7 H7 hs7 ⟨o,a7,k67,bl7⟩;have w7:=k67.wf;have a6:ad T7 6=q6:=(hs7.at_ 6 zU).trans z6;have hl7:T7.length=100:=hs7.len.trans hl6;have hGR:(R.map (Lin.restF L)).mergeSort Lin.cmpV=Lin.gensR d E I:=by rw [hR,hL]; rfl
 have hperm:(Lin.gensR d E I).Perm (R.map (Lin.restF L)):=by rw [<- hGR]; exact Z3 _ _
 have hMm:∀ r∈R.map (Lin.restF L),r.length=d/\∀ z∈r,dJ z:=fun r hr=>by
  have h:=tR r (hperm.mem_iff.2 hr);exact ⟨h.1,fun z hz=>(gZ h.2 z hz).sm zO⟩
 refine aS ?_;refine zW (aE hl7 @a7 @aC) ?_;refine AnsH.use (B7 C.q97 rfl (H0:=H6) (d:=d) (k67.up _) (bl7.mono (Sub.bump H7 _)) (fun r hr=>(hMm r hr).1) (hperm.nodup_iff.1 (Lin.told_nodup hT)) (by rw [Vc]; omega) fun D a b hD x hx y hy hxa hyb=>(EE C hD hxa hyb ((hMm x hx).1.trans (hMm y hy).1.symm) (by rw [(hMm x hx).1]; omega) (hMm x hx).2 (hMm y hy).2).mono fun _ _ h=>h.1) ?_;rintro v H8 ⟨rfl,hk8,bl8⟩;rw [hGR] at bl8;refine zW (aD hl7 @aC) ?_;refine aS ?_;refine zW (aQ hl7 @a6 @a7 @aC) ?_;refine WC.wb ?_;refine zW (aD hl7 hrs) ?_;have k08:Kp H H8:=(k5.trans k56).trans hk8;have le_k08:=k08.le;rw [<- hL];exact ⟨_,_,rfl,(hr6.mono hk8.sub).mono (Sub.bump H8 _),bl8.sl.mono (Sub.bump H8 _),k08.up _⟩
end
def iL {α:Type} {l m:List α} (he:l.length=m.length) (h:∀ q (h:q<l.length) (h':q<m.length),l[q]=m[q]):l=m :=
 W4 he fun q h1 h2=>h q h1 h2
def fW (many ag:Nat) (r:List (Bool × List Nat)):Bool:=decide (many<r.length) || r.any fun z=>decide (ag<z.2.length)
section
variable {tab:Nat->Option aA} {H:Heap} {s:AV}
def HK (C:Code tab) (hw:Wf H) {a b:AV} {l m:List Nat} (ha:Lb H a l) (hb:Lb H b m) (hl':l.length<4611686018427387904) :
  Ans tab (.fn fS [a,b]) H fun v H'=>v=.bool (decide (l=m))/\Kp H H':=by
 refine bB C.q150 zU fun T hl g0 g1=>?_;by_cases he:l.length=m.length
 ·have lb:lenV b=some (.int .i64 (l.length:Int)):=by rw [hb.lenV,he]
  refine zW (bA hl g0 g1 ha.lenV lb) ?_;refine cm H [5] (fun k vs H'=>∃ i:Nat,vs=[.int .i64 (i:Int)]/\i+k=l.length/\∀ q (h:q<l.length) (h':q<m.length),q<i->l[q]=m[q]) l.length (by simp only [U4]; exact hl) rfl zK ⟨0,by refine zW (aE hl g0 g1) ?_; rfl,zO,fun q _ _ h=>by omega⟩ ?_;rintro k T1 H1 hl1 hs1 hk1 ⟨i,hv,hik,hP⟩;have w1:=hk1.wf;have le_hk1:=hk1.le;simp only [Ve,Vk,Vg,and_true] at hv;have t0:ad T1 0=a:=(hs1.at_ 0 zU).trans (zV (aD hl g0));have t1:ad T1 1=b:=(hs1.at_ 1 zU).trans (zV (aQ hl g0 g1 g1));by_cases hi:i<l.length
  ·have hii:(i:Int)<(l.length:Int):=zO;have hi':i<m.length:=zO;obtain ⟨w,hr,hld⟩:=SlV.at1 (ha.mono hk1.sub) (U7 hi);obtain ⟨w',hr',hld'⟩:=SlV.at1 (hb.mono hk1.sub) (U7 hi');have hr:w=.int .u64 ((l[i]:Nat):Int):=hr;have hr':w'=.int .u64 ((m[i]:Nat):Int):=hr';subst hr; subst hr';have hix:=SlV.idx1 ha .i64 i hi;have hix':=SlV.idx1 hb .i64 i hi';have e:IntKind.i64.wrap ((i:Int)+1)=((i+1:Nat):Int):=by rw [wrap_i64] <;> omega
   refine zW (fy hl1 hv t0 t1 ha.lenV hii hi) ?_;refine aF ?_;by_cases hq:l[i]=m[i]
   ·have hq':((l[i]:Nat):Int)=((m[i]:Nat):Int):=zO;refine zD (qz hl1 hv t0 t1 hix hld hix' hld' hq' e) ?_;refine ⟨zK,k-1,zO,i+1,rfl,zO,fun q h h' hqi=>?_⟩;by_cases eq:q=i
    ·subst eq; exact hq
    ·exact hP q h h' zO
   ·have hq':¬ ((l[i]:Nat):Int)=((m[i]:Nat):Int):=zO;refine zD (iO hl1 hv t0 t1 hix hld hix' hld' hq' hq e) ?_;refine ⟨?_,zK⟩;rw [decide_eq_false];intro e; subst e; exact hq rfl
  ·have hii:¬ (i:Int)<(l.length:Int):=zO;refine zW (fy hl1 hv t0 t1 ha.lenV hii hi) ?_;refine ⟨?_,zK⟩;rw [decide_eq_true (iL he fun q h h'=>hP q h h' zO)]
 ·have he':¬ (l.length:Int)=(m.length:Int):=zO;refine zW (fy hl g0 g1 ha.lenV hb.lenV he' he) ?_;refine ⟨?_,zK⟩;rw [decide_eq_false];intro e; subst e; exact he rfl
def CB {x y:Nat} (h:ag x=ag y):x=y:=by
 have:=congrArg val h
 rwa [bH,bH] at this
def HJ (C:Code tab) (hw:Wf H) {a b:AV} {x y:Int} (ha:IntV H a x) (hb:IntV H b y) (hx:dJ x) :
  Ans tab (.fn fR [a,b]) H fun v H'=>v=.bool (decide (x=y))/\Kp H H':=by
 obtain ⟨p,rfl,hp⟩:=ha;obtain ⟨q,rfl,hq⟩:=hb;have op:=hp.one;have oq:=hq.one;unfold dJ Sm at hx;refine bB C.q130 zU fun T hl g0 g1=>?_;by_cases h:decide (x<0)=decide (y<0)
 ·have h':(decide (x<0) == decide (y<0))=true:=by rw [h]; simp
  refine zW (aQ hl g0 g1 h') ?_;refine AnsH.eq (HK C zF (hp.mono (zG H)) (hq.mono (zG H)) zO) fun H2 hk2=>?_;obtain ⟨k2,_,_⟩:=zT H zK hk2;refine zW (aE hl g0 g1) ?_;refine ⟨?_,zK⟩;by_cases e:x=y
  ·rw [decide_eq_true e,decide_eq_true (by rw [e])]
  ·rw [decide_eq_false e,decide_eq_false];intro h2
   have:=CB h2
   have h3:(x<0) ↔ (y<0):=by simpa using h
   omega
 ·have h':(decide (x<0) == decide (y<0))=false:=by simpa using h
  refine zW (aQ hl g0 g1 h') ?_;refine ⟨?_,zK⟩;rw [decide_eq_false];intro e; subst e; exact h rfl
def Ao (C:Code tab) (hw:Wf H) {a b:AV} {l m:List Int} (ha:RowV H a l) (hb:RowV H b m) (hl':l.length<1099511627776) (hz:∀ z∈l,dJ z) :
  Ans tab (.fn fQ [a,b]) H fun v H'=>v=.bool (decide (l=m))/\Kp H H':=by
 refine bB C.q112 zU fun T hl g0 g1=>?_;by_cases he:l.length=m.length
 ·have lb:lenV b=some (.int .i64 (l.length:Int)):=by rw [hb.lenV,he]
  refine zW (bA hl g0 g1 ha.lenV lb) ?_;refine cm H [5] (fun k vs H'=>∃ i:Nat,vs=[.int .i64 (i:Int)]/\i+k=l.length/\∀ q (h:q<l.length) (h':q<m.length),q<i->l[q]=m[q]) l.length (by simp only [U4]; exact hl) rfl zK ⟨0,by refine zW (aE hl g0 g1) ?_; rfl,zO,fun q _ _ h=>by omega⟩ ?_;rintro k T1 H1 hl1 hs1 hk1 ⟨i,hv,hik,hP⟩;have w1:=hk1.wf;have le_hk1:=hk1.le;simp only [Ve,Vk,Vg,and_true] at hv;have t0:ad T1 0=a:=(hs1.at_ 0 zU).trans (zV (aD hl g0));have t1:ad T1 1=b:=(hs1.at_ 1 zU).trans (zV (aQ hl g0 g1 g1));by_cases hi:i<l.length
  ·have hii:(i:Int)<(l.length:Int):=zO;have hi':i<m.length:=zO;obtain ⟨w,hn,L,hix⟩:=nl w1 (ha.mono hk1.sub) hi;obtain ⟨w',hn',L',hix'⟩:=nl w1 (hb.mono hk1.sub) hi';have hld:=L.ld;have hld':=L'.ld;have e:IntKind.i64.wrap ((i:Int)+1)=((i+1:Nat):Int):=by rw [wrap_i64] <;> omega
   refine zW (fy hl1 hv t0 t1 ha.lenV hii hi) ?_;refine aF ?_;refine zD (iy hl1 hv t0 t1 hix hld hix' hld') ?_;refine AnsH.eq (HJ C zF ⟨w,rfl,hn.mono (zG H1)⟩ ⟨w',rfl,hn'.mono (zG H1)⟩ (hz _ (U9 hi))) fun H2 hk2=>?_;obtain ⟨k12,_,_⟩:=zT H1 zK hk2;have k2:Kp H H2:=Kp.trans hk1 k12;have le_k2:=k2.le;cases hq:decide (l[i]=m[i]) with
   | true =>
    have hq:=of_decide_eq_true hq;refine zD (jW hl1 hv t0 t1 hix hld hix' hld' e) ?_;refine ⟨zK,k-1,zO,i+1,rfl,zO,fun q h h' hqi=>?_⟩;by_cases eq:q=i
    ·subst eq; exact hq
    ·exact hP q h h' zO
   | false =>
    have hq:=of_decide_eq_false hq;refine zD (jW hl1 hv t0 t1 hix hld hix' hld' e) ?_;refine ⟨?_,zK⟩;rw [decide_eq_false];intro e; subst e; exact hq rfl
  ·have hii:¬ (i:Int)<(l.length:Int):=zO;refine zW (fy hl1 hv t0 t1 ha.lenV hii hi) ?_;refine ⟨?_,zK⟩;rw [decide_eq_true (iL he fun q h h'=>hP q h h' zO)]
 ·have he':¬ (l.length:Int)=(m.length:Int):=zO;refine zW (fy hl g0 g1 ha.lenV hb.lenV he' he) ?_;refine ⟨?_,zK⟩;rw [decide_eq_false];intro e; subst e; exact he rfl
def qO (C:Code tab) (hw:Wf H) {a:AV} {r:List (Bool × List Nat)} {many lim:Nat} (ha:SlV rawE aa H a r) (hm:many<4611686018427387904) :
  Ans tab (.fn fh [a,.int .i64 (many:Int),.int .i64 (lim:Int)]) H fun v H'=>v=.bool (fW many lim r)/\Kp H H':=by
 refine kS C.q15 zU fun T hl g0 g1 g2=>?_;by_cases he:many<r.length
 ·have he':(many:Int)<(r.length:Int):=zO;refine zW (dL hl g0 g1 ha.lenV he' he) ?_;exact ⟨by unfold fW; rw [decide_eq_true he]; rfl,zK⟩
 ·have he':¬ (many:Int)<(r.length:Int):=zO;refine zW (fy hl g0 g1 g2 ha.lenV he' he) ?_;refine cm H [7] (fun k vs H'=>∃ i:Nat,vs=[.int .i64 (i:Int)]/\i+k=r.length/\∀ q (h:q<r.length),q<i->¬ lim<(r[q]).2.length) r.length (by simp only [U4]; exact hl) rfl zK ⟨0,by refine zW (aQ hl g0 g1 g2) ?_; rfl,zO,fun q _ h=>by omega⟩ ?_;rintro k T1 H1 hl1 hs1 hk1 ⟨i,hv,hik,hP⟩;have w1:=hk1.wf;have le_hk1:=hk1.le;simp only [Ve,Vk,Vg,and_true] at hv;have t0:ad T1 0=a:=(hs1.at_ 0 zU).trans (zV (aD hl g0));have t2:ad T1 2=.int .i64 (lim:Int):=(hs1.at_ 2 zU).trans (zV (bA hl g0 g1 g2 g2));by_cases hi:i<r.length
  ·have hii:(i:Int)<(r.length:Int):=zO;obtain ⟨cs,⟨w,rfl,hn⟩,-,h2,-⟩:=(ha.mono hk1.sub).at (U7 hi);have hld:aX H1 none (au a (i*2+1))=some w:=h2 1 w rfl;have hix:cI 2 a (.int .i64 (i:Int))=some (au a (i*2)):=SlV.idx ha .i64 i hi;have hfa:A5 1 (au a (i*2))=some (au a (i*2+1)):=ha.fa zO 1 (i*2);have e:IntKind.i64.wrap ((i:Int)+1)=((i+1:Nat):Int):=by rw [wrap_i64] <;> omega
   by_cases hq:lim<(r[i]).2.length
   ·have hq':(lim:Int)<((r[i]).2.length:Int):=zO;refine zW (Kn hl1 hv t0 t2 ha.lenV hii hi hix hfa hld hn.lenV hq' hq) ?_;refine ⟨?_,zK⟩;unfold fW;rw [VO.2 ⟨_,U9 hi,by rw [decide_eq_true hq]⟩,ZG]
   ·have hq':¬ (lim:Int)<((r[i]).2.length:Int):=zO;refine zW (Pt hl1 hv t0 t2 ha.lenV hii hi hix hfa hld hn.lenV hq' hq e) ?_;refine ⟨zK,k-1,zO,i+1,rfl,zO,fun q h hqi=>?_⟩;by_cases eq:q=i
    ·subst eq; exact hq
    ·exact hP q h zO
  ·have hii:¬ (i:Int)<(r.length:Int):=zO;refine zW (fy hl1 hv t0 t2 ha.lenV hii hi) ?_;refine ⟨?_,zK⟩;have e:(r.any fun z=>decide (lim<z.2.length))=false:=by
    rw [Wt];intro z hz;obtain ⟨q,hq,rfl⟩:=Wg hz
    simpa using hP q hq zO
   unfold fW;rw [decide_eq_false he,YQ,e]
def Dr (C:Code tab) (hw:Wf H) {l:List Int} {ty:Nat} (hs:BR (LB .i64) ty H s l) (h64:l.length<=64) (hz:∀ z∈l,-9223372036854775808<=z/\z<9223372036854775808) :
  Ans tab (.fn AD [s]) H fun v H'=>RowV H' v l/\Kp H H':=by
 refine cR C.q10 zU fun T hl g0=>?_;obtain ⟨cells,hcells⟩:∃ cells,cells=(List.replicate l.length [AV.bool false,AV.nilSl]).flatten:=⟨_,rfl⟩
 have hmk:∀ H':Heap,Jy H' (H.next+3) aa 2 32 [.bool false,.nilSl] (.int .i64 (l.length:Int)) (.int .i64 (l.length:Int))=some (.own (H.next+3) 0 l.length l.length 2 true,H'.put (H.next+3) (.cells cells aa true)):=fun H'=>by rw [hcells]; exact jc _ _ _ _ _ _ _ _ _ zO zO rfl
 refine zW (aQ hl g0 hs.lenV hmk) ?_;have hz0:intE.R H [.bool false,.nilSl] 0:=⟨.nilSl,by simp,eN H⟩
 have hcl0:Cells intE H cells (List.replicate l.length 0):=by rw [hcells]; exact oK hz0 _
 refine aq H [3] (fun j vs H'=>vs=[.own (H.next+3) 0 l.length l.length 2 true]/\∃ cs,H'.get (H.next+3)=some (.cells cs aa true)/\Cells intE H' cs (l.take j++List.replicate (l.length-j) 0)) (a:=0) (N:=l.length) rfl (by refine zW (aD hl g0) ?_; rfl) (zV (aD hl g0)) (Vj _) zO (by simp only [U4,hl]; rfl) rfl (fun j vs H' m ⟨h0,cs,h1,h2⟩=>⟨h0,cs,h1,Cells.mono (E:=intE) ((Sub.bump H' m).t _) h2⟩) zK ⟨by exact zV (aD hl g0),cells,by exact cH,by
  have e:List.take 0 l++List.replicate (l.length-0) 0=List.replicate l.length 0:=by simp
  rw [e];exact Cells.mono (E:=intE) zS hcl0⟩ ?_ ?_
 ·rintro j T1 H1 _ hj hl1 hi1 hs1 hk1 ⟨hv,cs,hb1,hc1⟩;have w1:=hk1.wf;have le_hk1:=hk1.le;have le1:=hk1.le;simp only [Ve,Vk,Vg,and_true] at hv;have t9:ad T1 9=s:=(hs1.at_ 9 zU).trans (zV (aD hl g0));obtain ⟨w,hr,hld⟩:=SlV.at1 (hs.mono hk1.sub) (U7 hj);have hr:w=.int .i64 l[j]:=hr;subst hr;have hix:=SlV.idx1 hs .i64 j hj;have hzj:=hz _ (U9 hj);simp only [U4,hl] at hl1;refine zW (dL hl1 t9 hi1 hix hld hv) ?_;refine AnsH.use (iP C zF hzj.1 hzj.2) ?_;rintro v H2 ⟨⟨w,rfl,hn⟩,hk2⟩;obtain ⟨k2,_,w2⟩:=zT H1 zK hk2;have ow:=hn.one;have hb2:=k2.get hb1;have lt2:=w2 _ _ hb2;have hclen:cs.length=l.length*2:=by
   have:=hc1.1
   rw [Vr,VC,XG] at this;have e:intE.sz=2:=rfl;rw [e] at this;rw [this]; congr 1; omega
  have hst:BY (some (.cells cs aa true)) 2 (0+j*2) (.agg [.bool (decide (l[j]<0)),w])=some (.cells (cs.take (0+j*2)++[.bool (decide (l[j]<0)),w]++cs.drop (0+j*2+2)) aa true):=gh (A4 (am _) ow) zO;have hio:cI 2 (.own (H.next+3) 0 l.length l.length 2 true) (.int .i64 (j:Int))=some (.ptr (H.next+3) (0+j*2)):=ke hj;rw [VQ] at hst hio;have hcl2:Cells intE H2 (cs.take (j*2)++[.bool (decide (l[j]<0)),w]++cs.drop (j*2+2)) ((l.take j++List.replicate (l.length-j) 0).set j l[j]):=(Cells.mono (E:=intE) (k2.sub.t _) hc1).set (i:=j) (by simp; omega) ⟨w,rfl,hn⟩;have elist:(l.take j++List.replicate (l.length-j) 0).set j l[j]=l.take (j+1)++List.replicate (l.length-(j+1)) 0:=by
   have e1:l.length-j=(l.length-(j+1))+1:=zO;have e2:j-(List.take j l).length=0:=by simp; omega
   rw [e1,WA,List.set_append,if_neg (by simp; omega),e2,List.set_cons_zero,Vi hj,WZ];rfl
  rw [elist] at hcl2;have m3:NoTy [ae] H2 (H.next+3):=NoTy.ty hb2 zU;refine zW (bA hl1 hv hio hb2 hst) ?_;have kH2:Kp H H2:=hk1.trans k2;exact ⟨zK,_,rfl,Cells.mono (E:=intE) zS hcl2⟩
 ·rintro T1 H1 hl1 hs1 hk1 ⟨hv,cs,hb1,hc1⟩;have w1:=hk1.wf;have le_hk1:=hk1.le;simp only [Ve,Vk,Vg,and_true] at hv;simp only [U4,hl] at hl1;refine zW (aD hl1 hv) ?_;refine ⟨?_,zK⟩;have e:List.take l.length l++List.replicate (l.length-l.length) 0=l:=by simp
  rw [e] at hc1
  have:Own intE aa H H1 (H.next+3) true (.own (H.next+3) 0 l.length l.length 2 true) l:=⟨cs,rfl,hb1,hc1,zO⟩
  exact this.sl.mono (Sub.bump H1 _)
end
end Go.Proofs.YteaefaohjlmjdaaGreat.Ev
