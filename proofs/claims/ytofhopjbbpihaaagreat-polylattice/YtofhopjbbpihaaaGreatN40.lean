/- A part. -/
import Derived.Test.YtofhopjbbpihaaaGreatA0
import Derived.Test.YtofhopjbbpihaaaGreatSize2
import Derived.ChangeArms
import Derived.DataReads
namespace Go.Proofs.YtofhopjbbpihaaaGreat.Ev
open Go Nn
set_option linter.all false
section
variable {tab:Nat->Option aw} (ev:Src->AV) (H:Heap) (id:Nat) (Q:AV->Heap->Prop)
theorem LJ:mA tab ev H id .mkmap Q=Q (.map id) (H.put id (.map [])):=by
 rw [bY,gR tab ev H id Q (o:=.mkmap) (fun f a e=>by cases e) rfl]; rfl
theorem oG (kd:BK) (z:AV) (x i:Src) (ok:Bool):mA tab ev H id (.lookup kd z x i ok) Q=gw (sR H kd z (ev x) (ev i) ok) (fun v=>Q v H) ():=by
 rw [bY,gR tab ev H id Q (o:=.lookup kd z x i ok) (fun f a e=>by cases e) rfl]
 show ik ((sR H kd z (ev x) (ev i) ok).map fun v=>(v,H)) _=_
 cases sR H kd z (ev x) (ev i) ok <;> rfl
theorem Jt (kd:BK) (m k v:Src):mA tab ev H id (.mapUpd kd m k v) Q=gw (nB H kd (ev m) (ev k) (ev v)) (fun H'=>Q .undef H') ():=by
 rw [bY,gR tab ev H id Q (o:=.mapUpd kd m k v) (fun f a e=>by cases e) rfl]
 show ik ((nB H kd (ev m) (ev k) (ev v)).map fun H'=>(AV.undef,H')) _=_
 cases nB H kd (ev m) (ev k) (ev v) <;> rfl
theorem Gc {kd:BK} {z:AV} {x i:Src} {ok:Bool}:uu (.lookup kd z x i ok)=true:=rfl
end
def pY (es:List (AV × AV)):Prop:=∀ p∈es,∃ z,p.1=.int .i64 z
def gI (es:List (AV × AV)) (z:Int):AV:=match oY (.int .i64 z) es with
 | some (some v)=>v
 | _=>.nilSl
theorem HB:∀ {es:List (AV × AV)},pY es->∀ z,∃ o,oY (.int .i64 z) es=some o
 | [],_,z=>⟨none,rfl⟩
 | (k,v) :: es,h,z=>by
  obtain ⟨y,hy⟩:=h _ (TW ..)
  simp only at hy
  subst hy
  have ih:=HB (es:=es) (fun p hp=>h p (TQ _ hp)) z
  simp only [oY,iF,if_true]
  cases z == y with
  | true=>exact ⟨_,rfl⟩
  | false=>exact ih
theorem Do {H:Heap} {mb:Nat} {es:List (AV × AV)} (hm:H.get mb=some (.map es)) (hk:pY es) (z:Int):sR H .int .nilSl (.map mb) (.int .i64 z) false=some (gI es z):=by
 obtain ⟨o,ho⟩:=HB hk z
 simp only [sR,g9,YT,if_false,xL,hm,ho,gI]
 cases o <;> rfl
theorem RY {H:Heap} {mb:Nat} {es:List (AV × AV)} (hm:H.get mb=some (.map es)) (hk:pY es) (z:Int) (v:AV):nB H .int (.map mb) (.int .i64 z) v=some (H.put mb (.map (sG (.int .i64 z) v es))):=by
 obtain ⟨o,ho⟩:=HB hk z
 simp only [nB,g9,YT,if_false,hm,ho]
theorem Eh:∀ {es:List (AV × AV)},pY es->∀ z v,pY (sG (.int .i64 z) v es)
 | [],_,z,v=>fun p hp=>by simp [sG] at hp; exact ⟨z,by rw [hp]⟩
 | (k,w) :: es,h,z,v=>by
  obtain ⟨y,hy⟩:=h _ (TW ..)
  simp only at hy
  subst hy
  have ih:=Eh (es:=es) (fun p hp=>h p (TQ _ hp)) z v
  simp only [sG,iF,if_true]
  cases z == y with
  | true =>
   intro p hp
   rcases Ul.1 hp with rfl | hp
   ·exact ⟨z,rfl⟩
   ·exact h p (TQ _ hp)
  | false =>
   intro p hp
   rcases Ul.1 hp with rfl | hp
   ·exact ⟨y,rfl⟩
   ·exact ih p hp
theorem r9:∀ {es:List (AV × AV)},pY es->∀ z v z',gI (sG (.int .i64 z) v es) z'=if z'=z then v else gI es z'
 | [],_,z,v,z'=>by
  simp only [sG,gI,oY,iF,if_true]
  by_cases h:z'=z
  ·simp [h]
  ·have e:(z' == z)=false:=by simpa using h
   simp [h,e]
 | (k,w) :: es,h,z,v,z'=>by
  obtain ⟨y,hy⟩:=h _ (TW ..)
  simp only at hy
  subst hy
  have ih:=r9 (es:=es) (fun p hp=>h p (TQ _ hp)) z v z'
  simp only [gI] at ih
  simp only [sG,iF,if_true,gI]
  by_cases hzy:z=y
  ·subst hzy
   simp only [beq_self_eq_true,oY,iF,if_true]
   by_cases h:z'=z
   ·simp [h]
   ·have e:(z' == z)=false:=by simpa using h
    simp [h,e]
  ·have e1:(z == y)=false:=by simpa using hzy
   simp only [e1,oY,iF,if_true]
   by_cases h:z'=y
   ·subst h
    simp [Ne.symm hzy]
   ·have e2:(z' == y)=false:=by simpa using h
    simp only [e2]
    exact ih
theorem Lh {H H':Heap} {id sz bytes ty c m:Nat} {v v':AV} {news:List AV} {fr:Option Nat} (h:cH H id sz bytes ty v m news fr=some (v',H')) (hc:c≠id) (hn:H.get c=none):H'.get c=none:=by
 unfold cH at h
 split at h
 ·split at h
  ·cases h; exact hn
  ·split at h
   ·cases h; rw [aA hc]; exact hn
   ·cases h
 ·split at h
  ·rename_i b off n c' sz' ex x cs ty' rw' hb
   have hcb:c≠b:=fun e=>by rw [<- e,hn] at hb; cases hb
   split at h
   ·split at h
    ·split at h
     ·cases h; exact hn
     ·split at h
      ·cases h; rw [aA hcb]; exact hn
      ·cases h
    ·split at h
     ·cases h; rw [aA hc]; exact hn
     ·split at h
      ·cases h; rw [aA hc,cZ hcb]; exact hn
      ·cases h
   ·cases h
  ·cases h
 ·cases h
theorem CC {H H':Heap} {id sz bytes ty c:Nat} {v w v':AV} (h:cM H id sz bytes ty v w=some (v',H')) (hc:c≠id) (hn:H.get c=none):H'.get c=none:=by
 unfold cM at h
 split at h
 ·cases h
 ·split at h
  ·cases h
  ·exact Lh h hc hn
def Frm (v:AV) (H H':Heap):Prop:=∀ b e,H.get b=some e->km v≠some b->H'.get b=some e
theorem Frm.subT {α:Type} {E:fg α} {ty:Nat} {tys:List Nat} {H0 H H':Heap} {v:AV} {l:List α} (hf:Frm v H H') (h:Bl E ty H0 H v l) (hn:ty ∉ tys):SubT tys H H':=fun c cs t r ht hc=>hf c _ hc fun e=>by
 rcases h with ⟨rfl,-⟩ | ⟨b,cells,rfl,hb,-⟩
 ·cases e
 ·cases e
  rw [hb] at hc; cases hc
  exact hn ht
theorem Frm.other {α:Type} {E:fg α} {ty:Nat} {H0 H H':Heap} {v:AV} {l:List α} (hf:Frm v H H') (h:Bl E ty H0 H v l) {b:Nat} {e:Ent} (hb:H.get b=some e) (he:∀ cs,e ≠ .cells cs ty true):H'.get b=some e:=hf b e hb fun e1=>by
 rcases h with ⟨rfl,-⟩ | ⟨b',cells,rfl,hb',-⟩
 ·cases e1
 ·cases e1
  rw [hb] at hb'; cases hb'
  exact he _ rfl
theorem Frm.bl {α β:Type} {E:fg α} {E':fg β} {ty:Nat} {H0 H H':Heap} {v w:AV} {l:List α} {m:List β} (hf:Frm v H H') (h:Bl E ty H0 H v l) (hw:Bl E' ty H0 H w m) (hs:Sep v w) (ht:ty ∉ E'.tys):Bl E' ty H0 H' w m:=by
 rcases hw with hw | ⟨b,cells,rfl,hb,hc,h0⟩
 ·exact .inl hw
 ·exact .inr ⟨b,cells,rfl,hf b _ hb fun e=>hs b e rfl,hc.mono (hf.subT h ht),h0⟩
theorem Bl.push2 {α:Type} {E:fg α} {ty ty2 bytes id id2:Nat} {H0 H:Heap} {v:AV} {l:List α} {cs:List AV} {a:α} (h:Bl E ty H0 H v l) (hty:ty ∉ E.tys) (hk:Kp H0 H) (hr:E.R H cs a) (hid:H0.next<=id) (hid':id<H.next) (hf:H.get id=none) (hid2:H0.next<=id2) (hid2':id2<H.next) (hf2:H.get id2=none) (hne:id≠id2)
  (hb:(l.length+1)*bytes<=70368744177664) (hl:l.length+1<4611686018427387904) :
  ∃ n H',cM (H.put id2 (.cells cs ty2 true)) id E.sz bytes ty v (.own id2 0 1 1 E.sz true)=some (.own id 0 n n E.sz false,H')/\Bl E ty H0 H' (.own id 0 n n E.sz false) (l++[a])/\Kp H0 H'/\H'.next=H.next/\Frm v H H'/\(∀ c,c≠id->c≠id2->H.get c=none->H'.get c=none):=by
 have hsub:Sub H (H.put id2 (.cells cs ty2 true)):=aH hf2
 have hk':Kp H0 (H.put id2 (.cells cs ty2 true)):=hk.put hid2 hid2'
 have hy:SlV E ty2 (H.put id2 (.cells cs ty2 true)) (.own id2 0 1 1 E.sz true) [a] :=
  (show Own E ty2 H0 _ id2 true (.own id2 0 1 1 E.sz true) [a] from ⟨cs,rfl,aq _ _ _,Za (E.mono (hsub.t _) hr),hid2⟩).sl
 have hvne:∀ b n,v=.own b 0 n n E.sz false->b≠id2:=fun b n hv e=>by
  rcases h with ⟨h,-⟩ | ⟨b',cells,h,hb',-⟩
  ·rw [h] at hv; cases hv
  ·rw [h] at hv; cases hv
   rw [e,hf2] at hb'; cases hb'
 obtain ⟨v',H',e1,e2,e3,e4,e5,e6⟩:=(h.mono hsub).app (id:=id) (bytes:=bytes) hty hk' hy hid hid' (by rw [aA hne]; exact hf) (fun b n hv off m c z x hw=>by cases hw; exact hvne _ _ hv rfl) hb hl
 obtain ⟨n,rfl⟩:=e6 (by simp)
 refine ⟨n,H',e1,e2,e3,e4,fun b e hbe he=>e5 b e (hsub.get _ _ hbe) fun n hv=>he (by rw [hv]; rfl),fun c h1 h2 h3=>CC e1 h1 (by rw [aA h2]; exact h3)⟩
theorem Bl.push1 {α:Type} {E:fg α} {ty ty2 bytes id id2 k:Nat} {H0 H:Heap} {v:AV} {l:List α} {cs:List AV} {a:α} (h:Bl E ty H0 H v l) (hty:ty ∉ E.tys) (hk:Kp H0 H) (hr:E.R H cs a) (hid:H.next<=id) (hidk:id<H.next+k) (hid2:H.next<=id2) (hid2k:id2<H.next+k) (hne:id≠id2)
  (hb:(l.length+1)*bytes<=70368744177664) (hl:l.length+1<4611686018427387904) :
  ∃ n H',cM ((H.up k).put id2 (.cells cs ty2 true)) id E.sz bytes ty v (.own id2 0 1 1 E.sz true)=some (.own id 0 n n E.sz false,H')/\Bl E ty H0 H' (.own id 0 n n E.sz false) (l++[a])/\Kp H0 H'/\H'.next=H.next+k/\Frm v H H'/\(∀ c,c≠id->c≠id2->H.get c=none->H'.get c=none):=by
 have hle:=hk.le
 exact Bl.push2 (H:=H.up k) (h.mono (ZB H k)) hty (hk.up k) (E.mono ((ZB H k).t _) hr) zO hidk (hk.wf.fresh (b:=id) hid) zO hid2k (hk.wf.fresh (b:=id2) hid2) hne hb hl
def Y6:=@Bl.push1
def zu (a:List Int) (R:List (List Int)) (k:Nat) (s:Int):List Int:=((List.range k).filter fun i=>iK (Lin.dot a (R.getD i [])) == s).map fun i:Nat=>(i:Int)
theorem Gy (a:List Int) (R:List (List Int)) (k:Nat) (s:Int):zu a R (k+1) s=zu a R k s++if iK (Lin.dot a (R.getD k []))=s then [(k:Int)] else []:=by
 unfold zu
 rw [Yq,U9,UK]
 congr 1
 by_cases h:iK (Lin.dot a (R.getD k []))=s
 ·have e:List.filter (fun i=>iK (Lin.dot a (R.getD i [])) == s) [k]=[k]:=W8 (p:=fun i=>iK (Lin.dot a (R.getD i [])) == s) (beq_iff_eq.2 h)
  rw [if_pos h,e]; rfl
 ·have e:List.filter (fun i=>iK (Lin.dot a (R.getD i [])) == s) [k]=[]:=W9 (p:=fun i=>iK (Lin.dot a (R.getD i [])) == s) (fun h'=>h (beq_iff_eq.1 h'))
  rw [if_neg h,e]; rfl
theorem JP (a:List Int) (R:List (List Int)) (k:Nat) (s:Int):(zu a R k s).length<=k:=by
 unfold zu
 rw [TT]
 exact Ub (U7 _ _) (by simp)
structure SidesV (H0 H:Heap) (mb:Nat) (a:List Int) (R:List (List Int)) (k:Nat) (es:List (AV × AV)):Prop where
 get:H.get mb=some (.map es)
 keys:pY es
 bl:∀ s,Bi H0 H (gI es s) (zu a R k s)
 sep:∀ s s',s≠s'->Sep (gI es s) (gI es s')
theorem SidesV.mono {H0 H H':Heap} {mb:Nat} {a:List Int} {R:List (List Int)} {k:Nat} {es:List (AV × AV)} (hs:Sub H H') (h:SidesV H0 H mb a R k es):SidesV H0 H' mb a R k es :=
 ⟨hs.get _ _ h.get,h.keys,fun s=>(h.bl s).mono hs,h.sep⟩
abbrev Rf:fg (List Nat):=bU (sO (bU cm) ae)
structure CutV (H H':Heap) (mb:Nat) (a:List Int) (R D:List (List Int)) (k:Nat) (vm vd:AV) (es:List (AV × AV)) (Ws:List (List Nat)):Prop where
 bm:Bl Rf eE H H' vm Ws
 wl:Ws.length=k
 wok:∀ t (h:t<R.length) (h':t<Ws.length),pX (zeros R[t] D) Ws[t]
 bd:Bl intE ad H H' vd ((R.take k).map (Lin.dot a))
 sd:SidesV H H' mb a R k es
theorem CutV.mono {H H' H'':Heap} {mb:Nat} {a:List Int} {R D:List (List Int)} {k:Nat} {vm vd:AV} {es:List (AV × AV)} {Ws:List (List Nat)} (hs:Sub H' H'') (h:CutV H H' mb a R D k vm vd es Ws):CutV H H'' mb a R D k vm vd es Ws :=
 ⟨h.bm.mono hs,h.wl,h.wok,h.bd.mono hs,h.sd.mono hs⟩
theorem NoTy.map {tys:List Nat} {H:Heap} {b:Nat} {es:List (AV × AV)} (h:H.get b=some (.map es)):NoTy tys H b:=fun cs t r _ e=>by rw [h] at e; cases e
theorem Bl.blk {α:Type} {E:fg α} {ty:Nat} {H0 H:Heap} {v:AV} {l:List α} (h:Bl E ty H0 H v l) {b:Nat} (hb:km v=some b):∃ cells,H.get b=some (.cells cells ty true):=by
 rcases h with ⟨rfl,-⟩ | ⟨b',cells,rfl,h1,-⟩
 ·cases hb
 ·cases hb; exact ⟨_,h1⟩
section
variable {tab:Nat->Option aw} {H:Heap} {s:AV}
theorem KW (C:Code tab) {ub mb k:Nat} {ql qr qd va vm vd:AV} {a:List Int} {R D:List (List Int)} {d e f:Nat} {es:List (AV × AV)} {Ws:List (List Nat)} {T1:Tm} {H1:Heap} (hub:H.get ub=some (.cells [ql,qr,qd] aQ true)) (hqr:dQ H qr R) (hqd:dQ H qd D) (ha:RowV H va a) (hd0:0<d) (hd:d<=64) (hal:a.length=d) (hR:∀ r∈R,r.length=d/\∀ z∈r,Bt f z) (hD:∀ r∈D,r.length=d/\∀ z∈r,Bt e z) (hD1:D.length<=1024) (hae:∀ z∈a,Bt e z) (hb:e+f+7<=8796093022208) (hbig:R.length<1099511627776) (hk1:Kp H H1) (hkk:k<R.length) (hl1:T1.length=135)
  (t0:aa T1 0=.ptr ub 0) (t1:aa T1 1=va) (t6:aa T1 6=.map mb) (t23:aa T1 23=qr) (hi1:aa T1 25=.int .i64 (k:Int)) (v7:aa T1 7=vm) (v8:aa T1 8=vd) (hmb:H.next<=mb) (hc:CutV H H1 mb a R D k vm vd es Ws) {Q:Ex->Tm->Heap->Prop}
  (hq:∀ T2 H2 vm' vd' es' Ws',T2.length=135->aa T2 7=vm'->aa T2 8=vd'->Kp H H2->CutV H H2 mb a R D (k+1) vm' vd' es' Ws'->Q .nrm T2 H2) :
  WC tab false (.seq (.region [⟨some 27,.mv (.t 25),none⟩,⟨some 28,.indexAddr 1 (.t 23) (.t 25),none⟩,⟨some 29,.load none (.t 28),none⟩,⟨some 9,.mv (.t 27),none⟩,⟨some 10,.mv (.t 29),none⟩]) <|
   .seq (.region [⟨some 30,.mv (.t 1),none⟩,⟨some 31,.mv (.t 10),none⟩,⟨some 32,.call (.c (.fn (.func pK) [] [])) [(.t 30),(.t 31)],none⟩,⟨some 11,.alloc ad [(.bool false),.nilSl],none⟩,⟨none,.store 2 (.t 11) (.t 32),none⟩]) <|
   .seq (.region [⟨some 33,.mv (.t 8),none⟩,⟨some 34,.load (some 2) (.t 11),none⟩,⟨some 35,.buildSlice ad 2 [(.bool false),.nilSl] 1 [((0,2),(.t 34))],none⟩,⟨some 36,.append 2 32 ad [(.bool false),.nilSl] (.t 33) (.t 35),none⟩,⟨some 37,.mv (.t 7),none⟩,⟨some 38,.mv (.t 0),none⟩,⟨some 39,.mv (.t 10),none⟩,⟨some 40,.call (.c (.fn (.func eZ) [] [])) [(.t 38),(.t 39)],none⟩,⟨some 41,.buildSlice eE 1 [.nilSl] 1 [((0,1),(.t 40))],none⟩,⟨some 42,.append 1 24 eE [.nilSl] (.t 37) (.t 41),none⟩,⟨some 8,.mv (.t 36),none⟩,⟨some 7,.mv (.t 42),none⟩]) <|
   .draw [
    ⟨(some 43),.mv (.t 6),none,[(6,none)],0,[(0,[]),(1,[]),(2,[]),(3,[])]⟩,
    ⟨(some 44),.load (some 2) (.t 11),none,[(11,none)],0,[(0,[])]⟩,
    ⟨(some 45),.call (.c (.fn (.func lh) [] [])) [(.t 44)],none,[(44,(some 1))],2,[(0,[])]⟩,
    ⟨(some 46),.mv (.t 6),none,[(6,none)],0,[(0,[]),(1,[]),(2,[])]⟩,
    ⟨(some 47),.load (some 2) (.t 11),none,[(11,none)],0,[(0,[]),(1,[])]⟩,
    ⟨(some 48),.call (.c (.fn (.func lh) [] [])) [(.t 47)],none,[(47,(some 4))],2,[(1,[])]⟩,
    ⟨(some 49),.lookup .int .nilSl (.t 46) (.t 48) false,none,[(46,(some 3)),(48,(some 5))],0,[(2,[])]⟩,
    ⟨(some 50),.mv (.t 9),none,[(9,none)],0,[(0,[]),(1,[]),(2,[])]⟩,
    ⟨(some 51),.buildSlice fZ 1 [(.int .i64 0)] 1 [((0,1),(.t 50))],none,[(50,(some 7))],1,[(0,[]),(1,[]),(2,[])]⟩,
    ⟨(some 52),.append 1 8 fZ [(.int .i64 0)] (.t 49) (.t 51),none,[(49,(some 6)),(51,(some 8))],2,[(2,[8])]⟩,
    ⟨none,.mapUpd .int (.t 43) (.t 45) (.t 52),none,[(43,(some 0)),(45,(some 2)),(52,(some 9))],2,[(3,[])]⟩] []) T1 H1 Q:=by
 have hw:=hk1.wf0
 have w1:=hk1.wf
 have le_hk1:=hk1.le
 have le1:=hk1.le
 obtain ⟨vr,hvr,hldr⟩:=dw hqr hkk
 have hixr:=Zv hqr .i64 k hkk
 have hldr1:=bT hk1.sub hldr
 have hRk:=hR _ (TM hkk)
 have lub:=hw _ _ hub
 have hdot:=pO hae hRk.2 (hal.trans hRk.1.symm) zO
 refine zW (gh hl1 t0 t1 t23 hi1 hixr hldr1) ?_
 refine Y5 (vu C zF (ha.mono (zG H)) (hvr.mono (zG H)) (hal.trans hRk.1.symm) zO hae hRk.2 zO) ?_
 rintro v H2 ⟨⟨w,rfl,hr2⟩,hk2⟩
 obtain ⟨k12,_,_⟩:=zT H1 zK hk2
 have k02:Kp H H2:=hk1.trans k12
 have le_k02:=k02.le
 have w2:=k02.wf
 have n2:H1.next+10<=H2.next:=hk2.le
 have f8:H2.get (H1.next+8)=none:=hk2.free (show _<H1.next+10 by omega) (w1.fresh (b:=H1.next+8) zO)
 have ow:=hr2.one
 obtain ⟨z,hz⟩:∃ z,z=Lin.dot a R[k]:=⟨_,rfl⟩
 rw [<- hz] at hr2 hdot ⊢
 obtain ⟨Hc,hHc⟩:∃ X,X=(H2.put (H1.next+8) (.cells [.bool false,.nilSl] ad true)).put (H1.next+8) (.cells [.bool (decide (z<0)),w] ad true):=⟨_,rfl⟩
 have s2c:Sub H2 Hc:=by rw [hHc]; exact (aH f8).put f8 _
 have k0c:Kp H Hc:=by rw [hHc]; exact zK
 have nc:Hc.next=H2.next:=by rw [hHc]; rfl
 have hbxc:Hc.get (H1.next+8)=some (.cells [.bool (decide (z<0)),w] ad true):=by rw [hHc]; exact aq _ _ _
 have k1c:Kp H1 Hc:=by rw [hHc]; exact zK
 have cc:=hc.mono k1c.sub
 have hrc:cr Hc w z.natAbs:=hr2.mono s2c
 have wc:=k0c.wf
 have hlen1:((R.take k).map (Lin.dot a)).length=k:=by simp; omega
 obtain ⟨n36,H36,e36,b36,k36,nx36,f36,u36⟩:=Y6 (ty2:=ad) (bytes:=32) (id:=Hc.next+3) (id2:=Hc.next+2) (k:=12) (cs:=[.bool (decide (z<0)),w]) (a:=z) cc.bd zU k0c ⟨w,rfl,hrc⟩ zO zO zO zO zO zO zO
 rw [nc] at e36 b36 nx36 u36
 have e36':cM ((((H2.up 12).put (H1.next+8) (.cells [.bool false,.nilSl] ad true)).put (H1.next+8) (.cells [.bool (decide (z<0)),w] ad true)).put (H2.next+2) (.cells [.bool (decide (z<0)),w] ad true)) (H2.next+3) 2 32 ad vd (.own (H2.next+2) 0 1 1 2 true)=some (.own (H2.next+3) 0 n36 n36 2 false,H36):=by rw [hHc] at e36; exact e36
 refine zW (bS hl1 t0 v7 v8 e36') ?_
 have w36:=k36.wf
 have hubc:Hc.get ub=some (.cells [ql,qr,qd] aQ true):=k0c.get hub
 have hub36:=f36.other cc.bd hubc (fun cs h=>by injection h with _ h2; exact absurd h2 zU)
 have hbd1:∀ x,km vd=some x->x<H1.next:=fun x hx=>by
  obtain ⟨cells,h⟩:=hc.bd.blk hx
  exact w1 _ _ h
 have hbx36:H36.get (H1.next+8)=some (.cells [.bool (decide (z<0)),w] ad true):=f36 _ _ hbxc fun e=>by have:=hbd1 _ e; omega
 have hr36:cr H36 w z.natAbs:=Zw (E:=bU cm) (f36.subT cc.bd zU) hrc
 refine Y5 (K2 C zF hub36 (hqd.mono k36.sub) (hvr.mono k36.sub) hD1 hd0 hd hRk.1 (fun x hx=>(hD x hx).1) hRk.2 (fun x hx=>(hD x hx).2) zO) ?_
 rintro v40 H40 ⟨W,hW,mW,hk40⟩
 have k40:Kp H H40:=k36.trans hk40
 have le_k40:=k40.le
 have w40:=k40.wf
 have o40:=hW.one
 have le40:=hk40.le
 have f40a:H40.get (H2.next+8)=none:=hk40.free zO (u36 _ zO zO (wc.fresh (b:=H2.next+8) zO))
 have f40b:H40.get (H2.next+9)=none:=hk40.free zO (u36 _ zO zO (wc.fresh (b:=H2.next+9) zO))
 have bm36:Bl Rf eE H H36 vm Ws:=cc.bm.monoT (f36.subT cc.bd zU)
 have sdm:SidesV H H36 mb a R k es:=by
  refine ⟨f36.other cc.bd cc.sd.get (fun cs h=>by cases h),cc.sd.keys,fun s=>?_,cc.sd.sep⟩
  exact (cc.sd.bl s).monoT (f36.subT cc.bd zU)
 obtain ⟨n42,H42,e42,b42,k42,nx42,f42,u42⟩:=Bl.push2 (ty2:=eE) (bytes:=24) (id:=H2.next+9) (id2:=H2.next+8) (cs:=[v40]) (a:=W) (bm36.mono hk40.sub) zU k40 ⟨v40,rfl,hW⟩ zO zO f40b zO zO f40a zO (by have:=hc.wl; omega) (by have:=hc.wl; omega)
 have e42':cM (H40.put (H2.next+8) (.cells [v40] eE true)) (H2.next+9) 1 24 eE vm (.own (H2.next+8) 0 1 1 1 true)=some (.own (H2.next+9) 0 n42 n42 1 false,H42):=e42
 refine zW (bS hl1 t0 v7 v8 e42') ?_
 have bm40:Bl Rf eE H H40 vm Ws:=bm36.mono hk40.sub
 have w42:=k42.wf
 have hbx40:=hk40.get hbx36
 have hbx42:=f42.other bm40 hbx40 (fun cs h=>by injection h with _ h2; exact absurd h2 zU)
 have hr42:cr H42 w z.natAbs:=Zw (E:=bU cm) (f42.subT bm40 zU) (hr36.mono hk40.sub)
 have bd42:Bl intE ad H H42 (.own (H2.next+3) 0 n36 n36 2 false) ((R.take k).map (Lin.dot a)++[z]):=(b36.mono hk40.sub).monoT (f42.subT bm40 zU)
 have sd42:SidesV H H42 mb a R k es:=by
  have h40:=sdm.mono hk40.sub
  refine ⟨f42.other bm40 h40.get (fun cs h=>by cases h),h40.keys,fun s=>?_,h40.sep⟩
  exact (h40.bl s).monoT (f42.subT bm40 zU)
 have hsm:eY z:=hdot.sm zO
 have lk:=Do sd42.get sd42.keys (iK z)
 refine aI ?_
 refine zD (aD hl1 t6 hbx42) ?_
 refine Y4 (xg C (z:=z) zF ⟨w,rfl,hr42.mono (zG H42)⟩ hsm) fun H45 hk45=>?_
 obtain ⟨k4245,_,w45⟩:=zT H42 zK hk45
 have hbx45:=k4245.get hbx42
 refine zD (aX hl1 t6 hbx42 hbx45) ?_
 refine Y4 (xg C (z:=z) zF ⟨w,rfl,hr42.mono k4245.sub⟩ hsm) fun H48 hk48=>?_
 have k4248:Kp H42 H48:=k4245.trans hk48
 have le_k4248:=k4248.le
 have w48:=k4248.wf
 have sd48:=sd42.mono k4248.sub
 have lk48:=Do sd48.get sd48.keys (iK z)
 have le48:=k4248.le
 have f48a:H48.get (H42.next+8)=none:=hk48.free (by have:=hk45.le; simp only [da] at this; omega) (hk45.free (show _<H42.next+11 by omega) (w42.fresh (b:=H42.next+8) zO))
 have f48b:H48.get (H42.next+9)=none:=hk48.free (by have:=hk45.le; simp only [da] at this; omega) (hk45.free (show _<H42.next+11 by omega) (w42.fresh (b:=H42.next+9) zO))
 have nx48:H42.next+11<=H48.next:=Ub hk45.le hk48.le
 have k48:Kp H H48:=k42.trans k4248
 have le_k48:=k48.le
 have le042:=k42.le
 have hsl:=JP a R k (iK z)
 obtain ⟨n52,H52,e52,b52,k52,nx52,f52,u52⟩:=Bl.push2 (ty2:=fZ) (bytes:=8) (id:=H42.next+9) (id2:=H42.next+8) (cs:=[.int .i64 (k:Int)]) (a:=(k:Int)) (sd48.bl (iK z)) (fun h=>by cases h) k48 ⟨_,rfl,rfl⟩ zO zO f48b zO zO f48a zO zO zO
 have e52':cM (H48.put (H42.next+8) (.cells [.int .i64 (k:Int)] fZ true)) (H42.next+9) 1 8 fZ (gI es (iK z)) (.own (H42.next+8) 0 1 1 1 true)=some (.own (H42.next+9) 0 n52 n52 1 false,H52):=e52
 have hm52:H52.get mb=some (.map es):=f52.other (sd48.bl (iK z)) sd48.get (fun cs h=>by cases h)
 have up52:=RY hm52 sd48.keys (iK z) (.own (H42.next+9) 0 n52 n52 1 false)
 simp -dsimp (maxSteps:=1000000) (disch:=(first | omega | assumption | exact aR _ | exact bj _ _ | exact br | exact cz _ _ _ | exact bD _ _ | exact bp _ _ _ _ _ _ | exact cI _ _ | exact bE _)) only [↓ut,ur,↓RX,RW,Nat.reduceLT,Nat.reduceEqDiff,Nat.reduceAdd,reduceIte,reduceCtorEq,Nat.reduceBEq,Int.reduceEq,Int.reduceLT,Int.reduceLE,Int.reduceAdd,Int.reduceSub,hl1,t6,hbx42,hbx45,↓oG,↓Jt,Gc,lk48,hi1,e52',up52]
 have lmb:=k52.wf _ _ hm52
 have nm:∀ tys e,SubT tys H52 (H52.put mb e):=fun tys e=>ZD (ZE _ _) (NoTy.map hm52)
 have hgR:R.getD k []=R[k]:=by simp [hkk]
 refine hq _ _ (.own (H2.next+9) 0 n42 n42 1 false) (.own (H2.next+3) 0 n36 n36 2 false) _ (Ws++[W]) (by simp only [TH]; exact hl1) (zV hl1) (zV hl1) zK ⟨?_,?_,?_,?_,aq _ _ _,Eh sd48.keys _ _,fun s=>?_,fun s s' hne=>?_⟩
 ·exact ((b42.mono k4248.sub).monoT (f52.subT (sd48.bl (iK z)) zU)).monoT (nm _ _)
 ·rw [T9,hc.wl]; rfl
 ·intro t h h'
  by_cases ht:t<Ws.length
  ·rw [Yh ht]; exact hc.wok t h ht
  ·have e:t=k:=by rw [T9] at h'; have:=hc.wl; simp only [UH,V5] at h'; omega
   subst e
   rw [X6 zO]
   simpa using mW
 ·rw [TX hkk,UK]
  have e:[R[k]].map (Lin.dot a)=[z]:=by rw [hz]; rfl
  rw [e]
  exact ((bd42.mono k4248.sub).monoT (f52.subT (sd48.bl (iK z)) zU)).monoT (nm _ _)
 ·rw [r9 sd48.keys,Gy,hgR,<- hz]
  by_cases hs:s=iK z
  ·subst hs
   rw [if_pos rfl,if_pos rfl]
   exact b52.monoT (nm _ _)
  ·rw [if_neg hs,if_neg (fun e=>hs e.symm),Vi]
   exact (f52.bl (sd48.bl (iK z)) (sd48.bl s) (sd48.sep _ _ (fun e=>hs e.symm)) (fun h=>by cases h)).monoT (nm _ _)
 ·have hnew:∀ s,Sep (.own (H42.next+9) 0 n52 n52 1 false) (gI es s):=fun s x hx hy=>by
   cases hx
   obtain ⟨cells,hcl⟩:=(sd48.bl s).blk hy
   rw [f48b] at hcl; cases hcl
  rw [r9 sd48.keys,r9 sd48.keys]
  by_cases h1:s=iK z
  ·by_cases h2:s'=iK z
   ·exact absurd (h1.trans h2.symm) hne
   ·rw [if_pos h1,if_neg h2]; exact hnew s'
  ·by_cases h2:s'=iK z
   ·rw [if_neg h1,if_pos h2]; exact (hnew s).symm
   ·rw [if_neg h1,if_neg h2]; exact sd48.sep s s' hne
end
def ct (a:List Int) (R:List (List Int)) (s:Int):List Nat:=(List.range R.length).filter fun i=>iK (Lin.dot a (R.getD i [])) == s
theorem CZ (a:List Int) (R:List (List Int)) (s:Int):zu a R R.length s=(ct a R s).map fun i:Nat=>(i:Int):=rfl
theorem zr {a:List Int} {R:List (List Int)} {s:Int} {i:Nat} (h:i∈ct a R s):i<R.length:=by
 unfold ct at h
 rw [Ud] at h
 simpa using h.1
theorem zt (a:List Int) (R:List (List Int)) (s:Int):(ct a R s).length<=R.length:=by
 unfold ct
 exact Ub (U7 _ _) (by simp)
def Bv (D:List (List Int)) (a:List Int) (eq:Bool) (R:List (List Int)) (i:Nat):List (List Int) :=
 (if eq then [] else [R.getD i []])++((ct a R (-1)).filter (Lin.nearB D R i)).map fun k=>Lin.prime (Lin.mx a (R.getD i []) (R.getD k []))
theorem I8 (D:List (List Int)) (a:List Int) (eq:Bool) (R:List (List Int)):Lin.cutL D a eq R=(ct a R 0).map (R.getD · [])++(ct a R 1).flatMap (Bv D a eq R):=by
 have h0:Lin.idxs R (fun r=>Lin.dot a r == 0)=ct a R 0:=by
  unfold Lin.idxs ct
  refine Xf fun i _=>?_
  rw [UP,beq_iff_eq,beq_iff_eq,iv]
 have h1:Lin.idxs R (fun r=>decide (0<Lin.dot a r))=ct a R 1:=by
  unfold Lin.idxs ct
  refine Xf fun i _=>?_
  rw [UP,decide_eq_true_eq,beq_iff_eq]
  unfold iK
  split
  ·constructor <;> intro h <;> omega
  ·split
   ·constructor <;> intro h <;> omega
   ·constructor <;> intro h <;> omega
 have h2:Lin.idxs R (fun r=>decide (Lin.dot a r<0))=ct a R (-1):=by
  unfold Lin.idxs ct
  refine Xf fun i _=>?_
  rw [UP,decide_eq_true_eq,beq_iff_eq]
  unfold iK
  split
  ·constructor <;> intro h <;> omega
  ·split
   ·constructor <;> intro h <;> omega
   ·constructor <;> intro h <;> omega
 unfold Lin.cutL
 rw [h0,h1,h2]
 rfl
theorem Pg {D R:List (List Int)} {i k:Nat} (hi:i<R.length) (hk:k<R.length):TF (R.map fun r=>zeros r D) i k=Lin.nearB D R i k:=by
 have hz:∀ t,t<R.length->(R.map fun r=>zeros r D).getD t []=zeros (R.getD t []) D:=fun t h=>by simp [h]
 have hh:∀ t,t<R.length->Dz ((R.map fun r=>zeros r D).getD t []) ((R.map fun r=>zeros r D).getD i []) ((R.map fun r=>zeros r D).getD k [])=(D.all fun b=>!(Lin.dot b (R.getD i []) == 0 && Lin.dot b (R.getD k []) == 0) || Lin.dot b (R.getD t []) == 0):=fun t h=>by
  rw [hz t h,hz i hi,hz k hk]
  have hg:∀ r x,x<D.length->(zeros r D).getD x false=decide (Lin.dot (D.getD x []) r=0):=fun r x hx=>by
   simp [zeros,hx,Lin.dot_comm r]
  unfold Dz
  rw [UP,Uj,Uj,vT]
  constructor
  ·intro h b hb
   obtain ⟨x,hx,rfl⟩:=UY hb
   have:=h x (by simpa using hx)
   rw [hg _ x hx,hg _ x hx,hg _ x hx] at this
   have e:D.getD x []=D[x]:=by simp [hx]
   rw [e] at this
   simpa using this
  ·intro h x hx
   have hx:x<D.length:=by simpa using hx
   rw [hg _ x hx,hg _ x hx,hg _ x hx]
   have e:D.getD x []=D[x]:=by simp [hx]
   rw [e]
   have:=h D[x] (TM hx)
   simpa using this
 unfold TF Lin.nearB
 rw [TT,UP,Uj,Uj]
 constructor
 ·intro h t ht
  have:=h t ht
  rw [hh t (by simpa using ht)] at this
  exact this
 ·intro h t ht
  have:=h t ht
  rw [hh t (by simpa using ht)]
  exact this
theorem CutV.frm {H H' H'':Heap} {mb:Nat} {a:List Int} {R D:List (List Int)} {k:Nat} {vm vd v:AV} {es:List (AV × AV)} {Ws:List (List Nat)} {l:List (List Int)} (h:CutV H H' mb a R D k vm vd es Ws) (hf:Frm v H' H'') (hb:Bl rowsE af H H' v l):CutV H H'' mb a R D k vm vd es Ws :=
 ⟨h.bm.monoT (hf.subT hb zU),h.wl,h.wok,h.bd.monoT (hf.subT hb zU),hf.other hb h.sd.get (fun cs e=>by cases e),h.sd.keys,fun s=>(h.sd.bl s).monoT (hf.subT hb zU),h.sd.sep⟩
section
variable {tab:Nat->Option aw} {H:Heap} {s:AV}
theorem Dx {H0 H:Heap} {v:AV} {l:List Nat} (h:Bi H0 H v (l.map fun i:Nat=>(i:Int))) {j:Nat} (hj:j<l.length):bg H none (az v j)=some (.int .i64 ((l[j]:Nat):Int))/\cw 1 v (.int .i64 (j:Int))=some (az v j):=by
 obtain ⟨c,hc,hld⟩:=Zt h.sl (i:=j) (a:=((l[j]:Nat):Int)) (by simp [hj])
 have hc:c=.int .i64 ((l[j]:Nat):Int):=hc
 rw [hc] at hld
 exact ⟨hld,Zv h.sl .i64 j (by simpa using hj)⟩
theorem Bl.ge {α:Type} {E:fg α} {ty:Nat} {H0 H:Heap} {v:AV} {l:List α} (h:Bl E ty H0 H v l) {b:Nat} (hb:km v=some b):H0.next<=b:=by
 rcases h with ⟨rfl,-⟩ | ⟨b',cells,rfl,-,-,h0⟩
 ·cases hb
 ·cases hb; exact h0
theorem Wr.putT {H0 H:Heap} {v:AV} {l:List (List Int)} {c b ty:Nat} {cs:List AV} {r:Bool} {e:Ent} (h:Wr H0 H v l c) (hb:H.get b=some (.cells cs ty r)) (h1:ty≠af) (h2:ty ∉ (sO intE ad).tys):Wr H0 (H.put b e) v l c:=by
 refine h.put (fun hv=>?_) (Zp hb h2)
 rcases h with ⟨rfl,-⟩ | ⟨b',cells,rfl,h3,-⟩
 ·cases hv
 ·cases hv
  rw [hb] at h3
  injection h3 with h4; injection h4 with _ h5
  exact h1 h5
theorem Cg (C:Code tab) {ub mb i:Nat} {ql qr qd va vm vd vo:AV} {a:List Int} {R D pre:List (List Int)} {d e f:Nat} {es:List (AV × AV)} {Ws:List (List Nat)} {T1:Tm} {H1:Heap} (hub:H.get ub=some (.cells [ql,qr,qd] aQ true)) (hqr:dQ H qr R) (hd:d<=64) (hal:a.length=d) (hR:∀ r∈R,r.length=d/\∀ z∈r,Bt f z) (hD1:D.length<=1024) (hae:∀ z∈a,Bt e z) (hb:2*(e+f+7)+2*f+1<=8796093022208) (hbig:R.length<=1099000000000) (hpre:pre.length<=1100000000000) (hk1:Kp H H1) (hi:i<R.length) (hl1:T1.length=135)
  (t0:aa T1 0=.ptr ub 0) (v7:aa T1 7=vm) (v8:aa T1 8=vd) (t16:aa T1 16=.int .i64 (i:Int)) (t12:aa T1 12=vo) (t92:aa T1 92=gI es (-1)) (t93:aa T1 93=.int .i64 ((ct a R (-1)).length:Int)) (t94:aa T1 94=.int .i64 0) (hc:CutV H H1 mb a R D R.length vm vd es Ws) (ho:Bl rowsE af H H1 vo pre) {Q:Ex->Tm->Heap->Prop}
  (hq:∀ T2 H2 vo',T2.length=135->aa T2 12=vo'->Kp H H2->CutV H H2 mb a R D R.length vm vd es Ws->Bl rowsE af H H2 vo' (pre++((ct a R (-1)).filter (Lin.nearB D R i)).map fun k=>Lin.prime (Lin.mx a (R.getD i []) (R.getD k [])))->Q .nrm T2 H2) :
  WC tab false (Pz 6 7 94 93 95 129
  (.seq (.region [
  ⟨(some 96),.indexAddr 1 (.t 92) (.t 94),none⟩,
  ⟨(some 97),.load none (.t 96),none⟩,
  ⟨(some 18),.mv (.t 97),none⟩]) <|
  .seq (.region [
  ⟨(some 98),.mv (.t 7),none⟩,
  ⟨(some 99),.mv (.t 16),none⟩,
  ⟨(some 100),.mv (.t 18),none⟩,
  ⟨(some 101),.call (.c (.fn (.func nA) [] [])) [(.t 98),(.t 99),(.t 100)],none⟩]) <|
  .cond (.t 101)
  (.draw [
   ⟨(some 102),.mv (.t 12),none,[(12,none)],0,[(0,[]),(1,[]),(2,[])]⟩,
   ⟨(some 103),.mv (.t 8),none,[(8,none)],0,[(0,[])]⟩,
   ⟨(some 104),.mv (.t 18),none,[(18,none)],0,[(0,[])]⟩,
   ⟨(some 105),.indexAddr 2 (.t 103) (.t 104),none,[(103,(some 1)),(104,(some 2))],0,[(0,[])]⟩,
   ⟨(some 106),.load (some 2) (.t 105),none,[(105,(some 3))],0,[(0,[])]⟩,
   ⟨(some 107),.call (.c (.fn (.func pI) [] [])) [(.t 106)],none,[(106,(some 4))],2,[(0,[])]⟩,
   ⟨(some 108),.mv (.t 0),none,[(0,none)],0,[(0,[]),(1,[])]⟩,
   ⟨(some 109),.nilCheck (.t 108),none,[(108,(some 6))],0,[(0,[]),(1,[])]⟩,
   ⟨(some 110),.fieldAddr 1 (.t 109),none,[(109,(some 7))],0,[(0,[]),(1,[])]⟩,
   ⟨(some 111),.load none (.t 110),none,[(110,(some 8))],0,[(0,[]),(1,[])]⟩,
   ⟨(some 112),.mv (.t 16),none,[(16,none)],0,[(0,[]),(1,[])]⟩,
   ⟨(some 113),.indexAddr 1 (.t 111) (.t 112),none,[(111,(some 9)),(112,(some 10))],0,[(0,[]),(1,[])]⟩,
   ⟨(some 114),.load none (.t 113),none,[(113,(some 11))],0,[(0,[]),(1,[])]⟩,
   ⟨(some 115),.mv (.t 8),none,[(8,none)],0,[(0,[]),(1,[])]⟩,
   ⟨(some 116),.mv (.t 16),none,[(16,none)],0,[(0,[]),(1,[])]⟩,
   ⟨(some 117),.indexAddr 2 (.t 115) (.t 116),none,[(115,(some 13)),(116,(some 14))],0,[(0,[]),(1,[])]⟩,
   ⟨(some 118),.load (some 2) (.t 117),none,[(117,(some 15))],0,[(0,[]),(1,[])]⟩,
   ⟨(some 119),.mv (.t 0),none,[(0,none)],0,[(0,[]),(1,[])]⟩,
   ⟨(some 120),.nilCheck (.t 119),none,[(119,(some 17))],0,[(0,[]),(1,[])]⟩,
   ⟨(some 121),.fieldAddr 1 (.t 120),none,[(120,(some 18))],0,[(0,[]),(1,[])]⟩,
   ⟨(some 122),.load none (.t 121),none,[(121,(some 19))],0,[(0,[]),(1,[])]⟩,
   ⟨(some 123),.mv (.t 18),none,[(18,none)],0,[(0,[]),(1,[])]⟩,
   ⟨(some 124),.indexAddr 1 (.t 122) (.t 123),none,[(122,(some 20)),(123,(some 21))],0,[(0,[]),(1,[])]⟩,
   ⟨(some 125),.load none (.t 124),none,[(124,(some 22))],0,[(0,[]),(1,[])]⟩,
   ⟨(some 126),.call (.c (.fn (.func pJ) [] [])) [(.t 107),(.t 114),(.t 118),(.t 125)],none,[(107,(some 5)),(114,(some 12)),(118,(some 16)),(125,(some 23))],2,[(1,[])]⟩,
   ⟨(some 127),.buildSlice af 1 [.nilSl] 1 [((0,1),(.t 126))],none,[(126,(some 24))],1,[(2,[])]⟩,
   ⟨(some 128),.append 1 24 af [.nilSl] (.t 102) (.t 127),none,[(102,(some 0)),(127,(some 25))],2,[(2,[25])]⟩,
   ⟨(some 12),.mv (.t 128),none,[(128,(some 26))],0,[(3,[])]⟩] [])
  (.skip))) T1 H1 Q:=by
 have hw:=hk1.wf0
 have lub:=hw _ _ hub
 have hsl:=zt a R (-1)
 have hRi:=hR _ (TM hi)
 obtain ⟨vri,hvri,hldi⟩:=dw hqr hi
 have xri:=Zv hqr .i64 i hi
 have gi:R.getD i []=R[i]:=by simp [hi]
 refine am H [12] (fun m vs H'=>∃ vo,vs=[vo]/\CutV H H' mb a R D R.length vm vd es Ws/\Bl rowsE af H H' vo (pre++(((ct a R (-1)).take m).filter (Lin.nearB D R i)).map fun k=>Lin.prime (Lin.mx a (R.getD i []) (R.getD k [])))) (a:=0) (N:=(ct a R (-1)).length) hl1 t94 t93 (TY _) zO rfl rfl (fun m vs H' n ⟨vo,h1,h2,h3⟩=>⟨vo,h1,h2.mono (ZB H' n),h3.mono (ZB H' n)⟩) hk1 ⟨vo,by show [aa T1 12]=_; rw [t12],hc,by simpa using ho⟩ ?_ ?_
 ·rintro m T2 H2 _ hm hl2 hi2 hs2 hk2 ⟨vo2,hv,c2,o2⟩
  have w2:=hk2.wf
  have le_hk2:=hk2.le
  have le2:=hk2.le
  simp only [TP,TV,TR,and_true] at hv
  have u0:aa T2 0=.ptr ub 0:=(hs2.at_ 0 zU).trans t0
  have u7:aa T2 7=vm:=(hs2.at_ 7 zU).trans v7
  have u8:aa T2 8=vd:=(hs2.at_ 8 zU).trans v8
  have u16:aa T2 16=.int .i64 (i:Int):=(hs2.at_ 16 zU).trans t16
  have u92:aa T2 92=gI es (-1):=(hs2.at_ 92 zU).trans t92
  have hside:Bi H H2 (gI es (-1)) ((ct a R (-1)).map fun i:Nat=>(i:Int)):=c2.sd.bl (-1)
  obtain ⟨hld,hix⟩:=Dx hside hm
  obtain ⟨k,hk⟩:∃ k,k=(ct a R (-1))[m]:=⟨_,rfl⟩
  rw [<- hk] at hld
  have hkR:k<R.length:=by rw [hk]; exact zr (TM hm)
  have gk:R.getD k []=R[k]:=by simp [hkR]
  refine zW (gh hl2 u92 u7 u16 hi2 hix hld) ?_
  have hzl:(R.map fun r=>zeros r D).length=R.length:=by simp
  refine Y4 (K0 C (zs:=R.map fun r=>zeros r D) (n:=D.length) zF (c2.bm.sl.mono (zG H2)) (by rw [c2.wl,hzl]) (fun t h h'=>?_) (fun z hz=>?_) zO zO zO zO) fun H3 hk3=>?_
  ·rw [WJ]; exact c2.wok t zO h'
  ·rw [TN] at hz
   obtain ⟨r,-,rfl⟩:=hz
   exact vT r D
  rw [Pg hi hkR]
  obtain ⟨k23,_,_⟩:=zT H2 zK hk3
  have k03:Kp H H3:=hk2.trans k23
  have le_k03:=k03.le
  have w3:=k03.wf
  have hsucc:(ct a R (-1)).take (m+1)=(ct a R (-1)).take m++[k]:=by rw [TX hm,<- hk]
  cases hnb:Lin.nearB D R i k with
  | false =>
   refine zW (aC hl2 hv) ?_
   refine ⟨k03,vo2,rfl,c2.mono k23.sub,?_⟩
   rw [hsucc,U9]
   simp only [VS,hnb,UN,if_false,WQ,Vi]
   exact o2.mono k23.sub
  | true =>
   have hRk:=hR _ (TM hkR)
   have hdl:((R.take R.length).map (Lin.dot a)).length=R.length:=by simp
   have gd:∀ t (h:t<R.length),((R.take R.length).map (Lin.dot a))[t]'zO=Lin.dot a R[t]:=fun t h=>by simp
   have dsl:=c2.bd.sl
   obtain ⟨wk,hnk,hlk,-,-⟩:=lJ (dsl.mono k23.sub) (i:=k) zO
   obtain ⟨wi,hni,hli,-,-⟩:=lJ (dsl.mono k23.sub) (i:=i) zO
   rw [gd k hkR] at hnk hlk
   rw [gd i hi] at hni hli
   have xk:cw 2 vd (.int .i64 (k:Int))=some (az vd (k*2)):=Zu dsl .i64 k zO
   have xi:cw 2 vd (.int .i64 (i:Int))=some (az vd (i*2)):=Zu dsl .i64 i zO
   obtain ⟨vrk,hvrk,hldk⟩:=dw hqr hkR
   have xrk:=Zv hqr .i64 k hkR
   have hub3:=k03.get hub
   have hldi3:=bT k03.sub hldi
   have hldk3:=bT k03.sub hldk
   have dk:=pO hae hRk.2 (hal.trans hRk.1.symm) zO
   have di:=pO hae hRi.2 (hal.trans hRi.1.symm) zO
   refine zW (aC hl2 hv) ?_
   refine aI ?_
   refine zD (lA hl2 hv u0 u8 u16 xk hlk @aT) ?_
   refine Y5 (AH C (z:=Lin.dot a R[k]) zF ⟨wk,rfl,hnk.mono (zG H3)⟩ (dk.sm zO)) ?_
   rintro v4 H4 ⟨hr4,hk4⟩
   obtain ⟨k34,_,w4⟩:=zT H3 zK hk4
   have k04:Kp H H4:=k03.trans k34
   have le_k04:=k04.le
   have hub4:=k34.get hub3
   have hldi4:=bT k34.sub hldi3
   have hldk4:=bT k34.sub hldk3
   have hli4:=bT k34.sub hli
   refine zD (Qk hl2 hv u0 u8 u16 xk xi xri xrk hlk hli hli4 hub3 hub4 hldi3 hldi4 hldk3 hldk4 @aT) ?_
   refine Y5 (FB C (m:=-(Lin.dot a R[k])) (n:=Lin.dot a R[i]) zF (hr4.mono (zG H4)) ⟨wi,rfl,hni.mono (zG H3)⟩ (hvri.mono (zG H)) (hvrk.mono (zG H)) (hRi.1.trans hRk.1.symm) zO dk.neg di hRi.2 hRk.2 zO) ?_
   rintro v5 H5 ⟨hr5,hk5⟩
   have k35:Kp H3 H5:=Zi k34 (Zi zK hk5)
   have le_k35:=k35.le
   have w5:=k35.wf
   have k05:Kp H H5:=k03.trans k35
   have le_k05:=k05.le
   have o5:=hr5.one
   have f25:H5.get (H3.next+25)=none:=hk5.free (by have:=hk4.le; simp only [da] at this; omega) (hk4.free (show _<H3.next+28 by omega) (w3.fresh (b:=H3.next+25) zO))
   have f26:H5.get (H3.next+26)=none:=hk5.free (by have:=hk4.le; simp only [da] at this; omega) (hk4.free (show _<H3.next+28 by omega) (w3.fresh (b:=H3.next+26) zO))
   have nx5:H3.next+28<=H5.next:=Ub hk4.le hk5.le
   have o25:=o2.mono (k23.trans k35).sub
   have hr5':RowV H5 v5 (Lin.prime (Lin.mx a (R.getD i []) (R.getD k []))):=by rw [gi,gk]; exact hr5
   have hpl:(pre++(((ct a R (-1)).take m).filter (Lin.nearB D R i)).map fun k=>Lin.prime (Lin.mx a (R.getD i []) (R.getD k []))).length<=pre.length+R.length:=by
    rw [T9,TT]
    have h1:=U7 (Lin.nearB D R i) ((ct a R (-1)).take m)
    rw [Un] at h1
    omega
   obtain ⟨n6,H6,e6,b6,k6,nx6,f6,u6⟩:=Bl.push2 (ty2:=af) (bytes:=24) (id:=H3.next+26) (id2:=H3.next+25) (cs:=[v5]) (a:=Lin.prime (Lin.mx a (R.getD i []) (R.getD k []))) o25 zU k05 ⟨v5,rfl,hr5'⟩ zO zO f26 zO zO f25 zO zO zO
   have e6':cM (H5.put (H3.next+25) (.cells [v5] af true)) (H3.next+26) 1 24 af vo2 (.own (H3.next+25) 0 1 1 1 true)=some (.own (H3.next+26) 0 n6 n6 1 false,H6):=e6
   refine zD (RP hl2 hv u0 u8 u16 xk xi xri xrk hlk hli hli4 hub3 hub4 hldi3 hldi4 hldk3 hldk4 @aT e6') ?_
   refine ⟨k6,_,rfl,(c2.mono (k23.trans k35).sub).frm f6 o25,?_⟩
   rw [hsucc,U9,UK,<- VJ]
   simp only [VS,hnb,if_true,WQ,TP,TV]
   exact b6
 ·rintro T2 H2 hl2 hs2 hk2 ⟨vo2,hv,c2,o2⟩
  simp only [TP,TV,TR,and_true] at hv
  rw [Ur] at o2
  exact hq T2 H2 vo2 hl2 hv hk2 c2 o2
theorem NH (C:Code tab) {H0:Heap} {ub:Nat} {u:Lin.Under} {va:AV} {a:List Int} {eq:Bool} {d e f:Nat} (hk:Kp H0 H) (hub0:H0.next<=ub) (hu:UnderV H0 H ub u) (ha:RowV H va a) (hd0:0<d) (hd:d<=64) (hal:a.length=d) (hR:∀ r∈u.rays,r.length=d/\∀ z∈r,Bt f z) (hD:∀ r∈u.done,r.length=d/\∀ z∈r,Bt e z) (hD1:u.done.length<=1024) (hae:∀ z∈a,Bt e z) (hb:2*(e+f+7)+2*f+1<=8796093022208) (hbig:u.rays.length<=1099000000000) (hcl:(Lin.cutL u.done a eq u.rays).length<=1099000000000) :
  Ans tab (.fn iN [.ptr ub 0,va,.bool eq]) H fun v H'=>v=.tup []/\Kp H0 H'/\UnderV H0 H' ub ⟨u.lines,Lin.cutL u.done a eq u.rays,u.done⟩/\∀ b e,H.get b=some e->b≠ub->H'.get b=some e:=by
 have hw:=hk.wf
 obtain ⟨ql,qr,qd,cl,hub,hql,hqr,hqd,s1,s2,s3⟩:=hu
 have lub:=hw _ _ hub
 obtain ⟨R,hRe⟩:∃ R,R=u.rays:=⟨_,rfl⟩
 obtain ⟨D,hDe⟩:∃ D,D=u.done:=⟨_,rfl⟩
 rw [<- hRe] at hR hqr hbig hcl ⊢
 rw [<- hDe] at hD hD1 hqd hcl ⊢
 refine BA C.q112 rfl rfl zU fun T hl g=>?_
 have hl:T.length=135:=hl
 have hrs:c_P_cone_under_cut.results=[]:=rfl
 have g0:aa T 0=.ptr ub 0:=g 0 (by simp)
 have g1:aa T 1=va:=g 1 (by simp)
 have g2:aa T 2=.bool eq:=g 2 (by simp)
 refine aP ?_
 simp -dsimp (maxSteps:=1000000) (disch:=(first | omega | assumption | exact aR _ | exact bj _ _ | exact br | exact cz _ _ _ | exact bD _ _ | exact bp _ _ _ _ _ _ | exact cI _ _ | exact bE _)) only [↓ut,ur,Nat.reduceLT,Nat.reduceEqDiff,Nat.reduceAdd,reduceIte,reduceCtorEq,Nat.reduceBEq,Int.reduceEq,Int.reduceLT,Int.reduceLE,Int.reduceAdd,Int.reduceSub,hl,g0,g1,g2,↓LJ,au]
 refine aP ?_
 refine zW (bS hl g0 g1 g2 @au) ?_
 refine aP ?_
 refine zW (bS hl g0 g1 g2 @au) ?_
 have hRb:R.length<1099511627776:=by omega
 refine dl (fun T' H'=>∃ vm vd es Ws,aa T' 7=vm/\aa T' 8=vd/\Kp H H'/\CutV H H' H.next a R D R.length vm vd es Ws) rfl ?_ ?_
 ·refine zW (gh hl g0 g1 g2 hub hqr.sl.lenV @aW) ?_
  refine am H [7,8] (fun k vs H'=>∃ vm vd es Ws,vs=[vm,vd]/\CutV H H' H.next a R D k vm vd es Ws) (a:=0) (N:=R.length) rfl (by refine zW hl ?_; rfl) (zV hl) (TY _) zO (by simp only [TH,hl]; rfl) rfl (fun k vs H' m ⟨vm,vd,es,Ws,h1,h2⟩=>⟨vm,vd,es,Ws,h1,h2.mono (ZB H' m)⟩) zK ⟨.nilSl,.nilSl,[],[],by exact zV hl,Bl.nil,rfl,fun t h h'=>by simp at h',Bl.nil,by exact cP,(fun p hp=>by cases hp),(fun s=>Bl.nil),(fun s s' _ b hb=>by cases hb)⟩ ?_ ?_
  ·rintro k T1 H1 _ hkk hl1 hi1 hs1 hkp1 ⟨vm,vd,es,Ws,hv,hc⟩
   simp only [TP,TV,TR,and_true] at hv
   simp only [TH,hl] at hl1
   refine KW C hub hqr.sl hqd.sl ha hd0 hd hal hR hD hD1 hae zO hRb hkp1 hkk hl1 ((hs1.at_ 0 zU).trans (zV (aC hl g0))) ((hs1.at_ 1 zU).trans (zV (aC hl g1))) ((hs1.at_ 6 zU).trans (zV hl)) ((hs1.at_ 23 zU).trans (zV hl)) hi1 hv.1 hv.2 (TO _) hc ?_
   intro T2 H2 vm' vd' es' Ws' h1 h2 h3 h4 h5
   refine zW (aD h1 h2 h3) ?_
   exact ⟨h4,vm',vd',es',Ws',rfl,h5⟩
  ·rintro T1 H1 hl1 hs1 hk1 ⟨vm,vd,es,Ws,hv,hc⟩
   simp only [TP,TV,TR,and_true] at hv
   refine zW (aC hl1 @aW) ?_
   exact ⟨vm,vd,es,Ws,hv.1,hv.2,hk1,hc⟩
 rintro T1 H1 hs1 ⟨vm,vd,es,Ws,v7,v8,k1,hc⟩
 have w1:=k1.wf
 have t0:aa T1 0=.ptr ub 0:=(hs1.at_ 0 zU).trans (zV (aC hl g0))
 have t2:aa T1 2=.bool eq:=(hs1.at_ 2 zU).trans (zV (aC hl g2))
 have t6:aa T1 6=.map H.next:=(hs1.at_ 6 zU).trans (zV hl)
 have hl1:T1.length=135:=hs1.len.trans (by simp only [TH]; exact hl)
 have lkz:∀ (H':Heap),CutV H H' H.next a R D R.length vm vd es Ws->∀ z n,sR (H'.up n) .int .nilSl (.map H.next) (.int .i64 z) false=some (gI es z):=fun H' h z n=>Do (by exact h.sd.get) h.sd.keys z
 have lk0:=lkz H1 hc 0
 have len0:lenV (gI es 0)=some (.int .i64 ((ct a R 0).length:Int)):=by
  rw [(hc.sd.bl 0).sl.lenV,CZ,TT]
 have hn0:=zt a R 0
 have hn1:=zt a R 1
 refine WC.wb ?_
 simp -dsimp (maxSteps:=1000000) (disch:=(first | omega | assumption | exact aR _ | exact bj _ _ | exact br | exact cz _ _ _ | exact bD _ _ | exact bp _ _ _ _ _ _ | exact cI _ _ | exact bE _)) only [↓ut,ur,Nat.reduceLT,Nat.reduceEqDiff,Nat.reduceAdd,reduceIte,reduceCtorEq,Nat.reduceBEq,Int.reduceEq,Int.reduceLT,Int.reduceLE,Int.reduceAdd,Int.reduceSub,hl1,t0,t6,↓oG,lk0,len0]
 refine am H [12] (fun m vs H'=>∃ vo,vs=[vo]/\CutV H H' H.next a R D R.length vm vd es Ws/\Bl rowsE af H H' vo (((ct a R 0).take m).map (R.getD · []))) (a:=0) (N:=(ct a R 0).length) rfl (by refine zW hl1 ?_; rfl) (zV hl1) (TY _) zO (by simp only [TH,hl1]; rfl) rfl (fun m vs H' n ⟨vo,h1,h2,h3⟩=>⟨vo,h1,h2.mono (ZB H' n),h3.mono (ZB H' n)⟩) zK ⟨.nilSl,by exact zV hl1,hc.mono (ZB H1 _),Bl.nil⟩ ?_ ?_
 ·rintro m T2 H2 _ hm hl2 hi2 hs2 hk2 ⟨vo,hv,c2,o2⟩
  have w2:=hk2.wf
  have le_hk2:=hk2.le
  have le2:=hk2.le
  simp only [TP,TV,TR,and_true] at hv
  simp only [TH,hl1] at hl2
  have u0:aa T2 0=.ptr ub 0:=(hs2.at_ 0 zU).trans (zV (aC hl1 t0))
  have u55:aa T2 55=gI es 0:=(hs2.at_ 55 zU).trans (zV hl1)
  obtain ⟨hld,hix⟩:=Dx (show Bi H H2 (gI es 0) ((ct a R 0).map fun i:Nat=>(i:Int)) from c2.sd.bl 0) hm
  obtain ⟨k,hkk⟩:∃ k,k=(ct a R 0)[m]:=⟨_,rfl⟩
  rw [<- hkk] at hld
  have hkR:k<R.length:=by rw [hkk]; exact zr (TM hm)
  obtain ⟨vr,hvr,hldr⟩:=dw hqr.sl hkR
  have xr:=Zv hqr.sl .i64 k hkR
  have hub2:=hk2.get hub
  have hldr2:=bT hk2.sub hldr
  have orr:=hvr.one
  have gk:R.getD k []=R[k]:=by simp [hkR]
  have hlen:(((ct a R 0).take m).map (R.getD · [])).length<=R.length:=by simp; omega
  obtain ⟨n6,H6,e6,b6,k6,nx6,f6,u6⟩:=Y6 (ty2:=af) (bytes:=24) (id:=H2.next+12) (id2:=H2.next+11) (k:=14) (cs:=[vr]) (a:=R.getD k []) o2 zU hk2 ⟨vr,rfl,by rw [gk]; exact hvr.mono hk2.sub⟩ zO zO zO zO zO zO zO
  have e6':cM ((H2.up 14).put (H2.next+11) (.cells [vr] af true)) (H2.next+12) 1 24 af vo (.own (H2.next+11) 0 1 1 1 true)=some (.own (H2.next+12) 0 n6 n6 1 false,H6):=e6
  refine zW (oF hl2 u0 u55 hi2 hix hld hv hub2 xr hldr2 e6') ?_
  refine ⟨k6,_,rfl,c2.frm f6 o2,?_⟩
  rw [TX hm,UK,<- hkk]
  exact b6
 ·rintro T2 H2 hl2 hs2 hk2 ⟨vo,hv,c2,o2⟩
  have w2:=hk2.wf
  have le_hk2:=hk2.le
  simp only [TP,TV,TR,and_true] at hv
  simp only [TH,hl1] at hl2
  rw [Ur] at o2
  have u0:aa T2 0=.ptr ub 0:=(hs2.at_ 0 zU).trans (zV (aC hl1 t0))
  have u2:aa T2 2=.bool eq:=(hs2.at_ 2 zU).trans (zV (aC hl1 t2))
  have u6:aa T2 6=.map H.next:=(hs2.at_ 6 zU).trans (zV (aC hl1 t6))
  have u7:aa T2 7=vm:=(hs2.at_ 7 zU).trans (zV (aC hl1 v7))
  have u8:aa T2 8=vd:=(hs2.at_ 8 zU).trans (zV (aC hl1 v8))
  have lk1:=lkz H2 c2 1
  have Sg:lenV (gI es 1)=some (.int .i64 ((ct a R 1).length:Int)):=by
   rw [(hc.sd.bl 1).sl.lenV,CZ,TT]
  simp -dsimp (maxSteps:=1000000) (disch:=(first | omega | assumption | exact aR _ | exact bj _ _ | exact br | exact cz _ _ _ | exact bD _ _ | exact bp _ _ _ _ _ _ | exact cI _ _ | exact bE _)) only [↓ut,ur,Nat.reduceLT,Nat.reduceEqDiff,Nat.reduceAdd,reduceIte,reduceCtorEq,Nat.reduceBEq,Int.reduceEq,Int.reduceLT,Int.reduceLE,Int.reduceAdd,Int.reduceSub,hl2,u0,u6,↓oG,lk1,Sg]
  refine am H [12] (fun m vs H'=>∃ vo,vs=[vo]/\CutV H H' H.next a R D R.length vm vd es Ws/\Bl rowsE af H H' vo ((ct a R 0).map (R.getD · [])++((ct a R 1).take m).flatMap (Bv D a eq R))) (a:=0) (N:=(ct a R 1).length) rfl (by refine zW hl2 ?_; rfl) (zV hl2) (TY _) zO (by simp only [TH,hl2]; rfl) rfl (fun m vs H' n ⟨vo,h1,h2,h3⟩=>⟨vo,h1,h2.mono (ZB H' n),h3.mono (ZB H' n)⟩) zK ⟨vo,by exact zV (aC hl2 hv),c2.mono (ZB H2 _),by rw [XN,List.flatMap_nil,Vi]; exact o2.mono (ZB H2 _)⟩ ?_ ?_
  ·rintro m T3 H3 _ hm hl3 hi3 hs3 hk3 ⟨vo3,hv3,c3,o3⟩
   have w3:=hk3.wf
   have le_hk3:=hk3.le
   have le3:=hk3.le
   simp only [TP,TV,TR,and_true] at hv3
   simp only [TH,hl2] at hl3
   have z0:aa T3 0=.ptr ub 0:=(hs3.at_ 0 zU).trans (zV (aC hl2 u0))
   have z2:aa T3 2=.bool eq:=(hs3.at_ 2 zU).trans (zV (aC hl2 u2))
   have z6:aa T3 6=.map H.next:=(hs3.at_ 6 zU).trans (zV (aC hl2 u6))
   have z7:aa T3 7=vm:=(hs3.at_ 7 zU).trans (zV (aC hl2 u7))
   have z8:aa T3 8=vd:=(hs3.at_ 8 zU).trans (zV (aC hl2 u8))
   have z73:aa T3 73=gI es 1:=(hs3.at_ 73 zU).trans (zV hl2)
   obtain ⟨hld,hix⟩:=Dx (show Bi H H3 (gI es 1) ((ct a R 1).map fun i:Nat=>(i:Int)) from c3.sd.bl 1) hm
   obtain ⟨i,hii⟩:∃ i,i=(ct a R 1)[m]:=⟨_,rfl⟩
   rw [<- hii] at hld
   have hiR:i<R.length:=by rw [hii]; exact zr (TM hm)
   have gi:R.getD i []=R[i]:=by simp [hiR]
   obtain ⟨pre,hpre⟩:∃ pre,pre=(ct a R 0).map (R.getD · [])++((ct a R 1).take m).flatMap (Bv D a eq R):=⟨_,rfl⟩
   have hpl:pre.length<=1099000000000:=by
    refine Ub ?_ hcl
    have e:(ct a R 1).flatMap (Bv D a eq R)=((ct a R 1).take m).flatMap (Bv D a eq R)++((ct a R 1).drop m).flatMap (Bv D a eq R):=by rw [<- YL,Yr]
    rw [I8,e,hpre]
    simp only [T9]
    omega
   have hstep:(ct a R 0).map (R.getD · [])++((ct a R 1).take (m+1)).flatMap (Bv D a eq R)=pre++Bv D a eq R i:=by
    rw [TX hm,YL,<- VJ,<- hpre,<- hii]
    simp
   rw [hstep]
   rw [<- hpre] at o3
   have lkm:=lkz H3 c3 (-1)
   have lenm:lenV (gI es (-1))=some (.int .i64 ((ct a R (-1)).length:Int)):=by
    rw [(hc.sd.bl (-1)).sl.lenV,CZ,TT]
   cases heq:eq with
   | true =>
    rw [heq] at z2
    simp -dsimp (maxSteps:=1000000) (disch:=(first | omega | assumption | exact aR _ | exact bj _ _ | exact br | exact cz _ _ _ | exact bD _ _ | exact bp _ _ _ _ _ _ | exact cI _ _ | exact bE _)) only [↓ut,ur,Nat.reduceLT,Nat.reduceEqDiff,Nat.reduceAdd,reduceIte,reduceCtorEq,Nat.reduceBEq,Int.reduceEq,Int.reduceLT,Int.reduceLE,Int.reduceAdd,Int.reduceSub,hl3,z0,z2,z6,z73,hi3,hix,hld,hv3,↓oG,lkm,lenm]
    refine Cg (va:=va) C hub hqr.sl hd hal hR hD1 hae hb hbig (pre:=pre) zO (hk3.up _) hiR (by simp only [TH]; exact hl3) (zV (aC hl3 z0)) (zV (aC hl3 z7)) (zV (aC hl3 z8)) (zV hl3) (zV (aC hl3 hv3)) (zV hl3) (zV hl3) (zV hl3) (c3.mono (ZB H3 _)) (o3.mono (ZB H3 _)) ?_
    intro T4 H4 vo4 h1 h2 h3 h4 h5
    refine zW (aC h1 h2) ?_
    exact ⟨h3,vo4,rfl,h4,by unfold Bv; simpa using h5⟩
   | false =>
    rw [heq] at z2
    obtain ⟨vr,hvr,hldr⟩:=dw hqr.sl hiR
    have xr:=Zv hqr.sl .i64 i hiR
    have hub3:=hk3.get hub
    have hldr3:=bT hk3.sub hldr
    have orr:=hvr.one
    obtain ⟨n6,H6,e6,b6,k6,nx6,f6,u6'⟩:=Y6 (ty2:=af) (bytes:=24) (id:=H3.next+14) (id2:=H3.next+13) (k:=16) (cs:=[vr]) (a:=R.getD i []) o3 zU hk3 ⟨vr,rfl,by rw [gi]; exact hvr.mono hk3.sub⟩ zO zO zO zO zO zO zO
    have e6':cM ((H3.up 16).put (H3.next+13) (.cells [vr] af true)) (H3.next+14) 1 24 af vo3 (.own (H3.next+13) 0 1 1 1 true)=some (.own (H3.next+14) 0 n6 n6 1 false,H6):=e6
    have c6:=c3.frm f6 o3
    have lk6:=lkz H6 c6 (-1)
    have w6:=k6.wf
    simp -dsimp (maxSteps:=1000000) (disch:=(first | omega | assumption | exact aR _ | exact bj _ _ | exact br | exact cz _ _ _ | exact bD _ _ | exact bp _ _ _ _ _ _ | exact cI _ _ | exact bE _)) only [↓ut,ur,Nat.reduceLT,Nat.reduceEqDiff,Nat.reduceAdd,reduceIte,reduceCtorEq,Nat.reduceBEq,Int.reduceEq,Int.reduceLT,Int.reduceLE,Int.reduceAdd,Int.reduceSub,hl3,z0,z2,z6,z73,hi3,hix,hld,hv3,hub3,xr,hldr3,e6',↓oG,lk6,lenm]
    refine Cg (va:=va) C hub hqr.sl hd hal hR hD1 hae hb hbig (pre:=pre++[R.getD i []]) (by simp; omega) (k6.up _) hiR (by simp only [TH]; exact hl3) (zV (aC hl3 z0)) (zV (aC hl3 z7)) (zV (aC hl3 z8)) (zV hl3) (by refine zW hl3 ?_; rfl) (zV hl3) (zV hl3) (zV hl3) (c6.mono (ZB H6 _)) (b6.mono (ZB H6 _)) ?_
    intro T4 H4 vo4 h1 h2 h3 h4 h5
    refine zW (aC h1 h2) ?_
    exact ⟨h3,vo4,rfl,h4,by unfold Bv; simpa using h5⟩
  ·rintro T3 H3 hl3 hs3 hk3 ⟨vo3,hv3,c3,o3⟩
   have w3:=hk3.wf
   have le_hk3:=hk3.le
   simp only [TP,TV,TR,and_true] at hv3
   simp only [TH,hl2] at hl3
   rw [Ur,<- I8] at o3
   have z0:aa T3 0=.ptr ub 0:=(hs3.at_ 0 zU).trans (zV (aC hl2 u0))
   have hub3:=hk3.get hub
   have lub3:=w3 _ _ hub3
   have k03:Kp H0 H3:=hk.trans hk3
   have le_k03:=k03.le
   have ov3:=o3.sl.one
   have hst:Eo (some (.cells [ql,qr,qd] aQ true)) 1 1 vo3=some (.cells [ql,vo3,qd] aQ true):=jd ov3.fits (by simp)
   refine zW (dV hl3 z0 hv3 hub3 hrs hst) ?_
   have hle:=hk.le
   have o3w:Wr H0 H3 vo3 (Lin.cutL D a eq R) (Lin.cutL D a eq R).length:=o3.wr.base hle
   refine ⟨zK,⟨ql,vo3,qd,cl,aq _ _ _,((hql.mono hk3.sub).mono (ZB H3 5)).putT hub3 zU zU,(o3w.mono (ZB H3 5)).putT hub3 zU zU,((hqd.mono hk3.sub).mono (ZB H3 5)).putT hub3 zU zU,fun x hx hy=>?_,s2,fun x hx hy=>?_⟩,fun b e hb' hne=>?_⟩
   ·have h1:=hql.old hw hx
    have h2:=o3.ge hy
    omega
   ·have h1:=hqd.old hw hy
    have h2:=o3.ge hx
    omega
   ·rw [aA hne]; exact hk3.get hb'
end
theorem SlV.ro {α:Type} {E:fg α} {ty:Nat} {H H':Heap} {v:AV} {l:List α} (hE:∀ cs a,E.R H cs a->E.R H' cs a) (hty:∀ b cs r,H.get b=some (.cells cs ty r)->∃ r',H'.get b=some (.cells cs ty r')) (hs:SlV E ty H v l):SlV E ty H' v l:=by
 obtain ⟨cells,⟨h0,h1,n,h2,h3⟩,ht,hc⟩:=hs
 refine ⟨cells,⟨h0,h1,n,h2,?_⟩,fun b off n c z x e=>?_,hc.1,fun i a hi=>hE _ _ (hc.2 i a hi)⟩
 ·unfold aM at h3 ⊢
  split at h3
  ·rename_i b off m c sz ex
   obtain ⟨cs,r,hb⟩:=ht _ _ _ _ _ _ rfl
   obtain ⟨r',hb'⟩:=hty _ _ _ hb
   rw [hb] at h3
   rw [hb']
   exact h3
  ·exact h3
  ·exact h3
  ·exact h3
  ·cases h3
 ·obtain ⟨cs,r,hb⟩:=ht b off n c z x e
  obtain ⟨r',hb'⟩:=hty _ _ _ hb
  exact ⟨cs,r',hb'⟩
theorem RowV.ro {H H':Heap} {v:AV} {l:List Int} (h1:∀ b cs r,H.get b=some (.cells cs ae r)->∃ r',H'.get b=some (.cells cs ae r')) (h2:∀ b cs r,H.get b=some (.cells cs ad r)->∃ r',H'.get b=some (.cells cs ad r')) (h:RowV H v l):RowV H' v l :=
 SlV.ro (E:=intE) (fun cs a ⟨w,e,hn⟩=>⟨w,e,SlV.ro (E:=bU cm) (H:=H) (H':=H') (fun cs a ⟨v,e,hv⟩=>⟨v,e,hv⟩) h1 hn⟩) h2 h
theorem Jd:∀ {x y:List Int},x.length=y.length->(DP x y<0 ↔ Lin.cmpV y x=false)
 | [],[],_=>by simp [DP,Bx,Lin.cmpV]
 | a :: x,b :: y,h=>by
  have ih:=Jd (x:=x) (y:=y) (by simpa using h)
  unfold DP at ih ⊢
  unfold Bx Lin.cmpV
  by_cases h1:a=b
  ·subst h1
   have e:iK (a-a)=0:=by rw [iv]; omega
   simp only [e,Int.lt_irrefl,if_false,if_true,ne_eq,not_true_eq_false]
   exact ih
  ·have e:iK (a-b)≠0:=fun h=>h1 (by rw [iv] at h; omega)
   rcases YS h1 with h2 | h2
   ·have e2:iK (a-b)<0:=by unfold iK; split <;> (try split) <;> omega
    have n1:¬ b<a:=by omega
    simp [e,e2,n1,Ne.symm h1]
   ·have e2:¬ iK (a-b)<0:=by unfold iK; split <;> (try split) <;> omega
    simp [e,e2,h2]
section
variable {tab:Nat->Option aw} {H:Heap} {s:AV}
theorem xv {f ty:Nat} {gs:List Nat} {fn:aw} (hf:tab f=some fn) (he:fn.ext=some (.sortF ty gs)) {args:List AV} {v:AV} {H':Heap} {Q:AV->Heap->Prop} (h:∃ N,∀ m n,N<=m->N<=n->BQ (l7 tab eU m n) ty gs H args=some (v,H')) (hq:Q v H'):Ans tab (.fn f args) H Q:=by
 obtain ⟨N,h⟩:=h
 refine ⟨v,H',⟨N+1,fun m n hm hn=>?_⟩,hq⟩
 obtain ⟨n',rfl⟩:∃ n',n=n'+1:=⟨n-1,by omega⟩
 show jQ tab eU (l7 tab eU m n') m (.fn f args) H=_
 simp only [jQ,hf,he]
 exact h m n' zO zO
theorem AK {g:Nat} {caps:List AV} {D:Heap} {x:AV}:∀ (l:List AV) (c:Nat->Int),(∀ j (h:j<l.length),Ans tab (.fn g ([x,l[j]]++caps)) D fun v _=>v=.int .i64 (c j))->∃ N,∀ m n,N<=m->N<=n->rt (l7 tab eU m n) g caps D x l=some ((List.range l.length).map c)
 | [],c,_=>⟨0,fun _ _ _ _=>rfl⟩
 | y :: l,c,h=>by
  obtain ⟨N,ih⟩:=AK l (fun j=>c (j+1)) fun j hj=>h (j+1) (by simpa using hj)
  obtain ⟨v,D',⟨N',h0⟩,hv⟩:=h 0 (by simp)
  simp only [Xk] at h0
  subst hv
  refine ⟨N+N',fun m n hm hn=>?_⟩
  simp only [rt,h0 m n zO zO,ih m n zO zO]
  rw [UH,Yo,TP,VX]
  rfl
theorem xX {g:Nat} {caps all:List AV} {D:Heap}:∀ (l:List AV) (c:Nat->Nat->Int),(∀ i (h:i<l.length) j (h':j<all.length),Ans tab (.fn g ([l[i],all[j]]++caps)) D fun v _=>v=.int .i64 (c i j)) ->
  ∃ N,∀ m n,N<=m->N<=n->sw (l7 tab eU m n) g caps D all l=some ((List.range l.length).map fun i=>(List.range all.length).map (c i))
 | [],c,_=>⟨0,fun _ _ _ _=>rfl⟩
 | x :: l,c,h=>by
  obtain ⟨N,ih⟩:=xX l (fun i=>c (i+1)) fun i hi j hj=>h (i+1) (by simpa using hi) j hj
  obtain ⟨N',h0⟩:=AK (tab:=tab) (g:=g) (caps:=caps) (D:=D) (x:=x) all (c 0) fun j hj=>h 0 (by simp) j hj
  refine ⟨N+N',fun m n hm hn=>?_⟩
  simp only [sw,h0 m n zO zO,ih m n zO zO]
  rw [UH,Yo,TP,VX]
  rfl
theorem BB {f g:Nat} {fn:aw} (hf:tab f=some fn) (he:fn.ext=some (.sortF af [g])) {H0:Heap} (hk:Kp H0 H) {v:AV} {R:List (List Int)} {d:Nat} (hb:Bl rowsE af H0 H v R) (hd:∀ r∈R,r.length=d) (hn:R.Nodup) (hbig:R.length<1099511627776)
  (hc:∀ D a b,Wf D->∀ x∈R,∀ y∈R,RowV D a x->RowV D b y->Ans tab (.fn g [a,b]) D fun v _=>v=.int .i64 (DP x y)) :
  Ans tab (.fn f [v,.fn (.func g) [] []]) H fun v' H'=>v'=.tup []/\Kp H0 H'/\Bl rowsE af H0 H' v (R.mergeSort Lin.cmpV):=by
 rcases hb with ⟨rfl,rfl⟩ | ⟨b,cells,rfl,hgb,hcl,hb0⟩
 ·exact xv hf he ⟨0,fun m n _ _=>rfl⟩ ⟨rfl,hk,.inl ⟨rfl,by simp⟩⟩
 ·rcases VO R.length with h0 | h0
  ·have hR:=U3.1 h0
   subst hR
   exact xv hf he ⟨0,fun m n _ _=>rfl⟩ ⟨rfl,hk,.inr ⟨b,cells,by simp,hgb,by simpa using hcl,hb0⟩⟩
  ·have hlt:=hk.wf _ _ hgb
   have hw:=hk.wf
   have hcn:cells.length=R.length:=by have:=hcl.1; simpa [bU] using this
   have hones:=hcl.ones
   obtain ⟨D,hD⟩:∃ D,D=(H.kill b).ro:=⟨_,rfl⟩
   have hDg:∀ c,c<H.next->c≠b->D.get c=Lu (H.get c):=fun c hc hne=>by
    rw [hD,Heap.get_ro,cZ hne]
    exact if_pos (Ue hc (Nat.le_max_left _ _))
   have hDw:Wf D:=fun c e h=>by
    rw [hD,Heap.get_ro] at h
    rw [hD]
    show c<H.next
    split at h
    ·by_cases hcb:c=b
     ·omega
     ·rw [cZ hcb] at h
      cases hg:H.get c with
      | none=>rw [hg] at h; cases h
      | some e'=>exact hw _ _ hg
    ·by_cases hcb:c=b
     ·omega
     ·rw [cZ hcb] at h
      exact hw _ _ h
   have hro:∀ ty,ty≠af->∀ c cs r,H.get c=some (.cells cs ty r)->∃ r',D.get c=some (.cells cs ty r'):=fun ty hty c cs r hc=>by
    refine ⟨false,?_⟩
    rw [hDg c (hw _ _ hc) (fun e=>by rw [e,hgb] at hc; cases hc; exact hty rfl),hc]
    rfl
   have hrow:∀ i (h:i<R.length),RowV D (cells[i]'zO) R[i]:=fun i h=>by
    obtain ⟨w,h1,h2⟩:=hcl.at1 h
    have e:w=cells[i]'zO:=by
     unfold bH at h1
     simpa [hcn,h] using h1.symm
    rw [<- e]
    exact RowV.ro (hro _ zU) (hro _ zU) h2
   obtain ⟨N,hN⟩:=xX (tab:=tab) (g:=g) (caps:=[]) (all:=cells) (D:=D) cells (fun i j=>DP (R.getD i []) (R.getD j [])) fun i hi j hj=>by
    have hi':i<R.length:=by omega
    have hj':j<R.length:=by omega
    have e1:R.getD i []=R[i]:=by simp [hi']
    have e2:R.getD j []=R[j]:=by simp [hj']
    rw [e1,e2]
    exact hc D _ _ hDw _ (TM hi') _ (TM hj') (hrow i hi') (hrow j hj')
   obtain ⟨M,hM⟩:∃ M,M=(List.range cells.length).map fun i=>(List.range cells.length).map fun j=>DP (R.getD i []) (R.getD j []):=⟨_,rfl⟩
   have hMat:∀ i j (hi:i<R.length) (hj:j<R.length),Lv M i j = !Lin.cmpV R[j] R[i]:=fun i j hi hj=>by
    have e1:(M.getD i []).getD j 0=DP R[i] R[j]:=by
     rw [hM]
     simp [hcn,hi,hj]
    unfold Lv
    rw [e1,UP,decide_eq_true_eq,UT]
    exact Jd ((hd _ (TM hi)).trans (hd _ (TM hj)).symm)
   have hord:PX M R.length:=by
    refine ⟨fun i hi=>?_,fun i hi j hj=>?_,fun i hi j hj k hk h1 h2=>?_⟩
    ·rw [hMat i i hi hi,Lin.cmpV_refl]; rfl
    ·by_cases hij:i=j
     ·exact .inl hij
     ·right
      rw [hMat i j hi hj,hMat j i hj hi]
      have ht:=Lin.cmpV_total R[i] R[j]
      have ha:=Lin.cmpV_antisymm R[i] R[j]
      have hne:R[i]≠R[j]:=fun e=>hij ((List.getElem_inj hn).1 e)
      cases h1:Lin.cmpV R[i] R[j] <;> cases h2:Lin.cmpV R[j] R[i]
      ·rw [h1,h2] at ht; cases ht
      ·rfl
      ·rfl
      ·exact absurd (ha h1 h2) hne
    ·rw [hMat i j hi hj] at h1
     rw [hMat j k hj hk] at h2
     rw [hMat i k hi hk]
     rw [UT] at h1 h2 ⊢
     cases h3:Lin.cmpV R[k] R[i] with
     | false=>rfl
     | true =>
      have ht:=Lin.cmpV_total R[i] R[j]
      rw [h1,Yg] at ht
      have:=Lin.cmpV_trans _ _ _ h3 ht
      rw [this] at h2; cases h2
   have hsorted:(lB M R.length).map (fun i=>R.getD i.val [])=R.mergeSort Lin.cmpV:=by
    unfold lB
    rw [List.map_mergeSort (s:=Lin.cmpV) (fun i _ j _=>by
     have e1:R.getD i.val []=R[i.val]:=by simp
     have e2:R.getD j.val []=R[j.val]:=by simp
     rw [e1,e2,hMat _ _ j.isLt i.isLt,Bool.not_not])]
    congr 1
    apply VE
    ·simp
    ·intro i h1 h2
     simp [h2]
   have hlen:(lB M R.length).length=R.length:=by unfold lB; rw [Xo,Yv]
   refine xv (v:=.tup []) (H':=H.put b (.cells ((lB M R.length).map fun i=>cells.getD i.val .undef) af true)) hf he ⟨N,fun m n hm hn=>?_⟩ ⟨rfl,hk.put hb0 hlt,.inr ⟨b,(lB M R.length).map fun i=>cells.getD i.val .undef,?_,aq _ _ _,?_,hb0⟩⟩
   ·have hN':=hN m n hm hn
    rw [<- hM] at hN'
    show BQ _ _ _ H [.own b 0 R.length R.length 1 false,.fn (.func g) [] []]=_
    simp only [BQ,hgb]
    rw [if_neg zO,if_pos ⟨trivial,trivial,trivial,hcn,h0,by omega,by simp,hones⟩,<- hD,hN']
    simp only
    rw [if_pos hord]
   ·rw [Xo]
   ·rw [<- hsorted]
    refine ⟨by simp [bU],fun i a hi=>?_⟩
    rw [UM,TU] at hi
    obtain ⟨p,hp,rfl⟩:=hi
    obtain ⟨hi,hpe⟩:=TZ.1 hp
    have e1:((((lB M R.length).map fun i=>cells.getD i.val .undef).drop (i*1)).take 1)=[cells.getD p.val .undef]:=by
     apply Vp
     intro t
     cases t with
     | zero=>simp [hi,hpe]
     | succ t=>simp; omega
    refine ⟨cells.getD p.val .undef,e1,?_⟩
    have e2:R.getD p.val []=R[p.val]:=by simp
    have e3:cells.getD p.val .undef=cells[p.val]'(by have:=p.isLt; omega):=by have:=p.isLt; simp [hcn]
    rw [e2,e3]
    obtain ⟨w,h1,h2⟩:=hcl.at1 p.isLt
    have e:w=cells[p.val]'(by have:=p.isLt; omega):=by
     unfold bH at h1
     have:=p.isLt
     simpa [hcn,this] using h1.symm
    rw [<- e]
    exact Zw (E:=intE) (ZD (ZE _ _) (Zp hgb zU)) h2
end
theorem Frm.wr {H0 H H':Heap} {v w:AV} {l m:List (List Int)} {c:Nat} (hf:Frm v H H') (h:Bl rowsE af H0 H v l) (hw:Wr H0 H w m c) (hs:Sep v w):Wr H0 H' w m c:=by
 rcases hw with hw | ⟨b,cells,h1,h2,h3,h4,h5,h6⟩
 ·exact .inl hw
 ·exact .inr ⟨b,cells,h1,hf b _ h2 (fun e=>hs b e (by rw [h1]; rfl)),h3,h4,h5.mono (hf.subT h zU),h6⟩
theorem Hp {α:Type} (p:α->Bool) (l:List α):(nF p l<0/\l.findIdx? p=none)\/∃ i:Nat,nF p l=(i:Int)/\l.findIdx? p=some i:=by
 unfold nF
 cases h:l.findIdx? p with
 | none=>exact .inl ⟨by simp,rfl⟩
 | some i=>exact .inr ⟨i,rfl,rfl⟩
section
variable {tab:Nat->Option aw} {H:Heap} {s:AV}
theorem FC (C:Code tab) (hw:Wf H) {w va:AV} {r a:List Int} {bx e f:Nat} (hr:RowV H w r) (hb:H.get bx=some (.cells [va] af true)) (ha:RowV H va a) (hra:a.length=r.length) (h64:a.length<=64) (hae:∀ z∈a,Bt e z) (hrf:∀ z∈r,Bt f z) (hbt:e+f+7<=8796093022208) :
  Ans tab (.fn fY [w,.ptr bx 0]) H fun v H'=>v=.bool (!decide (Lin.dot a r=0))/\Kp H H':=by
 refine bz C.q111 zU fun T hl g0 g1=>?_
 refine zW (aX hl g0 g1 hb) ?_
 refine Y5 (vu C zF (ha.mono (zG H)) (hr.mono (zG H)) hra h64 hae hrf hbt) ?_
 rintro v H2 ⟨hr2,hk2⟩
 obtain ⟨k2,_,w2⟩:=zT H zK hk2
 refine zW (aD hl g0 g1) ?_
 refine Y4 (xg C (z:=Lin.dot a r) zF (hr2.mono (zG H2)) ((pO hae hrf hra h64).sm hbt)) fun H3 hk3=>?_
 have k3:Kp H H3:=Zi k2 (Zi zK hk3)
 have le_k3:=k3.le
 refine zW (aD hl g0 g1) ?_
 refine ⟨?_,zK⟩
 congr 1
 rw [UP]
 simp [iv]
theorem FD (C:Code tab) {H0:Heap} {ub:Nat} {u:Lin.Under} {va:AV} {a:List Int} {eq:Bool} {d e f:Nat} (hk:Kp H0 H) (hub0:H0.next<=ub) (hu:UnderV H0 H ub u) (ha:RowV H0 va a) (hd0:0<d) (hd:d<=64) (hal:a.length=d) (hL:∀ r∈u.lines,r.length=d/\∀ z∈r,Bt f z) (hR:∀ r∈u.rays,r.length=d/\∀ z∈r,Bt f z) (hD:∀ r∈u.done,r.length=d/\∀ z∈r,Bt e z) (hD1:u.done.length<=1024) (hae:∀ z∈a,Bt e z) (hb:2*(e+f+7)+2*f+1<=8796093022208) (hbigL:u.lines.length<=1048576) (hbig:u.rays.length<=1099000000000) (hnx:(Lin.addU a eq u).rays.length<=1099000000000) :
  Ans tab (.fn cT [.ptr ub 0,va,.bool eq]) H fun v H'=>v=.tup []/\Kp H0 H'/\UnderV H0 H' ub (Lin.addU a eq u):=by
 have hw:=hk.wf
 have hle:=hk.le
 have oa:=ha.one
 have haH:=ha.mono hk.sub
 have hu0:=hu
 obtain ⟨ql,qr,qd,cl,hub,hql,hqr,hqd,s1,s2,s3⟩:=hu
 have lub:=hw _ _ hub
 refine BA C.q84 rfl rfl zU fun T hl g=>?_
 have hl:T.length=48:=hl
 have hrs:c_P_cone_under_add.results=[]:=rfl
 have g0:aa T 0=.ptr ub 0:=g 0 (by simp)
 have g1:aa T 1=va:=g 1 (by simp)
 have g2:aa T 2=.bool eq:=g 2 (by simp)
 refine aP ?_
 refine zW (bS hl g0 g1 g2 @au) ?_
 refine aP ?_
 refine zW (dV hl g0 g1 g2 @au hub) ?_
 refine Y4 (rM C (l:=u.lines) zF (hql.sl.mono (zG H)) zO (fun r=>!decide (Lin.dot a r=0)) (fun r hr H' w hk' hw'=>FC C hk'.wf hw' (hk'.get (cP)) (haH.mono (Zh (H:=H) (Zi zK hk'))) (by rw [hal]; exact (hL r hr).1.symm) zO hae (hL r hr).2 zO)) fun H2 hk2=>?_
 obtain ⟨k2,_,w2⟩:=zT H zK hk2
 have hbx:H2.get H.next=some (.cells [va] af true):=hk2.get (cP)
 have hub2:=k2.get hub
 have n2:H.next+8<=H2.next:=hk2.le
 have k02:Kp H0 H2:=hk.trans k2
 have le_k02:=k02.le
 have hu2:UnderV H0 H2 ub u:=hu0.mono k2.sub
 refine zW (bS hl g0 g1 g2 @au) ?_
 refine dl (fun T' H'=>Kp H0 H'/\UnderV H0 H' ub ⟨(Lin.addU a eq u).lines,(Lin.addU a eq u).rays,u.done⟩/\H'.get H.next=some (.cells [va] af true)) rfl ?_ ?_
 ·rcases Hp (fun r=>!decide (Lin.dot a r=0)) u.lines with ⟨hneg,hf⟩ | ⟨i,hi,hf⟩
  ·have hcl:(Lin.cutL u.done a eq u.rays).length<=1099000000000:=by
    have e:Lin.addU a eq u=⟨u.lines,Lin.cutL u.done a eq u.rays,u.done++if eq then [] else [a]⟩:=by unfold Lin.addU; rw [hf]
    rw [e] at hnx
    exact hnx
   refine zW (dV hl g0 g1 g2 hneg hbx) ?_
   refine Y5 (NH C (u:=u) (H0:=H0) zK hub0 (hu2.mono (ZB H2 _)) (haH.mono (zG H)) hd0 hd hal hR hD hD1 hae hb hbig hcl) ?_
   rintro v H3 ⟨rfl,hk3,hu3,ho3⟩
   refine zW (aC hl @aW) ?_
   refine ⟨zK,?_,ho3 _ _ hbx zO⟩
   have e:Lin.addU a eq u=⟨u.lines,Lin.cutL u.done a eq u.rays,u.done++if eq then [] else [a]⟩:=by unfold Lin.addU; rw [hf]
   rw [e]
   exact hu3
  ·obtain ⟨hil,-,-⟩:=UJ.1 hf
   have hnn:¬ ((i:Int)<0):=by omega
   have gi:u.lines.getD i []=u.lines[i]:=by simp [hil]
   refine zW (gh hl g0 g1 g2 hi hnn hbx) ?_
   refine Y5 (K4 C (u:=u) (H0:=H0) (k02.up _) hub0 (hu2.mono (ZB H2 _)) (haH.mono (Zh (k2.up _))) hil hd hal hL hR hae hb zO zO) ?_
   rintro v H3 ⟨hk3,hrv,hu3,ho3,hq3⟩
   have w3:=hk3.wf
   have le_hk3:=hk3.le
   have orv:=hrv.one
   have hbx3:H3.get H.next=some (.cells [va] af true):=ho3 _ _ hbx zO fun q1 q2 q3 h=>by
    have h':H2.get ub=some (.cells [q1,q2,q3] aQ true):=h
    rw [hub2] at h'
    cases h'
    intro hq
    have:=hqr.old hw hq
    omega
   have e:Lin.addU a eq u=⟨(u.lines.eraseIdx i).map (Lin.foldV a (Lin.upV a u.lines[i])),u.rays.map (Lin.foldV a (Lin.upV a u.lines[i]))++(if eq then [] else [Lin.upV a u.lines[i]]),u.done++if eq then [] else [a]⟩:=by
    unfold Lin.addU; rw [hf]; simp only [gi]
   rw [e]
   cases eq with
   | true =>
    refine zW (bS hl g0 g1 g2 @aW) ?_
    refine ⟨zK,?_,hbx3⟩
    try simp only [if_true,Vi]
    exact hu3.mono (ZB H3 2)
   | false =>
    obtain ⟨q1',hq1⟩:=hq3 ql qr qd hub2
    obtain ⟨ql3,qr3,qd3,cl3,hub3,hql3,hqr3,hqd3,t1,t2,t3⟩:=hu3
    have hub3':H3.get ub=some (.cells [ql3,qr3,qd3] aQ true):=hub3
    rw [hq1] at hub3'
    cases hub3'
    have lub3:=w3 _ _ hub3
    have lbx3:=w3 _ _ hbx3
    have hqr3:Wr H0 H3 qr (u.rays.map (Lin.foldV a (Lin.upV a u.lines[i]))) (u.rays.map (Lin.foldV a (Lin.upV a u.lines[i]))).length:=hqr3
    have hrl:(u.rays.map (Lin.foldV a (Lin.upV a u.lines[i]))).length=u.rays.length:=by simp
    obtain ⟨n6,H6,e6,b6,k6,nx6,f6,u6⟩:=Y6 (ty2:=af) (bytes:=24) (id:=H3.next+9) (id2:=H3.next+8) (k:=13) (cs:=[v]) (a:=Lin.upV a u.lines[i]) hqr3.bl zU hk3 ⟨v,rfl,hrv⟩ zO zO zO zO zO zO zO
    have e6':cM ((H3.up 13).put (H3.next+8) (.cells [v] af true)) (H3.next+9) 1 24 af qr (.own (H3.next+8) 0 1 1 1 true)=some (.own (H3.next+9) 0 n6 n6 1 false,H6):=e6
    have hub6:=f6.other hqr3.bl hub3 (fun cs h=>by injection h with _ h2; exact absurd h2 zU)
    have lub6:=k6.wf _ _ hub6
    have w6:=k6.wf
    have hst:Eo (some (.cells [q1',qr,qd] aQ true)) 1 1 (.own (H3.next+9) 0 n6 n6 1 false)=some (.cells [q1',.own (H3.next+9) 0 n6 n6 1 false,qd] aQ true):=jd (bp _ _ _ _ _ _).fits (by simp)
    refine zW (ko hl g0 g1 g2 hub3 e6' hub6 hst @aW) ?_
    refine ⟨zK,⟨q1',.own (H3.next+9) 0 n6 n6 1 false,qd,cl3,aq _ _ _,(f6.wr hqr3.bl hql3 t1.symm).putT hub6 zU zU,?_,(f6.wr hqr3.bl hqd3 t3).putT hub6 zU zU,fun x hx hy=>?_,t2,fun x hx hy=>?_⟩,?_⟩
    ·simp only [UN,if_false]
     exact b6.wr.putT (e:=.cells [q1',.own (H3.next+9) 0 n6 n6 1 false,qd] aQ true) hub6 zU zU
    ·cases hy
     have:=hql3.old w3 hx
     omega
    ·cases hx
     have:=hqd3.old w3 hy
     omega
    ·try rw [aA zO]
     refine f6 _ _ hbx3 fun h=>?_
     have:=hqr.old hw h
     omega
 ·rintro T1 H1 hs1 ⟨k1,hu1,hbx1⟩
  have w1:=k1.wf
  have t0:aa T1 0=.ptr ub 0:=(hs1.at_ 0 zU).trans (zV (aC hl g0))
  have t2:aa T1 2=.bool eq:=(hs1.at_ 2 zU).trans (zV (aC hl g2))
  have t4:aa T1 4=.ptr H.next 0:=(hs1.at_ 4 zU).trans (zV hl)
  have hl1:T1.length=48:=hs1.len.trans (by simp only [TH]; exact hl)
  have e:Lin.addU a eq u=⟨(Lin.addU a eq u).lines,(Lin.addU a eq u).rays,u.done++if eq then [] else [a]⟩:=by
   unfold Lin.addU; split <;> rfl
  rw [e]
  refine WC.wb ?_
  cases eq with
  | true =>
   refine zW (aD hl1 t2 hrs) ?_
   refine ⟨zK,?_⟩
   try simp only [if_true,Vi]
   exact hu1.mono (ZB H1 2)
  | false =>
   obtain ⟨ql3,qr3,qd3,cl3,hub3,hql3,hqr3,hqd3,s1',s2',s3'⟩:=hu1
   have lub3:=w1 _ _ hub3
   obtain ⟨n6,H6,e6,b6,k6,nx6,f6,u6⟩:=Y6 (ty2:=af) (bytes:=24) (id:=H1.next+9) (id2:=H1.next+8) (k:=13) (cs:=[va]) (a:=a) hqd3.bl zU k1 ⟨va,rfl,ha.mono k1.sub⟩ zO zO zO zO zO (by simp only; omega) (by simp only; omega)
   have e6':cM ((H1.up 13).put (H1.next+8) (.cells [va] af true)) (H1.next+9) 1 24 af qd3 (.own (H1.next+8) 0 1 1 1 true)=some (.own (H1.next+9) 0 n6 n6 1 false,H6):=e6
   have hub6:=f6.other hqd3.bl hub3 (fun cs h=>by injection h with _ h2; exact absurd h2 zU)
   have lub6:=k6.wf _ _ hub6
   have w6:=k6.wf
   refine zW (aC hl1 t2) ?_
   refine aI ?_
   have hst:Eo (some (.cells [ql3,qr3,qd3] aQ true)) 1 2 (.own (H1.next+9) 0 n6 n6 1 false)=some (.cells [ql3,qr3,.own (H1.next+9) 0 n6 n6 1 false] aQ true):=jd (bp _ _ _ _ _ _).fits (TO 3)
   refine zD (qi hl1 t0 t4 hub3 hbx1 e6' hub6 hst @aT hrs) ?_
   refine ⟨zK,⟨ql3,qr3,.own (H1.next+9) 0 n6 n6 1 false,cl3,aq _ _ _,(f6.wr hqd3.bl hql3 s2'.symm).putT hub6 zU zU,(f6.wr hqd3.bl hqr3 s3'.symm).putT hub6 zU zU,?_,s1',fun x hx hy=>?_,fun x hx hy=>?_⟩⟩
   ·simp only [UN,if_false]
    exact b6.wr.putT (e:=.cells [ql3,qr3,.own (H1.next+9) 0 n6 n6 1 false] aQ true) hub6 zU zU
   ·cases hy
    have:=hql3.old w1 hx
    omega
   ·cases hy
    have:=hqr3.old w1 hx
    omega
end
section
variable {tab:Nat->Option aw} {H:Heap} {s:AV}
theorem NI (C:Code tab) (hw:Wf H) {d:Nat} (hd:d<=64):Ans tab (.fn tU [.int .i64 (d:Int)]) H fun v H'=>Bl rowsE af H H' v (Lin.startU d).lines/\Kp H H':=by
 refine cU C.q83 zU fun T hl g0=>?_
 refine zW (aC hl g0) ?_
 refine am H [2] (fun j vs H'=>∃ o,vs=[o]/\Bl rowsE af H H' o ((List.range j).map (Lin.unitV d))) (a:=0) (N:=d) rfl (by refine zW (aC hl g0) ?_; rfl) (zV (aC hl g0)) (TY _) zO (by simp only [TH,hl]; rfl) rfl (fun j vs H' m ⟨o,h1,h2⟩=>⟨o,h1,h2.mono (ZB H' m)⟩) zK ⟨.nilSl,by exact zV (aC hl g0),Bl.nil⟩ ?_ ?_
 ·rintro j T1 H1 _ hj hl1 hi1 hs1 hk1 ⟨o,hv,ho⟩
  have w1:=hk1.wf
  have le_hk1:=hk1.le
  have le1:=hk1.le
  simp only [TP,TV,TR,and_true] at hv
  have t0:aa T1 0=.int .i64 (d:Int):=(hs1.at_ 0 zU).trans (zV (aC hl g0))
  simp only [TH,hl] at hl1
  obtain ⟨cells,hcells⟩:∃ cells,cells=(List.replicate d [AV.bool false,AV.nilSl]).flatten:=⟨_,rfl⟩
  have hmk:∀ H':Heap,IF H' (H1.next+3) ad 2 32 [.bool false,.nilSl] (.int .i64 (d:Int)) (.int .i64 (d:Int))=some (.own (H1.next+3) 0 d d 2 true,H'.put (H1.next+3) (.cells cells ad true)):=fun H'=>by rw [hcells]; exact jt _ _ _ _ _ _ _ _ _ zO zO rfl
  refine zW (aX hl1 t0 hi1 hmk) ?_
  refine Y5 (oH C (n:=1) zF zO zO) ?_
  rintro v H2 ⟨⟨w,rfl,hn⟩,hk2⟩
  obtain ⟨k2,_,w2⟩:=zT H1 zK hk2
  have ow:=hn.one
  have hb2:=hk2.get (b:=H1.next+3) (e:=.cells cells ad true) (cP)
  have lt2:=w2 _ _ hb2
  have hclen:cells.length=d*2:=by rw [hcells]; simp
  have hst:Eo (some (.cells cells ad true)) 2 (0+j*2) (.agg [.bool false,w])=some (.cells (cells.take (0+j*2)++[.bool false,w]++cells.drop (0+j*2+2)) ad true):=jd (Fk (aR _) ow) zO
  have hio:cw 2 (.own (H1.next+3) 0 d d 2 true) (.int .i64 (j:Int))=some (.ptr (H1.next+3) (0+j*2)):=nE hj
  rw [Ut] at hst hio
  obtain ⟨cells2,hc2⟩:∃ c,c=cells.take (j*2)++[.bool false,w]++cells.drop (j*2+2):=⟨_,rfl⟩
  rw [<- hc2] at hst
  have hz:intE.R H2 [.bool false,.nilSl] 0:=⟨.nilSl,by simp,fM H2⟩
  have hcl:Cells intE H2 cells (List.replicate d 0):=by rw [hcells]; exact rW hz _
  have hcl2:Cells intE H2 cells2 ((List.replicate d 0).set j 1):=by rw [hc2]; exact hcl.set (i:=j) (by simpa using hj) ⟨w,rfl,hn⟩
  have m3:NoTy [ae] H2 (H1.next+3):=Zp hb2 zU
  obtain ⟨Hx,hHx⟩:∃ Hx,Hx=H2.put (H1.next+3) (.cells cells2 ad true):=⟨_,rfl⟩
  have kx:Kp H1 Hx:=by rw [hHx]; exact zK
  have k0x:Kp H Hx:=hk1.trans kx
  have nx:Hx.next=H2.next:=by rw [hHx]; rfl
  have hclx:Cells intE Hx cells2 ((List.replicate d 0).set j 1):=by rw [hHx]; exact Y8 (E:=intE) zS hcl2
  have hrow:RowV Hx (.own (H1.next+3) 0 d d 2 true) (Lin.unitV d j):=by
   have:Own intE ad H1 Hx (H1.next+3) true (.own (H1.next+3) 0 d d 2 true) ((List.replicate d 0).set j 1):=⟨cells2,by simp [intE],by rw [hHx]; exact aq _ _ _,hclx,by omega⟩
   exact this.sl
  have orr:=hrow.one
  obtain ⟨n6,H6,e6,b6,k6,nx6,f6,u6⟩:=Y6 (ty2:=af) (bytes:=24) (id:=Hx.next+3) (id2:=Hx.next+2) (k:=5) (cs:=[.own (H1.next+3) 0 d d 2 true]) (a:=Lin.unitV d j) (ho.mono kx.sub) zU k0x ⟨_,rfl,hrow⟩ zO zO zO zO zO (by simp; omega) (by simp; omega)
  have e6':cM ((((H2.up 5).put (H1.next+3) (.cells cells2 ad true))).put (H2.next+2) (.cells [.own (H1.next+3) 0 d d 2 true] af true)) (H2.next+3) 1 24 af o (.own (H2.next+2) 0 1 1 1 true)=some (.own (H2.next+3) 0 n6 n6 1 false,H6):=by rw [hHx] at e6; exact e6
  rw [nx] at b6
  refine zW (dV hl1 hio hb2 hst hv e6') ?_
  refine ⟨k6,_,rfl,?_⟩
  rw [Yq,UK]
  exact b6
 ·rintro T1 H1 hl1 hs1 hk1 ⟨o,hv,ho⟩
  have w1:=hk1.wf
  have le_hk1:=hk1.le
  simp only [TP,TV,TR,and_true] at hv
  simp only [TH,hl] at hl1
  refine zW (aC hl1 hv) ?_
  exact ⟨ho,hk1⟩
abbrev TB (H:Heap) (v:AV) (Ls:List (List (List Int))):Prop:=yT (sO rowsE af) CV H v Ls
theorem K3 (C:Code tab) (hw:Wf H) {Ls:List (List (List Int))} {d:Nat} (hs:TB H s Ls) (hbig:Ls.length<1099511627776) (hd:∀ L∈Ls,∀ r∈L,r.length=d):Ans tab (.fn re [s]) H fun v H'=>v=.int .i64 (if Ls.any (fun L=>!L.isEmpty) then (d:Int) else -1)/\Kp H H':=by
 refine cU C.q82 zU fun T hl g0=>?_
 refine zW (aD hl g0 hs.lenV) ?_
 refine am H [] (fun j _ _=>∀ k (h:k<Ls.length),k<j->Ls[k]=[]) (a:=0) (N:=Ls.length) rfl (by refine zW (aC hl g0) ?_; rfl) (zV (aC hl g0)) (TY _) zO (by simp only [TH,hl]; rfl) rfl (fun _ _ _ _ h=>h) zK (fun k _ h=>by omega) ?_ ?_
 ·intro j T1 H1 _ hj hl1 hi1 hs1 hk1 hP
  have w1:=hk1.wf
  have le_hk1:=hk1.le
  have t5:aa T1 5=s:=(hs1.at_ 5 zU).trans (zV (aC hl g0))
  obtain ⟨w,hr,hld⟩:=Zt (hs.mono hk1.sub) (TL hj)
  have hr:dQ H1 w Ls[j]:=hr
  have hix:=Zv hs .i64 j hj
  simp only [TH,hl] at hl1
  rcases VO (Ls[j]).length with h0 | h0
  ·have he:=U3.1 h0
   have hlv:lenV w=some (.int .i64 0):=by rw [hr.lenV,h0]; rfl
   refine zW (dV hl1 t5 hi1 hix hld hlv) ?_
   refine ⟨zK,fun k h hk=>?_⟩
   by_cases e:k=j
   ·subst e; exact he
   ·exact hP k h zO
  ·obtain ⟨w0,hr0,hld0⟩:=dw hr h0
   have hix0:cw 1 w (.int .i64 0)=some (az w 0):=Zv hr .i64 0 h0
   have l0:lenV w0=some (.int .i64 (d:Int)):=by rw [hr0.lenV,hd _ (TM hj) _ (TM h0)]
   have hpos:(0:Int)<((Ls[j]).length:Int):=by omega
   refine zW (oF hl1 t5 hi1 hix hld hr.lenV hpos h0 hix0 hld0 l0) ?_
   refine ⟨?_,zK⟩
   rw [if_pos]
   rw [Uv]
   exact ⟨_,TM hj,by cases h:Ls[j] with | nil=>rw [h] at h0; simp at h0 | cons a l=>rfl⟩
 ·intro T1 H1 hl1 hs1 hk1 hP
  simp only [TH,hl] at hl1
  refine zW hl1 ?_
  refine ⟨?_,zK⟩
  rw [if_neg]
  rw [Xu,Vh]
  intro L hL
  obtain ⟨k,hk,rfl⟩:=UY hL
  rw [hP k hk hk]; simp
def gK (A B:List (List (Bool × List Nat))):Int :=
 if cG A≠0 then cG A else if cG B≠0 then cG B else if A≠[]/\B≠[]/\(A.getD 0 []).length≠(B.getD 0 []).length then 70 else 0
theorem DN (C:Code tab) (hw:Wf H) {va vb:AV} {A B:List (List (Bool × List Nat))} (ha:N4 H va A) (hb:N4 H vb B) (hA:A.length<1099511627776) (hB:B.length<1099511627776) (ba:∀ r∈A,xp r) (bb:∀ r∈B,xp r) :
  Ans tab (.fn mQ [va,vb]) H fun v H'=>v=.int .i64 (gK A B)/\Kp H H':=by
 have oa:=ha.one
 have ob:=hb.one
 refine BA C.q81 rfl rfl zU fun T hl g=>?_
 have hl:T.length=39:=hl
 have hrs:c_cone_checked.results=[(4,none)]:=rfl
 have g0:aa T 0=va:=g 0 (by simp)
 have g1:aa T 1=vb:=g 1 (by simp)
 refine aP ?_
 refine zW (aX hl g0 g1 @au) ?_
 refine dl (fun T' H'=>cG A=0/\cG B=0/\Kp H H') rfl ?_ ?_
 ·refine zW (aD hl g0 g1) ?_
  refine cp H [11] (fun k vs H'=>∃ i:Nat,vs=[.int .i64 (i:Int)]/\i+k=2/\(1<=i->cG A=0)/\(2<=i->cG B=0)) 2 (by simp only [TH]; exact hl) rfl zK ⟨0,by refine zW hl ?_; rfl,rfl,by omega,by omega⟩ ?_
  rintro k T1 H1 hl1 hs1 hk1 ⟨i,hv,hik,hc1,hc2⟩
  have w1:=hk1.wf
  have le_hk1:=hk1.le
  simp only [TP,TV,TR,and_true] at hv
  have t10:aa T1 10=.agg [va,vb]:=(hs1.at_ 10 zU).trans (zV (aD hl g0 g1))
  have:i=0\/i=1\/i=2:=by omega
  rcases this with rfl | rfl | rfl
  ·have hv:aa T1 11=.int .i64 0:=hv
   refine zW (aD hl1 hv t10) ?_
   refine Y4 (tD C zF (ha.mono (zG H)) zO ba) fun H2 hk2=>?_
   obtain ⟨k2,_,w2⟩:=zT H zK hk2
   by_cases h:cG A=0
   ·refine zW (aD hl1 hv h) ?_
    exact ⟨zK,1,by omega,1,rfl,rfl,(by first | exact fun _=>h | exact fun _=>trivial),by omega⟩
   ·refine zW (bS hl1 hv h @vp hrs) ?_
    exact ⟨by unfold gK; rw [if_pos h],zK⟩
  ·have hv:aa T1 11=.int .i64 1:=hv
   refine zW (aD hl1 hv t10) ?_
   refine Y4 (tD C zF (hb.mono (zG H)) zO bb) fun H2 hk2=>?_
   obtain ⟨k2,_,w2⟩:=zT H zK hk2
   have hA0:=hc1 zO
   by_cases h:cG B=0
   ·refine zW (aD hl1 hv h) ?_
    exact ⟨zK,0,by omega,2,rfl,rfl,(by first | exact fun _=>hA0 | exact fun _=>trivial),(by first | exact fun _=>h | exact fun _=>trivial)⟩
   ·refine zW (bS hl1 hv h @vp hrs) ?_
    refine ⟨?_,zK⟩
    unfold gK
    rw [if_neg (by simpa using hA0),if_pos h]
  ·have hv:aa T1 11=.int .i64 2:=hv
   refine zW (aX hl1 hv t10 @aW) ?_
   exact ⟨hc1 zO,hc2 zO,zK⟩
 ·rintro T1 H1 hs1 ⟨c1,c2,k1⟩
  have w1:=k1.wf
  have t0:aa T1 0=va:=(hs1.at_ 0 zU).trans (zV (aC hl g0))
  have t1:aa T1 1=vb:=(hs1.at_ 1 zU).trans (zV (aC hl g1))
  have hl1:T1.length=39:=hs1.len.trans (by simp only [TH]; exact hl)
  have hcode:gK A B=if A≠[]/\B≠[]/\(A.getD 0 []).length≠(B.getD 0 []).length then 70 else 0:=by
   unfold gK
   rw [if_neg (by simpa using c1),if_neg (by simpa using c2)]
  refine WC.wb ?_
  refine zW (aD hl1 t0 t1) ?_
  rcases VO A.length with a0 | a0
  ·have hlA:lenV va=some (.int .i64 0):=by rw [ha.lenV,a0]; rfl
   have hA0:=U3.1 a0
   refine aI ?_
   refine zD (dV hl1 t0 t1 hlA hrs @aT) ?_
   exact ⟨by rw [hcode,if_neg (fun h=>h.1 hA0)],zK⟩
  ·have posA:(0:Int)<(A.length:Int):=by omega
   have hAn:A≠[]:=fun e=>by rw [e] at a0; simp at a0
   rcases VO B.length with b0 | b0
   ·have hlB:lenV vb=some (.int .i64 0):=by rw [hb.lenV,b0]; rfl
    have hB0:=U3.1 b0
    refine aI ?_
    refine zD (ko hl1 t0 t1 ha.lenV posA a0 hlB hrs @aT) ?_
    exact ⟨by rw [hcode,if_neg (fun h=>h.2.1 hB0)],zK⟩
   ·have posB:(0:Int)<(B.length:Int):=by omega
    have hBn:B≠[]:=fun e=>by rw [e] at b0; simp at b0
    obtain ⟨wa,hra,hlda⟩:=zL (ha.mono k1.sub) a0
    obtain ⟨wb,hrb,hldb⟩:=zL (hb.mono k1.sub) b0
    have xa:cw 1 va (.int .i64 0)=some (az va 0):=Zv ha .i64 0 a0
    have xb:cw 1 vb (.int .i64 0)=some (az vb 0):=Zv hb .i64 0 b0
    have la:=hra.lenV
    have lb:=hrb.lenV
    have ga:A.getD 0 []=A[0]:=by simp [a0]
    have gb:B.getD 0 []=B[0]:=by simp [b0]
    by_cases he:A[0].length=B[0].length
    ·have he':((A[0].length:Nat):Int)=((B[0].length:Nat):Int):=by omega
     refine aI ?_
     refine zD (Qk hl1 t0 t1 ha.lenV hb.lenV posA a0 posB @b0 xa xb hlda hldb la lb he' he hrs @aT) ?_
     exact ⟨by rw [hcode,ga,gb,if_neg (fun h=>h.2.2 he)],zK⟩
    ·have he':¬ ((A[0].length:Nat):Int)=((B[0].length:Nat):Int):=by omega
     refine aI ?_
     refine zD (Qk hl1 t0 t1 ha.lenV hb.lenV posA a0 posB @b0 xa xb hlda hldb la lb he' he hrs @aT) ?_
     exact ⟨by rw [hcode,ga,gb,if_pos ⟨hAn,hBn,he⟩],zK⟩
end
end Go.Proofs.YtofhopjbbpihaaaGreat.Ev
namespace Go.Proofs.YtofhopjbbpihaaaGreat.Lin
set_option linter.all false
theorem Cy:∀ (n:Nat) (l:List (List Bool)),l.Nodup->(∀ b∈l,b.length=n)->l.length<=2^n
 | 0,[],_,_=>by simp
 | 0,[a],_,_=>by simp
 | 0,a :: b :: l,hn,h=>by
  have ha:=U3.1 (h a (by simp))
  have hb:=U3.1 (h b (by simp))
  subst ha; subst hb
  simp at hn
 | n+1,l,hn,h=>by
  have part:∀ v:Bool,((l.filter fun b=>b.head? == some v).map List.tail).length<=2^n:=fun v=>by
   refine Cy n _ ?_ fun b hb=>?_
   ·refine Vd.2 (Wz (fun {x y} hx hy hne e=>hne ?_) (WW _ hn))
    have hx:=(Ud.1 hx).2
    have hy:=(Ud.1 hy).2
    cases x with
    | nil=>simp at hx
    | cons a x =>
     cases y with
     | nil=>simp at hy
     | cons b y =>
      simp at hx hy e
      rw [hx,hy,e]
   ·obtain ⟨c,hc,rfl⟩:=TN.1 hb
    have:=h c (Ud.1 hc).1
    simp [this]
  have h1:=part true
  have h2:=part false
  rw [TT] at h1 h2
  have h3:l.length=(l.filter fun b=>b.head? == some true).length+(l.filter fun b=>b.head? == some false).length:=by
   rw [<- Wk,<- Wk,Xl (p:=fun b:List Bool=>b.head? == some true)]
   congr 1
   refine Y0 fun b hb=>?_
   have:=h b hb
   cases b with
   | nil=>simp at this
   | cons a b=>cases a <;> simp
  rw [Uy]; omega
theorem DD.count {d:Nat} {E L:V->Prop} {dn R:List V} (h:DD d E (· ∈ dn) L R):R.length<=2^dn.length:=by
 have hn:(R.map fun r=>dn.map fun i=>decide (dot i r=0)).Nodup:=by
  refine Vd.2 (h.apart.imp fun hne e=>hne fun i hi=>?_)
  have:=List.map_inj_left.1 e i hi
  simpa using this
 have:=Cy dn.length _ hn fun b hb=>by obtain ⟨r,-,rfl⟩:=TN.1 hb; simp
 simpa using this
theorem gensU_done {d:Nat} {eqs ineqs:List V} (h1:∀ a∈eqs,a.length=d) (h2:∀ a∈ineqs,a.length=d):(gensU d eqs ineqs).done=ineqs:=by
 obtain ⟨g1,g2⟩:=yR eqs (startU d) _ oK h1
 obtain ⟨g3,g4⟩:=xw ineqs _ g1 h2
 exact g4.trans (by rw [g2]; simp [startU])
theorem AD {d:Nat} (eq:Bool):∀ (l:List V) (u:Under) (E:V->Prop) (ps:List (Nat × V)),DD d E (· ∈ u.done) (· ∈ u.lines) u.rays->Qe d ps u->(∀ a∈l,a.length=d)->∃ ps',Qe d ps' (l.foldl (fun u a=>addU a eq u) u)
 | [],u,E,ps,_,h,_=>⟨ps,h⟩
 | a :: l,u,E,ps,hdd,h,hl=>by
  obtain ⟨ps',h'⟩:=PG (a:=a) hdd h eq
  exact AD eq l (addU a eq u) _ ps' (HZ hdd (hl a (TW ..)) eq) h' fun b hb=>hl b (TQ _ hb)
theorem KE {d:Nat} {eqs ineqs:List V} (h1:∀ a∈eqs,a.length=d) (h2:∀ a∈ineqs,a.length=d):∃ ps,Qe d ps (gensU d eqs ineqs):=by
 obtain ⟨g1,-⟩:=yR eqs (startU d) _ oK h1
 obtain ⟨ps,hp⟩:=AD true eqs (startU d) _ _ oK (KX d) h1
 exact AD false ineqs _ _ ps g1 hp h2
theorem Lk (a:V) (eq:Bool) (u:Under):(addU a eq u).lines.length<=u.lines.length:=by
 unfold addU
 split
 ·exact TO _
 ·simp only [TT]
  exact List.length_eraseIdx_le ..
theorem ul (eq:Bool):∀ (l:List V) (u:Under),(l.foldl (fun u a=>addU a eq u) u).lines.length<=u.lines.length
 | [],u=>TO _
 | a :: l,u=>Ub (ul eq l (addU a eq u)) (Lk a eq u)
theorem gensU_lines (d:Nat) (eqs ineqs:List V):(gensU d eqs ineqs).lines.length<=d:=by
 refine Ub (ul false ineqs _) (Ub (ul true eqs _) ?_)
 simp [startU]
theorem gens_mid {d M:Nat} (hd:0<d) (hM:0<M) {eqs ineqs:List V} (h1:∀ a∈eqs,a.length=d/\Bd M a) (h2:∀ a∈ineqs,a.length=d/\Bd M a) :
  (∀ l∈(gensU d eqs ineqs).lines,l.length=d/\Bd ((2*d*M)^2^d) l)/\(∀ r∈(gensU d eqs ineqs).rays,r.length=d/\Bd ((2*d*M)^2^d) r)/\(gensU d eqs ineqs).rays.length<=2^ineqs.length:=by
 have e1:∀ a∈eqs,a.length=d:=fun a ha=>(h1 a ha).1
 have e2:∀ a∈ineqs,a.length=d:=fun a ha=>(h2 a ha).1
 have hdd:=gensU_dd e1 e2
 obtain ⟨ps,hp⟩:=KE e1 e2
 have hdn:=gensU_done e1 e2
 obtain ⟨b1,b2⟩:=NC (Es:=eqs) hd hM (by rw [hdn]; exact hdd) hp h1 (by rw [hdn]; exact h2)
 exact ⟨fun l hl=>⟨hdd.lenL l hl,b1 l hl⟩,fun r hr=>⟨hdd.lenR r hr,b2 r hr⟩,hdd.count⟩
theorem Mm {d:Nat} {E I:V->Prop} {L R dn:List V} (h:yE d E I L R):Qe d (L.map fun l=>(pv l,l)) ⟨L,R,dn⟩:=by
 refine ⟨by simp [VX,YZ],fun q hq=>?_,fun q hq=>?_,?_,fun r hr q hq=>?_,h.form.cont,h.cont⟩
 ·obtain ⟨l,hl,rfl⟩:=TN.1 hq
  exact (h.form.pos hl).2.2
 ·obtain ⟨l,hl,rfl⟩:=TN.1 hq
  have:=(h.form.pos hl).2.1
  simp only
  omega
 ·exact Vd.2 h.form.clear
 ·obtain ⟨l,hl,rfl⟩:=TN.1 hq
  exact h.rest r hr l hl
theorem told_bd {d M:Nat} (hd:0<d) (hM:0<M) {eqs ineqs L R:List V} (h:yE d (· ∈ eqs) (· ∈ ineqs) L R) (h1:∀ a∈eqs,a.length=d/\Bd M a) (h2:∀ a∈ineqs,a.length=d/\Bd M a) :
  (∀ l∈L,Bd ((2*d*M)^2^d) l)/\(∀ r∈R,Bd ((2*d*M)^2^d) r) :=
 NC (u:=⟨L,R,ineqs⟩) hd hM h.dd (Mm h) h1 h2
theorem pow_bd {d m:Nat} (hd:d<=6):(2*d*2^m)^2^d<=2^(64*(m+4)):=by
 have h1:2*d*2^m<=2^(m+4):=by
  rw [UR,Uf (2^m)]
  exact T8 _ (by omega)
 have h2:2^d<=2^6:=Up (by decide) hd
 have h3:2^d*(m+4)<=64*(m+4):=T8 _ h2
 calc (2*d*2^m)^2^d<=(2^(m+4))^2^d:=V3 h1 _
  _=2^((m+4)*2^d):=(Xa ..).symm
  _<=2^(64*(m+4)):=Up (by decide) (by rw [Uf]; exact h3)
theorem Cb {d:Nat} {E I:V->Prop} {L R A B:List V} (hE:∀ e,E e->e.length=d) (hI:∀ i,I i->i.length=d) (h:DD d E I (· ∈ L) R) (h':DD d (· ∈ L) (· ∈ R) (· ∈ A) B):∀ x,Keep d E I x ↔ Keep d (· ∈ A) (· ∈ B) x:=by
 intro x
 constructor
 ·intro hx
  have hc:=h.all x hx
  refine ⟨hx.len,fun a ha=>hc.dot_zero h.lenL h.lenR (fun l hl=>?_) (fun r hr=>?_),fun b hb=>hc.dot_nonneg h.lenL h.lenR (fun l hl=>?_) (fun r hr=>?_)⟩
  ·rw [dot_comm]; exact h'.lineE a ha l hl
  ·rw [dot_comm]; exact h'.lineI a ha r hr
  ·rw [dot_comm]; exact (h'.keep b hb).eq l hl
  ·rw [dot_comm]; exact (h'.keep b hb).ge r hr
 ·intro hx
  have key:∀ y,Keep d (· ∈ L) (· ∈ R) y->0<=dot x y:=fun y hy=>(h'.all y hy).dot_nonneg h'.lenL h'.lenR (fun l hl=>by rw [dot_comm]; exact hx.eq l hl) (fun r hr=>by rw [dot_comm]; exact hx.ge r hr)
  refine ⟨hx.len,fun e he=>?_,fun i hi=>?_⟩
  ·have k1:=key e ⟨hE e he,fun l hl=>by rw [dot_comm]; exact h.lineE l hl e he,fun r hr=>by rw [dot_comm,(h.keep r hr).eq e he]; exact VU _⟩
   have k2:=key (scl (-1) e) ⟨ah (hE e he),fun l hl=>by rw [dot_scl,dot_comm,h.lineE l hl e he]; rfl,fun r hr=>by rw [dot_scl,dot_comm,(h.keep r hr).eq e he]; exact VU _⟩
   rw [dot_scl] at k2
   rw [dot_comm]; omega
  ·rw [dot_comm]
   exact key i ⟨hI i hi,fun l hl=>by rw [dot_comm]; exact h.lineI l hl i hi,fun r hr=>by rw [dot_comm]; exact (h.keep r hr).ge i hi⟩
theorem KH {d:Nat} {eqs ineqs:List V} (h1:∀ a∈eqs,a.length=d) (h2:∀ a∈ineqs,a.length=d):∀ l∈gensL d eqs ineqs,l.length=d:=(gens_told h1 h2).dd.lenL
theorem KF {d:Nat} {eqs ineqs:List V} (h1:∀ a∈eqs,a.length=d) (h2:∀ a∈ineqs,a.length=d):∀ r∈gensR d eqs ineqs,r.length=d:=(gens_told h1 h2).dd.lenR
theorem told_nodup {d:Nat} {E I:V->Prop} {L R:List V} (h:yE d E I L R):R.Nodup:=h.dd.apart.imp fun hne e=>hne fun i hi=>by rw [e]
def iq:List V->List V->List V
 | _,[]=>[]
 | F,a :: l=>match pivot (restF F a) with
  | none=>iq F l
  | some _=>a :: iq (putF F a) l
theorem insP_len (x:V) (p:Nat):∀ F:List V,(insP x p F).length=F.length+1
 | []=>rfl
 | r :: F=>by
  unfold insP
  split
  ·rw [UH,insP_len x p F,UH]
  ·rfl
theorem vO:∀ (l F:List V),(iq F l).foldl putF F=l.foldl putF F/\(l.foldl putF F).length=F.length+(iq F l).length
 | [],F=>⟨rfl,rfl⟩
 | a :: l,F=>by
  unfold iq
  cases h:pivot (restF F a) with
  | none =>
   have e:putF F a=F:=by unfold putF; rw [h]
   simp only [Vu,e]
   exact vO l F
  | some p =>
   have e:(putF F a).length=F.length+1:=by unfold putF; rw [h]; simp only; rw [insP_len,TT]
   obtain ⟨h1,h2⟩:=vO l (putF F a)
   simp only [Vu,UH]
   exact ⟨h1,by rw [h2,e]; omega⟩
theorem pV:∀ (l F:List V),∀ x∈iq F l,x∈l
 | [],F,x,h=>by cases h
 | a :: l,F,x,h=>by
  unfold iq at h
  split at h
  ·exact TQ _ (pV l F x h)
  ·rcases Ul.1 h with rfl | h
   ·exact TW ..
   ·exact TQ _ (pV l _ x h)
theorem Jj {d:Nat} {l:List V} (hl:∀ a∈l,a.length=d):(iq [] l).length<=d/\∀ x,Spn d (· ∈ iq [] l) x ↔ Spn d (· ∈ l) x:=by
 obtain ⟨h1,h2⟩:=vO l []
 obtain ⟨h3,h4⟩:=form_ech hl
 obtain ⟨-,h5⟩:=form_ech (d:=d) (l:=iq [] l) fun a ha=>hl a (pV l [] a ha)
 have e:formF (iq [] l)=formF l:=h1
 have h6:=Ev.ech_len h3
 have e2:(formF l).length=([]:List V).length+(iq [] l).length:=h2
 refine ⟨by simp at e2; omega,fun x=>?_⟩
 rw [<- h5 x,e,h4 x]
theorem B6 {α:Type} [DecidableEq α] (M:Nat):∀ (A:List α) (l:List (List α)),(∀ b∈l,∃ a∈A,b.head? = some a)->(∀ a∈A,(l.filter fun b=>b.head? == some a).length<=M)->l.length<=A.length*M
 | [],l,h,_=>by
  cases l with
  | nil=>simp
  | cons b l=>obtain ⟨a,ha,_⟩:=h b (TW ..); cases ha
 | a :: A,l,h,hM=>by
  have h1:=hM a (TW ..)
  have h2:=B6 M A (l.filter fun b=>!(b.head? == some a)) (fun b hb=>by
   obtain ⟨hb,hn⟩:=Ud.1 hb
   obtain ⟨c,hc,e⟩:=h b hb
   rcases Ul.1 hc with rfl | hc
   ·simp [e] at hn
   ·exact ⟨c,hc,e⟩) fun c hc=>by
    refine Ub ?_ (hM c (TQ _ hc))
    exact (List.Sublist.filter _ List.filter_sublist).length_le
  have h3:l.length=(l.filter fun b=>b.head? == some a).length+(l.filter fun b=>!(b.head? == some a)).length:=by
   rw [<- Wk,<- Wk,Xl (p:=fun b:List α=>b.head? == some a)]
   congr 1
   refine Y0 fun b _=>?_
   simp
  rw [UH,Vr]
  omega
theorem B0 {α:Type} [DecidableEq α] (A:List α):∀ (k:Nat) (l:List (List α)),l.Nodup->(∀ b∈l,b.length=k/\∀ x∈b,x∈A)->l.length<=A.length^k
 | 0,[],_,_=>by simp
 | 0,[a],_,_=>by simp
 | 0,a :: b :: l,hn,h=>by
  have ha:=U3.1 (h a (by simp)).1
  have hb:=U3.1 (h b (by simp)).1
  subst ha; subst hb
  simp at hn
 | k+1,l,hn,h=>by
  have:=B6 (A.length^k) A l (fun b hb=>by
   obtain ⟨h1,h2⟩:=h b hb
   cases b with
   | nil=>simp at h1
   | cons x b=>exact ⟨x,h2 x (TW ..),rfl⟩) fun v _=>by
    have:=B0 A k ((l.filter fun b=>b.head? == some v).map List.tail) (by
     refine Vd.2 (Wz (fun {x y} hx hy hne e=>hne ?_) (WW _ hn))
     have hx:=(Ud.1 hx).2
     have hy:=(Ud.1 hy).2
     cases x with
     | nil=>simp at hx
     | cons a x =>
      cases y with
      | nil=>simp at hy
      | cons b y =>
       simp at hx hy e
       rw [hx,hy,e]) fun b hb=>by
     obtain ⟨c,hc,rfl⟩:=TN.1 hb
     obtain ⟨h1,h2⟩:=h c (Ud.1 hc).1
     refine ⟨by simp [h1],fun x hx=>h2 x (List.mem_of_mem_tail hx)⟩
    rwa [TT] at this
  rw [Uy,Uf]; exact this
theorem Nw:∀ x:V,0<=dot x x/\(dot x x=0->∀ y:V,dot y x=0)
 | []=>⟨by simp [dot],fun _ y=>by cases y <;> simp [dot]⟩
 | a :: x=>by
  obtain ⟨h1,h2⟩:=Nw x
  have h3:0<=a*a:=by
   rcases Int.le_total 0 a with h | h
   ·exact UC h h
   ·exact Int.mul_nonneg_of_nonpos_of_nonpos h h
  have e:dot (a :: x) (a :: x)=a*a+dot x x:=by simp [dot]
  rw [e]
  refine ⟨by omega,fun h0 y=>?_⟩
  have ha:a=0:=by
   have:a*a=0:=by omega
   rcases Um.1 this with h | h <;> exact h
  cases y with
  | nil=>simp [dot]
  | cons b y =>
   have:=h2 (by omega) y
   simp [dot,ha] at this ⊢
   exact this
theorem NT {d:Nat} {l:List V} (hl:∀ a∈l,a.length=d) {r i:V} (hr:r.length=d) (hz:∀ a∈l,dot a r=0) (hn:dot i r≠0):(iq [] l).length+1<=d:=by
 obtain ⟨h1,h2⟩:=form_ech hl
 obtain ⟨h3,h4⟩:=put_ech h1 hr
 have e2:(formF l).length=([]:List V).length+(iq [] l).length:=(vO l []).2
 cases hp:pivot (restF (formF l) r) with
 | some p =>
  have e:(putF (formF l) r).length=(formF l).length+1:=by unfold putF; rw [hp]; simp only; rw [insP_len,TT]
  have:=Ev.ech_len h3
  simp at e2
  omega
 | none =>
  exfalso
  have e:putF (formF l) r=formF l:=by unfold putF; rw [hp]
  have h5:Spn d (· ∈ l) r:=(h2 r).1 (by
   have:=(h4 r).2 (dW hr (.inr rfl))
   rw [e] at this
   exact this)
  have h6:=Zb (a:=r) hl (fun r h=>h.elim) (fun a ha=>by rw [dot_comm]; exact hz a ha) (fun r h=>h.elim) h5
  exact hn ((Nw r).2 h6 i)
theorem DD.count3 {d:Nat} {E L:V->Prop} {dn R:List V} (h:DD d E (· ∈ dn) L R) (hdn:∀ i∈dn,i.length=d):R.length<=1\/R.length<=dn.length^(d-1):=by
 obtain ⟨T,hT⟩:∃ T:V->List V,T=fun r=>dn.filter fun i=>decide (dot i r=0):=⟨_,rfl⟩
 have mT:∀ r i,i∈T r ↔ i∈dn/\dot i r=0:=fun r i=>by rw [hT,Ud]; simp
 have lT:∀ r,∀ i∈T r,i.length=d:=fun r i hi=>hdn i ((mT r i).1 hi).1
 by_cases he:∃ r∈R,iq [] (T r)=[]
 ·left
  obtain ⟨r,hr,hb⟩:=he
  have hz:∀ i,i∈dn->dot i r=0->∀ y,dot i y=0:=fun i hi h0 y=>by
   have h1:Spn d (· ∈ iq [] (T r)) i:=((Jj (lT r)).2 i).2 (dW (hdn i hi) ((mT r i).2 ⟨hi,h0⟩))
   rw [dot_comm]
   exact Zb (fun l hl=>lT r l (pV _ _ l hl)) (fun r h=>h.elim) (fun l hl=>by rw [hb] at hl; cases hl) (fun r h=>h.elim) h1
  have hsame:∀ s∈R,∀ i,i∈dn->(dot i s=0 ↔ dot i r=0):=fun s hs=>by
   obtain ⟨k,c,hk,hc,hsp⟩:=h.ext r hr s (h.keep s hs) fun i hi h0=>hz i hi h0 s
   have hls:=h.lenR s hs
   have hlr:=h.lenR r hr
   have hdot:∀ i,i∈dn->k*dot i s=c*dot i r:=fun i hi=>by
    have:=Zb (a:=i) h.lenL (fun r h=>h.elim) (fun l hl=>h.lineI l hl i hi) (fun r h=>h.elim) hsp
    rw [aS _ _ _ (hls.trans hlr.symm),Xz] at this
    omega
   have hc':c≠0:=fun e=>by
    obtain ⟨i,hi,hn⟩:=h.off s hs
    have:=hdot i hi
    rw [e,Ym] at this
    rcases Um.1 this with h1 | h1
    ·omega
    ·exact hn h1
   intro i hi
   have:=hdot i hi
   constructor
   ·intro e
    rw [e,Yn] at this
    rcases Um.1 this.symm with h1 | h1
    ·exact absurd h1 hc'
    ·exact h1
   ·intro e
    rw [e,Yn] at this
    rcases Um.1 this with h1 | h1
    ·omega
    ·exact h1
  have ha:=h.apart
  match R,ha,hsame with
  | [],_,_=>simp
  | [x],_,_=>simp
  | x :: y :: R',ha,hsame =>
   exfalso
   have h1:=List.rel_of_pairwise_cons ha (TW (a:=y) (l:=R'))
   exact h1 fun i hi=>(hsame x (by simp) i hi).trans (hsame y (by simp) i hi).symm
 ·right
  have hne:∀ r∈R,iq [] (T r)≠[]:=fun r hr e=>he ⟨r,hr,e⟩
  have hd:∀ b:List V,b≠[]->b.headD []∈b:=fun b hb=>by
   cases b with
   | nil=>exact absurd rfl hb
   | cons a b=>exact TW ..
  have hn:(R.map fun r=>iq [] (T r)++List.replicate (d-1-(iq [] (T r)).length) ((iq [] (T r)).headD [])).Nodup:=by
   have half:∀ r s:V,iq [] (T s)≠[]->iq [] (T r)++List.replicate (d-1-(iq [] (T r)).length) ((iq [] (T r)).headD [])=iq [] (T s)++List.replicate (d-1-(iq [] (T s)).length) ((iq [] (T s)).headD [])->∀ i,i∈dn->dot i r=0->dot i s=0:=fun r s hs e i hi hz=>by
    have h1:Spn d (· ∈ iq [] (T r)) i:=((Jj (lT r)).2 i).2 (dW (hdn i hi) ((mT r i).2 ⟨hi,hz⟩))
    rw [dot_comm]
    refine Zb (fun l hl=>lT r l (pV _ _ l hl)) (fun r h=>h.elim) (fun l hl=>?_) (fun r h=>h.elim) h1
    have h2:l∈iq [] (T s)++List.replicate (d-1-(iq [] (T s)).length) ((iq [] (T s)).headD []):=by rw [<- e]; exact U0 _ hl
    have h3:l∈iq [] (T s):=by
     rcases Uc.1 h2 with h2 | h2
     ·exact h2
     ·rw [W6 h2]; exact hd _ hs
    rw [dot_comm]; exact ((mT s l).1 (pV _ _ l h3)).2
   exact Vd.2 (h.apart.imp_of_mem fun {r s} hr hs hap e=>hap fun i hi=>⟨half _ _ (hne s hs) e i hi,half _ _ (hne r hr) e.symm i hi⟩)
  have:=B0 dn (d-1) _ hn fun b hb=>by
   obtain ⟨r,hr,rfl⟩:=TN.1 hb
   obtain ⟨i,hi,hni⟩:=h.off r hr
   have h1:=NT (lT r) (h.lenR r hr) (fun a ha=>((mT r a).1 ha).2) hni
   refine ⟨by rw [T9,Wm]; omega,fun x hx=>?_⟩
   have hm:x∈iq [] (T r):=by
    rcases Uc.1 hx with hx | hx
    ·exact hx
    ·rw [W6 hx]; exact hd _ (hne r hr)
   exact ((mT r x).1 (pV _ _ x hm)).1
  simpa using this
end Go.Proofs.YtofhopjbbpihaaaGreat.Lin
namespace Go.Proofs.YtofhopjbbpihaaaGreat.Ev
open Go Nn
set_option linter.all false
theorem Fi (d:Nat) (E:List (List Int)) {j:Nat} (h:j<E.length):Lin.gensU d (E.take (j+1)) []=Lin.addU E[j] true (Lin.gensU d (E.take j) []):=by
 unfold Lin.gensU
 rw [TX h,WU]; rfl
theorem Fh (d:Nat) (E I:List (List Int)) {j:Nat} (h:j<I.length):Lin.gensU d E (I.take (j+1))=Lin.addU I[j] false (Lin.gensU d E (I.take j)):=by
 unfold Lin.gensU
 rw [TX h,WU]; rfl
theorem kn {m:Nat} {x:List Int} (h:Lin.Bd (2^m) x):∀ z∈x,Bt (m+1) z:=fun z hz=>by
 have h1:=h.mem z hz
 have h2:0<2^m:=UF zU
 unfold Bt
 rw [Uy]
 omega
theorem KI {d:Nat} {l:List (List Int)} (hl:∀ r∈l,r.length=d):Lin.formF (Lin.formF l)=Lin.formF l:=by
 have h:=Lin.form_ech hl
 have h2:=Lin.form_ech h.1.len
 exact h2.1.unique h.1 h2.2
structure Qc (d f:Nat) (u:Lin.Under) (I:List (List Int)):Prop where
 lines:∀ l∈u.lines,l.length=d/\∀ z∈l,Bt f z
 rays:∀ r∈u.rays,r.length=d/\∀ z∈r,Bt f z
 few:u.rays.length<=I.length^(d-1)+1
 some:u.lines.length<=d
 done:u.done=I
theorem Rh {d m:Nat} (hd0:0<d) (hd:d<=6) {E I:List (List Int)} (h1:∀ a∈E,a.length=d/\Lin.Bd (2^m) a) (h2:∀ a∈I,a.length=d/\Lin.Bd (2^m) a):Qc d (64*(m+4)+1) (Lin.gensU d E I) I:=by
 obtain ⟨g1,g2,g3⟩:=Lin.gens_mid hd0 (UF (n:=m) (show 0<2 by decide)) h1 h2
 exact ⟨fun l hl=>⟨(g1 l hl).1,kn ((g1 l hl).2.mono (Lin.pow_bd hd))⟩,fun l hl=>⟨(g2 l hl).1,kn ((g2 l hl).2.mono (Lin.pow_bd hd))⟩,by rcases (Lin.gensU_dd (fun a ha=>(h1 a ha).1) (fun a ha=>(h2 a ha).1)).count3 (fun a ha=>(h2 a ha).1) with h | h <;> omega,Lin.gensU_lines d E I,Lin.gensU_done (fun a ha=>(h1 a ha).1) (fun a ha=>(h2 a ha).1)⟩
theorem ux {d m:Nat} (hd0:0<d) (hd:d<=6) {E I:List (List Int)} (h1:∀ a∈E,a.length=d/\Lin.Bd (2^m) a) (h2:∀ a∈I,a.length=d/\Lin.Bd (2^m) a) :
  (∀ l∈Lin.gensL d E I,l.length=d/\Lin.Bd (2^(64*(m+4))) l)/\∀ r∈Lin.gensR d E I,r.length=d/\Lin.Bd (2^(64*(m+4))) r:=by
 have t:=Lin.gens_told (fun a ha=>(h1 a ha).1) (fun a ha=>(h2 a ha).1)
 obtain ⟨g1,g2⟩:=Lin.told_bd hd0 (UF (n:=m) (show 0<2 by decide)) t h1 h2
 exact ⟨fun l hl=>⟨t.dd.lenL l hl,(g1 l hl).mono (Lin.pow_bd hd)⟩,fun l hl=>⟨t.dd.lenR l hl,(g2 l hl).mono (Lin.pow_bd hd)⟩⟩
theorem Ru {e d:Nat} (hd:d<=6):jU e d<=1237*e+1957:=by
 refine Ub (tY e hd) ?_
 simp only [jU]
 omega
theorem HO {d:Nat} {A B:List (List Int)} (h1:xy d A) (h2:xy d B) (hA:A.length<=1024) (hB:B.length<=1024):gK (A.map fun r=>r.map eS) (B.map fun r=>r.map eS)=0:=by
 have code:∀ {L:List (List Int)},xy d L->L.length<=1024->cG (L.map fun r=>r.map eS)=0:=fun {L} hok hL=>by
  refine ww (by rw [TT]; exact hL) (fun k hk=>?_) fun k hk=>?_
  ·rw [TT] at hk
   have hm:=TM hk
   simp only [WJ]
   unfold xq
   rw [C7 (by rw [hok.len _ hm]; exact hok.le),decide_eq_false (by rw [TT,hok.len _ hm]; have:=hok.pos; omega)]
   rfl
  ·rw [TT] at hk
   simp only [WJ,TT]
   rw [hok.len _ (TM hk),hok.len _ (TM zO)]
 unfold gK
 rw [code h1 hA,code h2 hB]
 simp only [ne_eq,not_true_eq_false,if_false]
 rw [if_neg]
 rintro ⟨ha,hb,hne⟩
 apply hne
 cases A with
 | nil=>simp at ha
 | cons a A =>
  cases B with
  | nil=>simp at hb
  | cons b B=>simp [h1.len a (by simp),h2.len b (by simp)]
theorem PH {a:AV} (ha:One a):ip [.nilSl,.nilSl,.nilSl] [((0,1),a)]=some (.agg [a,.nilSl,.nilSl]):=by
 simp [ip,cV,ha.1,ha.2]
section
variable {tab:Nat->Option aw} {H:Heap} {s:AV}
theorem DO (C:Code tab) (hw:Wf H) {a b:AV} {x y:List Int} (ha:RowV H a x) (hb:RowV H b y) (hxy:x.length=y.length) (h64:x.length<=64) (hx:∀ z∈x,eY z) (hy:∀ z∈y,eY z) :
  Ans tab (.fn js [a,b]) H fun v H'=>v=.int .i64 (DP x y)/\Kp H H':=by
 have oa:=ha.one
 have ob:=hb.one
 refine bz C.q88 zU fun T hl g0 g1=>?_
 refine zW (aD hl g0 g1) ?_
 refine Y4 (OO C zF (ha.mono (zG H)) (hb.mono (zG H)) hxy h64 hx hy) fun H2 hk2=>?_
 obtain ⟨k2,_,_⟩:=zT H zK hk2
 refine zW (aD hl g0 g1) ?_
 exact zK
theorem AI (C:Code tab) (hw:Wf H) {va vb:AV} {E I:List (List Int)} {d m:Nat} (ha:dQ H va E) (hb:dQ H vb I) (hd0:0<d) (hd:d<=6) (he:E.length<=1024) (hi:I.length<=1024) (hcnt:I.length^(d-1)<1099000000000) (h1:∀ a∈E,a.length=d/\Lin.Bd (2^m) a) (h2:∀ a∈I,a.length=d/\Lin.Bd (2^m) a) (hm:m<=300000) :
  Ans tab (.fn rf [.int .i64 (d:Int),va,vb]) H fun v H'=>∃ p q,v=.tup [p,q,.int .i64 0]/\dQ H' p (Lin.gensL d E I)/\dQ H' q (Lin.gensR d E I)/\Kp H H':=by
 have oa:=ha.one
 have ob:=hb.one
 obtain ⟨f,hf⟩:∃ f,f=64*(m+4)+1:=⟨_,rfl⟩
 have ok1:xy d E:=⟨hd0,by omega,fun r hr=>(h1 r hr).1,fun r hr z hz=>(kn (h1 r hr).2 z hz).sm zO⟩
 have ok2:xy d I:=⟨hd0,by omega,fun r hr=>(h2 r hr).1,fun r hr z hz=>(kn (h2 r hr).2 z hz).sm zO⟩
 have mid:∀ {A B:List (List Int)},(∀ a∈A,a.length=d/\Lin.Bd (2^m) a)->(∀ a∈B,a.length=d/\Lin.Bd (2^m) a)->Qc d f (Lin.gensU d A B) B:=fun hA hB=>by rw [hf]; exact Rh hd0 hd hA hB
 have hfb:=Ru (e:=f) hd
 refine BA C.q59 rfl rfl zU fun T hl g=>?_
 have hl:T.length=100:=hl
 have hrs:c_cone_Gens.results=[(6,none),(7,none),(8,none)]:=rfl
 have g0:aa T 0=.int .i64 (d:Int):=g 0 (by simp)
 have g1:aa T 1=va:=g 1 (by simp)
 have g2:aa T 2=vb:=g 2 (by simp)
 refine aP ?_
 refine zW (bS hl g0 g1 g2 @au) ?_
 refine dl (fun T' H'=>Kp H H') rfl ?_ ?_
 ·refine zW (aX hl g0 g1 g2) ?_
  refine Y4 (DN C zF ((zB ha).mono (zG H)) ((zB hb).mono (zG H)) (by rw [TT]; omega) (by rw [TT]; omega) (fun r hr=>?_) (fun r hr=>?_)) fun H2 hk2=>?_
  ·obtain ⟨x,hx,rfl⟩:=TN.1 hr
   exact uG (by rw [ok1.len x hx]; omega) (ok1.sm x hx)
  ·obtain ⟨x,hx,rfl⟩:=TN.1 hr
   exact uG (by rw [ok2.len x hx]; omega) (ok2.sm x hx)
  rw [HO ok1 ok2 he hi]
  obtain ⟨k2,_,_⟩:=zT H zK hk2
  refine zW (aC hl @aW) ?_
  exact zK
 intro T1 H1 hs1 k1
 have w1:=k1.wf
 have le1:=k1.le
 have t0:aa T1 0=.int .i64 (d:Int):=(hs1.at_ 0 zU).trans (zV (aC hl g0))
 have t1:aa T1 1=va:=(hs1.at_ 1 zU).trans (zV (aC hl g1))
 have t2:aa T1 2=vb:=(hs1.at_ 2 zU).trans (zV (aC hl g2))
 have t7:aa T1 7=.nilSl:=(hs1.at_ 7 zU).trans (zV hl)
 have hl1:T1.length=100:=hs1.len.trans (by simp only [TH]; exact hl)
 refine dl (fun T' H'=>Kp H H'/\aa T' 7=.nilSl) rfl ?_ ?_
 ·refine zW (aX hl1 t0 t1 t2) ?_
  refine Y5 (K3 C (Ls:=[E,I]) (d:=d) zF (Bu (E:=rowsE) (t1:=af) ha hb (zG H) (cP)) (by simp) (fun L hL r hr=>?_)) ?_
  ·rcases Ul.1 hL with rfl | hL
   ·exact ok1.len r hr
   ·rcases Ul.1 hL with rfl | hL
    ·exact ok2.len r hr
    ·cases hL
  rintro v H2 ⟨rfl,hk2⟩
  obtain ⟨k2,_,_⟩:=zT H zK hk2
  have q1:¬ ((d:Int)<1):=by omega
  have q2:¬ ((64:Int)<(d:Int)):=by omega
  have q3:(0:Int)<=(d:Int):=by omega
  cases hany:[E,I].any (fun L=>!L.isEmpty) with
  | true =>
   refine zW (gh hl1 t0 t7 q1 q2 q3 @aW) ?_
   exact zK
  | false =>
   refine zW (gh hl1 t0 t7 q1 q2 q3 @aW) ?_
   exact zK
 rintro T2 H2 hs2 ⟨k2,u7⟩
 have w2:=k2.wf
 have le2:=k2.le
 have u0:aa T2 0=.int .i64 (d:Int):=(hs2.at_ 0 zU).trans t0
 have u1:aa T2 1=va:=(hs2.at_ 1 zU).trans t1
 have u2:aa T2 2=vb:=(hs2.at_ 2 zU).trans t2
 have hl2:T2.length=100:=hs2.len.trans hl1
 refine dl (fun T' H'=>aa T' 10=.ptr (H2.next+3) 0/\Kp H H'/\UnderV H H' (H2.next+3) (Lin.gensU d [] [])) rfl ?_ ?_
 ·refine zW (aC hl2 u0) ?_
  refine Y5 (NI C (d:=d) zF zO) ?_
  rintro v H3 ⟨bl3,hk3⟩
  obtain ⟨k23,_,_⟩:=zT H2 zK hk3
  have k3:Kp H H3:=k2.trans k23
  have le_k3:=k3.le
  have w3:=k3.wf
  have ov:=bl3.sl.one
  have h0:AV.one .nilSl=true:=rfl
  have hbv:gP (.agg [v,.nilSl,.nilSl])=some [v,.nilSl,.nilSl]:=by simp [gP,AV.cells,ov.2,h0]
  have n3:H2.next+5<=H3.next:=hk3.le
  have f3:H3.get (H2.next+3)=none:=hk3.free (show _<H2.next+5 by omega) (w2.fresh (b:=H2.next+3) zO)
  refine zW (aX hl2 (PH ov) hbv @aW) ?_
  have hbl:Wr H H3 v (Lin.startU d).lines (Lin.startU d).lines.length:=bl3.wr.base (show H.next<=H2.next+5 by omega)
  have hnb:km v≠some (H2.next+3):=fun hx=>by
   have h2:H2.next+5<=H2.next+3:=bl3.ge hx
   omega
  exact ⟨zK,v,.nilSl,.nilSl,_,aq _ _ _,hbl.put hnb (Zo f3),.inl ⟨rfl,rfl⟩,.inl ⟨rfl,rfl⟩,(fun x _ hy=>by cases hy),(fun x _ hy=>by cases hy),(fun x _ hy=>by cases hy)⟩
 obtain ⟨ub,hub⟩:∃ ub,ub=H2.next+3:=⟨_,rfl⟩
 rw [<- hub]
 have hubH:H.next<=ub:=by omega
 rintro T3 H3 hs3 ⟨v10,k3,hu3⟩
 have w3:=k3.wf
 have le3:=k3.le
 have v1:aa T3 1=va:=(hs3.at_ 1 zU).trans u1
 have v2:aa T3 2=vb:=(hs3.at_ 2 zU).trans u2
 have v7:aa T3 7=.nilSl:=(hs3.at_ 7 zU).trans u7
 have hl3:T3.length=100:=hs3.len.trans hl2
 refine aP ?_
 refine zW (aD hl3 v10 @au) ?_
 refine dl (fun T' H'=>Kp H H'/\UnderV H H' ub (Lin.gensU d E [])) rfl ?_ ?_
 ·refine zW (aD hl3 v1 ha.lenV) ?_
  refine am H [] (fun j _ H'=>UnderV H H' ub (Lin.gensU d (E.take j) [])) (a:=0) (N:=E.length) rfl (by refine zW hl3 ?_; rfl) (zV hl3) (TY _) zO (by simp only [TH,hl3]; rfl) rfl (fun j vs H' m h=>h.mono (ZB H' m)) zK (by exact hu3.mono (ZB H3 _)) ?_ ?_
  ·rintro j T4 H4 _ hj hl4 hi4 hs4 hk4 hu4
   have w4:=hk4.wf
   have le_hk4:=hk4.le
   have le4:=hk4.le
   have t48:aa T4 48=va:=(hs4.at_ 48 zU).trans (zV (aC hl3 v1))
   have t11:aa T4 11=.fn (.func cT) [.ptr ub 0] []:=(hs4.at_ 11 zU).trans (zV hl3)
   obtain ⟨w,hr,hld⟩:=dw ha hj
   have hld4:=bT hk4.sub hld
   have hix:=Zv ha .i64 j hj
   have mk:=mid (A:=E.take j) (B:=[]) (fun a h=>h1 a (VT h)) (fun a h=>by cases h)
   have hEj:=h1 _ (TM hj)
   have hso:=mk.some
   have hfe:=mk.few
   have h01:0^(d-1)<=1:=Ub (V3 (TY 1) _) (by rw [Nat.one_pow]; exact TO _)
   simp only [V5] at hfe
   have hnx:(Lin.addU E[j] true (Lin.gensU d (E.take j) [])).rays.length<=1099000000000:=by
    rw [<- Fi d E hj]
    have:=(mid (A:=E.take (j+1)) (B:=[]) (fun a h=>h1 a (VT h)) (fun a h=>by cases h)).few
    simp only [V5] at this
    omega
   simp only [TH,hl3] at hl4
   refine zW (dV hl4 t48 t11 hi4 hix hld4) ?_
   refine Y5 (FD C (H0:=H) (u:=Lin.gensU d (E.take j) []) (e:=f) (f:=f) (hk4.up _) hubH (hu4.mono (ZB H4 _)) hr hd0 zO hEj.1 mk.lines mk.rays (fun r hr=>by rw [mk.done] at hr; cases hr) (by rw [mk.done]; simp) (fun z hz=>(kn hEj.2 z hz).mono zO) zO zO zO hnx) ?_
   rintro v H5 ⟨rfl,hk5,hu5⟩
   refine zW hl4 ?_
   exact ⟨hk5,by rw [Fi d E hj]; exact hu5⟩
  ·rintro T4 H4 hl4 hs4 hk4 hu4
   rw [Ur] at hu4
   refine zW (aC hl4 @aW) ?_
   exact ⟨hk4,hu4⟩
 rintro T4 H4 hs4 ⟨k4,hu4⟩
 have w4:=k4.wf
 have le4:=k4.le
 have x2:aa T4 2=vb:=(hs4.at_ 2 zU).trans (zV (aC hl3 v2))
 have x7:aa T4 7=.nilSl:=(hs4.at_ 7 zU).trans (zV (aC hl3 v7))
 have x10:aa T4 10=.ptr ub 0:=(hs4.at_ 10 zU).trans (zV (aC hl3 v10))
 have x11:aa T4 11=.fn (.func cT) [.ptr ub 0] []:=(hs4.at_ 11 zU).trans (zV hl3)
 have hl4:T4.length=100:=hs4.len.trans (by simp only [TH]; exact hl3)
 refine dl (fun T' H'=>Kp H H'/\UnderV H H' ub (Lin.gensU d E I)) rfl ?_ ?_
 ·refine zW (aD hl4 x2 hb.lenV) ?_
  refine am H [] (fun j _ H'=>UnderV H H' ub (Lin.gensU d E (I.take j))) (a:=0) (N:=I.length) rfl (by refine zW hl4 ?_; rfl) (zV hl4) (TY _) zO (by simp only [TH,hl4]; rfl) rfl (fun j vs H' m h=>h.mono (ZB H' m)) zK (by exact hu4.mono (ZB H4 _)) ?_ ?_
  ·rintro j T5 H5 _ hj hl5 hi5 hs5 hk5 hu5
   have w5:=hk5.wf
   have le_hk5:=hk5.le
   have le5:=hk5.le
   have t58:aa T5 58=vb:=(hs5.at_ 58 zU).trans (zV (aC hl4 x2))
   have t11:aa T5 11=.fn (.func cT) [.ptr ub 0] []:=(hs5.at_ 11 zU).trans (zV (aC hl4 x11))
   obtain ⟨w,hr,hld⟩:=dw hb hj
   have hld5:=bT hk5.sub hld
   have hix:=Zv hb .i64 j hj
   have hIt:∀ a∈I.take j,a.length=d/\Lin.Bd (2^m) a:=fun a h=>h2 a (VT h)
   have mk:=mid (A:=E) (B:=I.take j) h1 hIt
   have hIj:=h2 _ (TM hj)
   have hso:=mk.some
   have hfe:=mk.few
   have hp:(I.take j).length^(d-1)<=I.length^(d-1):=V3 (by rw [Un]; omega) _
   have hnx:(Lin.addU I[j] false (Lin.gensU d E (I.take j))).rays.length<=1099000000000:=by
    rw [<- Fh d E I hj]
    have h3:=(mid (A:=E) (B:=I.take (j+1)) h1 (fun a h=>h2 a (VT h))).few
    have h4:(I.take (j+1)).length^(d-1)<=I.length^(d-1):=V3 (by rw [Un]; omega) _
    omega
   simp only [TH,hl4] at hl5
   refine zW (dV hl5 t58 t11 hi5 hix hld5) ?_
   refine Y5 (FD C (H0:=H) (u:=Lin.gensU d E (I.take j)) (e:=f) (f:=f) (hk5.up _) hubH (hu5.mono (ZB H5 _)) hr hd0 zO hIj.1 mk.lines mk.rays (fun r hr=>by rw [mk.done] at hr; exact ⟨(hIt r hr).1,fun z hz=>(kn (hIt r hr).2 z hz).mono zO⟩) (by rw [mk.done,Un]; omega) (fun z hz=>(kn hIj.2 z hz).mono zO) zO zO zO hnx) ?_
   rintro v H6 ⟨rfl,hk6,hu6⟩
   refine zW hl5 ?_
   exact ⟨hk6,by rw [Fh d E I hj]; exact hu6⟩
  ·rintro T5 H5 hl5 hs5 hk5 hu5
   rw [Ur] at hu5
   refine zW (aC hl5 @aW) ?_
   exact ⟨hk5,hu5⟩
 rintro T5 H5 hs5 ⟨k5,hu5⟩
 have w5:=k5.wf
 have le5:=k5.le
 have y7:aa T5 7=.nilSl:=(hs5.at_ 7 zU).trans x7
 have y10:aa T5 10=.ptr ub 0:=(hs5.at_ 10 zU).trans x10
 have hl5:T5.length=100:=hs5.len.trans hl4
 have mk:=mid h1 h2
 have hso:=mk.some
 have hfe:=mk.few
 obtain ⟨ql,qr,qd,cl,hub5,hql,hqr,hqd,-,-,-⟩:=hu5
 have lub5:=w5 _ _ hub5
 obtain ⟨tL,tR⟩:=ux hd0 hd h1 h2
 have hT:=Lin.gens_told (fun a ha=>(h1 a ha).1) (fun a ha=>(h2 a ha).1)
 obtain ⟨L,hL⟩:∃ L,L=Lin.gensL d E I:=⟨_,rfl⟩
 have hLf:Lin.formF (Lin.gensU d E I).lines=L:=by rw [hL]; rfl
 have hLL:Lin.formF L=L:=by rw [<- hLf]; exact KI (fun r hr=>(mk.lines r hr).1)
 have hLlen:L.length<=d:=by rw [hL]; exact ech_len hT.form
 have hLm:∀ r∈L,r.length=d/\∀ z∈r,Bt f z:=fun r hr=>by
  rw [hL] at hr
  exact ⟨(tL r hr).1,fun z hz=>by rw [hf]; exact kn (tL r hr).2 z hz⟩
 refine dl (fun T' H'=>∃ q6,aa T' 6=q6/\Kp H5 H'/\dQ H' q6 L) rfl ?_ ?_
 ·refine zW (aD hl5 y10 hub5) ?_
  refine Y5 (C2 C (d:=d) (e:=f) zF (hql.sl.mono (ZB H5 _)) zO hd0 zO (fun r hr=>(mk.lines r hr).1) (fun r hr=>(mk.lines r hr).2) zO) ?_
  rintro v H6 ⟨q6,rfl,hr6,hk6⟩
  have k6:Kp H5 H6:=Zi (Kp.up (Zg w5) _) hk6
  have le_k6:=k6.le
  rw [hLf] at hr6
  refine zW (aC hl5 @aW) ?_
  exact ⟨q6,rfl,k6,hr6⟩
 rintro T6 H6 hs6 ⟨q6,z6,k56,hr6⟩
 have w6:=k56.wf
 have le6:=k56.le
 have z7:aa T6 7=.nilSl:=(hs6.at_ 7 zU).trans y7
 have z10:aa T6 10=.ptr ub 0:=(hs6.at_ 10 zU).trans y10
 have hl6:T6.length=100:=hs6.len.trans hl5
 have hub6:=k56.get hub5
 have hqr6:dQ H6 qr (Lin.gensU d E I).rays:=hqr.sl.mono k56.sub
 obtain ⟨R,hR⟩:∃ R,R=(Lin.gensU d E I).rays:=⟨_,rfl⟩
 have hRm:∀ r∈R,r.length=d/\∀ z∈r,Bt f z:=fun r hr=>mk.rays r (by rw [<- hR]; exact hr)
 have hRl:R.length<=1099000000000:=by rw [hR]; omega
 rw [<- hR] at hqr6
 refine dl (fun T' H'=>∃ o,aa T' 7=o/\Kp H6 H'/\Bl rowsE af H6 H' o (R.map (Lin.restF L))) rfl ?_ ?_
 ·refine zW (aX hl6 z10 hub6 hqr6.lenV) ?_
  refine am H6 [7] (fun j vs H'=>∃ o,vs=[o]/\Bl rowsE af H6 H' o ((R.take j).map (Lin.restF L))) (a:=0) (N:=R.length) rfl (by refine zW hl6 ?_; rfl) (zV hl6) (TY _) zO (by simp only [TH,hl6]; rfl) rfl (fun j vs H' m ⟨o,q1,q2⟩=>⟨o,q1,q2.mono (ZB H' m)⟩) (Kp.up (Zg w6) _) ⟨.nilSl,by exact zV (aC hl6 z7),Bl.nil⟩ ?_ ?_
  ·rintro j T7 H7 _ hj hl7 hi7 hs7 hk7 ⟨o,hv,ho⟩
   have w7:=hk7.wf
   have le_hk7:=hk7.le
   have le7:=hk7.le
   simp only [TP,TV,TR,and_true] at hv
   have t79:aa T7 79=qr:=(hs7.at_ 79 zU).trans (zV hl6)
   have t6:aa T7 6=q6:=(hs7.at_ 6 zU).trans (zV (aC hl6 z6))
   obtain ⟨w,hr,hld⟩:=dw (hqr6.mono hk7.sub) hj
   have hix:=Zv hqr6 .i64 j hj
   have hRj:=hRm _ (TM hj)
   simp only [TH,hl6] at hl7
   refine zW (dV hl7 t79 t6 hi7 hix hld) ?_
   refine Y5 (ED C (d:=d) (e:=f) zF (hr.mono (ZB H7 _)) ((hr6.mono hk7.sub).mono (ZB H7 _)) zO hd0 zO hRj.1 (fun r hr=>(hLm r hr).1) hRj.2 (fun r hr=>(hLm r hr).2) zO) ?_
   rintro v H8 ⟨q,rfl,hrq,hk8⟩
   have k78:Kp H7 H8:=Zi (Kp.up (Zg w7) _) hk8
   have le_k78:=k78.le
   have k68:Kp H6 H8:=hk7.trans k78
   have le_k68:=k68.le
   have w8:=k68.wf
   rw [hLL] at hrq
   have oq:=hrq.one
   have hlen:((R.take j).map (Lin.restF L)).length<=R.length:=by simp; omega
   obtain ⟨n6,H9,e6,b6,k6,nx6,f6,u6⟩:=Y6 (ty2:=af) (bytes:=24) (id:=H8.next+3) (id2:=H8.next+2) (k:=5) (cs:=[q]) (a:=Lin.restF L R[j]) (ho.mono k78.sub) zU k68 ⟨q,rfl,hrq⟩ zO zO zO zO zO zO zO
   have e6':cM ((H8.up 5).put (H8.next+2) (.cells [q] af true)) (H8.next+3) 1 24 af o (.own (H8.next+2) 0 1 1 1 true)=some (.own (H8.next+3) 0 n6 n6 1 false,H9):=e6
   refine zW (aD hl7 hv e6') ?_
   refine ⟨k6,_,rfl,?_⟩
   rw [TX hj,UK]
   exact b6
  ·rintro T7 H7 hl7 hs7 hk7 ⟨o,hv,ho⟩
   simp only [TP,TV,TR,and_true] at hv
   rw [Ur] at ho
   refine zW (aC hl7 @aW) ?_
   exact ⟨o,hv,hk7,ho⟩
 rintro T7 H7 hs7 ⟨o,a7,k67,bl7⟩
 have w7:=k67.wf
 have a6:aa T7 6=q6:=(hs7.at_ 6 zU).trans z6
 have hl7:T7.length=100:=hs7.len.trans hl6
 have hGR:(R.map (Lin.restF L)).mergeSort Lin.cmpV=Lin.gensR d E I:=by rw [hR,hL]; rfl
 have hperm:(Lin.gensR d E I).Perm (R.map (Lin.restF L)):=by rw [<- hGR]; exact YK _ _
 have hMm:∀ r∈R.map (Lin.restF L),r.length=d/\∀ z∈r,eY z:=fun r hr=>by
  have h:=tR r (hperm.mem_iff.2 hr)
  exact ⟨h.1,fun z hz=>(kn h.2 z hz).sm zO⟩
 refine aP ?_
 refine zW (aD hl7 @a7 @au) ?_
 refine Y5 (BB C.q87 rfl (H0:=H6) (d:=d) (k67.up _) (bl7.mono (ZB H7 _)) (fun r hr=>(hMm r hr).1) (hperm.nodup_iff.1 (Lin.told_nodup hT)) (by rw [TT]; omega) fun D a b hD x hx y hy hxa hyb=>(DO C hD hxa hyb ((hMm x hx).1.trans (hMm y hy).1.symm) (by rw [(hMm x hx).1]; omega) (hMm x hx).2 (hMm y hy).2).mono fun _ _ h=>h.1) ?_
 rintro v H8 ⟨rfl,hk8,bl8⟩
 rw [hGR] at bl8
 refine zW (aC hl7 @au) ?_
 refine aP ?_
 refine zW (aX hl7 @a6 @a7 @au) ?_
 refine WC.wb ?_
 refine zW (aC hl7 hrs) ?_
 have k08:Kp H H8:=(k5.trans k56).trans hk8
 have le_k08:=k08.le
 rw [<- hL]
 exact ⟨_,_,rfl,(hr6.mono hk8.sub).mono (ZB H8 _),bl8.sl.mono (ZB H8 _),k08.up _⟩
end
theorem iV {α:Type} {l m:List α} (he:l.length=m.length) (h:∀ q (h:q<l.length) (h':q<m.length),l[q]=m[q]):l=m :=
 VE he fun q h1 h2=>h q h1 h2
def ju (many ai:Nat) (r:List (Bool × List Nat)):Bool:=decide (many<r.length) || r.any fun z=>decide (ai<z.2.length)
section
variable {tab:Nat->Option aw} {H:Heap} {s:AV}
theorem GI (C:Code tab) (hw:Wf H) {a b:AV} {l m:List Nat} (ha:Lb H a l) (hb:Lb H b m) (hl':l.length<4611686018427387904) :
  Ans tab (.fn fV [a,b]) H fun v H'=>v=.bool (decide (l=m))/\Kp H H':=by
 refine bz C.q119 zU fun T hl g0 g1=>?_
 by_cases he:l.length=m.length
 ·have lb:lenV b=some (.int .i64 (l.length:Int)):=by rw [hb.lenV,he]
  refine zW (bS hl g0 g1 ha.lenV lb) ?_
  refine cp H [5] (fun k vs H'=>∃ i:Nat,vs=[.int .i64 (i:Int)]/\i+k=l.length/\∀ q (h:q<l.length) (h':q<m.length),q<i->l[q]=m[q]) l.length (by simp only [TH]; exact hl) rfl zK ⟨0,by refine zW (aD hl g0 g1) ?_; rfl,by omega,fun q _ _ h=>by omega⟩ ?_
  rintro k T1 H1 hl1 hs1 hk1 ⟨i,hv,hik,hP⟩
  have w1:=hk1.wf
  have le_hk1:=hk1.le
  simp only [TP,TV,TR,and_true] at hv
  have t0:aa T1 0=a:=(hs1.at_ 0 zU).trans (zV (aC hl g0))
  have t1:aa T1 1=b:=(hs1.at_ 1 zU).trans (zV (aX hl g0 g1 g1))
  by_cases hi:i<l.length
  ·have hii:(i:Int)<(l.length:Int):=by omega
   have hi':i<m.length:=by omega
   obtain ⟨w,hr,hld⟩:=Zt (ha.mono hk1.sub) (TL hi)
   obtain ⟨w',hr',hld'⟩:=Zt (hb.mono hk1.sub) (TL hi')
   have hr:w=.int .u64 ((l[i]:Nat):Int):=hr
   have hr':w'=.int .u64 ((m[i]:Nat):Int):=hr'
   subst hr; subst hr'
   have hix:=Zv ha .i64 i hi
   have hix':=Zv hb .i64 i hi'
   have e:IntKind.i64.wrap ((i:Int)+1)=((i+1:Nat):Int):=by rw [wrap_i64] <;> omega
   refine zW (gh hl1 hv t0 t1 ha.lenV hii hi) ?_
   refine aI ?_
   by_cases hq:l[i]=m[i]
   ·have hq':((l[i]:Nat):Int)=((m[i]:Nat):Int):=by omega
    refine zD (qi hl1 hv t0 t1 hix hld hix' hld' hq' e) ?_
    refine ⟨zK,k-1,by omega,i+1,rfl,by omega,fun q h h' hqi=>?_⟩
    by_cases eq:q=i
    ·subst eq; exact hq
    ·exact hP q h h' zO
   ·have hq':¬ ((l[i]:Nat):Int)=((m[i]:Nat):Int):=by omega
    refine zD (oF hl1 hv t0 t1 hix hld hix' hld' hq' hq e) ?_
    refine ⟨?_,zK⟩
    rw [decide_eq_false]
    intro e; subst e; exact hq rfl
  ·have hii:¬ (i:Int)<(l.length:Int):=by omega
   refine zW (gh hl1 hv t0 t1 ha.lenV hii hi) ?_
   refine ⟨?_,zK⟩
   rw [decide_eq_true (iV he fun q h h'=>hP q h h' zO)]
 ·have he':¬ (l.length:Int)=(m.length:Int):=by omega
  refine zW (gh hl g0 g1 ha.lenV hb.lenV he' he) ?_
  refine ⟨?_,zK⟩
  rw [decide_eq_false]
  intro e; subst e; exact he rfl
theorem B2 {x y:Nat} (h:ai x=ai y):x=y:=by
 have:=congrArg val h
 rwa [bF,bF] at this
theorem GH (C:Code tab) (hw:Wf H) {a b:AV} {x y:Int} (ha:IntV H a x) (hb:IntV H b y) (hx:eY x) :
  Ans tab (.fn fU [a,b]) H fun v H'=>v=.bool (decide (x=y))/\Kp H H':=by
 obtain ⟨p,rfl,hp⟩:=ha
 obtain ⟨q,rfl,hq⟩:=hb
 have op:=hp.one
 have oq:=hq.one
 unfold eY Sm at hx
 refine bz C.q93 zU fun T hl g0 g1=>?_
 by_cases h:decide (x<0)=decide (y<0)
 ·have h':(decide (x<0) == decide (y<0))=true:=by rw [h]; simp
  refine zW (aX hl g0 g1 h') ?_
  refine Y4 (GI C zF (hp.mono (zG H)) (hq.mono (zG H)) zO) fun H2 hk2=>?_
  obtain ⟨k2,_,_⟩:=zT H zK hk2
  refine zW (aD hl g0 g1) ?_
  refine ⟨?_,zK⟩
  by_cases e:x=y
  ·rw [decide_eq_true e,decide_eq_true (by rw [e])]
  ·rw [decide_eq_false e,decide_eq_false]
   intro h2
   have:=B2 h2
   have h3:(x<0) ↔ (y<0):=by simpa using h
   omega
 ·have h':(decide (x<0) == decide (y<0))=false:=by simpa using h
  refine zW (aX hl g0 g1 h') ?_
  refine ⟨?_,zK⟩
  rw [decide_eq_false]
  intro e; subst e; exact h rfl
theorem zJ (C:Code tab) (hw:Wf H) {a b:AV} {l m:List Int} (ha:RowV H a l) (hb:RowV H b m) (hl':l.length<1099511627776) (hz:∀ z∈l,eY z) :
  Ans tab (.fn fT [a,b]) H fun v H'=>v=.bool (decide (l=m))/\Kp H H':=by
 refine bz C.q67 zU fun T hl g0 g1=>?_
 by_cases he:l.length=m.length
 ·have lb:lenV b=some (.int .i64 (l.length:Int)):=by rw [hb.lenV,he]
  refine zW (bS hl g0 g1 ha.lenV lb) ?_
  refine cp H [5] (fun k vs H'=>∃ i:Nat,vs=[.int .i64 (i:Int)]/\i+k=l.length/\∀ q (h:q<l.length) (h':q<m.length),q<i->l[q]=m[q]) l.length (by simp only [TH]; exact hl) rfl zK ⟨0,by refine zW (aD hl g0 g1) ?_; rfl,by omega,fun q _ _ h=>by omega⟩ ?_
  rintro k T1 H1 hl1 hs1 hk1 ⟨i,hv,hik,hP⟩
  have w1:=hk1.wf
  have le_hk1:=hk1.le
  simp only [TP,TV,TR,and_true] at hv
  have t0:aa T1 0=a:=(hs1.at_ 0 zU).trans (zV (aC hl g0))
  have t1:aa T1 1=b:=(hs1.at_ 1 zU).trans (zV (aX hl g0 g1 g1))
  by_cases hi:i<l.length
  ·have hii:(i:Int)<(l.length:Int):=by omega
   have hi':i<m.length:=by omega
   obtain ⟨w,hn,L,hix⟩:=nD w1 (ha.mono hk1.sub) hi
   obtain ⟨w',hn',L',hix'⟩:=nD w1 (hb.mono hk1.sub) hi'
   have hld:=L.ld
   have hld':=L'.ld
   have e:IntKind.i64.wrap ((i:Int)+1)=((i+1:Nat):Int):=by rw [wrap_i64] <;> omega
   refine zW (gh hl1 hv t0 t1 ha.lenV hii hi) ?_
   refine aI ?_
   refine zD (lA hl1 hv t0 t1 hix hld hix' hld') ?_
   refine Y4 (GH C zF ⟨w,rfl,hn.mono (zG H1)⟩ ⟨w',rfl,hn'.mono (zG H1)⟩ (hz _ (TM hi))) fun H2 hk2=>?_
   obtain ⟨k12,_,_⟩:=zT H1 zK hk2
   have k2:Kp H H2:=Zi hk1 k12
   have le_k2:=k2.le
   cases hq:decide (l[i]=m[i]) with
   | true =>
    have hq:=of_decide_eq_true hq
    refine zD (ko hl1 hv t0 t1 hix hld hix' hld' e) ?_
    refine ⟨zK,k-1,by omega,i+1,rfl,by omega,fun q h h' hqi=>?_⟩
    by_cases eq:q=i
    ·subst eq; exact hq
    ·exact hP q h h' zO
   | false =>
    have hq:=of_decide_eq_false hq
    refine zD (ko hl1 hv t0 t1 hix hld hix' hld' e) ?_
    refine ⟨?_,zK⟩
    rw [decide_eq_false]
    intro e; subst e; exact hq rfl
  ·have hii:¬ (i:Int)<(l.length:Int):=by omega
   refine zW (gh hl1 hv t0 t1 ha.lenV hii hi) ?_
   refine ⟨?_,zK⟩
   rw [decide_eq_true (iV he fun q h h'=>hP q h h' zO)]
 ·have he':¬ (l.length:Int)=(m.length:Int):=by omega
  refine zW (gh hl g0 g1 ha.lenV hb.lenV he' he) ?_
  refine ⟨?_,zK⟩
  rw [decide_eq_false]
  intro e; subst e; exact he rfl
theorem xH (C:Code tab) (hw:Wf H) {a:AV} {r:List (Bool × List Nat)} {many lim:Nat} (ha:SlV rawE ad H a r) (hm:many<4611686018427387904) :
  Ans tab (.fn ft [a,.int .i64 (many:Int),.int .i64 (lim:Int)]) H fun v H'=>v=.bool (ju many lim r)/\Kp H H':=by
 refine nd C.q27 zU fun T hl g0 g1 g2=>?_
 by_cases he:many<r.length
 ·have he':(many:Int)<(r.length:Int):=by omega
  refine zW (dV hl g0 g1 ha.lenV he' he) ?_
  exact ⟨by unfold ju; rw [decide_eq_true he]; rfl,zK⟩
 ·have he':¬ (many:Int)<(r.length:Int):=by omega
  refine zW (gh hl g0 g1 g2 ha.lenV he' he) ?_
  refine cp H [7] (fun k vs H'=>∃ i:Nat,vs=[.int .i64 (i:Int)]/\i+k=r.length/\∀ q (h:q<r.length),q<i->¬ lim<(r[q]).2.length) r.length (by simp only [TH]; exact hl) rfl zK ⟨0,by refine zW (aX hl g0 g1 g2) ?_; rfl,by omega,fun q _ h=>by omega⟩ ?_
  rintro k T1 H1 hl1 hs1 hk1 ⟨i,hv,hik,hP⟩
  have w1:=hk1.wf
  have le_hk1:=hk1.le
  simp only [TP,TV,TR,and_true] at hv
  have t0:aa T1 0=a:=(hs1.at_ 0 zU).trans (zV (aC hl g0))
  have t2:aa T1 2=.int .i64 (lim:Int):=(hs1.at_ 2 zU).trans (zV (bS hl g0 g1 g2 g2))
  by_cases hi:i<r.length
  ·have hii:(i:Int)<(r.length:Int):=by omega
   obtain ⟨cs,⟨w,rfl,hn⟩,-,h2,-⟩:=(ha.mono hk1.sub).at (TL hi)
   have hld:bg H1 none (az a (i*2+1))=some w:=h2 1 w rfl
   have hix:cw 2 a (.int .i64 (i:Int))=some (az a (i*2)):=Zu ha .i64 i hi
   have hfa:Ay 1 (az a (i*2))=some (az a (i*2+1)):=ha.fa zO 1 (i*2)
   have e:IntKind.i64.wrap ((i:Int)+1)=((i+1:Nat):Int):=by rw [wrap_i64] <;> omega
   by_cases hq:lim<(r[i]).2.length
   ·have hq':(lim:Int)<((r[i]).2.length:Int):=by omega
    refine zW (Bm hl1 hv t0 t2 ha.lenV hii hi hix hfa hld hn.lenV hq' hq) ?_
    refine ⟨?_,zK⟩
    unfold ju
    rw [Uv.2 ⟨_,TM hi,by rw [decide_eq_true hq]⟩,XL]
   ·have hq':¬ (lim:Int)<((r[i]).2.length:Int):=by omega
    refine zW (Ge hl1 hv t0 t2 ha.lenV hii hi hix hfa hld hn.lenV hq' hq e) ?_
    refine ⟨zK,k-1,by omega,i+1,rfl,by omega,fun q h hqi=>?_⟩
    by_cases eq:q=i
    ·subst eq; exact hq
    ·exact hP q h zO
  ·have hii:¬ (i:Int)<(r.length:Int):=by omega
   refine zW (gh hl1 hv t0 t2 ha.lenV hii hi) ?_
   refine ⟨?_,zK⟩
   have e:(r.any fun z=>decide (lim<z.2.length))=false:=by
    rw [Vh]
    intro z hz
    obtain ⟨q,hq,rfl⟩:=UY hz
    simpa using hP q hq zO
   unfold ju
   rw [decide_eq_false he,Xw,e]
theorem QI (C:Code tab) (hw:Wf H) {l:List Int} {ty:Nat} (hs:yT (Hn .i64) ty H s l) (h64:l.length<=64) (hz:∀ z∈l,-9223372036854775808<=z/\z<9223372036854775808) :
  Ans tab (.fn zZ [s]) H fun v H'=>RowV H' v l/\Kp H H':=by
 refine cU C.q34 zU fun T hl g0=>?_
 obtain ⟨cells,hcells⟩:∃ cells,cells=(List.replicate l.length [AV.bool false,AV.nilSl]).flatten:=⟨_,rfl⟩
 have hmk:∀ H':Heap,IF H' (H.next+3) ad 2 32 [.bool false,.nilSl] (.int .i64 (l.length:Int)) (.int .i64 (l.length:Int))=some (.own (H.next+3) 0 l.length l.length 2 true,H'.put (H.next+3) (.cells cells ad true)):=fun H'=>by rw [hcells]; exact jt _ _ _ _ _ _ _ _ _ zO zO rfl
 refine zW (aX hl g0 hs.lenV hmk) ?_
 have hz0:intE.R H [.bool false,.nilSl] 0:=⟨.nilSl,by simp,fM H⟩
 have hcl0:Cells intE H cells (List.replicate l.length 0):=by rw [hcells]; exact rW hz0 _
 refine am H [3] (fun j vs H'=>vs=[.own (H.next+3) 0 l.length l.length 2 true]/\∃ cs,H'.get (H.next+3)=some (.cells cs ad true)/\Cells intE H' cs (l.take j++List.replicate (l.length-j) 0)) (a:=0) (N:=l.length) rfl (by refine zW (aC hl g0) ?_; rfl) (zV (aC hl g0)) (TY _) zO (by simp only [TH,hl]; rfl) rfl (fun j vs H' m ⟨h0,cs,h1,h2⟩=>⟨h0,cs,h1,Y8 (E:=intE) ((ZB H' m).t _) h2⟩) zK ⟨by exact zV (aC hl g0),cells,by exact cP,by
  have e:List.take 0 l++List.replicate (l.length-0) 0=List.replicate l.length 0:=by simp
  rw [e]
  exact Y8 (E:=intE) zS hcl0⟩ ?_ ?_
 ·rintro j T1 H1 _ hj hl1 hi1 hs1 hk1 ⟨hv,cs,hb1,hc1⟩
  have w1:=hk1.wf
  have le_hk1:=hk1.le
  have le1:=hk1.le
  simp only [TP,TV,TR,and_true] at hv
  have t9:aa T1 9=s:=(hs1.at_ 9 zU).trans (zV (aC hl g0))
  obtain ⟨w,hr,hld⟩:=Zt (hs.mono hk1.sub) (TL hj)
  have hr:w=.int .i64 l[j]:=hr
  subst hr
  have hix:=Zv hs .i64 j hj
  have hzj:=hz _ (TM hj)
  simp only [TH,hl] at hl1
  refine zW (dV hl1 t9 hi1 hix hld hv) ?_
  refine Y5 (oH C zF hzj.1 hzj.2) ?_
  rintro v H2 ⟨⟨w,rfl,hn⟩,hk2⟩
  obtain ⟨k2,_,w2⟩:=zT H1 zK hk2
  have ow:=hn.one
  have hb2:=k2.get hb1
  have lt2:=w2 _ _ hb2
  have hclen:cs.length=l.length*2:=by
   have:=hc1.1
   rw [T9,Un,Wm] at this
   have e:intE.sz=2:=rfl
   rw [e] at this
   rw [this]; congr 1; omega
  have hst:Eo (some (.cells cs ad true)) 2 (0+j*2) (.agg [.bool (decide (l[j]<0)),w])=some (.cells (cs.take (0+j*2)++[.bool (decide (l[j]<0)),w]++cs.drop (0+j*2+2)) ad true):=jd (Fk (aR _) ow) zO
  have hio:cw 2 (.own (H.next+3) 0 l.length l.length 2 true) (.int .i64 (j:Int))=some (.ptr (H.next+3) (0+j*2)):=nE hj
  rw [Ut] at hst hio
  have hcl2:Cells intE H2 (cs.take (j*2)++[.bool (decide (l[j]<0)),w]++cs.drop (j*2+2)) ((l.take j++List.replicate (l.length-j) 0).set j l[j]):=(Y8 (E:=intE) (k2.sub.t _) hc1).set (i:=j) (by simp; omega) ⟨w,rfl,hn⟩
  have elist:(l.take j++List.replicate (l.length-j) 0).set j l[j]=l.take (j+1)++List.replicate (l.length-(j+1)) 0:=by
   have e1:l.length-j=(l.length-(j+1))+1:=by omega
   have e2:j-(List.take j l).length=0:=by simp; omega
   rw [e1,Vf,List.set_append,if_neg (by simp; omega),e2,List.set_cons_zero,TX hj,VJ]
   rfl
  rw [elist] at hcl2
  have m3:NoTy [ae] H2 (H.next+3):=Zp hb2 zU
  refine zW (bS hl1 hv hio hb2 hst) ?_
  have kH2:Kp H H2:=hk1.trans k2
  exact ⟨zK,_,rfl,Y8 (E:=intE) zS hcl2⟩
 ·rintro T1 H1 hl1 hs1 hk1 ⟨hv,cs,hb1,hc1⟩
  have w1:=hk1.wf
  have le_hk1:=hk1.le
  simp only [TP,TV,TR,and_true] at hv
  simp only [TH,hl] at hl1
  refine zW (aC hl1 hv) ?_
  refine ⟨?_,zK⟩
  have e:List.take l.length l++List.replicate (l.length-l.length) 0=l:=by simp
  rw [e] at hc1
  have:Own intE ad H H1 (H.next+3) true (.own (H.next+3) 0 l.length l.length 2 true) l:=⟨cs,rfl,hb1,hc1,by omega⟩
  exact this.sl.mono (ZB H1 _)
end
theorem xM {β:Type} {P:Nat->β->Prop}:∀ n,(∀ i,i<n->∃ y,P i y)->∃ l:List β,l.length=n/\∀ i (h:i<l.length),P i l[i]
 | 0,_=>⟨[],rfl,fun i h=>by simp at h⟩
 | n+1,h=>by
  obtain ⟨l,h1,h2⟩:=xM n fun i hi=>h i (by omega)
  obtain ⟨y,hy⟩:=h n (by omega)
  refine ⟨l++[y],by simp [h1],fun i hi=>?_⟩
  by_cases hin:i<l.length
  ·rw [Yh hin]; exact h2 i hin
  ·have:i=n:=by rw [T9] at hi; simp at hi; omega
   subst this
   rw [X6 (by omega)]
   simpa [h1] using hy
theorem IY {β:Type} {sz:Nat} {f:β->List AV}:∀ (l:List β),(∀ y∈l,(f y).length=sz)->(l.flatMap f).length=l.length*sz/\∀ i (h:i<l.length) k,k<sz->(l.flatMap f)[i*sz+k]? = (f l[i])[k]?
 | [],_=>⟨by simp,fun i h=>by simp at h⟩
 | y :: l,h=>by
  obtain ⟨h1,h2⟩:=IY l fun z hz=>h z (TQ _ hz)
  have hy:=h y (TW ..)
  refine ⟨by rw [Y1,T9,h1,hy,UH,Vr]; omega,fun i hi k hk=>?_⟩
  rw [Y1]
  cases i with
  | zero=>rw [Uo (by omega)]; simp
  | succ i =>
   rw [UI (by rw [Vr]; omega),hy]
   have e:(i+1)*sz+k-sz=i*sz+k:=by rw [Vr]; omega
   rw [e,h2 i (by simpa using hi) k hk]
   simp
def wZ {HT:Type}:DataW HT->List (DataW HT)
 | .slice l _=>l
 | _=>[]
def Q9 {HT:Type}:DataW HT->List (DataW HT)
 | .agg l=>l
 | _=>[]
def Hk {HT:Type} (y:DataW HT) (z:Bool × List Nat):Prop:=∃ y2∈Q9 y,z.2.length<=(wZ y2).length
section
variable {HT:Type} {enc:TypeId × Value->HT} {P:Program} {w:World} {base:Nat} {sp:Nat->Bool} {held:Bool} {μ:Mu} {F:Nat->Prop} {H:Heap} {α:Type}
theorem zd {E:fg α} {ty:Nat} {good:DataW HT->α->Prop} {t e:TypeId} (hF:∀ c,c<w.heap.size->F c) (ht:P.underlying t=some (.slice e)) (hsz:P.cellsOf e=E.sz)
  (helem:∀ fuel cs x,DataW.trod enc P w base sp held fuel e cs=some x->∃ acs z,LR μ F w acs cs/\E.R H acs z/\good x.1 z)
  {fuel:Nat} {cs:List Value} {x:DataW HT × List MemPlace} (h:DataW.trod enc P w base sp held fuel t cs=some x) :
  ∃ v av zs,cs=[v]/\VR μ F w av v/\SlV E ty H av zs/\(∀ z∈zs,∃ y∈wZ x.1,good y z)/\zs.length<=maxLen/\zs.length<=(wZ x.1).length:=by
 rcases DataW.trod_slice ht h with ⟨rfl,-⟩ | ⟨a,len,cap,elems,rest,n,-,rfl,ex,hb,hl,hc,hlen,hel,-⟩
 ·exact ⟨_,.nilSl,[],rfl,.nilSl,Zx _ _ _,(fun z h=>by cases h),TY _,TY _⟩
 ·rcases VO len with h0 | h0
  ·subst h0
   refine ⟨_,.sl [] 0,[],rfl,.sl0 a cap,⟨[],⟨trivial,(fun s h=>by cases h),0,rfl,by simp [aM]⟩,(fun _ _ _ _ _ _ e=>by cases e),by simp,fun i a h=>by simp at h⟩,fun z h=>(by cases h),TY _,TY _⟩
  ·have hp:=E.pos
   obtain ⟨L,hL1,hL2⟩:=xM (P:=fun i (y:List AV × List Value × α)=>w.cells? base (a.add (i*E.sz)) E.sz=some y.2.1/\LR μ F w y.1 y.2.1/\E.R H y.1 y.2.2/\∃ h:i<elems.length,good elems[i].1 y.2.2) len fun i hi=>by
    have h1:=hel i hi
    rw [TL (by omega),hsz] at h1
    obtain ⟨cs,h2,h3⟩:=TG.1 h1
    obtain ⟨acs,z,h4,h5,h6⟩:=helem _ _ _ h3
    exact ⟨(acs,cs,z),h2,h4,h5,by omega,h6⟩
   have hsizes:∀ y∈L,y.1.length=E.sz:=fun y hy=>by
    obtain ⟨i,hi,rfl⟩:=UY hy
    exact (E.len (hL2 i hi).2.2.1).1
   obtain ⟨hfl,hfa⟩:=IY (f:=fun y:List AV × List Value × α=>y.1) L hsizes
   have hcell:∀ i (hi:i<L.length) k,k<E.sz->w.cell? (a.add (i*E.sz) |>.add k)=(L[i]).2.1[k]?:=fun i hi k hk=>((World.cells?_some (hL2 i hi).1).2.2 k hk)
   obtain ⟨v0,hv0⟩:∃ v0,w.cell? a=some v0:=by
    have h1:=hcell 0 (by omega) 0 hp
    have h2:=(World.cells?_some (hL2 0 (by omega)).1).2.1
    rw [TL (by omega)] at h1
    simp [Addr.add] at h1
    exact ⟨_,h1⟩
   obtain ⟨arr,ety,fr,hblk,hspot⟩:∃ arr ety fr,w.heap[a.block]? = some (.cells arr ety fr)/\a.spot=none:=by
    unfold World.cell? at hv0
    split at hv0
    ·rename_i c ety fr hb
     refine ⟨c,ety,fr,hb,?_⟩
     cases hs:a.spot with
     | none=>rfl
     | some s=>rw [hs] at hv0; simp at hv0
    ·cases hv0
   obtain ⟨blk,off,spot⟩:=a
   simp only at hspot hblk hb
   subst hspot
   have hat:∀ i (hi:i<L.length) k,k<E.sz->arr[off+(i*E.sz+k)]? = (L[i]).2.1[k]?:=fun i hi k hk=>by
    rw [<- hcell i hi k hk]
    have e:((⟨blk,off,none⟩:Addr).add (i*E.sz) |>.add k)=⟨blk,off+(i*E.sz+k),none⟩:=by
     unfold Addr.add
     by_cases h1:i*E.sz=0
     ·by_cases h2:k=0
      ·simp [h1,h2]
      ·simp [h1,h2]
     ·by_cases h2:k=0
      ·simp [h1,h2]
      ·simp [h1,h2]; omega
    rw [e]
    simp [World.cell?,hblk]
   have hvl:∀ i (hi:i<L.length),(L[i]).2.1.length=E.sz:=fun i hi=>(World.cells?_some (hL2 i hi).1).2.1
   have hsize:off+(L.flatMap fun y=>y.1).length<=arr.size:=by
    have h1:=hat (len-1) (by omega) (E.sz-1) (by omega)
    rw [TL (by have:=hvl (len-1) (by omega); omega)] at h1
    have h2:=(UU.1 h1).1
    rw [hfl,hL1]
    have h3:len*E.sz=(len-1)*E.sz+E.sz:=by
     obtain ⟨m,rfl⟩:∃ m,len=m+1:=⟨len-1,by omega⟩
     rw [Vr,VP]
    omega
   refine ⟨_,.sl (L.flatMap fun y=>y.1) len,L.map fun y=>y.2.2,rfl,.sl _ _ _ blk off arr ety fr (hF _ (UU.1 hblk).1) hblk hl hsize fun j c v hc hv=>?_,⟨L.flatMap fun y=>y.1,⟨trivial,(fun s h=>by cases h),len,rfl,?_⟩,(fun _ _ _ _ _ _ e=>by cases e),?_,fun i z hz=>?_⟩,fun z hz=>?_,by rw [TT,hL1]; omega,by rw [TT,hL1,ex]; simp [wZ,hlen]⟩
   ·have hj:=(TZ.1 hc).1
    rw [hfl] at hj
    have hi:j / E.sz<L.length:=(Uk hp).2 hj
    have hk:j % E.sz<E.sz:=UL _ hp
    have hjk:j / E.sz*E.sz+j % E.sz=j:=W3 j E.sz
    have h1:=hfa _ hi _ hk
    have h2:=hat _ hi _ hk
    rw [hjk] at h1 h2
    rw [hc] at h1
    rw [hv] at h2
    exact (hL2 _ hi).2.1.2 _ _ _ h1.symm h2.symm
   ·simp only [aM]
    rw [if_pos ⟨TO _,by rw [hfl,hL1]; exact TO _⟩,Ug (by rw [hfl,hL1]; exact TO _)]
   ·rw [hfl,TT]
   ·rw [UM,TU] at hz
    obtain ⟨y,hy,rfl⟩:=hz
    obtain ⟨hi,rfl⟩:=TZ.1 hy
    have e:(((L.flatMap fun y=>y.1).drop (i*E.sz)).take E.sz)=L[i].1:=by
     apply Vp
     intro k
     rw [Uh]
     have hl1:=hsizes _ (TM hi)
     split
     ·rename_i hk
      rw [Ui]; exact hfa i hi k hk
     ·exact (Uw (by omega)).symm
    rw [e]
    exact (hL2 i hi).2.2.1
   ·obtain ⟨y,hy,rfl⟩:=TN.1 hz
    obtain ⟨i,hi,rfl⟩:=UY hy
    obtain ⟨h1,h2⟩:=(hL2 i hi).2.2.2
    rw [ex]
    exact ⟨_,TN.2 ⟨_,TM h1,rfl⟩,h2⟩
theorem OS {E:fg α} {ty:Nat} {good:α->Prop} {t e:TypeId} (hF:∀ c,c<w.heap.size->F c) (ht:P.underlying t=some (.slice e)) (hsz:P.cellsOf e=E.sz)
  (helem:∀ fuel cs x,DataW.trod enc P w base sp held fuel e cs=some x->∃ acs z,LR μ F w acs cs/\E.R H acs z/\good z)
  {fuel:Nat} {cs:List Value} {x:DataW HT × List MemPlace} (h:DataW.trod enc P w base sp held fuel t cs=some x) :
  ∃ v av zs,cs=[v]/\VR μ F w av v/\SlV E ty H av zs/\(∀ z∈zs,good z)/\zs.length<=maxLen:=by
 obtain ⟨v,av,zs,h1,h2,h3,h4,h5,-⟩:=zd (good:=fun _ z=>good z) hF ht hsz helem h
 exact ⟨v,av,zs,h1,h2,h3,fun z hz=>(h4 z hz).elim fun _ h=>h.2,h5⟩
theorem JI {t:TypeId} (ht:P.underlying t=some (.int .u64)) {fuel:Nat} {cs:List Value} {x:DataW HT × List MemPlace} (h:DataW.trod enc P w base sp held fuel t cs=some x) :
  ∃ acs z,LR μ F w acs cs/\(bU cm).R H acs z/\z<18446744073709551616:=by
 obtain ⟨n,rfl,-,hw⟩:=DataW.trod_int ht h
 have hr:0<=n/\n<18446744073709551616:=by
  have h1:IntKind.u64.min=0:=by decide
  have h2:IntKind.u64.max=18446744073709551615:=by decide
  unfold Lit.wf at hw
  simp [h1,h2] at hw
  omega
 refine ⟨[.int .u64 n],n.toNat,Zj (.int _ _) Zk,⟨_,rfl,?_⟩,by omega⟩
 show AV.int .u64 n=.int .u64 (n.toNat:Int)
 rw [YI hr.1]
theorem Mk {t e:TypeId} (hF:∀ c,c<w.heap.size->F c) (ht:P.underlying t=some (.slice e)) (he:P.underlying e=some (.int .u64)) (hsz:P.cellsOf e=1) {fuel:Nat} {cs:List Value} {x:DataW HT × List MemPlace} (h:DataW.trod enc P w base sp held fuel t cs=some x) :
  ∃ v av zs,cs=[v]/\VR μ F w av v/\SlV (bU cm) ae H av zs/\(∀ z∈zs,z<18446744073709551616)/\zs.length<=maxLen/\zs.length<=(wZ x.1).length:=by
 obtain ⟨v,av,zs,h1,h2,h3,h4,h5⟩:=zd (E:=bU cm) (ty:=ae) (H:=H) (μ:=μ) (good:=fun _ z=>z<18446744073709551616) hF ht hsz (fun fuel cs x h=>JI he h) h
 exact ⟨v,av,zs,h1,h2,h3,fun z hz=>(h4 z hz).elim fun _ h=>h.2,h5⟩
def DA (z:Bool × List Nat):Prop:=(∀ x∈z.2,x<18446744073709551616)/\z.2.length<=maxLen
theorem Mj {t e:TypeId} {fs:Array Field} {f0 f1:Field} (hF:∀ c,c<w.heap.size->F c) (ht:P.underlying t=some (.struct fs)) (hfs:fs = #[f0,f1]) (h0:f0.offset=0) (h1:f1.offset=1) (hc:P.cellsOf t=2) (hb:P.underlying f0.type=some .bool) (hcb:P.cellsOf f0.type=1) (hn:P.underlying f1.type=some (.slice e)) (hcn:P.cellsOf f1.type=1) (he:P.underlying e=some (.int .u64)) (hce:P.cellsOf e=1)
  {fuel:Nat} {cs:List Value} {x:DataW HT × List MemPlace} (h:DataW.trod enc P w base sp held fuel t cs=some x) :
  ∃ acs z,LR μ F w acs cs/\rawE.R H acs z/\DA z/\Hk x.1 z:=by
 subst hfs
 obtain ⟨xs,n,-,ex,hl,hxl,hx⟩:=DataW.trod_struct ht h
 have hxl:xs.length=2:=by simpa using hxl
 rw [hc] at hl
 match cs,hl with
 | [c0,c1],_ =>
  have e0:=hx 0 f0 rfl
  have e1:=hx 1 f1 rfl
  rw [TL (by omega),h0,hcb] at e0
  rw [TL (by omega),h1,hcn] at e1
  have m1:xs[1]∈xs:=TM _
  obtain ⟨b,g0,-⟩:=DataW.trod_bool hb e0
  obtain ⟨v,av,zs,g1,g2,g3,g4,g5,g6⟩:=Mk (H:=H) (μ:=μ) hF hn he hce e1
  have q0:c0=.bool b:=by simpa using g0
  have q1:c1=v:=by simpa using g1
  clear g0 g1
  subst q0; subst q1
  exact ⟨[.bool b,av],(b,zs),Zj (.bool _) (Zj g2 Zk),⟨av,rfl,g3⟩,⟨g4,g5⟩,by rw [ex]; exact ⟨_,TN.2 ⟨_,m1,rfl⟩,g6⟩⟩
structure RowTys (P:Program) (tvs tv ti te:TypeId):Prop where
 vs:P.underlying tvs=some (.slice tv)
 cv:P.cellsOf tv=1
 v:P.underlying tv=some (.slice ti)
 ci:P.cellsOf ti=2
 i:∃ f0 f1:Field,P.underlying ti=some (.struct #[f0,f1])/\f0.offset=0/\f1.offset=1/\P.underlying f0.type=some .bool/\P.cellsOf f0.type=1/\P.underlying f1.type=some (.slice te)/\P.cellsOf f1.type=1
 e:P.underlying te=some (.int .u64)
 ce:P.cellsOf te=1
abbrev S7 (H:Heap) (v:AV) (l:List (Bool × List Nat)):Prop:=SlV rawE ad H v l
def iG (l:List (Bool × List Nat)):Prop:=(∀ z∈l,DA z)/\l.length<=maxLen
theorem Mi {tvs tv ti te:TypeId} (hP:RowTys P tvs tv ti te) (hF:∀ c,c<w.heap.size->F c) {fuel:Nat} {cs:List Value} {x:DataW HT × List MemPlace} (h:DataW.trod enc P w base sp held fuel tv cs=some x) :
  ∃ v av l,cs=[v]/\VR μ F w av v/\S7 H av l/\iG l/\∀ z∈l,∃ y∈wZ x.1,Hk y z:=by
 obtain ⟨f0,f1,i1,i2,i3,i4,i5,i6,i7⟩:=hP.i
 obtain ⟨v,av,l,g1,g2,g3,g4,g5,-⟩:=zd (E:=rawE) (ty:=ad) (H:=H) (μ:=μ) (good:=fun y z=>DA z/\Hk y z) hF hP.v hP.ci (fun fuel cs x h=>Mj hF i1 rfl i2 i3 hP.ci i4 i5 i6 i7 hP.e hP.ce h) h
 exact ⟨v,av,l,g1,g2,g3,⟨fun z hz=>(g4 z hz).elim fun _ h=>h.2.1,g5⟩,fun z hz=>(g4 z hz).imp fun y h=>⟨h.1,h.2.2⟩⟩
end
def fE (z:Bool × List Nat):Int:=if z.1=true then -(val z.2:Int) else (val z.2:Int)
theorem J3:∀ {z:Bool × List Nat},rI z=false->Lim z.2->eS (fE z)=z
 | (b,l),hb,hl=>by
  simp only [rI,We,decide_eq_false_iff_not,Yt] at hb
  obtain ⟨h1,h2⟩:=hb
  have hn:Ly l:=h1
  have hv:=wT hl hn
  cases b with
  | false =>
   have e:fE (false,l)=(val l:Int):=rfl
   rw [e]
   unfold eS
   rw [decide_eq_false (by omega),Wb,hv]
  | true =>
   have e:fE (true,l) = -(val l:Int):=rfl
   have hne:l≠[]:=fun e=>by subst e; simp at h2
   have hp:0<B^(l.length-1):=UF (by decide)
   have hq:=yK hn hne
   rw [e]
   unfold eS
   rw [decide_eq_true (by omega),WX,Wb,hv]
theorem SlV.int {ty:Nat} {H:Heap} {v:AV} {l:List (Bool × List Nat)} (h:SlV rawE ty H v l) (hb:∀ z∈l,rI z=false/\Lim z.2):SlV intE ty H v (l.map fE):=by
 obtain ⟨cells,hr,ht,hc,ha⟩:=h
 refine ⟨cells,hr,ht,by rw [hc,TT]; rfl,fun i a hi=>?_⟩
 rw [UM,TU] at hi
 obtain ⟨z,hz,rfl⟩:=hi
 obtain ⟨w,h1,h2⟩:=ha i z hz
 have hm:=hb z (Ua hz)
 have e:=J3 hm.1 hm.2
 have e1:decide (fE z<0)=z.1:=congrArg Prod.fst e
 have e2:ai (fE z).natAbs=z.2:=congrArg Prod.snd e
 refine ⟨w,by rw [e1]; exact h1,?_⟩
 show Lb H w (ai (fE z).natAbs)
 rw [e2]; exact h2
section
open Go.ChangeShapes Go.WideShapes
variable {HT:Type} {enc:TypeId × Value->HT} {P:Program} {w:World} {base base':Nat} {sp:Nat->Bool} {held:Bool} {μ:Mu} {F:Nat->Prop} {H:Heap}
end
theorem int_range {n:Int} (h:(Lit.int .i64 n).wf=true) : -9223372036854775808<=n/\n<9223372036854775808:=by
 have h1:IntKind.i64.min = -9223372036854775808:=by decide
 have h2:IntKind.i64.max=9223372036854775807:=by decide
 unfold Lit.wf at h
 simp [h1,h2] at h
 omega
theorem wf_nil:Wf (Heap.nil 0):=fun b e h=>by rw [Tr.nil_get] at h; cases h
theorem L6 {z:Bool × List Nat} {n:Nat} (hl:Lim z.2) (hn:z.2.length<=n):Bt (64*n) (fE z):=by
 have h1:=wh hl
 have h2:B^z.2.length<=B^n:=Up (by decide) hn
 have h3:B^n=2^(64*n):=by
  have:B=2^64:=by decide
  rw [this,<- Xa]
 unfold Bt fE
 split
 ·rw [WX,Wb]; omega
 ·rw [Wb]; omega
def P9 {α:Type} (E:fg α) (ty:Nat):fg (List α × Bool) where
 sz:=2
 tys:=ty :: E.tys
 R H cs z:=∃ v,cs=[v,.bool z.2]/\SlV E ty H v z.1
 pos:=by omega
 len:=by rintro H cs z ⟨v,rfl,h⟩; exact ⟨rfl,by simp [h.one.2]; rfl⟩
 mono:=by rintro H H' cs z hs ⟨v,rfl,h⟩; exact ⟨v,rfl,h.monoT hs⟩
def P7 {α:Type} (E:fg α) (ty:Nat):fg (Nat × List α) where
 sz:=2
 tys:=ty :: E.tys
 R H cs z:=∃ v,cs=[.int .u8 (z.1:Int),v]/\SlV E ty H v z.2
 pos:=by omega
 len:=by rintro H cs z ⟨v,rfl,h⟩; exact ⟨rfl,by simp [h.one.2]; rfl⟩
 mono:=by rintro H H' cs z hs ⟨v,rfl,h⟩; exact ⟨v,rfl,h.monoT hs⟩
abbrev conE:fg (List Int × Bool):=P9 intE ad
abbrev conQE:fg (List (Bool × List Nat) × Bool):=P9 rawE ad
abbrev genE:fg (Nat × List Int):=P7 intE ad
abbrev genQE:fg (Nat × List (Bool × List Nat)):=P7 rawE ad
section
variable {HT:Type} {enc:TypeId × Value->HT} {P:Program} {w:World} {base:Nat} {sp:Nat->Bool} {held:Bool} {μ:Mu} {F:Nat->Prop} {H:Heap}
structure ConTys (P:Program) (tcs tc tv:TypeId):Prop where
 cs:P.underlying tcs=some (.slice tc)
 cc:P.cellsOf tc=2
 c:∃ f0 f1:Field,P.underlying tc=some (.struct #[f0,f1])/\f0.offset=0/\f1.offset=1/\f0.type=tv/\P.underlying f1.type=some .bool/\P.cellsOf f1.type=1
theorem Ml {tcs tc tvs tv ti te:TypeId} (hC:ConTys P tcs tc tv) (hP:RowTys P tvs tv ti te) (hF:∀ c,c<w.heap.size->F c) {fuel:Nat} {cs:List Value} {x:DataW HT × List MemPlace} (h:DataW.trod enc P w base sp held fuel tc cs=some x) :
  ∃ acs z,LR μ F w acs cs/\conQE.R H acs z/\iG z.1:=by
 obtain ⟨f0,f1,i1,i2,i3,i4,i5,i6⟩:=hC.c
 obtain ⟨xs,n,-,ex,hl,hxl,hx⟩:=DataW.trod_struct i1 h
 have hxl:xs.length=2:=by simpa using hxl
 rw [hC.cc] at hl
 match cs,hl with
 | [c0,c1],_ =>
  have e0:=hx 0 f0 rfl
  have e1:=hx 1 f1 rfl
  rw [TL (by omega),i2,i4,hP.cv] at e0
  rw [TL (by omega),i3,i6] at e1
  obtain ⟨b,g0,-⟩:=DataW.trod_bool i5 e1
  obtain ⟨v,av,l,g1,g2,g3,g4,-⟩:=Mi (H:=H) (μ:=μ) hP hF e0
  have q0:c1=.bool b:=by simpa using g0
  have q1:c0=v:=by simpa using g1
  clear g0 g1
  subst q0; subst q1
  exact ⟨[av,.bool b],(l,b),Zj g2 (Zj (.bool _) Zk),⟨av,rfl,g3⟩,g4⟩
theorem JJ {tcs tc tvs tv ti te:TypeId} (hC:ConTys P tcs tc tv) (hP:RowTys P tvs tv ti te) (hF:∀ c,c<w.heap.size->F c) {fuel:Nat} {cs:List Value} {x:DataW HT × List MemPlace} (h:DataW.trod enc P w base sp held fuel tcs cs=some x) (ty:Nat) :
  ∃ v av l,cs=[v]/\VR μ F w av v/\SlV conQE ty H av l/\(∀ r∈l,iG r.1)/\l.length<=maxLen :=
 OS (E:=conQE) (good:=fun z=>iG z.1) hF hC.cs hC.cc (fun fuel cs x h=>Ml hC hP hF h) h
end
section
open Go.ChangeShapes Go.WideShapes
variable {HT:Type} {enc:TypeId × Value->HT} {P:Program} {w:World} {base base':Nat} {sp:Nat->Bool} {held:Bool} {μ:Mu} {F:Nat->Prop} {H:Heap}
theorem open_cons {tcs tc tvs tv ti te:TypeId} (hC:ConTys P tcs tc tv) (hP:RowTys P tvs tv ti te) (hF:∀ c,c<w.heap.size->F c) {r:Reach} {v:Value} {d:DataW HT} {ps:List MemPlace} (hval:Value.okWide P w r base' tcs v) (hd:DataW.Trod enc P w base sp held tcs v d ps) (ty:Nat) :
  ∃ av l,VR μ F w av v/\SlV conQE ty H av l/\(∀ r∈l,iG r.1)/\l.length<=maxLen:=by
 obtain ⟨a,n,c,rfl⟩:=okWide_slice hC.cs hval
 obtain ⟨fuel,h⟩:=hd
 obtain ⟨v',av,l,e,g⟩:=JJ (H:=H) (μ:=μ) hC hP hF h ty
 have e:v'=.slice a n c:=by simpa [Value.cells] using e.symm
 subst e
 exact ⟨av,l,g⟩
end
theorem NF {ty:Nat} {H:Heap} {v:AV} {l:List (List (Bool × List Nat) × Bool)} (h:SlV conQE ty H v l) (hb:∀ r∈l,∀ z∈r.1,rI z=false/\Lim z.2):SlV conE ty H v (l.map fun r=>(r.1.map fE,r.2)):=by
 obtain ⟨cells,hr,ht,hc,ha⟩:=h
 refine ⟨cells,hr,ht,by rw [hc,TT]; rfl,fun i a hi=>?_⟩
 rw [UM,TU] at hi
 obtain ⟨z,hz,rfl⟩:=hi
 obtain ⟨w,h1,h2⟩:=ha i z hz
 exact ⟨w,h1,SlV.int h2 (hb z (Ua hz))⟩
end Go.Proofs.YtofhopjbbpihaaaGreat.Ev
namespace Go.Proofs.YtofhopjbbpihaaaGreat.Lin
set_option linter.all false
def zj (d:Nat):List V->V
 | []=>lS d
 | a :: l=>mix 1 a 1 (zj d l)
theorem uy {d:Nat}:∀ {l:List V},(∀ a∈l,a.length=d)->(zj d l).length=d
 | [],_=>by simp [zj,lS]
 | a :: l,h=>mix_length (h a (TW ..)) (uy fun b hb=>h b (TQ _ hb))
theorem rS {d:Nat} {x:V}:∀ {l:List V},(∀ a∈l,a.length=d)->(∀ a∈l,dot x a=0)->dot x (zj d l)=0
 | [],_,_=>kT x d
 | a :: l,hl,h=>by
  have h1:=rS (x:=x) (l:=l) (fun b hb=>hl b (TQ _ hb)) fun b hb=>h b (TQ _ hb)
  have h2:=h a (TW ..)
  have e:=uy (d:=d) (l:=l) fun b hb=>hl b (TQ _ hb)
  rw [zj,aS _ _ _ ((hl a (TW ..)).trans e.symm)]
  omega
theorem xE {d:Nat} {x:V}:∀ {l:List V},(∀ a∈l,a.length=d)->(∀ a∈l,0<=dot x a)->0<=dot x (zj d l)/\((∃ a∈l,dot x a≠0)->1<=dot x (zj d l))
 | [],_,_=>⟨by rw [zj,kT]; exact VU _,fun ⟨a,ha,_⟩=>by cases ha⟩
 | a :: l,hl,h=>by
  obtain ⟨h1,h3⟩:=xE (x:=x) (l:=l) (fun b hb=>hl b (TQ _ hb)) fun b hb=>h b (TQ _ hb)
  have h2:=h a (TW ..)
  have e:=uy (d:=d) (l:=l) fun b hb=>hl b (TQ _ hb)
  rw [zj,aS _ _ _ ((hl a (TW ..)).trans e.symm)]
  refine ⟨by omega,?_⟩
  rintro ⟨b,hb,hn⟩
  rcases Ul.1 hb with rfl | hb
  ·omega
  ·have:=h3 ⟨b,hb,hn⟩
   omega
theorem Gt {d:Nat} {E I:V->Prop} {L R:List V} (h:yE d E I L R) {r s:V} (hr:r∈R) (hs:s∈R) (hne:s≠r):∃ i,I i/\dot i r=0/\dot i s≠0:=by
 apply UB
 intro hno
 have hk:=h.dd.keep r hr
 have hrk':=h.dd.keep s hs
 have hrl':=h.dd.lenR s hs
 obtain ⟨k1,c1,hk1,hc1,hsp⟩:=h.dd.ext r hr s hrk' fun i hi hz=>UB fun hn=>hno ⟨i,hi,hz,hn⟩
 have hc1':c1≠0:=fun e0=>by
  subst e0
  obtain ⟨i',hi',hn'⟩:=h.dd.off s hs
  have:=Zb (a:=i') h.dd.lenL (fun r h=>h.elim) (fun l hl=>h.dd.lineI l hl i' hi') (fun r h=>h.elim) hsp
  rw [aS _ _ _ (hrl'.trans hk.len.symm)] at this
  rcases Um.1 (show k1*dot i' s=0 by omega) with h1 | h1
  ·omega
  ·exact hn' h1
 have:s=r:=xF h.form hrl' hk.len (fun l hl=>h.rest s hs l hl) (fun l hl=>h.rest r hr l hl) (h.cont s hs) (h.cont r hr) hk1 (by omega) hsp
 exact hne this
theorem zn (f:V->Int):∀ S:List V,∃ N:Int,0<=N/\∀ s∈S,f s<=N
 | []=>⟨0,VU _,fun s h=>by cases h⟩
 | a :: S=>by
  obtain ⟨N,h0,hN⟩:=zn f S
  refine ⟨N+(f a).natAbs,by omega,fun s hs=>?_⟩
  rcases Ul.1 hs with rfl | hs
  ·omega
  ·have:=hN s hs; omega
end Go.Proofs.YtofhopjbbpihaaaGreat.Lin
