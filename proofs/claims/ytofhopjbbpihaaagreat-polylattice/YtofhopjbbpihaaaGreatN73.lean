/- A part. -/
import Derived.Test.YtofhopjbbpihaaaGreatA0
import Derived.Test.YtofhopjbbpihaaaGreatPoly1
import Derived.Test.YtofhopjbbpihaaaGreatN8
import Derived.Test.YtofhopjbbpihaaaGreatEvDraw5
import Derived.KernelRfl
import Derived.WalkKit
import Derived.ProofKit
import Derived.Test.YtofhopjbbpihaaaGreatProg
import Derived.Lib.Walk
import Derived.Lib.SliceRun
import Derived.Lib.JoinLaws
import Derived.Lib.AppendZeros
import Derived.Lib.AppendZerosOnto
import Derived.Lib.Overlaps
import Derived.Laws.Externs
import Derived.Laws.IdiomCopy
import Derived.Laws.NewBlocks
import Derived.Shelf.RegionOpenPlain
namespace Go.Proofs.YtofhopjbbpihaaaGreat.Ev
open Go Nn
set_option linter.all false
abbrev SI:=Nat × List (List Int × Bool) × List (Nat × List Int)
def P4:fg SI where
 sz:=3
 tys:=(t_api_Con :: conE.tys)++(ak :: genE.tys)
 R H cs x:=∃ vc vg,cs=[.int .i64 (x.1:Int),vc,vg]/\SlV conE t_api_Con H vc x.2.1/\SlV genE ak H vg x.2.2
 pos:=by omega
 len:=by rintro H cs x ⟨v,w,rfl,h,h'⟩; exact ⟨rfl,by simp [h.one.2,h'.one.2]; rfl⟩
 mono:=by
  rintro H H' cs x hs ⟨v,w,rfl,h,h'⟩
  exact ⟨v,w,rfl,h.monoT fun b cs t r ht=>hs b cs t r (U0 _ ht),h'.monoT fun b cs t r ht=>hs b cs t r (Ve _ ht)⟩
section
variable {tab:Nat->Option aw} {H:Heap} {s:AV}
theorem HS {a2 a3 b2 b3:AV} (h2:One a2) (h3:One a3) (h5:One b2) (h6:One b3) (x1 x2 x3 y1 y2 y3:AV) (k k':IntKind) (n n':Int):cV [x1,x2,x3,y1,y2,y3] [((0,3),.agg [.int k n,a2,a3]),((3,3),.agg [.int k' n',b2,b3])]=some [.int k n,a2,a3,.int k' n',b2,b3]:=by
 simp [cV,AV.cells,(bj k n).2,(bj k' n').2,h2.2,h3.2,h5.2,h6.2]
set_option maxHeartbeats 4000000 in
theorem pq (C:Code tab) (hw:Wf H) {n:Nat} {l:List SI} (hs:SlV P4 ag H s l) (hl':l.length<1000) (h:∀ x∈l,x.1=n/\∃ e f,PolyOK n e f x.2.1 x.2.2) :
  Ans tab (.fn mO [s]) H fun x H'=>x=.int .i64 0/\Kp H H':=by
 refine cU C.q20 zU fun T hl g0=>?_
 refine zW (aD hl g0 hs.lenV) ?_
 refine am H [] (fun _ _ _=>True) (a:=0) (N:=l.length) rfl (by refine zW (aC hl g0) ?_; rfl) (zV (aC hl g0)) (TY _) zO (by simp only [TH,hl]; rfl) rfl (fun _ _ _ _ h=>h) zK trivial ?_ ?_
 ·intro j T1 H1 _ hj hl1 hi1 hs1 hk1 _
  have w1:=hk1.wf
  have le_hk1:=hk1.le
  have t8:aa T1 8=s:=(hs1.at_ 8 zU).trans (zV (aC hl g0))
  obtain ⟨_,⟨vc,vg,rfl,hc,hg⟩,-,-,L⟩:=(hs.mono hk1.sub).at (TL hj)
  have L:bg H1 (some 3) (az s (j*3))=some (.agg [.int .i64 (l[j].1:Int),vc,vg]):=L
  have hix:cw 3 s (.int .i64 (j:Int))=some (az s (j*3)):=Zu hs .i64 j hj
  have oc:=hc.one
  have og:=hg.one
  have Lp:=(Zm w1 L).put
  have Ll:=(Zm w1 L).ld
  obtain ⟨hn,e,f,ok⟩:=h _ (TM hj)
  simp only [TH,hl] at hl1
  refine zW (gh hl1 t8 hi1 hix Lp Ll @nt) ?_
  rw [hn]
  refine Y4 (zN C zF ⟨vc,vg,rfl,hc.mono (zG H1),hg.mono (zG H1)⟩ ok) fun H2 hk2=>?_
  obtain ⟨k2,_,_⟩:=zT H zK hk2
  refine zW hl1 ?_
  exact zK
 ·intro T1 H1 hl1 hs1 hk1 _
  have w1:=hk1.wf
  have le_hk1:=hk1.le
  have t0:aa T1 0=s:=(hs1.at_ 0 zU).trans (zV (aC hl g0))
  have hsb:=hs.mono hk1.sub
  simp only [TH,hl] at hl1
  refine zW (aD hl1 t0 hsb.lenV) ?_
  refine am H [] (fun _ _ _=>True) (a:=0) (N:=l.length) rfl (by refine zW hl1 ?_; rfl) (zV hl1) (TY _) zO (by simp only [TH,hl1]; rfl) rfl (fun _ _ _ _ h=>h) zK trivial ?_ ?_
  ·intro j T2 H2 _ hj hl2 hi2 hs2 hk2 _
   have w2:=hk2.wf
   have le_hk2:=hk2.le
   have t20:aa T2 20=s:=(hs2.at_ 20 zU).trans (zV (aC hl1 t0))
   have t0':aa T2 0=s:=(hs2.at_ 0 zU).trans (zV (aC hl1 t0))
   have hs3:=hs.mono hk2.sub
   have h0:0<l.length:=by omega
   obtain ⟨_,⟨vc,vg,rfl,hc,hg⟩,-,-,L⟩:=hs3.at (TL hj)
   have L:bg H2 (some 3) (az s (j*3))=some (.agg [.int .i64 (l[j].1:Int),vc,vg]):=L
   obtain ⟨_,⟨vc',vg',rfl,hc',hg'⟩,-,L1,-⟩:=hs3.at (TL h0)
   have L1:bg H2 none (az s 0)=some (.int .i64 (l[0].1:Int)):=L1 0 _ rfl
   have hix:cw 3 s (.int .i64 (j:Int))=some (az s (j*3)):=Zu hs .i64 j hj
   have hi0:cw 3 s (.int .i64 0)=some (az s 0):=Zu hs .i64 0 h0
   have fa0:Ay 0 (az s 0)=some (az s 0):=hs.fa h0 0 0
   have oc:=hc.one
   have og:=hg.one
   have Lp:=(Zm w2 L).put
   have Ll:=(Zm w2 L).ld
   have Lp1:=(Zm w2 L1).put
   have Ll1:=(Zm w2 L1).ld
   have hn:=(h _ (TM hj)).1
   have hn0:=(h _ (TM h0)).1
   have hnn:((l[j].1:Nat):Int)=(l[0].1:Int):=by rw [hn,hn0]
   simp only [TH,hl1] at hl2
   refine zW (gh hl2 t20 hi2 hix Lp Ll @nt) ?_
   refine aI ?_
   refine zD (gh hl2 t0' hi0 fa0 Lp1 Ll1 hnn) ?_
   exact zK
  ·intro T2 H2 hl2 hs2 hk2 _
   simp only [TH,hl1] at hl2
   refine zW hl2 ?_
   exact zK
theorem wS {H:Heap} {b:Nat} {vc vg vc' vg':AV} {x y:SI} {r:Bool} (h:H.get b=some (.cells [.int .i64 (x.1:Int),vc,vg,.int .i64 (y.1:Int),vc',vg'] ag r)) (h1:SlV conE t_api_Con H vc x.2.1) (h2:SlV genE ak H vg x.2.2) (h3:SlV conE t_api_Con H vc' y.2.1) (h4:SlV genE ak H vg' y.2.2):SlV P4 ag H (.own b 0 2 2 3 true) [x,y] :=
 ⟨_,Zr h rfl (TO _),fun _ _ _ _ _ _ e=>by cases e; exact ⟨_,_,h⟩,rfl,fun i a hi=>by
  match i with
  | 0=>simp at hi; subst hi; exact ⟨vc,vg,rfl,h1,h2⟩
  | 1=>simp at hi; subst hi; exact ⟨vc',vg',rfl,h3,h4⟩
  | i+2=>simp at hi⟩
theorem Gs {n e f e' f':Nat} {K K':List (List Int × Bool)} {G G':List (Nat × List Int)} (ho:PolyOK n e f K G) (ho':PolyOK n e' f' K' G'):∀ x∈[((n,K,G):SI),(n,K',G')],x.1=n/\∃ e f,PolyOK n e f x.2.1 x.2.2:=fun x hx=>by
 rcases Ul.1 hx with rfl | hx
 ·exact ⟨rfl,_,_,ho⟩
 ·rcases Ul.1 hx with rfl | hx
  ·exact ⟨rfl,_,_,ho'⟩
  ·cases hx
set_option maxHeartbeats 4000000 in
theorem kP (C:Code tab) (hw:Wf H) {v w:AV} {n e f e' f':Nat} {K K':List (List Int × Bool)} {G G':List (Nat × List Int)} (hp:PolyV H v n K G) (hq:PolyV H w n K' G') (ho:PolyOK n e f K G) (ho':PolyOK n e' f' K' G') :
  Ans tab (.fn wH [v,w]) H fun x H'=>x=.tup [.bool (Lin.inP G K'),.int .i64 0]/\Kp H H':=by
 obtain ⟨vc,vg,rfl,hc,hg⟩:=hp
 obtain ⟨vc',vg',rfl,hc',hg'⟩:=hq
 have oc:=hc.one
 have og:=hg.one
 have oc':=hc'.one
 have og':=hg'.one
 refine bz C.q7 zU fun T hl g0 g1=>?_
 refine zW (dV hl g0 g1 (lM oc og) (lM oc' og') (HS oc og oc' og')) ?_
 refine Y4 (pq C (n:=n) (l:=[(n,K,G),(n,K',G')]) zF (wS (aq _ _ _) (hc.mono (zG H)) (hg.mono (zG H)) (hc'.mono (zG H)) (hg'.mono (zG H))) (by simp) (Gs ho ho')) fun H2 hk2=>?_
 obtain ⟨k2,_,w2⟩:=zT H zK hk2
 have d0:H2.get H.next=some (.cells [.int .i64 (n:Int),vc,vg] ag true):=hk2.get (cP)
 have d1:H2.get (H.next+1)=some (.cells [.int .i64 (n:Int),vc',vg'] ag true):=hk2.get (cP)
 have e3:=ho.e3
 have f3:=ho'.f3
 have hn:=ho.dim
 have l1:=ho.many
 have l2:=ho'.lenK
 refine zW (bS hl g0 g1 d0 d1) ?_
 refine Y4 (GN C (n:=n) (e:=e) (f:=f') zF ((hg.mono k2.sub).mono (zG H2)) ((hc'.mono k2.sub).mono (zG H2)) ho.rowG ho'.rowK zO zO zO zO) fun H3 hk3=>?_
 have k3:Kp H H3:=k2.trans (Zi zK hk3)
 have le_k3:=k3.le
 refine zW (aD hl g0 g1) ?_
 exact zK
end
section
variable {tab:Nat->Option aw} {H:Heap} {s:AV}
theorem FZ {H:Heap} {id sz bytes ty:Nat} {z:List AV} {m:Nat} (hz:z.length=sz) (h0:0<m) (hb:m*bytes<=70368744177664) (hm:m<4611686018427387904) :
  CB H id sz bytes ty z .nilSl (.int .i64 (m:Int))=some (.own id 0 m m sz false,H.put id (.cells ((List.replicate m z).flatten) ty true)):=by
 unfold CB
 rw [fH]
 simp only
 rw [if_pos ⟨hz,hb,hm⟩]
 simp only [cH]
 rw [if_neg zO,if_pos ⟨hb,hm⟩]
def HQ:AV->Option AV
 | .own _ _ _ c _ true=>some (.int .i64 c)
 | .nilSl=>some (.int .i64 0)
 | _=>none
theorem J7 {ev:Src->AV} (x:Src):aN ev (.cap x)=HQ (ev x):=by
 simp only [aN]
 generalize ev x=a
 cases a <;> rfl
theorem CH {ev:Src->AV} {H:Heap} {id:Nat} {Q:AV->Heap->Prop} (x:Src):mA tab ev H id (.cap x) Q=gw (HQ (ev x)) (fun v=>Q v H) ():=by
 rw [bY,dR tab ev H id Q (o:=.cap x) (v:=HQ (ev x)) (fun f a e=>by cases e) (J7 x) rfl]
 rfl
theorem zo {b m sz:Nat} {ex:Bool}:bI sz (.own b 0 m m sz ex) none (some (.int .i64 0)) none=some (.own b 0 0 m sz ex):=by
 simp [bI,bJ,pj]
theorem N9 (C:Code tab) (hw:Wf H) {m:Nat} (h0:0<m) (hm:m<=4000) :
  Ans tab (.fn bQ [.nilSl,.int .i64 (m:Int)]) H fun v H'=>∃ b,v=.own b 0 0 m 2 false/\H'.get b=some (.cells ((List.replicate m [.nilSl,.bool false]).flatten) t_api_Con true)/\H.next<=b/\Kp H H':=by
 refine bz C.q41 zU fun T hl g0 g1=>?_
 have e0:¬ (m:Int)<0:=by omega
 have e1:IntKind.i64.wrap ((m:Int)-0)=(m:Int):=by rw [wrap_i64] <;> omega
 have e2:(0:Int)<(m:Int):=by omega
 have cn:HQ .nilSl=some (.int .i64 0):=rfl
 have z0:IntKind.i64.wrap 0=0:=by rw [wrap_i64] <;> omega
 have sn:bI 2 .nilSl none (some (.int .i64 0)) none=some .nilSl:=rfl
 have ln:lenV .nilSl=some (.int .i64 0):=rfl
 have ea:=FZ (H:=H.up 23) (id:=H.next+18) (sz:=2) (bytes:=32) (ty:=t_api_Con) (z:=[.nilSl,.bool false]) (m:=m) rfl h0 zO zO
 have so:bI 2 (.own (H.next+18) 0 m m 2 false) none (some (.int .i64 0)) none=some (.own (H.next+18) 0 0 m 2 false):=zo
 simp -dsimp (maxSteps:=1000000) (disch:=(first | omega | assumption | exact aR _ | exact bj _ _ | exact br | exact cz _ _ _ | exact bD _ _ | exact bp _ _ _ _ _ _ | exact cI _ _ | exact bE _)) only [↓ut,ur,Nat.reduceLT,Nat.reduceEqDiff,Nat.reduceAdd,reduceIte,reduceCtorEq,Nat.reduceBEq,Int.reduceEq,Int.reduceLT,Int.reduceLE,Int.reduceAdd,Int.reduceSub,hl,g0,g1,e0,e1,e2,↓CH,ln,cn,z0,sn,↓CI,ea,so]
 exact ⟨_,rfl,aq _ _ _,by omega,zK⟩
theorem Lo (C:Code tab) (hw:Wf H) :
  Ans tab (.fn bQ [.nilSl,.int .i64 0]) H fun v H'=>v=.nilSl/\Kp H H':=by
 refine bz C.q41 zU fun T hl g0 g1=>?_
 have ln:lenV .nilSl=some (.int .i64 0):=rfl
 have cn:HQ .nilSl=some (.int .i64 0):=rfl
 have z0:IntKind.i64.wrap 0=0:=by rw [wrap_i64] <;> omega
 simp -dsimp (maxSteps:=1000000) (disch:=(first | omega | assumption | exact aR _ | exact bj _ _ | exact br | exact cz _ _ _ | exact bD _ _ | exact bp _ _ _ _ _ _ | exact cI _ _ | exact bE _)) only [↓ut,ur,Nat.reduceLT,Nat.reduceEqDiff,Nat.reduceAdd,reduceIte,reduceCtorEq,Nat.reduceBEq,Int.reduceEq,Int.reduceLT,Int.reduceLE,Int.reduceAdd,Int.reduceSub,hl,g0,g1,↓CH,ln,cn,z0]
 exact zK
theorem sC {α:Type} {E:fg α} {ty ty2 bytes id g k m N:Nat} {H:Heap} {w:AV} {cells:List AV} {l1 l2:List α} (hg:H.get g=some (.cells cells ty true)) (hty:ty ∉ E.tys) (hp:Cells E H (cells.take (k*E.sz)) l1) (hy:SlV E ty2 H w l2) (hm:l2.length=m) (hcl:cells.length=N*E.sz) (hN:k+m<=N) (hb:N*bytes<=70368744177664) (hbig:N<4611686018427387904) :
  ∃ cells' H',cM H id E.sz bytes ty (.own g 0 k N E.sz false) w=some (.own g 0 (k+m) N E.sz false,H')/\H'.get g=some (.cells cells' ty true)/\cells'.length=N*E.sz/\Cells E H' (cells'.take ((k+m)*E.sz)) (l1++l2)/\(H'=H\/∃ e,H'=H.put g e):=by
 obtain ⟨news,hr,-,hc⟩:=hy
 obtain ⟨m',hm',hlen⟩:=hr.length
 obtain ⟨-,-,m2,hm2,hf⟩:=hr
 rw [hm'] at hm2; cases hm2
 have hmm:m'=m:=Vv E.pos (by rw [<- hlen,hc.1,hm])
 subst hmm
 have hb2:(k+m')*bytes<=70368744177664:=Ub (T8 _ hN) hb
 have ones:=hc.ones
 have hle:(k+m')*E.sz<=N*E.sz:=T8 _ hN
 rw [UO] at hle
 have e:cM H id E.sz bytes ty (.own g 0 k N E.sz false) w=if m'=0 then some (.own g 0 k N E.sz false,H) else some (.own g 0 (k+m') N E.sz false,H.put g (.cells (cells.take (0+k*E.sz)++news++cells.drop (0+k*E.sz+m'*E.sz)) ty true)):=by
  unfold cM
  rw [hm']
  simp only
  rw [hf]
  simp only [cH,hg]
  rw [if_pos ⟨trivial,hb2,by omega,trivial,by omega⟩,if_pos hN]
  by_cases h0:m'=0
  ·rw [if_pos h0,if_pos h0]
  ·rw [if_neg h0,if_neg h0,if_pos ⟨trivial,ones⟩]
 by_cases h0:m'=0
 ·subst h0
  have hn:l2=[]:=Us hm
  subst hn
  refine ⟨cells,H,by rw [e,if_pos rfl]; rfl,hg,hcl,?_,.inl rfl⟩
  rw [Vi]; exact hp
 ·have hst:SubT E.tys H (H.put g (.cells (cells.take (0+k*E.sz)++news++cells.drop (0+k*E.sz+m'*E.sz)) ty true)):=fun b cs t r ht hget=>by
   by_cases hbg:b=g
   ·subst hbg
    rw [hg] at hget; cases hget
    exact absurd ht hty
   ·rw [aA hbg]; exact hget
  refine ⟨_,_,by rw [e,if_neg h0],aq _ _ _,?_,?_,.inr ⟨_,rfl⟩⟩
  ·simp only [T9,Un,U8,hcl,hlen]
   omega
  ·have ht:((cells.take (0+k*E.sz)++news++cells.drop (0+k*E.sz+m'*E.sz)).take ((k+m')*E.sz))=cells.take (k*E.sz)++news:=by
    rw [Ut,Wp (by rw [T9,Un,hlen,UO]; omega)]
   rw [ht]
   exact (hp.mono hst).append (hc.mono hst)
theorem Ie (C:Code tab) (hw:Wf H) {b:Nat} {va vb:AV} {l m:List (List Int × Bool)} {x:Bool} {ty:Nat} (hb:H.get b=some (.cells [va,vb] ty x)) (ha:SlV conE t_api_Con H va l) (hb':SlV conE t_api_Con H vb m) (hl':l.length<=2000) (hm':m.length<=2000) :
  Ans tab (.fn cE [.own b 0 2 2 1 true]) H fun v H'=>SlV conE t_api_Con H' v (l++m)/\Kp H H':=by
 refine cU C.q21 zU fun T hl g0=>?_
 have l2:lenV (.own b 0 2 2 1 true)=some (.int .i64 ((2:Nat):Int)):=rfl
 have hbl:=hw _ _ hb
 refine zW (aD hl g0 l2) ?_
 refine am H [3] (fun j vs _=>vs=[.int .i64 (((if j=0 then 0 else if j=1 then l.length else l.length+m.length:Nat)):Int)]) (a:=0) (N:=2) rfl (by refine zW (aC hl g0) ?_ <;> rfl) (zV (aC hl g0)) (TY _) zO (by simp only [TH,hl]; rfl) rfl (fun _ _ _ _ h=>h) zK (by refine zW (aC hl g0) ?_ <;> rfl) ?_ ?_
 ·intro j T1 H1 _ hj hl1 hi1 hs1 hk1 hv
  simp only [TP,TV,TR,and_true] at hv
  have w1:=hk1.wf
  have le_hk1:=hk1.le
  have t9:aa T1 9=.own b 0 2 2 1 true:=(hs1.at_ 9 zU).trans (zV (aC hl g0))
  have hb1:=hk1.get hb
  simp only [TH,hl] at hl1
  by_cases h0:j=0
  ·subst h0
   have hix:cw 1 (.own b 0 2 2 1 true) (.int .i64 ((0:Nat):Int))=some (.ptr b 0):=rfl
   have e1:IntKind.i64.wrap (0+(l.length:Int))=(l.length:Int):=by rw [wrap_i64] <;> omega
   have e2:¬ (l.length:Int)<0:=by omega
   have hv:aa T1 3=.int .i64 0:=hv
   refine zW (ko hl1 t9 hi1 hix hb1 ha.lenV hv e1 e2) ?_
   exact zK
  ·have h1:j=1:=by omega
   subst h1
   have hix:cw 1 (.own b 0 2 2 1 true) (.int .i64 ((1:Nat):Int))=some (.ptr b 1):=rfl
   have e1:IntKind.i64.wrap ((l.length:Int)+(m.length:Int))=(l.length:Int)+(m.length:Int):=by rw [wrap_i64] <;> omega
   have e2:¬ (l.length:Int)+(m.length:Int)<0:=by omega
   have hv:aa T1 3=.int .i64 (l.length:Int):=hv
   refine zW (ko hl1 t9 hi1 hix hb1 hb'.lenV hv e1 e2) ?_
   exact ⟨zK,by simp⟩
 ·intro T1 H1 hl1 hs1 hk1 hv
  simp only [TP,TV,TR,and_true] at hv
  have w1:=hk1.wf
  have le_hk1:=hk1.le
  have t0:aa T1 0=.own b 0 2 2 1 true:=(hs1.at_ 0 zU).trans (zV (aC hl g0))
  have hv:aa T1 3=.int .i64 (((l.length+m.length:Nat)):Int):=hv
  simp only [TH,hl] at hl1
  have hb1:=hk1.get hb
  by_cases h0:l.length+m.length=0
  ·have hv:aa T1 3=.int .i64 0:=by rw [hv,h0]; rfl
   have el:l=[]:=Us zO
   have em:m=[]:=Us zO
   refine zW (aC hl1 hv) ?_
   refine Y5 (Lo C zF) ?_
   rintro _ H2 ⟨rfl,hk2⟩
   obtain ⟨k2,_,w2⟩:=zT H zK hk2
   have hb2:=k2.get hb
   refine zW (aD hl1 t0 l2) ?_
   refine am H [6] (fun j vs _=>vs=[.nilSl]) (a:=0) (N:=2) rfl (by refine zW hl1 ?_ <;> rfl) (zV hl1) (TY _) zO (by simp only [TH,hl1]; rfl) rfl (fun _ _ _ _ h=>h) zK (zV hl1) ?_ ?_
   ·intro j T2 H3 _ hj hl2 hi2 hs2 hk3 hv2
    simp only [TP,TV,TR,and_true] at hv2
    have w3:=hk3.wf
    have le_hk3:=hk3.le
    have t25:aa T2 25=.own b 0 2 2 1 true:=(hs2.at_ 25 zU).trans (zV (aC hl1 t0))
    have hb3:=hk3.get hb
    simp only [TH,hl1] at hl2
    have na:∀ {K:List (List Int × Bool)} {v:AV} (H':Heap) (id:Nat),K=[]->SlV conE t_api_Con H' v K->cM H' id 2 32 t_api_Con .nilSl v=some (.nilSl,H'):=fun H' id e hs=>by
     subst e
     obtain ⟨news,hr,-,hc⟩:=hs
     obtain ⟨m',hm',hlen⟩:=hr.length
     obtain ⟨-,-,m2,hm2,hf⟩:=hr
     rw [hm'] at hm2; cases hm2
     have hmm:m'=0:=by
      have:=hc.1
      rw [hlen] at this
      have e2:conE.sz=2:=rfl
      rw [e2] at this
      simp at this
      omega
     subst hmm
     unfold cM
     rw [hm']
     simp only
     have e2:conE.sz=2:=rfl
     rw [e2] at hf
     rw [hf]
     rfl
    by_cases h0:j=0
    ·subst h0
     have hix:cw 1 (.own b 0 2 2 1 true) (.int .i64 ((0:Nat):Int))=some (.ptr b 0):=rfl
     have ea:=na (H3.up 7) (H3.next+5) el ((ha.mono hk3.sub).mono (ZB H3 7))
     refine zW (gh hl2 t25 hi2 hix hb3 hv2 ea) ?_
     exact zK
    ·have h1:j=1:=by omega
     subst h1
     have hix:cw 1 (.own b 0 2 2 1 true) (.int .i64 ((1:Nat):Int))=some (.ptr b 1):=rfl
     have ea:=na (H3.up 7) (H3.next+5) em ((hb'.mono hk3.sub).mono (ZB H3 7))
     refine zW (gh hl2 t25 hi2 hix hb3 hv2 ea) ?_
     exact zK
   ·intro T2 H3 hl2 hs2 hk3 hv2
    simp only [TP,TV,TR,and_true] at hv2
    simp only [TH,hl1] at hl2
    refine zW (aC hl2 hv2) ?_
    exact ⟨by rw [el,em]; exact Zx _ _ _,zK⟩
  ·obtain ⟨N,hN⟩:∃ N,N=l.length+m.length:=⟨_,rfl⟩
   rw [<- hN] at hv h0
   refine zW (aC hl1 hv) ?_
   refine Y5 (N9 C (m:=N) zF zO zO) ?_
   rintro _ H2 ⟨g,rfl,hg,hgn,hk2⟩
   obtain ⟨k2,_,w2⟩:=zT H zK hk2
   have hgn:H.next<=g:=by
    have:=hk1.le
    have:H1.next+3<=g:=hgn
    omega
   have hb2:=k2.get hb
   have l0:=w2 _ _ hg
   obtain ⟨z,hz⟩:∃ z,z=(List.replicate N [AV.nilSl,.bool false]).flatten:=⟨_,rfl⟩
   have zl:z.length=N*2:=by rw [hz]; simp
   rw [<- hz] at hg
   clear hz
   refine zW (aD hl1 t0 l2) ?_
   refine am H [6] (fun j vs H'=>∃ k cells,k=(if j=0 then 0 else if j=1 then l.length else N)/\vs=[.own g 0 k N 2 false]/\H'.get g=some (.cells cells t_api_Con true)/\cells.length=N*2/\Cells conE H' (cells.take (k*2)) ((l++m).take k)) (a:=0) (N:=2) rfl (by refine zW hl1 ?_ <;> rfl) (zV hl1) (TY _) zO (by simp only [TH,hl1]; rfl) rfl (fun _ _ _ _ h=>h) zK ⟨0,z,rfl,by exact zV hl1,by exact zV hg,zl,Y9 _ _⟩ ?_ ?_
   ·rintro j T2 H3 _ hj hl2 hi2 hs2 hk3 ⟨k,cells,hk,hv2,hg3,hcl,hcc⟩
    simp only [TP,TV,TR,and_true] at hv2
    have w3:=hk3.wf
    have le_hk3:=hk3.le
    have lt3:=w3 _ _ hg3
    have t25:aa T2 25=.own b 0 2 2 1 true:=(hs2.at_ 25 zU).trans (zV (aC hl1 t0))
    have hb3:=hk3.get hb
    simp only [TH,hl1] at hl2
    have hfin:∀ H4,(H4=H3.up 7\/∃ e,H4=(H3.up 7).put g e)->Kp H H4:=fun H4 h=>by
     rcases h with rfl | ⟨e,rfl⟩
     ·exact zK
     ·exact (hk3.up 7).put hgn (by show g<H3.next+7; omega)
    by_cases h0:j=0
    ·subst h0
     have hix:cw 1 (.own b 0 2 2 1 true) (.int .i64 ((0:Nat):Int))=some (.ptr b 0):=rfl
     have hk:k=0:=hk
     subst hk
     obtain ⟨cells',H4,e4,g4,c4,cc4,hH4⟩:=sC (E:=conE) (bytes:=32) (id:=H3.next+5) (k:=0) (l1:=[]) (H:=H3.up 7) hg3 zU (Y9 _ _) ((ha.mono hk3.sub).mono (ZB H3 7)) rfl hcl zO zO zO
     have e4:cM (H3.up 7) (H3.next+5) 2 32 t_api_Con (.own g 0 0 N 2 false) va=some (.own g 0 (0+l.length) N 2 false,H4):=e4
     refine zW (gh hl2 t25 hi2 hix hb3 hv2 e4) ?_
     refine ⟨hfin _ hH4,l.length,cells',by simp,by simp,g4,c4,?_⟩
     rw [Wp rfl]
     rw [Ut] at cc4
     exact cc4
    ·have h1:j=1:=by omega
     subst h1
     have hix:cw 1 (.own b 0 2 2 1 true) (.int .i64 ((1:Nat):Int))=some (.ptr b 1):=rfl
     have hk:k=l.length:=hk
     subst hk
     rw [Wp rfl] at hcc
     obtain ⟨cells',H4,e4,g4,c4,cc4,hH4⟩:=sC (E:=conE) (bytes:=32) (id:=H3.next+5) (k:=l.length) (l1:=l) (H:=H3.up 7) hg3 zU (hcc.mono ((ZB H3 7).t _)) ((hb'.mono hk3.sub).mono (ZB H3 7)) rfl hcl zO zO zO
     have e4:cM (H3.up 7) (H3.next+5) 2 32 t_api_Con (.own g 0 l.length N 2 false) vb=some (.own g 0 (l.length+m.length) N 2 false,H4):=e4
     rw [<- hN] at e4 cc4
     refine zW (gh hl2 t25 hi2 hix hb3 hv2 e4) ?_
     refine ⟨hfin _ hH4,N,cells',by simp,by simp,g4,c4,?_⟩
     have ht:(l++m).take N=l++m:=Ug (by rw [T9]; omega)
     rw [ht]
     exact cc4
   ·rintro T2 H3 hl2 hs2 hk3 ⟨k,cells,hk,hv2,hg3,hcl,hcc⟩
    simp only [TP,TV,TR,and_true] at hv2
    have hk:k=N:=hk
    subst hk
    have ht:(l++m).take k=l++m:=Ug (by rw [T9]; omega)
    have ht2:cells.take (k*2)=cells:=Ug zO
    rw [ht,ht2] at hcc
    have w3:=hk3.wf
    have le_hk3:=hk3.le
    simp only [TH,hl1] at hl2
    refine zW (aC hl2 hv2) ?_
    have hs3:SlV conE t_api_Con H3 (.own g 0 k k 2 false) (l++m):=⟨cells,Zr hg3 hcl zO,fun _ _ _ _ _ _ e=>by cases e; exact ⟨_,_,hg3⟩,hcc⟩
    exact ⟨hs3.mono (ZB H3 _),zK⟩
end
section
variable {tab:Nat->Option aw} {H:Heap} {s:AV}
theorem N8 (C:Code tab) (hw:Wf H) {m:Nat} (h0:0<m) (hm:m<=4000) :
  Ans tab (.fn bP [.nilSl,.int .i64 (m:Int)]) H fun v H'=>∃ b,v=.own b 0 0 m 2 false/\H'.get b=some (.cells ((List.replicate m [.int .u8 0,.nilSl]).flatten) ak true)/\H.next<=b/\Kp H H':=by
 refine bz C.q42 zU fun T hl g0 g1=>?_
 have e0:¬ (m:Int)<0:=by omega
 have e1:IntKind.i64.wrap ((m:Int)-0)=(m:Int):=by rw [wrap_i64] <;> omega
 have e2:(0:Int)<(m:Int):=by omega
 have cn:HQ .nilSl=some (.int .i64 0):=rfl
 have z0:IntKind.i64.wrap 0=0:=by rw [wrap_i64] <;> omega
 have sn:bI 2 .nilSl none (some (.int .i64 0)) none=some .nilSl:=rfl
 have ln:lenV .nilSl=some (.int .i64 0):=rfl
 have ea:=FZ (H:=H.up 23) (id:=H.next+18) (sz:=2) (bytes:=32) (ty:=ak) (z:=[.int .u8 0,.nilSl]) (m:=m) rfl h0 zO zO
 have so:bI 2 (.own (H.next+18) 0 m m 2 false) none (some (.int .i64 0)) none=some (.own (H.next+18) 0 0 m 2 false):=zo
 simp -dsimp (maxSteps:=1000000) (disch:=(first | omega | assumption | exact aR _ | exact bj _ _ | exact br | exact cz _ _ _ | exact bD _ _ | exact bp _ _ _ _ _ _ | exact cI _ _ | exact bE _)) only [↓ut,ur,Nat.reduceLT,Nat.reduceEqDiff,Nat.reduceAdd,reduceIte,reduceCtorEq,Nat.reduceBEq,Int.reduceEq,Int.reduceLT,Int.reduceLE,Int.reduceAdd,Int.reduceSub,hl,g0,g1,e0,e1,e2,↓CH,ln,cn,z0,sn,↓CI,ea,so]
 exact ⟨_,rfl,aq _ _ _,by omega,zK⟩
theorem Ln (C:Code tab) (hw:Wf H) :
  Ans tab (.fn bP [.nilSl,.int .i64 0]) H fun v H'=>v=.nilSl/\Kp H H':=by
 refine bz C.q42 zU fun T hl g0 g1=>?_
 have ln:lenV .nilSl=some (.int .i64 0):=rfl
 have cn:HQ .nilSl=some (.int .i64 0):=rfl
 have z0:IntKind.i64.wrap 0=0:=by rw [wrap_i64] <;> omega
 simp -dsimp (maxSteps:=1000000) (disch:=(first | omega | assumption | exact aR _ | exact bj _ _ | exact br | exact cz _ _ _ | exact bD _ _ | exact bp _ _ _ _ _ _ | exact cI _ _ | exact bE _)) only [↓ut,ur,Nat.reduceLT,Nat.reduceEqDiff,Nat.reduceAdd,reduceIte,reduceCtorEq,Nat.reduceBEq,Int.reduceEq,Int.reduceLT,Int.reduceLE,Int.reduceAdd,Int.reduceSub,hl,g0,g1,↓CH,ln,cn,z0]
 exact zK
theorem Id (C:Code tab) (hw:Wf H) {b:Nat} {va vb:AV} {l m:List (Nat × List Int)} {x:Bool} {ty:Nat} (hb:H.get b=some (.cells [va,vb] ty x)) (ha:SlV genE ak H va l) (hb':SlV genE ak H vb m) (hl':l.length<=2000) (hm':m.length<=2000) :
  Ans tab (.fn cD [.own b 0 2 2 1 true]) H fun v H'=>SlV genE ak H' v (l++m)/\Kp H H':=by
 refine cU C.q22 zU fun T hl g0=>?_
 have l2:lenV (.own b 0 2 2 1 true)=some (.int .i64 ((2:Nat):Int)):=rfl
 have hbl:=hw _ _ hb
 refine zW (aD hl g0 l2) ?_
 refine am H [3] (fun j vs _=>vs=[.int .i64 (((if j=0 then 0 else if j=1 then l.length else l.length+m.length:Nat)):Int)]) (a:=0) (N:=2) rfl (by refine zW (aC hl g0) ?_ <;> rfl) (zV (aC hl g0)) (TY _) zO (by simp only [TH,hl]; rfl) rfl (fun _ _ _ _ h=>h) zK (by refine zW (aC hl g0) ?_ <;> rfl) ?_ ?_
 ·intro j T1 H1 _ hj hl1 hi1 hs1 hk1 hv
  simp only [TP,TV,TR,and_true] at hv
  have w1:=hk1.wf
  have le_hk1:=hk1.le
  have t9:aa T1 9=.own b 0 2 2 1 true:=(hs1.at_ 9 zU).trans (zV (aC hl g0))
  have hb1:=hk1.get hb
  simp only [TH,hl] at hl1
  by_cases h0:j=0
  ·subst h0
   have hix:cw 1 (.own b 0 2 2 1 true) (.int .i64 ((0:Nat):Int))=some (.ptr b 0):=rfl
   have e1:IntKind.i64.wrap (0+(l.length:Int))=(l.length:Int):=by rw [wrap_i64] <;> omega
   have e2:¬ (l.length:Int)<0:=by omega
   have hv:aa T1 3=.int .i64 0:=hv
   refine zW (ko hl1 t9 hi1 hix hb1 ha.lenV hv e1 e2) ?_
   exact zK
  ·have h1:j=1:=by omega
   subst h1
   have hix:cw 1 (.own b 0 2 2 1 true) (.int .i64 ((1:Nat):Int))=some (.ptr b 1):=rfl
   have e1:IntKind.i64.wrap ((l.length:Int)+(m.length:Int))=(l.length:Int)+(m.length:Int):=by rw [wrap_i64] <;> omega
   have e2:¬ (l.length:Int)+(m.length:Int)<0:=by omega
   have hv:aa T1 3=.int .i64 (l.length:Int):=hv
   refine zW (ko hl1 t9 hi1 hix hb1 hb'.lenV hv e1 e2) ?_
   exact ⟨zK,by simp⟩
 ·intro T1 H1 hl1 hs1 hk1 hv
  simp only [TP,TV,TR,and_true] at hv
  have w1:=hk1.wf
  have le_hk1:=hk1.le
  have t0:aa T1 0=.own b 0 2 2 1 true:=(hs1.at_ 0 zU).trans (zV (aC hl g0))
  have hv:aa T1 3=.int .i64 (((l.length+m.length:Nat)):Int):=hv
  simp only [TH,hl] at hl1
  have hb1:=hk1.get hb
  by_cases h0:l.length+m.length=0
  ·have hv:aa T1 3=.int .i64 0:=by rw [hv,h0]; rfl
   have el:l=[]:=Us zO
   have em:m=[]:=Us zO
   refine zW (aC hl1 hv) ?_
   refine Y5 (Ln C zF) ?_
   rintro _ H2 ⟨rfl,hk2⟩
   obtain ⟨k2,_,w2⟩:=zT H zK hk2
   have hb2:=k2.get hb
   refine zW (aD hl1 t0 l2) ?_
   refine am H [6] (fun j vs _=>vs=[.nilSl]) (a:=0) (N:=2) rfl (by refine zW hl1 ?_ <;> rfl) (zV hl1) (TY _) zO (by simp only [TH,hl1]; rfl) rfl (fun _ _ _ _ h=>h) zK (zV hl1) ?_ ?_
   ·intro j T2 H3 _ hj hl2 hi2 hs2 hk3 hv2
    simp only [TP,TV,TR,and_true] at hv2
    have w3:=hk3.wf
    have le_hk3:=hk3.le
    have t25:aa T2 25=.own b 0 2 2 1 true:=(hs2.at_ 25 zU).trans (zV (aC hl1 t0))
    have hb3:=hk3.get hb
    simp only [TH,hl1] at hl2
    have na:∀ {K:List (Nat × List Int)} {v:AV} (H':Heap) (id:Nat),K=[]->SlV genE ak H' v K->cM H' id 2 32 ak .nilSl v=some (.nilSl,H'):=fun H' id e hs=>by
     subst e
     obtain ⟨news,hr,-,hc⟩:=hs
     obtain ⟨m',hm',hlen⟩:=hr.length
     obtain ⟨-,-,m2,hm2,hf⟩:=hr
     rw [hm'] at hm2; cases hm2
     have hmm:m'=0:=by
      have:=hc.1
      rw [hlen] at this
      have e2:genE.sz=2:=rfl
      rw [e2] at this
      simp at this
      omega
     subst hmm
     unfold cM
     rw [hm']
     simp only
     have e2:genE.sz=2:=rfl
     rw [e2] at hf
     rw [hf]
     rfl
    by_cases h0:j=0
    ·subst h0
     have hix:cw 1 (.own b 0 2 2 1 true) (.int .i64 ((0:Nat):Int))=some (.ptr b 0):=rfl
     have ea:=na (H3.up 7) (H3.next+5) el ((ha.mono hk3.sub).mono (ZB H3 7))
     refine zW (gh hl2 t25 hi2 hix hb3 hv2 ea) ?_
     exact zK
    ·have h1:j=1:=by omega
     subst h1
     have hix:cw 1 (.own b 0 2 2 1 true) (.int .i64 ((1:Nat):Int))=some (.ptr b 1):=rfl
     have ea:=na (H3.up 7) (H3.next+5) em ((hb'.mono hk3.sub).mono (ZB H3 7))
     refine zW (gh hl2 t25 hi2 hix hb3 hv2 ea) ?_
     exact zK
   ·intro T2 H3 hl2 hs2 hk3 hv2
    simp only [TP,TV,TR,and_true] at hv2
    simp only [TH,hl1] at hl2
    refine zW (aC hl2 hv2) ?_
    exact ⟨by rw [el,em]; exact Zx _ _ _,zK⟩
  ·obtain ⟨N,hN⟩:∃ N,N=l.length+m.length:=⟨_,rfl⟩
   rw [<- hN] at hv h0
   refine zW (aC hl1 hv) ?_
   refine Y5 (N8 C (m:=N) zF zO zO) ?_
   rintro _ H2 ⟨g,rfl,hg,hgn,hk2⟩
   obtain ⟨k2,_,w2⟩:=zT H zK hk2
   have hgn:H.next<=g:=by
    have:=hk1.le
    have:H1.next+3<=g:=hgn
    omega
   have hb2:=k2.get hb
   have l0:=w2 _ _ hg
   obtain ⟨z,hz⟩:∃ z,z=(List.replicate N [AV.int .u8 0,.nilSl]).flatten:=⟨_,rfl⟩
   have zl:z.length=N*2:=by rw [hz]; simp
   rw [<- hz] at hg
   clear hz
   refine zW (aD hl1 t0 l2) ?_
   refine am H [6] (fun j vs H'=>∃ k cells,k=(if j=0 then 0 else if j=1 then l.length else N)/\vs=[.own g 0 k N 2 false]/\H'.get g=some (.cells cells ak true)/\cells.length=N*2/\Cells genE H' (cells.take (k*2)) ((l++m).take k)) (a:=0) (N:=2) rfl (by refine zW hl1 ?_ <;> rfl) (zV hl1) (TY _) zO (by simp only [TH,hl1]; rfl) rfl (fun _ _ _ _ h=>h) zK ⟨0,z,rfl,by exact zV hl1,by exact zV hg,zl,Y9 _ _⟩ ?_ ?_
   ·rintro j T2 H3 _ hj hl2 hi2 hs2 hk3 ⟨k,cells,hk,hv2,hg3,hcl,hcc⟩
    simp only [TP,TV,TR,and_true] at hv2
    have w3:=hk3.wf
    have le_hk3:=hk3.le
    have lt3:=w3 _ _ hg3
    have t25:aa T2 25=.own b 0 2 2 1 true:=(hs2.at_ 25 zU).trans (zV (aC hl1 t0))
    have hb3:=hk3.get hb
    simp only [TH,hl1] at hl2
    have hfin:∀ H4,(H4=H3.up 7\/∃ e,H4=(H3.up 7).put g e)->Kp H H4:=fun H4 h=>by
     rcases h with rfl | ⟨e,rfl⟩
     ·exact zK
     ·exact (hk3.up 7).put hgn (by show g<H3.next+7; omega)
    by_cases h0:j=0
    ·subst h0
     have hix:cw 1 (.own b 0 2 2 1 true) (.int .i64 ((0:Nat):Int))=some (.ptr b 0):=rfl
     have hk:k=0:=hk
     subst hk
     obtain ⟨cells',H4,e4,g4,c4,cc4,hH4⟩:=sC (E:=genE) (bytes:=32) (id:=H3.next+5) (k:=0) (l1:=[]) (H:=H3.up 7) hg3 zU (Y9 _ _) ((ha.mono hk3.sub).mono (ZB H3 7)) rfl hcl zO zO zO
     have e4:cM (H3.up 7) (H3.next+5) 2 32 ak (.own g 0 0 N 2 false) va=some (.own g 0 (0+l.length) N 2 false,H4):=e4
     refine zW (gh hl2 t25 hi2 hix hb3 hv2 e4) ?_
     refine ⟨hfin _ hH4,l.length,cells',by simp,by simp,g4,c4,?_⟩
     rw [Wp rfl]
     rw [Ut] at cc4
     exact cc4
    ·have h1:j=1:=by omega
     subst h1
     have hix:cw 1 (.own b 0 2 2 1 true) (.int .i64 ((1:Nat):Int))=some (.ptr b 1):=rfl
     have hk:k=l.length:=hk
     subst hk
     rw [Wp rfl] at hcc
     obtain ⟨cells',H4,e4,g4,c4,cc4,hH4⟩:=sC (E:=genE) (bytes:=32) (id:=H3.next+5) (k:=l.length) (l1:=l) (H:=H3.up 7) hg3 zU (hcc.mono ((ZB H3 7).t _)) ((hb'.mono hk3.sub).mono (ZB H3 7)) rfl hcl zO zO zO
     have e4:cM (H3.up 7) (H3.next+5) 2 32 ak (.own g 0 l.length N 2 false) vb=some (.own g 0 (l.length+m.length) N 2 false,H4):=e4
     rw [<- hN] at e4 cc4
     refine zW (gh hl2 t25 hi2 hix hb3 hv2 e4) ?_
     refine ⟨hfin _ hH4,N,cells',by simp,by simp,g4,c4,?_⟩
     have ht:(l++m).take N=l++m:=Ug (by rw [T9]; omega)
     rw [ht]
     exact cc4
   ·rintro T2 H3 hl2 hs2 hk3 ⟨k,cells,hk,hv2,hg3,hcl,hcc⟩
    simp only [TP,TV,TR,and_true] at hv2
    have hk:k=N:=hk
    subst hk
    have ht:(l++m).take k=l++m:=Ug (by rw [T9]; omega)
    have ht2:cells.take (k*2)=cells:=Ug zO
    rw [ht,ht2] at hcc
    have w3:=hk3.wf
    have le_hk3:=hk3.le
    simp only [TH,hl1] at hl2
    refine zW (aC hl2 hv2) ?_
    have hs3:SlV genE ak H3 (.own g 0 k k 2 false) (l++m):=⟨cells,Zr hg3 hcl zO,fun _ _ _ _ _ _ e=>by cases e; exact ⟨_,_,hg3⟩,hcc⟩
    exact ⟨hs3.mono (ZB H3 _),zK⟩
theorem FU {a b:Nat} {x:List Int} (h:Lin.Bd (2^a) x) (hab:a<=b):Lin.Bd (2^b) x:=fun i=>Ub (h i) (Up zU hab)
set_option maxHeartbeats 4000000 in
theorem wA (C:Code tab) (hw:Wf H) {v w:AV} {n e f e' f' m m2:Nat} {K K':List (List Int × Bool)} {G G':List (Nat × List Int)} (hp:PolyV H v n K G) (hq:PolyV H w n K' G') (ho:PolyOK n e f K G) (ho':PolyOK n e' f' K' G') (hl':K.length+K'.length<=60) (hm:f<=m) (hm':f'<=m) (hm3:m<=300000) (hG:∀ x∈Lin.gensP n (K++K'),Lin.Bd (2^m2) x.2) (hm2:m2<=300000) :
  Ans tab (.fn qQ [v,w]) H fun x H'=>nP H' x n (Lin.gensP n (K++K'))/\Kp H H':=by
 obtain ⟨vc,vg,rfl,hc,hg⟩:=hp
 obtain ⟨vc',vg',rfl,hc',hg'⟩:=hq
 have oc:=hc.one
 have og:=hg.one
 have oc':=hc'.one
 have og':=hg'.one
 refine bz C.q4 zU fun T hl g0 g1=>?_
 refine zW (dV hl g0 g1 (lM oc og) (lM oc' og') (HS oc og oc' og')) ?_
 refine Y4 (pq C (n:=n) (l:=[(n,K,G),(n,K',G')]) zF (wS (aq _ _ _) (hc.mono (zG H)) (hg.mono (zG H)) (hc'.mono (zG H)) (hg'.mono (zG H))) (by simp) (Gs ho ho')) fun H2 hk2=>?_
 obtain ⟨k2,_,w2⟩:=zT H zK hk2
 have d0:H2.get H.next=some (.cells [.int .i64 (n:Int),vc,vg] ag true):=hk2.get (cP)
 have d1:H2.get (H.next+1)=some (.cells [.int .i64 (n:Int),vc',vg'] ag true):=hk2.get (cP)
 have d2:H2.get (H.next+2)=some (.cells [.int .i64 0,.nilSl,.nilSl] ag true):=hk2.get (cP)
 have lt2:=w2 _ _ d2
 refine zW (aX hl g0 g1 @au) ?_
 refine aI ?_
 refine zD (dV hl g0 g1 d0 d1 d2) ?_
 refine Y5 (Ie C zF (aq _ _ _) ((hc.mono k2.sub).mono (zG H2)) ((hc'.mono k2.sub).mono (zG H2)) zO zO) ?_
 rintro v3 H3 ⟨hs3,hk3⟩
 obtain ⟨k23,_,_⟩:=zT H2 zK hk3
 have k3:Kp H H3:=k2.trans k23
 have le_k3:=k3.le
 have w3:=k3.wf
 refine zD (dV hl g0 g1 d0 d1 d2) ?_
 refine Y5 (kK C (n:=n) (m:=m) (m2:=m2) zF (hs3.mono (zG H3)) ho.dim (by rw [T9]; omega) (fun c hc=>(Uc.1 hc).elim (fun h=>⟨(ho.rowK c h).1,FU (ho.rowK c h).2 hm⟩) fun h=>⟨(ho'.rowK c h).1,FU (ho'.rowK c h).2 hm'⟩) hm3 hG hm2) ?_
 rintro v4 H4 ⟨hm4,hk4⟩
 obtain ⟨k34,_,_⟩:=zT H3 zK hk4
 have k4:Kp H H4:=k3.trans k34
 have le_k4:=k4.le
 have w4:=k4.wf
 have d2c:=k34.get (k23.get d2)
 have d0b:=k23.get d0
 have lt4:=w4 _ _ d2c
 rcases hm4 with ⟨rfl,hm4⟩ | ⟨p,rfl,⟨vc4,vg4,rfl,hc4,hg4⟩,h1,h2⟩
 ·refine zD (lA hl g0 g1 d0 d1 d0b d2c @nt) ?_
  exact ⟨.inl ⟨rfl,hm4⟩,zK⟩
 ·have oc4:=hc4.one
  have og4:=hg4.one
  refine zD (lA hl g0 g1 d0 d1 d0b d2c @nt) ?_
  refine ⟨.inr ⟨_,rfl,⟨vc4,vg4,rfl,?_,?_⟩,h1,h2⟩,zK⟩
  ·have m3:NoTy (t_api_Con :: conE.tys) H4 (H.next+2):=Zp d2c zU
   exact Zw (E:=conE) zS hc4
  ·have m3:NoTy (ak :: genE.tys) H4 (H.next+2):=Zp d2c zU
   exact Zw (E:=genE) zS hg4
set_option maxHeartbeats 4000000 in
theorem wz (C:Code tab) (hw:Wf H) {v w:AV} {n e f e' f' m m2 m3:Nat} {K K':List (List Int × Bool)} {G G':List (Nat × List Int)} (hp:PolyV H v n K G) (hq:PolyV H w n K' G') (ho:PolyOK n e f K G) (ho':PolyOK n e' f' K' G') (hl':G.length+G'.length<=60) (hm:e<=m) (hm':e'<=m) (hm4:m<=300000) (hC:∀ c∈Lin.consP n (G++G'),Lin.Bd (2^m2) c.1) (hm2:m2<=300000) (hG:∀ x∈Lin.gensP n (Lin.consP n (G++G')),Lin.Bd (2^m3) x.2) (hm3:m3<=300000) (hlc:(Lin.consP n (G++G')).length<=1022\/1024<=(Lin.consP n (G++G')).length) :
  Ans tab (.fn qP [v,w]) H fun x H'=>Bh H' x n (G++G')/\Kp H H':=by
 obtain ⟨vc,vg,rfl,hc,hg⟩:=hp
 obtain ⟨vc',vg',rfl,hc',hg'⟩:=hq
 have oc:=hc.one
 have og:=hg.one
 have oc':=hc'.one
 have og':=hg'.one
 refine bz C.q5 zU fun T hl g0 g1=>?_
 refine zW (dV hl g0 g1 (lM oc og) (lM oc' og') (HS oc og oc' og')) ?_
 refine Y4 (pq C (n:=n) (l:=[(n,K,G),(n,K',G')]) zF (wS (aq _ _ _) (hc.mono (zG H)) (hg.mono (zG H)) (hc'.mono (zG H)) (hg'.mono (zG H))) (by simp) (Gs ho ho')) fun H2 hk2=>?_
 obtain ⟨k2,_,w2⟩:=zT H zK hk2
 have d0:H2.get H.next=some (.cells [.int .i64 (n:Int),vc,vg] ag true):=hk2.get (cP)
 have d1:H2.get (H.next+1)=some (.cells [.int .i64 (n:Int),vc',vg'] ag true):=hk2.get (cP)
 have d2:H2.get (H.next+2)=some (.cells [.int .i64 0,.nilSl,.nilSl] ag true):=hk2.get (cP)
 have lt2:=w2 _ _ d2
 refine zW (aX hl g0 g1 @au) ?_
 refine aI ?_
 refine zD (dV hl g0 g1 d0 d1 d2) ?_
 refine Y5 (Id C zF (aq _ _ _) ((hg.mono k2.sub).mono (zG H2)) ((hg'.mono k2.sub).mono (zG H2)) zO zO) ?_
 rintro v3 H3 ⟨hs3,hk3⟩
 obtain ⟨k23,_,_⟩:=zT H2 zK hk3
 have k3:Kp H H3:=k2.trans k23
 have le_k3:=k3.le
 have w3:=k3.wf
 refine zD (dV hl g0 g1 d0 d1 d2) ?_
 refine Y5 (vj C (n:=n) (m:=m) (m2:=m2) (m3:=m3) zF (hs3.mono (zG H3)) ho.dim (by rw [T9]; omega) (Lin.validG_app ho.own.valid ho'.own.valid) (fun x hx=>(Uc.1 hx).elim (ho.kinds x) (ho'.kinds x)) (fun c hc=>(Uc.1 hc).elim (fun h=>FU (ho.bG c h) hm) fun h=>FU (ho'.bG c h) hm') hm4 hC hm2 hG hm3 hlc) ?_
 rintro v4 H4 ⟨hm5,hk4⟩
 obtain ⟨k34,_,_⟩:=zT H3 zK hk4
 have k4:Kp H H4:=k3.trans k34
 have le_k4:=k4.le
 have w4:=k4.wf
 have d2c:=k34.get (k23.get d2)
 have d0b:=k23.get d0
 have lt4:=w4 _ _ d2c
 rcases hm5 with ⟨rfl,hm5⟩ | ⟨rfl,hm5⟩ | ⟨p,rfl,⟨vc4,vg4,rfl,hc4,hg4⟩,h1,h2⟩
 ·refine zD (lA hl g0 g1 d0 d1 d0b d2c @nt) ?_
  exact ⟨.inl ⟨rfl,hm5⟩,zK⟩
 ·refine zD (lA hl g0 g1 d0 d1 d0b d2c @nt) ?_
  exact ⟨.inr (.inl ⟨rfl,hm5⟩),zK⟩
 ·have oc4:=hc4.one
  have og4:=hg4.one
  refine zD (lA hl g0 g1 d0 d1 d0b d2c @nt) ?_
  refine ⟨.inr (.inr ⟨_,rfl,⟨vc4,vg4,rfl,?_,?_⟩,h1,h2⟩),zK⟩
  ·have m3:NoTy (t_api_Con :: conE.tys) H4 (H.next+2):=Zp d2c zU
   exact Zw (E:=conE) zS hc4
  ·have m3:NoTy (ak :: genE.tys) H4 (H.next+2):=Zp d2c zU
   exact Zw (E:=genE) zS hg4
end
end Go.Proofs.YtofhopjbbpihaaaGreat.Ev
namespace Go.Proofs.YtofhopjbbpihaaaGreat.Lin
set_option linter.all false
theorem g13:gensP 1 [([-1,1],false),([3,-1],false)]=[(3,[1,1]),(3,[1,3])]:=by
 have r:(gensU 2 [] [[1,0],[-1,1],[3,-1]]).rays.map (restF (gensL 2 [] [[1,0],[-1,1],[3,-1]]))=[[1,1],[1,3]]:=by decide +kernel
 have e:gensL 2 [] [[1,0],[-1,1],[3,-1]]=[]:=by decide +kernel
 have g:gensR 2 [] [[1,0],[-1,1],[3,-1]]=[[1,1],[1,3]]:=by
  unfold gensR
  rw [r]; simp [List.mergeSort,List.MergeSort.Internal.splitInTwo,cmpV]
 have h1:eqsOf ([([-1,1],false),([3,-1],false)]:List (V × Bool))=[]:=rfl
 have h2:ineqsOf 1 ([([-1,1],false),([3,-1],false)]:List (V × Bool))=[[1,0],[-1,1],[3,-1]]:=rfl
 unfold gensP
 rw [h1,h2,e,g]
 rfl
theorem g23:gensP 1 [([-2,1],false),([3,-1],false)]=[(3,[1,2]),(3,[1,3])]:=by
 have r:(gensU 2 [] [[1,0],[-2,1],[3,-1]]).rays.map (restF (gensL 2 [] [[1,0],[-2,1],[3,-1]]))=[[1,2],[1,3]]:=by decide +kernel
 have e:gensL 2 [] [[1,0],[-2,1],[3,-1]]=[]:=by decide +kernel
 have g:gensR 2 [] [[1,0],[-2,1],[3,-1]]=[[1,2],[1,3]]:=by
  unfold gensR
  rw [r]; simp [List.mergeSort,List.MergeSort.Internal.splitInTwo,cmpV]
 have h1:eqsOf ([([-2,1],false),([3,-1],false)]:List (V × Bool))=[]:=rfl
 have h2:ineqsOf 1 ([([-2,1],false),([3,-1],false)]:List (V × Bool))=[[1,0],[-2,1],[3,-1]]:=rfl
 unfold gensP
 rw [h1,h2,e,g]
 rfl
theorem g55:gensP 1 [([-5,1],false),([5,-1],false)]=[(3,[1,5])]:=by
 have r:(gensU 2 [] [[1,0],[-5,1],[5,-1]]).rays.map (restF (gensL 2 [] [[1,0],[-5,1],[5,-1]]))=[[1,5]]:=by decide +kernel
 have e:gensL 2 [] [[1,0],[-5,1],[5,-1]]=[]:=by decide +kernel
 have g:gensR 2 [] [[1,0],[-5,1],[5,-1]]=[[1,5]]:=by
  unfold gensR
  rw [r]; simp [List.mergeSort,List.MergeSort.Internal.splitInTwo,cmpV]
 have h1:eqsOf ([([-5,1],false),([5,-1],false)]:List (V × Bool))=[]:=rfl
 have h2:ineqsOf 1 ([([-5,1],false),([5,-1],false)]:List (V × Bool))=[[1,0],[-5,1],[5,-1]]:=rfl
 unfold gensP
 rw [h1,h2,e,g]
 rfl
theorem g15:gensP 1 [([-1,1],false),([5,-1],false)]=[(3,[1,1]),(3,[1,5])]:=by
 have r:(gensU 2 [] [[1,0],[-1,1],[5,-1]]).rays.map (restF (gensL 2 [] [[1,0],[-1,1],[5,-1]]))=[[1,1],[1,5]]:=by decide +kernel
 have e:gensL 2 [] [[1,0],[-1,1],[5,-1]]=[]:=by decide +kernel
 have g:gensR 2 [] [[1,0],[-1,1],[5,-1]]=[[1,1],[1,5]]:=by
  unfold gensR
  rw [r]; simp [List.mergeSort,List.MergeSort.Internal.splitInTwo,cmpV]
 have h1:eqsOf ([([-1,1],false),([5,-1],false)]:List (V × Bool))=[]:=rfl
 have h2:ineqsOf 1 ([([-1,1],false),([5,-1],false)]:List (V × Bool))=[[1,0],[-1,1],[5,-1]]:=rfl
 unfold gensP
 rw [h1,h2,e,g]
 rfl
theorem g49:gensP 1 [([-4,1],false),([9,-1],false)]=[(3,[1,4]),(3,[1,9])]:=by
 have r:(gensU 2 [] [[1,0],[-4,1],[9,-1]]).rays.map (restF (gensL 2 [] [[1,0],[-4,1],[9,-1]]))=[[1,4],[1,9]]:=by decide +kernel
 have e:gensL 2 [] [[1,0],[-4,1],[9,-1]]=[]:=by decide +kernel
 have g:gensR 2 [] [[1,0],[-4,1],[9,-1]]=[[1,4],[1,9]]:=by
  unfold gensR
  rw [r]; simp [List.mergeSort,List.MergeSort.Internal.splitInTwo,cmpV]
 have h1:eqsOf ([([-4,1],false),([9,-1],false)]:List (V × Bool))=[]:=rfl
 have h2:ineqsOf 1 ([([-4,1],false),([9,-1],false)]:List (V × Bool))=[[1,0],[-4,1],[9,-1]]:=rfl
 unfold gensP
 rw [h1,h2,e,g]
 rfl
theorem k13:consP 1 [(3,[1,1]),(3,[1,3])]=[([-1,1],false),([3,-1],false)]:=by
 have r:(gensU 2 [] [[1,1],[1,3]]).rays.map (restF (gensL 2 [] [[1,1],[1,3]]))=[[3,-1],[-1,1]]:=by decide +kernel
 have e:gensL 2 [] [[1,1],[1,3]]=[]:=by decide +kernel
 have g:gensR 2 [] [[1,1],[1,3]]=[[-1,1],[3,-1]]:=by
  unfold gensR
  rw [r]; simp [List.mergeSort,List.MergeSort.Internal.splitInTwo,cmpV]
 have h1:linesOf ([(3,[1,1]),(3,[1,3])]:List (Nat × V))=[]:=rfl
 have h2:raysOf ([(3,[1,1]),(3,[1,3])]:List (Nat × V))=[[1,1],[1,3]]:=rfl
 unfold consP
 rw [h1,h2,e,g]
 decide
theorem k49:consP 1 [(3,[1,4]),(3,[1,9])]=[([-4,1],false),([9,-1],false)]:=by
 have r:(gensU 2 [] [[1,4],[1,9]]).rays.map (restF (gensL 2 [] [[1,4],[1,9]]))=[[9,-1],[-4,1]]:=by decide +kernel
 have e:gensL 2 [] [[1,4],[1,9]]=[]:=by decide +kernel
 have g:gensR 2 [] [[1,4],[1,9]]=[[-4,1],[9,-1]]:=by
  unfold gensR
  rw [r]; simp [List.mergeSort,List.MergeSort.Internal.splitInTwo,cmpV]
 have h1:linesOf ([(3,[1,4]),(3,[1,9])]:List (Nat × V))=[]:=rfl
 have h2:raysOf ([(3,[1,4]),(3,[1,9])]:List (Nat × V))=[[1,4],[1,9]]:=rfl
 unfold consP
 rw [h1,h2,e,g]
 decide
theorem kh:consP 1 [(3,[1,1]),(3,[1,3]),(3,[1,5])]=[([-1,1],false),([5,-1],false)]:=by
 have r:(gensU 2 [] [[1,1],[1,3],[1,5]]).rays.map (restF (gensL 2 [] [[1,1],[1,3],[1,5]]))=[[-1,1],[5,-1]]:=by decide +kernel
 have e:gensL 2 [] [[1,1],[1,3],[1,5]]=[]:=by decide +kernel
 have g:gensR 2 [] [[1,1],[1,3],[1,5]]=[[-1,1],[5,-1]]:=by
  unfold gensR
  rw [r]; simp [List.mergeSort,List.MergeSort.Internal.splitInTwo,cmpV]
 have h1:linesOf ([(3,[1,1]),(3,[1,3]),(3,[1,5])]:List (Nat × V))=[]:=rfl
 have h2:raysOf ([(3,[1,1]),(3,[1,3]),(3,[1,5])]:List (Nat × V))=[[1,1],[1,3],[1,5]]:=rfl
 unfold consP
 rw [h1,h2,e,g]
 decide
theorem m23:gensP 1 [([-1,1],false),([3,-1],false),([-2,1],false)]=[(3,[1,2]),(3,[1,3])]:=by
 have r:(gensU 2 [] [[1,0],[-1,1],[3,-1],[-2,1]]).rays.map (restF (gensL 2 [] [[1,0],[-1,1],[3,-1],[-2,1]]))=[[1,3],[1,2]]:=by decide +kernel
 have e:gensL 2 [] [[1,0],[-1,1],[3,-1],[-2,1]]=[]:=by decide +kernel
 have g:gensR 2 [] [[1,0],[-1,1],[3,-1],[-2,1]]=[[1,2],[1,3]]:=by
  unfold gensR
  rw [r]; simp [List.mergeSort,List.MergeSort.Internal.splitInTwo,cmpV]
 have h1:eqsOf ([([-1,1],false),([3,-1],false),([-2,1],false)]:List (V × Bool))=[]:=rfl
 have h2:ineqsOf 1 ([([-1,1],false),([3,-1],false),([-2,1],false)]:List (V × Bool))=[[1,0],[-1,1],[3,-1],[-2,1]]:=rfl
 unfold gensP
 rw [h1,h2,e,g]
 rfl
theorem b0:gensP 1 [([-1,1],false),([3,-1],false),([-4,1],false),([9,-1],false)]=[]:=by
 have r:(gensU 2 [] [[1,0],[-1,1],[3,-1],[-4,1],[9,-1]]).rays.map (restF (gensL 2 [] [[1,0],[-1,1],[3,-1],[-4,1],[9,-1]]))=[]:=by decide +kernel
 have e:gensL 2 [] [[1,0],[-1,1],[3,-1],[-4,1],[9,-1]]=[]:=by decide +kernel
 have g:gensR 2 [] [[1,0],[-1,1],[3,-1],[-4,1],[9,-1]]=[]:=by
  unfold gensR
  rw [r]; simp
 have h1:eqsOf ([([-1,1],false),([3,-1],false),([-4,1],false),([9,-1],false)]:List (V × Bool))=[]:=rfl
 have h2:ineqsOf 1 ([([-1,1],false),([3,-1],false),([-4,1],false),([9,-1],false)]:List (V × Bool))=[[1,0],[-1,1],[3,-1],[-4,1],[9,-1]]:=rfl
 unfold gensP
 rw [h1,h2,e,g]
 rfl
theorem k23:consP 1 [(3,[1,2]),(3,[1,3])]=[([-2,1],false),([3,-1],false)]:=by
 have r:(gensU 2 [] [[1,2],[1,3]]).rays.map (restF (gensL 2 [] [[1,2],[1,3]]))=[[3,-1],[-2,1]]:=by decide +kernel
 have e:gensL 2 [] [[1,2],[1,3]]=[]:=by decide +kernel
 have g:gensR 2 [] [[1,2],[1,3]]=[[-2,1],[3,-1]]:=by
  unfold gensR
  rw [r]; simp [List.mergeSort,List.MergeSort.Internal.splitInTwo,cmpV]
 have h1:linesOf ([(3,[1,2]),(3,[1,3])]:List (Nat × V))=[]:=rfl
 have h2:raysOf ([(3,[1,2]),(3,[1,3])]:List (Nat × V))=[[1,2],[1,3]]:=rfl
 unfold consP
 rw [h1,h2,e,g]
 decide
theorem k15:consP 1 [(3,[1,1]),(3,[1,5])]=[([-1,1],false),([5,-1],false)]:=by
 have r:(gensU 2 [] [[1,1],[1,5]]).rays.map (restF (gensL 2 [] [[1,1],[1,5]]))=[[5,-1],[-1,1]]:=by decide +kernel
 have e:gensL 2 [] [[1,1],[1,5]]=[]:=by decide +kernel
 have g:gensR 2 [] [[1,1],[1,5]]=[[-1,1],[5,-1]]:=by
  unfold gensR
  rw [r]; simp [List.mergeSort,List.MergeSort.Internal.splitInTwo,cmpV]
 have h1:linesOf ([(3,[1,1]),(3,[1,5])]:List (Nat × V))=[]:=rfl
 have h2:raysOf ([(3,[1,1]),(3,[1,5])]:List (Nat × V))=[[1,1],[1,5]]:=rfl
 unfold consP
 rw [h1,h2,e,g]
 decide
theorem k55:consP 1 [(3,[1,5])]=[([-5,1],true)]:=by
 have r:(gensU 2 [] [[1,5]]).rays.map (restF (gensL 2 [] [[1,5]]))=[[1,0]]:=by decide +kernel
 have e:gensL 2 [] [[1,5]]=[[-5,1]]:=by decide +kernel
 have g:gensR 2 [] [[1,5]]=[[1,0]]:=by
  unfold gensR
  rw [r]; simp
 have h1:linesOf ([(3,[1,5])]:List (Nat × V))=[]:=rfl
 have h2:raysOf ([(3,[1,5])]:List (Nat × V))=[[1,5]]:=rfl
 unfold consP
 rw [h1,h2,e,g]
 decide
theorem g55b:gensP 1 [([-5,1],true)]=[(3,[1,5])]:=by
 have r:(gensU 2 [[-5,1]] [[1,0]]).rays.map (restF (gensL 2 [[-5,1]] [[1,0]]))=[[1,5]]:=by decide +kernel
 have e:gensL 2 [[-5,1]] [[1,0]]=[]:=by decide +kernel
 have g:gensR 2 [[-5,1]] [[1,0]]=[[1,5]]:=by
  unfold gensR
  rw [r]; simp
 have h1:eqsOf ([([-5,1],true)]:List (V × Bool))=[[-5,1]]:=rfl
 have h2:ineqsOf 1 ([([-5,1],true)]:List (V × Bool))=[[1,0]]:=rfl
 unfold gensP
 rw [h1,h2,e,g]
 rfl
theorem bd_small4 {x:V} (h:x.all (fun a=>decide (a.natAbs<=16))=true):Bd (2^4) x:=fun i=>by
 by_cases hi:i<x.length
 ·have:at_ x i=x[i]:=by simp [at_,hi]
  rw [this]
  simpa using Uj.1 h _ (TM hi)
 ·have:at_ x i=0:=by simp [at_,hi]
  rw [this]; simp
end Go.Proofs.YtofhopjbbpihaaaGreat.Lin
namespace Go.Proofs.YtofhopjbbpihaaaGreat.Ev
open Go Nn
set_option linter.all false
section
variable {tab:Nat->Option aw} {H:Heap} {s:AV}
theorem xG (C:Code tab) (hw:Wf H) {v:AV} {n:Nat} {c:List (List Int × Bool)} {g:List (Nat × List Int)} (hp:PolyV H v n c g) :
  Ans tab (.fn fp [v]) H fun x H'=>x=.bool (mX c g || decide (4<n))/\Kp H H':=by
 obtain ⟨vc,vg,rfl,hc,hg⟩:=hp
 have oc:=hc.one
 have og:=hg.one
 refine cU C.q11 zU fun T hl g0=>?_
 refine zW (aD hl g0 (lM oc og)) ?_
 refine Y4 (EG C (n:=n) (c:=c) (g:=g) zF ⟨vc,vg,rfl,hc.mono (zG H),hg.mono (zG H)⟩) fun H2 hk2=>?_
 obtain ⟨k2,_,_⟩:=zT H zK hk2
 have d0:=hk2.get (b:=H.next) (e:=.cells [.int .i64 (n:Int),vc,vg] ag true) (cP)
 have e:decide ((4:Int)<(n:Int))=decide (4<n):=by rw [UP]; simp; omega
 cases hq:mX c g with
 | true =>
  refine zW (aC hl g0) ?_
  exact ⟨by simp,zK⟩
 | false =>
  refine zW (aD hl g0 d0) ?_
  exact ⟨by simp [e],zK⟩
theorem tE (C:Code tab) (hw:Wf H) {v v':AV} {n n':Nat} {c c':List (List Int × Bool)} {g g':List (Nat × List Int)} (hp:PolyV H v n c g) (hp':PolyV H v' n' c' g') (hc1:c.length<1099511627776) (hc2:∀ r∈c,r.1.length<1099511627776/\∀ z∈r.1,eY z) (hg1:g.length<1099511627776) (hg2:∀ r∈g,r.2.length<1099511627776/\∀ z∈r.2,eY z) :
  Ans tab (.fn fP [v,v']) H fun x H'=>x=.bool (decide (n=n'/\c=c'/\g=g'))/\Kp H H':=by
 obtain ⟨vc,vg,rfl,hc,hg⟩:=hp
 obtain ⟨vc',vg',rfl,hc',hg'⟩:=hp'
 have oc:=hc.one
 have og:=hg.one
 have oc':=hc'.one
 have og':=hg'.one
 refine bz C.q6 zU fun T hl g0 g1=>?_
 refine zW (bS hl g0 g1 (lM oc og) (lM oc' og')) ?_
 refine Y4 (GG C (n:=n) (n':=n') zF ⟨vc,vg,rfl,hc.mono (zG H),hg.mono (zG H)⟩ ⟨vc',vg',rfl,hc'.mono (zG H),hg'.mono (zG H)⟩ hc1 hc2 hg1 hg2) fun H2 hk2=>?_
 obtain ⟨k2,_,_⟩:=zT H zK hk2
 refine zW (aD hl g0 g1) ?_
 exact zK
def rh (n:Nat) (c:List (List Int × Bool)) (g:List (Nat × List Int)) (n':Nat) (c':List (List Int × Bool)) (g':List (Nat × List Int)):Bool :=
 (mX c g || decide (4<n)) || (mX c' g' || decide (4<n')) || decide (8<c.length+c'.length) || decide (8<g.length+g'.length)
set_option maxHeartbeats 2000000 in
theorem E7 (C:Code tab) (hw:Wf H) {v v':AV} {n n':Nat} {c c':List (List Int × Bool)} {g g':List (Nat × List Int)} (hp:PolyV H v n c g) (hp':PolyV H v' n' c' g') (h1:c.length<1099511627776) (h2:c'.length<1099511627776) (h3:g.length<1099511627776) (h4:g'.length<1099511627776) :
  Ans tab (.fn fu [v,v']) H fun x H'=>x=.bool (rh n c g n' c' g')/\Kp H H':=by
 obtain ⟨vc,vg,rfl,hc,hg⟩:=hp
 obtain ⟨vc',vg',rfl,hc',hg'⟩:=hp'
 have oc:=hc.one
 have og:=hg.one
 have oc':=hc'.one
 have og':=hg'.one
 refine bz C.q19 zU fun T hl g0 g1=>?_
 refine zW (bS hl g0 g1 (lM oc og) (lM oc' og')) ?_
 refine Y4 (xG C (n:=n) (c:=c) (g:=g) zF ⟨vc,vg,rfl,hc.mono (zG H),hg.mono (zG H)⟩) fun H2 hk2=>?_
 obtain ⟨k2,_,w2⟩:=zT H zK hk2
 have d0:=hk2.get (b:=H.next) (e:=.cells [.int .i64 (n:Int),vc,vg] ag true) (cP)
 have d1:=hk2.get (b:=H.next+1) (e:=.cells [.int .i64 (n':Int),vc',vg'] ag true) (cP)
 cases hq:mX c g || decide (4<n) with
 | true =>
  refine zW (aD hl g0 g1) ?_
  exact ⟨by unfold rh; rw [hq]; simp,zK⟩
 | false =>
  refine zW (aX hl g0 g1 d1) ?_
  refine Y4 (xG C (n:=n') (c:=c') (g:=g') zF ⟨vc',vg',rfl,(hc'.mono k2.sub).mono (zG H2),(hg'.mono k2.sub).mono (zG H2)⟩) fun H3 hk3=>?_
  obtain ⟨k23,_,_⟩:=zT H2 zK hk3
  have k3:Kp H H3:=k2.trans k23
  have le_k3:=k3.le
  have d0b:=k23.get d0
  have d1b:=k23.get d1
  cases hq2:mX c' g' || decide (4<n') with
  | true =>
   refine zW (aD hl g0 g1) ?_
   exact ⟨by unfold rh; rw [hq,hq2]; simp,zK⟩
  | false =>
   have e1:IntKind.i64.wrap ((c.length:Int)+(c'.length:Int))=(c.length:Int)+(c'.length:Int):=by rw [wrap_i64] <;> omega
   have e2:IntKind.i64.wrap ((g.length:Int)+(g'.length:Int))=(g.length:Int)+(g'.length:Int):=by rw [wrap_i64] <;> omega
   by_cases q1:(8:Int)<(c.length:Int)+(c'.length:Int)
   ·have q1':8<c.length+c'.length:=by omega
    refine zW (ko hl g0 g1 d0b d1b hc.lenV hc'.lenV e1 q1) ?_
    exact ⟨by unfold rh; rw [hq,hq2]; simp [q1'],zK⟩
   ·have q1':¬ 8<c.length+c'.length:=by omega
    refine zW (yU hl g0 g1 d0b d1b hc.lenV hc'.lenV e1 q1 hg.lenV hg'.lenV e2) ?_
    refine ⟨?_,zK⟩
    unfold rh
    rw [hq,hq2]
    congr 1
    rw [UP]
    simp [q1']
    omega
theorem FY {α:Type} {E:fg α} {ty ty2 bytes id b:Nat} {H:Heap} {w:AV} {cs:List AV} (hb:H.get b=some (.cells cs ty true)) (hy:SlV E ty2 H w []):cM H id E.sz bytes ty (.own b 0 0 0 E.sz true) w=some (.own b 0 0 0 E.sz true,H):=by
 obtain ⟨news,hr,-,hc⟩:=hy
 obtain ⟨m',hm',hlen⟩:=hr.length
 obtain ⟨-,-,m2,hm2,hf⟩:=hr
 rw [hm'] at hm2; cases hm2
 have hmm:m'=0:=Vv E.pos (by rw [<- hlen,hc.1]; rfl)
 subst hmm
 unfold cM
 rw [hm']
 simp only
 rw [hf]
 simp only [cH,hb]
 simp
theorem Bq.weak {α:Type} {E:fg α} {ty:Nat} {H0 H0' H:Heap} {v:AV} {l:List α} (h:Bq E ty H0 H v l) (hn:H0'.next<=H0.next):Bq E ty H0' H v l:=by
 rcases h with h | ⟨b,ex,cells,h1,h2,h3,h4⟩
 ·exact .inl h
 ·exact .inr ⟨b,ex,cells,h1,h2,h3,Ub hn h4⟩
theorem Lr (C:Code tab) (hw:Wf H) {l:List (List Int × Bool)} (hs:SlV conE t_api_Con H s l) (hbig:l.length<1099511627776):Ans tab (.fn cK [s]) H fun v H'=>Kp H H'/\Bq conE t_api_Con H H' v l:=by
 refine cU C.q29 zU fun T hl g0=>?_
 rcases hs.nilcase with ⟨rfl,rfl⟩ | hne
 ·have e:bX .eql .sl .nilSl .nilSl=some (.bool true):=rfl
  refine zW (aD hl g0 e) ?_
  exact ⟨zK,Bq.nil⟩
 ·have ef:cV ([]:List AV) []=some []:=rfl
  refine zW (aX hl g0 hne ef) ?_
  have k1:Kp H ((H.up 7).put (H.next+3) (.cells [] t_api_Con true)):=zK
  have le_k1:=k1.le
  have hO:Own conE t_api_Con H ((H.up 7).put (H.next+3) (.cells [] t_api_Con true)) (H.next+3) true (.own (H.next+3) 0 0 0 2 true) ([]:List (List Int × Bool)):=⟨_,rfl,aq _ _ _,Y9 _ _,by omega⟩
  by_cases h0:0<l.length
  ·obtain ⟨v',H2,e1,h2,hk2,hn2,hs2,ho⟩:=SlV.app (l:=[]) (id:=H.next+5) (bytes:=32) hO.sl k1 (hs.mono k1.sub) zO (by show _<H.next+7; omega) (by rw [aA zO]; exact hw.fresh (b:=H.next+5) zO) (by simp; omega) (by simp; omega)
   have e1':cM ((H.up 7).put (H.next+3) (.cells [] t_api_Con true)) (H.next+5) 2 32 t_api_Con (.own (H.next+3) 0 0 0 2 true) s=some (v',H2):=e1
   refine zW (aD hl g0 e1') ?_
   exact ⟨hk2,.inr ⟨_,_,ho h0⟩⟩
  ·have hl0:l=[]:=Us zO
   subst hl0
   have e1':cM ((H.up 7).put (H.next+3) (.cells [] t_api_Con true)) (H.next+5) 2 32 t_api_Con (.own (H.next+3) 0 0 0 2 true) s=some (.own (H.next+3) 0 0 0 2 true,(H.up 7).put (H.next+3) (.cells [] t_api_Con true)):=FY (E:=conE) (aq _ _ _) (hs.mono k1.sub)
   refine zW (aD hl g0 e1') ?_
   exact ⟨k1,.inr ⟨_,_,hO⟩⟩
set_option maxHeartbeats 4000000 in
theorem Kb (C:Code tab) (hw:Wf H) {v w:AV} {n e f m m2:Nat} {K:List (List Int × Bool)} {G:List (Nat × List Int)} {a:List Int} {b:Bool} (hp:PolyV H v n K G) (ho:PolyOK n e f K G) (ha:RowV H w a) (hal:a.length=n+1) (hab:Lin.Bd (2^m) a) (hl':K.length+1<=60) (hm:f<=m) (hm3:m<=300000) (hG:∀ x∈Lin.gensP n (K++[(a,b)]),Lin.Bd (2^m2) x.2) (hm2:m2<=300000) :
  Ans tab (.fn qO [v,.agg [w,.bool b]]) H fun x H'=>nP H' x n (Lin.gensP n (K++[(a,b)]))/\Kp H H':=by
 obtain ⟨vc,vg,rfl,hc,hg⟩:=hp
 have oc:=hc.one
 have og:=hg.one
 have oa:=ha.one
 refine bz C.q10 zU fun T hl g0 g1=>?_
 refine zW (bS hl g0 g1 (lM oc og) (Cx oa)) ?_
 refine Y4 (zN C (n:=n) (K:=K) (G:=G) zF ⟨vc,vg,rfl,hc.mono (zG H),hg.mono (zG H)⟩ ho) fun H2 hk2=>?_
 obtain ⟨k2,_,w2⟩:=zT H zK hk2
 have d0:H2.get H.next=some (.cells [.int .i64 (n:Int),vc,vg] ag true):=hk2.get (cP)
 have d1:H2.get (H.next+1)=some (.cells [w,.bool b] t_api_Con true):=hk2.get (cP)
 have d2:H2.get (H.next+2)=some (.cells [.int .i64 0,.nilSl,.nilSl] ag true):=hk2.get (cP)
 have lt2:=w2 _ _ d2
 refine zW (aX hl g0 g1 @au) ?_
 refine aI ?_
 refine zD (dV hl g0 g1 d0 d1 d2) ?_
 refine Y5 (Lr C zF ((hc.mono k2.sub).mono (zG H2)) zO) ?_
 rintro v3 H3 ⟨hk3,hq3⟩
 obtain ⟨k23,_,_⟩:=zT H2 zK hk3
 have k3:Kp H H3:=k2.trans k23
 have le_k3:=k3.le
 have w3:=k3.wf
 have d0b:=k23.get d0
 have d1b:=k23.get d1
 have d2b:=k23.get d2
 have n3:H2.next+15<=H3.next:=hk3.le
 have f6:H3.get (H2.next+8)=none:=hk3.free (show H2.next+8<H2.next+15 by omega) (w2.fresh (b:=H2.next+8) zO)
 have f7:H3.get (H2.next+9)=none:=hk3.free (show H2.next+9<H2.next+15 by omega) (w2.fresh (b:=H2.next+9) zO)
 have q3:Bq conE t_api_Con H2 H3 v3 K:=hq3.weak (by show H2.next<=H2.next+15; omega)
 obtain ⟨N,H4,e4,q4,k24,n4,-,-⟩:=Y7 (ty2:=t_api_Con) (bytes:=32) (id:=H2.next+9) (id2:=H2.next+8) (cs:=[w,.bool b]) (a:=(a,b)) q3 zU k23 ⟨w,rfl,ha.mono k3.sub⟩ zO zO f7 zO zO f6 zO zO zO
 have e4:cM (H3.put (H2.next+8) (.cells [w,.bool b] t_api_Con true)) (H2.next+9) 2 32 t_api_Con v3 (.own (H2.next+8) 0 1 1 2 true)=some (.own (H2.next+9) 0 N N 2 false,H4):=e4
 have k4:Kp H H4:=k2.trans k24
 have le_k4:=k4.le
 have w4:=k4.wf
 have d0c:=k24.get d0
 have d2c:=k24.get d2
 refine zD (qi hl g0 g1 d0 d1 d2 d0b d1b d2b e4) ?_
 refine Y5 (kK C (n:=n) (m:=m) (m2:=m2) (l:=K++[(a,b)]) zF (q4.sl.mono (zG H4)) ho.dim (by rw [T9]; exact hl') (fun c hc=>(Uc.1 hc).elim (fun h=>⟨(ho.rowK c h).1,FU (ho.rowK c h).2 hm⟩) fun h=>by rw [UV] at h; subst h; exact ⟨hal,hab⟩) hm3 hG hm2) ?_
 rintro v5 H5 ⟨hm5,hk5⟩
 obtain ⟨k45,_,_⟩:=zT H4 zK hk5
 have k5:Kp H H5:=k4.trans k45
 have le_k5:=k5.le
 have w5:=k5.wf
 have d2d:=k45.get d2c
 have lt5:=w5 _ _ d2d
 rcases hm5 with ⟨rfl,hm5⟩ | ⟨p,rfl,⟨vc4,vg4,rfl,hc4,hg4⟩,h1,h2⟩
 ·refine zD (Bm hl g0 g1 d0 d1 d2 d0b d1b d2b d0c d2c d2d @nt) ?_
  exact ⟨.inl ⟨rfl,hm5⟩,zK⟩
 ·have oc4:=hc4.one
  have og4:=hg4.one
  refine zD (Bm hl g0 g1 d0 d1 d2 d0b d1b d2b d0c d2c d2d @nt) ?_
  refine ⟨.inr ⟨_,rfl,⟨vc4,vg4,rfl,?_,?_⟩,h1,h2⟩,zK⟩
  ·have m3:NoTy (t_api_Con :: conE.tys) H5 (H.next+2):=Zp d2d zU
   exact Zw (E:=conE) zS hc4
  ·have m3:NoTy (ak :: genE.tys) H5 (H.next+2):=Zp d2d zU
   exact Zw (E:=genE) zS hg4
end
section
variable {tab:Nat->Option aw} {H:Heap} {s:AV}
theorem wU (C:Code tab) (hw:Wf H) {l:List Int} {ty:Nat} (hs:yT (Hn .i64) ty H s l) (h64:l.length<=64) (hz:∀ z∈l,-9223372036854775808<=z/\z<9223372036854775808) :
  Ans tab (.fn gA [s]) H fun v H'=>∃ w,v=.agg [w,.bool false]/\RowV H' w l/\Kp H H':=by
 refine cU C.q15 zU fun T hl g0=>?_
 refine zW (aC hl g0) ?_
 refine Y5 (QI C zF (hs.mono (zG H)) h64 hz) ?_
 rintro v H2 ⟨hr,hk2⟩
 obtain ⟨k2,_,w2⟩:=zT H zK hk2
 have d0:=hk2.get (b:=H.next) (e:=.cells [.nilSl,.bool false] t_api_Con true) (cP)
 have lt0:=w2 _ _ d0
 have ov:=hr.one
 have m3:NoTy (ad :: intE.tys) H2 H.next:=Zp d0 zU
 refine zW (aX hl g0 d0 (yP ov)) ?_
 exact ⟨v,rfl,Zw (E:=intE) zS hr,zK⟩
theorem JN {a b:Int} (ha:a.natAbs<=9) (hb:b.natAbs<=9):∀ c∈[(([-a,1]:List Int),false),([b,-1],false)],c.1.length=1+1/\Lin.Bd (2^4) c.1:=fun c hc=>by
 have key:∀ x y:Int,x.natAbs<=9->y.natAbs<=9->Lin.Bd (2^4) [x,y]:=fun x y hx hy i=>by
  match i with
  | 0=>show x.natAbs<=16; omega
  | 1=>show y.natAbs<=16; omega
  | i+2=>simp [Lin.at_]
 rcases Ul.1 hc with rfl | hc
 ·exact ⟨rfl,key _ _ zO zO⟩
 ·rw [UV] at hc; subst hc
  exact ⟨rfl,key _ _ hb zO⟩
set_option maxHeartbeats 2000000 in
theorem iz (C:Code tab) (hw:Wf H) {a b:Int} (ha:a.natAbs<=9) (hb:b.natAbs<=9) {g:List (Nat × List Int)} {K:List (List Int × Bool)} (hG:Lin.gensP 1 [([-a,1],false),([b,-1],false)]=g) (hK:Lin.consP 1 g=K) (lg:g.length<1024) (lK:K.length<1024) :
  Ans tab (.fn eO [.int .i64 a,.int .i64 b]) H fun v H'=>PolyV H' v 1 K g/\Kp H H':=by
 refine bz C.q14 zU fun T hl g0 g1=>?_
 have ea:IntKind.i64.wrap (0-a) = -a:=by rw [wrap_i64] <;> omega
 refine zW (aX hl g0 g1 ea) ?_
 have e0:Emp (H.up 16) H.next (H.next+16):=Zd hw
 refine Y5 (wU C (l:=[-a,1]) zF (Aj (by refine vV ?_; rfl)) (by simp) (by simp; omega)) ?_
 rintro _ H2 ⟨v3,rfl,r3,hk2⟩
 obtain ⟨k2,_,w2⟩:=zT H zK hk2
 have d0:H2.get H.next=some (.cells [.int .i64 0,.nilSl,.nilSl] ag true):=hk2.get (cP)
 have e2:Emp H2 (H.next+4) (H.next+16):=(((e0.put (p:=H.next) (a':=H.next+1) zO zO).put zO zO).keep hk2)
 have n2:=e2.1
 have o3:=r3.one
 refine zW (aD hl g0 g1) ?_
 refine Y5 (wU C (l:=[b,-1]) zF (Aj (by refine vV ?_; rfl)) (by simp) (by simp; omega)) ?_
 rintro _ H3 ⟨v5,rfl,r5,hk3⟩
 obtain ⟨k3,_,w3⟩:=zT H zK hk3
 have e3:Emp H3 (H.next+7) (H.next+16):=(e2.put zO zO).keep hk3
 have n3:=e3.1
 have s23:Sub H2 H3:=(e2.sub (p:=H.next+6) zO zO).trans hk3.sub
 have o5:=r5.one
 have d0b:=s23.get _ _ d0
 refine zW (aD hl g0 g1) ?_
 obtain ⟨G3,hG3⟩:∃ G,G=H3.put (H.next+8) (.cells [v3,.bool false,v5,.bool false] t_api_Con true):=⟨_,rfl⟩
 rw [<- hG3]
 have e3':Emp G3 (H.next+9) (H.next+16):=by rw [hG3]; exact e3.put zO zO
 have s3:Sub H3 G3:=by rw [hG3]; exact e3.sub zO zO
 have k3':Kp H G3:=by rw [hG3]; exact zK
 have w3':=k3'.wf
 have n3':=e3'.1
 have d0c:=s3.get _ _ d0b
 have R1:SlV conE t_api_Con G3 (.own (H.next+8) 0 2 2 2 true) [([-a,1],false),([b,-1],false)]:=Sb (by rw [hG3]; exact aq _ _ _) (r3.mono (s23.trans s3)) (r5.mono s3)
 have sb:=JN ha hb
 have gb:=oX (n:=1) zO sb
 refine Y5 (kK C (n:=1) (m:=4) (m2:=64*(4+4)) zF R1 zO (by simp) sb zO (fun x hx=>(gb x hx).2) zO) ?_
 rintro v4 H4 ⟨hm4,hk4⟩
 have k4:Kp H H4:=k3'.trans hk4
 have le_k4:=k4.le
 have w4:=k4.wf
 have e4:Emp H4 (H.next+9) (H.next+16):=e3'.keep hk4
 have n4:=e4.1
 have d0d:=hk4.get d0c
 rw [hG] at hm4
 unfold nP at hm4
 rw [hK] at hm4
 rcases hm4 with ⟨-,hm4⟩ | ⟨p,rfl,⟨vc,vg,rfl,hc,hg⟩,-,-⟩
 ·omega
 have oc:=hc.one
 have og:=hg.one
 obtain ⟨H5,hH5⟩:∃ H5,H5=((H4.up 2).put (H.next+13) (.cells [.int .i64 0,.nilSl,.nilSl] ag true)).put (H.next+13) (.cells [.int .i64 ((1:Nat):Int),vc,vg] ag true):=⟨_,rfl⟩
 have f13:=e4.2 (H.next+13) zO zO
 have s45:Sub H4 H5:=by rw [hH5]; exact ((ZB H4 2).put f13 _).put f13 _
 have d0e:=s45.get _ _ d0d
 have k5:Kp H H5:=by rw [hH5]; exact zK
 have le_k5:=k5.le
 have n5:H5.next=H4.next+2:=by rw [hH5]; rfl
 refine zW (bS hl g0 g1 @nt d0d) ?_
 rw [<- hH5]
 refine ⟨⟨vc,vg,rfl,?_,?_⟩,zK⟩
 ·have m3:NoTy (t_api_Con :: conE.tys) H5 H.next:=Zp d0e zU
  exact Zw (E:=conE) zS (hc.mono s45)
 ·have m3:NoTy (ak :: genE.tys) H5 H.next:=Zp d0e zU
  exact Zw (E:=genE) zS (hg.mono s45)
theorem An (C:Code tab) (hw:Wf H) {v v':AV} {n n':Nat} {c c':List (List Int × Bool)} {g g':List (Nat × List Int)} (hp:PolyV H v n c g) (hp':PolyV H v' n' c' g') (hc1:c.length<1099511627776) (hc2:∀ r∈c,r.1.length<1099511627776/\∀ z∈r.1,eY z) (hg1:g.length<1099511627776) (hg2:∀ r∈g,r.2.length<1099511627776/\∀ z∈r.2,eY z) :
  Ans tab (.fn im [v,.int .i64 0,v']) H fun x H'=>x=.bool (decide (n=n'/\c=c'/\g=g'))/\Kp H H':=by
 obtain ⟨vc,vg,rfl,hc,hg⟩:=hp
 obtain ⟨vc',vg',rfl,hc',hg'⟩:=hp'
 have oc:=hc.one
 have og:=hg.one
 have oc':=hc'.one
 have og':=hg'.one
 refine nd C.q17 zU fun T hl g0 g1 g2=>?_
 refine zW (dV hl g0 g1 g2 (lM oc og) (lM oc' og')) ?_
 refine Y4 (tE C (n:=n) (n':=n') zF ⟨vc,vg,rfl,hc.mono (zG H),hg.mono (zG H)⟩ ⟨vc',vg',rfl,hc'.mono (zG H),hg'.mono (zG H)⟩ hc1 hc2 hg1 hg2) fun H2 hk2=>?_
 obtain ⟨k2,_,_⟩:=zT H zK hk2
 refine zW (aX hl g0 g1 g2) ?_
 exact zK
set_option maxHeartbeats 2000000 in
theorem EK (C:Code tab) (hw:Wf H) :
  Ans tab (.fn pC [.int .i64 1]) H fun x H'=>∃ p,x=.tup [p,.int .i64 0]/\PolyV H' p 1 [([-1,0],false)] []/\Kp H H':=by
 have hmk:∀ H':Heap,IF H' (H.next+10) ad 2 32 [.bool false,.nilSl] (.int .i64 2) (.int .i64 2)=some (.own (H.next+10) 0 2 2 2 true,H'.put (H.next+10) (.cells [.bool false,.nilSl,.bool false,.nilSl] ad true)):=fun H'=>jt H' (H.next+10) ad 2 32 [.bool false,.nilSl] .i64 .i64 2 zU zU rfl
 have ej:IntKind.i64.wrap (1+1)=2:=by rw [wrap_i64] <;> omega
 have ej2:IntKind.i64.wrap 2=2:=by rw [wrap_i64] <;> omega
 refine cU C.q16 zU fun T hl g0=>?_
 refine zW (bS hl g0 ej ej2 hmk) ?_
 refine Y5 (oH C (n:=-1) zF zO zO) ?_
 rintro v H2 ⟨⟨w,rfl,hn2⟩,hk2⟩
 obtain ⟨k2,_,w2⟩:=zT H zK hk2
 have ow:=hn2.one
 have n2:H.next+16<=H2.next:=hk2.le
 have d0:H2.get H.next=some (.cells [.int .i64 0,.nilSl,.nilSl] ag true):=hk2.get (cP)
 have hb2:=hk2.get (b:=H.next+10) (e:=.cells [.bool false,.nilSl,.bool false,.nilSl] ad true) (cP)
 have dm:decide ((-1:Int)<0)=true:=by decide
 have hst:Eo (some (.cells [.bool false,.nilSl,.bool false,.nilSl] ad true)) 2 0 (.agg [.bool true,w])=some (.cells [.bool true,w,.bool false,.nilSl] ad true):=jd (Fk (aR _) ow) zU
 have hio:cw 2 (.own (H.next+10) 0 2 2 2 true) (.int .i64 0)=some (.ptr (H.next+10) 0):=nE (j:=0) zO
 have hbd:ip [.nilSl,.bool false] [((0,1),.own (H.next+10) 0 2 2 2 true)]=some (.agg [.own (H.next+10) 0 2 2 2 true,.bool false]):=yP (bp _ _ _ _ _ _) _ _
 have lt2:=w2 _ _ hb2
 refine zW (gh hl dm hio hb2 hst g0 hbd) ?_
 obtain ⟨G,hG⟩:∃ G,G=((H2.up 9).put (H.next+10) (.cells [.bool true,w,.bool false,.nilSl] ad true)).put (H2.next+3) (.cells [.own (H.next+10) 0 2 2 2 true,.bool false] t_api_Con true):=⟨_,rfl⟩
 have kG:Kp H G:=by rw [hG]; exact zK
 have wG:=kG.wf
 have m3:NoTy [ae] H2 (H.next+10):=Zp hb2 zU
 have hwG:cr G w 1:=by rw [hG]; exact Zw (E:=bU cm) zS hn2
 have gG:G.get (H.next+10)=some (.cells [.bool (decide ((-1:Int)<0)),w,.bool (decide ((0:Int)<0)),.nilSl] ad true):=by rw [hG,aA zO,aq]; rfl
 have rG:RowV G (.own (H.next+10) 0 2 2 2 true) [-1,0]:=E0 (x:=-1) (y:=0) (H:=G) hwG (fM G) (Zg wG).sub gG
 have gc:SlV conE t_api_Con G (.own (H2.next+3) 0 1 1 2 true) [([-1,0],false)]:=Sc (by rw [hG]; exact aq _ _ _) rG
 rw [<- hG]
 have nG:H2.next+9<=G.next:=by rw [hG]; exact TO _
 have d0G:G.get H.next=some (.cells [.int .i64 0,.nilSl,.nilSl] ag true):=by rw [hG,aA zO,aA zO]; exact d0
 have hgn:Lin.gensP 1 [([-1,0],false)]=[]:=Lin.none_empty (n:=1)
 refine Y5 (kK C (n:=1) (m:=4) (m2:=4) zF gc zO (by simp) (fun c hc=>by
  rw [UV] at hc; subst hc
  exact ⟨rfl,fun i=>by
   match i with
   | 0=>decide
   | 1=>decide
   | i+2=>simp [Lin.at_]⟩) zO (by rw [hgn]; intro x hx; cases hx) zO) ?_
 rintro v4 H4 ⟨hm4,hk4⟩
 have k4:Kp H H4:=kG.trans hk4
 have le_k4:=k4.le
 have w4:=k4.wf
 have d0d:=hk4.get d0G
 have lt4:=w4 _ _ d0d
 rw [hgn] at hm4
 rcases hm4 with ⟨-,hm4⟩ | ⟨p,rfl,⟨vc,vg,rfl,hc,hg⟩,-,-⟩
 ·have:(Lin.consP 1 []).length=1:=rfl
  simp only [V5] at hm4
  omega
 have hc:SlV conE t_api_Con H4 vc [([-1,0],false)]:=hc
 have oc:=hc.one
 have og:=hg.one
 refine zW (aX hl g0 @nt d0d) ?_
 refine ⟨_,rfl,⟨vc,vg,rfl,?_,?_⟩,zK⟩
 ·have m4:NoTy (t_api_Con :: conE.tys) H4 H.next:=Zp d0d zU
  exact Zw (E:=conE) zS hc
 ·have m4:NoTy (ak :: genE.tys) H4 H.next:=Zp d0d zU
  exact Zw (E:=genE) zS hg
end
section
variable {tab:Nat->Option aw} {H:Heap} {s:AV}
theorem ok1 {K:List (List Int × Bool)} {G:List (Nat × List Int)} (h1:Lin.gensP 1 K=G) (h2:Lin.consP 1 G=K) (h:(K.all (fun x=>decide (x.1.length=2) && x.1.all (fun a=>decide (a.natAbs<=16))) && G.all (fun x=>x.2.all (fun a=>decide (a.natAbs<=16))) && decide (K.length<=60) && decide (G.length<60))=true):PolyOK 1 4 4 K G:=by
 simp only [Uq,Uj,decide_eq_true_eq] at h
 obtain ⟨⟨⟨h3,h4⟩,h5⟩,h6⟩:=h
 exact ⟨⟨fun c hc=>(h3 c hc).1,h1,h2⟩,by omega,.inl h5,by omega,fun c hc=>Lin.bd_small4 (Uj.2 fun a ha=>decide_eq_true ((h3 c hc).2 a ha)),fun x hx=>Lin.bd_small4 (Uj.2 fun a ha=>decide_eq_true (h4 x hx a ha)),by omega,by omega⟩
theorem Rb:PolyOK 1 4 4 [([-1,1],false),([3,-1],false)] [(3,[1,1]),(3,[1,3])]:=ok1 Lin.g13 Lin.k13 zU
theorem ok23:PolyOK 1 4 4 [([-2,1],false),([3,-1],false)] [(3,[1,2]),(3,[1,3])]:=ok1 Lin.g23 Lin.k23 zU
theorem SN:PolyOK 1 4 4 [([-5,1],true)] [(3,[1,5])]:=ok1 Lin.g55b Lin.k55 zU
theorem ok15:PolyOK 1 4 4 [([-1,1],false),([5,-1],false)] [(3,[1,1]),(3,[1,5])]:=ok1 Lin.g15 Lin.k15 zU
theorem SO:PolyOK 1 4 4 [([-4,1],false),([9,-1],false)] [(3,[1,4]),(3,[1,9])]:=ok1 Lin.g49 Lin.k49 zU
theorem ok00:PolyOK 1 4 4 [([-1,0],false)] []:=ok1 (Lin.none_empty (n:=1)) rfl zU
theorem M5 {H:Heap} {x:AV} {K:List (List Int × Bool)} {G:List (Nat × List Int)} (h:nP H x 1 G) (ok:PolyOK 1 4 4 K G):∃ vc vg,x=.tup [.agg [.int .i64 1,vc,vg],.int .i64 0]/\SlV conE t_api_Con H vc K/\SlV genE ak H vg G:=by
 have e:=ok.own.cons
 have h1:=ok.many
 have h2:=ok.lenK
 unfold nP at h
 rw [e] at h
 rcases h with ⟨-,h⟩ | ⟨p,rfl,⟨vc,vg,rfl,hc,hg⟩,-,-⟩
 ·omega
 ·exact ⟨vc,vg,rfl,hc,hg⟩
theorem N0 {tab:Nat->Option aw} {rd:Bool} {c:ACode} {T:Tm} {H:Heap} {K:Ex->Tm->Heap->Prop} (p:Tm->Prop) (hp:p T) (h:∀ T',p T'->WC tab rd c T' H K):WC tab rd c T H K:=h T hp
set_option maxHeartbeats 1000000 in
theorem E8 (C:Code tab) (hw:Wf H):Ans tab (.fn fw []) H fun v H'=>v=.bool true/\Kp H H':=by
 refine SW C.q2 fun T hl=>?_
 refine zW hl ?_
 refine Y5 (iz C (a:=1) (b:=3) zF zU zU Lin.g13 Lin.k13 zU zU) ?_
 rintro _ H2 ⟨⟨vc,vg,rfl,hc,hg⟩,hk2⟩
 obtain ⟨k2,_,w2⟩:=zT H zK hk2
 have oc:=hc.one
 have og:=hg.one
 have n2:H.next+4<=H2.next:=hk2.le
 have f2:H2.get (H.next+2)=none:=hk2.free (show H.next+2<H.next+4 by omega) (hw.fresh (b:=H.next+2) zO)
 obtain ⟨G2,hG2⟩:∃ G2,G2=(H2.put (H.next+2) (.cells [.int .i64 0,.nilSl,.nilSl] ag true)).put (H.next+2) (.cells [.int .i64 ((1:Nat):Int),vc,vg] ag true):=⟨_,rfl⟩
 have s2:Sub H2 G2:=by rw [hG2]; exact (aH f2).put f2 _
 have kG2:Kp H G2:=by rw [hG2]; exact zK
 have wG2:=kG2.wf
 have dP:G2.get (H.next+2)=some (.cells [.int .i64 ((1:Nat):Int),vc,vg] ag true):=by rw [hG2]; exact aq _ _ _
 have hc2:=hc.mono s2
 have hg2:=hg.mono s2
 obtain ⟨P,hP⟩:∃ P,P=H.next+2:=⟨_,rfl⟩
 have ltP:=wG2 _ _ dP
 refine zW (aD hl @nt @au) ?_
 rw [<- hG2,<- hP]
 rw [<- hP] at dP ltP
 refine aI ?_
 refine zD (aC hl dP) ?_
 refine Y5 (wU C (l:=[-2,1]) zF (Aj (by refine vV ?_; rfl)) (by simp) (by simp)) ?_
 rintro _ H3 ⟨v3,rfl,r3,hk3⟩
 obtain ⟨k3,_,w3⟩:=zT G2 zK hk3
 have e3:Emp H3 (G2.next+2) (G2.next+10):=((Zd wG2 (k:=10)).put (p:=G2.next+1) zO zO).keep hk3
 have o3:=r3.one
 have dP3:=k3.get dP
 refine zD (aD hl dP dP3) ?_
 refine Y5 (Kb C (n:=1) (m:=4) (m2:=4) (a:=[-2,1]) (b:=false) zF ⟨vc,vg,rfl,(hc2.mono k3.sub).mono (zG H3),(hg2.mono k3.sub).mono (zG H3)⟩ Rb (r3.mono (zG H3)) rfl (Lin.bd_small4 zU) zU zO zO (by intro x hx; exact ok23.bG x (by rw [<- Lin.m23]; exact hx)) zO) ?_
 rintro x4 H4 ⟨hm4,hk4⟩
 have hm4:nP H4 x4 1 [(3,[1,2]),(3,[1,3])]:=by rw [<- Lin.m23]; exact hm4
 obtain ⟨va,vb,rfl,ha,hb⟩:=M5 hm4 ok23
 obtain ⟨k34,_,_⟩:=zT H3 zK hk4
 have k4:Kp G2 H4:=k3.trans k34
 have le_k4:=k4.le
 have w4:=k4.wf
 have e4:Emp H4 (G2.next+2) (G2.next+10):=e3.keep k34
 have n4:=e4.1
 have oa:=ha.one
 have ob:=hb.one
 have f4:=e4.2 (G2.next+7) zO zO
 obtain ⟨G4,hG4⟩:∃ G4,G4=(H4.put (G2.next+7) (.cells [.int .i64 0,.nilSl,.nilSl] ag true)).put (G2.next+7) (.cells [.int .i64 1,va,vb] ag true):=⟨_,rfl⟩
 have s4:Sub H4 G4:=by rw [hG4]; exact (aH f4).put f4 _
 have kG4:Kp G2 G4:=by rw [hG4]; exact zK
 have wG4:=kG4.wf
 have dA:G4.get (G2.next+7)=some (.cells [.int .i64 1,va,vb] ag true):=by rw [hG4]; exact aq _ _ _
 obtain ⟨A,hA⟩:∃ A,A=G2.next+7:=⟨_,rfl⟩
 have ltA:=wG4 _ _ dA
 have dP4:=kG4.get dP
 refine zD (bS hl dP dP3 @nt @au) ?_
 rw [<- hG4,<- hA]
 rw [<- hA] at dA ltA
 clear hm4
 have hc4:=(hc2.mono k4.sub).mono s4
 have hg4:=(hg2.mono k4.sub).mono s4
 have ha4:=ha.mono s4
 have hb4:=hb.mono s4
 refine aI ?_
 refine zD (aC hl dP4) ?_
 refine Y5 (iz C (a:=5) (b:=5) zF zU zU Lin.g55 Lin.k55 zU zU) ?_
 rintro _ H5 ⟨⟨vc5,vg5,rfl,hc5,hg5⟩,hk5⟩
 obtain ⟨k5,_,w5⟩:=zT G4 zK hk5
 have e5:Emp H5 G4.next (G4.next+9):=(Zd wG4 (k:=9)).keep hk5
 have oc5:=hc5.one
 have og5:=hg5.one
 have dP5:=k5.get dP4
 refine zD (aD hl dP4 dP5) ?_
 have hkh:Lin.consP 1 ([(3,[1,1]),(3,[1,3])]++[(3,[1,5])])=[([-1,1],false),([5,-1],false)]:=Lin.kh
 refine Y5 (wz C (n:=1) (m:=4) (m2:=4) (m3:=4) zF ⟨vc,vg,rfl,(hc4.mono k5.sub).mono (zG H5),(hg4.mono k5.sub).mono (zG H5)⟩ ⟨vc5,vg5,rfl,hc5.mono (zG H5),hg5.mono (zG H5)⟩ Rb SN zU zO zO zO (by rw [hkh]; exact ok15.bK) zO (by rw [hkh,Lin.g15]; exact ok15.bG) zO (by rw [hkh]; decide)) ?_
 rintro x6 H6 ⟨hm6,hk6⟩
 have hm6:nP H6 x6 1 [(3,[1,1]),(3,[1,5])]:=by
  unfold Bh at hm6
  rw [hkh,Lin.g15] at hm6
  rcases hm6 with ⟨-,h⟩ | h
  ·simp at h
  ·exact h
 obtain ⟨vd,ve,rfl,hd,he⟩:=M5 hm6 ok15
 clear hm6
 obtain ⟨k56,_,_⟩:=zT H5 zK hk6
 have k6:Kp G4 H6:=k5.trans k56
 have le_k6:=k6.le
 have w6:=k6.wf
 have e6:Emp H6 G4.next (G4.next+9):=e5.keep k56
 have n6:=e6.1
 have od:=hd.one
 have oe:=he.one
 have f6:=e6.2 (G4.next+6) zO zO
 obtain ⟨G6,hG6⟩:∃ G6,G6=(H6.put (G4.next+6) (.cells [.int .i64 0,.nilSl,.nilSl] ag true)).put (G4.next+6) (.cells [.int .i64 1,vd,ve] ag true):=⟨_,rfl⟩
 have s6:Sub H6 G6:=by rw [hG6]; exact (aH f6).put f6 _
 have kG6:Kp G4 G6:=by rw [hG6]; exact zK
 have wG6:=kG6.wf
 have dD:G6.get (G4.next+6)=some (.cells [.int .i64 1,vd,ve] ag true):=by rw [hG6]; exact aq _ _ _
 obtain ⟨D,hD⟩:∃ D,D=G4.next+6:=⟨_,rfl⟩
 have ltD:=wG6 _ _ dD
 have dP6:=kG6.get dP4
 have dA6:=kG6.get dA
 refine zD (bS hl dP4 dP5 @nt @au) ?_
 rw [<- hG6,<- hD]
 rw [<- hD] at dD ltD
 have hc6:=(hc4.mono k6.sub).mono s6
 have hg6:=(hg4.mono k6.sub).mono s6
 have ha6:=(ha4.mono k6.sub).mono s6
 have hb6:=(hb4.mono k6.sub).mono s6
 have hd6:=hd.mono s6
 have he6:=he.mono s6
 refine aI ?_
 refine zD (aC hl dP6) ?_
 refine Y5 (iz C (a:=4) (b:=9) zF zU zU Lin.g49 Lin.k49 zU zU) ?_
 rintro _ H7 ⟨⟨vc7,vg7,rfl,hc7,hg7⟩,hk7⟩
 obtain ⟨k7,_,w7⟩:=zT G6 zK hk7
 have e7:Emp H7 G6.next (G6.next+9):=(Zd wG6 (k:=9)).keep hk7
 have oc7:=hc7.one
 have og7:=hg7.one
 have dP7:=k7.get dP6
 refine zD (aD hl dP6 dP7) ?_
 have hb0:Lin.gensP 1 ([([-1,1],false),([3,-1],false)]++[([-4,1],false),([9,-1],false)])=[]:=Lin.b0
 refine Y5 (wA C (n:=1) (m:=4) (m2:=4) zF ⟨vc,vg,rfl,(hc6.mono k7.sub).mono (zG H7),(hg6.mono k7.sub).mono (zG H7)⟩ ⟨vc7,vg7,rfl,hc7.mono (zG H7),hg7.mono (zG H7)⟩ Rb SO zU zO zO zO (by rw [hb0]; exact ok00.bG) zO) ?_
 rintro x8 H8 ⟨hm8,hk8⟩
 rw [hb0] at hm8
 obtain ⟨vx,vy,rfl,hx,hy⟩:=M5 hm8 ok00
 clear hm8
 obtain ⟨k78,_,_⟩:=zT H7 zK hk8
 have k8:Kp G6 H8:=k7.trans k78
 have le_k8:=k8.le
 have w8:=k8.wf
 have e8:Emp H8 G6.next (G6.next+9):=e7.keep k78
 have n8:=e8.1
 have ox:=hx.one
 have oy:=hy.one
 have f8:=e8.2 (G6.next+6) zO zO
 obtain ⟨G8,hG8⟩:∃ G8,G8=((H8.up 7).put (G6.next+6) (.cells [.int .i64 0,.nilSl,.nilSl] ag true)).put (G6.next+6) (.cells [.int .i64 1,vx,vy] ag true):=⟨_,rfl⟩
 have s8:Sub H8 G8:=by rw [hG8]; exact ((ZB H8 7).put f8 _).put f8 _
 have nG8:G8.next=H8.next+7:=by rw [hG8]; rfl
 have kG8:Kp G6 G8:=by rw [hG8]; exact zK
 have wG8:=kG8.wf
 have dX:G8.get (G6.next+6)=some (.cells [.int .i64 1,vx,vy] ag true):=by rw [hG8]; exact aq _ _ _
 obtain ⟨X,hX⟩:∃ X,X=G6.next+6:=⟨_,rfl⟩
 have ltX:=wG8 _ _ dX
 have dP8:=kG8.get dP6
 have dA8:=kG8.get dA6
 have dD8:=kG8.get dD
 refine zD (bS hl dP6 dP7 @nt @au) ?_
 rw [<- hG8,<- hX]
 rw [<- hX] at dX ltX
 have hc8:=(hc6.mono k8.sub).mono s8
 have hg8:=(hg6.mono k8.sub).mono s8
 have ha8:=(ha6.mono k8.sub).mono s8
 have hb8:=(hb6.mono k8.sub).mono s8
 have hd8:=(hd6.mono k8.sub).mono s8
 have he8:=(he6.mono k8.sub).mono s8
 have hx8:=hx.mono s8
 have hy8:=hy.mono s8
 have f8b:G8.get (H8.next+4)=none:=by rw [hG8,aA zO,aA zO]; exact w8.fresh (b:=H8.next+4) zO
 clear hG8 hG6 hG4 hG2
 refine Y5 (EK C zF) ?_
 rintro _ H9 ⟨p,rfl,⟨vn,vm,rfl,hn,hm⟩,hk9⟩
 have w9:=hk9.wf
 have le_hk9:=hk9.le
 have on:=hn.one
 have om:=hm.one
 have f9:H9.get (H8.next+4)=none:=hk9.free (show H8.next+4<G8.next by omega) f8b
 obtain ⟨G9,hG9⟩:∃ G9,G9=(H9.put (H8.next+4) (.cells [.int .i64 0,.nilSl,.nilSl] ag true)).put (H8.next+4) (.cells [.int .i64 ((1:Nat):Int),vn,vm] ag true):=⟨_,rfl⟩
 have le9:=hk9.le
 have s9:Sub H9 G9:=by rw [hG9]; exact (aH f9).put f9 _
 have dN:G9.get (H8.next+4)=some (.cells [.int .i64 ((1:Nat):Int),vn,vm] ag true):=by rw [hG9]; exact aq _ _ _
 have kA8:Kp H G8:=((kG2.trans kG4).trans kG6).trans kG8
 have leA8:=kA8.le
 have leA6:=(kG2.trans (kG4.trans kG6)).le
 have kG9:Kp H G9:=by rw [hG9]; exact (((kA8.trans hk9).put zO zO).put zO (by rw [next_put]; omega))
 have wG9:Wf G9:=kG9.wf
 obtain ⟨N,hN⟩:∃ N,N=H8.next+4:=⟨_,rfl⟩
 have ltN:=wG9 _ _ dN
 have s89:Sub G8 G9:=hk9.sub.trans s9
 have dP9:=s89.get _ _ dP8
 have dA9:=s89.get _ _ dA8
 have dD9:=s89.get _ _ dD8
 have dX9:=s89.get _ _ dX
 refine zD (aD hl @nt @au) ?_
 rw [<- hG9,<- hN]
 rw [<- hN] at dN ltN
 have hc9:=hc8.mono s89
 have hg9:=hg8.mono s89
 have ha9:=ha8.mono s89
 have hb9:=hb8.mono s89
 have hd9:=hd8.mono s89
 have he9:=he8.mono s89
 have hx9:=hx8.mono s89
 have hy9:=hy8.mono s89
 have hn9:=hn.mono s9
 have hm9:=hm.mono s9
 have lg9:lenV vg=some (.int .i64 2):=hg9.lenV
 have ln9:lenV vn=some (.int .i64 1):=hn9.lenV
 refine N0 (fun T'=>T'.length=66/\aa T' 1=.ptr P 0/\aa T' 2=.ptr A 0/\aa T' 3=.int .i64 0/\aa T' 4=.ptr D 0/\aa T' 5=.int .i64 0/\aa T' 6=.ptr X 0/\aa T' 7=.int .i64 0/\aa T' 8=.ptr N 0/\aa T' 9=.int .i64 0) (zE hl) ?_
 clear hl
 rintro T' ⟨hl,t1,t2,t3,t4,t5,t6,t7,t8,t9⟩
 refine aI ?_
 refine zX (Ge hl @aT t1 t2 t3 t4 t5 t6 t7 t8 t9 dP9 lg9 dA9) ?_
 refine Y5 (iz C (a:=2) (b:=3) zF zU zU Lin.g23 Lin.k23 zU zU) ?_
 rintro _ H10 ⟨⟨v10,u10,rfl,hc10,hg10⟩,hk10⟩
 obtain ⟨k10,_,w10⟩:=zT G9 zK hk10
 have ov10:=hc10.one
 have ou10:=hg10.one
 have dA10:=k10.get dA9
 have dP10:=k10.get dP9
 refine zX (Ql hl @aT t1 t2 t3 t4 t5 t6 t7 t8 t9 dP9 lg9 dA10 dP10 dA9) ?_
 refine Y4 (An C (n:=1) (n':=1) zF ⟨va,vb,rfl,(ha9.mono k10.sub).mono (zG H10),(hb9.mono k10.sub).mono (zG H10)⟩ ⟨v10,u10,rfl,hc10.mono (zG H10),hg10.mono (zG H10)⟩ zU ok23.smK zU ok23.smG) fun H11 hk11=>?_
 rw [decide_eq_true ⟨rfl,rfl,rfl⟩]
 have k11:Kp G9 H11:=k10.trans (Zi zK hk11)
 have le_k11:=k11.le
 have w11:=k11.wf
 have dD11:=k11.get dD9
 refine zX (D7 hl @aT t1 t2 t3 t4 t5 t6 t7 t8 t9 dP9 lg9 dA10 dP10 dA9 dD11) ?_
 refine Y5 (iz C (a:=1) (b:=5) zF zU zU Lin.g15 Lin.k15 zU zU) ?_
 rintro _ H12 ⟨⟨v12,u12,rfl,hc12,hg12⟩,hk12⟩
 have k12:Kp G9 H12:=k11.trans (Zi zK hk12)
 have le_k12:=k12.le
 have w12:=k12.wf
 have ov12:=hc12.one
 have ou12:=hg12.one
 have dD12:=k12.get dD9
 refine zX (Gd hl @aT t1 t2 t3 t4 t5 t6 t7 t8 t9 dP9 lg9 dA10 dP10 dA9 dD11 dD12) ?_
 refine Y4 (An C (n:=1) (n':=1) zF ⟨vd,ve,rfl,(hd9.mono k12.sub).mono (zG H12),(he9.mono k12.sub).mono (zG H12)⟩ ⟨v12,u12,rfl,hc12.mono (zG H12),hg12.mono (zG H12)⟩ zU ok15.smK zU ok15.smG) fun H13 hk13=>?_
 rw [decide_eq_true ⟨rfl,rfl,rfl⟩]
 have k13:Kp G9 H13:=k12.trans (Zi zK hk13)
 have le_k13:=k13.le
 have w13:=k13.wf
 have dX13:=k13.get dX9
 have dN13:=k13.get dN
 refine zX (RP hl @aT t1 t2 t3 t4 t5 t6 t7 t8 t9 dP9 lg9 dA10 dP10 dA9 dD11 dD12 dX13 dN13) ?_
 refine Y4 (An C (n:=1) (n':=1) zF ⟨vx,vy,rfl,(hx9.mono k13.sub).mono (zG H13),(hy9.mono k13.sub).mono (zG H13)⟩ ⟨vn,vm,rfl,(hn9.mono k13.sub).mono (zG H13),(hm9.mono k13.sub).mono (zG H13)⟩ zU ok00.smK zU ok00.smG) fun H14 hk14=>?_
 rw [decide_eq_true ⟨rfl,rfl,rfl⟩]
 have k14:Kp G9 H14:=k13.trans (Zi zK hk14)
 have le_k14:=k14.le
 have w14:=k14.wf
 have dN14:=k14.get dN
 refine zX (Qj hl @aT t1 t2 t3 t4 t5 t6 t7 t8 t9 dP9 lg9 dA10 dP10 dA9 dD11 dD12 dX13 dN13 dN14 ln9) ?_
 exact kG9.trans k14
end
section
variable {tab:Nat->Option aw} {H:Heap} {s:AV}
def SD (a:AV):Prop:=∃ x u w,a=.agg [.int .i64 x,u,w]/\One u/\One w
theorem qC:SD Dd:=⟨0,.nilSl,.nilSl,rfl,br,br⟩
def TellP (H:Heap) (d:Int) (p:AV) (K:List (List Int × Bool)) (G:List (Nat × List Int)):Prop :=
 ∃ n:Nat,d=(n:Int)/\n<=3/\PolyV H p n K G/\Lin.Own n K G/\K.length<1024/\G.length<1024
theorem TellP.mono {H H':Heap} {d:Int} {p:AV} {K:List (List Int × Bool)} {G:List (Nat × List Int)} (h:TellP H d p K G) (hs:Sub H H'):TellP H' d p K G:=by
 obtain ⟨n,h1,h2,h3,h4⟩:=h
 exact ⟨n,h1,h2,h3.mono hs,h4⟩
theorem TellP.pag {H:Heap} {d:Int} {p:AV} {K:List (List Int × Bool)} {G:List (Nat × List Int)} (h:TellP H d p K G):SD p:=by
 obtain ⟨n,h1,h2,⟨vc,vg,rfl,hc,hg⟩,h4⟩:=h
 exact ⟨_,_,_,rfl,hc.one,hg.one⟩
theorem E6 (C:Code tab) (hw:Wf H) {d:Int} {l:List vQ} (hs:SlV conQE t_api_Con H s l) (gl:∀ r∈l,iG r.1) (hg:fd 6 l=false) (h3:¬ 3<d) :
  Ans tab (.fn oU [.int .i64 d,s]) H fun v H'=>Kp H H'/\∃ p err,v=.tup [p,.int .i64 err]/\SD p/\(err=0->∃ K G,TellP H' d p K G):=by
 rcases KY (d:=d) (n:=6) hs gl hg zO zO with hbad | ⟨n,rfl,n4,hsl,ll,hrow⟩
 ·refine (Ft C hw hs (Hv hg) (by have:=(jv hg).1; omega) hbad).mono ?_
  rintro v H2 ⟨rfl,hk⟩
  exact ⟨hk,_,_,rfl,qC,fun e=>absurd e hbad⟩
 ·have gb:=oX zO hrow
  refine (kK C (n:=n) (m:=64) (m2:=64*(64+4)) hw hsl zO (by rw [TT]; omega) hrow zO (fun x hx=>(gb x hx).2) zO).mono ?_
  rintro v H2 ⟨hm,hk⟩
  rcases hm with ⟨rfl,-⟩ | ⟨p,rfl,hp,h1,h2⟩
  ·exact ⟨hk,_,_,rfl,qC,fun e=>by cases e⟩
  ·have ht:TellP H2 (n:Int) p _ _:=⟨n,rfl,by omega,hp,Lin.own_of fun c hc=>(hrow c hc).1,h2,h1⟩
   exact ⟨hk,p,0,rfl,ht.pag,fun _=>⟨_,_,ht⟩⟩
def Qd (H:Heap) (v:AV) (d:Int):Prop :=
 (∃ a b,v=.tup [a,b,.bool false]/\SD a/\SD b) \/
 ∃ (n:Nat) (p q:AV) (K:List (List Int × Bool)) (G:List (Nat × List Int)) (K':List (List Int × Bool)) (G':List (Nat × List Int)),d=(n:Int)/\n<=3/\v=.tup [p,q,.bool true]/\PolyV H p n K G/\PolyV H q n K' G'/\PolyOK n 64 64 K G/\PolyOK n 64 64 K' G'/\K.length+K'.length<=8/\G.length+G'.length<=8
theorem Dt {n:Nat} {K K':List (List Int × Bool)} {G G':List (Nat × List Int)} (h:rh n K G n K' G'=false) (ho:Lin.Own n K G) (ho':Lin.Own n K' G') (hn:n<=3):PolyOK n 64 64 K G/\PolyOK n 64 64 K' G'/\K.length+K'.length<=8/\G.length+G'.length<=8:=by
 unfold rh at h
 simp only [We,decide_eq_false_iff_not] at h
 obtain ⟨⟨⟨⟨h1,-⟩,h2,-⟩,h3⟩,h4⟩:=h
 obtain ⟨⟨a1,a2⟩,a3,a4⟩:=uU h1
 obtain ⟨⟨b1,b2⟩,b3,b4⟩:=uU h2
 exact ⟨⟨ho,by omega,.inl zO,by omega,fun c hc=>(a2 c hc).2,fun x hx=>(a4 x hx).2,by omega,by omega⟩,⟨ho',by omega,.inl zO,by omega,fun c hc=>(b2 c hc).2,fun x hx=>(b4 x hx).2,by omega,by omega⟩,by omega,by omega⟩
section
open Lin
theorem KG {n:Nat} {l:List (V × Bool)} (h:∀ c∈l,c.1.length=n+1):(gensP n l).length<=2^(l.length+1)+n+1:=by
 have t:=gens_told (eqs_len h) (ineqs_len h)
 have h1:=t.dd.count
 have h2:=Ev.ech_len t.form
 have h3:2^(ineqsOf n l).length<=2^(l.length+1):=Up zU (ri l)
 unfold gensP
 split
 ·rw [T9,TT,TT]
  omega
 ·simp
theorem KZ {n:Nat} {g:List (Nat × V)} (hg:ValidG n g):(consP n g).length<=2^g.length+n+1:=by
 have e1:∀ a∈linesOf g,a.length=n+1:=fun a ha=>(hg _ (mem_lines.1 ha)).1
 have e2:∀ a∈raysOf g,a.length=n+1:=fun a ha=>by obtain ⟨k,-,h⟩:=mem_rays.1 ha; exact (hg _ h).1
 have t:=gens_told e1 e2
 have h1:=t.dd.count
 have h2:=Ev.ech_len t.form
 have h3:2^(raysOf g).length<=2^g.length:=Up zU (Ev.rays_le g)
 unfold consP
 split
 ·rw [T9,TT,TT]
  have:=U7 (fun r:V=>!decide (r=unitC n 1)) (gensR (n+1) (linesOf g) (raysOf g))
  omega
 ·show 1<=_
  omega
end
section
variable {n:Nat} {K K':List (List Int × Bool)} {G G':List (Nat × List Int)}
theorem Pd (h:PolyOK n 64 64 K G) (h':PolyOK n 64 64 K' G') (hn:n<=3) (hl:K.length+K'.length<=8):PolyOK n (64*(64+4)) (64*(64*(64+4)+4)) (Lin.consP n (Lin.gensP n (K++K'))) (Lin.gensP n (K++K')):=by
 have hr:∀ c∈K++K',c.1.length=n+1/\Lin.Bd (2^64) c.1:=fun c hc=>(Uc.1 hc).elim (h.rowK c) (h'.rowK c)
 have gb:=oX zO hr
 have kb:=AG zO gb
 have l1:=Lin.own_len (n:=n) fun c hc=>(hr c hc).1
 have l2:=KG (n:=n) fun c hc=>(hr c hc).1
 rw [T9] at l1 l2
 have l3:2^(K.length+K'.length+1)<=2^9:=Up zU zO
 exact ⟨Lin.own_of fun c hc=>(hr c hc).1,by omega,.inl zO,by omega,fun c hc=>(kb c hc).2,fun x hx=>(gb x hx).2,by omega,by omega⟩
theorem Pc (h:PolyOK n 64 64 K G) (h':PolyOK n 64 64 K' G') (hn:n<=3) (hl:G.length+G'.length<=8):PolyOK n (64*(64*(64+4)+4)) (64*(64+4)) (Lin.consP n (G++G')) (Lin.gensP n (Lin.consP n (G++G'))):=by
 have hv:=Lin.validG_app h.own.valid h'.own.valid
 have hr:∀ c∈G++G',c.2.length=n+1/\Lin.Bd (2^64) c.2:=fun c hc=>(Uc.1 hc).elim (h.rowG c) (h'.rowG c)
 have kb:=AG zO hr
 have gb:=oX zO kb
 have l1:=Lin.span_len hv
 have l2:=KZ hv
 rw [T9] at l1 l2
 have l3:2^(G.length+G'.length)<=2^8:=Up zU zO
 exact ⟨Lin.own_span hv,by omega,.inr ⟨by omega,by omega⟩,by omega,fun c hc=>(kb c hc).2,fun x hx=>(gb x hx).2,by omega,by omega⟩
theorem Dk {H:Heap} {v:AV} {e f:Nat} (hm:nP H v n G) (h:PolyOK n e f K G):∃ vc vg,v=.tup [.agg [.int .i64 (n:Int),vc,vg],.int .i64 0]/\SlV conE t_api_Con H vc K/\SlV genE ak H vg G:=by
 have e1:=h.own.cons
 have h1:=h.many
 have h2:=h.lenK
 unfold nP at hm
 rw [e1] at hm
 rcases hm with ⟨-,hm⟩ | ⟨p,rfl,⟨vc,vg,rfl,hc,hg⟩,-,-⟩
 ·omega
 ·exact ⟨vc,vg,rfl,hc,hg⟩
theorem Ir {H:Heap} {v:AV} {e f:Nat} {g:List (Nat × List Int)} (hm:Bh H v n g) (h:PolyOK n e f (Lin.consP n g) (Lin.gensP n (Lin.consP n g))):∃ vc vg,v=.tup [.agg [.int .i64 (n:Int),vc,vg],.int .i64 0]/\SlV conE t_api_Con H vc (Lin.consP n g)/\SlV genE ak H vg (Lin.gensP n (Lin.consP n g)):=by
 have h2:=h.lenK
 rcases hm with ⟨-,hm⟩ | hm
 ·omega
 ·exact Dk hm h
end
set_option maxHeartbeats 4000000 in
theorem Am (C:Code tab) (hw:Wf H) {s1 s2:AV} {d:Int} {l m:List vQ} (hs:SlV conQE t_api_Con H s1 l) (gl:∀ r∈l,iG r.1) (hs2:SlV conQE t_api_Con H s2 m) (gm:∀ r∈m,iG r.1) :
  Ans tab (.fn fW [.int .i64 d,s1,s2]) H fun v H'=>Qd H' v d/\Kp H H':=by
 refine nd C.q3 zU fun T hl g0 g1 g2=>?_
 refine zW (aX hl g0 g1 g2) ?_
 refine Y4 (lD C (n:=6) zF (hs.mono (zG H)) zO) fun H2 hk2=>?_
 obtain ⟨k2,_,w2⟩:=zT H zK hk2
 have d0:H2.get H.next=some (.cells [.int .i64 0,.nilSl,.nilSl] ag true):=hk2.get (cP)
 have d1:H2.get (H.next+1)=some (.cells [.int .i64 0,.nilSl,.nilSl] ag true):=hk2.get (cP)
 have lt1:=w2 _ _ d1
 cases q1:fd 6 l with
 | true =>
  refine zW (gh hl g0 g1 g2 d0 d1 @nt) ?_
  exact ⟨.inl ⟨_,_,rfl,qC,qC⟩,zK⟩
 | false =>
 refine zW (aX hl g0 g1 g2) ?_
 refine Y4 (lD C (n:=6) zF ((hs2.mono k2.sub).mono (zG H2)) zO) fun H3 hk3=>?_
 obtain ⟨k23,_,_⟩:=zT H2 zK hk3
 have k3:Kp H H3:=k2.trans k23
 have le_k3:=k3.le
 have w3:=k3.wf
 have d0b:=k23.get d0
 have d1b:=k23.get d1
 have lt3:=w3 _ _ d1b
 cases q2:fd 6 m with
 | true =>
  refine zW (gh hl g0 g1 g2 d0b d1b @nt) ?_
  exact ⟨.inl ⟨_,_,rfl,qC,qC⟩,zK⟩
 | false =>
 by_cases q3:3<d
 ·refine zW (lA hl g0 g1 g2 d0b d1b q3 @nt) ?_
  exact ⟨.inl ⟨_,_,rfl,qC,qC⟩,zK⟩
 refine zW (bS hl g0 g1 g2 q3) ?_
 refine Y5 (E6 C zF ((hs.mono k3.sub).mono (zG H3)) gl q1 q3) ?_
 rintro v H4 ⟨hk4,p,err,rfl,⟨x,u,w,rfl,ou,ow⟩,ht⟩
 obtain ⟨k34,_,_⟩:=zT H3 zK hk4
 have k4:Kp H H4:=k3.trans k34
 have le_k4:=k4.le
 have w4:=k4.wf
 have n4:H3.next+9<=H4.next:=hk4.le
 have f4:H4.get (H3.next+6)=none:=hk4.free (show H3.next+6<H3.next+9 by omega) (w3.fresh (b:=H3.next+6) zO)
 obtain ⟨G4,hG4⟩:∃ G4,G4=((H4.up 9).put (H3.next+6) (.cells [.int .i64 0,.nilSl,.nilSl] ag true)).put (H3.next+6) (.cells [.int .i64 x,u,w] ag true):=⟨_,rfl⟩
 have s4:Sub H4 G4:=by rw [hG4]; exact ((ZB H4 9).put f4 _).put f4 _
 have kG4:Kp H3 G4:=by rw [hG4]; exact zK
 have wG4:=kG4.wf
 have nG4:G4.next=H4.next+9:=by rw [hG4]; rfl
 have dp:G4.get (H3.next+6)=some (.cells [.int .i64 x,u,w] ag true):=by rw [hG4]; exact aq _ _ _
 have fG4:G4.get (H4.next+6)=none:=by rw [hG4,aA zO,aA zO]; exact w4.fresh (b:=H4.next+6) zO
 refine zW (bS hl g0 g1 g2 @nt) ?_
 rw [<- hG4]
 refine Y5 (E6 C zF ((hs2.mono k3.sub).mono kG4.sub) gm q2 q3) ?_
 rintro v H5 ⟨hk5,p2,err2,rfl,⟨x2,u2,w2',rfl,ou2,ow2⟩,ht2⟩
 have k5:Kp H3 H5:=kG4.trans hk5
 have le_k5:=k5.le
 have w5:=k5.wf
 have le5:=hk5.le
 have f5:H5.get (H4.next+6)=none:=hk5.free zO fG4
 have dpb:=hk5.get dp
 obtain ⟨G5,hG5⟩:∃ G5,G5=(H5.put (H4.next+6) (.cells [.int .i64 0,.nilSl,.nilSl] ag true)).put (H4.next+6) (.cells [.int .i64 x2,u2,w2'] ag true):=⟨_,rfl⟩
 have s5:Sub H5 G5:=by rw [hG5]; exact (aH f5).put f5 _
 have kG5:Kp H3 G5:=by rw [hG5]; exact (k5.put zO zO).put zO (by rw [next_put]; omega)
 have wG5:=kG5.wf
 have dq:G5.get (H4.next+6)=some (.cells [.int .i64 x2,u2,w2'] ag true):=by rw [hG5]; exact aq _ _ _
 have dp5:=s5.get _ _ dpb
 have d05:=kG5.get d0b
 have d15:=kG5.get d1b
 have kA:Kp H G5:=k3.trans kG5
 refine zW (dV hl g0 g1 g2 @nt @au) ?_
 rw [<- hG5]
 refine N0 (fun T'=>T'.length=51/\aa T' 6=.ptr H.next 0/\aa T' 7=.ptr (H.next+1) 0/\aa T' 9=.ptr (H3.next+6) 0/\aa T' 10=.int .i64 err/\aa T' 11=.ptr (H4.next+6) 0/\aa T' 12=.int .i64 err2) (zV (aX hl g0 g1 g2)) ?_
 clear hl
 rintro T' ⟨hl,t6,t7,t9,t10,t11,t12⟩
 have le35:=kG5.le
 have ltq:=wG5 _ _ dq
 have ltp:=wG5 _ _ dp5
 refine aI ?_
 by_cases e1:err=0
 ·by_cases e2:err2=0
  ·subst e1
   subst e2
   obtain ⟨K,G,n,rfl,n3,⟨vc,vg,hpe,hc,hg⟩,ho,lK,lG⟩:=ht rfl
   obtain ⟨K',G',n',hnn,n3',⟨vc',vg',hpe',hc',hg'⟩,ho',lK',lG'⟩:=ht2 rfl
   have hnn:n'=n:=by omega
   subst hnn
   cases hpe
   cases hpe'
   have hc5:SlV conE t_api_Con G5 u K:=hc.mono (s4.trans (hk5.sub.trans s5))
   have hg5:SlV genE ak G5 w G:=hg.mono (s4.trans (hk5.sub.trans s5))
   have hc5':=hc'.mono s5
   have hg5':=hg'.mono s5
   refine zX (Bm hl g0 g1 g2 t6 t7 t9 t10 t11 t12 dp5 dq @aT) ?_
   refine Y4 (E7 C (n:=n') (n':=n') zF ⟨u,w,rfl,hc5.mono (zG G5),hg5.mono (zG G5)⟩ ⟨u2,w2',rfl,hc5'.mono (zG G5),hg5'.mono (zG G5)⟩ zO zO zO zO) fun H6 hk6=>?_
   obtain ⟨k6,_,w6⟩:=zT G5 zK hk6
   have d06:=k6.get d05
   have d16:=k6.get d15
   have dp6:=k6.get dp5
   have dq6:=k6.get dq
   have oc:=hc.one
   have og:=hg.one
   have oc':=hc'.one
   have og':=hg'.one
   have kB:Kp H H6:=kA.trans k6
   have lt6:=w6 _ _ d16
   cases hL:rh n' K G n' K' G' with
   | true =>
    refine zX (Gd hl g0 g1 g2 t6 t7 t9 t10 t11 t12 dp5 dq d06 d16 dp6 dq6 @aT @nt) ?_
    exact ⟨.inl ⟨_,_,rfl,⟨_,_,_,rfl,oc,og⟩,⟨_,_,_,rfl,oc',og'⟩⟩,zK⟩
   | false =>
    obtain ⟨p1,p2,p3,p4⟩:=Dt hL ho ho' n3
    refine zX (Gd hl g0 g1 g2 t6 t7 t9 t10 t11 t12 dp5 dq d06 d16 dp6 dq6 @aT @nt) ?_
    refine ⟨.inr ⟨n',_,_,K,G,K',G',rfl,n3,rfl,⟨u,w,rfl,?_,?_⟩,⟨u2,w2',rfl,?_,?_⟩,p1,p2,p3,p4⟩,zK⟩
    ·have m3:NoTy (t_api_Con :: conE.tys) H6 H.next:=Zp d06 zU
     have m4:NoTy (t_api_Con :: conE.tys) H6 (H.next+1):=Zp d16 zU
     exact Zw (E:=conE) zS (hc5.mono k6.sub)
    ·have m3:NoTy (ak :: genE.tys) H6 H.next:=Zp d06 zU
     have m4:NoTy (ak :: genE.tys) H6 (H.next+1):=Zp d16 zU
     exact Zw (E:=genE) zS (hg5.mono k6.sub)
    ·have m3:NoTy (t_api_Con :: conE.tys) H6 H.next:=Zp d06 zU
     have m4:NoTy (t_api_Con :: conE.tys) H6 (H.next+1):=Zp d16 zU
     exact Zw (E:=conE) zS (hc5'.mono k6.sub)
    ·have m3:NoTy (ak :: genE.tys) H6 H.next:=Zp d06 zU
     have m4:NoTy (ak :: genE.tys) H6 (H.next+1):=Zp d16 zU
     exact Zw (E:=genE) zS (hg5'.mono k6.sub)
  ·subst e1
   refine zX (D7 hl g0 g1 g2 t6 t7 t9 t10 t11 t12 dp5 dq d05 d15 @aT e2 @nt) ?_
   exact ⟨.inl ⟨_,_,rfl,⟨_,_,_,rfl,ou,ow⟩,⟨_,_,_,rfl,ou2,ow2⟩⟩,zK⟩
 ·refine zX (D7 hl g0 g1 g2 t6 t7 t9 t10 t11 t12 dp5 dq d05 d15 @aT e1 @nt) ?_
  exact ⟨.inl ⟨_,_,rfl,⟨_,_,_,rfl,ou,ow⟩,⟨_,_,_,rfl,ou2,ow2⟩⟩,zK⟩
end
section
variable {tab:Nat->Option aw} {H:Heap} {s1 s2 s3:AV}
theorem gQ {tab:Nat->Option aw} {rd:Bool} {c:ACode} {T:Tm} {H:Heap} {K:Ex->Tm->Heap->Prop} (p:Tm->Prop) (hp:p T) (h:∀ T',p T'->WB tab rd c T' H K):WB tab rd c T H K:=h T hp
theorem EX {H:Heap} {v:AV} {d:Int} (h:Qd H v d):∃ x u w x' u' w' b,v=.tup [.agg [.int .i64 x,u,w],.agg [.int .i64 x',u',w'],.bool b]/\One u/\One w/\One u'/\One w':=by
 rcases h with ⟨a,b,rfl,⟨x,u,w,rfl,h1,h2⟩,⟨x',u',w',rfl,h3,h4⟩⟩ | ⟨n,p,q,K,G,K',G',-,-,rfl,⟨vc,vg,rfl,h1,h2⟩,⟨vc',vg',rfl,h3,h4⟩,-⟩
 ·exact ⟨_,_,_,_,_,_,_,rfl,h1,h2,h3,h4⟩
 ·exact ⟨_,_,_,_,_,_,_,rfl,h1.one,h2.one,h3.one,h4.one⟩
set_option maxHeartbeats 4000000 in
theorem law22_PolyLattice (C:Code tab) (hw:Wf H) {d:Int} {l m r:List vQ} (hs1:SlV conQE t_api_Con H s1 l) (hs2:SlV conQE t_api_Con H s2 m) (hs3:SlV conQE t_api_Con H s3 r) (gl:∀ x∈l,iG x.1) (gm:∀ x∈m,iG x.1) (gr:∀ x∈r,iG x.1) (_ : -9223372036854775808<=d/\d<9223372036854775808) :
  Ans tab (.fn dr [.int .i64 d,s1,s2,s3]) H fun v H'=>v=.bool true/\Kp H H':=by
 refine BA C.q0 rfl rfl zU fun T hl g=>?_
 have hl:T.length=221:=hl
 have hrs:c_facetroomlaw22_PolyLattice.results=[(8,none)]:=rfl
 have g0:aa T 0=.int .i64 d:=g 0 (by simp)
 have g1:aa T 1=s1:=g 1 (by simp)
 have g2:aa T 2=s2:=g 2 (by simp)
 have g3:aa T 3=s3:=g 3 (by simp)
 clear g
 refine aP ?_
 refine zW (aC hl @au) ?_
 refine aP ?_
 refine zW hl ?_
 refine Y4 (E8 C zF) fun H2 hk2=>?_
 obtain ⟨k2,_,w2⟩:=zT H zK hk2
 refine zW (aC hl @au) ?_
 refine aP ?_
 refine zW (aX hl g0 g1 g2) ?_
 refine Y5 (Am C zF ((hs1.mono k2.sub).mono (zG H2)) gl ((hs2.mono k2.sub).mono (zG H2)) gm) ?_
 rintro v3 H3 ⟨hm3,hk3⟩
 obtain ⟨x,u,w,x',u',w',b,hv3,ou,ow,ou',ow'⟩:=EX hm3
 obtain ⟨k3,_,w3⟩:=zT H2 zK hk3
 have e3:Emp H3 H2.next (H2.next+13):=(Zd w2 (k:=13)).keep hk3
 have n3:=e3.1
 have fA:=e3.2 (H2.next+8) zO zO
 have fB:=e3.2 (H2.next+9) zO zO
 obtain ⟨G3,hG3⟩:∃ G3,G3=(((H3.put (H2.next+8) (.cells [.int .i64 0,.nilSl,.nilSl] ag true)).put (H2.next+9) (.cells [.int .i64 0,.nilSl,.nilSl] ag true)).put (H2.next+8) (.cells [.int .i64 x,u,w] ag true)).put (H2.next+9) (.cells [.int .i64 x',u',w'] ag true):=⟨_,rfl⟩
 have kG3:Kp H2 G3:=by rw [hG3]; exact zK
 have s3G:Sub H3 G3:=by rw [hG3]; exact (((aH fA).put fB _).put fA _).put fB _
 have wG3:=kG3.wf
 have pA3:G3.get (H2.next+8)=some (.cells [.int .i64 x,u,w] ag true):=by rw [hG3,aA zO,aq]
 have pB3:G3.get (H2.next+9)=some (.cells [.int .i64 x',u',w'] ag true):=by rw [hG3,aq]
 subst hv3
 refine zW (gh hl g0 g1 g2 g3 @nt @au) ?_
 rw [<- hG3]
 clear hG3
 refine aP ?_
 refine zW (aD hl g0 g3) ?_
 refine Y5 (Am C zF (((hs3.mono k2.sub).mono kG3.sub).mono (zG G3)) gr (Zx conQE t_api_Con _) (fun x hx=>by cases hx)) ?_
 rintro v4 H4 ⟨hm4,hk4⟩
 obtain ⟨y,z,t,y',z',t',b',hv4,oz,ot,oz',ot'⟩:=EX hm4
 subst hv4
 obtain ⟨k4,_,w4⟩:=zT G3 zK hk4
 have e4:Emp H4 G3.next (G3.next+12):=(Zd wG3 (k:=12)).keep hk4
 have n4:=e4.1
 have fR:=e4.2 (G3.next+7) zO zO
 have fS:=e4.2 (G3.next+8) zO zO
 obtain ⟨G4,hG4⟩:∃ G4,G4=(((H4.put (G3.next+7) (.cells [.int .i64 0,.nilSl,.nilSl] ag true)).put (G3.next+8) (.cells [.int .i64 0,.nilSl,.nilSl] ag true)).put (G3.next+7) (.cells [.int .i64 y,z,t] ag true)).put (G3.next+8) (.cells [.int .i64 y',z',t'] ag true):=⟨_,rfl⟩
 have kG4:Kp G3 G4:=by rw [hG4]; exact zK
 have s4G:Sub H4 G4:=by rw [hG4]; exact (((aH fR).put fS _).put fR _).put fS _
 have wG4:=kG4.wf
 have pR4:G4.get (G3.next+7)=some (.cells [.int .i64 y,z,t] ag true):=by rw [hG4,aA zO,aq]
 have pA4:=kG4.get pA3
 have pB4:=kG4.get pB3
 have kH:Kp H G4:=(k2.trans kG3).trans kG4
 refine zW (bS hl g0 g3 @nt @au) ?_
 rw [<- hG4]
 clear hG4
 refine gQ (fun T'=>T'.length=221/\aa T' 9=.bool true/\aa T' 10=.ptr (H2.next+8) 0/\aa T' 11=.ptr (H2.next+9) 0/\aa T' 12=.bool b/\aa T' 13=.ptr (G3.next+7) 0/\aa T' 15=.bool b') (zV hl) ?_
 clear hl g0 g1 g2 g3
 rintro T ⟨hl,u9,u10,u11,u12,u13,u15⟩
 refine aP ?_
 cases b with
 | false =>
  refine zW (bS hl u9 u12 @uB hrs) ?_
  exact zK
 | true =>
 cases b' with
 | false =>
  refine zW (dV hl u9 u12 u15 @uB hrs) ?_
  exact zK
 | true =>
 rcases hm3 with ⟨_,_,he,-⟩ | ⟨n,p,q,K,G,K',G',rfl,n3',he,⟨vc,vg,rfl,hc,hg⟩,⟨vc',vg',rfl,hc',hg'⟩,ok,ok',lK,lG⟩
 ·cases he
 cases he
 rcases hm4 with ⟨_,_,he,-⟩ | ⟨n',p,q,Kr,Gr,Kx,Gx,hnn,n4',he,⟨vc2,vg2,rfl,hc2,hg2⟩,⟨vc2',vg2',rfl,hc2',hg2'⟩,okr,okx,-,-⟩
 ·cases he
 have hnn:n'=n:=by omega
 subst hnn
 cases he
 refine zW (bS hl u9 u12 u15 @au) ?_
 obtain ⟨G5,hG5⟩:∃ G5,G5=G4.up 10:=⟨_,rfl⟩
 rw [<- hG5]
 have s45:Sub G4 G5:=by rw [hG5]; exact ZB _ 10
 have kk5:Kp H G5:=by rw [hG5]; exact kH.up _
 have wG5:=kk5.wf
 clear hG5
 have pA5:=s45.get _ _ pA4
 have pB5:=s45.get _ _ pB4
 have pR5:=s45.get _ _ pR4
 have cA5:=hc.mono ((s3G.trans kG4.sub).trans s45)
 have gA5:=hg.mono ((s3G.trans kG4.sub).trans s45)
 have cB5:=hc'.mono ((s3G.trans kG4.sub).trans s45)
 have gB5:=hg'.mono ((s3G.trans kG4.sub).trans s45)
 have cR5:=hc2.mono (s4G.trans s45)
 have gR5:=hg2.mono (s4G.trans s45)
 have okX:=Pd ok ok' n3' lK
 have okU:=Pc ok ok' n3' lG
 have eT:=Lin.both_turn ok.own ok'.own
 have hT:=Lin.hull_turn ok.own ok'.own
 clear u9 u12 u15 hc hg hc' hg' hc2 hg2 pA4 pB4 pR4 pA3 pB3
 refine aP ?_
 refine zW (bS hl u10 u11 pA5 pB5) ?_
 refine Y5 (wA C (n:=n') (m:=64) (m2:=64*(64+4)) zF ⟨u,w,rfl,cA5.mono (zG G5),gA5.mono (zG G5)⟩ ⟨u',w',rfl,cB5.mono (zG G5),gB5.mono (zG G5)⟩ ok ok' zO zO zO zO okX.bG zO) ?_
 rintro v6 H6 ⟨hm,hk⟩
 obtain ⟨vX,gX,rfl,hcx,hgx⟩:=Dk hm okX
 clear hm
 have kh6:Kp G5 H6:=Zi zK hk
 have w6:=kh6.wf
 have le6:=hk.le
 have oc6:=hcx.one
 have og6:=hgx.one
 have fr:H6.get (G5.next+6)=none:=hk.free (show G5.next+6<G5.next+9 by omega) (wG5.fresh (b:=G5.next+6) zO)
 have nn6:G5.next+9<=H6.next:=le6
 obtain ⟨G6,hG6⟩:∃ G6,G6=(H6.put (G5.next+6) (.cells [.int .i64 0,.nilSl,.nilSl] ag true)).put (G5.next+6) (.cells [.int .i64 (n':Int),vX,gX] ag true):=⟨_,rfl⟩
 have sx6:Sub H6 G6:=by rw [hG6]; exact (aH fr).put fr _
 have kg6:Kp G5 G6:=by rw [hG6]; exact zK
 have wG6:=kg6.wf
 have kk6:Kp H G6:=kk5.trans kg6
 have pX6:G6.get (G5.next+6)=some (.cells [.int .i64 (n':Int),vX,gX] ag true):=by rw [hG6,aq]
 have cX6:=hcx.mono sx6
 have gX6:=hgx.mono sx6
 have pA6:=kg6.get pA5
 have cA6:=cA5.mono kg6.sub
 have gA6:=gA5.mono kg6.sub
 have pB6:=kg6.get pB5
 have cB6:=cB5.mono kg6.sub
 have gB6:=gB5.mono kg6.sub
 have pR6:=kg6.get pR5
 have cR6:=cR5.mono kg6.sub
 have gR6:=gR5.mono kg6.sub
 have qa:=kh6.get pA5
 have qb:=kh6.get pB5
 refine zW (ko hl u10 u11 pA5 pB5 qa qb @nt @au) ?_
 rw [<- hG6]
 refine gQ (fun T'=>T'.length=221/\aa T' 10=.ptr (H2.next+8) 0/\aa T' 11=.ptr (H2.next+9) 0/\aa T' 13=.ptr (G3.next+7) 0/\aa T' 16=.ptr (G5.next+6) 0/\aa T' 17=.int .i64 0) (zV (aX hl u10 u11 u13)) ?_
 clear hl u10 u11 u13 hG6 fr qa qb
 rintro T ⟨hl,u10,u11,u13,u16,u17⟩
 clear pA5 cA5 gA5 pB5 cB5 gB5 pR5 cR5 gR5
 refine aP ?_
 refine zW (bS hl u10 u11 pA6 pB6) ?_
 refine Y5 (wz C (n:=n') (m:=64) (m2:=64*(64+4)) (m3:=64*(64*(64+4)+4)) zF ⟨u,w,rfl,cA6.mono (zG G6),gA6.mono (zG G6)⟩ ⟨u',w',rfl,cB6.mono (zG G6),gB6.mono (zG G6)⟩ ok ok' zO zO zO zO okU.bK zO okU.bG zO (.inl okU.lenK)) ?_
 rintro v7 H7 ⟨hm,hk⟩
 obtain ⟨vU,gU,rfl,hcx,hgx⟩:=Ir hm okU
 clear hm
 have kh7:Kp G6 H7:=Zi zK hk
 have w7:=kh7.wf
 have le7:=hk.le
 have oc7:=hcx.one
 have og7:=hgx.one
 have fr:H7.get (G6.next+6)=none:=hk.free (show G6.next+6<G6.next+9 by omega) (wG6.fresh (b:=G6.next+6) zO)
 have nn7:G6.next+9<=H7.next:=le7
 obtain ⟨G7,hG7⟩:∃ G7,G7=(H7.put (G6.next+6) (.cells [.int .i64 0,.nilSl,.nilSl] ag true)).put (G6.next+6) (.cells [.int .i64 (n':Int),vU,gU] ag true):=⟨_,rfl⟩
 have sx7:Sub H7 G7:=by rw [hG7]; exact (aH fr).put fr _
 have kg7:Kp G6 G7:=by rw [hG7]; exact zK
 have wG7:=kg7.wf
 have kk7:Kp H G7:=kk6.trans kg7
 have pU7:G7.get (G6.next+6)=some (.cells [.int .i64 (n':Int),vU,gU] ag true):=by rw [hG7,aq]
 have cU7:=hcx.mono sx7
 have gU7:=hgx.mono sx7
 have pA7:=kg7.get pA6
 have cA7:=cA6.mono kg7.sub
 have gA7:=gA6.mono kg7.sub
 have pB7:=kg7.get pB6
 have cB7:=cB6.mono kg7.sub
 have gB7:=gB6.mono kg7.sub
 have pR7:=kg7.get pR6
 have cR7:=cR6.mono kg7.sub
 have gR7:=gR6.mono kg7.sub
 have pX7:=kg7.get pX6
 have cX7:=cX6.mono kg7.sub
 have gX7:=gX6.mono kg7.sub
 have qa:=kh7.get pA6
 have qb:=kh7.get pB6
 refine zW (ko hl u10 u11 pA6 pB6 qa qb @nt @au) ?_
 rw [<- hG7]
 refine gQ (fun T'=>T'.length=221/\aa T' 10=.ptr (H2.next+8) 0/\aa T' 11=.ptr (H2.next+9) 0/\aa T' 13=.ptr (G3.next+7) 0/\aa T' 16=.ptr (G5.next+6) 0/\aa T' 18=.ptr (G6.next+6) 0/\aa T' 17=.int .i64 0/\aa T' 19=.int .i64 0) (zV (dV hl u10 u11 u13 u16 u17)) ?_
 clear hl u10 u11 u13 u16 u17 hG7 fr qa qb
 rintro T ⟨hl,u10,u11,u13,u16,u18,u17,u19⟩
 clear pA6 cA6 gA6 pB6 cB6 gB6 pR6 cR6 gR6 pX6 cX6 gX6
 refine aP ?_
 refine zW (bS hl u11 u10 pB7 pA7) ?_
 refine Y5 (wA C (n:=n') (m:=64) (m2:=64*(64+4)) zF ⟨u',w',rfl,cB7.mono (zG G7),gB7.mono (zG G7)⟩ ⟨u,w,rfl,cA7.mono (zG G7),gA7.mono (zG G7)⟩ ok' ok zO zO zO zO (by rw [<- eT]; exact okX.bG) zO) ?_
 rintro v8 H8 ⟨hm,hk⟩
 rw [<- eT] at hm
 obtain ⟨vY,gY,rfl,hcx,hgx⟩:=Dk hm okX
 clear hm
 have kh8:Kp G7 H8:=Zi zK hk
 have w8:=kh8.wf
 have le8:=hk.le
 have oc8:=hcx.one
 have og8:=hgx.one
 have fr:H8.get (G7.next+6)=none:=hk.free (show G7.next+6<G7.next+9 by omega) (wG7.fresh (b:=G7.next+6) zO)
 have nn8:G7.next+9<=H8.next:=le8
 obtain ⟨G8,hG8⟩:∃ G8,G8=(H8.put (G7.next+6) (.cells [.int .i64 0,.nilSl,.nilSl] ag true)).put (G7.next+6) (.cells [.int .i64 (n':Int),vY,gY] ag true):=⟨_,rfl⟩
 have sx8:Sub H8 G8:=by rw [hG8]; exact (aH fr).put fr _
 have kg8:Kp G7 G8:=by rw [hG8]; exact zK
 have wG8:=kg8.wf
 have kk8:Kp H G8:=kk7.trans kg8
 have pY8:G8.get (G7.next+6)=some (.cells [.int .i64 (n':Int),vY,gY] ag true):=by rw [hG8,aq]
 have cY8:=hcx.mono sx8
 have gY8:=hgx.mono sx8
 have pA8:=kg8.get pA7
 have cA8:=cA7.mono kg8.sub
 have gA8:=gA7.mono kg8.sub
 have pB8:=kg8.get pB7
 have cB8:=cB7.mono kg8.sub
 have gB8:=gB7.mono kg8.sub
 have pR8:=kg8.get pR7
 have cR8:=cR7.mono kg8.sub
 have gR8:=gR7.mono kg8.sub
 have pX8:=kg8.get pX7
 have cX8:=cX7.mono kg8.sub
 have gX8:=gX7.mono kg8.sub
 have pU8:=kg8.get pU7
 have cU8:=cU7.mono kg8.sub
 have gU8:=gU7.mono kg8.sub
 have qa:=kh8.get pB7
 have qb:=kh8.get pA7
 refine zW (ko hl u11 u10 pB7 pA7 qa qb @nt @au) ?_
 rw [<- hG8]
 refine gQ (fun T'=>T'.length=221/\aa T' 10=.ptr (H2.next+8) 0/\aa T' 11=.ptr (H2.next+9) 0/\aa T' 13=.ptr (G3.next+7) 0/\aa T' 16=.ptr (G5.next+6) 0/\aa T' 18=.ptr (G6.next+6) 0/\aa T' 20=.ptr (G7.next+6) 0/\aa T' 17=.int .i64 0/\aa T' 19=.int .i64 0/\aa T' 21=.int .i64 0) (zV (lA hl u10 u11 u13 u16 u18 u17 u19)) ?_
 clear hl u10 u11 u13 u16 u18 u17 u19 hG8 fr qa qb
 rintro T ⟨hl,u10,u11,u13,u16,u18,u20,u17,u19,u21⟩
 clear pA7 cA7 gA7 pB7 cB7 gB7 pR7 cR7 gR7 pX7 cX7 gX7 pU7 cU7 gU7
 refine aP ?_
 refine zW (bS hl u11 u10 pB8 pA8) ?_
 refine Y5 (wz C (n:=n') (m:=64) (m2:=64*(64+4)) (m3:=64*(64*(64+4)+4)) zF ⟨u',w',rfl,cB8.mono (zG G8),gB8.mono (zG G8)⟩ ⟨u,w,rfl,cA8.mono (zG G8),gA8.mono (zG G8)⟩ ok' ok zO zO zO zO (by rw [<- hT]; exact okU.bK) zO (by rw [<- hT]; exact okU.bG) zO (by rw [<- hT]; exact .inl okU.lenK)) ?_
 rintro v9 H9 ⟨hm,hk⟩
 have hm:Bh H9 v9 n' (G++G'):=by
  unfold Bh at hm ⊢
  rw [hT]
  exact hm
 obtain ⟨vW,gW,rfl,hcx,hgx⟩:=Ir hm okU
 clear hm
 have kh9:Kp G8 H9:=Zi zK hk
 have w9:=kh9.wf
 have le9:=hk.le
 have oc9:=hcx.one
 have og9:=hgx.one
 have fr:H9.get (G8.next+6)=none:=hk.free (show G8.next+6<G8.next+9 by omega) (wG8.fresh (b:=G8.next+6) zO)
 have nn9:G8.next+9<=H9.next:=le9
 obtain ⟨G9,hG9⟩:∃ G9,G9=(H9.put (G8.next+6) (.cells [.int .i64 0,.nilSl,.nilSl] ag true)).put (G8.next+6) (.cells [.int .i64 (n':Int),vW,gW] ag true):=⟨_,rfl⟩
 have sx9:Sub H9 G9:=by rw [hG9]; exact (aH fr).put fr _
 have kg9:Kp G8 G9:=by rw [hG9]; exact zK
 have wG9:=kg9.wf
 have kk9:Kp H G9:=kk8.trans kg9
 have pW9:G9.get (G8.next+6)=some (.cells [.int .i64 (n':Int),vW,gW] ag true):=by rw [hG9,aq]
 have cW9:=hcx.mono sx9
 have gW9:=hgx.mono sx9
 have pA9:=kg9.get pA8
 have cA9:=cA8.mono kg9.sub
 have gA9:=gA8.mono kg9.sub
 have pB9:=kg9.get pB8
 have cB9:=cB8.mono kg9.sub
 have gB9:=gB8.mono kg9.sub
 have pR9:=kg9.get pR8
 have cR9:=cR8.mono kg9.sub
 have gR9:=gR8.mono kg9.sub
 have pX9:=kg9.get pX8
 have cX9:=cX8.mono kg9.sub
 have gX9:=gX8.mono kg9.sub
 have pU9:=kg9.get pU8
 have cU9:=cU8.mono kg9.sub
 have gU9:=gU8.mono kg9.sub
 have pY9:=kg9.get pY8
 have cY9:=cY8.mono kg9.sub
 have gY9:=gY8.mono kg9.sub
 have qa:=kh9.get pB8
 have qb:=kh9.get pA8
 refine zW (ko hl u11 u10 pB8 pA8 qa qb @nt @au) ?_
 rw [<- hG9]
 refine gQ (fun T'=>T'.length=221/\aa T' 10=.ptr (H2.next+8) 0/\aa T' 11=.ptr (H2.next+9) 0/\aa T' 13=.ptr (G3.next+7) 0/\aa T' 16=.ptr (G5.next+6) 0/\aa T' 18=.ptr (G6.next+6) 0/\aa T' 20=.ptr (G7.next+6) 0/\aa T' 22=.ptr (G8.next+6) 0/\aa T' 17=.int .i64 0/\aa T' 19=.int .i64 0/\aa T' 21=.int .i64 0/\aa T' 23=.int .i64 0) (zV (qi hl u10 u11 u13 u16 u18 u20 u17 u19 u21)) ?_
 clear hl u10 u11 u13 u16 u18 u20 u17 u19 u21 hG9 fr qa qb
 rintro T ⟨hl,u10,u11,u13,u16,u18,u20,u22,u17,u19,u21,u23⟩
 clear pA8 cA8 gA8 pB8 cB8 gB8 pR8 cR8 gR8 pX8 cX8 gX8 pU8 cU8 gU8 pY8 cY8 gY8
 have lKX:=okX.lenK
 have lGX:=okX.many
 have lKU:=okU.lenK
 have lGU:=okU.many
 refine aP ?_
 refine zW (oF hl u16 u17 u18 u19 u20 u21 u22 u23 pX9 pY9) ?_
 refine Y4 (tE C (n:=n') (n':=n') zF ⟨vX,gX,rfl,cX9.mono (zG G9),gX9.mono (zG G9)⟩ ⟨vY,gY,rfl,cY9.mono (zG G9),gY9.mono (zG G9)⟩ zO okX.smK zO okX.smG) fun H10 hk=>?_
 rw [decide_eq_true ⟨rfl,rfl,rfl⟩]
 obtain ⟨k10,_,w10⟩:=zT G9 zK hk
 have qU:=k10.get pU9
 have qW:=k10.get pW9
 refine zW (Bm hl u16 u17 u18 u19 u20 u21 u22 u23 pX9 pY9 qU qW) ?_
 refine Y4 (tE C (n:=n') (n':=n') zF ⟨vU,gU,rfl,(cU9.mono k10.sub).mono (zG H10),(gU9.mono k10.sub).mono (zG H10)⟩ ⟨vW,gW,rfl,(cW9.mono k10.sub).mono (zG H10),(gW9.mono k10.sub).mono (zG H10)⟩ zO okU.smK zO okU.smG) fun G10 hk=>?_
 rw [decide_eq_true ⟨rfl,rfl,rfl⟩]
 have kg10:Kp G9 G10:=k10.trans (Zi zK hk)
 have wG10:=kg10.wf
 have kk10:Kp H G10:=kk9.trans kg10
 refine zW (Ge hl u16 u17 u18 u19 u20 u21 u22 u23 pX9 pY9 qU qW @au) ?_
 have i1:=(Lin.both_in ok.own ok'.own).1
 have i2:=(Lin.both_in ok.own ok'.own).2
 have i3:=(Lin.hull_has ok.own ok'.own).1
 have i4:=(Lin.hull_has ok.own ok'.own).2
 have i5:=Lin.both_least ok.own ok'.own okr.own
 have i6:=Lin.hull_least ok.own ok'.own okr.own
 have pA10:=kg10.get pA9
 have cA10:=cA9.mono kg10.sub
 have gA10:=gA9.mono kg10.sub
 have pB10:=kg10.get pB9
 have cB10:=cB9.mono kg10.sub
 have gB10:=gB9.mono kg10.sub
 have pR10:=kg10.get pR9
 have cR10:=cR9.mono kg10.sub
 have gR10:=gR9.mono kg10.sub
 have pX10:=kg10.get pX9
 have cX10:=cX9.mono kg10.sub
 have gX10:=gX9.mono kg10.sub
 have pU10:=kg10.get pU9
 have cU10:=cU9.mono kg10.sub
 have gU10:=gU9.mono kg10.sub
 obtain ⟨ba,eba⟩:∃ ba,ba=Lin.inP Gr K:=⟨_,rfl⟩
 obtain ⟨bb,ebb⟩:∃ bb,bb=Lin.inP Gr K':=⟨_,rfl⟩
 obtain ⟨bc,ebc⟩:∃ bc,bc=Lin.inP G Kr:=⟨_,rfl⟩
 obtain ⟨bd,ebd⟩:∃ bd,bd=Lin.inP G' Kr:=⟨_,rfl⟩
 rw [<- eba,<- ebb] at i5
 rw [<- ebc,<- ebd] at i6
 refine gQ (fun T'=>T'.length=221/\aa T' 10=.ptr (H2.next+8) 0/\aa T' 11=.ptr (H2.next+9) 0/\aa T' 13=.ptr (G3.next+7) 0/\aa T' 16=.ptr (G5.next+6) 0/\aa T' 18=.ptr (G6.next+6) 0) (zV (dV hl u10 u11 u13 u16 u18)) ?_
 clear hl u10 u11 u13 u16 u17 u18 u19 u20 u21 u22 u23
 rintro T ⟨hl,u10,u11,u13,u16,u18⟩
 refine aP ?_
 refine zW (bS hl u16 u10 pX10 pA10) ?_
 refine Y4 (kP C (n:=n') zF ⟨vX,gX,rfl,cX10.mono (zG G10),gX10.mono (zG G10)⟩ ⟨u,w,rfl,cA10.mono (zG G10),gA10.mono (zG G10)⟩ okX ok) fun G11 hk=>?_
 rw [i1]
 have kg11:Kp G10 G11:=Zi zK hk
 have wG11:=kg11.wf
 have kk11:Kp H G11:=kk10.trans kg11
 have pA11:=kg11.get pA10
 have cA11:=cA10.mono kg11.sub
 have gA11:=gA10.mono kg11.sub
 have pB11:=kg11.get pB10
 have cB11:=cB10.mono kg11.sub
 have gB11:=gB10.mono kg11.sub
 have pR11:=kg11.get pR10
 have cR11:=cR10.mono kg11.sub
 have gR11:=gR10.mono kg11.sub
 have pX11:=kg11.get pX10
 have cX11:=cX10.mono kg11.sub
 have gX11:=gX10.mono kg11.sub
 have pU11:=kg11.get pU10
 have cU11:=cU10.mono kg11.sub
 have gU11:=gU10.mono kg11.sub
 clear pA10 cA10 gA10 pB10 cB10 gB10 pR10 cR10 gR10 pX10 cX10 gX10 pU10 cU10 gU10
 refine zW (gh hl u10 u11 u13 u16 u18 @au) ?_
 refine gQ (fun T'=>T'.length=221/\aa T' 10=.ptr (H2.next+8) 0/\aa T' 11=.ptr (H2.next+9) 0/\aa T' 13=.ptr (G3.next+7) 0/\aa T' 16=.ptr (G5.next+6) 0/\aa T' 18=.ptr (G6.next+6) 0/\aa T' 24=.bool true/\aa T' 25=.int .i64 0) (zV (dV hl u10 u11 u13 u16 u18)) ?_
 clear hl u10 u11 u13 u16 u18
 rintro T ⟨hl,u10,u11,u13,u16,u18,u24,u25⟩
 refine aP ?_
 refine zW (bS hl u16 u11 pX11 pB11) ?_
 refine Y4 (kP C (n:=n') zF ⟨vX,gX,rfl,cX11.mono (zG G11),gX11.mono (zG G11)⟩ ⟨u',w',rfl,cB11.mono (zG G11),gB11.mono (zG G11)⟩ okX ok') fun G12 hk=>?_
 rw [i2]
 have kg12:Kp G11 G12:=Zi zK hk
 have wG12:=kg12.wf
 have kk12:Kp H G12:=kk11.trans kg12
 have pA12:=kg12.get pA11
 have cA12:=cA11.mono kg12.sub
 have gA12:=gA11.mono kg12.sub
 have pB12:=kg12.get pB11
 have cB12:=cB11.mono kg12.sub
 have gB12:=gB11.mono kg12.sub
 have pR12:=kg12.get pR11
 have cR12:=cR11.mono kg12.sub
 have gR12:=gR11.mono kg12.sub
 have pX12:=kg12.get pX11
 have cX12:=cX11.mono kg12.sub
 have gX12:=gX11.mono kg12.sub
 have pU12:=kg12.get pU11
 have cU12:=cU11.mono kg12.sub
 have gU12:=gU11.mono kg12.sub
 clear pA11 cA11 gA11 pB11 cB11 gB11 pR11 cR11 gR11 pX11 cX11 gX11 pU11 cU11 gU11
 refine zW (ko hl u10 u11 u13 u16 u18 u24 u25 @au) ?_
 refine gQ (fun T'=>T'.length=221/\aa T' 10=.ptr (H2.next+8) 0/\aa T' 11=.ptr (H2.next+9) 0/\aa T' 13=.ptr (G3.next+7) 0/\aa T' 16=.ptr (G5.next+6) 0/\aa T' 18=.ptr (G6.next+6) 0/\aa T' 24=.bool true/\aa T' 26=.bool true/\aa T' 25=.int .i64 0/\aa T' 27=.int .i64 0) (zV (lA hl u10 u11 u13 u16 u18 u24 u25)) ?_
 clear hl u10 u11 u13 u16 u18 u24 u25
 rintro T ⟨hl,u10,u11,u13,u16,u18,u24,u26,u25,u27⟩
 refine aP ?_
 refine zW (bS hl u10 u18 pA12 pU12) ?_
 refine Y4 (kP C (n:=n') zF ⟨u,w,rfl,cA12.mono (zG G12),gA12.mono (zG G12)⟩ ⟨vU,gU,rfl,cU12.mono (zG G12),gU12.mono (zG G12)⟩ ok okU) fun G13 hk=>?_
 rw [i3]
 have kg13:Kp G12 G13:=Zi zK hk
 have wG13:=kg13.wf
 have kk13:Kp H G13:=kk12.trans kg13
 have pA13:=kg13.get pA12
 have cA13:=cA12.mono kg13.sub
 have gA13:=gA12.mono kg13.sub
 have pB13:=kg13.get pB12
 have cB13:=cB12.mono kg13.sub
 have gB13:=gB12.mono kg13.sub
 have pR13:=kg13.get pR12
 have cR13:=cR12.mono kg13.sub
 have gR13:=gR12.mono kg13.sub
 have pX13:=kg13.get pX12
 have cX13:=cX12.mono kg13.sub
 have gX13:=gX12.mono kg13.sub
 have pU13:=kg13.get pU12
 have cU13:=cU12.mono kg13.sub
 have gU13:=gU12.mono kg13.sub
 clear pA12 cA12 gA12 pB12 cB12 gB12 pR12 cR12 gR12 pX12 cX12 gX12 pU12 cU12 gU12
 refine zW (oF hl u10 u11 u13 u16 u18 u24 u26 u25 u27 @au) ?_
 refine gQ (fun T'=>T'.length=221/\aa T' 10=.ptr (H2.next+8) 0/\aa T' 11=.ptr (H2.next+9) 0/\aa T' 13=.ptr (G3.next+7) 0/\aa T' 16=.ptr (G5.next+6) 0/\aa T' 18=.ptr (G6.next+6) 0/\aa T' 24=.bool true/\aa T' 26=.bool true/\aa T' 28=.bool true/\aa T' 25=.int .i64 0/\aa T' 27=.int .i64 0/\aa T' 29=.int .i64 0) (zV (qi hl u10 u11 u13 u16 u18 u24 u26 u25 u27)) ?_
 clear hl u10 u11 u13 u16 u18 u24 u26 u25 u27
 rintro T ⟨hl,u10,u11,u13,u16,u18,u24,u26,u28,u25,u27,u29⟩
 refine aP ?_
 refine zW (bS hl u11 u18 pB13 pU13) ?_
 refine Y4 (kP C (n:=n') zF ⟨u',w',rfl,cB13.mono (zG G13),gB13.mono (zG G13)⟩ ⟨vU,gU,rfl,cU13.mono (zG G13),gU13.mono (zG G13)⟩ ok' okU) fun G14 hk=>?_
 rw [i4]
 have kg14:Kp G13 G14:=Zi zK hk
 have wG14:=kg14.wf
 have kk14:Kp H G14:=kk13.trans kg14
 have pA14:=kg14.get pA13
 have cA14:=cA13.mono kg14.sub
 have gA14:=gA13.mono kg14.sub
 have pB14:=kg14.get pB13
 have cB14:=cB13.mono kg14.sub
 have gB14:=gB13.mono kg14.sub
 have pR14:=kg14.get pR13
 have cR14:=cR13.mono kg14.sub
 have gR14:=gR13.mono kg14.sub
 have pX14:=kg14.get pX13
 have cX14:=cX13.mono kg14.sub
 have gX14:=gX13.mono kg14.sub
 have pU14:=kg14.get pU13
 have cU14:=cU13.mono kg14.sub
 have gU14:=gU13.mono kg14.sub
 clear pA13 cA13 gA13 pB13 cB13 gB13 pR13 cR13 gR13 pX13 cX13 gX13 pU13 cU13 gU13
 refine zW (Bm hl u10 u11 u13 u16 u18 u24 u26 u28 u25 u27 u29 @au) ?_
 refine gQ (fun T'=>T'.length=221/\aa T' 10=.ptr (H2.next+8) 0/\aa T' 11=.ptr (H2.next+9) 0/\aa T' 13=.ptr (G3.next+7) 0/\aa T' 16=.ptr (G5.next+6) 0/\aa T' 18=.ptr (G6.next+6) 0/\aa T' 24=.bool true/\aa T' 26=.bool true/\aa T' 28=.bool true/\aa T' 30=.bool true/\aa T' 25=.int .i64 0/\aa T' 27=.int .i64 0/\aa T' 29=.int .i64 0/\aa T' 31=.int .i64 0) (zV (yU hl u10 u11 u13 u16 u18 u24 u26 u28 u25 u27 u29)) ?_
 clear hl u10 u11 u13 u16 u18 u24 u26 u28 u25 u27 u29
 rintro T ⟨hl,u10,u11,u13,u16,u18,u24,u26,u28,u30,u25,u27,u29,u31⟩
 refine aP ?_
 refine zW (gh hl u24 u26 u28 u30 u31 @au) ?_
 obtain ⟨G15,hG15⟩:∃ G15,G15=G14.up 18:=⟨_,rfl⟩
 rw [<- hG15]
 have s15:Sub G14 G15:=by rw [hG15]; exact ZB _ 18
 have kk15:Kp H G15:=by rw [hG15]; exact kk14.up _
 have wG15:=kk15.wf
 clear hG15
 have pA15:=s15.get _ _ pA14
 have cA15:=cA14.mono s15
 have gA15:=gA14.mono s15
 have pB15:=s15.get _ _ pB14
 have cB15:=cB14.mono s15
 have gB15:=gB14.mono s15
 have pR15:=s15.get _ _ pR14
 have cR15:=cR14.mono s15
 have gR15:=gR14.mono s15
 have pX15:=s15.get _ _ pX14
 have cX15:=cX14.mono s15
 have gX15:=gX14.mono s15
 have pU15:=s15.get _ _ pU14
 have cU15:=cU14.mono s15
 have gU15:=gU14.mono s15
 refine gQ (fun T'=>T'.length=221/\aa T' 10=.ptr (H2.next+8) 0/\aa T' 11=.ptr (H2.next+9) 0/\aa T' 13=.ptr (G3.next+7) 0/\aa T' 16=.ptr (G5.next+6) 0/\aa T' 18=.ptr (G6.next+6) 0) (zV (dV hl u10 u11 u13 u16 u18)) ?_
 clear hl u10 u11 u13 u16 u18 u24 u25 u26 u27 u28 u29 u30 u31
 rintro T ⟨hl,u10,u11,u13,u16,u18⟩
 refine aP ?_
 refine zW (bS hl u13 u10 pR15 pA15) ?_
 refine Y4 (kP C (n:=n') zF ⟨z,t,rfl,cR15.mono (zG G15),gR15.mono (zG G15)⟩ ⟨u,w,rfl,cA15.mono (zG G15),gA15.mono (zG G15)⟩ okr ok) fun G16 hk=>?_
 rw [<- eba]
 have kg16:Kp G15 G16:=Zi zK hk
 have wG16:=kg16.wf
 have kk16:Kp H G16:=kk15.trans kg16
 have pA16:=kg16.get pA15
 have cA16:=cA15.mono kg16.sub
 have gA16:=gA15.mono kg16.sub
 have pB16:=kg16.get pB15
 have cB16:=cB15.mono kg16.sub
 have gB16:=gB15.mono kg16.sub
 have pR16:=kg16.get pR15
 have cR16:=cR15.mono kg16.sub
 have gR16:=gR15.mono kg16.sub
 have pX16:=kg16.get pX15
 have cX16:=cX15.mono kg16.sub
 have gX16:=gX15.mono kg16.sub
 have pU16:=kg16.get pU15
 have cU16:=cU15.mono kg16.sub
 have gU16:=gU15.mono kg16.sub
 clear pA15 cA15 gA15 pB15 cB15 gB15 pR15 cR15 gR15 pX15 cX15 gX15 pU15 cU15 gU15
 refine zW (gh hl u10 u11 u13 u16 u18 @au) ?_
 refine gQ (fun T'=>T'.length=221/\aa T' 10=.ptr (H2.next+8) 0/\aa T' 11=.ptr (H2.next+9) 0/\aa T' 13=.ptr (G3.next+7) 0/\aa T' 16=.ptr (G5.next+6) 0/\aa T' 18=.ptr (G6.next+6) 0/\aa T' 32=.bool ba/\aa T' 33=.int .i64 0) (zV (dV hl u10 u11 u13 u16 u18)) ?_
 clear hl u10 u11 u13 u16 u18
 rintro T ⟨hl,u10,u11,u13,u16,u18,u32,u33⟩
 refine aP ?_
 refine zW (bS hl u13 u11 pR16 pB16) ?_
 refine Y4 (kP C (n:=n') zF ⟨z,t,rfl,cR16.mono (zG G16),gR16.mono (zG G16)⟩ ⟨u',w',rfl,cB16.mono (zG G16),gB16.mono (zG G16)⟩ okr ok') fun G17 hk=>?_
 rw [<- ebb]
 have kg17:Kp G16 G17:=Zi zK hk
 have wG17:=kg17.wf
 have kk17:Kp H G17:=kk16.trans kg17
 have pA17:=kg17.get pA16
 have cA17:=cA16.mono kg17.sub
 have gA17:=gA16.mono kg17.sub
 have pB17:=kg17.get pB16
 have cB17:=cB16.mono kg17.sub
 have gB17:=gB16.mono kg17.sub
 have pR17:=kg17.get pR16
 have cR17:=cR16.mono kg17.sub
 have gR17:=gR16.mono kg17.sub
 have pX17:=kg17.get pX16
 have cX17:=cX16.mono kg17.sub
 have gX17:=gX16.mono kg17.sub
 have pU17:=kg17.get pU16
 have cU17:=cU16.mono kg17.sub
 have gU17:=gU16.mono kg17.sub
 clear pA16 cA16 gA16 pB16 cB16 gB16 pR16 cR16 gR16 pX16 cX16 gX16 pU16 cU16 gU16
 refine zW (ko hl u10 u11 u13 u16 u18 u32 u33 @au) ?_
 refine gQ (fun T'=>T'.length=221/\aa T' 10=.ptr (H2.next+8) 0/\aa T' 11=.ptr (H2.next+9) 0/\aa T' 13=.ptr (G3.next+7) 0/\aa T' 16=.ptr (G5.next+6) 0/\aa T' 18=.ptr (G6.next+6) 0/\aa T' 32=.bool ba/\aa T' 34=.bool bb/\aa T' 33=.int .i64 0/\aa T' 35=.int .i64 0) (zV (lA hl u10 u11 u13 u16 u18 u32 u33)) ?_
 clear hl u10 u11 u13 u16 u18 u32 u33
 rintro T ⟨hl,u10,u11,u13,u16,u18,u32,u34,u33,u35⟩
 refine aP ?_
 refine zW (bS hl u13 u16 pR17 pX17) ?_
 refine Y4 (kP C (n:=n') zF ⟨z,t,rfl,cR17.mono (zG G17),gR17.mono (zG G17)⟩ ⟨vX,gX,rfl,cX17.mono (zG G17),gX17.mono (zG G17)⟩ okr okX) fun G18 hk=>?_
 rw [i5]
 have kg18:Kp G17 G18:=Zi zK hk
 have wG18:=kg18.wf
 have kk18:Kp H G18:=kk17.trans kg18
 have pA18:=kg18.get pA17
 have cA18:=cA17.mono kg18.sub
 have gA18:=gA17.mono kg18.sub
 have pB18:=kg18.get pB17
 have cB18:=cB17.mono kg18.sub
 have gB18:=gB17.mono kg18.sub
 have pR18:=kg18.get pR17
 have cR18:=cR17.mono kg18.sub
 have gR18:=gR17.mono kg18.sub
 have pX18:=kg18.get pX17
 have cX18:=cX17.mono kg18.sub
 have gX18:=gX17.mono kg18.sub
 have pU18:=kg18.get pU17
 have cU18:=cU17.mono kg18.sub
 have gU18:=gU17.mono kg18.sub
 clear pA17 cA17 gA17 pB17 cB17 gB17 pR17 cR17 gR17 pX17 cX17 gX17 pU17 cU17 gU17
 refine zW (oF hl u10 u11 u13 u16 u18 u32 u34 u33 u35 @au) ?_
 refine gQ (fun T'=>T'.length=221/\aa T' 10=.ptr (H2.next+8) 0/\aa T' 11=.ptr (H2.next+9) 0/\aa T' 13=.ptr (G3.next+7) 0/\aa T' 16=.ptr (G5.next+6) 0/\aa T' 18=.ptr (G6.next+6) 0/\aa T' 32=.bool ba/\aa T' 34=.bool bb/\aa T' 36=.bool (ba && bb)/\aa T' 33=.int .i64 0/\aa T' 35=.int .i64 0/\aa T' 37=.int .i64 0) (zV (qi hl u10 u11 u13 u16 u18 u32 u34 u33 u35)) ?_
 clear hl u10 u11 u13 u16 u18 u32 u34 u33 u35
 rintro T ⟨hl,u10,u11,u13,u16,u18,u32,u34,u36,u33,u35,u37⟩
 refine aP ?_
 refine zW (bS hl u10 u13 pA18 pR18) ?_
 refine Y4 (kP C (n:=n') zF ⟨u,w,rfl,cA18.mono (zG G18),gA18.mono (zG G18)⟩ ⟨z,t,rfl,cR18.mono (zG G18),gR18.mono (zG G18)⟩ ok okr) fun G19 hk=>?_
 rw [<- ebc]
 have kg19:Kp G18 G19:=Zi zK hk
 have wG19:=kg19.wf
 have kk19:Kp H G19:=kk18.trans kg19
 have pA19:=kg19.get pA18
 have cA19:=cA18.mono kg19.sub
 have gA19:=gA18.mono kg19.sub
 have pB19:=kg19.get pB18
 have cB19:=cB18.mono kg19.sub
 have gB19:=gB18.mono kg19.sub
 have pR19:=kg19.get pR18
 have cR19:=cR18.mono kg19.sub
 have gR19:=gR18.mono kg19.sub
 have pX19:=kg19.get pX18
 have cX19:=cX18.mono kg19.sub
 have gX19:=gX18.mono kg19.sub
 have pU19:=kg19.get pU18
 have cU19:=cU18.mono kg19.sub
 have gU19:=gU18.mono kg19.sub
 clear pA18 cA18 gA18 pB18 cB18 gB18 pR18 cR18 gR18 pX18 cX18 gX18 pU18 cU18 gU18
 refine zW (Bm hl u10 u11 u13 u16 u18 u32 u34 u36 u33 u35 u37 @au) ?_
 refine gQ (fun T'=>T'.length=221/\aa T' 10=.ptr (H2.next+8) 0/\aa T' 11=.ptr (H2.next+9) 0/\aa T' 13=.ptr (G3.next+7) 0/\aa T' 16=.ptr (G5.next+6) 0/\aa T' 18=.ptr (G6.next+6) 0/\aa T' 32=.bool ba/\aa T' 34=.bool bb/\aa T' 36=.bool (ba && bb)/\aa T' 38=.bool bc/\aa T' 33=.int .i64 0/\aa T' 35=.int .i64 0/\aa T' 37=.int .i64 0/\aa T' 39=.int .i64 0) (zV (yU hl u10 u11 u13 u16 u18 u32 u34 u36 u33 u35 u37)) ?_
 clear hl u10 u11 u13 u16 u18 u32 u34 u36 u33 u35 u37
 rintro T ⟨hl,u10,u11,u13,u16,u18,u32,u34,u36,u38,u33,u35,u37,u39⟩
 refine aP ?_
 refine zW (bS hl u11 u13 pB19 pR19) ?_
 refine Y4 (kP C (n:=n') zF ⟨u',w',rfl,cB19.mono (zG G19),gB19.mono (zG G19)⟩ ⟨z,t,rfl,cR19.mono (zG G19),gR19.mono (zG G19)⟩ ok' okr) fun G20 hk=>?_
 rw [<- ebd]
 have kg20:Kp G19 G20:=Zi zK hk
 have wG20:=kg20.wf
 have kk20:Kp H G20:=kk19.trans kg20
 have pA20:=kg20.get pA19
 have cA20:=cA19.mono kg20.sub
 have gA20:=gA19.mono kg20.sub
 have pB20:=kg20.get pB19
 have cB20:=cB19.mono kg20.sub
 have gB20:=gB19.mono kg20.sub
 have pR20:=kg20.get pR19
 have cR20:=cR19.mono kg20.sub
 have gR20:=gR19.mono kg20.sub
 have pX20:=kg20.get pX19
 have cX20:=cX19.mono kg20.sub
 have gX20:=gX19.mono kg20.sub
 have pU20:=kg20.get pU19
 have cU20:=cU19.mono kg20.sub
 have gU20:=gU19.mono kg20.sub
 clear pA19 cA19 gA19 pB19 cB19 gB19 pR19 cR19 gR19 pX19 cX19 gX19 pU19 cU19 gU19
 refine zW (Ok hl u10 u11 u13 u16 u18 u32 u34 u36 u38 u33 u35 u37 u39 @au) ?_
 refine gQ (fun T'=>T'.length=221/\aa T' 10=.ptr (H2.next+8) 0/\aa T' 11=.ptr (H2.next+9) 0/\aa T' 13=.ptr (G3.next+7) 0/\aa T' 16=.ptr (G5.next+6) 0/\aa T' 18=.ptr (G6.next+6) 0/\aa T' 32=.bool ba/\aa T' 34=.bool bb/\aa T' 36=.bool (ba && bb)/\aa T' 38=.bool bc/\aa T' 40=.bool bd/\aa T' 33=.int .i64 0/\aa T' 35=.int .i64 0/\aa T' 37=.int .i64 0/\aa T' 39=.int .i64 0/\aa T' 41=.int .i64 0) (zV (Ge hl u10 u11 u13 u16 u18 u32 u34 u36 u38 u33 u35 u37 u39)) ?_
 clear hl u10 u11 u13 u16 u18 u32 u34 u36 u38 u33 u35 u37 u39
 rintro T ⟨hl,u10,u11,u13,u16,u18,u32,u34,u36,u38,u40,u33,u35,u37,u39,u41⟩
 refine aP ?_
 refine zW (bS hl u18 u13 pU20 pR20) ?_
 refine Y4 (kP C (n:=n') zF ⟨vU,gU,rfl,cU20.mono (zG G20),gU20.mono (zG G20)⟩ ⟨z,t,rfl,cR20.mono (zG G20),gR20.mono (zG G20)⟩ okU okr) fun G21 hk=>?_
 rw [i6]
 have kg21:Kp G20 G21:=Zi zK hk
 have wG21:=kg21.wf
 have kk21:Kp H G21:=kk20.trans kg21
 have pA21:=kg21.get pA20
 have cA21:=cA20.mono kg21.sub
 have gA21:=gA20.mono kg21.sub
 have pB21:=kg21.get pB20
 have cB21:=cB20.mono kg21.sub
 have gB21:=gB20.mono kg21.sub
 have pR21:=kg21.get pR20
 have cR21:=cR20.mono kg21.sub
 have gR21:=gR20.mono kg21.sub
 have pX21:=kg21.get pX20
 have cX21:=cX20.mono kg21.sub
 have gX21:=gX20.mono kg21.sub
 have pU21:=kg21.get pU20
 have cU21:=cU20.mono kg21.sub
 have gU21:=gU20.mono kg21.sub
 clear pA20 cA20 gA20 pB20 cB20 gB20 pR20 cR20 gR20 pX20 cX20 gX20 pU20 cU20 gU20
 refine zW (D7 hl u10 u11 u13 u16 u18 u32 u34 u36 u38 u40 u33 u35 u37 u39 u41 @au) ?_
 refine gQ (fun T'=>T'.length=221/\aa T' 10=.ptr (H2.next+8) 0/\aa T' 11=.ptr (H2.next+9) 0/\aa T' 13=.ptr (G3.next+7) 0/\aa T' 16=.ptr (G5.next+6) 0/\aa T' 18=.ptr (G6.next+6) 0/\aa T' 32=.bool ba/\aa T' 34=.bool bb/\aa T' 36=.bool (ba && bb)/\aa T' 38=.bool bc/\aa T' 40=.bool bd/\aa T' 42=.bool (bc && bd)/\aa T' 33=.int .i64 0/\aa T' 35=.int .i64 0/\aa T' 37=.int .i64 0/\aa T' 39=.int .i64 0/\aa T' 41=.int .i64 0/\aa T' 43=.int .i64 0) (zV (Ql hl u10 u11 u13 u16 u18 u32 u34 u36 u38 u40 u33 u35 u37 u39 u41)) ?_
 clear hl u10 u11 u13 u16 u18 u32 u34 u36 u38 u40 u33 u35 u37 u39 u41
 rintro T ⟨hl,u10,u11,u13,u16,u18,u32,u34,u36,u38,u40,u42,u33,u35,u37,u39,u41,u43⟩
 refine aP ?_
 cases ba <;> cases bb <;> cases bc <;> cases bd
 all_goals (
  simp only [YN,Yy,Ye,XV] at u36 u42
  refine zW (oF hl u32 u34 u36 u37 u38 u40 u42 u43 (beq_self_eq_true (α:=Bool)) @au) ?_
  refine WC.wb ?_
  refine zW (aC hl hrs) ?_
  exact kk21.up _)
end
open Go
theorem MV {P:Program}:Ic P eU:=trivial
theorem Pb {P:Program} {w:World} (hG:GlobW w):HR P (fun _=>none) (fun c=>c<w.heap.size) (Heap.nil 0) w:=by
 have h:=Mr (P:=P) hG
 refine ⟨h.dom,fun c hc=>hc,fun b e hb=>?_,h.inj,fun g cs hg=>(h.gl g cs hg).mono (fun _ _ h=>h) (fun c hc=>h.fb c hc) fun _ _=>rfl⟩
 rw [Tr.nil_get] at hb; cases hb
theorem open_calls {P:Program} (hmix:P.follows .mixedOrders=true) {tab:Nat->Option aw} (ht:Jl P tab) {f:Nat} {afn:aw} (haf:tab f=some afn) (hext:afn.ext=none) {args:List AV} {vs:List Value} {w:World} (hG:GlobW w)
  (hl:LR (fun _=>none) (fun c=>c<w.heap.size) w args vs) (h:Ans tab (.fn f args) (Heap.nil 0) fun v _=>v=.bool true) :
  Calls P f vs.toArray w fun e w'=>e=.returned (.bool true)/\w'.os=w.os/\w'.output=w.output/\w.heap.size<=w'.heap.size/\∀ c,c<w.heap.size->w'.heap[c]? = w.heap[c]?:=by
 obtain ⟨v,H',⟨N,hN⟩,rfl⟩:=h
 have h1:=hN (N+1) (N+1) (by omega) (by omega)
 simp only [l7,jQ,haf,hext] at h1
 obtain ⟨-,ht2⟩:=ht f afn haf
 obtain ⟨fn,hfn,hc⟩:=ht2 fun e h=>by rw [hext] at h; cases h
 obtain ⟨c1,c2,c3,c4,-⟩:=DQ hc hext
 have hH:=Pb (P:=P) hG
 have hin:=qz (zA MV hmix ht N) hmix hfn c1 c2 c3 c4 h1 hl hH 0 (fence:=Fence.wide) (rd:=false) (.inl ⟨rfl,rfl⟩)
 refine (hin.calls fun k=>room_wide k).mono fun e w' ⟨u,he,μ',hv,_,hS⟩=>?_
 cases hv
 refine ⟨he,hS.os,hS.out,hS.size,fun c hc=>hS.keep c hc fun b L ⟨e,h,_⟩=>?_⟩
 rw [Tr.nil_get] at h; cases h
theorem Nh {w w':World} (h1:w'.os=w.os) (h2:w'.output=w.output) (h:∀ c,c<w.heap.size->w'.heap[c]? = w.heap[c]?) (may:MemPlace->Prop):w.keptBut w' may:=by
 refine ⟨h1,h2,fun i hi=>?_⟩
 rw [h i hi]
 split
 ·rename_i e1 e2
  cases e1.symm.trans e2
  exact ⟨rfl,rfl,rfl,fun _ _=>rfl⟩
 ·rename_i e1 e2
  cases e1.symm.trans e2
  exact .inr ⟨rfl,rfl⟩
 ·rfl
section
open Go.ChangeShapes Go.WideShapes Go.ChangeAt Go.RowKit
variable {HT:Type} {enc:TypeId × Value->HT} {P:Program}
theorem stays {t:TypeId} (hl:laidOutB P=true) (hr:P.readableRec t=true) (hrow:t<P.types.size) {W W':World} {sp:Nat->Bool} {v:Value} {d:DataW HT} {ps:List MemPlace}
  (h:DataW.Trod enc P W 0 (fun _=>true) true t v d ps) (hk:∀ c,c<W.heap.size->W'.heap[c]? = W.heap[c]?) (hlt:∀ x∈ps,x.block<W.heap.size) (hs:∀ p∈ps,sp p.block=true):DataW.Trod enc P W' 0 sp true t v d ps :=
 WideElems.Trod_stays hl hr hrow h (fun p hp=>by
  have hb:=hk p.block (hlt p hp)
  cases p with
  | cell b o=>exact World.cell?_of_block (w:=W) hb
  | map b=>exact hb) hs
theorem post_kept {f:Func} {s:ChangeSpec} {apart fresh handsOn again:Bool} {W W':World} {args:Array Value} {v:Value} {ds gs:List (DataW HT)} {before:List MemPlace}
  (hW:DataW.Whole enc P f.params.toList s.vars apart W args.toList ds gs before)
  (hres:∀ (b:Nat) (sp:Nat->Bool) (hd:Bool),DataW.TrodAll enc P W' b sp hd f.resultTypes.toList (v.resultList f.resultTypes.size) (s.fn HT (ds++gs)).results [])
  (hargs:∀ sp:Nat->Bool,(∀ p∈before,sp p.block=true)->DataW.TrodAll enc P W' 0 sp true f.params.toList args.toList (s.fn HT (ds++gs)).args before)
  (hvars:∀ sp:Nat->Bool,DataW.TrodVars enc P W' sp s.vars (s.fn HT (ds++gs)).vars [])
  (h1:W'.os=W.os) (h2:W'.output=W.output) (hk:∀ c,c<W.heap.size->W'.heap[c]? = W.heap[c]?)
  (hok:∀ (j:Nat) (t:TypeId) (r:Value),f.resultTypes[j]? = some t->(v.resultList f.resultTypes.size)[j]? = some r->Value.okWide P W' .any 0 t r) :
  s.post enc P f apart fresh handsOn again W args v W':=by
 have hold:∀ p∈before,(fun b=>decide (b<W.heap.size)) p.block=true:=fun p hp=>by simpa using hW.lt p hp
 have hlt:∀ p∈before,p.block<W.heap.size:=fun p hp=>hW.lt p hp
 refine ⟨ds,gs,before,[],before,[],hW,hres _ _ _,hargs _ hold,hvars _,Nh h1 h2 hk _,fun _=>?_⟩
 obtain ⟨_,_,_,_,e,hz,hn⟩:=hW
 refine ⟨hok,_,_,([]++before)++[],⟨[]++before,[],trodAll_append (hargs _ (fun _ _=>rfl)) (hres _ _ _),hvars _,rfl,?_,?_⟩,?_⟩
 ·intro b off hp
  have hp':MemPlace.cell b off∈before:=by simpa using hp
  have hb:=hlt _ hp'
  rw [World.frozen?_of_block (w:=W) (hk b hb)]
  exact hz b off hp'
 ·intro ha
  have:=hn ha
  simpa using this
 ·intro p hp _
  simpa using hp
end
end Go.Proofs.YtofhopjbbpihaaaGreat.Ev
namespace Go.Proofs.YtofhopjbbpihaaaGreat.Ins168
open Go Go.RowKit Go.Lib Go.Proofs
set_option linter.all false
variable {P:Program}
theorem tS:Tryz.prog.underlying 95=some (.slice 37):=by kernel_rfl
theorem iE:(Tryz.prog.info? 37).map (fun i=>(i.zero,i.size,i.bytes))=some (some (Value.slice none 0 0),1,24):=by kernel_rfl
theorem zE:∀ w,(Go.sizeOf 37).run Tryz.prog w=.ok 1 w:=fun w=>by
 obtain ⟨i0,hi,h0,h1,h2⟩:=info_parts iE
 simp [Go.sizeOf,typeInfo,hi,h1]
theorem tI:Tryz.prog.underlying 3=some (.int .i64):=by kernel_rfl
theorem Di:Tryz.prog.follows .mixedOrders=true:=by kernel_rfl
theorem CK (w:World) {o:Oper} {a:Act} {K:Act->World->Prop} {Q:Exit->Act->World->Prop} (d s:Operand) (t t':TypeId)
  (ho:o.op=.call { callee:=.builtin .copy,args:=#[d,s],argTypes:=#[t,t'] }) (v u:Value) (hd:a.eval d=v) (hs:a.eval s=u) {v':Value} {w':World}
  (hr:(Builtin.copy_ #[t,t'] o.type #[v,u]).run P w=.ok v' w') (h:K (a.put o.dst v') w'):o.wp P a w K Q:=by
 unfold Oper.wp execOp
 simp only [ho,resolve,invoke,builtin,Sem.run_bind,Sem.run_pure,Result.andThen_ok,List.map_toArray,TP,TV,hd,hs,hr]
 exact h
theorem kr (w:World) {ops:Array Oper} {rest:List Oper} {o:Oper} {a:Act} {Q:Exit->Act->World->Prop} (hgd:o.guard=none) (d s:Operand) (t t':TypeId)
  (ho:o.op=.call { callee:=.builtin .copy,args:=#[d,s],argTypes:=#[t,t'] }) (v u:Value) (hd:a.eval d=v) (hs:a.eval s=u) {v':Value} {w':World}
  (hr:(Builtin.copy_ #[t,t'] o.type #[v,u]).run P w=.ok v' w') (h:wpList P ops Q rest (a.put o.dst v') w'):wpList P ops Q (o :: rest) a w :=
 wpList_plain hgd fun _ hK=>CK w d s t t' ho v u hd hs hr (hK _ _ h)
theorem qv {ops:Array Oper} {o:Oper} {a:Act} {w:World} {K:Act->World->Prop} {Q:Exit->Act->World->Prop} {E:Prop}
  (hg:o.guard=none) (d x:Operand) (dT sT:TypeId) (hop:o.op=Op.call { callee:=Callee.builtin Builtin.copy,args:=#[d,x],argTypes:=#[dT,sT] })
  (v u:Value) (hd:a.eval d=v) (hx:a.eval x=u) {v':Value} {w':World} (hr:(Builtin.copy_ #[dT,sT] o.type #[v,u]).run P w=.ok v' w') (hK:K (a.put o.dst v') w') :
  if Region.wanted o (yielded ops a.tmps)=true then Oper.wp P o a w K Q else E:=by
 have hw:Region.wanted o (yielded ops a.tmps)=true:=by simp [Region.wanted,hg]
 rw [if_pos hw]
 unfold Oper.wp
 simp [execOp,hop,resolve,invoke,builtin,hd,hx,hr,Result.andThen]
 exact hK
theorem qe (b:Nat) (vs:List Value) (o:Nat) (w:World) (h:∀ j,j<vs.length->(w.cell? ⟨b,o+j,none⟩).isSome=true) (k:Nat) (hk:(w.cell? ⟨b,k,none⟩).isSome=true):((w.setCells b o vs).cell? ⟨b,k,none⟩).isSome=true:=by
 by_cases hin:o<=k/\k<o+vs.length
 ·have:=World.cell?_setCells_in b vs o w h (k-o) (by omega)
  rw [show o+(k-o)=k by omega] at this
  rw [this]; rfl
 ·rw [World.cell?_setCells_out b vs o w ⟨b,k,none⟩ (fun _ _=>by show k<o\/o+vs.length<=k; omega)]
  exact hk
set_option maxHeartbeats 4000000 in
set_option maxRecDepth 100000 in
theorem shift (b off n c i vb voff m vc:Nat) (cs vs:List Value) (w:World) (hi:i<n) (hm:0<m) (hroom:n+m<=c) (hc63:n+m<=9223372036854775807) (hvb:vb≠b)
  (hcl:cs.length=n) (hvl:vs.length=m)
  (hcs:∀ j v,cs[j]? = some v->w.cell? ⟨b,off+j,none⟩=some v) (hsp:∀ j,j<n+m->(w.cell? ⟨b,off+j,none⟩).isSome=true) (hfz:∀ j,j<n+m->w.frozen? ⟨b,off+j,none⟩=false)
  (hvs:∀ j v,vs[j]? = some v->w.cell? ⟨vb,voff+j,none⟩=some v) (h1c:∀ v∈cs,v.oneCell'=true) (h1v:∀ v∈vs,v.oneCell'=true)
  (tA tB:TypeId) (kA kB:Nat) (hsa:w.shape? vb=some (tA,kA)) (hsb:w.shape? b=some (tB,kB)) (hkB:kB≠0) (hfa:w.frozen? ⟨vb,voff,none⟩=false) (hfe:w.frozen? ⟨vb,kA,none⟩=false) :
  Calls Tryz.prog 168 #[.slice (some ⟨b,off,none⟩) n c,.int .i64 i,.slice (some ⟨vb,voff,none⟩) m vc] w fun e w' =>
   e=.returned (.slice (some ⟨b,off,none⟩) (n+m) c)/\w'=(w.drew.setCells b (off+(i+m)) (cs.drop i)).setCells b (off+i) vs:=by
 have hz1:¬ ((m:Int)=0):=by omega
 have hz2:¬ ((i:Int)=(n:Int)):=by omega
 have hsz:(Tryz.prog.info? 37).map (·.size)=some 1:=by
  obtain ⟨i0,hi0,h0,h1,h2⟩:=info_parts iE
  rw [hi0]; simp [h1]
 have hov:∀ lb cb,(callFunc 183 #[.slice (some ⟨vb,voff,none⟩) m vc,.slice (some ⟨b,off+(i+m),none⟩) lb cb]).run Tryz.prog w=.ok (.value (.bool false)) w:=fun lb cb=>by
  rw [run_callFunc_extern Tryz.func183 (by kernel_rfl) (by kernel_rfl) (by kernel_rfl) (e:=Extern.SlicesOverlaps.overlaps #[95,95] #[4]) (by kernel_rfl),
   Lib.run_overlaps_apart w 95 4 37 tS 1 zE ⟨vb,voff,none⟩ ⟨b,off+(i+m),none⟩ m vc lb cb hvb tA tB kA kB hsa hsb hkB hfa hfe]
  rfl
 have hdl:(cs.drop i).length=n-i:=by rw [U8,hcl]
 have hw1:IntKind.i64.wrap ((i:Int)+(m:Int))=(i:Int)+(m:Int):=by rw [IntKind.wrap_i64]; omega
 have hb1:(0:Int)<=(i:Int)+(m:Int):=by omega
 have hin:i<=n:=by omega
 have htn:((i:Int)+(m:Int)).toNat=i+m:=by omega
 have hb2:¬ (c=i+m):=by omega
 have hb3:(i:Int)<=(n:Int)+(m:Int):=by omega
 have hb4:¬ (c=i):=by omega
 have hcp1:∀ ty dc sc,(Builtin.copy_ #[95,95] ty #[.slice (some ⟨b,off+(i+m),none⟩) (n+m-(i+m)) dc,.slice (some ⟨b,off+i,none⟩) (n+m-i) sc]).run Tryz.prog w.drew=.ok (goInt (cs.drop i).length) (w.drew.setCells b (off+(i+m)) (cs.drop i)):=fun ty dc sc =>
  run_copy_cells w.drew _ _ ty 37 b (off+(i+m)) (n+m-(i+m)) dc ⟨b,off+i,none⟩ (n+m-i) sc (cs.drop i) tS hsz (by rw [hdl]; simp only [YE]; split <;> omega)
   (fun j v hj=>by rw [Addr.add_lit,US]; exact hcs (i+j) v (by rwa [Ui] at hj))
   (fun j hj=>by rw [US]; exact hsp _ (by omega)) (fun j hj=>by rw [US]; exact hfz _ (by omega)) (fun v hv=>h1c v (Ww hv))
 obtain ⟨W1,hW1⟩:∃ W1,W1=w.drew.setCells b (off+(i+m)) (cs.drop i):=⟨_,rfl⟩
 have hsp1:∀ k,k<n+m->(W1.cell? ⟨b,off+k,none⟩).isSome=true:=fun k hk=>by
  rw [hW1]
  exact qe b _ _ _ (fun j hj=>by rw [US]; exact hsp _ (by omega)) _ (hsp k hk)
 have hcp2:∀ (W:World),(∀ x,W.cell? x=W1.cell? x)->(∀ x,W.frozen? x=W1.frozen? x)->∀ ty dc,(Builtin.copy_ #[95,95] ty #[.slice (some ⟨b,off+i,none⟩) (n+m-i) dc,.slice (some ⟨vb,voff,none⟩) m vc]).run Tryz.prog W=.ok (goInt vs.length) (W.setCells b (off+i) vs):=fun W hWc hWf ty dc =>
  run_copy_cells W _ _ ty 37 b (off+i) (n+m-i) dc ⟨vb,voff,none⟩ m vc vs tS hsz (by rw [hvl]; simp only [YE]; split <;> omega)
   (fun j v hj=>by
    rw [Addr.add_lit,hWc,hW1,World.cell?_setCells_out b _ _ _ _ (fun h _=>absurd h hvb)]
    exact hvs j v hj)
   (fun j hj=>by rw [hWc,US]; exact hsp1 _ (by omega)) (fun j hj=>by rw [hWf,hW1,World.frozen?_setCells,US]; exact hfz _ (by omega)) h1v
 rw [<- hW1] at hcp1
 have mixed:=Di
 go_enter Tryz.func168,Tryz.ntmps168
 go_wp2_with (simp only [hov])
 go_region_law_o (refine qv rfl _ _ 95 95 rfl _ _ (by simp [Act.eval,Act.put]) (by simp [Act.eval,Act.put]) (hcp1 _ _ _) ?_)
 go_wp2_with (at_builtin; refine kr _ rfl _ _ 95 95 rfl _ _ rfl rfl (hcp2 _ (fun _=>rfl) (fun _=>rfl) _ _) ?_)
 go_ret
 first | exact ⟨rfl,rfl⟩ | exact ⟨rfl,by rw [hW1]⟩
set_option maxHeartbeats 4000000 in
set_option maxRecDepth 100000 in
theorem end_room (b off n c vb voff m vc:Nat) (vs:List Value) (w:World) (hm:0<m) (hroom:n+m<=c) (hc63:n+m<=9223372036854775807)
  (hvl:vs.length=m) (hsp:∀ j,j<m->(w.cell? ⟨b,off+n+j,none⟩).isSome=true) (hfz:∀ j,j<m->w.frozen? ⟨b,off+n+j,none⟩=false)
  (hvs:∀ j v,vs[j]? = some v->w.cell? ⟨vb,voff+j,none⟩=some v) (h1v:∀ v∈vs,v.oneCell'=true) :
  Calls Tryz.prog 168 #[.slice (some ⟨b,off,none⟩) n c,.int .i64 n,.slice (some ⟨vb,voff,none⟩) m vc] w fun e w' =>
   e=.returned (.slice (some ⟨b,off,none⟩) (n+m) c)/\w'=w.setCells b (off+n) vs:=by
 have hz1:¬ ((m:Int)=0):=by omega
 have hsrc:Src Tryz.prog 1 95 (.slice (some ⟨vb,voff,none⟩) m vc) m vs w:=Src.ofSlice w tS ⟨vb,voff,none⟩ m vc vs (by omega) (fun j u hj=>by rw [Addr.add_lit]; exact hvs j u hj) h1v
 have mixed:=Di
 go_enter Tryz.func168,Tryz.ntmps168
 go_wp2_with (at_builtin; refine wpList_append_room1 _ rfl _ _ 95 95 rfl 37 _ _ tS iE b off n c rfl _ rfl m vs hsrc hroom (by rw [hvl]; exact hsp) (by rw [hvl]; exact hfz) ?_)
 go_ret
 exact ⟨rfl,rfl⟩
set_option maxHeartbeats 4000000 in
set_option maxRecDepth 100000 in
theorem end_grow (base:Option Addr) (n c vb voff m vc:Nat) (cs vs:List Value) (w:World) (hm:0<m) (hnc:n<=c) (hroom:c<n+m) (hbig:(n+m)*24<=140737488355328)
  (hcl:cs.length=n) (hvl:vs.length=m) (hnil:base=none->n=0)
  (hcs:∀ a,base=some a->∀ j v,cs[j]? = some v->w.cell? (a.add j)=some v)
  (hvs:∀ j v,vs[j]? = some v->w.cell? ⟨vb,voff+j,none⟩=some v) (h1v:∀ v∈vs,v.oneCell'=true) :
  Calls Tryz.prog 168 #[.slice base n c,.int .i64 n,.slice (some ⟨vb,voff,none⟩) m vc] w fun e w' =>
   e=.returned (.slice (some ⟨w.heap.size,0,none⟩) (n+m) (grownCap w (n+m) c 37)) /\
   w'=w.drew.alloc (.cells ((cs++vs).toArray++Builtin.zeroCells (Value.slice none 0 0).cells (grownCap w (n+m) c 37-(n+m))) 37):=by
 obtain ⟨i0,hi0,hz0,hzs,hzb⟩:=info_parts iE
 have hz1:¬ ((m:Int)=0):=by omega
 have hsrc:Src Tryz.prog i0.size 95 (.slice (some ⟨vb,voff,none⟩) m vc) m vs w:=by
  rw [hzs]
  exact Src.ofSlice w tS ⟨vb,voff,none⟩ m vc vs (by omega) (fun j u hj=>by rw [Addr.add_lit]; exact hvs j u hj) h1v
 have hold:(Builtin.firstCells i0.size n (.slice base n c)).run Tryz.prog w.drew=.ok cs.toArray w.drew:=by
  rw [hzs]
  cases base with
  | none =>
   have h0:=hnil rfl
   subst h0
   rw [U3.1 hcl]
   exact run_firstCells_none w.drew 1 0 0 c
  | some a=>exact run_firstCells_some w.drew 1 n a n c cs (by omega) (fun j v hj=>hcs a rfl j v hj)
 have hrun:∀ ty,(Builtin.append_ #[95,95] ty #[.slice base n c,.slice (some ⟨vb,voff,none⟩) m vc]).run Tryz.prog w=_:=fun ty =>
  run_append_grow_src w 95 95 ty 37 i0 _ tS hi0 hz0 base n c cs hold _ m vs hsrc hroom (by omega) (by rw [hzb]; exact growslice_fits hroom hbig)
 have mixed:=Di
 go_enter Tryz.func168,Tryz.ntmps168
 cases base with
 | none =>
  have h0:=hnil rfl
  subst h0
  go_wp2_with (at_builtin; refine Lib.wpList_append_run _ rfl _ _ _ _ rfl _ _ rfl rfl _ _ (hrun _) ?_)
  go_ret
  exact ⟨rfl,rfl⟩
 | some a =>
  obtain ⟨ab,ao,asp⟩:=a
  go_wp2_with (at_builtin; refine Lib.wpList_append_run _ rfl _ _ _ _ rfl _ _ rfl rfl _ _ (hrun _) ?_)
  all_goals (go_ret; exact ⟨rfl,rfl⟩)
set_option maxHeartbeats 4000000 in
set_option maxRecDepth 100000 in
theorem grow (b off n c i vb voff m vc:Nat) (cs vs:List Value) (w:World) (hi:i<n) (hm:0<m) (hnc:n<=c) (hroom:c<n+m) (hbig:(n+m)*24<=140737488355328)
  (hcl:cs.length=n) (hvl:vs.length=m)
  (hcs:∀ j v,cs[j]? = some v->w.cell? ⟨b,off+j,none⟩=some v)
  (hvs:∀ j v,vs[j]? = some v->w.cell? ⟨vb,voff+j,none⟩=some v) (h1c:∀ v∈cs,v.oneCell'=true) (h1v:∀ v∈vs,v.oneCell'=true) :
  Calls Tryz.prog 168 #[.slice (some ⟨b,off,none⟩) n c,.int .i64 i,.slice (some ⟨vb,voff,none⟩) m vc] w fun e w' =>
   e=.returned (.slice (some ⟨w.heap.size,0,none⟩) (n+m) (grownCap w (n+m) c 37)) /\
   w'=(((w.alloc (.cells ((cs.take i).toArray++Builtin.zeroCells (Value.slice none 0 0).cells (n+m-i)++Builtin.zeroCells (Value.slice none 0 0).cells (grownCap w (n+m) c 37-(n+m))) 37)).drew.setCells w.heap.size i vs).drew).setCells w.heap.size (i+m) (cs.drop i):=by
 obtain ⟨i0,hi0,hz0,hzs,hzb⟩:=info_parts iE
 have hz1:¬ ((m:Int)=0):=by omega
 have hz2:¬ ((i:Int)=(n:Int)):=by omega
 have hz3:(c:Int)<(n:Int)+(m:Int):=by omega
 have hsz:(Tryz.prog.info? 37).map (·.size)=some 1:=by rw [hi0]; simp [hzs]
 have hbw:b<w.heap.size:=block_lt_of_cell (hcs 0 _ (TL (by omega)))
 have hvw:vb<w.heap.size:=block_lt_of_cell (hvs 0 _ (TL (by omega)))
 have hkk:(n:Int)+(m:Int)-(i:Int)=((n+m-i:Nat):Int):=by omega
 have hik:i+(n+m-i)=n+m:=by omega
 have hold:(Builtin.firstCells i0.size i (.slice (some ⟨b,off,none⟩) i c)).run Tryz.prog w.drew=.ok (cs.take i).toArray w.drew:=by
  rw [hzs]
  exact run_firstCells_some w.drew 1 i ⟨b,off,none⟩ i c (cs.take i) (by rw [Un]; omega) (fun j v hj=>by
   rw [Addr.add_lit]
   rw [Uh] at hj
   split at hj
   ·exact hcs j v hj
   ·cases hj)
 have hrz:∀ ty,(Builtin.append_ #[95,3] ty #[.slice (some ⟨b,off,none⟩) i c,.int .i64 ((n:Int)+(m:Int)-(i:Int))]).run Tryz.prog w =
   .ok (.slice (some ⟨w.heap.size,0,none⟩) (n+m) (grownCap w (n+m) c 37)) (w.drew.alloc (.cells ((cs.take i).toArray++Builtin.zeroCells (Value.slice none 0 0).cells (n+m-i)++Builtin.zeroCells (Value.slice none 0 0).cells (grownCap w (n+m) c 37-(n+m))) 37)):=fun ty=>by
  have h:=Lib.run_append_grow_zeros w 95 3 ty 37 i0 _ .i64 .i64 tS tI hi0 hz0 (some ⟨b,off,none⟩) i c (cs.take i) hold (n+m-i) (by omega) (by omega) (by omega) (by omega) (by rw [hzb]; omega) (by rw [hzb,hik]; exact growslice_fits hroom hbig)
  rw [hik] at h
  rw [hkk]
  exact h
 obtain ⟨G,hG⟩:∃ G,G=grownCap w (n+m) c 37:=⟨_,rfl⟩
 obtain ⟨ROW,hROW⟩:∃ ROW:Array Value,ROW=(cs.take i).toArray++Builtin.zeroCells (Value.slice none 0 0).cells (n+m-i)++Builtin.zeroCells (Value.slice none 0 0).cells (G-(n+m)):=⟨_,rfl⟩
 rw [<- hG] at hrz ⊢
 rw [<- hROW] at hrz ⊢
 have hRl:n+m<=ROW.size:=by
  rw [hROW]
  simp [Builtin.zeroCells,Value.cells]
  omega
 obtain ⟨W1,hW1⟩:∃ W1,W1=w.drew.alloc (.cells ROW 37):=⟨_,rfl⟩
 rw [<- hW1] at hrz
 have hN:∀ j,j<n+m->(W1.cell? ⟨w.heap.size,j,none⟩).isSome=true:=fun j hj=>by
  rw [hW1,World.cell?_alloc_at (w:=w.drew) ROW _ w.heap.size j rfl,U5 (by omega)]; rfl
 have hNf:∀ j,W1.frozen? ⟨w.heap.size,j,none⟩=false:=fun j=>by rw [hW1]; exact World.frozen?_alloc_at (w:=w.drew) ROW _ w.heap.size j rfl
 have hOb:∀ j v,w.cell? ⟨b,j,none⟩=some v->W1.cell? ⟨b,j,none⟩=some v:=fun j v h=>by rw [hW1,World.cell?_alloc_past (w:=w.drew) _ b j hbw]; exact h
 have hOv:∀ j v,w.cell? ⟨vb,j,none⟩=some v->W1.cell? ⟨vb,j,none⟩=some v:=fun j v h=>by rw [hW1,World.cell?_alloc_past (w:=w.drew) _ vb j hvw]; exact h
 have hcpA:∀ (W:World),(∀ x,W.cell? x=W1.cell? x)->(∀ x,W.frozen? x=W1.frozen? x)->∀ ty dc,(Builtin.copy_ #[95,95] ty #[.slice (some ⟨w.heap.size,i,none⟩) (n+m-i) dc,.slice (some ⟨vb,voff,none⟩) m vc]).run Tryz.prog W=.ok (goInt vs.length) (W.setCells w.heap.size i vs):=fun W hWc hWf ty dc =>
  run_copy_cells W _ _ ty 37 w.heap.size i (n+m-i) dc ⟨vb,voff,none⟩ m vc vs tS hsz (by rw [hvl]; simp only [YE]; split <;> omega)
   (fun j v hj=>by rw [Addr.add_lit,hWc]; exact hOv _ v (hvs j v hj))
   (fun j hj=>by rw [hWc]; exact hN _ (by omega)) (fun j hj=>by rw [hWf]; exact hNf _) h1v
 have hGn:n+m<=G:=by rw [hG]; exact grownCap_ge w _ _ _
 have hG63:G<=9223372036854775807:=by
  have:=grownCap_le_maxLen w (n+m) c 37 (by unfold maxLen; omega)
  rw [<- hG] at this
  unfold maxLen at this
  omega
 have hGi:¬ (G=i):=by omega
 have hGim:¬ (G=i+m):=by omega
 have hci:¬ (c=i):=by omega
 have hbN:b≠w.heap.size:=by omega
 have hdl:(cs.drop i).length=n-i:=by rw [U8,hcl]
 have hcpB:∀ (W:World),(∀ x,W.cell? x=(W1.setCells w.heap.size i vs).cell? x)->(∀ x,W.frozen? x=(W1.setCells w.heap.size i vs).frozen? x)->∀ ty dc sc,(Builtin.copy_ #[95,95] ty #[.slice (some ⟨w.heap.size,i+m,none⟩) (n+m-(i+m)) dc,.slice (some ⟨b,off+i,none⟩) (n-i) sc]).run Tryz.prog W=.ok (goInt (cs.drop i).length) (W.setCells w.heap.size (i+m) (cs.drop i)):=fun W hWc hWf ty dc sc =>
  run_copy_cells W _ _ ty 37 w.heap.size (i+m) (n+m-(i+m)) dc ⟨b,off+i,none⟩ (n-i) sc (cs.drop i) tS hsz (by rw [hdl]; simp only [YE]; split <;> omega)
   (fun j v hj=>by
    rw [Addr.add_lit,hWc,World.cell?_setCells_out _ _ _ _ _ (fun h _=>absurd h hbN),US]
    exact hOb _ v (hcs (i+j) v (by rwa [Ui] at hj)))
   (fun j hj=>by rw [hWc]; exact qe _ _ _ _ (fun t ht=>hN _ (by omega)) _ (hN _ (by omega)))
   (fun j hj=>by rw [hWf,World.frozen?_setCells]; exact hNf _) (fun v hv=>h1c v (Ww hv))
 subst hW1
 have hE1:∀ x,((w.alloc (.cells ROW 37)).drew).cell? x=(w.drew.alloc (.cells ROW 37)).cell? x:=fun x=>rfl
 have hE2:∀ x,((w.alloc (.cells ROW 37)).drew).frozen? x=(w.drew.alloc (.cells ROW 37)).frozen? x:=fun x=>rfl
 have hF1:∀ x,(((w.alloc (.cells ROW 37)).drew.setCells w.heap.size i vs).drew).cell? x=((w.drew.alloc (.cells ROW 37)).setCells w.heap.size i vs).cell? x:=fun x=>rfl
 have hF2:∀ x,(((w.alloc (.cells ROW 37)).drew.setCells w.heap.size i vs).drew).frozen? x=((w.drew.alloc (.cells ROW 37)).setCells w.heap.size i vs).frozen? x:=fun x=>rfl
 have hw1:IntKind.i64.wrap ((i:Int)+(m:Int))=(i:Int)+(m:Int):=by rw [IntKind.wrap_i64]; omega
 have hb1:(0:Int)<=(i:Int)+(m:Int):=by omega
 have hin:i<=n:=by omega
 have htn:((i:Int)+(m:Int)).toNat=i+m:=by omega
 have hb3:(i:Int)<=(n:Int):=by omega
 clear hkk hik hold hROW hG hRl
 have mixed:=Di
 go_enter Tryz.func168,Tryz.ntmps168
 go_wp2_with (first
  | (at_builtin; refine Lib.wpList_append_run _ rfl _ _ _ _ rfl _ _ rfl rfl _ _ (hrz _) ?_)
  | (at_builtin; refine kr _ rfl _ _ 95 95 rfl _ _ rfl rfl (hcpA _ hE1 hE2 _ _) ?_)
  | (at_builtin; refine kr _ rfl _ _ 95 95 rfl _ _ rfl rfl (hcpB _ (fun _=>rfl) (fun _=>rfl) _ _ _) ?_))
 go_region_law_o (refine qv rfl _ _ 95 95 rfl (.slice (some ⟨w.heap.size,i+m,none⟩) (n+m-(i+m)) (G-(i+m))) (.slice (some ⟨b,off+i,none⟩) (n-i) (c-i)) (by simp [Act.eval,Act.put]) (by simp [Act.eval,Act.put]) (hcpB _ hF1 hF2 3 (G-(i+m)) (c-i)) ?_)
 go_wp2
 go_ret
 exact ⟨rfl,rfl⟩
end Go.Proofs.YtofhopjbbpihaaaGreat.Ins168
