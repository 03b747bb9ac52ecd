/- A part. -/
import Derived.Test.YthjdfjlhjnihfaaGreatA0
import Derived.Test.YthjdfjlhjnihfaaGreatArgs
import Derived.Test.YthjdfjlhjnihfaaGreatN8
import Derived.Test.YthjdfjlhjnihfaaGreatSize2
import Derived.Test.YthjdfjlhjnihfaaGreatN23
set_option linter.all false
namespace Go.Proofs.YthjdfjlhjnihfaaGreat.Ev
open Go Nn
section
variable {tab:Nat->Option aw} {H:Heap} {s:AV}
structure PolyOK (n e f:Nat) (K:List (List Int × Bool)) (G:List (Nat × List Int)):Prop where
 own:Lin.Own n K G
 dim:n<=4
 few:K.length<=60\/K.length<=1022/\G.length<=60
 many:G.length<1024
 bK:∀ c∈K,Lin.Bd (2^f) c.1
 bG:∀ x∈G,Lin.Bd (2^e) x.2
 e3:e<=300000
 f3:f<=300000
section
variable {n e f:Nat} {K:List (List Int × Bool)} {G:List (Nat × List Int)}
def PolyOK.rowK (h:PolyOK n e f K G):∀ c∈K,c.1.length=n+1/\Lin.Bd (2^f) c.1:=fun c hc=>⟨h.own.rows c hc,h.bK c hc⟩
def PolyOK.rowG (h:PolyOK n e f K G):∀ x∈G,x.2.length=n+1/\Lin.Bd (2^e) x.2:=fun x hx=>⟨(h.own.valid x hx).1,h.bG x hx⟩
def PolyOK.kinds (h:PolyOK n e f K G):∀ x∈G,x.1=1\/x.1=2\/x.1=3:=fun x hx=>Jz (n:=n) (l:=K) x (by rw [h.own.gens]; exact hx)
def PolyOK.smK (h:PolyOK n e f K G):∀ r∈K,r.1.length<1099511627776/\∀ z∈r.1,St z:=fun r hr=>⟨by rw [(h.rowK r hr).1]; have:=h.dim; omega,fun z hz=>(jk (h.rowK r hr).2 z hz).sm (by have:=h.f3; omega)⟩
def PolyOK.smG (h:PolyOK n e f K G):∀ r∈G,r.2.length<1099511627776/\∀ z∈r.2,St z:=fun r hr=>⟨by rw [(h.rowG r hr).1]; have:=h.dim; omega,fun z hz=>(jk (h.rowG r hr).2 z hz).sm (by have:=h.e3; omega)⟩
def PolyOK.lenK (h:PolyOK n e f K G):K.length<=1022:=by rcases h.few with h | h <;> omega
end
set_option maxHeartbeats 4000000 in
def rU (C:Code tab) (hw:Wf H) {v:AV} {n e f:Nat} {K:List (List Int × Bool)} {G:List (Nat × List Int)} (hp:PolyV H v n K G) (ho:PolyOK n e f K G) :
  Ans tab (.fn oi [v]) H fun x H'=>x=.int .i64 0/\Kp H H':=by
 obtain ⟨vc,vg,rfl,hc,hg⟩:=hp;have oc:=hc.one;have og:=hg.one;have lK:=ho.lenK;have lG:=ho.many;have eG:Lin.gensP n K=G:=ho.own.gens;have eK:Lin.consP n G=K:=ho.own.cons;have e3:=ho.e3;have f3:=ho.f3;have smK:=ho.smK;have smG:=ho.smG;refine cQ C.q23 zU fun T hl g0=>?_;by_cases q1:(K.length:Int)<=60
 ·refine zW (cr hl g0 (kg oc og) hc.lenV q1) ?_;refine AnsH.use (SH C (n:=n) (m:=f) (m2:=e) zF (hc.mono (zG H)) ho.dim zO ho.rowK f3 (by rw [eG]; exact ho.bG) e3) ?_;rintro v H2 ⟨hm,hk2⟩;obtain ⟨k2,_,w2⟩:=zT H zK hk2;have n2:H.next+17<=H2.next:=hk2.le
  have d0:H2.get H.next=some (.cells [.int .i64 (n:Int),vc,vg] ah true):=hk2.get (cR)
  have f2:H2.get (H.next+14)=none:=hk2.free (show H.next+14<H.next+17 by omega) (by rw [az zO]; exact hw.fresh (b:=H.next+14) zO);rw [eG] at hm;unfold mB at hm;rw [eK] at hm;rcases hm with ⟨-,hm⟩ | ⟨p,rfl,⟨vc2,vg2,rfl,hc2,hg2⟩,-,-⟩
  ·omega
  have oc2:=hc2.one;have og2:=hg2.one;obtain ⟨H3,hH3⟩:∃ H3,H3=((H2.up 7).put (H.next+14) (.cells [.int .i64 0,.nilSl,.nilSl] ah true)).put (H.next+14) (.cells [.int .i64 (n:Int),vc2,vg2] ah true):=⟨_,rfl⟩
  have s23:Sub H2 H3:=by rw [hH3]; exact ((Sub.bump H2 7).put f2 _).put f2 _
  have k3:Kp H H3:=by rw [hH3]; exact zK
  have le_k3:=k3.le;have w3:=k3.wf;refine zW (aV hl g0 @mF d0) ?_;rw [<- hH3];refine AnsH.eq (A7 C zF ⟨vc,vg,rfl,(hc.mono k2.sub).mono s23,(hg.mono k2.sub).mono s23⟩ ⟨vc2,vg2,rfl,hc2.mono s23,hg2.mono s23⟩ zO smK zO smG) fun H4 hk4=>?_;have k4:Kp H H4:=k3.trans hk4;have le_k4:=k4.le;rw [decide_eq_true ⟨rfl,rfl,rfl⟩];refine zW (aB hl g0) ?_;exact zK
 ·have q2:(G.length:Int)<=60:=by rcases ho.few with h | h <;> omega
  refine zW (gf hl g0 (kg oc og) hc.lenV q1 hg.lenV q2) ?_;refine AnsH.use (tJ C (n:=n) (m:=e) (m2:=f) (m3:=e) zF (hg.mono (zG H)) ho.dim zO ho.own.valid ho.kinds ho.bG e3 (by rw [eK]; exact ho.bK) f3 (by rw [eK,eG]; exact ho.bG) e3 (by rw [eK]; exact .inl lK)) ?_;rintro v H2 ⟨hm,hk2⟩;obtain ⟨k2,_,w2⟩:=zT H zK hk2;have n2:H.next+21<=H2.next:=hk2.le
  have d0:H2.get H.next=some (.cells [.int .i64 (n:Int),vc,vg] ah true):=hk2.get (cR)
  have f2:H2.get (H.next+18)=none:=hk2.free (show H.next+18<H.next+21 by omega) (by rw [az zO]; exact hw.fresh (b:=H.next+18) zO);unfold Ie mB at hm;rw [eK,eG,eK] at hm;rcases hm with ⟨-,hm⟩ | ⟨-,hm⟩ | ⟨p,rfl,⟨vc2,vg2,rfl,hc2,hg2⟩,-,-⟩
  ·omega
  ·omega
  have oc2:=hc2.one;have og2:=hg2.one;obtain ⟨H3,hH3⟩:∃ H3,H3=((H2.up 7).put (H.next+18) (.cells [.int .i64 0,.nilSl,.nilSl] ah true)).put (H.next+18) (.cells [.int .i64 (n:Int),vc2,vg2] ah true):=⟨_,rfl⟩
  have s23:Sub H2 H3:=by rw [hH3]; exact ((Sub.bump H2 7).put f2 _).put f2 _
  have k3:Kp H H3:=by rw [hH3]; exact zK
  have le_k3:=k3.le;have w3:=k3.wf;refine zW (aV hl g0 @mF d0) ?_;rw [<- hH3];refine AnsH.eq (A7 C zF ⟨vc,vg,rfl,(hc.mono k2.sub).mono s23,(hg.mono k2.sub).mono s23⟩ ⟨vc2,vg2,rfl,hc2.mono s23,hg2.mono s23⟩ zO smK zO smG) fun H4 hk4=>?_;have k4:Kp H H4:=k3.trans hk4;have le_k4:=k4.le;rw [decide_eq_true ⟨rfl,rfl,rfl⟩];refine zW (aB hl g0) ?_;exact zK
end
abbrev RB:=Nat × List (List Int × Bool) × List (Nat × List Int)
def OY:fh RB where
 sz:=3
 tys:=(t_api_Con :: conE.tys)++(ak :: genE.tys)
 R H cs x:=∃ vc vg,cs=[.int .i64 (x.1:Int),vc,vg]/\SlV conE t_api_Con H vc x.2.1/\SlV genE ak H vg x.2.2
 pos:=zO
 len:=by rintro H cs x ⟨v,w,rfl,h,h'⟩; exact ⟨rfl,by simp [h.one.2,h'.one.2]; rfl⟩
 mono:=by
  rintro H H' cs x hs ⟨v,w,rfl,h,h'⟩;exact ⟨v,w,rfl,h.monoT fun b cs t r ht=>hs b cs t r (VU _ ht),h'.monoT fun b cs t r ht=>hs b cs t r (Wl _ ht)⟩
section
variable {tab:Nat->Option aw} {H:Heap} {s:AV}
def GC {a2 a3 b2 b3:AV} (h2:One a2) (h3:One a3) (h5:One b2) (h6:One b3) (x1 x2 x3 y1 y2 y3:AV) (k k':IntKind) (n n':Int):cX [x1,x2,x3,y1,y2,y3] [((0,3),.agg [.int k n,a2,a3]),((3,3),.agg [.int k' n',b2,b3])]=some [.int k n,a2,a3,.int k' n',b2,b3]:=by
 simp [cX,AV.cells,(bf k n).2,(bf k' n').2,h2.2,h3.2,h5.2,h6.2]
set_option maxHeartbeats 4000000 in
def nR (C:Code tab) (hw:Wf H) {n:Nat} {l:List RB} (hs:SlV OY ah H s l) (hl':l.length<1000) (h:∀ x∈l,x.1=n/\∃ e f,PolyOK n e f x.2.1 x.2.2) :
  Ans tab (.fn lz [s]) H fun x H'=>x=.int .i64 0/\Kp H H':=by
 refine cQ C.q42 zU fun T hl g0=>?_;refine zW (aC hl g0 hs.lenV) ?_;refine am H [] (fun _ _ _=>True) (a:=0) (N:=l.length) rfl (by refine zW (aB hl g0) ?_; rfl) (zV (aB hl g0)) (II _) zO (by simp only [dj,hl]; rfl) rfl (fun _ _ _ _ h=>h) zK trivial ?_ ?_
 ·intro j T1 H1 _ hj hl1 hi1 hs1 hk1 _;have w1:=hk1.wf;have le_hk1:=hk1.le;have t8:ad T1 8=s:=(hs1.at_ 8 zU).trans (zV (aB hl g0));obtain ⟨_,⟨vc,vg,rfl,hc,hg⟩,-,-,L⟩:=(hs.mono hk1.sub).at (pD hj);have L:aW H1 (some 3) (ap s (j*3))=some (.agg [.int .i64 (l[j].1:Int),vc,vg]):=L;have hix:co 3 s (.int .i64 (j:Int))=some (ap s (j*3)):=SlV.idx hs .i64 j hj;have oc:=hc.one;have og:=hg.one;have Lp:=(Ldd.of w1 L).put;have Ll:=(Ldd.of w1 L).ld;obtain ⟨hn,e,f,ok⟩:=h _ (rZ hj);simp only [dj,hl] at hl1;refine zW (gf hl1 t8 hi1 hix Lp Ll @mF) ?_;rw [hn];refine AnsH.eq (rU C zF ⟨vc,vg,rfl,hc.mono (zG H1),hg.mono (zG H1)⟩ ok) fun H2 hk2=>?_;obtain ⟨k2,_,_⟩:=zT H zK hk2;refine zW hl1 ?_;exact zK
 ·intro T1 H1 hl1 hs1 hk1 _;have w1:=hk1.wf;have le_hk1:=hk1.le;have t0:ad T1 0=s:=(hs1.at_ 0 zU).trans (zV (aB hl g0));have hsb:=hs.mono hk1.sub;simp only [dj,hl] at hl1;refine zW (aC hl1 t0 hsb.lenV) ?_;refine am H [] (fun _ _ _=>True) (a:=0) (N:=l.length) rfl (by refine zW hl1 ?_; rfl) (zV hl1) (II _) zO (by simp only [dj,hl1]; rfl) rfl (fun _ _ _ _ h=>h) zK trivial ?_ ?_
  ·intro j T2 H2 _ hj hl2 hi2 hs2 hk2 _;have w2:=hk2.wf;have le_hk2:=hk2.le;have t20:ad T2 20=s:=(hs2.at_ 20 zU).trans (zV (aB hl1 t0));have t0':ad T2 0=s:=(hs2.at_ 0 zU).trans (zV (aB hl1 t0));have hs3:=hs.mono hk2.sub;have h0:0<l.length:=zO;obtain ⟨_,⟨vc,vg,rfl,hc,hg⟩,-,-,L⟩:=hs3.at (pD hj);have L:aW H2 (some 3) (ap s (j*3))=some (.agg [.int .i64 (l[j].1:Int),vc,vg]):=L;obtain ⟨_,⟨vc',vg',rfl,hc',hg'⟩,-,L1,-⟩:=hs3.at (pD h0);have L1:aW H2 none (ap s 0)=some (.int .i64 (l[0].1:Int)):=L1 0 _ rfl;have hix:co 3 s (.int .i64 (j:Int))=some (ap s (j*3)):=SlV.idx hs .i64 j hj;have hi0:co 3 s (.int .i64 0)=some (ap s 0):=SlV.idx hs .i64 0 h0;have fa0:xv 0 (ap s 0)=some (ap s 0):=hs.fa h0 0 0;have oc:=hc.one;have og:=hg.one;have Lp:=(Ldd.of w2 L).put;have Ll:=(Ldd.of w2 L).ld;have Lp1:=(Ldd.of w2 L1).put;have Ll1:=(Ldd.of w2 L1).ld;have hn:=(h _ (rZ hj)).1;have hn0:=(h _ (rZ h0)).1;have hnn:((l[j].1:Nat):Int)=(l[0].1:Int):=by rw [hn,hn0]
   simp only [dj,hl1] at hl2;refine zW (gf hl2 t20 hi2 hix Lp Ll @mF) ?_;refine aH ?_;refine zD (gf hl2 t0' hi0 fa0 Lp1 Ll1 hnn) ?_;exact zK
  ·intro T2 H2 hl2 hs2 hk2 _;simp only [dj,hl1] at hl2;refine zW hl2 ?_;exact zK
def uW {H:Heap} {b:Nat} {vc vg vc' vg':AV} {x y:RB} {r:Bool} (h:H.get b=some (.cells [.int .i64 (x.1:Int),vc,vg,.int .i64 (y.1:Int),vc',vg'] ah r)) (h1:SlV conE t_api_Con H vc x.2.1) (h2:SlV genE ak H vg x.2.2) (h3:SlV conE t_api_Con H vc' y.2.1) (h4:SlV genE ak H vg' y.2.2):SlV OY ah H (.own b 0 2 2 3 true) [x,y] :=
 ⟨_,Rd.own h rfl (wT _),fun _ _ _ _ _ _ e=>by cases e; exact ⟨_,_,h⟩,rfl,fun i a hi=>by
  match i with
  | 0=>simp at hi; subst hi; exact ⟨vc,vg,rfl,h1,h2⟩
  | 1=>simp at hi; subst hi; exact ⟨vc',vg',rfl,h3,h4⟩
  | i+2=>simp at hi⟩
def Fs {n e f e' f':Nat} {K K':List (List Int × Bool)} {G G':List (Nat × List Int)} (ho:PolyOK n e f K G) (ho':PolyOK n e' f' K' G'):∀ x∈[((n,K,G):RB),(n,K',G')],x.1=n/\∃ e f,PolyOK n e f x.2.1 x.2.2:=fun x hx=>by
 rcases Vt.1 hx with rfl | hx
 ·exact ⟨rfl,_,_,ho⟩
 ·rcases Vt.1 hx with rfl | hx
  ·exact ⟨rfl,_,_,ho'⟩
  ·cases hx
def EX {H:Heap} {id sz bytes ty:Nat} {z:List AV} {m:Nat} (hz:z.length=sz) (h0:0<m) (hb:m*bytes<=70368744177664) (hm:m<4611686018427387904) :
  Bx H id sz bytes ty z .nilSl (.int .i64 (m:Int))=some (.own id 0 m m sz false,H.put id (.cells ((List.replicate m z).flatten) ty true)):=by
 unfold Bx;rw [e9];simp only;rw [if_pos ⟨hz,hb,hm⟩];simp only [cI];rw [if_neg zO,if_pos ⟨hb,hm⟩]
def GB:AV->Option AV
 | .own _ _ _ c _ true=>some (.int .i64 c)
 | .nilSl=>some (.int .i64 0)
 | _=>none
def I3 {ev:Src->AV} (x:Src):aM ev (.cap x)=GB (ev x):=by
 simp only [aM]
 generalize ev x=a
 cases a <;> rfl
def BE {ev:Src->AV} {H:Heap} {id:Nat} {Q:AV->Heap->Prop} (x:Src):kW tab ev H id (.cap x) Q=SC (GB (ev x)) (fun v=>Q v H) ():=by
 rw [bY,dU tab ev H id Q (o:=.cap x) (v:=GB (ev x)) (fun f a e=>by cases e) (I3 x) rfl];rfl
def yd {b m sz:Nat} {ex:Bool}:bD sz (.own b 0 m m sz ex) none (some (.int .i64 0)) none=some (.own b 0 0 m sz ex):=by
 simp [bD,bE,nL]
def M2 (C:Code tab) (hw:Wf H) {m:Nat} (h0:0<m) (hm:m<=4000) :
  Ans tab (.fn bR [.nilSl,.int .i64 (m:Int)]) H fun v H'=>∃ b,v=.own b 0 0 m 2 false/\H'.get b=some (.cells ((List.replicate m [.nilSl,.bool false]).flatten) t_api_Con true)/\H.next<=b/\Kp H H':=by
 refine bz C.q72 zU fun T hl g0 g1=>?_;have e0:¬ (m:Int)<0:=zO;have e1:IntKind.i64.wrap ((m:Int)-0)=(m:Int):=by rw [wrap_i64] <;> omega
 have e2:(0:Int)<(m:Int):=zO;have cn:GB .nilSl=some (.int .i64 0):=rfl;have z0:IntKind.i64.wrap 0=0:=by rw [wrap_i64] <;> omega
 have sn:bD 2 .nilSl none (some (.int .i64 0)) none=some .nilSl:=rfl;have ln:lenV .nilSl=some (.int .i64 0):=rfl;have ea:=EX (H:=H.up 23) (id:=H.next+18) (sz:=2) (bytes:=32) (ty:=t_api_Con) (z:=[.nilSl,.bool false]) (m:=m) rfl h0 zO zO;have so:bD 2 (.own (H.next+18) 0 m m 2 false) none (some (.int .i64 0)) none=some (.own (H.next+18) 0 0 m 2 false):=yd;simp -dsimp (maxSteps:=1000000) (disch:=(first | omega | assumption | exact aQ _ | exact bf _ _ | exact bp | exact cz _ _ _ | exact bF _ _ | exact bo _ _ _ _ _ _ | exact cJ _ _ | exact bH _)) only [↓sL,sK,Nat.reduceLT,Nat.reduceEqDiff,Nat.reduceAdd,reduceIte,reduceCtorEq,Nat.reduceBEq,Int.reduceEq,Int.reduceLT,Int.reduceLE,Int.reduceAdd,Int.reduceSub,hl,g0,g1,e0,e1,e2,↓BE,ln,cn,z0,sn,↓BF,ea,so];exact ⟨_,rfl,au _ _ _,zO,zK⟩
def Kj (C:Code tab) (hw:Wf H) :
  Ans tab (.fn bR [.nilSl,.int .i64 0]) H fun v H'=>v=.nilSl/\Kp H H':=by
 refine bz C.q72 zU fun T hl g0 g1=>?_;have ln:lenV .nilSl=some (.int .i64 0):=rfl;have cn:GB .nilSl=some (.int .i64 0):=rfl;have z0:IntKind.i64.wrap 0=0:=by rw [wrap_i64] <;> omega
 simp -dsimp (maxSteps:=1000000) (disch:=(first | omega | assumption | exact aQ _ | exact bf _ _ | exact bp | exact cz _ _ _ | exact bF _ _ | exact bo _ _ _ _ _ _ | exact cJ _ _ | exact bH _)) only [↓sL,sK,Nat.reduceLT,Nat.reduceEqDiff,Nat.reduceAdd,reduceIte,reduceCtorEq,Nat.reduceBEq,Int.reduceEq,Int.reduceLT,Int.reduceLE,Int.reduceAdd,Int.reduceSub,hl,g0,g1,↓BE,ln,cn,z0];exact zK
def qW {α:Type} {E:fh α} {ty ty2 bytes id g k m N:Nat} {H:Heap} {w:AV} {cells:List AV} {l1 l2:List α} (hg:H.get g=some (.cells cells ty true)) (hty:ty ∉ E.tys) (hp:Cells E H (cells.take (k*E.sz)) l1) (hy:SlV E ty2 H w l2) (hm:l2.length=m) (hcl:cells.length=N*E.sz) (hN:k+m<=N) (hb:N*bytes<=70368744177664) (hbig:N<4611686018427387904) :
  ∃ cells' H',cN H id E.sz bytes ty (.own g 0 k N E.sz false) w=some (.own g 0 (k+m) N E.sz false,H')/\H'.get g=some (.cells cells' ty true)/\cells'.length=N*E.sz/\Cells E H' (cells'.take ((k+m)*E.sz)) (l1++l2)/\(H'=H\/∃ e,H'=H.put g e):=by
 obtain ⟨news,hr,-,hc⟩:=hy;obtain ⟨m',hm',hlen⟩:=hr.length;obtain ⟨-,-,m2,hm2,hf⟩:=hr;rw [hm'] at hm2; cases hm2;have hmm:m'=m:=WI E.pos (by rw [<- hlen,hc.1,hm]);subst hmm;have hb2:(k+m')*bytes<=70368744177664:=Oc (Ji _ hN) hb;have ones:=hc.ones;have hle:(k+m')*E.sz<=N*E.sz:=Ji _ hN;rw [VW] at hle;have e:cN H id E.sz bytes ty (.own g 0 k N E.sz false) w=if m'=0 then some (.own g 0 k N E.sz false,H) else some (.own g 0 (k+m') N E.sz false,H.put g (.cells (cells.take (0+k*E.sz)++news++cells.drop (0+k*E.sz+m'*E.sz)) ty true)):=by
  unfold cN;rw [hm'];simp only;rw [hf];simp only [cI,hg];rw [if_pos ⟨trivial,hb2,zO,trivial,zO⟩,if_pos hN];by_cases h0:m'=0
  ·rw [if_pos h0,if_pos h0]
  ·rw [if_neg h0,if_neg h0,if_pos ⟨trivial,ones⟩]
 by_cases h0:m'=0
 ·subst h0;have hn:l2=[]:=Vp hm;subst hn;refine ⟨cells,H,by rw [e,if_pos rfl]; rfl,hg,hcl,?_,.inl rfl⟩;rw [Wp]; exact hp
 ·have hst:SubT E.tys H (H.put g (.cells (cells.take (0+k*E.sz)++news++cells.drop (0+k*E.sz+m'*E.sz)) ty true)):=fun b cs t r ht hget=>by
   by_cases hbg:b=g
   ·subst hbg;rw [hg] at hget; cases hget;exact absurd ht hty
   ·rw [az hbg]; exact hget
  refine ⟨_,_,by rw [e,if_neg h0],au _ _ _,?_,?_,.inr ⟨_,rfl⟩⟩
  ·simp only [Vg,Vu,Wc,hcl,hlen];omega
  ·have ht:((cells.take (0+k*E.sz)++news++cells.drop (0+k*E.sz+m'*E.sz)).take ((k+m')*E.sz))=cells.take (k*E.sz)++news:=by
    rw [VB,XC (by rw [Vg,Vu,hlen,VW]; omega)]
   rw [ht];exact (hp.mono hst).append (hc.mono hst)
def GM (C:Code tab) (hw:Wf H) {b:Nat} {va vb:AV} {l m:List (List Int × Bool)} {x:Bool} {ty:Nat} (hb:H.get b=some (.cells [va,vb] ty x)) (ha:SlV conE t_api_Con H va l) (hb':SlV conE t_api_Con H vb m) (hl':l.length<=2000) (hm':m.length<=2000) :
  Ans tab (.fn cF [.own b 0 2 2 1 true]) H fun v H'=>SlV conE t_api_Con H' v (l++m)/\Kp H H':=by
 refine cQ C.q45 zU fun T hl g0=>?_;have l2:lenV (.own b 0 2 2 1 true)=some (.int .i64 ((2:Nat):Int)):=rfl;have hbl:=hw _ _ hb;refine zW (aC hl g0 l2) ?_;refine am H [3] (fun j vs _=>vs=[.int .i64 (((if j=0 then 0 else if j=1 then l.length else l.length+m.length:Nat)):Int)]) (a:=0) (N:=2) rfl (by refine zW (aB hl g0) ?_ <;> rfl) (zV (aB hl g0)) (II _) zO (by simp only [dj,hl]; rfl) rfl (fun _ _ _ _ h=>h) zK (by refine zW (aB hl g0) ?_ <;> rfl) ?_ ?_
 ·intro j T1 H1 _ hj hl1 hi1 hs1 hk1 hv;simp only [wW,AO,zB,and_true] at hv;have w1:=hk1.wf;have le_hk1:=hk1.le;have t9:ad T1 9=.own b 0 2 2 1 true:=(hs1.at_ 9 zU).trans (zV (aB hl g0));have hb1:=hk1.get hb;simp only [dj,hl] at hl1;by_cases h0:j=0
  ·subst h0;have hix:co 1 (.own b 0 2 2 1 true) (.int .i64 ((0:Nat):Int))=some (.ptr b 0):=rfl;have e1:IntKind.i64.wrap (0+(l.length:Int))=(l.length:Int):=by rw [wrap_i64] <;> omega
   have e2:¬ (l.length:Int)<0:=zO;have hv:ad T1 3=.int .i64 0:=hv;refine zW (kj hl1 t9 hi1 hix hb1 ha.lenV hv e1 e2) ?_;exact zK
  ·have h1:j=1:=zO;subst h1;have hix:co 1 (.own b 0 2 2 1 true) (.int .i64 ((1:Nat):Int))=some (.ptr b 1):=rfl;have e1:IntKind.i64.wrap ((l.length:Int)+(m.length:Int))=(l.length:Int)+(m.length:Int):=by rw [wrap_i64] <;> omega
   have e2:¬ (l.length:Int)+(m.length:Int)<0:=zO;have hv:ad T1 3=.int .i64 (l.length:Int):=hv;refine zW (kj hl1 t9 hi1 hix hb1 hb'.lenV hv e1 e2) ?_;exact ⟨zK,by simp⟩
 ·intro T1 H1 hl1 hs1 hk1 hv;simp only [wW,AO,zB,and_true] at hv;have w1:=hk1.wf;have le_hk1:=hk1.le;have t0:ad T1 0=.own b 0 2 2 1 true:=(hs1.at_ 0 zU).trans (zV (aB hl g0));have hv:ad T1 3=.int .i64 (((l.length+m.length:Nat)):Int):=hv;simp only [dj,hl] at hl1;have hb1:=hk1.get hb;by_cases h0:l.length+m.length=0
  ·have hv:ad T1 3=.int .i64 0:=by rw [hv,h0]; rfl
   have el:l=[]:=Vp zO;have em:m=[]:=Vp zO;refine zW (aB hl1 hv) ?_;refine AnsH.use (Kj C zF) ?_;rintro _ H2 ⟨rfl,hk2⟩;obtain ⟨k2,_,w2⟩:=zT H zK hk2;have hb2:=k2.get hb;refine zW (aC hl1 t0 l2) ?_;refine am H [6] (fun j vs _=>vs=[.nilSl]) (a:=0) (N:=2) rfl (by refine zW hl1 ?_ <;> rfl) (zV hl1) (II _) zO (by simp only [dj,hl1]; rfl) rfl (fun _ _ _ _ h=>h) zK (zV hl1) ?_ ?_
   ·intro j T2 H3 _ hj hl2 hi2 hs2 hk3 hv2;simp only [wW,AO,zB,and_true] at hv2;have w3:=hk3.wf;have le_hk3:=hk3.le;have t25:ad T2 25=.own b 0 2 2 1 true:=(hs2.at_ 25 zU).trans (zV (aB hl1 t0));have hb3:=hk3.get hb;simp only [dj,hl1] at hl2;have na:∀ {K:List (List Int × Bool)} {v:AV} (H':Heap) (id:Nat),K=[]->SlV conE t_api_Con H' v K->cN H' id 2 32 t_api_Con .nilSl v=some (.nilSl,H'):=fun H' id e hs=>by
     subst e;obtain ⟨news,hr,-,hc⟩:=hs;obtain ⟨m',hm',hlen⟩:=hr.length;obtain ⟨-,-,m2,hm2,hf⟩:=hr;rw [hm'] at hm2; cases hm2;have hmm:m'=0:=by
      have:=hc.1
      rw [hlen] at this;have e2:conE.sz=2:=rfl;rw [e2] at this;simp at this;omega
     subst hmm;unfold cN;rw [hm'];simp only;have e2:conE.sz=2:=rfl;rw [e2] at hf;rw [hf];rfl
    by_cases h0:j=0
    ·subst h0;have hix:co 1 (.own b 0 2 2 1 true) (.int .i64 ((0:Nat):Int))=some (.ptr b 0):=rfl;have ea:=na (H3.up 7) (H3.next+5) el ((ha.mono hk3.sub).mono (Sub.bump H3 7));refine zW (gf hl2 t25 hi2 hix hb3 hv2 ea) ?_;exact zK
    ·have h1:j=1:=zO;subst h1;have hix:co 1 (.own b 0 2 2 1 true) (.int .i64 ((1:Nat):Int))=some (.ptr b 1):=rfl;have ea:=na (H3.up 7) (H3.next+5) em ((hb'.mono hk3.sub).mono (Sub.bump H3 7));refine zW (gf hl2 t25 hi2 hix hb3 hv2 ea) ?_;exact zK
   ·intro T2 H3 hl2 hs2 hk3 hv2;simp only [wW,AO,zB,and_true] at hv2;simp only [dj,hl1] at hl2;refine zW (aB hl2 hv2) ?_;exact ⟨by rw [el,em]; exact SlV.nil _ _ _,zK⟩
  ·obtain ⟨N,hN⟩:∃ N,N=l.length+m.length:=⟨_,rfl⟩
   rw [<- hN] at hv h0;refine zW (aB hl1 hv) ?_;refine AnsH.use (M2 C (m:=N) zF zO zO) ?_;rintro _ H2 ⟨g,rfl,hg,hgn,hk2⟩;obtain ⟨k2,_,w2⟩:=zT H zK hk2;have hgn:H.next<=g:=by
    have:=hk1.le
    have:H1.next+3<=g:=hgn
    omega
   have hb2:=k2.get hb;have l0:=w2 _ _ hg;obtain ⟨z,hz⟩:∃ z,z=(List.replicate N [AV.nilSl,.bool false]).flatten:=⟨_,rfl⟩
   have zl:z.length=N*2:=by rw [hz]; simp
   rw [<- hz] at hg;clear hz;refine zW (aC hl1 t0 l2) ?_;refine am H [6] (fun j vs H'=>∃ k cells,k=(if j=0 then 0 else if j=1 then l.length else N)/\vs=[.own g 0 k N 2 false]/\H'.get g=some (.cells cells t_api_Con true)/\cells.length=N*2/\Cells conE H' (cells.take (k*2)) ((l++m).take k)) (a:=0) (N:=2) rfl (by refine zW hl1 ?_ <;> rfl) (zV hl1) (II _) zO (by simp only [dj,hl1]; rfl) rfl (fun _ _ _ _ h=>h) zK ⟨0,z,rfl,by exact zV hl1,by exact zV hg,zl,Cells.nil _ _⟩ ?_ ?_
   ·rintro j T2 H3 _ hj hl2 hi2 hs2 hk3 ⟨k,cells,hk,hv2,hg3,hcl,hcc⟩;simp only [wW,AO,zB,and_true] at hv2;have w3:=hk3.wf;have le_hk3:=hk3.le;have lt3:=w3 _ _ hg3;have t25:ad T2 25=.own b 0 2 2 1 true:=(hs2.at_ 25 zU).trans (zV (aB hl1 t0));have hb3:=hk3.get hb;simp only [dj,hl1] at hl2;have hfin:∀ H4,(H4=H3.up 7\/∃ e,H4=(H3.up 7).put g e)->Kp H H4:=fun H4 h=>by
     rcases h with rfl | ⟨e,rfl⟩
     ·exact zK
     ·exact (hk3.up 7).put hgn (by show g<H3.next+7; omega)
    by_cases h0:j=0
    ·subst h0;have hix:co 1 (.own b 0 2 2 1 true) (.int .i64 ((0:Nat):Int))=some (.ptr b 0):=rfl;have hk:k=0:=hk;subst hk;obtain ⟨cells',H4,e4,g4,c4,cc4,hH4⟩:=qW (E:=conE) (bytes:=32) (id:=H3.next+5) (k:=0) (l1:=[]) (H:=H3.up 7) hg3 zU (Cells.nil _ _) ((ha.mono hk3.sub).mono (Sub.bump H3 7)) rfl hcl zO zO zO;have e4:cN (H3.up 7) (H3.next+5) 2 32 t_api_Con (.own g 0 0 N 2 false) va=some (.own g 0 (0+l.length) N 2 false,H4):=e4;refine zW (gf hl2 t25 hi2 hix hb3 hv2 e4) ?_;refine ⟨hfin _ hH4,l.length,cells',by simp,by simp,g4,c4,?_⟩;rw [XC rfl];rw [VB] at cc4;exact cc4
    ·have h1:j=1:=zO;subst h1;have hix:co 1 (.own b 0 2 2 1 true) (.int .i64 ((1:Nat):Int))=some (.ptr b 1):=rfl;have hk:k=l.length:=hk;subst hk;rw [XC rfl] at hcc;obtain ⟨cells',H4,e4,g4,c4,cc4,hH4⟩:=qW (E:=conE) (bytes:=32) (id:=H3.next+5) (k:=l.length) (l1:=l) (H:=H3.up 7) hg3 zU (hcc.mono ((Sub.bump H3 7).t _)) ((hb'.mono hk3.sub).mono (Sub.bump H3 7)) rfl hcl zO zO zO;have e4:cN (H3.up 7) (H3.next+5) 2 32 t_api_Con (.own g 0 l.length N 2 false) vb=some (.own g 0 (l.length+m.length) N 2 false,H4):=e4;rw [<- hN] at e4 cc4;refine zW (gf hl2 t25 hi2 hix hb3 hv2 e4) ?_;refine ⟨hfin _ hH4,N,cells',by simp,by simp,g4,c4,?_⟩;have ht:(l++m).take N=l++m:=Vl (by rw [Vg]; omega);rw [ht];exact cc4
   ·rintro T2 H3 hl2 hs2 hk3 ⟨k,cells,hk,hv2,hg3,hcl,hcc⟩;simp only [wW,AO,zB,and_true] at hv2;have hk:k=N:=hk;subst hk;have ht:(l++m).take k=l++m:=Vl (by rw [Vg]; omega);have ht2:cells.take (k*2)=cells:=Vl zO;rw [ht,ht2] at hcc;have w3:=hk3.wf;have le_hk3:=hk3.le;simp only [dj,hl1] at hl2;refine zW (aB hl2 hv2) ?_;have hs3:SlV conE t_api_Con H3 (.own g 0 k k 2 false) (l++m):=⟨cells,Rd.own hg3 hcl zO,fun _ _ _ _ _ _ e=>by cases e; exact ⟨_,_,hg3⟩,hcc⟩
    exact ⟨hs3.mono (Sub.bump H3 _),zK⟩
def M0 (C:Code tab) (hw:Wf H) {m:Nat} (h0:0<m) (hm:m<=4000) :
  Ans tab (.fn bQ [.nilSl,.int .i64 (m:Int)]) H fun v H'=>∃ b,v=.own b 0 0 m 2 false/\H'.get b=some (.cells ((List.replicate m [.int .u8 0,.nilSl]).flatten) ak true)/\H.next<=b/\Kp H H':=by
 refine bz C.q71 zU fun T hl g0 g1=>?_;have e0:¬ (m:Int)<0:=zO;have e1:IntKind.i64.wrap ((m:Int)-0)=(m:Int):=by rw [wrap_i64] <;> omega
 have e2:(0:Int)<(m:Int):=zO;have cn:GB .nilSl=some (.int .i64 0):=rfl;have z0:IntKind.i64.wrap 0=0:=by rw [wrap_i64] <;> omega
 have sn:bD 2 .nilSl none (some (.int .i64 0)) none=some .nilSl:=rfl;have ln:lenV .nilSl=some (.int .i64 0):=rfl;have ea:=EX (H:=H.up 23) (id:=H.next+18) (sz:=2) (bytes:=32) (ty:=ak) (z:=[.int .u8 0,.nilSl]) (m:=m) rfl h0 zO zO;have so:bD 2 (.own (H.next+18) 0 m m 2 false) none (some (.int .i64 0)) none=some (.own (H.next+18) 0 0 m 2 false):=yd;simp -dsimp (maxSteps:=1000000) (disch:=(first | omega | assumption | exact aQ _ | exact bf _ _ | exact bp | exact cz _ _ _ | exact bF _ _ | exact bo _ _ _ _ _ _ | exact cJ _ _ | exact bH _)) only [↓sL,sK,Nat.reduceLT,Nat.reduceEqDiff,Nat.reduceAdd,reduceIte,reduceCtorEq,Nat.reduceBEq,Int.reduceEq,Int.reduceLT,Int.reduceLE,Int.reduceAdd,Int.reduceSub,hl,g0,g1,e0,e1,e2,↓BE,ln,cn,z0,sn,↓BF,ea,so];exact ⟨_,rfl,au _ _ _,zO,zK⟩
def Ki (C:Code tab) (hw:Wf H) :
  Ans tab (.fn bQ [.nilSl,.int .i64 0]) H fun v H'=>v=.nilSl/\Kp H H':=by
 refine bz C.q71 zU fun T hl g0 g1=>?_;have ln:lenV .nilSl=some (.int .i64 0):=rfl;have cn:GB .nilSl=some (.int .i64 0):=rfl;have z0:IntKind.i64.wrap 0=0:=by rw [wrap_i64] <;> omega
 simp -dsimp (maxSteps:=1000000) (disch:=(first | omega | assumption | exact aQ _ | exact bf _ _ | exact bp | exact cz _ _ _ | exact bF _ _ | exact bo _ _ _ _ _ _ | exact cJ _ _ | exact bH _)) only [↓sL,sK,Nat.reduceLT,Nat.reduceEqDiff,Nat.reduceAdd,reduceIte,reduceCtorEq,Nat.reduceBEq,Int.reduceEq,Int.reduceLT,Int.reduceLE,Int.reduceAdd,Int.reduceSub,hl,g0,g1,↓BE,ln,cn,z0];exact zK
def GL (C:Code tab) (hw:Wf H) {b:Nat} {va vb:AV} {l m:List (Nat × List Int)} {x:Bool} {ty:Nat} (hb:H.get b=some (.cells [va,vb] ty x)) (ha:SlV genE ak H va l) (hb':SlV genE ak H vb m) (hl':l.length<=2000) (hm':m.length<=2000) :
  Ans tab (.fn cE [.own b 0 2 2 1 true]) H fun v H'=>SlV genE ak H' v (l++m)/\Kp H H':=by
 refine cQ C.q43 zU fun T hl g0=>?_;have l2:lenV (.own b 0 2 2 1 true)=some (.int .i64 ((2:Nat):Int)):=rfl;have hbl:=hw _ _ hb;refine zW (aC hl g0 l2) ?_;refine am H [3] (fun j vs _=>vs=[.int .i64 (((if j=0 then 0 else if j=1 then l.length else l.length+m.length:Nat)):Int)]) (a:=0) (N:=2) rfl (by refine zW (aB hl g0) ?_ <;> rfl) (zV (aB hl g0)) (II _) zO (by simp only [dj,hl]; rfl) rfl (fun _ _ _ _ h=>h) zK (by refine zW (aB hl g0) ?_ <;> rfl) ?_ ?_
 ·intro j T1 H1 _ hj hl1 hi1 hs1 hk1 hv;simp only [wW,AO,zB,and_true] at hv;have w1:=hk1.wf;have le_hk1:=hk1.le;have t9:ad T1 9=.own b 0 2 2 1 true:=(hs1.at_ 9 zU).trans (zV (aB hl g0));have hb1:=hk1.get hb;simp only [dj,hl] at hl1;by_cases h0:j=0
  ·subst h0;have hix:co 1 (.own b 0 2 2 1 true) (.int .i64 ((0:Nat):Int))=some (.ptr b 0):=rfl;have e1:IntKind.i64.wrap (0+(l.length:Int))=(l.length:Int):=by rw [wrap_i64] <;> omega
   have e2:¬ (l.length:Int)<0:=zO;have hv:ad T1 3=.int .i64 0:=hv;refine zW (kj hl1 t9 hi1 hix hb1 ha.lenV hv e1 e2) ?_;exact zK
  ·have h1:j=1:=zO;subst h1;have hix:co 1 (.own b 0 2 2 1 true) (.int .i64 ((1:Nat):Int))=some (.ptr b 1):=rfl;have e1:IntKind.i64.wrap ((l.length:Int)+(m.length:Int))=(l.length:Int)+(m.length:Int):=by rw [wrap_i64] <;> omega
   have e2:¬ (l.length:Int)+(m.length:Int)<0:=zO;have hv:ad T1 3=.int .i64 (l.length:Int):=hv;refine zW (kj hl1 t9 hi1 hix hb1 hb'.lenV hv e1 e2) ?_;exact ⟨zK,by simp⟩
 ·intro T1 H1 hl1 hs1 hk1 hv;simp only [wW,AO,zB,and_true] at hv;have w1:=hk1.wf;have le_hk1:=hk1.le;have t0:ad T1 0=.own b 0 2 2 1 true:=(hs1.at_ 0 zU).trans (zV (aB hl g0));have hv:ad T1 3=.int .i64 (((l.length+m.length:Nat)):Int):=hv;simp only [dj,hl] at hl1;have hb1:=hk1.get hb;by_cases h0:l.length+m.length=0
  ·have hv:ad T1 3=.int .i64 0:=by rw [hv,h0]; rfl
   have el:l=[]:=Vp zO;have em:m=[]:=Vp zO;refine zW (aB hl1 hv) ?_;refine AnsH.use (Ki C zF) ?_;rintro _ H2 ⟨rfl,hk2⟩;obtain ⟨k2,_,w2⟩:=zT H zK hk2;have hb2:=k2.get hb;refine zW (aC hl1 t0 l2) ?_;refine am H [6] (fun j vs _=>vs=[.nilSl]) (a:=0) (N:=2) rfl (by refine zW hl1 ?_ <;> rfl) (zV hl1) (II _) zO (by simp only [dj,hl1]; rfl) rfl (fun _ _ _ _ h=>h) zK (zV hl1) ?_ ?_
   ·intro j T2 H3 _ hj hl2 hi2 hs2 hk3 hv2;simp only [wW,AO,zB,and_true] at hv2;have w3:=hk3.wf;have le_hk3:=hk3.le;have t25:ad T2 25=.own b 0 2 2 1 true:=(hs2.at_ 25 zU).trans (zV (aB hl1 t0));have hb3:=hk3.get hb;simp only [dj,hl1] at hl2;have na:∀ {K:List (Nat × List Int)} {v:AV} (H':Heap) (id:Nat),K=[]->SlV genE ak H' v K->cN H' id 2 32 ak .nilSl v=some (.nilSl,H'):=fun H' id e hs=>by
     subst e;obtain ⟨news,hr,-,hc⟩:=hs;obtain ⟨m',hm',hlen⟩:=hr.length;obtain ⟨-,-,m2,hm2,hf⟩:=hr;rw [hm'] at hm2; cases hm2;have hmm:m'=0:=by
      have:=hc.1
      rw [hlen] at this;have e2:genE.sz=2:=rfl;rw [e2] at this;simp at this;omega
     subst hmm;unfold cN;rw [hm'];simp only;have e2:genE.sz=2:=rfl;rw [e2] at hf;rw [hf];rfl
    by_cases h0:j=0
    ·subst h0;have hix:co 1 (.own b 0 2 2 1 true) (.int .i64 ((0:Nat):Int))=some (.ptr b 0):=rfl;have ea:=na (H3.up 7) (H3.next+5) el ((ha.mono hk3.sub).mono (Sub.bump H3 7));refine zW (gf hl2 t25 hi2 hix hb3 hv2 ea) ?_;exact zK
    ·have h1:j=1:=zO;subst h1;have hix:co 1 (.own b 0 2 2 1 true) (.int .i64 ((1:Nat):Int))=some (.ptr b 1):=rfl;have ea:=na (H3.up 7) (H3.next+5) em ((hb'.mono hk3.sub).mono (Sub.bump H3 7));refine zW (gf hl2 t25 hi2 hix hb3 hv2 ea) ?_;exact zK
   ·intro T2 H3 hl2 hs2 hk3 hv2;simp only [wW,AO,zB,and_true] at hv2;simp only [dj,hl1] at hl2;refine zW (aB hl2 hv2) ?_;exact ⟨by rw [el,em]; exact SlV.nil _ _ _,zK⟩
  ·obtain ⟨N,hN⟩:∃ N,N=l.length+m.length:=⟨_,rfl⟩
   rw [<- hN] at hv h0;refine zW (aB hl1 hv) ?_;refine AnsH.use (M0 C (m:=N) zF zO zO) ?_;rintro _ H2 ⟨g,rfl,hg,hgn,hk2⟩;obtain ⟨k2,_,w2⟩:=zT H zK hk2;have hgn:H.next<=g:=by
    have:=hk1.le
    have:H1.next+3<=g:=hgn
    omega
   have hb2:=k2.get hb;have l0:=w2 _ _ hg;obtain ⟨z,hz⟩:∃ z,z=(List.replicate N [AV.int .u8 0,.nilSl]).flatten:=⟨_,rfl⟩
   have zl:z.length=N*2:=by rw [hz]; simp
   rw [<- hz] at hg;clear hz;refine zW (aC hl1 t0 l2) ?_;refine am H [6] (fun j vs H'=>∃ k cells,k=(if j=0 then 0 else if j=1 then l.length else N)/\vs=[.own g 0 k N 2 false]/\H'.get g=some (.cells cells ak true)/\cells.length=N*2/\Cells genE H' (cells.take (k*2)) ((l++m).take k)) (a:=0) (N:=2) rfl (by refine zW hl1 ?_ <;> rfl) (zV hl1) (II _) zO (by simp only [dj,hl1]; rfl) rfl (fun _ _ _ _ h=>h) zK ⟨0,z,rfl,by exact zV hl1,by exact zV hg,zl,Cells.nil _ _⟩ ?_ ?_
   ·rintro j T2 H3 _ hj hl2 hi2 hs2 hk3 ⟨k,cells,hk,hv2,hg3,hcl,hcc⟩;simp only [wW,AO,zB,and_true] at hv2;have w3:=hk3.wf;have le_hk3:=hk3.le;have lt3:=w3 _ _ hg3;have t25:ad T2 25=.own b 0 2 2 1 true:=(hs2.at_ 25 zU).trans (zV (aB hl1 t0));have hb3:=hk3.get hb;simp only [dj,hl1] at hl2;have hfin:∀ H4,(H4=H3.up 7\/∃ e,H4=(H3.up 7).put g e)->Kp H H4:=fun H4 h=>by
     rcases h with rfl | ⟨e,rfl⟩
     ·exact zK
     ·exact (hk3.up 7).put hgn (by show g<H3.next+7; omega)
    by_cases h0:j=0
    ·subst h0;have hix:co 1 (.own b 0 2 2 1 true) (.int .i64 ((0:Nat):Int))=some (.ptr b 0):=rfl;have hk:k=0:=hk;subst hk;obtain ⟨cells',H4,e4,g4,c4,cc4,hH4⟩:=qW (E:=genE) (bytes:=32) (id:=H3.next+5) (k:=0) (l1:=[]) (H:=H3.up 7) hg3 zU (Cells.nil _ _) ((ha.mono hk3.sub).mono (Sub.bump H3 7)) rfl hcl zO zO zO;have e4:cN (H3.up 7) (H3.next+5) 2 32 ak (.own g 0 0 N 2 false) va=some (.own g 0 (0+l.length) N 2 false,H4):=e4;refine zW (gf hl2 t25 hi2 hix hb3 hv2 e4) ?_;refine ⟨hfin _ hH4,l.length,cells',by simp,by simp,g4,c4,?_⟩;rw [XC rfl];rw [VB] at cc4;exact cc4
    ·have h1:j=1:=zO;subst h1;have hix:co 1 (.own b 0 2 2 1 true) (.int .i64 ((1:Nat):Int))=some (.ptr b 1):=rfl;have hk:k=l.length:=hk;subst hk;rw [XC rfl] at hcc;obtain ⟨cells',H4,e4,g4,c4,cc4,hH4⟩:=qW (E:=genE) (bytes:=32) (id:=H3.next+5) (k:=l.length) (l1:=l) (H:=H3.up 7) hg3 zU (hcc.mono ((Sub.bump H3 7).t _)) ((hb'.mono hk3.sub).mono (Sub.bump H3 7)) rfl hcl zO zO zO;have e4:cN (H3.up 7) (H3.next+5) 2 32 ak (.own g 0 l.length N 2 false) vb=some (.own g 0 (l.length+m.length) N 2 false,H4):=e4;rw [<- hN] at e4 cc4;refine zW (gf hl2 t25 hi2 hix hb3 hv2 e4) ?_;refine ⟨hfin _ hH4,N,cells',by simp,by simp,g4,c4,?_⟩;have ht:(l++m).take N=l++m:=Vl (by rw [Vg]; omega);rw [ht];exact cc4
   ·rintro T2 H3 hl2 hs2 hk3 ⟨k,cells,hk,hv2,hg3,hcl,hcc⟩;simp only [wW,AO,zB,and_true] at hv2;have hk:k=N:=hk;subst hk;have ht:(l++m).take k=l++m:=Vl (by rw [Vg]; omega);have ht2:cells.take (k*2)=cells:=Vl zO;rw [ht,ht2] at hcc;have w3:=hk3.wf;have le_hk3:=hk3.le;simp only [dj,hl1] at hl2;refine zW (aB hl2 hv2) ?_;have hs3:SlV genE ak H3 (.own g 0 k k 2 false) (l++m):=⟨cells,Rd.own hg3 hcl zO,fun _ _ _ _ _ _ e=>by cases e; exact ⟨_,_,hg3⟩,hcc⟩
    exact ⟨hs3.mono (Sub.bump H3 _),zK⟩
def ES {a b:Nat} {x:List Int} (h:Lin.Bd (2^a) x) (hab:a<=b):Lin.Bd (2^b) x:=fun i=>Oc (h i) (VD zU hab)
set_option maxHeartbeats 4000000 in
def Ja (C:Code tab) (hw:Wf H) {v w:AV} {n e f e' f' m m2:Nat} {K K':List (List Int × Bool)} {G G':List (Nat × List Int)} (hp:PolyV H v n K G) (hq:PolyV H w n K' G') (ho:PolyOK n e f K G) (ho':PolyOK n e' f' K' G') (hl':K.length+K'.length<=60) (hm:f<=m) (hm':f'<=m) (hm3:m<=300000) (hG:∀ x∈Lin.gensP n (K++K'),Lin.Bd (2^m2) x.2) (hm2:m2<=300000) :
  Ans tab (.fn pE [v,w]) H fun x H'=>mB H' x n (Lin.gensP n (K++K'))/\Kp H H':=by
 obtain ⟨vc,vg,rfl,hc,hg⟩:=hp;obtain ⟨vc',vg',rfl,hc',hg'⟩:=hq;have oc:=hc.one;have og:=hg.one;have oc':=hc'.one;have og':=hg'.one;refine bz C.q17 zU fun T hl g0 g1=>?_;refine zW (eW hl g0 g1 (kg oc og) (kg oc' og') (GC oc og oc' og')) ?_;refine AnsH.eq (nR C (n:=n) (l:=[(n,K,G),(n,K',G')]) zF (uW (au _ _ _) (hc.mono (zG H)) (hg.mono (zG H)) (hc'.mono (zG H)) (hg'.mono (zG H))) (by simp) (Fs ho ho')) fun H2 hk2=>?_;obtain ⟨k2,_,w2⟩:=zT H zK hk2;have d0:H2.get H.next=some (.cells [.int .i64 (n:Int),vc,vg] ah true):=hk2.get (cR)
 have d1:H2.get (H.next+1)=some (.cells [.int .i64 (n:Int),vc',vg'] ah true):=hk2.get (cR);have d2:H2.get (H.next+2)=some (.cells [.int .i64 0,.nilSl,.nilSl] ah true):=hk2.get (cR);have lt2:=w2 _ _ d2;refine zW (aV hl g0 g1 @aD) ?_;refine aH ?_;refine zD (eW hl g0 g1 d0 d1 d2) ?_;refine AnsH.use (GM C zF (au _ _ _) ((hc.mono k2.sub).mono (zG H2)) ((hc'.mono k2.sub).mono (zG H2)) zO zO) ?_;rintro v3 H3 ⟨hs3,hk3⟩;obtain ⟨k23,_,_⟩:=zT H2 zK hk3;have k3:Kp H H3:=k2.trans k23;have le_k3:=k3.le;have w3:=k3.wf;refine zD (eW hl g0 g1 d0 d1 d2) ?_;refine AnsH.use (SH C (n:=n) (m:=m) (m2:=m2) zF (hs3.mono (zG H3)) ho.dim (by rw [Vg]; omega) (fun c hc=>(Vf.1 hc).elim (fun h=>⟨(ho.rowK c h).1,ES (ho.rowK c h).2 hm⟩) fun h=>⟨(ho'.rowK c h).1,ES (ho'.rowK c h).2 hm'⟩) hm3 hG hm2) ?_;rintro v4 H4 ⟨hm4,hk4⟩;obtain ⟨k34,_,_⟩:=zT H3 zK hk4;have k4:Kp H H4:=k3.trans k34;have le_k4:=k4.le;have w4:=k4.wf;have d2c:=k34.get (k23.get d2);have d0b:=k23.get d0;have lt4:=w4 _ _ d2c;rcases hm4 with ⟨rfl,hm4⟩ | ⟨p,rfl,⟨vc4,vg4,rfl,hc4,hg4⟩,h1,h2⟩
 ·refine zD (ki hl g0 g1 d0 d1 d0b d2c @mF) ?_;exact ⟨.inl ⟨rfl,hm4⟩,zK⟩
 ·have oc4:=hc4.one;have og4:=hg4.one;refine zD (ki hl g0 g1 d0 d1 d0b d2c @mF) ?_;refine ⟨.inr ⟨_,rfl,⟨vc4,vg4,rfl,?_,?_⟩,h1,h2⟩,zK⟩
  ·have m3:NoTy (t_api_Con :: conE.tys) H4 (H.next+2):=NoTy.ty d2c zU;exact SlV.monoT (E:=conE) zS hc4
  ·have m3:NoTy (ak :: genE.tys) H4 (H.next+2):=NoTy.ty d2c zU;exact SlV.monoT (E:=genE) zS hg4
set_option maxHeartbeats 4000000 in
def I9 (C:Code tab) (hw:Wf H) {v w:AV} {n e f e' f' m m2 m3:Nat} {K K':List (List Int × Bool)} {G G':List (Nat × List Int)} (hp:PolyV H v n K G) (hq:PolyV H w n K' G') (ho:PolyOK n e f K G) (ho':PolyOK n e' f' K' G') (hl':G.length+G'.length<=60) (hm:e<=m) (hm':e'<=m) (hm4:m<=300000) (hC:∀ c∈Lin.consP n (G++G'),Lin.Bd (2^m2) c.1) (hm2:m2<=300000) (hG:∀ x∈Lin.gensP n (Lin.consP n (G++G')),Lin.Bd (2^m3) x.2) (hm3:m3<=300000) (hlc:(Lin.consP n (G++G')).length<=1022\/1024<=(Lin.consP n (G++G')).length) :
  Ans tab (.fn pC [v,w]) H fun x H'=>Ie H' x n (G++G')/\Kp H H':=by
 obtain ⟨vc,vg,rfl,hc,hg⟩:=hp;obtain ⟨vc',vg',rfl,hc',hg'⟩:=hq;have oc:=hc.one;have og:=hg.one;have oc':=hc'.one;have og':=hg'.one;refine bz C.q16 zU fun T hl g0 g1=>?_;refine zW (eW hl g0 g1 (kg oc og) (kg oc' og') (GC oc og oc' og')) ?_;refine AnsH.eq (nR C (n:=n) (l:=[(n,K,G),(n,K',G')]) zF (uW (au _ _ _) (hc.mono (zG H)) (hg.mono (zG H)) (hc'.mono (zG H)) (hg'.mono (zG H))) (by simp) (Fs ho ho')) fun H2 hk2=>?_;obtain ⟨k2,_,w2⟩:=zT H zK hk2;have d0:H2.get H.next=some (.cells [.int .i64 (n:Int),vc,vg] ah true):=hk2.get (cR)
 have d1:H2.get (H.next+1)=some (.cells [.int .i64 (n:Int),vc',vg'] ah true):=hk2.get (cR);have d2:H2.get (H.next+2)=some (.cells [.int .i64 0,.nilSl,.nilSl] ah true):=hk2.get (cR);have lt2:=w2 _ _ d2;refine zW (aV hl g0 g1 @aD) ?_;refine aH ?_;refine zD (eW hl g0 g1 d0 d1 d2) ?_;refine AnsH.use (GL C zF (au _ _ _) ((hg.mono k2.sub).mono (zG H2)) ((hg'.mono k2.sub).mono (zG H2)) zO zO) ?_;rintro v3 H3 ⟨hs3,hk3⟩;obtain ⟨k23,_,_⟩:=zT H2 zK hk3;have k3:Kp H H3:=k2.trans k23;have le_k3:=k3.le;have w3:=k3.wf;refine zD (eW hl g0 g1 d0 d1 d2) ?_;refine AnsH.use (tJ C (n:=n) (m:=m) (m2:=m2) (m3:=m3) zF (hs3.mono (zG H3)) ho.dim (by rw [Vg]; omega) (Lin.validG_app ho.own.valid ho'.own.valid) (fun x hx=>(Vf.1 hx).elim (ho.kinds x) (ho'.kinds x)) (fun c hc=>(Vf.1 hc).elim (fun h=>ES (ho.bG c h) hm) fun h=>ES (ho'.bG c h) hm') hm4 hC hm2 hG hm3 hlc) ?_;rintro v4 H4 ⟨hm5,hk4⟩;obtain ⟨k34,_,_⟩:=zT H3 zK hk4;have k4:Kp H H4:=k3.trans k34;have le_k4:=k4.le;have w4:=k4.wf;have d2c:=k34.get (k23.get d2);have d0b:=k23.get d0;have lt4:=w4 _ _ d2c;rcases hm5 with ⟨rfl,hm5⟩ | ⟨rfl,hm5⟩ | ⟨p,rfl,⟨vc4,vg4,rfl,hc4,hg4⟩,h1,h2⟩
 ·refine zD (ki hl g0 g1 d0 d1 d0b d2c @mF) ?_;exact ⟨.inl ⟨rfl,hm5⟩,zK⟩
 ·refine zD (ki hl g0 g1 d0 d1 d0b d2c @mF) ?_;exact ⟨.inr (.inl ⟨rfl,hm5⟩),zK⟩
 ·have oc4:=hc4.one;have og4:=hg4.one;refine zD (ki hl g0 g1 d0 d1 d0b d2c @mF) ?_;refine ⟨.inr (.inr ⟨_,rfl,⟨vc4,vg4,rfl,?_,?_⟩,h1,h2⟩),zK⟩
  ·have m3:NoTy (t_api_Con :: conE.tys) H4 (H.next+2):=NoTy.ty d2c zU;exact SlV.monoT (E:=conE) zS hc4
  ·have m3:NoTy (ak :: genE.tys) H4 (H.next+2):=NoTy.ty d2c zU;exact SlV.monoT (E:=genE) zS hg4
end
end Go.Proofs.YthjdfjlhjnihfaaGreat.Ev
namespace Go.Proofs.YthjdfjlhjnihfaaGreat.Lin
def g13:gensP 1 [([-1,1],false),([3,-1],false)]=[(3,[1,1]),(3,[1,3])]:=by
 have r:(gensU 2 [] [[1,0],[-1,1],[3,-1]]).rays.map (restF (gensL 2 [] [[1,0],[-1,1],[3,-1]]))=[[1,1],[1,3]]:=by decide +kernel
 have e:gensL 2 [] [[1,0],[-1,1],[3,-1]]=[]:=by decide +kernel
 have g:gensR 2 [] [[1,0],[-1,1],[3,-1]]=[[1,1],[1,3]]:=by
  unfold gensR;rw [r]; simp [List.mergeSort,List.MergeSort.Internal.splitInTwo,cmpV]
 have h1:eqsOf ([([-1,1],false),([3,-1],false)]:List (V × Bool))=[]:=rfl;have h2:ineqsOf 1 ([([-1,1],false),([3,-1],false)]:List (V × Bool))=[[1,0],[-1,1],[3,-1]]:=rfl;unfold gensP;rw [h1,h2,e,g];rfl
def g23:gensP 1 [([-2,1],false),([3,-1],false)]=[(3,[1,2]),(3,[1,3])]:=by
 have r:(gensU 2 [] [[1,0],[-2,1],[3,-1]]).rays.map (restF (gensL 2 [] [[1,0],[-2,1],[3,-1]]))=[[1,2],[1,3]]:=by decide +kernel
 have e:gensL 2 [] [[1,0],[-2,1],[3,-1]]=[]:=by decide +kernel
 have g:gensR 2 [] [[1,0],[-2,1],[3,-1]]=[[1,2],[1,3]]:=by
  unfold gensR;rw [r]; simp [List.mergeSort,List.MergeSort.Internal.splitInTwo,cmpV]
 have h1:eqsOf ([([-2,1],false),([3,-1],false)]:List (V × Bool))=[]:=rfl;have h2:ineqsOf 1 ([([-2,1],false),([3,-1],false)]:List (V × Bool))=[[1,0],[-2,1],[3,-1]]:=rfl;unfold gensP;rw [h1,h2,e,g];rfl
def g55:gensP 1 [([-5,1],false),([5,-1],false)]=[(3,[1,5])]:=by
 have r:(gensU 2 [] [[1,0],[-5,1],[5,-1]]).rays.map (restF (gensL 2 [] [[1,0],[-5,1],[5,-1]]))=[[1,5]]:=by decide +kernel
 have e:gensL 2 [] [[1,0],[-5,1],[5,-1]]=[]:=by decide +kernel
 have g:gensR 2 [] [[1,0],[-5,1],[5,-1]]=[[1,5]]:=by
  unfold gensR;rw [r]; simp [List.mergeSort,List.MergeSort.Internal.splitInTwo,cmpV]
 have h1:eqsOf ([([-5,1],false),([5,-1],false)]:List (V × Bool))=[]:=rfl;have h2:ineqsOf 1 ([([-5,1],false),([5,-1],false)]:List (V × Bool))=[[1,0],[-5,1],[5,-1]]:=rfl;unfold gensP;rw [h1,h2,e,g];rfl
def g15:gensP 1 [([-1,1],false),([5,-1],false)]=[(3,[1,1]),(3,[1,5])]:=by
 have r:(gensU 2 [] [[1,0],[-1,1],[5,-1]]).rays.map (restF (gensL 2 [] [[1,0],[-1,1],[5,-1]]))=[[1,1],[1,5]]:=by decide +kernel
 have e:gensL 2 [] [[1,0],[-1,1],[5,-1]]=[]:=by decide +kernel
 have g:gensR 2 [] [[1,0],[-1,1],[5,-1]]=[[1,1],[1,5]]:=by
  unfold gensR;rw [r]; simp [List.mergeSort,List.MergeSort.Internal.splitInTwo,cmpV]
 have h1:eqsOf ([([-1,1],false),([5,-1],false)]:List (V × Bool))=[]:=rfl;have h2:ineqsOf 1 ([([-1,1],false),([5,-1],false)]:List (V × Bool))=[[1,0],[-1,1],[5,-1]]:=rfl;unfold gensP;rw [h1,h2,e,g];rfl
def g49:gensP 1 [([-4,1],false),([9,-1],false)]=[(3,[1,4]),(3,[1,9])]:=by
 have r:(gensU 2 [] [[1,0],[-4,1],[9,-1]]).rays.map (restF (gensL 2 [] [[1,0],[-4,1],[9,-1]]))=[[1,4],[1,9]]:=by decide +kernel
 have e:gensL 2 [] [[1,0],[-4,1],[9,-1]]=[]:=by decide +kernel
 have g:gensR 2 [] [[1,0],[-4,1],[9,-1]]=[[1,4],[1,9]]:=by
  unfold gensR;rw [r]; simp [List.mergeSort,List.MergeSort.Internal.splitInTwo,cmpV]
 have h1:eqsOf ([([-4,1],false),([9,-1],false)]:List (V × Bool))=[]:=rfl;have h2:ineqsOf 1 ([([-4,1],false),([9,-1],false)]:List (V × Bool))=[[1,0],[-4,1],[9,-1]]:=rfl;unfold gensP;rw [h1,h2,e,g];rfl
def k13:consP 1 [(3,[1,1]),(3,[1,3])]=[([-1,1],false),([3,-1],false)]:=by
 have r:(gensU 2 [] [[1,1],[1,3]]).rays.map (restF (gensL 2 [] [[1,1],[1,3]]))=[[3,-1],[-1,1]]:=by decide +kernel
 have e:gensL 2 [] [[1,1],[1,3]]=[]:=by decide +kernel
 have g:gensR 2 [] [[1,1],[1,3]]=[[-1,1],[3,-1]]:=by
  unfold gensR;rw [r]; simp [List.mergeSort,List.MergeSort.Internal.splitInTwo,cmpV]
 have h1:linesOf ([(3,[1,1]),(3,[1,3])]:List (Nat × V))=[]:=rfl;have h2:raysOf ([(3,[1,1]),(3,[1,3])]:List (Nat × V))=[[1,1],[1,3]]:=rfl;unfold consP;rw [h1,h2,e,g];decide
def k49:consP 1 [(3,[1,4]),(3,[1,9])]=[([-4,1],false),([9,-1],false)]:=by
 have r:(gensU 2 [] [[1,4],[1,9]]).rays.map (restF (gensL 2 [] [[1,4],[1,9]]))=[[9,-1],[-4,1]]:=by decide +kernel
 have e:gensL 2 [] [[1,4],[1,9]]=[]:=by decide +kernel
 have g:gensR 2 [] [[1,4],[1,9]]=[[-4,1],[9,-1]]:=by
  unfold gensR;rw [r]; simp [List.mergeSort,List.MergeSort.Internal.splitInTwo,cmpV]
 have h1:linesOf ([(3,[1,4]),(3,[1,9])]:List (Nat × V))=[]:=rfl;have h2:raysOf ([(3,[1,4]),(3,[1,9])]:List (Nat × V))=[[1,4],[1,9]]:=rfl;unfold consP;rw [h1,h2,e,g];decide
def kh:consP 1 [(3,[1,1]),(3,[1,3]),(3,[1,5])]=[([-1,1],false),([5,-1],false)]:=by
 have r:(gensU 2 [] [[1,1],[1,3],[1,5]]).rays.map (restF (gensL 2 [] [[1,1],[1,3],[1,5]]))=[[-1,1],[5,-1]]:=by decide +kernel
 have e:gensL 2 [] [[1,1],[1,3],[1,5]]=[]:=by decide +kernel
 have g:gensR 2 [] [[1,1],[1,3],[1,5]]=[[-1,1],[5,-1]]:=by
  unfold gensR;rw [r]; simp [List.mergeSort,List.MergeSort.Internal.splitInTwo,cmpV]
 have h1:linesOf ([(3,[1,1]),(3,[1,3]),(3,[1,5])]:List (Nat × V))=[]:=rfl;have h2:raysOf ([(3,[1,1]),(3,[1,3]),(3,[1,5])]:List (Nat × V))=[[1,1],[1,3],[1,5]]:=rfl;unfold consP;rw [h1,h2,e,g];decide
def m23:gensP 1 [([-1,1],false),([3,-1],false),([-2,1],false)]=[(3,[1,2]),(3,[1,3])]:=by
 have r:(gensU 2 [] [[1,0],[-1,1],[3,-1],[-2,1]]).rays.map (restF (gensL 2 [] [[1,0],[-1,1],[3,-1],[-2,1]]))=[[1,3],[1,2]]:=by decide +kernel
 have e:gensL 2 [] [[1,0],[-1,1],[3,-1],[-2,1]]=[]:=by decide +kernel
 have g:gensR 2 [] [[1,0],[-1,1],[3,-1],[-2,1]]=[[1,2],[1,3]]:=by
  unfold gensR;rw [r]; simp [List.mergeSort,List.MergeSort.Internal.splitInTwo,cmpV]
 have h1:eqsOf ([([-1,1],false),([3,-1],false),([-2,1],false)]:List (V × Bool))=[]:=rfl;have h2:ineqsOf 1 ([([-1,1],false),([3,-1],false),([-2,1],false)]:List (V × Bool))=[[1,0],[-1,1],[3,-1],[-2,1]]:=rfl;unfold gensP;rw [h1,h2,e,g];rfl
def b0:gensP 1 [([-1,1],false),([3,-1],false),([-4,1],false),([9,-1],false)]=[]:=by
 have r:(gensU 2 [] [[1,0],[-1,1],[3,-1],[-4,1],[9,-1]]).rays.map (restF (gensL 2 [] [[1,0],[-1,1],[3,-1],[-4,1],[9,-1]]))=[]:=by decide +kernel
 have e:gensL 2 [] [[1,0],[-1,1],[3,-1],[-4,1],[9,-1]]=[]:=by decide +kernel
 have g:gensR 2 [] [[1,0],[-1,1],[3,-1],[-4,1],[9,-1]]=[]:=by
  unfold gensR;rw [r]; simp
 have h1:eqsOf ([([-1,1],false),([3,-1],false),([-4,1],false),([9,-1],false)]:List (V × Bool))=[]:=rfl;have h2:ineqsOf 1 ([([-1,1],false),([3,-1],false),([-4,1],false),([9,-1],false)]:List (V × Bool))=[[1,0],[-1,1],[3,-1],[-4,1],[9,-1]]:=rfl;unfold gensP;rw [h1,h2,e,g];rfl
def k23:consP 1 [(3,[1,2]),(3,[1,3])]=[([-2,1],false),([3,-1],false)]:=by
 have r:(gensU 2 [] [[1,2],[1,3]]).rays.map (restF (gensL 2 [] [[1,2],[1,3]]))=[[3,-1],[-2,1]]:=by decide +kernel
 have e:gensL 2 [] [[1,2],[1,3]]=[]:=by decide +kernel
 have g:gensR 2 [] [[1,2],[1,3]]=[[-2,1],[3,-1]]:=by
  unfold gensR;rw [r]; simp [List.mergeSort,List.MergeSort.Internal.splitInTwo,cmpV]
 have h1:linesOf ([(3,[1,2]),(3,[1,3])]:List (Nat × V))=[]:=rfl;have h2:raysOf ([(3,[1,2]),(3,[1,3])]:List (Nat × V))=[[1,2],[1,3]]:=rfl;unfold consP;rw [h1,h2,e,g];decide
def k15:consP 1 [(3,[1,1]),(3,[1,5])]=[([-1,1],false),([5,-1],false)]:=by
 have r:(gensU 2 [] [[1,1],[1,5]]).rays.map (restF (gensL 2 [] [[1,1],[1,5]]))=[[5,-1],[-1,1]]:=by decide +kernel
 have e:gensL 2 [] [[1,1],[1,5]]=[]:=by decide +kernel
 have g:gensR 2 [] [[1,1],[1,5]]=[[-1,1],[5,-1]]:=by
  unfold gensR;rw [r]; simp [List.mergeSort,List.MergeSort.Internal.splitInTwo,cmpV]
 have h1:linesOf ([(3,[1,1]),(3,[1,5])]:List (Nat × V))=[]:=rfl;have h2:raysOf ([(3,[1,1]),(3,[1,5])]:List (Nat × V))=[[1,1],[1,5]]:=rfl;unfold consP;rw [h1,h2,e,g];decide
def k55:consP 1 [(3,[1,5])]=[([-5,1],true)]:=by
 have r:(gensU 2 [] [[1,5]]).rays.map (restF (gensL 2 [] [[1,5]]))=[[1,0]]:=by decide +kernel
 have e:gensL 2 [] [[1,5]]=[[-5,1]]:=by decide +kernel
 have g:gensR 2 [] [[1,5]]=[[1,0]]:=by
  unfold gensR;rw [r]; simp
 have h1:linesOf ([(3,[1,5])]:List (Nat × V))=[]:=rfl;have h2:raysOf ([(3,[1,5])]:List (Nat × V))=[[1,5]]:=rfl;unfold consP;rw [h1,h2,e,g];decide
def g55b:gensP 1 [([-5,1],true)]=[(3,[1,5])]:=by
 have r:(gensU 2 [[-5,1]] [[1,0]]).rays.map (restF (gensL 2 [[-5,1]] [[1,0]]))=[[1,5]]:=by decide +kernel
 have e:gensL 2 [[-5,1]] [[1,0]]=[]:=by decide +kernel
 have g:gensR 2 [[-5,1]] [[1,0]]=[[1,5]]:=by
  unfold gensR;rw [r]; simp
 have h1:eqsOf ([([-5,1],true)]:List (V × Bool))=[[-5,1]]:=rfl;have h2:ineqsOf 1 ([([-5,1],true)]:List (V × Bool))=[[1,0]]:=rfl;unfold gensP;rw [h1,h2,e,g];rfl
def bd_small4 {x:V} (h:x.all (fun a=>decide (a.natAbs<=16))=true):Bd (2^4) x:=fun i=>by
 by_cases hi:i<x.length
 ·have:at_ x i=x[i]:=by simp [at_,hi]
  rw [this]
  simpa using Vq.1 h _ (rZ hi)
 ·have:at_ x i=0:=by simp [at_,hi]
  rw [this]; simp
end Go.Proofs.YthjdfjlhjnihfaaGreat.Lin
namespace Go.Proofs.YthjdfjlhjnihfaaGreat.Ev
open Go Nn
section
variable {tab:Nat->Option aw} {H:Heap} {s:AV}
def vX (C:Code tab) (hw:Wf H) {v:AV} {n:Nat} {c:List (List Int × Bool)} {g:List (Nat × List Int)} (hp:PolyV H v n c g) :
  Ans tab (.fn fq [v]) H fun x H'=>x=.bool (lP c g || decide (4<n))/\Kp H H':=by
 obtain ⟨vc,vg,rfl,hc,hg⟩:=hp;have oc:=hc.one;have og:=hg.one;refine cQ C.q53 zU fun T hl g0=>?_;refine zW (aC hl g0 (kg oc og)) ?_;refine AnsH.eq (Dq C (n:=n) (c:=c) (g:=g) zF ⟨vc,vg,rfl,hc.mono (zG H),hg.mono (zG H)⟩) fun H2 hk2=>?_;obtain ⟨k2,_,_⟩:=zT H zK hk2;have d0:=hk2.get (b:=H.next) (e:=.cells [.int .i64 (n:Int),vc,vg] ah true) (cR);have e:decide ((4:Int)<(n:Int))=decide (4<n):=by rw [We]; simp; omega
 cases hq:lP c g with
 | true =>
  refine zW (aB hl g0) ?_;exact ⟨by simp,zK⟩
 | false =>
  refine zW (aC hl g0 d0) ?_;exact ⟨by simp [e],zK⟩
def rS (C:Code tab) (hw:Wf H) {v v':AV} {n n':Nat} {c c':List (List Int × Bool)} {g g':List (Nat × List Int)} (hp:PolyV H v n c g) (hp':PolyV H v' n' c' g') (hc1:c.length<1099511627776) (hc2:∀ r∈c,r.1.length<1099511627776/\∀ z∈r.1,St z) (hg1:g.length<1099511627776) (hg2:∀ r∈g,r.2.length<1099511627776/\∀ z∈r.2,St z) :
  Ans tab (.fn fO [v,v']) H fun x H'=>x=.bool (decide (n=n'/\c=c'/\g=g'))/\Kp H H':=by
 obtain ⟨vc,vg,rfl,hc,hg⟩:=hp;obtain ⟨vc',vg',rfl,hc',hg'⟩:=hp';have oc:=hc.one;have og:=hg.one;have oc':=hc'.one;have og':=hg'.one;refine bz C.q47 zU fun T hl g0 g1=>?_;refine zW (cr hl g0 g1 (kg oc og) (kg oc' og')) ?_;refine AnsH.eq (FE C (n:=n) (n':=n') zF ⟨vc,vg,rfl,hc.mono (zG H),hg.mono (zG H)⟩ ⟨vc',vg',rfl,hc'.mono (zG H),hg'.mono (zG H)⟩ hc1 hc2 hg1 hg2) fun H2 hk2=>?_;obtain ⟨k2,_,_⟩:=zT H zK hk2;refine zW (aC hl g0 g1) ?_;exact zK
def pQ (n:Nat) (c:List (List Int × Bool)) (g:List (Nat × List Int)) (n':Nat) (c':List (List Int × Bool)) (g':List (Nat × List Int)):Bool :=
 (lP c g || decide (4<n)) || (lP c' g' || decide (4<n')) || decide (8<c.length+c'.length) || decide (8<g.length+g'.length)
set_option maxHeartbeats 2000000 in
def DV (C:Code tab) (hw:Wf H) {v v':AV} {n n':Nat} {c c':List (List Int × Bool)} {g g':List (Nat × List Int)} (hp:PolyV H v n c g) (hp':PolyV H v' n' c' g') (h1:c.length<1099511627776) (h2:c'.length<1099511627776) (h3:g.length<1099511627776) (h4:g'.length<1099511627776) :
  Ans tab (.fn fw [v,v']) H fun x H'=>x=.bool (pQ n c g n' c' g')/\Kp H H':=by
 obtain ⟨vc,vg,rfl,hc,hg⟩:=hp;obtain ⟨vc',vg',rfl,hc',hg'⟩:=hp';have oc:=hc.one;have og:=hg.one;have oc':=hc'.one;have og':=hg'.one;refine bz C.q21 zU fun T hl g0 g1=>?_;refine zW (cr hl g0 g1 (kg oc og) (kg oc' og')) ?_;refine AnsH.eq (vX C (n:=n) (c:=c) (g:=g) zF ⟨vc,vg,rfl,hc.mono (zG H),hg.mono (zG H)⟩) fun H2 hk2=>?_;obtain ⟨k2,_,w2⟩:=zT H zK hk2;have d0:=hk2.get (b:=H.next) (e:=.cells [.int .i64 (n:Int),vc,vg] ah true) (cR);have d1:=hk2.get (b:=H.next+1) (e:=.cells [.int .i64 (n':Int),vc',vg'] ah true) (cR);cases hq:lP c g || decide (4<n) with
 | true =>
  refine zW (aC hl g0 g1) ?_;exact ⟨by unfold pQ; rw [hq]; simp,zK⟩
 | false =>
  refine zW (aV hl g0 g1 d1) ?_;refine AnsH.eq (vX C (n:=n') (c:=c') (g:=g') zF ⟨vc',vg',rfl,(hc'.mono k2.sub).mono (zG H2),(hg'.mono k2.sub).mono (zG H2)⟩) fun H3 hk3=>?_;obtain ⟨k23,_,_⟩:=zT H2 zK hk3;have k3:Kp H H3:=k2.trans k23;have le_k3:=k3.le;have d0b:=k23.get d0;have d1b:=k23.get d1;cases hq2:lP c' g' || decide (4<n') with
  | true =>
   refine zW (aC hl g0 g1) ?_;exact ⟨by unfold pQ; rw [hq,hq2]; simp,zK⟩
  | false =>
   have e1:IntKind.i64.wrap ((c.length:Int)+(c'.length:Int))=(c.length:Int)+(c'.length:Int):=by rw [wrap_i64] <;> omega
   have e2:IntKind.i64.wrap ((g.length:Int)+(g'.length:Int))=(g.length:Int)+(g'.length:Int):=by rw [wrap_i64] <;> omega
   by_cases q1:(8:Int)<(c.length:Int)+(c'.length:Int)
   ·have q1':8<c.length+c'.length:=zO;refine zW (kj hl g0 g1 d0b d1b hc.lenV hc'.lenV e1 q1) ?_;exact ⟨by unfold pQ; rw [hq,hq2]; simp [q1'],zK⟩
   ·have q1':¬ 8<c.length+c'.length:=zO;refine zW (Al hl g0 g1 d0b d1b hc.lenV hc'.lenV e1 q1 hg.lenV hg'.lenV e2) ?_;refine ⟨?_,zK⟩;unfold pQ;rw [hq,hq2];congr 1;rw [We];simp [q1'];omega
def EW {α:Type} {E:fh α} {ty ty2 bytes id b:Nat} {H:Heap} {w:AV} {cs:List AV} (hb:H.get b=some (.cells cs ty true)) (hy:SlV E ty2 H w []):cN H id E.sz bytes ty (.own b 0 0 0 E.sz true) w=some (.own b 0 0 0 E.sz true,H):=by
 obtain ⟨news,hr,-,hc⟩:=hy;obtain ⟨m',hm',hlen⟩:=hr.length;obtain ⟨-,-,m2,hm2,hf⟩:=hr;rw [hm'] at hm2; cases hm2;have hmm:m'=0:=WI E.pos (by rw [<- hlen,hc.1]; rfl);subst hmm;unfold cN;rw [hm'];simp only;rw [hf];simp only [cI,hb]
 simp
def Bq.weak {α:Type} {E:fh α} {ty:Nat} {H0 H0' H:Heap} {v:AV} {l:List α} (h:Bq E ty H0 H v l) (hn:H0'.next<=H0.next):Bq E ty H0' H v l:=by
 rcases h with h | ⟨b,ex,cells,h1,h2,h3,h4⟩
 ·exact .inl h
 ·exact .inr ⟨b,ex,cells,h1,h2,h3,Oc hn h4⟩
def BB (C:Code tab) (hw:Wf H) {l:List (List Int × Bool)} (hs:SlV conE t_api_Con H s l) (hbig:l.length<1099511627776):Ans tab (.fn cL [s]) H fun v H'=>Kp H H'/\Bq conE t_api_Con H H' v l:=by
 refine cQ C.q41 zU fun T hl g0=>?_;rcases hs.nilcase with ⟨rfl,rfl⟩ | hne
 ·have e:bX .eql .sl .nilSl .nilSl=some (.bool true):=rfl;refine zW (aC hl g0 e) ?_;exact ⟨zK,Bq.nil⟩
 ·have ef:cX ([]:List AV) []=some []:=rfl;refine zW (aV hl g0 hne ef) ?_;have k1:Kp H ((H.up 7).put (H.next+3) (.cells [] t_api_Con true)):=zK;have le_k1:=k1.le;have hO:Own conE t_api_Con H ((H.up 7).put (H.next+3) (.cells [] t_api_Con true)) (H.next+3) true (.own (H.next+3) 0 0 0 2 true) ([]:List (List Int × Bool)):=⟨_,rfl,au _ _ _,Cells.nil _ _,zO⟩
  by_cases h0:0<l.length
  ·obtain ⟨v',H2,e1,h2,hk2,hn2,hs2,ho⟩:=SlV.app (l:=[]) (id:=H.next+5) (bytes:=32) hO.sl k1 (hs.mono k1.sub) zO (by show _<H.next+7; omega) (by rw [az zO]; exact hw.fresh (b:=H.next+5) zO) (by simp; omega) (by simp; omega);have e1':cN ((H.up 7).put (H.next+3) (.cells [] t_api_Con true)) (H.next+5) 2 32 t_api_Con (.own (H.next+3) 0 0 0 2 true) s=some (v',H2):=e1;refine zW (aC hl g0 e1') ?_;exact ⟨hk2,.inr ⟨_,_,ho h0⟩⟩
  ·have hl0:l=[]:=Vp zO;subst hl0;have e1':cN ((H.up 7).put (H.next+3) (.cells [] t_api_Con true)) (H.next+5) 2 32 t_api_Con (.own (H.next+3) 0 0 0 2 true) s=some (.own (H.next+3) 0 0 0 2 true,(H.up 7).put (H.next+3) (.cells [] t_api_Con true)):=EW (E:=conE) (au _ _ _) (hs.mono k1.sub);refine zW (aC hl g0 e1') ?_;exact ⟨k1,.inr ⟨_,_,hO⟩⟩
set_option maxHeartbeats 4000000 in
def I8 (C:Code tab) (hw:Wf H) {v w:AV} {n e f m m2:Nat} {K:List (List Int × Bool)} {G:List (Nat × List Int)} {a:List Int} {b:Bool} (hp:PolyV H v n K G) (ho:PolyOK n e f K G) (ha:RowV H w a) (hal:a.length=n+1) (hab:Lin.Bd (2^m) a) (hl':K.length+1<=60) (hm:f<=m) (hm3:m<=300000) (hG:∀ x∈Lin.gensP n (K++[(a,b)]),Lin.Bd (2^m2) x.2) (hm2:m2<=300000) :
  Ans tab (.fn pB [v,.agg [w,.bool b]]) H fun x H'=>mB H' x n (Lin.gensP n (K++[(a,b)]))/\Kp H H':=by
 obtain ⟨vc,vg,rfl,hc,hg⟩:=hp;have oc:=hc.one;have og:=hg.one;have oa:=ha.one;refine bz C.q15 zU fun T hl g0 g1=>?_;refine zW (cr hl g0 g1 (kg oc og) (Ab oa)) ?_;refine AnsH.eq (rU C (n:=n) (K:=K) (G:=G) zF ⟨vc,vg,rfl,hc.mono (zG H),hg.mono (zG H)⟩ ho) fun H2 hk2=>?_;obtain ⟨k2,_,w2⟩:=zT H zK hk2;have d0:H2.get H.next=some (.cells [.int .i64 (n:Int),vc,vg] ah true):=hk2.get (cR)
 have d1:H2.get (H.next+1)=some (.cells [w,.bool b] t_api_Con true):=hk2.get (cR);have d2:H2.get (H.next+2)=some (.cells [.int .i64 0,.nilSl,.nilSl] ah true):=hk2.get (cR);have lt2:=w2 _ _ d2;refine zW (aV hl g0 g1 @aD) ?_;refine aH ?_;refine zD (eW hl g0 g1 d0 d1 d2) ?_;refine AnsH.use (BB C zF ((hc.mono k2.sub).mono (zG H2)) zO) ?_;rintro v3 H3 ⟨hk3,hq3⟩;obtain ⟨k23,_,_⟩:=zT H2 zK hk3;have k3:Kp H H3:=k2.trans k23;have le_k3:=k3.le;have w3:=k3.wf;have d0b:=k23.get d0;have d1b:=k23.get d1;have d2b:=k23.get d2;have n3:H2.next+15<=H3.next:=hk3.le
 have f6:H3.get (H2.next+8)=none:=hk3.free (show H2.next+8<H2.next+15 by omega) (w2.fresh (b:=H2.next+8) zO);have f7:H3.get (H2.next+9)=none:=hk3.free (show H2.next+9<H2.next+15 by omega) (w2.fresh (b:=H2.next+9) zO);have q3:Bq conE t_api_Con H2 H3 v3 K:=hq3.weak (by show H2.next<=H2.next+15; omega);obtain ⟨N,H4,e4,q4,k24,n4,-,-⟩:=Bq.push (ty2:=t_api_Con) (bytes:=32) (id:=H2.next+9) (id2:=H2.next+8) (cs:=[w,.bool b]) (a:=(a,b)) q3 zU k23 ⟨w,rfl,ha.mono k3.sub⟩ zO zO f7 zO zO f6 zO zO zO;have e4:cN (H3.put (H2.next+8) (.cells [w,.bool b] t_api_Con true)) (H2.next+9) 2 32 t_api_Con v3 (.own (H2.next+8) 0 1 1 2 true)=some (.own (H2.next+9) 0 N N 2 false,H4):=e4;have k4:Kp H H4:=k2.trans k24;have le_k4:=k4.le;have w4:=k4.wf;have d0c:=k24.get d0;have d2c:=k24.get d2;refine zD (rM hl g0 g1 d0 d1 d2 d0b d1b d2b e4) ?_;refine AnsH.use (SH C (n:=n) (m:=m) (m2:=m2) (l:=K++[(a,b)]) zF (q4.sl.mono (zG H4)) ho.dim (by rw [Vg]; exact hl') (fun c hc=>(Vf.1 hc).elim (fun h=>⟨(ho.rowK c h).1,ES (ho.rowK c h).2 hm⟩) fun h=>by rw [Vh] at h; subst h; exact ⟨hal,hab⟩) hm3 hG hm2) ?_;rintro v5 H5 ⟨hm5,hk5⟩;obtain ⟨k45,_,_⟩:=zT H4 zK hk5;have k5:Kp H H5:=k4.trans k45;have le_k5:=k5.le;have w5:=k5.wf;have d2d:=k45.get d2c;have lt5:=w5 _ _ d2d;rcases hm5 with ⟨rfl,hm5⟩ | ⟨p,rfl,⟨vc4,vg4,rfl,hc4,hg4⟩,h1,h2⟩
 ·refine zD (xK hl g0 g1 d0 d1 d2 d0b d1b d2b d0c d2c d2d @mF) ?_;exact ⟨.inl ⟨rfl,hm5⟩,zK⟩
 ·have oc4:=hc4.one;have og4:=hg4.one;refine zD (xK hl g0 g1 d0 d1 d2 d0b d1b d2b d0c d2c d2d @mF) ?_;refine ⟨.inr ⟨_,rfl,⟨vc4,vg4,rfl,?_,?_⟩,h1,h2⟩,zK⟩
  ·have m3:NoTy (t_api_Con :: conE.tys) H5 (H.next+2):=NoTy.ty d2d zU;exact SlV.monoT (E:=conE) zS hc4
  ·have m3:NoTy (ak :: genE.tys) H5 (H.next+2):=NoTy.ty d2d zU;exact SlV.monoT (E:=genE) zS hg4
def uY (C:Code tab) (hw:Wf H) {l:List Int} {ty:Nat} (hs:xJ (F9 .i64) ty H s l) (h64:l.length<=64) (hz:∀ z∈l,-9223372036854775808<=z/\z<9223372036854775808) :
  Ans tab (.fn gu [s]) H fun v H'=>∃ w,v=.agg [w,.bool false]/\RowV H' w l/\Kp H H':=by
 refine cQ C.q14 zU fun T hl g0=>?_;refine zW (aB hl g0) ?_;refine AnsH.use (PE C zF (hs.mono (zG H)) h64 hz) ?_;rintro v H2 ⟨hr,hk2⟩;obtain ⟨k2,_,w2⟩:=zT H zK hk2;have d0:=hk2.get (b:=H.next) (e:=.cells [.nilSl,.bool false] t_api_Con true) (cR);have lt0:=w2 _ _ d0;have ov:=hr.one;have m3:NoTy (aa :: intE.tys) H2 H.next:=NoTy.ty d0 zU
 refine zW (aV hl g0 d0 (xF ov)) ?_;exact ⟨v,rfl,SlV.monoT (E:=intE) zS hr,zK⟩
def IG {a b:Int} (ha:a.natAbs<=9) (hb:b.natAbs<=9):∀ c∈[(([-a,1]:List Int),false),([b,-1],false)],c.1.length=1+1/\Lin.Bd (2^4) c.1:=fun c hc=>by
 have key:∀ x y:Int,x.natAbs<=9->y.natAbs<=9->Lin.Bd (2^4) [x,y]:=fun x y hx hy i=>by
  match i with
  | 0=>show x.natAbs<=16; omega
  | 1=>show y.natAbs<=16; omega
  | i+2=>simp [Lin.at_]
 rcases Vt.1 hc with rfl | hc
 ·exact ⟨rfl,key _ _ zO zO⟩
 ·rw [Vh] at hc; subst hc;exact ⟨rfl,key _ _ hb zO⟩
set_option maxHeartbeats 2000000 in
def ij (C:Code tab) (hw:Wf H) {a b:Int} (ha:a.natAbs<=9) (hb:b.natAbs<=9) {g:List (Nat × List Int)} {K:List (List Int × Bool)} (hG:Lin.gensP 1 [([-a,1],false),([b,-1],false)]=g) (hK:Lin.consP 1 g=K) (lg:g.length<1024) (lK:K.length<1024) :
  Ans tab (.fn eN [.int .i64 a,.int .i64 b]) H fun v H'=>PolyV H' v 1 K g/\Kp H H':=by
 refine bz C.q13 zU fun T hl g0 g1=>?_;have ea:IntKind.i64.wrap (0-a) = -a:=by rw [wrap_i64] <;> omega
 refine zW (aV hl g0 g1 ea) ?_;have e0:Emp (H.up 16) H.next (H.next+16):=Emp.start hw
 refine AnsH.use (uY C (l:=[-a,1]) zF (yP (by refine uv ?_; rfl)) (by simp) (by simp; omega)) ?_;rintro _ H2 ⟨v3,rfl,r3,hk2⟩;obtain ⟨k2,_,w2⟩:=zT H zK hk2;have d0:H2.get H.next=some (.cells [.int .i64 0,.nilSl,.nilSl] ah true):=hk2.get (cR)
 have e2:Emp H2 (H.next+4) (H.next+16):=(((e0.put (p:=H.next) (a':=H.next+1) zO zO).put zO zO).keep hk2)
 have n2:=e2.1;have o3:=r3.one;refine zW (aC hl g0 g1) ?_;refine AnsH.use (uY C (l:=[b,-1]) zF (yP (by refine uv ?_; rfl)) (by simp) (by simp; omega)) ?_;rintro _ H3 ⟨v5,rfl,r5,hk3⟩;obtain ⟨k3,_,w3⟩:=zT H zK hk3;have e3:Emp H3 (H.next+7) (H.next+16):=(e2.put zO zO).keep hk3;have n3:=e3.1;have s23:Sub H2 H3:=(e2.sub (p:=H.next+6) zO zO).trans hk3.sub;have o5:=r5.one;have d0b:=s23.get _ _ d0;refine zW (aC hl g0 g1) ?_;obtain ⟨G3,hG3⟩:∃ G,G=H3.put (H.next+8) (.cells [v3,.bool false,v5,.bool false] t_api_Con true):=⟨_,rfl⟩
 rw [<- hG3];have e3':Emp G3 (H.next+9) (H.next+16):=by rw [hG3]; exact e3.put zO zO
 have s3:Sub H3 G3:=by rw [hG3]; exact e3.sub zO zO
 have k3':Kp H G3:=by rw [hG3]; exact zK
 have w3':=k3'.wf;have n3':=e3'.1;have d0c:=s3.get _ _ d0b;have R1:SlV conE t_api_Con G3 (.own (H.next+8) 0 2 2 2 true) [([-a,1],false),([b,-1],false)]:=Q4 (by rw [hG3]; exact au _ _ _) (r3.mono (s23.trans s3)) (r5.mono s3);have sb:=IG ha hb;have gb:=tD (n:=1) zO sb;refine AnsH.use (SH C (n:=1) (m:=4) (m2:=64*(4+4)) zF R1 zO (by simp) sb zO (fun x hx=>(gb x hx).2) zO) ?_;rintro v4 H4 ⟨hm4,hk4⟩;have k4:Kp H H4:=k3'.trans hk4;have le_k4:=k4.le;have w4:=k4.wf;have e4:Emp H4 (H.next+9) (H.next+16):=e3'.keep hk4;have n4:=e4.1;have d0d:=hk4.get d0c;rw [hG] at hm4;unfold mB at hm4;rw [hK] at hm4;rcases hm4 with ⟨-,hm4⟩ | ⟨p,rfl,⟨vc,vg,rfl,hc,hg⟩,-,-⟩
 ·omega
 have oc:=hc.one;have og:=hg.one;obtain ⟨H5,hH5⟩:∃ H5,H5=((H4.up 2).put (H.next+13) (.cells [.int .i64 0,.nilSl,.nilSl] ah true)).put (H.next+13) (.cells [.int .i64 ((1:Nat):Int),vc,vg] ah true):=⟨_,rfl⟩
 have f13:=e4.2 (H.next+13) zO zO;have s45:Sub H4 H5:=by rw [hH5]; exact ((Sub.bump H4 2).put f13 _).put f13 _
 have d0e:=s45.get _ _ d0d;have k5:Kp H H5:=by rw [hH5]; exact zK
 have le_k5:=k5.le;have n5:H5.next=H4.next+2:=by rw [hH5]; rfl
 refine zW (cr hl g0 g1 @mF d0d) ?_;rw [<- hH5];refine ⟨⟨vc,vg,rfl,?_,?_⟩,zK⟩
 ·have m3:NoTy (t_api_Con :: conE.tys) H5 H.next:=NoTy.ty d0e zU
  exact SlV.monoT (E:=conE) zS (hc.mono s45)
 ·have m3:NoTy (ak :: genE.tys) H5 H.next:=NoTy.ty d0e zU
  exact SlV.monoT (E:=genE) zS (hg.mono s45)
def yS (C:Code tab) (hw:Wf H) {v v':AV} {n n':Nat} {c c':List (List Int × Bool)} {g g':List (Nat × List Int)} (hp:PolyV H v n c g) (hp':PolyV H v' n' c' g') (hc1:c.length<1099511627776) (hc2:∀ r∈c,r.1.length<1099511627776/\∀ z∈r.1,St z) (hg1:g.length<1099511627776) (hg2:∀ r∈g,r.2.length<1099511627776/\∀ z∈r.2,St z) :
  Ans tab (.fn hZ [v,.int .i64 0,v']) H fun x H'=>x=.bool (decide (n=n'/\c=c'/\g=g'))/\Kp H H':=by
 obtain ⟨vc,vg,rfl,hc,hg⟩:=hp;obtain ⟨vc',vg',rfl,hc',hg'⟩:=hp';have oc:=hc.one;have og:=hg.one;have oc':=hc'.one;have og':=hg'.one;refine lU C.q19 zU fun T hl g0 g1 g2=>?_;refine zW (eW hl g0 g1 g2 (kg oc og) (kg oc' og')) ?_;refine AnsH.eq (rS C (n:=n) (n':=n') zF ⟨vc,vg,rfl,hc.mono (zG H),hg.mono (zG H)⟩ ⟨vc',vg',rfl,hc'.mono (zG H),hg'.mono (zG H)⟩ hc1 hc2 hg1 hg2) fun H2 hk2=>?_;obtain ⟨k2,_,_⟩:=zT H zK hk2;refine zW (aV hl g0 g1 g2) ?_;exact zK
set_option maxHeartbeats 2000000 in
def Dw (C:Code tab) (hw:Wf H) :
  Ans tab (.fn oh [.int .i64 1]) H fun x H'=>∃ p,x=.tup [p,.int .i64 0]/\PolyV H' p 1 [([-1,0],false)] []/\Kp H H':=by
 have hmk:∀ H':Heap,Ho H' (H.next+10) aa 2 32 [.bool false,.nilSl] (.int .i64 2) (.int .i64 2)=some (.own (H.next+10) 0 2 2 2 true,H'.put (H.next+10) (.cells [.bool false,.nilSl,.bool false,.nilSl] aa true)):=fun H'=>iW H' (H.next+10) aa 2 32 [.bool false,.nilSl] .i64 .i64 2 zU zU rfl;have ej:IntKind.i64.wrap (1+1)=2:=by rw [wrap_i64] <;> omega
 have ej2:IntKind.i64.wrap 2=2:=by rw [wrap_i64] <;> omega
 refine cQ C.q18 zU fun T hl g0=>?_;refine zW (cr hl g0 ej ej2 hmk) ?_;refine AnsH.use (nf C (n:=-1) zF zO zO) ?_;rintro v H2 ⟨⟨w,rfl,hn2⟩,hk2⟩;obtain ⟨k2,_,w2⟩:=zT H zK hk2;have ow:=hn2.one;have n2:H.next+16<=H2.next:=hk2.le
 have d0:H2.get H.next=some (.cells [.int .i64 0,.nilSl,.nilSl] ah true):=hk2.get (cR)
 have hb2:=hk2.get (b:=H.next+10) (e:=.cells [.bool false,.nilSl,.bool false,.nilSl] aa true) (cR);have dm:decide ((-1:Int)<0)=true:=by decide
 have hst:Db (some (.cells [.bool false,.nilSl,.bool false,.nilSl] aa true)) 2 0 (.agg [.bool true,w])=some (.cells [.bool true,w,.bool false,.nilSl] aa true):=iN (Ee (aQ _) ow) zU;have hio:co 2 (.own (H.next+10) 0 2 2 2 true) (.int .i64 0)=some (.ptr (H.next+10) 0):=mj (j:=0) zO;have hbd:ia [.nilSl,.bool false] [((0,1),.own (H.next+10) 0 2 2 2 true)]=some (.agg [.own (H.next+10) 0 2 2 2 true,.bool false]):=xF (bo _ _ _ _ _ _) _ _;have lt2:=w2 _ _ hb2;refine zW (gf hl dm hio hb2 hst g0 hbd) ?_;obtain ⟨G,hG⟩:∃ G,G=((H2.up 9).put (H.next+10) (.cells [.bool true,w,.bool false,.nilSl] aa true)).put (H2.next+3) (.cells [.own (H.next+10) 0 2 2 2 true,.bool false] t_api_Con true):=⟨_,rfl⟩
 have kG:Kp H G:=by rw [hG]; exact zK
 have wG:=kG.wf;have m3:NoTy [ae] H2 (H.next+10):=NoTy.ty hb2 zU;have hwG:cp G w 1:=by rw [hG]; exact SlV.monoT (E:=bT cm) zS hn2
 have gG:G.get (H.next+10)=some (.cells [.bool (decide ((-1:Int)<0)),w,.bool (decide ((0:Int)<0)),.nilSl] aa true):=by rw [hG,az zO,au]; rfl
 have rG:RowV G (.own (H.next+10) 0 2 2 2 true) [-1,0]:=DO (x:=-1) (y:=0) (H:=G) hwG (fM G) (Kp.refl wG).sub gG;have gc:SlV conE t_api_Con G (.own (H2.next+3) 0 1 1 2 true) [([-1,0],false)]:=Q5 (by rw [hG]; exact au _ _ _) rG;rw [<- hG];have nG:H2.next+9<=G.next:=by rw [hG]; exact wT _
 have d0G:G.get H.next=some (.cells [.int .i64 0,.nilSl,.nilSl] ah true):=by rw [hG,az zO,az zO]; exact d0
 have hgn:Lin.gensP 1 [([-1,0],false)]=[]:=Lin.none_empty (n:=1);refine AnsH.use (SH C (n:=1) (m:=4) (m2:=4) zF gc zO (by simp) (fun c hc=>by
  rw [Vh] at hc; subst hc;exact ⟨rfl,fun i=>by
   match i with
   | 0=>decide
   | 1=>decide
   | i+2=>simp [Lin.at_]⟩) zO (by rw [hgn]; intro x hx; cases hx) zO) ?_
 rintro v4 H4 ⟨hm4,hk4⟩;have k4:Kp H H4:=kG.trans hk4;have le_k4:=k4.le;have w4:=k4.wf;have d0d:=hk4.get d0G;have lt4:=w4 _ _ d0d;rw [hgn] at hm4;rcases hm4 with ⟨-,hm4⟩ | ⟨p,rfl,⟨vc,vg,rfl,hc,hg⟩,-,-⟩
 ·have:(Lin.consP 1 []).length=1:=rfl
  simp only [Xj] at hm4;omega
 have hc:SlV conE t_api_Con H4 vc [([-1,0],false)]:=hc;have oc:=hc.one;have og:=hg.one;refine zW (aV hl g0 @mF d0d) ?_;refine ⟨_,rfl,⟨vc,vg,rfl,?_,?_⟩,zK⟩
 ·have m4:NoTy (t_api_Con :: conE.tys) H4 H.next:=NoTy.ty d0d zU
  exact SlV.monoT (E:=conE) zS hc
 ·have m4:NoTy (ak :: genE.tys) H4 H.next:=NoTy.ty d0d zU
  exact SlV.monoT (E:=genE) zS hg
end
open Go
def MU {tab:Nat->Option aw} {rd:Bool} {c:ACode} {T:Tm} {H:Heap} {K:Ex->Tm->Heap->Prop} (p:Tm->Prop) (hp:p T) (h:∀ T',p T'->WC tab rd c T' H K):WC tab rd c T H K:=h T hp
def vO {tab:Nat->Option aw} {rd:Bool} {c:ACode} {T:Tm} {H:Heap} {K:Ex->Tm->Heap->Prop} (p:Tm->Prop) (hp:p T) (h:∀ T',p T'->WB tab rd c T' H K):WB tab rd c T H K:=h T hp
section
variable {tab:Nat->Option aw} {H:Heap} {s:AV}
def ok1 {K:List (List Int × Bool)} {G:List (Nat × List Int)} (h1:Lin.gensP 1 K=G) (h2:Lin.consP 1 G=K) (h:(K.all (fun x=>decide (x.1.length=2) && x.1.all (fun a=>decide (a.natAbs<=16))) && G.all (fun x=>x.2.all (fun a=>decide (a.natAbs<=16))) && decide (K.length<=60) && decide (G.length<60))=true):PolyOK 1 4 4 K G:=by
 simp only [Vy,Vq,decide_eq_true_eq] at h;obtain ⟨⟨⟨h3,h4⟩,h5⟩,h6⟩:=h;exact ⟨⟨fun c hc=>(h3 c hc).1,h1,h2⟩,zO,.inl h5,zO,fun c hc=>Lin.bd_small4 (Vq.2 fun a ha=>decide_eq_true ((h3 c hc).2 a ha)),fun x hx=>Lin.bd_small4 (Vq.2 fun a ha=>decide_eq_true (h4 x hx a ha)),zO,zO⟩
def P7:PolyOK 1 4 4 [([-1,1],false),([3,-1],false)] [(3,[1,1]),(3,[1,3])]:=ok1 Lin.g13 Lin.k13 zU
def ok23:PolyOK 1 4 4 [([-2,1],false),([3,-1],false)] [(3,[1,2]),(3,[1,3])]:=ok1 Lin.g23 Lin.k23 zU
def RG:PolyOK 1 4 4 [([-5,1],true)] [(3,[1,5])]:=ok1 Lin.g55b Lin.k55 zU
def ok15:PolyOK 1 4 4 [([-1,1],false),([5,-1],false)] [(3,[1,1]),(3,[1,5])]:=ok1 Lin.g15 Lin.k15 zU
def RH:PolyOK 1 4 4 [([-4,1],false),([9,-1],false)] [(3,[1,4]),(3,[1,9])]:=ok1 Lin.g49 Lin.k49 zU
def ok00:PolyOK 1 4 4 [([-1,0],false)] []:=ok1 (Lin.none_empty (n:=1)) rfl zU
def LZ {H:Heap} {x:AV} {K:List (List Int × Bool)} {G:List (Nat × List Int)} (h:mB H x 1 G) (ok:PolyOK 1 4 4 K G):∃ vc vg,x=.tup [.agg [.int .i64 1,vc,vg],.int .i64 0]/\SlV conE t_api_Con H vc K/\SlV genE ak H vg G:=by
 have e:=ok.own.cons;have h1:=ok.many;have h2:=ok.lenK;unfold mB at h;rw [e] at h;rcases h with ⟨-,h⟩ | ⟨p,rfl,⟨vc,vg,rfl,hc,hg⟩,-,-⟩
 ·omega
 ·exact ⟨vc,vg,rfl,hc,hg⟩
set_option maxHeartbeats 1000000 in
def DW (C:Code tab) (hw:Wf H):Ans tab (.fn fy []) H fun v H'=>v=.bool true/\Kp H H':=by
 refine RP C.q1 fun T hl=>?_;refine zW hl ?_;refine AnsH.use (ij C (a:=1) (b:=3) zF zU zU Lin.g13 Lin.k13 zU zU) ?_;rintro _ H2 ⟨⟨vc,vg,rfl,hc,hg⟩,hk2⟩;obtain ⟨k2,_,w2⟩:=zT H zK hk2;have oc:=hc.one;have og:=hg.one;have n2:H.next+4<=H2.next:=hk2.le
 have f2:H2.get (H.next+2)=none:=hk2.free (show H.next+2<H.next+4 by omega) (hw.fresh (b:=H.next+2) zO);obtain ⟨G2,hG2⟩:∃ G2,G2=(H2.put (H.next+2) (.cells [.int .i64 0,.nilSl,.nilSl] ah true)).put (H.next+2) (.cells [.int .i64 ((1:Nat):Int),vc,vg] ah true):=⟨_,rfl⟩
 have s2:Sub H2 G2:=by rw [hG2]; exact (aP f2).put f2 _
 have kG2:Kp H G2:=by rw [hG2]; exact zK
 have wG2:=kG2.wf;have dP:G2.get (H.next+2)=some (.cells [.int .i64 ((1:Nat):Int),vc,vg] ah true):=by rw [hG2]; exact au _ _ _
 have hc2:=hc.mono s2;have hg2:=hg.mono s2;obtain ⟨P,hP⟩:∃ P,P=H.next+2:=⟨_,rfl⟩
 have ltP:=wG2 _ _ dP;refine zW (aC hl @mF @aD) ?_;rw [<- hG2,<- hP];rw [<- hP] at dP ltP;refine aH ?_;refine zD (aB hl dP) ?_;refine AnsH.use (uY C (l:=[-2,1]) zF (yP (by refine uv ?_; rfl)) (by simp) (by simp)) ?_;rintro _ H3 ⟨v3,rfl,r3,hk3⟩;obtain ⟨k3,_,w3⟩:=zT G2 zK hk3;have e3:Emp H3 (G2.next+2) (G2.next+10):=((Emp.start wG2 (k:=10)).put (p:=G2.next+1) zO zO).keep hk3;have o3:=r3.one;have dP3:=k3.get dP;refine zD (aC hl dP dP3) ?_;refine AnsH.use (I8 C (n:=1) (m:=4) (m2:=4) (a:=[-2,1]) (b:=false) zF ⟨vc,vg,rfl,(hc2.mono k3.sub).mono (zG H3),(hg2.mono k3.sub).mono (zG H3)⟩ P7 (r3.mono (zG H3)) rfl (Lin.bd_small4 zU) zU zO zO (by intro x hx; exact ok23.bG x (by rw [<- Lin.m23]; exact hx)) zO) ?_;rintro x4 H4 ⟨hm4,hk4⟩;have hm4:mB H4 x4 1 [(3,[1,2]),(3,[1,3])]:=by rw [<- Lin.m23]; exact hm4
 obtain ⟨va,vb,rfl,ha,hb⟩:=LZ hm4 ok23;obtain ⟨k34,_,_⟩:=zT H3 zK hk4;have k4:Kp G2 H4:=k3.trans k34;have le_k4:=k4.le;have w4:=k4.wf;have e4:Emp H4 (G2.next+2) (G2.next+10):=e3.keep k34;have n4:=e4.1;have oa:=ha.one;have ob:=hb.one;have f4:=e4.2 (G2.next+7) zO zO;obtain ⟨G4,hG4⟩:∃ G4,G4=(H4.put (G2.next+7) (.cells [.int .i64 0,.nilSl,.nilSl] ah true)).put (G2.next+7) (.cells [.int .i64 1,va,vb] ah true):=⟨_,rfl⟩
 have s4:Sub H4 G4:=by rw [hG4]; exact (aP f4).put f4 _
 have kG4:Kp G2 G4:=by rw [hG4]; exact zK
 have wG4:=kG4.wf;have dA:G4.get (G2.next+7)=some (.cells [.int .i64 1,va,vb] ah true):=by rw [hG4]; exact au _ _ _
 obtain ⟨A,hA⟩:∃ A,A=G2.next+7:=⟨_,rfl⟩
 have ltA:=wG4 _ _ dA;have dP4:=kG4.get dP;refine zD (cr hl dP dP3 @mF @aD) ?_;rw [<- hG4,<- hA];rw [<- hA] at dA ltA;clear hm4;have hc4:=(hc2.mono k4.sub).mono s4;have hg4:=(hg2.mono k4.sub).mono s4;have ha4:=ha.mono s4;have hb4:=hb.mono s4;refine aH ?_;refine zD (aB hl dP4) ?_;refine AnsH.use (ij C (a:=5) (b:=5) zF zU zU Lin.g55 Lin.k55 zU zU) ?_;rintro _ H5 ⟨⟨vc5,vg5,rfl,hc5,hg5⟩,hk5⟩;obtain ⟨k5,_,w5⟩:=zT G4 zK hk5;have e5:Emp H5 G4.next (G4.next+9):=(Emp.start wG4 (k:=9)).keep hk5
 have oc5:=hc5.one;have og5:=hg5.one;have dP5:=k5.get dP4;refine zD (aC hl dP4 dP5) ?_;have hkh:Lin.consP 1 ([(3,[1,1]),(3,[1,3])]++[(3,[1,5])])=[([-1,1],false),([5,-1],false)]:=Lin.kh;refine AnsH.use (I9 C (n:=1) (m:=4) (m2:=4) (m3:=4) zF ⟨vc,vg,rfl,(hc4.mono k5.sub).mono (zG H5),(hg4.mono k5.sub).mono (zG H5)⟩ ⟨vc5,vg5,rfl,hc5.mono (zG H5),hg5.mono (zG H5)⟩ P7 RG zU zO zO zO (by rw [hkh]; exact ok15.bK) zO (by rw [hkh,Lin.g15]; exact ok15.bG) zO (by rw [hkh]; decide)) ?_;rintro x6 H6 ⟨hm6,hk6⟩;have hm6:mB H6 x6 1 [(3,[1,1]),(3,[1,5])]:=by
  unfold Ie at hm6;rw [hkh,Lin.g15] at hm6;rcases hm6 with ⟨-,h⟩ | h
  ·simp at h
  ·exact h
 obtain ⟨vd,ve,rfl,hd,he⟩:=LZ hm6 ok15;clear hm6;obtain ⟨k56,_,_⟩:=zT H5 zK hk6;have k6:Kp G4 H6:=k5.trans k56;have le_k6:=k6.le;have w6:=k6.wf;have e6:Emp H6 G4.next (G4.next+9):=e5.keep k56
 have n6:=e6.1;have od:=hd.one;have oe:=he.one;have f6:=e6.2 (G4.next+6) zO zO;obtain ⟨G6,hG6⟩:∃ G6,G6=(H6.put (G4.next+6) (.cells [.int .i64 0,.nilSl,.nilSl] ah true)).put (G4.next+6) (.cells [.int .i64 1,vd,ve] ah true):=⟨_,rfl⟩
 have s6:Sub H6 G6:=by rw [hG6]; exact (aP f6).put f6 _
 have kG6:Kp G4 G6:=by rw [hG6]; exact zK
 have wG6:=kG6.wf;have dD:G6.get (G4.next+6)=some (.cells [.int .i64 1,vd,ve] ah true):=by rw [hG6]; exact au _ _ _
 obtain ⟨D,hD⟩:∃ D,D=G4.next+6:=⟨_,rfl⟩
 have ltD:=wG6 _ _ dD;have dP6:=kG6.get dP4;have dA6:=kG6.get dA;refine zD (cr hl dP4 dP5 @mF @aD) ?_;rw [<- hG6,<- hD];rw [<- hD] at dD ltD;have hc6:=(hc4.mono k6.sub).mono s6;have hg6:=(hg4.mono k6.sub).mono s6;have ha6:=(ha4.mono k6.sub).mono s6;have hb6:=(hb4.mono k6.sub).mono s6;have hd6:=hd.mono s6;have he6:=he.mono s6;refine aH ?_;refine zD (aB hl dP6) ?_;refine AnsH.use (ij C (a:=4) (b:=9) zF zU zU Lin.g49 Lin.k49 zU zU) ?_;rintro _ H7 ⟨⟨vc7,vg7,rfl,hc7,hg7⟩,hk7⟩;obtain ⟨k7,_,w7⟩:=zT G6 zK hk7;have e7:Emp H7 G6.next (G6.next+9):=(Emp.start wG6 (k:=9)).keep hk7
 have oc7:=hc7.one;have og7:=hg7.one;have dP7:=k7.get dP6;refine zD (aC hl dP6 dP7) ?_;have hb0:Lin.gensP 1 ([([-1,1],false),([3,-1],false)]++[([-4,1],false),([9,-1],false)])=[]:=Lin.b0;refine AnsH.use (Ja C (n:=1) (m:=4) (m2:=4) zF ⟨vc,vg,rfl,(hc6.mono k7.sub).mono (zG H7),(hg6.mono k7.sub).mono (zG H7)⟩ ⟨vc7,vg7,rfl,hc7.mono (zG H7),hg7.mono (zG H7)⟩ P7 RH zU zO zO zO (by rw [hb0]; exact ok00.bG) zO) ?_;rintro x8 H8 ⟨hm8,hk8⟩;rw [hb0] at hm8;obtain ⟨vx,vy,rfl,hx,hy⟩:=LZ hm8 ok00;clear hm8;obtain ⟨k78,_,_⟩:=zT H7 zK hk8;have k8:Kp G6 H8:=k7.trans k78;have le_k8:=k8.le;have w8:=k8.wf;have e8:Emp H8 G6.next (G6.next+9):=e7.keep k78
 have n8:=e8.1;have ox:=hx.one;have oy:=hy.one;have f8:=e8.2 (G6.next+6) zO zO;obtain ⟨G8,hG8⟩:∃ G8,G8=((H8.up 7).put (G6.next+6) (.cells [.int .i64 0,.nilSl,.nilSl] ah true)).put (G6.next+6) (.cells [.int .i64 1,vx,vy] ah true):=⟨_,rfl⟩
 have s8:Sub H8 G8:=by rw [hG8]; exact ((Sub.bump H8 7).put f8 _).put f8 _
 have nG8:G8.next=H8.next+7:=by rw [hG8]; rfl
 have kG8:Kp G6 G8:=by rw [hG8]; exact zK
 have wG8:=kG8.wf;have dX:G8.get (G6.next+6)=some (.cells [.int .i64 1,vx,vy] ah true):=by rw [hG8]; exact au _ _ _
 obtain ⟨X,hX⟩:∃ X,X=G6.next+6:=⟨_,rfl⟩
 have ltX:=wG8 _ _ dX;have dP8:=kG8.get dP6;have dA8:=kG8.get dA6;have dD8:=kG8.get dD;refine zD (cr hl dP6 dP7 @mF @aD) ?_;rw [<- hG8,<- hX];rw [<- hX] at dX ltX;have hc8:=(hc6.mono k8.sub).mono s8;have hg8:=(hg6.mono k8.sub).mono s8;have ha8:=(ha6.mono k8.sub).mono s8;have hb8:=(hb6.mono k8.sub).mono s8;have hd8:=(hd6.mono k8.sub).mono s8;have he8:=(he6.mono k8.sub).mono s8;have hx8:=hx.mono s8;have hy8:=hy.mono s8;have f8b:G8.get (H8.next+4)=none:=by rw [hG8,az zO,az zO]; exact w8.fresh (b:=H8.next+4) zO
 clear hG8 hG6 hG4 hG2;refine AnsH.use (Dw C zF) ?_;rintro _ H9 ⟨p,rfl,⟨vn,vm,rfl,hn,hm⟩,hk9⟩;have w9:=hk9.wf;have le_hk9:=hk9.le;have on:=hn.one;have om:=hm.one;have f9:H9.get (H8.next+4)=none:=hk9.free (show H8.next+4<G8.next by omega) f8b;obtain ⟨G9,hG9⟩:∃ G9,G9=(H9.put (H8.next+4) (.cells [.int .i64 0,.nilSl,.nilSl] ah true)).put (H8.next+4) (.cells [.int .i64 ((1:Nat):Int),vn,vm] ah true):=⟨_,rfl⟩
 have le9:=hk9.le;have s9:Sub H9 G9:=by rw [hG9]; exact (aP f9).put f9 _
 have dN:G9.get (H8.next+4)=some (.cells [.int .i64 ((1:Nat):Int),vn,vm] ah true):=by rw [hG9]; exact au _ _ _
 have kA8:Kp H G8:=((kG2.trans kG4).trans kG6).trans kG8;have leA8:=kA8.le;have leA6:=(kG2.trans (kG4.trans kG6)).le;have kG9:Kp H G9:=by rw [hG9]; exact (((kA8.trans hk9).put zO zO).put zO (by rw [next_put]; omega))
 have wG9:Wf G9:=kG9.wf;obtain ⟨N,hN⟩:∃ N,N=H8.next+4:=⟨_,rfl⟩
 have ltN:=wG9 _ _ dN;have s89:Sub G8 G9:=hk9.sub.trans s9;have dP9:=s89.get _ _ dP8;have dA9:=s89.get _ _ dA8;have dD9:=s89.get _ _ dD8;have dX9:=s89.get _ _ dX;refine zD (aC hl @mF @aD) ?_;rw [<- hG9,<- hN];rw [<- hN] at dN ltN;have hc9:=hc8.mono s89;have hg9:=hg8.mono s89;have ha9:=ha8.mono s89;have hb9:=hb8.mono s89;have hd9:=hd8.mono s89;have he9:=he8.mono s89;have hx9:=hx8.mono s89;have hy9:=hy8.mono s89;have hn9:=hn.mono s9;have hm9:=hm.mono s9;have lg9:lenV vg=some (.int .i64 2):=hg9.lenV;have ln9:lenV vn=some (.int .i64 1):=hn9.lenV;refine MU (fun T'=>T'.length=66/\ad T' 1=.ptr P 0/\ad T' 2=.ptr A 0/\ad T' 3=.int .i64 0/\ad T' 4=.ptr D 0/\ad T' 5=.int .i64 0/\ad T' 6=.ptr X 0/\ad T' 7=.int .i64 0/\ad T' 8=.ptr N 0/\ad T' 9=.int .i64 0) (zE hl) ?_;clear hl;rintro T' ⟨hl,t1,t2,t3,t4,t5,t6,t7,t8,t9⟩;refine aH ?_;refine zX (Ik hl @aR t1 t2 t3 t4 t5 t6 t7 t8 t9 dP9 lg9 dA9) ?_;refine AnsH.use (ij C (a:=2) (b:=3) zF zU zU Lin.g23 Lin.k23 zU zU) ?_;rintro _ H10 ⟨⟨v10,u10,rfl,hc10,hg10⟩,hk10⟩;obtain ⟨k10,_,w10⟩:=zT G9 zK hk10;have ov10:=hc10.one;have ou10:=hg10.one;have dA10:=k10.get dA9;have dP10:=k10.get dP9;refine zX (QK hl @aR t1 t2 t3 t4 t5 t6 t7 t8 t9 dP9 lg9 dA10 dP10 dA9) ?_;refine AnsH.eq (yS C (n:=1) (n':=1) zF ⟨va,vb,rfl,(ha9.mono k10.sub).mono (zG H10),(hb9.mono k10.sub).mono (zG H10)⟩ ⟨v10,u10,rfl,hc10.mono (zG H10),hg10.mono (zG H10)⟩ zU ok23.smK zU ok23.smG) fun H11 hk11=>?_;rw [decide_eq_true ⟨rfl,rfl,rfl⟩];have k11:Kp G9 H11:=k10.trans (Kp.trans zK hk11);have le_k11:=k11.le;have w11:=k11.wf;have dD11:=k11.get dD9;refine zX (Fd hl @aR t1 t2 t3 t4 t5 t6 t7 t8 t9 dP9 lg9 dA10 dP10 dA9 dD11) ?_;refine AnsH.use (ij C (a:=1) (b:=5) zF zU zU Lin.g15 Lin.k15 zU zU) ?_;rintro _ H12 ⟨⟨v12,u12,rfl,hc12,hg12⟩,hk12⟩;have k12:Kp G9 H12:=k11.trans (Kp.trans zK hk12);have le_k12:=k12.le;have w12:=k12.wf;have ov12:=hc12.one;have ou12:=hg12.one;have dD12:=k12.get dD9;refine zX (BC hl @aR t1 t2 t3 t4 t5 t6 t7 t8 t9 dP9 lg9 dA10 dP10 dA9 dD11 dD12) ?_;refine AnsH.eq (yS C (n:=1) (n':=1) zF ⟨vd,ve,rfl,(hd9.mono k12.sub).mono (zG H12),(he9.mono k12.sub).mono (zG H12)⟩ ⟨v12,u12,rfl,hc12.mono (zG H12),hg12.mono (zG H12)⟩ zU ok15.smK zU ok15.smG) fun H13 hk13=>?_;rw [decide_eq_true ⟨rfl,rfl,rfl⟩];have k13:Kp G9 H13:=k12.trans (Kp.trans zK hk13);have le_k13:=k13.le;have w13:=k13.wf;have dX13:=k13.get dX9;have dN13:=k13.get dN;refine zX (QJ hl @aR t1 t2 t3 t4 t5 t6 t7 t8 t9 dP9 lg9 dA10 dP10 dA9 dD11 dD12 dX13 dN13) ?_;refine AnsH.eq (yS C (n:=1) (n':=1) zF ⟨vx,vy,rfl,(hx9.mono k13.sub).mono (zG H13),(hy9.mono k13.sub).mono (zG H13)⟩ ⟨vn,vm,rfl,(hn9.mono k13.sub).mono (zG H13),(hm9.mono k13.sub).mono (zG H13)⟩ zU ok00.smK zU ok00.smG) fun H14 hk14=>?_;rw [decide_eq_true ⟨rfl,rfl,rfl⟩];have k14:Kp G9 H14:=k13.trans (Kp.trans zK hk14);have le_k14:=k14.le;have w14:=k14.wf;have dN14:=k14.get dN;refine zX (Pg hl @aR t1 t2 t3 t4 t5 t6 t7 t8 t9 dP9 lg9 dA10 dP10 dA9 dD11 dD12 dX13 dN13 dN14 ln9) ?_;exact kG9.trans k14
def Rv (a:AV):Prop:=∃ x u w,a=.agg [.int .i64 x,u,w]/\One u/\One w
def pm:Rv Cc:=⟨0,.nilSl,.nilSl,rfl,bp,bp⟩
def TellP (H:Heap) (d:Int) (p:AV) (K:List (List Int × Bool)) (G:List (Nat × List Int)):Prop :=
 ∃ n:Nat,d=(n:Int)/\n<=3/\PolyV H p n K G/\Lin.Own n K G/\K.length<1024/\G.length<1024
def TellP.mono {H H':Heap} {d:Int} {p:AV} {K:List (List Int × Bool)} {G:List (Nat × List Int)} (h:TellP H d p K G) (hs:Sub H H'):TellP H' d p K G:=by
 obtain ⟨n,h1,h2,h3,h4⟩:=h;exact ⟨n,h1,h2,h3.mono hs,h4⟩
def TellP.pag {H:Heap} {d:Int} {p:AV} {K:List (List Int × Bool)} {G:List (Nat × List Int)} (h:TellP H d p K G):Rv p:=by
 obtain ⟨n,h1,h2,⟨vc,vg,rfl,hc,hg⟩,h4⟩:=h;exact ⟨_,_,_,rfl,hc.one,hg.one⟩
def DU (C:Code tab) (hw:Wf H) {d:Int} {l:List ur} (hs:SlV conQE t_api_Con H s l) (gl:∀ r∈l,jU r.1) (hg:fe 6 l=false) (h3:¬ 3<d) :
  Ans tab (.fn nw [.int .i64 d,s]) H fun v H'=>Kp H H'/\∃ p err,v=.tup [p,.int .i64 err]/\Rv p/\(err=0->∃ K G,TellP H' d p K G):=by
 rcases JV (d:=d) (n:=6) hs gl hg zO zO with hbad | ⟨n,rfl,n4,hsl,ll,hrow⟩
 ·refine (El C hw hs (Gg hg) (by have:=(iY hg).1; omega) hbad).mono ?_;rintro v H2 ⟨rfl,hk⟩;exact ⟨hk,_,_,rfl,pm,fun e=>absurd e hbad⟩
 ·have gb:=tD zO hrow;refine (SH C (n:=n) (m:=64) (m2:=64*(64+4)) hw hsl zO (by rw [B8]; omega) hrow zO (fun x hx=>(gb x hx).2) zO).mono ?_;rintro v H2 ⟨hm,hk⟩;rcases hm with ⟨rfl,-⟩ | ⟨p,rfl,hp,h1,h2⟩
  ·exact ⟨hk,_,_,rfl,pm,fun e=>by cases e⟩
  ·have ht:TellP H2 (n:Int) p _ _:=⟨n,rfl,zO,hp,Lin.own_of fun c hc=>(hrow c hc).1,h2,h1⟩
   exact ⟨hk,p,0,rfl,ht.pag,fun _=>⟨_,_,ht⟩⟩
def Pa (H:Heap) (v:AV) (d:Int):Prop :=
 (∃ a b,v=.tup [a,b,.bool false]/\Rv a/\Rv b) \/
 ∃ (n:Nat) (p q:AV) (K:List (List Int × Bool)) (G:List (Nat × List Int)) (K':List (List Int × Bool)) (G':List (Nat × List Int)),d=(n:Int)/\n<=3/\v=.tup [p,q,.bool true]/\PolyV H p n K G/\PolyV H q n K' G'/\PolyOK n 64 64 K G/\PolyOK n 64 64 K' G'/\K.length+K'.length<=8/\G.length+G'.length<=8
def Cq {n:Nat} {K K':List (List Int × Bool)} {G G':List (Nat × List Int)} (h:pQ n K G n K' G'=false) (ho:Lin.Own n K G) (ho':Lin.Own n K' G') (hn:n<=3):PolyOK n 64 64 K G/\PolyOK n 64 64 K' G'/\K.length+K'.length<=8/\G.length+G'.length<=8:=by
 unfold pQ at h;simp only [WE,decide_eq_false_iff_not] at h;obtain ⟨⟨⟨⟨h1,-⟩,h2,-⟩,h3⟩,h4⟩:=h;obtain ⟨⟨a1,a2⟩,a3,a4⟩:=tz h1;obtain ⟨⟨b1,b2⟩,b3,b4⟩:=tz h2;exact ⟨⟨ho,zO,.inl zO,zO,fun c hc=>(a2 c hc).2,fun x hx=>(a4 x hx).2,zO,zO⟩,⟨ho',zO,.inl zO,zO,fun c hc=>(b2 c hc).2,fun x hx=>(b4 x hx).2,zO,zO⟩,zO,zO⟩
section
open Lin
end
section
variable {n:Nat} {K K':List (List Int × Bool)} {G G':List (Nat × List Int)}
end
set_option maxHeartbeats 4000000 in
def F7 (C:Code tab) (hw:Wf H) {s1 s2:AV} {d:Int} {l m:List ur} (hs:SlV conQE t_api_Con H s1 l) (gl:∀ r∈l,jU r.1) (hs2:SlV conQE t_api_Con H s2 m) (gm:∀ r∈m,jU r.1) :
  Ans tab (.fn fT [.int .i64 d,s1,s2]) H fun v H'=>Pa H' v d/\Kp H H':=by
 refine lU C.q2 zU fun T hl g0 g1 g2=>?_;refine zW (aV hl g0 g1 g2) ?_;refine AnsH.eq (ko C (n:=6) zF (hs.mono (zG H)) zO) fun H2 hk2=>?_;obtain ⟨k2,_,w2⟩:=zT H zK hk2;have d0:H2.get H.next=some (.cells [.int .i64 0,.nilSl,.nilSl] ah true):=hk2.get (cR)
 have d1:H2.get (H.next+1)=some (.cells [.int .i64 0,.nilSl,.nilSl] ah true):=hk2.get (cR);have lt1:=w2 _ _ d1;cases q1:fe 6 l with
 | true =>
  refine zW (gf hl g0 g1 g2 d0 d1 @mF) ?_;exact ⟨.inl ⟨_,_,rfl,pm,pm⟩,zK⟩
 | false =>
 refine zW (aV hl g0 g1 g2) ?_;refine AnsH.eq (ko C (n:=6) zF ((hs2.mono k2.sub).mono (zG H2)) zO) fun H3 hk3=>?_;obtain ⟨k23,_,_⟩:=zT H2 zK hk3;have k3:Kp H H3:=k2.trans k23;have le_k3:=k3.le;have w3:=k3.wf;have d0b:=k23.get d0;have d1b:=k23.get d1;have lt3:=w3 _ _ d1b;cases q2:fe 6 m with
 | true =>
  refine zW (gf hl g0 g1 g2 d0b d1b @mF) ?_;exact ⟨.inl ⟨_,_,rfl,pm,pm⟩,zK⟩
 | false =>
 by_cases q3:3<d
 ·refine zW (ki hl g0 g1 g2 d0b d1b q3 @mF) ?_;exact ⟨.inl ⟨_,_,rfl,pm,pm⟩,zK⟩
 refine zW (cr hl g0 g1 g2 q3) ?_;refine AnsH.use (DU C zF ((hs.mono k3.sub).mono (zG H3)) gl q1 q3) ?_;rintro v H4 ⟨hk4,p,err,rfl,⟨x,u,w,rfl,ou,ow⟩,ht⟩;obtain ⟨k34,_,_⟩:=zT H3 zK hk4;have k4:Kp H H4:=k3.trans k34;have le_k4:=k4.le;have w4:=k4.wf;have n4:H3.next+9<=H4.next:=hk4.le
 have f4:H4.get (H3.next+6)=none:=hk4.free (show H3.next+6<H3.next+9 by omega) (w3.fresh (b:=H3.next+6) zO);obtain ⟨G4,hG4⟩:∃ G4,G4=((H4.up 9).put (H3.next+6) (.cells [.int .i64 0,.nilSl,.nilSl] ah true)).put (H3.next+6) (.cells [.int .i64 x,u,w] ah true):=⟨_,rfl⟩
 have s4:Sub H4 G4:=by rw [hG4]; exact ((Sub.bump H4 9).put f4 _).put f4 _
 have kG4:Kp H3 G4:=by rw [hG4]; exact zK
 have wG4:=kG4.wf;have nG4:G4.next=H4.next+9:=by rw [hG4]; rfl
 have dp:G4.get (H3.next+6)=some (.cells [.int .i64 x,u,w] ah true):=by rw [hG4]; exact au _ _ _
 have fG4:G4.get (H4.next+6)=none:=by rw [hG4,az zO,az zO]; exact w4.fresh (b:=H4.next+6) zO
 refine zW (cr hl g0 g1 g2 @mF) ?_;rw [<- hG4];refine AnsH.use (DU C zF ((hs2.mono k3.sub).mono kG4.sub) gm q2 q3) ?_;rintro v H5 ⟨hk5,p2,err2,rfl,⟨x2,u2,w2',rfl,ou2,ow2⟩,ht2⟩;have k5:Kp H3 H5:=kG4.trans hk5;have le_k5:=k5.le;have w5:=k5.wf;have le5:=hk5.le;have f5:H5.get (H4.next+6)=none:=hk5.free zO fG4;have dpb:=hk5.get dp;obtain ⟨G5,hG5⟩:∃ G5,G5=(H5.put (H4.next+6) (.cells [.int .i64 0,.nilSl,.nilSl] ah true)).put (H4.next+6) (.cells [.int .i64 x2,u2,w2'] ah true):=⟨_,rfl⟩
 have s5:Sub H5 G5:=by rw [hG5]; exact (aP f5).put f5 _
 have kG5:Kp H3 G5:=by rw [hG5]; exact (k5.put zO zO).put zO (by rw [next_put]; omega)
 have wG5:=kG5.wf;have dq:G5.get (H4.next+6)=some (.cells [.int .i64 x2,u2,w2'] ah true):=by rw [hG5]; exact au _ _ _
 have dp5:=s5.get _ _ dpb;have d05:=kG5.get d0b;have d15:=kG5.get d1b;have kA:Kp H G5:=k3.trans kG5;refine zW (eW hl g0 g1 g2 @mF @aD) ?_;rw [<- hG5];refine MU (fun T'=>T'.length=51/\ad T' 6=.ptr H.next 0/\ad T' 7=.ptr (H.next+1) 0/\ad T' 9=.ptr (H3.next+6) 0/\ad T' 10=.int .i64 err/\ad T' 11=.ptr (H4.next+6) 0/\ad T' 12=.int .i64 err2) (zV (aV hl g0 g1 g2)) ?_;clear hl;rintro T' ⟨hl,t6,t7,t9,t10,t11,t12⟩;have le35:=kG5.le;have ltq:=wG5 _ _ dq;have ltp:=wG5 _ _ dp5;refine aH ?_;by_cases e1:err=0
 ·by_cases e2:err2=0
  ·subst e1;subst e2;obtain ⟨K,G,n,rfl,n3,⟨vc,vg,hpe,hc,hg⟩,ho,lK,lG⟩:=ht rfl;obtain ⟨K',G',n',hnn,n3',⟨vc',vg',hpe',hc',hg'⟩,ho',lK',lG'⟩:=ht2 rfl;have hnn:n'=n:=zO;subst hnn;cases hpe;cases hpe';have hc5:SlV conE t_api_Con G5 u K:=hc.mono (s4.trans (hk5.sub.trans s5));have hg5:SlV genE ak G5 w G:=hg.mono (s4.trans (hk5.sub.trans s5));have hc5':=hc'.mono s5;have hg5':=hg'.mono s5;refine zX (xK hl g0 g1 g2 t6 t7 t9 t10 t11 t12 dp5 dq @aR) ?_;refine AnsH.eq (DV C (n:=n') (n':=n') zF ⟨u,w,rfl,hc5.mono (zG G5),hg5.mono (zG G5)⟩ ⟨u2,w2',rfl,hc5'.mono (zG G5),hg5'.mono (zG G5)⟩ zO zO zO zO) fun H6 hk6=>?_;obtain ⟨k6,_,w6⟩:=zT G5 zK hk6;have d06:=k6.get d05;have d16:=k6.get d15;have dp6:=k6.get dp5;have dq6:=k6.get dq;have oc:=hc.one;have og:=hg.one;have oc':=hc'.one;have og':=hg'.one;have kB:Kp H H6:=kA.trans k6;have lt6:=w6 _ _ d16;cases hL:pQ n' K G n' K' G' with
   | true =>
    refine zX (BC hl g0 g1 g2 t6 t7 t9 t10 t11 t12 dp5 dq d06 d16 dp6 dq6 @aR @mF) ?_;exact ⟨.inl ⟨_,_,rfl,⟨_,_,_,rfl,oc,og⟩,⟨_,_,_,rfl,oc',og'⟩⟩,zK⟩
   | false =>
    obtain ⟨p1,p2,p3,p4⟩:=Cq hL ho ho' n3;refine zX (BC hl g0 g1 g2 t6 t7 t9 t10 t11 t12 dp5 dq d06 d16 dp6 dq6 @aR @mF) ?_;refine ⟨.inr ⟨n',_,_,K,G,K',G',rfl,n3,rfl,⟨u,w,rfl,?_,?_⟩,⟨u2,w2',rfl,?_,?_⟩,p1,p2,p3,p4⟩,zK⟩
    ·have m3:NoTy (t_api_Con :: conE.tys) H6 H.next:=NoTy.ty d06 zU
     have m4:NoTy (t_api_Con :: conE.tys) H6 (H.next+1):=NoTy.ty d16 zU;exact SlV.monoT (E:=conE) zS (hc5.mono k6.sub)
    ·have m3:NoTy (ak :: genE.tys) H6 H.next:=NoTy.ty d06 zU
     have m4:NoTy (ak :: genE.tys) H6 (H.next+1):=NoTy.ty d16 zU;exact SlV.monoT (E:=genE) zS (hg5.mono k6.sub)
    ·have m3:NoTy (t_api_Con :: conE.tys) H6 H.next:=NoTy.ty d06 zU
     have m4:NoTy (t_api_Con :: conE.tys) H6 (H.next+1):=NoTy.ty d16 zU;exact SlV.monoT (E:=conE) zS (hc5'.mono k6.sub)
    ·have m3:NoTy (ak :: genE.tys) H6 H.next:=NoTy.ty d06 zU
     have m4:NoTy (ak :: genE.tys) H6 (H.next+1):=NoTy.ty d16 zU;exact SlV.monoT (E:=genE) zS (hg5'.mono k6.sub)
  ·subst e1;refine zX (Fd hl g0 g1 g2 t6 t7 t9 t10 t11 t12 dp5 dq d05 d15 @aR e2 @mF) ?_;exact ⟨.inl ⟨_,_,rfl,⟨_,_,_,rfl,ou,ow⟩,⟨_,_,_,rfl,ou2,ow2⟩⟩,zK⟩
 ·refine zX (Fd hl g0 g1 g2 t6 t7 t9 t10 t11 t12 dp5 dq d05 d15 @aR e1 @mF) ?_;exact ⟨.inl ⟨_,_,rfl,⟨_,_,_,rfl,ou,ow⟩,⟨_,_,_,rfl,ou2,ow2⟩⟩,zK⟩
end
section
variable {tab:Nat->Option aw} {H:Heap} {s1 s2 s3:AV}
def LY {H:Heap} {v:AV} {d:Int} (h:Pa H v d):∃ x u w x' u' w' b,v=.tup [.agg [.int .i64 x,u,w],.agg [.int .i64 x',u',w'],.bool b]/\One u/\One w/\One u'/\One w':=by
 rcases h with ⟨a,b,rfl,⟨x,u,w,rfl,h1,h2⟩,⟨x',u',w',rfl,h3,h4⟩⟩ | ⟨n,p,q,K,G,K',G',-,-,rfl,⟨vc,vg,rfl,h1,h2⟩,⟨vc',vg',rfl,h3,h4⟩,-⟩
 ·exact ⟨_,_,_,_,_,_,_,rfl,h1,h2,h3,h4⟩
 ·exact ⟨_,_,_,_,_,_,_,rfl,h1.one,h2.one,h3.one,h4.one⟩
end
section
variable {tab:Nat->Option aw} {H:Heap} {s:AV}
def TV (C:Code tab) (hw:Wf H) {n:Int} {l:List E6} (hs:SlV genQE ak H s l) (hbig:∀ c∈l,vJ c.2) (hgood:∀ c∈l,∀ z∈c.2,Lim z.2/\z.2.length<=1048576) (hlen:l.length<4611686018427387904) (hc:Ss n l≠0) :
  Ans tab (.fn SR [.int .i64 n,s]) H fun v H'=>v=.tup [.nilSl,.int .i64 (Ss n l)]/\Kp H H':=by
 refine bz C.q33 zU fun T hl g0 g1=>?_;refine zW (aC hl g0 g1) ?_;refine AnsH.eq (vA C zF (hs.mono (zG H)) hbig hgood hlen) fun H2 hk2=>?_;obtain ⟨k2,_,_⟩:=zT H zK hk2;have hc:¬ Ss n l=0:=hc;refine zW (aV hl g0 g1 hc) ?_;exact zK
def Ug (C:Code tab) (hw:Wf H) {n m:Nat} {g:List (Nat × List Int)} (hs:SlV genE ak H s g) (hn:n<=4) (hlen:g.length<=60) (hv:Lin.ValidG n g) (hk:∀ x∈g,x.1=1\/x.1=2\/x.1=3) (hrow:∀ c∈g,Lin.Bd (2^m) c.2) (hm:m<=300000) :
  Ans tab (.fn SR [.int .i64 (n:Int),s]) H fun v H'=>(∃ w,v=.tup [w,.int .i64 0]/\SlV conE t_api_Con H' w (Lin.consP n g))/\Kp H H':=by
 have hrow':∀ c∈g,c.2.length=n+1/\Lin.Bd (2^m) c.2:=fun c hc=>⟨(hv c hc).1,hrow c hc⟩
 have hgood:∀ c∈g.map fun c=>(c.1,c.2.map eR),∀ z∈c.2,Lim z.2/\z.2.length<=1048576:=fun c hc z hz=>by
  obtain ⟨x,hx,rfl⟩:=uL.1 hc;obtain ⟨y,hy,rfl⟩:=uL.1 hz;have hb:=jk (hrow x hx) y hy;exact ⟨bu _,DR (n:=y.natAbs) (k:=1048576) (m:=m+1) hb zO⟩
 refine bz C.q33 zU fun T hl g0 g1=>?_;refine zW (aC hl g0 g1) ?_;refine AnsH.eq (vA C zF ((Ea hs).mono (zG H)) (OK (n:=n) zO fun c hc=>⟨(hrow' c hc).1,fun z hz=>(jk (hrow c hc) z hz).sm zO⟩) hgood (by rw [B8]; omega)) fun H2 hk2=>?_;rw [EG zO hlen hv hk];obtain ⟨k2,_,w2⟩:=zT H zK hk2;refine zW (aC hl g0 g1) ?_;refine AnsH.use (A6 C zF ((hs.mono k2.sub).mono (zG H2)) hn zO (I4 zO hn) hrow' zO) ?_;rintro v H3 ⟨hc3,hk3⟩;have k3:Kp H H3:=k2.trans (Kp.trans zK hk3);have le_k3:=k3.le;refine zW (aC hl g0 g1) ?_;exact ⟨⟨v,rfl,hc3⟩,zK⟩
def Uj (C:Code tab) (hw:Wf H) {v w:AV} {n e f e' k:Nat} {K:List (List Int × Bool)} {G:List (Nat × List Int)} {r:List Int} (hp:PolyV H v n K G) (ho:PolyOK n e f K G) (hr:RowV H w r) (hv:Lin.ValidG n [(k,r)]) (hk:k=1\/k=2\/k=3) (hb:Lin.Bd (2^e') r) (he:e'<=300000) :
  Ans tab (.fn SV [v,.agg [.int .u8 (k:Int),w]]) H fun x H'=>x=.tup [.bool (Lin.inP [(k,r)] K),.int .i64 0]/\Kp H H':=by
 have hp0:=hp;obtain ⟨vc,vg,rfl,hc,hg⟩:=hp;have oc:=hc.one;have og:=hg.one;have ow:=hr.one;have hbg:ia [.int .u8 0,.nilSl] [((0,2),.agg [.int .u8 (k:Int),w])]=some (.agg [.int .u8 (k:Int),w]):=by simp [ia,cX,AV.cells,ow.2,(bf .u8 (k:Int)).2]
 refine bz C.q11 zU fun T hl g0 g1=>?_;refine zW (eW hl g0 g1 (kg oc og) (EP ow) @mF) ?_;refine AnsH.eq (rU C zF ⟨vc,vg,rfl,hc.mono (zG H),hg.mono (zG H)⟩ ho) fun H2 hk2=>?_;obtain ⟨k2,_,w2⟩:=zT H zK hk2;have d0:H2.get H.next=some (.cells [.int .i64 (n:Int),vc,vg] ah true):=hk2.get (cR)
 have d1:H2.get (H.next+1)=some (.cells [.int .u8 (k:Int),w] ak true):=hk2.get (cR);refine zW (eW hl g0 g1 d0 d1 hbg) ?_;refine AnsH.use (Ug C (n:=n) (m:=e') zF (US (au _ _ _) ((hr.mono k2.sub).mono (zG H2))) ho.dim (by simp) hv (fun x hx=>by rw [Vh] at hx; subst hx; exact hk) (fun x hx=>by rw [Vh] at hx; subst hx; exact hb) he) ?_;rintro x H3 ⟨⟨u,rfl,-⟩,hk3⟩;obtain ⟨k23,_,_⟩:=zT H2 zK hk3;have k3:Kp H H3:=k2.trans k23;have le_k3:=k3.le;have w3:=k3.wf;have n3:H2.next+12<=H3.next:=hk3.le
 have d0:H3.get H.next=some (.cells [.int .i64 (n:Int),vc,vg] ah true):=k23.get d0
 have d1:H3.get (H.next+1)=some (.cells [.int .u8 (k:Int),w] ak true):=k23.get d1;have l2:=ho.lenK;have f3:=ho.f3;have hn:=ho.dim;refine zW (eW hl g0 g1 d0 d1 hbg) ?_;refine AnsH.eq (FK C (n:=n) (e:=e') (f:=f) zF (US (au _ _ _) ((hr.mono k3.sub).mono (zG H3))) ((hc.mono k3.sub).mono (zG H3)) (fun x hx=>by rw [Vh] at hx; subst hx; exact ⟨(hv _ (Vh.2 rfl)).1,hb⟩) ho.rowK zO (by simp) zO zO) fun H4 hk4=>?_;have k4:Kp H H4:=k3.trans (Kp.trans zK hk4);have le_k4:=k4.le;refine zW (aC hl g0 g1) ?_;exact zK
def Ue (C:Code tab) (hw:Wf H) {v w:AV} {n e f:Nat} {K:List (List Int × Bool)} {G:List (Nat × List Int)} {r:E6} (hp:PolyV H v n K G) (ho:PolyOK n e f K G) (hr:SlV rawE aa H w r.2) (hbig:vJ r.2) (hgood:∀ z∈r.2,Lim z.2/\z.2.length<=1048576) (hc:Ss n [r]≠0) :
  Ans tab (.fn SV [v,.agg [.int .u8 (r.1:Int),w]]) H fun x H'=>x=.tup [.bool false,.int .i64 (Ss n [r])]/\Kp H H':=by
 obtain ⟨vc,vg,rfl,hC,hg⟩:=hp;have oc:=hC.one;have og:=hg.one;have ow:=hr.one;have hbg:ia [.int .u8 0,.nilSl] [((0,2),.agg [.int .u8 (r.1:Int),w])]=some (.agg [.int .u8 (r.1:Int),w]):=by simp [ia,cX,AV.cells,ow.2,(bf .u8 (r.1:Int)).2]
 refine bz C.q11 zU fun T hl g0 g1=>?_;refine zW (eW hl g0 g1 (kg oc og) (EP ow) @mF) ?_;refine AnsH.eq (rU C zF ⟨vc,vg,rfl,hC.mono (zG H),hg.mono (zG H)⟩ ho) fun H2 hk2=>?_;obtain ⟨k2,_,w2⟩:=zT H zK hk2;have d0:H2.get H.next=some (.cells [.int .i64 (n:Int),vc,vg] ah true):=hk2.get (cR)
 have d1:H2.get (H.next+1)=some (.cells [.int .u8 (r.1:Int),w] ak true):=hk2.get (cR);refine zW (eW hl g0 g1 d0 d1 hbg) ?_;have hsub:Sub H ((H2.up 12).put (H2.next+5) (.cells [.int .u8 (r.1:Int),w] ak true)):=((k2.sub.trans (Sub.bump H2 12)).put (hw.fresh (b:=H2.next+5) (by have:=k2.le; omega)) _)
 refine AnsH.eq (TV C (n:=(n:Int)) (l:=[r]) zF ⟨_,Rd.own (au _ _ _) rfl (wT _),fun _ _ _ _ _ _ e=>by cases e; exact ⟨_,_,au _ _ _⟩,rfl,fun i a hi=>by
  match i with
  | 0=>simp at hi; subst hi; exact ⟨w,rfl,hr.mono hsub⟩
  | i+1=>simp at hi⟩ (fun c h=>by rw [Vh] at h; subst h; exact hbig) (fun c h=>by rw [Vh] at h; subst h; exact hgood) (by simp) hc) fun H3 hk3=>?_
 have k3:Kp H H3:=k2.trans (Kp.trans zK hk3);have le_k3:=k3.le;have hc:¬ Ss n [r]=0:=hc;refine zW (aV hl g0 g1 hc) ?_;exact zK
end
def U5 (x y:Int) (down:Bool):Int:=x.tdiv y+(if decide (x.natAbs % y.natAbs≠0) && (decide ((x<0)≠(y<0)) == down) then (if down then -1 else 1) else 0)
theorem Uh (a b:Nat):(a:Int).tdiv (b:Int)=((a / b:Nat):Int):=rfl
def Ui {x y:Int} (hy:0<y):U5 x y true=x / y:=by
 obtain ⟨m,rfl⟩:=Xa (Wn hy);have hm:0<m:=zO;unfold U5;rcases Z7 x 0 with h | h
 ·obtain ⟨a,rfl⟩:∃ a:Nat,x = -(a:Int):=⟨x.natAbs,zO⟩
  have e:decide ((-(a:Int)<0)≠((m:Int)<0))=true:=by simp; omega
  rw [e,Zw,Uh,WL,WT,WT];have ha:=VX a m;have hlt:=VO a hm
  symm
  by_cases h0:a % m=0
  ·simp only [h0,ne_eq,not_true_eq_false,decide_false,Y4,Vx,if_false,Int.add_zero];refine Int.ediv_eq_of_eq_mul_left zO ?_
   have:(a:Int)=((a / m:Nat):Int)*(m:Int):=by
    have:a=a / m*m:=by rw [Vk]; omega
    exact_mod_cast this
   rw [Xs]; omega
  ·simp only [h0,ne_eq,not_false_eq_true,decide_true,Zo,BEq.rfl,if_true];have key:((-(a:Int)) / (m:Int)) = -((a / m:Nat):Int) + -1:=by
    have h2:(m:Int)*((a / m:Nat):Int)+((a % m:Nat):Int)=a:=by exact_mod_cast ha
    refine (Int.ediv_emod_unique (r:=(m:Int)-((a % m:Nat):Int)) zO).2 ⟨?_,zO,zO⟩ |>.1
    rw [Int.mul_add,Int.mul_neg];omega
   exact key
 ·obtain ⟨a,rfl⟩:=Xa h;have e:decide (((a:Int)<0)≠((m:Int)<0))=false:=by simp; omega
  rw [e];simp [Uh]
def UX {x y:Int} (hy:0<y):U5 x y false = -((-x) / y):=by
 have h:=Ui (x:=-x) hy;rw [<- h];unfold U5;rw [Zw,WL];by_cases h0:x.natAbs % y.natAbs=0
 ·simp [h0]
 ·have e1:decide ((x<0)≠(y<0)) = !decide ((-x<0)≠(y<0)):=by
   have:x≠0:=by rintro rfl; simp at h0
   have:¬ y<0:=zO
   simp [this];rw [We]; simp; omega
  rw [e1];cases decide ((-x<0)≠(y<0)) <;> simp [h0];omega
def UA {x y:Int} (hx:St x):St (x.tdiv y):=by
 unfold St at *;refine Sm.mono ?_ hx;rw [Int.natAbs_tdiv];exact Xm _ _
section
variable {tab:Nat->Option aw} {H:Heap}
def Th (C:Code tab) (hw:Wf H) {a b:AV} {x y:Int} (down:Bool) (ha:IntV H a x) (hb:IntV H b y) (hx:St x) (hy:St y) (h0:y≠0) :
  Ans tab (.fn SJ [a,b,.bool down]) H fun v H'=>∃ q,v=.tup [q,.int .i64 0]/\IntV H' q (U5 x y down)/\Kp H H':=by
 obtain ⟨p,rfl,hp⟩:=ha;obtain ⟨q,rfl,hq⟩:=hb;have op:=hp.one;have oq:=hq.one;refine lU C.q29 zU fun T hl g0 g1 g2=>?_;refine zW (aV hl g0 g1 g2) ?_;refine AnsH.use (xN C zF ⟨p,rfl,hp.mono (zG H)⟩ ⟨q,rfl,hq.mono (zG H)⟩ hx hy h0) ?_;rintro v H3 ⟨w,rfl,⟨r,rfl,hr⟩,hk3⟩;obtain ⟨k3,_,w3⟩:=zT H zK hk3;have o3:=hr.one;have n3:H.next+17<=H3.next:=hk3.le
 have d2:H3.get (H.next+2)=some (.cells [.bool false,.nilSl] aa true):=hk3.get (cR);have f3:H3.get (H.next+12)=none:=hk3.free (show _<H.next+17 by omega) (by rw [az zO,az zO,az zO]; exact hw.fresh (b:=H.next+12) zO);obtain ⟨G,hG⟩:∃ G,G=((H3.up 10).put (H.next+12) (.cells [.bool false,.nilSl] aa true)).put (H.next+12) (.cells [.bool (decide (x.tdiv y<0)),r] aa true):=⟨_,rfl⟩
 have kG:Kp H G:=by rw [hG]; exact zK
 have sG:Sub H3 G:=by rw [hG]; exact ((Sub.bump H3 10).put f3 _).put f3 _
 have wG:=kG.wf;have nG:G.next=H3.next+10:=by rw [hG]; rfl
 have dG:G.get (H.next+2)=some (.cells [.bool false,.nilSl] aa true):=sG.get _ _ d2;have eG:G.get (H.next+12)=some (.cells [.bool (decide (x.tdiv y<0)),r] aa true):=by rw [hG,au]
 have hrG:=hr.mono sG;obtain ⟨rb,hrb⟩:∃ rb,rb=decide (x.natAbs % y.natAbs≠0):=⟨_,rfl⟩
 obtain ⟨nb,hnb⟩:∃ nb,nb=decide ((x<0)≠(y<0)):=⟨_,rfl⟩
 have hrn:U5 x y down=x.tdiv y+(if rb && (nb == down) then (if down then -1 else 1) else 0):=by rw [hrb,hnb]; rfl
 rw [<- hrb,<- hnb,hrn];clear hrb hnb hrn;have fin:∀ k,IntV ((((H3.up k).put (H.next+12) (.cells [.bool false,.nilSl] aa true)).put (H.next+12) (.cells [.bool (decide (x.tdiv y<0)),r] aa true)).put (H.next+2) (.cells [.bool (decide (x.tdiv y<0)),r] aa true)) (.agg [.bool (decide (x.tdiv y<0)),r]) (x.tdiv y)/\Kp H ((((H3.up k).put (H.next+12) (.cells [.bool false,.nilSl] aa true)).put (H.next+12) (.cells [.bool (decide (x.tdiv y<0)),r] aa true)).put (H.next+2) (.cells [.bool (decide (x.tdiv y<0)),r] aa true)):=fun k=>by
  have n4:H3.next<=(H3.up k).next:=Vz _ _
  have sX:Sub H3 (((H3.up k).put (H.next+12) (.cells [.bool false,.nilSl] aa true)).put (H.next+12) (.cells [.bool (decide (x.tdiv y<0)),r] aa true)):=((Sub.bump H3 k).put f3 _).put f3 _;refine ⟨⟨r,rfl,(hr.mono sX).monoT (SubT.put_ty (sX.get _ _ d2) zU)⟩,?_⟩;refine ((((k3.up k).put ?_ ?_).put ?_ ?_).put ?_ ?_)
  all_goals (first | omega | (simp only [next_put]; omega))
 cases rb with
 | false =>
  refine zW (gf hl g0 g1 g2 g2 @RQ d2) ?_;exact ⟨_,rfl,by simpa using (fin _).1,(fin _).2⟩
 | true =>
 by_cases hd:nb=down
 ·subst hd;have hbb:(nb == nb)=true:=by simp
  refine zW (gf hl g0 g1 g2 g2 @RQ hbb) ?_;rw [<- hG];refine aH ?_;refine zD (eW hl g0 g1 g2 g2 eG) ?_;have e1:ag 1=[1]:=by have:=uX (l:=[1]) (Lim.cons zU Lim.nil) (by unfold Kq; simp); simpa [val] using this
  have hs:cp ((G.up 6).put (G.next+2) (.cells [.int .u64 1] ae true)) (.own (G.next+2) 0 1 1 1 true) 1:=by
   show Lb _ _ (ag 1);rw [e1];exact (show Own (bT cm) ae G _ _ true _ [1] from ⟨_,rfl,au _ _ _,Cells.one ⟨_,rfl,rfl⟩,zO⟩).sl
  refine AnsH.use (fm C zF (show Lb _ _ (ag 1) from hs) nb) ?_;rintro v4 H4 ⟨rfl,hk4⟩;have s4:Sub G H4:=((Sub.bump G 6).put (wG.fresh (b:=G.next+2) zO) _).trans hk4.sub;obtain ⟨k4,_,w4⟩:=zT H zK hk4;have e4:=s4.get _ _ eG;have d4:=s4.get _ _ dG;have hm:=ny nb (hs.mono hk4.sub);refine zD (gf hl g0 g1 g2 g2 eG e4) ?_;have sm1:St (if nb=true then -((1:Nat):Int) else ((1:Nat):Int)):=(show Bt 1 _ by unfold Bt; cases nb <;> decide).sm zO;refine AnsH.use (AE C zF ⟨r,rfl,hrG.mono s4⟩ hm (UA hx) sm1) ?_;rintro v5 H5 ⟨⟨o,rfl,ho⟩,hk5⟩;have e5:=hk5.get e4;have d5:=hk5.get d4;have k5:Kp H H5:=k4.trans hk5;have le_k5:=k5.le;have oo:=ho.one;have es:x.tdiv y+(if nb=true then -((1:Nat):Int) else ((1:Nat):Int))=x.tdiv y+(if nb=true then -1 else 1):=by cases nb <;> rfl
  rw [es] at ho ⊢;have n4:G.next+6<=H4.next:=hk4.le
  have n5:H4.next<=H5.next:=hk5.le
  refine zD (kj hl g0 g1 g2 g2 eG e4 e5 d5) ?_;refine ⟨_,rfl,⟨o,rfl,((ho.mono (Sub.bump H5 5)).monoT (SubT.put_ty (show (H5.up 5).get (H.next+12)=_ from e5) zU)).monoT (SubT.put_ty (by rw [az zO]; exact d5) zU)⟩,zK⟩
 ·have hbb:(nb == down)=false:=by simp [hd]
  refine zW (ki hl g0 g1 g2 g2 @RQ hbb d2) ?_;exact ⟨_,rfl,by simpa using (fin _).1,(fin _).2⟩
end
end Go.Proofs.YthjdfjlhjnihfaaGreat.Ev
namespace Go.Proofs.YthjdfjlhjnihfaaGreat.Lin
structure Bs where
 ln:Bool
 lo:Int
 hn:Bool
 hi:Int
 so:Bool
def flr (a:V) (r:V):Int:=dot a r / hd1 r
def cei (a:V) (r:V):Int:=-((-dot a r) / hd1 r)
def tkB (a:V) (s:Bs) (g:Nat × V):Bs :=
 if g.1=3 then ⟨s.ln,if s.so=false\/flr a g.2<s.lo then flr a g.2 else s.lo,s.hn,if s.so=false\/s.hi<cei a g.2 then cei a g.2 else s.hi,true⟩
 else ⟨s.ln || decide (dot a g.2<0) || (decide (dot a g.2≠0) && decide (g.1=1)),s.lo,s.hn || decide (0<dot a g.2) || (decide (dot a g.2≠0) && decide (g.1=1)),s.hi,s.so⟩
def U7:Bs:=⟨false,0,false,0,false⟩
def Uq {a r:V} (h:0<hd1 r):flr a r*hd1 r<=dot a r:=Int.ediv_mul_le _ zO
def Un {a r:V} (h:0<hd1 r):dot a r<=cei a r*hd1 r:=by
 have:=Int.ediv_mul_le (-dot a r) (b:=hd1 r) zO
 unfold cei;rw [Xs]; omega
def U0 {a r:V} {z:Int} (h:0<hd1 r) (hz:z*hd1 r<=dot a r):z<=flr a r:=(ZB h).2 hz
def UF {a r:V} {z:Int} (h:0<hd1 r) (hz:dot a r<=z*hd1 r):cei a r<=z:=by
 have : -z<=(-dot a r) / hd1 r:=(ZB h).2 (by rw [Xs]; omega);unfold cei; omega
def flr_cei {a r:V} (h:0<hd1 r):flr a r<=cei a r:=by
 have h1:=Uq (a:=a) h;have h2:=Un (a:=a) h
 have:flr a r*hd1 r<=cei a r*hd1 r:=YW h1 h2
 exact Y7 this h
structure Bok (a:V) (P:List (Nat × V)) (s:Bs):Prop where
 so:s.so=P.any (fun g=>g.1 == 3)
 lo:∀ g∈P,g.1=3->s.lo*hd1 g.2<=dot a g.2
 hi:∀ g∈P,g.1=3->dot a g.2<=s.hi*hd1 g.2
 ln:s.ln=false->∀ g∈P,g.1≠3->0<=dot a g.2/\(g.1=1->dot a g.2=0)
 hn:s.hn=false->∀ g∈P,g.1≠3->dot a g.2<=0/\(g.1=1->dot a g.2=0)
 los:s.so=true->∃ g∈P,g.1=3/\s.lo=flr a g.2
 his:s.so=true->∃ g∈P,g.1=3/\s.hi=cei a g.2
def Vb (a:V):Bok a [] U7:=⟨rfl,by simp,by simp,by simp,by simp,by simp [U7],by simp [U7]⟩
def TW {x y b c:Int} (h:x<=y) (hb:0<b) (hy:y*b<=c):x*b<=c:=YW (Xq h (Wn hb)) hy
def TX {x y b c:Int} (h:x<=y) (hb:0<b) (hy:c<=x*b):c<=y*b:=YW hy (Xq h (Wn hb))
def UI {a:V} {P:List (Nat × V)} {s:Bs} {g:Nat × V} (h:Bok a P s) (hp:∀ x∈P,x.1=3->0<hd1 x.2) (hg:g.1=3->0<hd1 g.2):Bok a (P++[g]) (tkB a s g):=by
 by_cases h3:g.1=3
 ·have hg:=hg h3;unfold tkB;rw [if_pos h3];have hany:(P++[g]).any (fun g=>g.1 == 3)=true:=by simp [h3]
  refine ⟨hany.symm,?_,?_,?_,?_,?_,?_⟩
  ·intro x hx x3;simp only;rcases Vf.1 hx with hx | hx
   ·have hso:s.so=true:=by rw [h.so,VA]; exact ⟨x,hx,by simpa using x3⟩
    have:=h.lo x hx x3
    split
    ·rename_i hc;rcases hc with hc | hc
     ·rw [hso] at hc; cases hc
     ·exact TW (Wn hc) (hp x hx x3) this
    ·exact this
   ·rw [Vh] at hx; subst hx;split
    ·exact Uq hg
    ·rename_i hc;exact TW zO hg (Uq hg)
  ·intro x hx x3;simp only;rcases Vf.1 hx with hx | hx
   ·have hso:s.so=true:=by rw [h.so,VA]; exact ⟨x,hx,by simpa using x3⟩
    have:=h.hi x hx x3
    split
    ·rename_i hc;rcases hc with hc | hc
     ·rw [hso] at hc; cases hc
     ·exact TX (Wn hc) (hp x hx x3) this
    ·exact this
   ·rw [Vh] at hx; subst hx;split
    ·exact Un hg
    ·rename_i hc;exact TX zO hg (Un hg)
  ·intro hn x hx x3;rcases Vf.1 hx with hx | hx
   ·exact h.ln hn x hx x3
   ·rw [Vh] at hx; subst hx; exact absurd h3 x3
  ·intro hn x hx x3;rcases Vf.1 hx with hx | hx
   ·exact h.hn hn x hx x3
   ·rw [Vh] at hx; subst hx; exact absurd h3 x3
  ·intro _;simp only;split
   ·exact ⟨g,Wl _ (Vh.2 rfl),h3,rfl⟩
   ·rename_i hc;have hso:s.so=true:=by cases e:s.so <;> simp_all
    obtain ⟨x,hx,x3,e⟩:=h.los hso;exact ⟨x,VU _ hx,x3,e⟩
  ·intro _;simp only;split
   ·exact ⟨g,Wl _ (Vh.2 rfl),h3,rfl⟩
   ·rename_i hc;have hso:s.so=true:=by cases e:s.so <;> simp_all
    obtain ⟨x,hx,x3,e⟩:=h.his hso;exact ⟨x,VU _ hx,x3,e⟩
 ·unfold tkB;rw [if_neg h3];have hany:(P++[g]).any (fun g=>g.1 == 3)=P.any (fun g=>g.1 == 3):=by simp [h3]
  refine ⟨h.so.trans hany.symm,?_,?_,?_,?_,?_,?_⟩
  ·intro x hx x3;rcases Vf.1 hx with hx | hx
   ·exact h.lo x hx x3
   ·rw [Vh] at hx; subst hx; exact absurd x3 h3
  ·intro x hx x3;rcases Vf.1 hx with hx | hx
   ·exact h.hi x hx x3
   ·rw [Vh] at hx; subst hx; exact absurd x3 h3
  ·intro hn x hx x3;simp only [WE,X6,decide_eq_false_iff_not] at hn;obtain ⟨⟨hn1,hn2⟩,hn3⟩:=hn;rcases Vf.1 hx with hx | hx
   ·exact h.ln hn1 x hx x3
   ·rw [Vh] at hx; subst hx;exact ⟨zO,fun e=>by rcases hn3 with q | q; exact Decidable.not_not.1 q; exact absurd e q⟩
  ·intro hn x hx x3;simp only [WE,X6,decide_eq_false_iff_not] at hn;obtain ⟨⟨hn1,hn2⟩,hn3⟩:=hn;rcases Vf.1 hx with hx | hx
   ·exact h.hn hn1 x hx x3
   ·rw [Vh] at hx; subst hx;exact ⟨zO,fun e=>by rcases hn3 with q | q; exact Decidable.not_not.1 q; exact absurd e q⟩
  ·intro hs;obtain ⟨x,hx,x3,e⟩:=h.los hs;exact ⟨x,VU _ hx,x3,e⟩
  ·intro hs;obtain ⟨x,hx,x3,e⟩:=h.his hs;exact ⟨x,VU _ hx,x3,e⟩
def bsOf (a:V) (G:List (Nat × V)):Bs:=G.foldl (tkB a) U7
def bsOf_take {a:V} {G:List (Nat × V)} {j:Nat} (hj:j<G.length):bsOf a (G.take (j+1))=tkB a (bsOf a (G.take j)) G[j]:=by
 unfold bsOf;rw [ZO,pD hj,XK]; rfl
def Uu {a:V} {G:List (Nat × V)} (h:∀ x∈G,x.1=3->0<hd1 x.2):∀ j,j<=G.length->Bok a (G.take j) (bsOf a (G.take j))
 | 0,_=>by rw [Yp]; exact Vb a
 | j+1,hj=>by
  rw [bsOf_take zO,ZO,pD zO];exact UI (Uu h j zO) (fun x hx=>h x (WR hx)) (h _ (rZ _))
def bok_of {a:V} {G:List (Nat × V)} (h:∀ x∈G,x.1=3->0<hd1 x.2):Bok a G (bsOf a G):=by
 have:=Uu (a:=a) h G.length (wT _)
 rwa [Vo] at this
def bs_le {a:V} {G:List (Nat × V)} (h:∀ x∈G,x.1=3->0<hd1 x.2) (hs:G.any (fun g=>g.1 == 3)=true):(bsOf a G).lo<=(bsOf a G).hi:=by
 have b:=bok_of (a:=a) h;obtain ⟨x,hx,x3,e⟩:=b.los (b.so.trans hs);have h2:=b.hi x hx x3;have p:=h x hx x3;rw [e];exact YW (flr_cei p) (UF p h2)
section
variable {n:Nat} {K:List (V × Bool)} {G:List (Nat × V)}
def bs_in (o:Own n K G) (hne:G≠[]) {a r:V} (ha:a.length=n+1) (hr:r.length=n+1) (h0:0<hd1 r) (hk:∀ c∈K,keepsP c (3,r)=true) :
  ((bsOf a G).ln=false->(bsOf a G).lo<=flr a r)/\((bsOf a G).hn=false->cei a r<=(bsOf a G).hi):=by
 have hv:=o.valid;have b:=bok_of (a:=a) (G:=G) fun x hx h3=>(hv x hx).2.1 h3;have hkp:im n K r:=keepP_iff.2 ⟨hr,Wn h0,fun c hc=>by
  have:=hk c hc
  rw [wt] at this;exact ⟨fun e=>by rw [if_pos (.inl e)] at this; exact this,fun e=>by rw [if_neg (by rw [e]; simp)] at this; exact this⟩⟩
 have hg0:=o.gens;have key:∀ c:V × Bool,(∀ g∈G,keepsP c g=true)->0<=dot c.1 r:=fun c hc=>by
  have:=(xT o.rows (by rw [hg0]; exact hne) (c:=c)).1 (by rw [hg0]; exact hc)
  exact (this r hkp).2
 have ul:=unitC_len n 1;refine ⟨fun hn=>U0 h0 ?_,fun hn=>UF h0 ?_⟩
 ·have:=key (mix 1 a (-(bsOf a G).lo) (unitC n 1),false) fun g hg=>by
   rw [wt];simp only [Vx,false_or];have e:dot (mix 1 a (-(bsOf a G).lo) (unitC n 1)) g.2=dot a g.2-(bsOf a G).lo*hd1 g.2:=by
    rw [dot_comm,bg _ _ _ (by rw [ha,ul]),dot_comm g.2 a,dot_comm g.2,jP]; simp only [ZP,Xs]; omega
   rw [e];by_cases h3:g.1=3
   ·rw [if_neg zO]
    have:=b.lo g hg h3; omega
   ·have hz:=(hv g hg).2.2 h3
    have:=b.ln hn g hg h3
    rw [hz,Yx];split
    ·rename_i h1; have:=this.2 h1; omega
    ·omega
  rw [dot_comm,bg _ _ _ (by rw [ha,ul]),dot_comm r a,dot_comm r,jP,ZP (hd1 r)] at this; (try rw [Xs (bsOf a G).lo] at this);omega
 ·have:=key (mix (-1) a (bsOf a G).hi (unitC n 1),false) fun g hg=>by
   rw [wt];simp only [Vx,false_or];have e:dot (mix (-1) a (bsOf a G).hi (unitC n 1)) g.2=(bsOf a G).hi*hd1 g.2-dot a g.2:=by
    rw [dot_comm,bg _ _ _ (by rw [ha,ul]),dot_comm g.2 a,dot_comm g.2,jP]; simp only [ZP,Xs]; omega
   rw [e];by_cases h3:g.1=3
   ·rw [if_neg zO]
    have:=b.hi g hg h3; omega
   ·have hz:=(hv g hg).2.2 h3
    have:=b.hn hn g hg h3
    rw [hz,Yx];split
    ·rename_i h1; have:=this.2 h1; omega
    ·omega
  rw [dot_comm,bg _ _ _ (by rw [ha,ul]),dot_comm r a,dot_comm r,jP,ZP (hd1 r)] at this; (try rw [Xs (bsOf a G).lo] at this);omega
end
end Go.Proofs.YthjdfjlhjnihfaaGreat.Lin
namespace Go.Proofs.YthjdfjlhjnihfaaGreat.Ev
open Go Nn
structure Kx (b:Nat) (H H':Heap):Prop where
 wf0:Wf H
 wf:Wf H'
 le:H.next<=H'.next
 same:∀ c,c<H.next->c≠b->H'.get c=H.get c
section
variable {b:Nat} {H0 H H' H'':Heap}
def Kx.of (h:Kp H H'):Kx b H H':=⟨h.wf0,h.wf,h.le,fun c hc _=>h.same c hc⟩
def Kx.trans (h:Kx b H H') (h':Kx b H' H''):Kx b H H'':=⟨h.wf0,h'.wf,Oc h.le h'.le,fun c hc hb=>(h'.same c (Vi hc h.le) hb).trans (h.same c hc hb)⟩
def Kx.put (h:Kx b H H') (hb:b<H'.next) (e:Ent):Kx b H (H'.put b e):=⟨h.wf0,h.wf.put hb e,h.le,fun c hc hne=>by rw [az hne]; exact h.same c hc hne⟩
def Kx.up (h:Kx b H H') (k:Nat):Kx b H (H'.up k):=⟨h.wf0,h.wf.bump k,Oc h.le (Vz _ _),h.same⟩
def Kx.kp (h:Kx b H H') (hk:Kp H0 H) (hb:H0.next<=b):Kp H0 H':=⟨hk.wf0,h.wf,Oc hk.le h.le,fun c hc=>(h.same c (Vi hc hk.le) zO).trans (hk.same c hc)⟩
def Kx.get (h:Kx b H H') {c:Nat} {e:Ent} (hc:H.get c=some e) (hb:c≠b):H'.get c=some e:=(h.same c (h.wf0 _ _ hc) hb).trans hc
def Kx.subT (h:Kx b H H') {tys:List Nat} {cs:List AV} {ty:Nat} {r:Bool} (hb:H.get b=some (.cells cs ty r)) (ht:ty ∉ tys):SubT tys H H':=fun c ds t r' hm hc=>h.get hc fun e=>by
 subst e; rw [hb] at hc; cases hc; exact ht hm
end
def BndV (H:Heap) (b:Nat) (vr:AV) (s:Lin.Bs):Prop:=∃ p q,H.get b=some (.cells [vr,.bool s.ln,.bool (decide (s.lo<0)),p,.bool s.hn,.bool (decide (s.hi<0)),q,.bool s.so] vZ true)/\cp H p s.lo.natAbs/\cp H q s.hi.natAbs
theorem U4 (a b c d:AV) (l:List AV):cA (a :: b :: c :: d :: l) 3 none=some d:=rfl
theorem U3 (a b c d e:AV) (l:List AV):cA (a :: b :: c :: d :: e :: l) 4 none=some e:=rfl
theorem U2 (a b c d e f g h:AV) (l:List AV):cA (a :: b :: c :: d :: e :: f :: g :: h :: l) 7 none=some h:=rfl
def UK (a b c d:AV) (l:List AV):cA (a :: b :: c :: d :: l) 2 (some 2)=some (.agg [c,d]):=by simp [cA]
def UJ (a b c d e f g:AV) (l:List AV):cA (a :: b :: c :: d :: e :: f :: g :: l) 5 (some 2)=some (.agg [f,g]):=by simp [cA]
def UM {a b c d e f g h x y:AV} {ty:Nat} (hx:One x) (hy:One y):Db (some (.cells [a,b,c,d,e,f,g,h] ty true)) 2 2 (.agg [x,y])=some (.cells [a,b,x,y,e,f,g,h] ty true):=by
 simp [Db,AV.cells,hx.2,hy.2]
def UL {a b c d e f g h x y:AV} {ty:Nat} (hx:One x) (hy:One y):Db (some (.cells [a,b,c,d,e,f,g,h] ty true)) 2 5 (.agg [x,y])=some (.cells [a,b,c,d,e,x,y,h] ty true):=by
 simp [Db,AV.cells,hx.2,hy.2]
section
variable {tab:Nat->Option aw} {H:Heap}
def SZ (C:Code tab) (hw:Wf H) {a b:AV} {x y:Int} (ha:IntV H a x) (hb:IntV H b y) (hx:St x) (hy:St y) (h0:0<y) :
  Ans tab (.fn SS [a,b]) H fun v H'=>∃ q,v=.tup [q,.int .i64 0]/\IntV H' q (x / y)/\Kp H H':=by
 obtain ⟨p,rfl,hp⟩:=ha;obtain ⟨q,rfl,hq⟩:=hb;have op:=hp.one;have oq:=hq.one;refine bz C.q7 zU fun T hl g0 g1=>?_;refine zW (aC hl g0 g1) ?_;refine AnsH.use (Th C zF true ⟨p,rfl,hp.mono (zG H)⟩ ⟨q,rfl,hq.mono (zG H)⟩ hx hy zO) ?_;rintro v H3 ⟨w,rfl,⟨r,rfl,hr⟩,hk3⟩;rw [Ui h0] at hr ⊢;obtain ⟨k3,_,w3⟩:=zT H zK hk3;have n3:H.next+11<=H3.next:=hk3.le
 have o3:=hr.one;have d2:H3.get (H.next+2)=some (.cells [.bool false,.nilSl] aa true):=hk3.get (cR);refine zW (aV hl g0 g1 d2) ?_;exact ⟨_,rfl,⟨r,rfl,hr.monoT (SubT.put_ty d2 zU)⟩,zK⟩
def Tn (C:Code tab) (hw:Wf H) {a b:AV} {x y:Int} (ha:IntV H a x) (hb:IntV H b y) (hx:St x) (hy:St y) (h0:0<y) :
  Ans tab (.fn SU [a,b]) H fun v H'=>∃ q,v=.tup [q,.int .i64 0]/\IntV H' q (-((-x) / y))/\Kp H H':=by
 obtain ⟨p,rfl,hp⟩:=ha;obtain ⟨q,rfl,hq⟩:=hb;have op:=hp.one;have oq:=hq.one;refine bz C.q8 zU fun T hl g0 g1=>?_;refine zW (aC hl g0 g1) ?_;refine AnsH.use (Th C zF false ⟨p,rfl,hp.mono (zG H)⟩ ⟨q,rfl,hq.mono (zG H)⟩ hx hy zO) ?_;rintro v H3 ⟨w,rfl,⟨r,rfl,hr⟩,hk3⟩;rw [UX h0] at hr ⊢;obtain ⟨k3,_,w3⟩:=zT H zK hk3;have n3:H.next+11<=H3.next:=hk3.le
 have o3:=hr.one;have d2:H3.get (H.next+2)=some (.cells [.bool false,.nilSl] aa true):=hk3.get (cR);refine zW (aV hl g0 g1 d2) ?_;exact ⟨_,rfl,⟨r,rfl,hr.monoT (SubT.put_ty d2 zU)⟩,zK⟩
def UB (z:Int):(iv z<0) ↔ z<0:=by unfold iv; split <;> (try split) <;> omega
def Ud (z:Int):(0<iv z) ↔ 0<z:=by unfold iv; split <;> (try split) <;> omega
def UW (z:Int):(iv z=0) ↔ z=0:=by unfold iv; split <;> (try split) <;> omega
set_option maxHeartbeats 4000000 in
def Uk (C:Code tab) (hw:Wf H) {b k e f:Nat} {vr w:AV} {a r:List Int} {s:Lin.Bs} (hb:BndV H b vr s) (ha:RowV H vr a) (hr:RowV H w r) (hal:a.length=r.length) (h64:a.length<=64) (hae:∀ z∈a,Bt e z) (hrf:∀ z∈r,Bt f z) (hbt:e+f+8<=8796093022208) (h0:k=3->0<Lin.hd1 r) (slo:St s.lo) (shi:St s.hi) :
  Ans tab (.fn Sx [.ptr b 0,.agg [.int .u8 (k:Int),w]]) H fun _ H'=>BndV H' b vr (Lin.tkB a s (k,r))/\Kx b H H':=by
 obtain ⟨ln,lo,hn,hi,so⟩:=s;obtain ⟨pl,ph,hbg,hpl,hph⟩:=hb;simp only at hbg hpl hph slo shi;have ovr:=ha.one;have ow:=hr.one;have opl:=hpl.one;have oph:=hph.one;have hlt:=hw _ _ hbg;refine Aw C.q25 rfl rfl zU fun T hl g=>?_;have hl:T.length=147:=hl;have hrs:c_P_poly_bounds_take.results=[]:=rfl;have g0:ad T 0=.ptr b 0:=g 0 (by simp);have g1:ad T 1=.agg [.int .u8 (k:Int),w]:=g 1 (by simp);clear g;refine bk ?_;refine zW (aV hl g1 (EP ow) @aD) ?_;refine vO (fun T'=>T'.length=147/\ad T' 0=.ptr b 0/\ad T' 3=.ptr H.next 0) (zV (aB hl g0)) ?_;clear hl g0 g1;rintro T ⟨hl,g0,g3⟩;obtain ⟨H1,hH1⟩:∃ H1,H1=(H.up 1).put H.next (.cells [.int .u8 (k:Int),w] ak true):=⟨_,rfl⟩
 have k1:Kp H H1:=by rw [hH1]; exact zK
 have le_k1:=k1.le;have n1:H1.next=H.next+1:=by rw [hH1]; rfl
 have c1:H1.get H.next=some (.cells [.int .u8 (k:Int),w] ak true):=by rw [hH1,au]
 have b1:=k1.get hbg;have w1:=k1.wf;rw [<- hH1];clear hH1;refine bk ?_;refine aH ?_;refine zD (cr hl g0 g3 b1 @c1) ?_;refine AnsH.use (rO C zF ((ha.mono k1.sub).mono (zG H1)) ((hr.mono k1.sub).mono (zG H1)) hal h64 hae hrf zO) ?_;rintro x1 H2 ⟨_,rfl,⟨p1,rfl,hp1⟩,hk2⟩;obtain ⟨k2,_,w2⟩:=zT H1 zK hk2;have o1:=hp1.one;have n2:H1.next+13<=H2.next:=hk2.le
 have b2:=k2.get b1;have c2:=k2.get c1;have hdb:=oF hae hrf hal h64;have hds:St (Lin.dot a r):=hdb.sm zO;obtain ⟨D,hD⟩:∃ D,D=Lin.dot a r:=⟨_,rfl⟩
 rw [<- hD] at hp1 hds ⊢;have f2:H2.get (H1.next+10)=none:=hk2.free (show H1.next+10<H1.next+13 by omega) (w1.fresh (b:=H1.next+10) zO);obtain ⟨G,hG⟩:∃ G,G=(H2.put (H1.next+10) (.cells [.bool false,.nilSl] aa true)).put (H1.next+10) (.cells [.bool (decide (D<0)),p1] aa true):=⟨_,rfl⟩
 have sG:Sub H2 G:=by rw [hG]; exact (aP f2).put f2 _
 have kG:Kp H1 G:=by rw [hG]; exact zK
 have pG:=hp1.mono sG;have eG:G.get (H1.next+10)=some (.cells [.bool (decide (D<0)),p1] aa true):=by rw [hG,au]
 have bG:=sG.get _ _ b2;have cG:=sG.get _ _ c2;have wG:=kG.wf;have nG:=sG.1;refine zD (ki hl g0 g3 b1 @c1 b2 @c2 @aD) ?_;rw [<- hG];refine vO (fun T'=>T'.length=147/\ad T' 0=.ptr b 0/\ad T' 3=.ptr H.next 0/\ad T' 4=.ptr (H1.next+10) 0) (zE (aC hl g0 g3)) ?_;clear hG f2 b2 c2 hk2 hl g0 g3 hp1;rintro T ⟨hl,g0,g3,g4⟩;refine bk ?_;refine zW (aC hl g4 eG) ?_;refine AnsH.eq (nM C (x:=D) zF ⟨p1,rfl,pG.mono (zG G)⟩ hds) fun H3 hk3=>?_;obtain ⟨k3,_,w3⟩:=zT G zK hk3;have b3:=k3.get bG;have c3:=k3.get cG;have e3:=k3.get eG;have q3:=pG.mono k3.sub;have n3:=k3.le;refine zW (cr hl g0 g3 g4 @aD) ?_;refine vO (fun T'=>T'.length=147/\ad T' 0=.ptr b 0/\ad T' 3=.ptr H.next 0/\ad T' 4=.ptr (H1.next+10) 0/\ad T' 6=.int .i64 (iv D)) (zV (aV hl g0 g3 g4)) ?_;clear hl g0 g3 g4 eG bG cG pG;rintro T ⟨hl,g0,g3,g4,g6⟩;have kk3:Kp H H3:=k1.trans (kG.trans k3);by_cases hk:k=3
 ·subst hk;have hr0:=h0 rfl;have c3:H3.get H.next=some (.cells [.int .u8 3,w] ak true):=c3
  refine bk ?_;refine zW (aV hl g3 c3 @aD) ?_;refine vO (fun T'=>T'.length=147/\ad T' 0=.ptr b 0/\ad T' 3=.ptr H.next 0/\ad T' 4=.ptr (H1.next+10) 0) (zV (aV hl g0 g3 g4)) ?_;clear hl g0 g3 g6 g4;rintro T ⟨hl,g0,g3,g4⟩;obtain ⟨G3,hG3⟩:∃ G3,G3=H3.up 3:=⟨_,rfl⟩
  rw [<- hG3];have s33:Sub H3 G3:=by rw [hG3]; exact Sub.bump _ 3
  have kk4:Kp H G3:=by rw [hG3]; exact kk3.up 3
  have w4:=kk4.wf;have b4:=s33.get _ _ b3;have c4:=s33.get _ _ c3;have e4:=s33.get _ _ e3;have q4:=q3.mono s33;clear hG3;have hpos:0<r.length:=by
   cases r with
   | nil=>simp [Lin.hd1] at hr0
   | cons _ _=>simp
  have er0:r[0]=Lin.hd1 r:=by
   cases r with
   | nil=>simp at hpos
   | cons _ _=>rfl
  have ix:co 2 w (.int .i64 0)=some (ap w (0*2)):=SlV.idx hr .i64 0 hpos;obtain ⟨w0,hw0,ld0,-⟩:=jM (hr.mono kk4.sub) hpos;rw [er0] at hw0 ld0;have sm0:St (Lin.hd1 r):=by rw [<- er0]; exact (hrf _ (rZ hpos)).sm zO
  refine bk ?_;refine aH ?_;refine zD (ki hl g0 g3 g4 c4 e4 ix ld0) ?_;refine AnsH.use (SZ C (x:=D) (y:=Lin.hd1 r) zF ⟨p1,rfl,q4.mono (zG G3)⟩ ⟨w0,rfl,hw0.mono (zG G3)⟩ hds sm0 hr0) ?_;rintro _ H5 ⟨_,rfl,⟨pd,rfl,hpd⟩,hk5⟩;obtain ⟨FL,hFL⟩:∃ z,z=D / Lin.hd1 r:=⟨_,rfl⟩
  rw [<- hFL] at hpd ⊢;obtain ⟨k5,_,_⟩:=zT G3 zK hk5;have n5:G3.next+12<=H5.next:=hk5.le
  have od:=hpd.one;have f5:H5.get (G3.next+9)=none:=hk5.free (show G3.next+9<G3.next+12 by omega) (w4.fresh (b:=G3.next+9) zO);obtain ⟨G5,hG5⟩:∃ G,G=(H5.put (G3.next+9) (.cells [.bool false,.nilSl] aa true)).put (G3.next+9) (.cells [.bool (decide (FL<0)),pd] aa true):=⟨_,rfl⟩
  have sG5:Sub H5 G5:=by rw [hG5]; exact (aP f5).put f5 _
  have kG5:Kp G3 G5:=by have w5:=k5.wf; rw [hG5]; exact zK
  have d5:G5.get (G3.next+9)=some (.cells [.bool (decide (FL<0)),pd] aa true):=by rw [hG5,au]
  have hpd5:=hpd.mono sG5;have b5:=kG5.get b4;have c5:=kG5.get c4;have e5:=kG5.get e4;have q5:=q4.mono kG5.sub;have w5:=kG5.wf;have hw05:=hw0.mono kG5.sub;have ld5:=bJ kG5.sub ld0;have nG5:G3.next+12<=G5.next:=by have:=sG5.1; omega
  have c4':=k5.get c4;have e4':=k5.get e4;have ld4':=bJ k5.sub ld0;refine zD (Al hl g0 g3 g4 c4 e4 c4' e4' ld4' ix ld0 @aD) ?_;rw [<- hG5];refine vO (fun T'=>T'.length=147/\ad T' 0=.ptr b 0/\ad T' 3=.ptr H.next 0/\ad T' 4=.ptr (H1.next+10) 0/\ad T' 8=.ptr (G3.next+9) 0) (zE (aV hl g0 g3 g4)) ?_;clear hl g0 g3 g4 hG5 f5 hpd hk5 c4' e4' ld4';rintro T ⟨hl,g0,g3,g4,g8⟩;refine bk ?_;refine aH ?_;refine zD (ki hl g0 g3 g4 c5 e5 ix ld5) ?_;refine AnsH.use (Tn C (x:=D) (y:=Lin.hd1 r) zF ⟨p1,rfl,q5.mono (zG G5)⟩ ⟨w0,rfl,hw05.mono (zG G5)⟩ hds sm0 hr0) ?_;rintro _ H6 ⟨_,rfl,⟨pu,rfl,hpu⟩,hk6⟩;obtain ⟨CE,hCE⟩:∃ z,z = -((-D) / Lin.hd1 r):=⟨_,rfl⟩
  rw [<- hCE] at hpu ⊢;obtain ⟨k6,_,_⟩:=zT G5 zK hk6;have n6:G5.next+12<=H6.next:=hk6.le
  have ou:=hpu.one;have f6:H6.get (G5.next+9)=none:=hk6.free (show G5.next+9<G5.next+12 by omega) (w5.fresh (b:=G5.next+9) zO);obtain ⟨G6,hG6⟩:∃ G,G=(H6.put (G5.next+9) (.cells [.bool false,.nilSl] aa true)).put (G5.next+9) (.cells [.bool (decide (CE<0)),pu] aa true):=⟨_,rfl⟩
  have sG6:Sub H6 G6:=by rw [hG6]; exact (aP f6).put f6 _
  have kG6:Kp G5 G6:=by have w6:=k6.wf; rw [hG6]; exact zK
  have u6:G6.get (G5.next+9)=some (.cells [.bool (decide (CE<0)),pu] aa true):=by rw [hG6,au]
  have hpu6:=hpu.mono sG6;have hpd6:=hpd5.mono kG6.sub;have d6:=kG6.get d5;have b6:=kG6.get b5;have w6:=kG6.wf;have nG6:G5.next+12<=G6.next:=by have:=sG6.1; omega
  have c5':=k6.get c5;have e5':=k6.get e5;have ld5':=bJ k6.sub ld5;refine zD (xK hl g0 g3 g4 g8 c5 e5 c5' e5' ld5' ix ld5 @aD) ?_;rw [<- hG6];refine vO (fun T'=>T'.length=147/\ad T' 0=.ptr b 0/\ad T' 8=.ptr (G3.next+9) 0/\ad T' 10=.ptr (G5.next+9) 0) (zE (aC hl g0 g8)) ?_;clear hl g0 g3 g4 g8 hG6 f6 hpu hk6 c5' e5' ld5';rintro T ⟨hl,g0,g8,g10⟩;have kk6:Kp H G6:=kk4.trans (kG5.trans kG6);have smF:St FL:=by rw [hFL]; exact Sm.mono (WZ _ _) hds
  have smC:St CE:=by
   rw [hCE];show Sm _;rw [WL];refine Sm.mono (WZ _ _) ?_;rw [WL]; exact hds
  have hplG:=hpl.mono kk6.sub;have hphG:=hph.mono kk6.sub;clear b4 b5 c4 c5 e4 e5 q4 q5 ld0 ld5 hw0 hw05 b3 c3 e3 q3 hpd5 d5 k5 k6;obtain ⟨lo',hlo'⟩:∃ z,z=(if so=false\/FL<lo then FL else lo):=⟨_,rfl⟩
  obtain ⟨hi',hhi'⟩:∃ z,z=(if so=false\/hi<CE then CE else hi):=⟨_,rfl⟩
  refine db (fun _ H'=>Kx b G6 H'/\BndV H' b vr ⟨ln,lo',hn,hi,so⟩) rfl ?_ ?_
  ·refine uv ?_;refine aH ?_;refine zD (eW hl g0 g8 d6 @b6 @UK) ?_;refine AnsH.eq (Iv C (x:=FL) (y:=lo) zF ⟨pd,rfl,hpd6.mono (zG G6)⟩ ⟨pl,rfl,hplG.mono (zG G6)⟩ smF slo) fun H7 hk7=>?_;obtain ⟨k7,_,w7⟩:=zT G6 zK hk7;have b7:=k7.get b6;have d7:=k7.get d6;have hpd7:=hpd6.mono k7.sub;have hpl7:=hplG.mono k7.sub;have lt7:b<H7.next:=w7 _ _ b7
   have uq:(iv (FL-lo)<0)=(FL<lo):=by rw [UB]; exact propext ⟨fun h=>by omega,fun h=>by omega⟩
   have hph7:=hphG.mono k7.sub;have upd:∀ m,lo'=FL->Kx b G6 ((H7.up m).put b (.cells [vr,.bool ln,.bool (decide (FL<0)),pd,.bool hn,.bool (decide (hi<0)),ph,.bool so] vZ true))/\BndV ((H7.up m).put b (.cells [vr,.bool ln,.bool (decide (FL<0)),pd,.bool hn,.bool (decide (hi<0)),ph,.bool so] vZ true)) b vr ⟨ln,lo',hn,hi,so⟩:=fun m e=>by
    rw [e];exact ⟨((Kx.of k7).up m).put (by show b<H7.next+m; omega) _,pd,ph,au _ _ _,(hpd7.mono (Sub.bump H7 m)).monoT (SubT.put_ty (show (H7.up m).get b=_ from b7) zU),(hph7.mono (Sub.bump H7 m)).monoT (SubT.put_ty (show (H7.up m).get b=_ from b7) zU)⟩
   cases so with
   | false =>
    refine zD (rc hl g0 g8 d6 @b6 @UK @b7 d7 @U2 @UM @aU) ?_;exact upd _ (by rw [hlo',if_pos (.inl rfl)])
   | true =>
    by_cases q:FL<lo
    ·refine zD (xK hl g0 g8 d6 @b6 @UK @b7 d7 @U2 @UM uq q @aU) ?_;exact upd _ (by rw [hlo',if_pos (.inr q)])
    ·refine zD (xK hl g0 g8 d6 @b6 @UK @b7 d7 @U2 @UM uq q @aU) ?_;have e:lo'=lo:=by rw [hlo',if_neg (by rintro (h | h); exact absurd h zU; exact q h)]
     rw [e];exact ⟨(Kx.of k7).up _,pl,ph,b7,hpl7.mono (Sub.bump H7 _),hph7.mono (Sub.bump H7 _)⟩
  rintro T7 G7 hs ⟨kx7,pl',ph,b7,hpl7,hph7⟩;simp only at b7 hpl7 hph7;have hl7:T7.length=147:=hs.len.trans hl;have j0:=(hs.at_ 0 zU).trans g0;have j10:=(hs.at_ 10 zU).trans g10;have w7:=kx7.wf;have sb7:=kx7.subT (tys:=[ae]) b6 zU;have u7:=kx7.get u6 (by have:=kk4.le; omega);have hpu7:cp G7 pu CE.natAbs:=SlV.monoT (E:=bT cm) sb7 hpu6;have oph:=hph7.one;have opl':=hpl7.one;have lt7:b<G7.next:=w7 _ _ b7
  clear hs hl g0 g8 g10 b6 d6 u6 hpd6 hpu6 hplG hphG sb7;refine db (fun _ H'=>Kx b G7 H'/\BndV H' b vr ⟨ln,lo',hn,hi',so⟩) rfl ?_ ?_
  ·refine uv ?_;refine aH ?_;refine zD (eW hl7 j0 j10 u7 @b7 @UJ) ?_;refine AnsH.eq (Iv C (x:=CE) (y:=hi) zF ⟨pu,rfl,hpu7.mono (zG G7)⟩ ⟨ph,rfl,hph7.mono (zG G7)⟩ smC shi) fun H8 hk8=>?_;obtain ⟨k8,_,w8⟩:=zT G7 zK hk8;have b8:=k8.get b7;have u8:=k8.get u7;have hpu8:=hpu7.mono k8.sub;have hph8:=hph7.mono k8.sub;have lt8:b<H8.next:=w8 _ _ b8
   have uq:(0<iv (CE-hi))=(hi<CE):=by rw [Ud]; exact propext ⟨fun h=>by omega,fun h=>by omega⟩
   have hpl8:=hpl7.mono k8.sub;have upd:∀ m,hi'=CE->Kx b G7 ((H8.up m).put b (.cells [vr,.bool ln,.bool (decide (lo'<0)),pl',.bool hn,.bool (decide (CE<0)),pu,.bool so] vZ true))/\BndV ((H8.up m).put b (.cells [vr,.bool ln,.bool (decide (lo'<0)),pl',.bool hn,.bool (decide (CE<0)),pu,.bool so] vZ true)) b vr ⟨ln,lo',hn,hi',so⟩:=fun m e=>by
    rw [e];exact ⟨((Kx.of k8).up m).put (by show b<H8.next+m; omega) _,pl',pu,au _ _ _,(hpl8.mono (Sub.bump H8 m)).monoT (SubT.put_ty (show (H8.up m).get b=_ from b8) zU),(hpu8.mono (Sub.bump H8 m)).monoT (SubT.put_ty (show (H8.up m).get b=_ from b8) zU)⟩
   cases so with
   | false =>
    refine zD (rc hl7 j0 j10 u7 @b7 @UJ @b8 u8 @U2 @UL @aU) ?_;exact upd _ (by rw [hhi',if_pos (.inl rfl)])
   | true =>
    by_cases q:hi<CE
    ·refine zD (xK hl7 j0 j10 u7 @b7 @UJ @b8 u8 @U2 @UL uq q @aU) ?_;exact upd _ (by rw [hhi',if_pos (.inr q)])
    ·refine zD (xK hl7 j0 j10 u7 @b7 @UJ @b8 u8 @U2 @UL uq q @aU) ?_;have e:hi'=hi:=by rw [hhi',if_neg (by rintro (h | h); exact absurd h zU; exact q h)]
     rw [e];exact ⟨(Kx.of k8).up _,pl',ph,b8,hpl8.mono (Sub.bump H8 _),hph8.mono (Sub.bump H8 _)⟩
  rintro T8 G8 hs ⟨kx8,pl'',ph'',b8,hpl8,hph8⟩;simp only at b8 hpl8 hph8;have hl8:T8.length=147:=hs.len.trans hl7;have j0:=(hs.at_ 0 zU).trans j0;have w8:=kx8.wf;have lt8:b<G8.next:=w8 _ _ b8
  have et:Lin.tkB a ⟨ln,lo,hn,hi,so⟩ (3,r)=⟨ln,lo',hn,hi',true⟩:=by
   rw [hlo',hhi',hFL,hCE,hD];unfold Lin.tkB;rw [if_pos rfl]; rfl
  rw [et];have fin:∀ m,BndV ((G8.up m).put b (.cells [vr,.bool ln,.bool (decide (lo'<0)),pl'',.bool hn,.bool (decide (hi'<0)),ph'',.bool true] vZ true)) b vr ⟨ln,lo',hn,hi',true⟩/\Kx b H ((G8.up m).put b (.cells [vr,.bool ln,.bool (decide (lo'<0)),pl'',.bool hn,.bool (decide (hi'<0)),ph'',.bool true] vZ true)):=fun m =>
   ⟨⟨pl'',ph'',au _ _ _,(hpl8.mono (Sub.bump G8 m)).monoT (SubT.put_ty (show (G8.up m).get b=_ from b8) zU),(hph8.mono (Sub.bump G8 m)).monoT (SubT.put_ty (show (G8.up m).get b=_ from b8) zU)⟩,((((Kx.of kk6).trans kx7).trans kx8).up m).put (by show b<G8.next+m; omega) _⟩
  refine WC.wb ?_;refine zW (aV hl8 j0 @b8 hrs) ?_;exact fin _
 ·have hk':¬ ((k:Int)=3):=zO;have hlt3:b<H3.next:=zO
  have u1:(iv D<0)=(D<0):=propext (UB D);have u2:(0<iv D)=(0<D):=propext (Ud D);have u3:(iv D=0)=(D=0):=propext (UW D);have ek:decide ((k:Int)=1)=decide (k=1):=by congr 1; exact propext ⟨fun h=>by omega,fun h=>by omega⟩
  obtain ⟨x,hx⟩:∃ x,x=(ln || decide (D<0) || (decide (D≠0) && decide ((k:Int)=1))):=⟨_,rfl⟩
  obtain ⟨y,hy⟩:∃ y,y=(hn || decide (0<D) || (decide (D≠0) && decide ((k:Int)=1))):=⟨_,rfl⟩
  have et:Lin.tkB a ⟨ln,lo,hn,hi,so⟩ (k,r)=⟨x,lo,y,hi,so⟩:=by
   rw [hx,hy,ek,hD];unfold Lin.tkB;rw [if_neg (show ¬ (k,r).1=3 from hk)]
  rw [et];refine xP ?_;refine bk ?_;refine zW (cr hl g3 c3 hk' @aD) ?_;refine vO (fun T'=>T'.length=147/\ad T' 0=.ptr b 0/\ad T' 3=.ptr H.next 0/\ad T' 6=.int .i64 (iv D)/\ad T' 33=.bool true) (zV (aV hl g0 g3 g6)) ?_;clear hl g0 g3 g6 g4;rintro T ⟨hl,g0,g3,g6,g33⟩;refine NE (v:=true) g33 ?_;rw [if_pos rfl];have uu:(D<0/\¬ D=0/\¬ 0<D)\/D=0\/(0<D/\¬ D=0/\¬ D<0):=zO;refine db (fun _ H'=>∃ m,H'=(H3.up m).put b (.cells [vr,.bool x,.bool (decide (lo<0)),pl,.bool hn,.bool (decide (hi<0)),ph,.bool so] vZ true)) rfl ?_ ?_
  ·cases ln with
   | true =>
    have hx:x=true:=by rw [hx]; simp
    refine zW (eW hl g0 g3 g6 b3 @aU) ?_;exact ⟨_,by rw [hx]⟩
   | false =>
    rcases uu with ⟨v0,v1,v2⟩ | v0 | ⟨v0,v1,v2⟩
    ·have hx:x=true:=by rw [hx]; simp [v0]
     refine zW (Al hl g0 g3 g6 b3 u1 u2 u3 v0 v1 v2 @aU) ?_;exact ⟨_,by rw [hx]⟩
    ·have hx:x=false:=by rw [hx]; simp [v0]
     have g6':ad T 6=.int .i64 0:=by rw [g6,v0]; rfl
     refine zW (eW hl g0 g3 g6' b3 @aU) ?_;exact ⟨_,by rw [hx]⟩
    ·have hx:x=decide ((k:Int)=1):=by rw [hx]; simp [v1,v2]
     refine zW (xK hl g0 g3 g6 b3 c3 u1 u2 u3 v0 v1 v2 @aU) ?_;exact ⟨_,by rw [hx]⟩
  rintro T2 H4 hs ⟨m,hH4⟩;have hl2:T2.length=147:=hs.len.trans hl;have j0:=(hs.at_ 0 zU).trans g0;have j3:=(hs.at_ 3 zU).trans g3;have j6:=(hs.at_ 6 zU).trans g6;have b4:H4.get b=some (.cells [vr,.bool x,.bool (decide (lo<0)),pl,.bool hn,.bool (decide (hi<0)),ph,.bool so] vZ true):=by rw [hH4,au]
  have kx4:Kx b H3 H4:=by rw [hH4]; exact ((Kx.of (Kp.refl w3)).up m).put (by show b<H3.next+m; omega) _
  have c4:=kx4.get c3 zO;have w4:=kx4.wf;have st4:=kx4.subT (tys:=[ae]) b3 zU;clear hH4 hs;have fin:∀ m' z,z=y->BndV ((H4.up m').put b (.cells [vr,.bool x,.bool (decide (lo<0)),pl,.bool z,.bool (decide (hi<0)),ph,.bool so] vZ true)) b vr ⟨x,lo,y,hi,so⟩/\Kx b H ((H4.up m').put b (.cells [vr,.bool x,.bool (decide (lo<0)),pl,.bool z,.bool (decide (hi<0)),ph,.bool so] vZ true)):=fun m' z e=>by
   subst e;have hm:∀ {p:AV} {w:Nat},cp H p w->cp ((H4.up m').put b (.cells [vr,.bool x,.bool (decide (lo<0)),pl,.bool z,.bool (decide (hi<0)),ph,.bool so] vZ true)) p w:=fun h=>((SlV.monoT (E:=bT cm) st4 (h.mono kk3.sub)).mono (Sub.bump H4 m')).monoT (SubT.put_ty (show (H4.up m').get b=_ from b4) zU);exact ⟨⟨pl,ph,au _ _ _,hm hpl,hm hph⟩,(((Kx.of kk3).trans kx4).up m').put (by have:=kx4.le; show b<H4.next+m'; omega) _⟩
  refine bk ?_;cases hn with
  | true =>
   have hy:true=y:=by rw [hy]; simp
   refine zW (gf hl2 j0 j3 j6 @b4 @U3 @aD) ?_;refine WC.wb ?_;refine zW hrs ?_;exact fin _ _ hy
  | false =>
   rcases uu with ⟨v0,v1,v2⟩ | v0 | ⟨v0,v1,v2⟩
   ·have hy:decide ((k:Int)=1)=y:=by rw [hy]; simp [v1,v2]
    refine zW (Ik hl2 j0 j3 j6 @b4 c4 @U3 u1 u2 u3 v0 v1 v2 @aD) ?_;refine WC.wb ?_;refine zW hrs ?_;exact fin _ _ hy
   ·have hy:false=y:=by rw [hy]; simp [v0]
    have j6':ad T2 6=.int .i64 0:=by rw [j6,v0]; rfl
    refine zW (gf hl2 j0 j3 j6' @b4 @U3 @aD) ?_;refine WC.wb ?_;refine zW hrs ?_;exact fin _ _ hy
   ·have hy:true=y:=by rw [hy]; simp [v0]
    refine zW (xK hl2 j0 j3 j6 @b4 @U3 u1 u2 u3 v0 v1 v2 @aD) ?_;refine WC.wb ?_;refine zW hrs ?_;exact fin _ _ hy
end
def TQ {H:Heap} {z:Bool × List Nat} {w:AV} (hb:SK z=false) (hl:Lim z.2) (h:Lb H w z.2):IntV H (.agg [.bool z.1,w]) (fE z):=by
 have e:=IW hb hl;have e1:decide (fE z<0)=z.1:=congrArg Prod.fst e;have e2:ag (fE z).natAbs=z.2:=congrArg Prod.snd e;refine ⟨w,by rw [e1],?_⟩;show Lb H w (ag (fE z).natAbs);rw [e2]; exact h
def TJ (n:Bool) (z:Bool × List Nat):Bool:=if n then !z.1 && decide (z.2.length=0) else !SK z
def SP (n:Bool) (z:Bool × List Nat) (n':Bool) (z':Bool × List Nat):Bool:=TJ n z && TJ n' z' && (n || n' || decide (fE z<=fE z'))
def UH {a b c:AV} (ha:One a) (hb:One b) (hc:One c):fZ (.agg [a,b,c])=some [a,b,c]:=Rs ha hb hc
def UR {a b c d e f:AV} (ha:One a) (hb:One b) (hc:One c) (hd:One d) (he:One e) (hf:One f):fZ (.agg [a,b,c,d,e,f])=some [a,b,c,d,e,f]:=by
 simp [fZ,AV.cells,ha.2,hb.2,hc.2,hd.2,he.2,hf.2]
def TK (a b c:AV) (l:List AV):cA (a :: b :: c :: l) 0 (some 3)=some (.agg [a,b,c]):=by simp [cA]
theorem Uz (a b c d e f:AV):cA [a,b,c,d,e,f] 3 (some 3)=some (.agg [d,e,f]):=rfl
theorem SL (a b c d e f:AV):cA [a,b,c,d,e,f] 0 (some 6)=some (.agg [a,b,c,d,e,f]):=rfl
def TU (a b c:AV) (l:List AV):cA (a :: b :: c :: l) 1 (some 2)=some (.agg [b,c]):=by simp [cA]
theorem Uv (a b c d e f:AV):cA [a,b,c,d,e,f] 4 (some 2)=some (.agg [e,f]):=rfl
section
variable {tab:Nat->Option aw} {H:Heap}
def Ur (C:Code tab) (hw:Wf H) {n:Bool} {z:Bool × List Nat} {w:AV} (hz:Lb H w z.2) (hbig:z.2.length<4611686018427387904) :
  Ans tab (.fn TG [.agg [.bool n,.bool z.1,w]]) H fun v H'=>v=.bool (TJ n z)/\Kp H H':=by
 obtain ⟨b,l⟩:=z;have ow:=hz.one;have bx:=UH (aQ n) (aQ b) ow;refine cQ C.q31 zU fun T hl g0=>?_;cases n with
 | true =>
  have q:((l.length:Int)=0) ↔ l.length=0:=zO;cases b with
  | true =>
   refine zW (aV hl g0 bx @TU) ?_;exact ⟨by simp [TJ],zK⟩
  | false =>
   refine zW (cr hl g0 bx @TU hz.lenV) ?_;exact ⟨by simp [TJ,q],zK⟩
 | false =>
  refine zW (aV hl g0 bx @TU) ?_;refine AnsH.eq (CY C zF (hz.mono (zG H)) hbig) fun H2 hk2=>?_;obtain ⟨k2,_,_⟩:=zT H zK hk2;cases hb:SK (b,l) with
  | true =>
   have e:(if true=true then (8:Int) else 0)=8:=rfl;refine zW (aC hl g0 e) ?_;exact ⟨by simp [TJ,hb],zK⟩
  | false =>
   have e:(if false=true then (8:Int) else 0)=0:=rfl;refine zW (aC hl g0 e) ?_;exact ⟨by simp [TJ,hb],zK⟩
set_option maxHeartbeats 1000000 in
def TY (C:Code tab) (hw:Wf H) {n n':Bool} {z z':Bool × List Nat} {w w':AV} (hz:Lb H w z.2) (hz':Lb H w' z'.2) (hl1:Lim z.2) (hl2:Lim z'.2) (hb1:z.2.length<=1048576) (hb2:z'.2.length<=1048576) :
  Ans tab (.fn Tb [.agg [.bool n,.bool z.1,w,.bool n',.bool z'.1,w']]) H fun v H'=>v=.int .i64 (if SP n z n' z' then 0 else 8)/\Kp H H':=by
 have ow:=hz.one;have ow':=hz'.one;have bx:=UR (aQ n) (aQ z.1) ow (aQ n') (aQ z'.1) ow';refine cQ C.q10 zU fun T hl g0=>?_;refine zW (aV hl g0 bx @TK) ?_;refine AnsH.eq (Ur C zF (hz.mono (zG H)) zO) fun H2 hk2=>?_;obtain ⟨k2,_,w2⟩:=zT H zK hk2;have d2:H2.get H.next=some (.cells [.bool n,.bool z.1,w,.bool n',.bool z'.1,w'] vQ true):=hk2.get (cR)
 cases hm:TJ n z with
 | false =>
  refine zW (aV hl g0 d2 @Uz) ?_;exact ⟨by simp [SP,hm],zK⟩
 | true =>
 refine zW (aV hl g0 d2 @Uz) ?_;refine AnsH.eq (Ur C zF ((hz'.mono k2.sub).mono (zG H2)) zO) fun H3 hk3=>?_;obtain ⟨k3,_,w3⟩:=zT H zK hk3;have d3:H3.get H.next=some (.cells [.bool n,.bool z.1,w,.bool n',.bool z'.1,w'] vQ true):=hk3.get d2
 cases hm':TJ n' z' with
 | false =>
  refine zW (aB hl g0) ?_;exact ⟨by simp [SP,hm,hm'],zK⟩
 | true =>
 cases n with
 | true =>
  refine zW (aV hl g0 d3 @U4) ?_;exact ⟨by simp [SP,hm,hm'],zK⟩
 | false =>
 cases n' with
 | true =>
  refine zW (aV hl g0 d3 @U4) ?_;exact ⟨by simp [SP,hm,hm'],zK⟩
 | false =>
 have hg1:SK z=false:=by simpa [TJ] using hm
 have hg2:SK z'=false:=by simpa [TJ] using hm'
 have i1:=TQ hg1 hl1 hz;have i2:=TQ hg2 hl2 hz';have s1:St (fE z):=(KV hl1 hb1).sm zO;have s2:St (fE z'):=(KV hl2 hb2).sm zO;refine zW (eW hl g0 d3 @U4 @TU @Uv) ?_;refine AnsH.eq (Iv C zF ((i1.mono k3.sub).mono (zG H3)) ((i2.mono k3.sub).mono (zG H3)) s1 s2) fun H4 hk4=>?_;have k4:Kp H H4:=k3.trans (Kp.trans zK hk4);have le_k4:=k4.le;by_cases hq:0<iv (fE z-fE z')
 ·refine zW (aC hl g0 hq) ?_;refine ⟨?_,zK⟩;rw [Ud] at hq;rw [if_neg];simp [SP]; omega
 ·refine zW (aC hl g0 hq) ?_;refine ⟨?_,zK⟩;rw [Ud] at hq;rw [if_pos];simp [SP,hm,hm']; omega
def PlcV (H:Heap) (v:AV) (be x:Int):Prop:=∃ p,v=.agg [.int .i64 be,.bool (decide (x<0)),p]/\cp H p x.natAbs
def ItvV (H:Heap) (v:AV) (n:Bool) (x:Int) (n':Bool) (y:Int):Prop:=∃ p q,v=.agg [.bool n,.bool (decide (x<0)),p,.bool n',.bool (decide (y<0)),q]/\cp H p x.natAbs/\cp H q y.natAbs
def ItvV.mono {H H':Heap} (hs:Sub H H') {v:AV} {n n':Bool} {x y:Int} (h:ItvV H v n x n' y):ItvV H' v n x n' y:=by
 obtain ⟨p,q,rfl,h1,h2⟩:=h;exact ⟨p,q,rfl,h1.mono hs,h2.mono hs⟩
def PlcV.mono {H H':Heap} (hs:Sub H H') {v:AV} {be x:Int} (h:PlcV H v be x):PlcV H' v be x:=by
 obtain ⟨p,rfl,h1⟩:=h;exact ⟨p,rfl,h1.mono hs⟩
def Tg (H:Heap):cp H .nilSl 0:=by
 show Lb H .nilSl (ag 0);rw [Vp (l:=ag 0) (by have:=bZ 0; omega)];exact SlV.nil _ _ _
def UP (C:Code tab) (hw:Wf H) {v:AV} {n n':Bool} {x y:Int} (h:ItvV H v n x n' y) :
  Ans tab (.fn TH [v]) H fun r H'=>PlcV H' r (if n then -1 else 0) (if n then 0 else x)/\Kp H H':=by
 obtain ⟨p,q,rfl,hp,hq⟩:=h;have op:=hp.one;have oq:=hq.one;have bx:=UR (aQ n) (aQ (decide (x<0))) op (aQ n') (aQ (decide (y<0))) oq;have bb:ia [.int .i64 0,.bool false,.nilSl] [((0,1),.int .i64 (-1))]=some (.agg [.int .i64 (-1),.bool false,.nilSl]):=rfl;have bc:ia [.int .i64 0,.bool false,.nilSl] [((1,2),.agg [.bool (decide (x<0)),p])]=some (.agg [.int .i64 0,.bool (decide (x<0)),p]):=by simp [ia,cX,AV.cells,op.2,(aQ (decide (x<0))).2]
 refine cQ C.q37 zU fun T hl g0=>?_;cases n with
 | true =>
  refine zW (cr hl g0 bx bb @mF) ?_;exact ⟨⟨.nilSl,rfl,Tg _⟩,zK⟩
 | false =>
  refine zW (eW hl g0 bx @TU bc @mF) ?_;refine ⟨⟨p,rfl,hp.mono (zG H)⟩,zK⟩
def UD (C:Code tab) (hw:Wf H) {v:AV} {n n':Bool} {x y:Int} (h:ItvV H v n x n' y) :
  Ans tab (.fn To [v]) H fun r H'=>PlcV H' r (if n' then 1 else 0) (if n' then 0 else y)/\Kp H H':=by
 obtain ⟨p,q,rfl,hp,hq⟩:=h;have op:=hp.one;have oq:=hq.one;have bx:=UR (aQ n) (aQ (decide (x<0))) op (aQ n') (aQ (decide (y<0))) oq;have bb:ia [.int .i64 0,.bool false,.nilSl] [((0,1),.int .i64 1)]=some (.agg [.int .i64 1,.bool false,.nilSl]):=rfl;have bc:ia [.int .i64 0,.bool false,.nilSl] [((1,2),.agg [.bool (decide (y<0)),q])]=some (.agg [.int .i64 0,.bool (decide (y<0)),q]):=by simp [ia,cX,AV.cells,oq.2,(aQ (decide (y<0))).2]
 refine cQ C.q39 zU fun T hl g0=>?_;cases n' with
 | true =>
  refine zW (eW hl g0 bx @U4 bb @mF) ?_;exact ⟨⟨.nilSl,rfl,Tg _⟩,zK⟩
 | false =>
  refine zW (gf hl g0 bx @U4 @Uv bc @mF) ?_;refine ⟨⟨q,rfl,hq.mono (zG H)⟩,zK⟩
def TL (C:Code tab) (hw:Wf H) {v v':AV} {be be' x x':Int} (h:PlcV H v be x) (h':PlcV H v' be' x') (hx:St x) (hx':St x') (hb : -1<=be/\be<=1) (hb' : -1<=be'/\be'<=1) :
  Ans tab (.fn ST [v,v']) H fun r H'=>r=.int .i64 (if be=be' then iv (x-x') else be-be')/\Kp H H':=by
 obtain ⟨p,rfl,hp⟩:=h;obtain ⟨q,rfl,hq⟩:=h';have op:=hp.one;have oq:=hq.one;have b1:=UH (bf .i64 be) (aQ (decide (x<0))) op;have b2:=UH (bf .i64 be') (aQ (decide (x'<0))) oq;refine bz C.q38 zU fun T hl g0 g1=>?_;by_cases e:be=be'
 ·rw [if_pos e];subst e;refine zW (eW hl g0 g1 b1 b2 @TU) ?_;refine AnsH.eq (Iv C (x:=x) (y:=x') zF ⟨p,rfl,hp.mono (zG H)⟩ ⟨q,rfl,hq.mono (zG H)⟩ hx hx') fun H2 hk2=>?_;obtain ⟨k2,_,_⟩:=zT H zK hk2;refine zW (aC hl g0 g1) ?_;exact zK
 ·rw [if_neg e];have ew:IntKind.i64.wrap (be-be')=be-be':=by rw [wrap_i64] <;> omega
  refine zW (gf hl g0 g1 b1 b2 e ew) ?_;exact zK
def Tc (n:Bool) (x:Int) (n':Bool) (y z:Int):Bool:=(n || decide (x<=z)) && (n' || decide (z<=y))
set_option maxHeartbeats 1000000 in
def Us (C:Code tab) (hw:Wf H) {v w:AV} {n n':Bool} {x y z:Int} (h:ItvV H v n x n' y) (hz:IntV H w z) (hx:Bt 8388608 x) (hy:Bt 8388608 y) (hzb:Bt 8388608 z) (hm:SP n (eR x) n' (eR y)=true) :
  Ans tab (.fn TI [v,w]) H fun r H'=>r=.tup [.bool (Tc n x n' y z),.int .i64 0]/\Kp H H':=by
 have hh:=h;obtain ⟨p,q,rfl,hp,hq⟩:=h;obtain ⟨s,rfl,hs⟩:=hz;have op:=hp.one;have oq:=hq.one;have os:=hs.one;have bx:=UR (aQ n) (aQ (decide (x<0))) op (aQ n') (aQ (decide (y<0))) oq;have bc:ia [.int .i64 0,.bool false,.nilSl] [((1,2),.agg [.bool (decide (z<0)),s])]=some (.agg [.int .i64 0,.bool (decide (z<0)),s]):=by simp [ia,cX,AV.cells,os.2,(aQ (decide (z<0))).2]
 have sx:St x:=hx.sm zO;have sy:St y:=hy.sm zO;have sz:St z:=hzb.sm zO;have lx:(ag x.natAbs).length<=1048576:=DR (m:=8388608) hx zO;have ly:(ag y.natAbs).length<=1048576:=DR (m:=8388608) hy zO;refine bz C.q12 zU fun T hl g0 g1=>?_;refine zW (cr hl g0 g1 bx @SL) ?_;refine AnsH.eq (TY C (n:=n) (n':=n') (z:=eR x) (z':=eR y) zF (hp.mono (zG H)) (hq.mono (zG H)) (bu _) (bu _) lx ly) fun H2 hk2=>?_;rw [hm];obtain ⟨k2,_,w2⟩:=zT H zK hk2;have d2:H2.get H.next=some (.cells [.bool n,.bool (decide (x<0)),p,.bool n',.bool (decide (y<0)),q] vQ true):=hk2.get (cR)
 have c2:H2.get (H.next+1)=some (.cells [.bool (decide (z<0)),s] aa true):=hk2.get (cR);refine zW (aV hl g0 g1 @c2) ?_;refine AnsH.eq (fc C (z:=z) zF ⟨s,rfl,(hs.mono k2.sub).mono (zG H2)⟩ sz) fun H3 hk3=>?_;have k3:Kp H H3:=k2.trans (Kp.trans zK hk3);have le_k3:=k3.le;have w3:=k3.wf;have d3:=hk3.get d2;have c3:=hk3.get c2;refine zW (eW hl g0 g1 c3 bc @mF) ?_;obtain ⟨G,hG⟩:∃ G,G=((H3.up 4).put (H3.next+2) (.cells [.int .i64 0,.bool false,.nilSl] S0 true)).put (H3.next+2) (.cells [.int .i64 0,.bool (decide (z<0)),s] S0 true):=⟨_,rfl⟩
 rw [<- hG];have f3:H3.get (H3.next+2)=none:=w3.fresh zO;have sG:Sub H3 G:=by rw [hG]; exact ((Sub.bump H3 4).put f3 _).put f3 _
 have kG:Kp H G:=by rw [hG]; exact zK
 have eG:G.get (H3.next+2)=some (.cells [.int .i64 0,.bool (decide (z<0)),s] S0 true):=by rw [hG,au]
 have dG:=sG.get _ _ d3;have wG:=kG.wf;clear hG;refine aH ?_;refine zD (gf hl g0 g1 dG eG @SL @TK) ?_;refine AnsH.use (UP C zF ((hh.mono kG.sub).mono (zG G))) ?_;rintro v4 H4 ⟨hv4,hk4⟩;obtain ⟨k4,_,w4⟩:=zT G zK hk4;have d4:=k4.get dG;have e4:=k4.get eG;have ov4:∃ p4,v4=.agg [.int .i64 (if n then -1 else 0),.bool (decide ((if n then 0 else x)<0)),p4]:=by obtain ⟨p4,e,-⟩:=hv4; exact ⟨p4,e⟩
 refine zD (kj hl g0 g1 dG eG d4 e4 @SL @TK) ?_;refine AnsH.use (TL C zF (hv4.mono (zG H4)) ⟨s,rfl,hs.mono (kG.trans k4).sub⟩ (show St (if n then 0 else x) by cases n <;> simp [sx]; exact (Bt.zero 1).sm zO) sz (by cases n <;> simp) zO) ?_;rintro v5 H5 ⟨hv5,hk5⟩;obtain ⟨c1,hc1⟩:∃ c:Int,c=(if (if n=true then (-1:Int) else 0)=0 then iv ((if n=true then 0 else x)-z) else (if n=true then (-1:Int) else 0)-0):=⟨_,rfl⟩
 rw [<- hc1] at hv5;subst hv5;have k5:Kp G H5:=k4.trans (Kp.trans zK hk5);have le_k5:=k5.le;have w5:=k5.wf;have d5:=k5.get dG;have e5:=k5.get eG;have q1:(c1<=0) ↔ ((n || decide (x<=z))=true):=by
  rw [hc1];cases n with
  | true=>simp
  | false =>
   have:(iv (x-z)<=0) ↔ (x<=z):=by rw [PU]; omega
   simp [this]
 cases qa:(n || decide (x<=z)) with
 | true =>
  have q:=q1.2 qa;refine zX (Al hl g0 g1 dG eG d4 e4 d5 e5 @SL @TK q) ?_;refine AnsH.use (UD C zF ((hh.mono (kG.trans k5).sub).mono (zG H5))) ?_;rintro v6 H6 ⟨hv6,hk6⟩;have k6:Kp G H6:=k5.trans (Kp.trans zK hk6);have le_k6:=k6.le;have w6:=k6.wf;have d6:=k6.get dG;have e6:=k6.get eG;refine zX (Ik hl g0 g1 dG eG d4 e4 d5 e5 d6 e6 @SL @TK q) ?_;refine AnsH.use (TL C zF ⟨s,rfl,hs.mono (kG.trans k6).sub⟩ (hv6.mono (zG H6)) sz (show St (if n' then 0 else y) by cases n' <;> simp [sy]; exact (Bt.zero 1).sm zO) zO (by cases n' <;> simp)) ?_;rintro v7 H7 ⟨hv7,hk7⟩;obtain ⟨c2,hc2⟩:∃ c:Int,c=(if (0:Int)=(if n'=true then (1:Int) else 0) then iv (z-(if n'=true then 0 else y)) else 0-(if n'=true then (1:Int) else 0)):=⟨_,rfl⟩
  rw [<- hc2] at hv7;subst hv7;have k7:Kp G H7:=k6.trans (Kp.trans zK hk7);have le_k7:=k7.le;have w7:=k7.wf;have d7:=k7.get dG;have e7:=k7.get eG;have q2:(c2<=0) ↔ ((n' || decide (z<=y))=true):=by
   rw [hc2];cases n' with
   | true=>simp
   | false =>
    have:(iv (z-y)<=0) ↔ (z<=y):=by rw [PU]; omega
    simp [this]
  have fin:∀ c:Bool,c=(n' || decide (z<=y))->c=Tc n x n' y z:=fun c hc=>by rw [hc]; unfold Tc; rw [qa]; rfl
  have kk7:=kG.trans k7;cases qb:(n' || decide (z<=y)) with
  | true =>
   have qq:=q2.2 qb;refine zX (Fd hl g0 g1 dG eG d4 e4 d5 e5 d6 e6 d7 e7 @SL @TK q qq) ?_;exact ⟨by rw [fin true qb.symm],zK⟩
  | false =>
   have qq:¬ c2<=0:=fun h=>by rw [q2.1 h] at qb; cases qb
   refine zX (Fd hl g0 g1 dG eG d4 e4 d5 e5 d6 e6 d7 e7 @SL @TK q qq) ?_;exact ⟨by rw [fin false qb.symm],zK⟩
 | false =>
  have q:¬ c1<=0:=fun h=>by rw [q1.1 h] at qa; cases qa
  have kk5:=kG.trans k5;refine zX (Al hl g0 g1 dG eG d4 e4 d5 e5 @SL @TK q) ?_;exact ⟨by unfold Tc; rw [qa]; rfl,zK⟩
end
end Go.Proofs.YthjdfjlhjnihfaaGreat.Ev
