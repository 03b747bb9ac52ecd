/- A part. -/
import Derived.Test.YthjdfjlhjnihfaaGreatA0
import Derived.Test.YthjdfjlhjnihfaaGreatN72
import Derived.Test.YthjdfjlhjnihfaaGreatArgs
import Derived.WideShapes
import Derived.Test.YthjdfjlhjnihfaaGreatEvDraw5
import Derived.KernelRfl
import Derived.WalkKit
import Derived.ProofKit
import Derived.Test.YthjdfjlhjnihfaaGreatProg
import Derived.Lib.Walk
import Derived.Lib.SliceRun
import Derived.Lib.JoinLaws
import Derived.Lib.AppendZeros
import Derived.Lib.AppendZerosOnto
import Derived.Lib.Overlaps
import Derived.Laws.Externs
import Derived.Laws.IdiomCopy
import Derived.Laws.NewBlocks
import Derived.Shelf.RegionOpenPlain
import Derived.Shelf.SlSortCmp.NoneTotal
import Derived.Ground.SlsfProg
import Derived.Test.YthjdfjlhjnihfaaGreatKit
set_option linter.all false
namespace Go.Proofs.YthjdfjlhjnihfaaGreat.Ev
open Go Nn
abbrev UC:AV:=.agg [.bool false,.bool false,.nilSl,.bool false,.bool false,.nilSl]
def TC (n:Nat) (G:List (Nat × List Int)) (l:List (Bool × List Nat)):Int:=if Aj l then (if l.length≠n+1 then 70 else if G=[] then 6 else 0) else 8
def UV {a b c d e f x1 x2 x3 x4 x5 x6:AV} {ty:Nat} (h1:One x1) (h2:One x2) (h3:One x3) (h4:One x4) (h5:One x5) (h6:One x6):Db (some (.cells [a,b,c,d,e,f] ty true)) 6 0 (.agg [x1,x2,x3,x4,x5,x6])=some (.cells [x1,x2,x3,x4,x5,x6] ty true):=by
 simp [Db,AV.cells,h1.2,h2.2,h3.2,h4.2,h5.2,h6.2]
section
variable {tab:Nat->Option aw} {H:Heap}
def TO (C:Code tab) (hw:Wf H) {v w:AV} {n e f:Nat} {K:List (List Int × Bool)} {G:List (Nat × List Int)} {l:List (Bool × List Nat)} (hp:PolyV H v n K G) (ho:PolyOK n e f K G) (hs:SlV rawE aa H w l) (hbig:vJ l) (hc:TC n G l≠0) :
  Ans tab (.fn SI [v,w]) H fun x H'=>x=.tup [UC,.int .i64 (TC n G l)]/\Kp H H':=by
 obtain ⟨vc,vg,rfl,hC,hg⟩:=hp;have oc:=hC.one;have og:=hg.one;have hn:=ho.dim;refine bz C.q5 zU fun T hl g0 g1=>?_;refine zW (aV hl g0 g1 (kg oc og)) ?_;refine AnsH.eq (rU C zF ⟨vc,vg,rfl,hC.mono (zG H),hg.mono (zG H)⟩ ho) fun H2 hk2=>?_;obtain ⟨k2,_,w2⟩:=zT H zK hk2;have d0:H2.get H.next=some (.cells [.int .i64 (n:Int),vc,vg] ah true):=hk2.get (cR)
 have d1:H2.get (H.next+1)=some (.cells [.bool false,.bool false,.nilSl,.bool false,.bool false,.nilSl] vQ true):=hk2.get (cR);refine zW (aV hl g0 g1 g1) ?_;refine AnsH.eq (qC C zF ((hs.mono k2.sub).mono (zG H2)) hbig) fun H3 hk3=>?_;obtain ⟨k23,_,_⟩:=zT H2 zK hk3;have k3:Kp H H3:=k2.trans k23;have le_k3:=k3.le;have w3:=k3.wf;have c0:=k23.get d0;have c1:=k23.get d1;have b0:ia [.bool false,.bool false,.nilSl,.bool false,.bool false,.nilSl] []=some UC:=rfl;have hst:Db (some (.cells [.bool false,.bool false,.nilSl,.bool false,.bool false,.nilSl] vQ true)) 6 0 UC=some (.cells [.bool false,.bool false,.nilSl,.bool false,.bool false,.nilSl] vQ true):=rfl;unfold TC at hc ⊢;cases hk:Aj l with
 | false =>
  have e:(if false=true then (0:Int) else 8)=8:=rfl;rw [hk] at hc;simp only [Vx,if_false] at hc ⊢;refine zW (eW hl g0 g1 @c1 hst @SL) ?_;exact zK
 | true =>
 rw [hk] at hc;simp only [if_true] at hc ⊢;have ew:IntKind.i64.wrap ((n:Int)+1)=((n+1:Nat):Int):=by rw [wrap_i64] <;> omega
 by_cases hlen:l.length≠n+1
 ·have q:¬ ((l.length:Int)=((n+1:Nat):Int)):=zO;rw [if_pos hlen];refine zW (rc hl g0 g1 g1 c0 @c1 hs.lenV ew q hst @SL) ?_;exact zK
 ·rw [if_neg hlen] at hc ⊢;have q:((l.length:Int)=((n+1:Nat):Int)):=zO;by_cases hG:G=[]
  ·subst hG;have lg:lenV vg=some (.int .i64 0):=hg.lenV;refine zW (Al hl g0 g1 g1 c0 @c1 hs.lenV ew q hst @SL lg) ?_;exact zK
  ·exact absurd (if_neg hG) hc
def Va {w:AV} (ow:One w):fZ (.agg [w,.bool false,.bool false,.nilSl,.bool false,.bool false,.nilSl,.bool false])=some [w,.bool false,.bool false,.nilSl,.bool false,.bool false,.nilSl,.bool false]:=by
 have h:([w,.bool false,.bool false,.nilSl,.bool false,.bool false,.nilSl,.bool false]:List AV).all AV.one=true:=by rw [List.all_cons,ow.2]; rfl
 unfold fZ;exact if_pos h
def U6 {a b c d e f:AV} (ha:One a) (hb:One b) (hc:One c) (hd:One d) (he:One e) (hf:One f):ia [.bool false,.bool false,.nilSl,.bool false,.bool false,.nilSl] [((0,3),.agg [a,b,c]),((3,3),.agg [d,e,f])]=some (.agg [a,b,c,d,e,f]):=by
 simp [ia,cX,AV.cells,ha.2,hb.2,hc.2,hd.2,he.2,hf.2]
def U9 (a b c d:AV) (l:List AV):cA (a :: b :: c :: d :: l) 1 (some 3)=some (.agg [b,c,d]):=by simp [cA]
def U8 (a b c d e f g:AV) (l:List AV):cA (a :: b :: c :: d :: e :: f :: g :: l) 4 (some 3)=some (.agg [e,f,g]):=by simp [cA]
def UE {m:Nat} {a r:List Int} (h:Bt m (Lin.dot a r)):Bt m (Lin.flr a r):=VS (WZ _ _) h
def UG {m:Nat} {a r:List Int} (h:Bt m (Lin.dot a r)):Bt m (Lin.cei a r):=by
 unfold Lin.cei;refine Bt.neg (VS (WZ _ _) ?_);rw [WL]; exact h
def Uc {m:Nat} {a:List Int} {G:List (Nat × List Int)} (h:∀ g∈G,Bt m (Lin.dot a g.2)):∀ j,j<=G.length->Bt m (Lin.bsOf a (G.take j)).lo/\Bt m (Lin.bsOf a (G.take j)).hi
 | 0,_=>⟨Bt.zero m,Bt.zero m⟩
 | j+1,hj=>by
  obtain ⟨h1,h2⟩:=Uc h j zO;have hg:=h _ (rZ (show j<G.length by omega));rw [Lin.bsOf_take zO];unfold Lin.tkB;split
  ·exact ⟨by simp only; split; exact UE hg; exact h1,by simp only; split; exact UG hg; exact h2⟩
  ·exact ⟨h1,h2⟩
def BndV.mono {H':Heap} {b:Nat} {vr:AV} {s:Lin.Bs} (hs:Sub H H') (h:BndV H b vr s):BndV H' b vr s:=by
 obtain ⟨p,q,h1,h2,h3⟩:=h;exact ⟨p,q,hs.get _ _ h1,h2.mono hs,h3.mono hs⟩
def BndV.up {b:Nat} {vr:AV} {s:Lin.Bs} (h:BndV H b vr s) (m:Nat):BndV (H.up m) b vr s:=by
 obtain ⟨p,q,h1,h2,h3⟩:=h;exact ⟨p,q,h1,h2.mono (Sub.bump H m),h3.mono (Sub.bump H m)⟩
set_option maxHeartbeats 2000000 in
def TP (C:Code tab) (hw:Wf H) {v w:AV} {n e f e':Nat} {K:List (List Int × Bool)} {G:List (Nat × List Int)} {a:List Int} (hp:PolyV H v n K G) (ho:PolyOK n e f K G) (ha:RowV H w a) (hal:a.length=n+1) (hab:Lin.Bd (2^e') a) (he':e'<=300000) (hG:G≠[]) :
  Ans tab (.fn SI [v,w]) H fun x H'=>(∃ r,x=.tup [r,.int .i64 0]/\ItvV H' r (Lin.bsOf a G).ln (if (Lin.bsOf a G).ln then 0 else (Lin.bsOf a G).lo) (Lin.bsOf a G).hn (if (Lin.bsOf a G).hn then 0 else (Lin.bsOf a G).hi))/\Kp H H':=by
 obtain ⟨vc,vg,rfl,hC,hg⟩:=hp;have oc:=hC.one;have og:=hg.one;have oa:=ha.one;have hn:=ho.dim;have e3:=ho.e3;have lG:=ho.many;have hbt:=jk hab;refine bz C.q5 zU fun T hl g0 g1=>?_;refine zW (aV hl g0 g1 (kg oc og)) ?_;refine AnsH.eq (rU C zF ⟨vc,vg,rfl,hC.mono (zG H),hg.mono (zG H)⟩ ho) fun H2 hk2=>?_;obtain ⟨k2,_,w2⟩:=zT H zK hk2;have d0:H2.get H.next=some (.cells [.int .i64 (n:Int),vc,vg] ah true):=hk2.get (cR)
 have d1:H2.get (H.next+1)=some (.cells [.bool false,.bool false,.nilSl,.bool false,.bool false,.nilSl] vQ true):=hk2.get (cR);refine zW (aV hl g0 g1 g1) ?_;refine AnsH.eq (sO C zF ((ha.mono k2.sub).mono (zG H2)) zO fun z hz=>(hbt z hz).sm zO) fun H3 hk3=>?_;obtain ⟨k23,_,_⟩:=zT H2 zK hk3;have k3:Kp H H3:=k2.trans k23;have le_k3:=k3.le;have w3:=k3.wf;have c0:=k23.get d0;have c1:=k23.get d1;have ew:IntKind.i64.wrap ((n:Int)+1)=((n+1:Nat):Int):=by rw [wrap_i64] <;> omega
 have q1:((a.length:Int)=((n+1:Nat):Int)):=zO;have lpos:G.length≠0:=fun e=>hG (Vp e);have q2:¬ ((G.length:Int)=0):=zO;have bb:ia [.nilSl,.bool false,.bool false,.nilSl,.bool false,.bool false,.nilSl,.bool false] [((0,1),w)]=some (.agg [w,.bool false,.bool false,.nilSl,.bool false,.bool false,.nilSl,.bool false]):=by simp [ia,cX,oa.1,oa.2]
 have bx:fZ (.agg [w,.bool false,.bool false,.nilSl,.bool false,.bool false,.nilSl,.bool false])=some [w,.bool false,.bool false,.nilSl,.bool false,.bool false,.nilSl,.bool false]:=Va oa;refine zW (xK hl g0 g1 g1 c0 @c1 ha.lenV hg.lenV ew q1 q2 bb bx) ?_;obtain ⟨G3,hG3⟩:∃ X,X=(H3.up 23).put (H3.next+14) (.cells [w,.bool false,.bool false,.nilSl,.bool false,.bool false,.nilSl,.bool false] vZ true):=⟨_,rfl⟩
 rw [<- hG3];have s3:Sub H3 G3:=by rw [hG3]; exact (Sub.bump H3 23).put (w3.fresh (b:=H3.next+14) zO) _
 have kG3:Kp H G3:=by rw [hG3]; exact zK
 have bG3:BndV G3 (H3.next+14) w (Lin.bsOf a (G.take 0)):=⟨.nilSl,.nilSl,by rw [hG3,au]; rfl,Tg _,Tg _⟩
 have cG1:=s3.get _ _ c1;have n3:=k3.le;clear hG3;have gbt:∀ g∈G,Bt (e'+1+(e+1)+7) (Lin.dot a g.2):=fun g hg=>oF hbt (jk (ho.rowG g hg).2) (by rw [hal,(ho.rowG g hg).1]) zO;refine am H [] (fun j _ H'=>Kx (H3.next+14) G3 H'/\BndV H' (H3.next+14) w (Lin.bsOf a (G.take j))) (a:=0) (N:=G.length) (by simp only [dj]; exact hl) (by refine zW (aC hl g0 g1) ?_; rfl) (zV (aC hl g0 g1)) (II _) zO rfl rfl (fun _ _ _ m h=>⟨h.1.up m,h.2.up m⟩) kG3 ⟨Kx.of (Kp.refl kG3.wf),bG3⟩ ?_ ?_
 ·intro j T1 H1 _ hj hl1 hi1 hs1 hk1 ⟨hx1,hP⟩;have w1:=hk1.wf;have le_hk1:=hk1.le;have t8:ad T1 8=.fn (.func Sx) [.ptr (H3.next+14) 0] []:=(hs1.at_ 8 zU).trans (zV (aC hl g0 g1));have t44:ad T1 44=vg:=(hs1.at_ 44 zU).trans (zV (aC hl g0 g1));obtain ⟨_,⟨u,rfl,hr⟩,-,-,L⟩:=(hg.mono hk1.sub).at (pD hj);have L:aW H1 (some 2) (ap vg (j*2))=some (.agg [.int .u8 (G[j].1:Int),u]):=L;have hix:co 2 vg (.int .i64 (j:Int))=some (ap vg (j*2)):=SlV.idx hg .i64 j hj;have ou:=hr.one;have hrow:=ho.rowG _ (rZ hj);obtain ⟨sb1,sb2⟩:=Uc gbt j zO;have kk:Kp H ((H1.up 4).put (H1.next+2) (.cells [.int .u8 (G[j].1:Int),u] ak true)):=zK;have hb1:H3.next+14<H1.next:=by obtain ⟨p,q,h,-⟩:=hP; exact w1 _ _ h
  refine zW (eW hl1 t8 t44 hi1 hix L) ?_;have sc:Sub H1 (((H1.up 7).put (H1.next+2) (.cells [.int .u8 0,.nilSl] ak true)).put (H1.next+2) (.cells [.int .u8 (G[j].1:Int),u] ak true)):=((Sub.bump H1 7).put (w1.fresh (b:=H1.next+2) zO) _).put (w1.fresh (b:=H1.next+2) zO) _;have kc:Kp H (((H1.up 7).put (H1.next+2) (.cells [.int .u8 0,.nilSl] ak true)).put (H1.next+2) (.cells [.int .u8 (G[j].1:Int),u] ak true)):=zK;refine AnsH.use (Uk C kc.wf (hP.mono sc) (ha.mono (hk1.sub.trans sc)) (hr.mono sc) (by rw [hal,hrow.1]) zO hbt (jk hrow.2) zO (fun h=>(ho.own.valid _ (rZ hj)).2.1 h) (sb1.sm zO) (sb2.sm zO)) ?_;rintro v2 H2 ⟨hb2,kx2⟩;have k2':Kp H H2:=kx2.kp kc zO;refine zW hl1 ?_;have kc1:Kp H1 (((H1.up 7).put (H1.next+2) (.cells [.int .u8 0,.nilSl] ak true)).put (H1.next+2) (.cells [.int .u8 (G[j].1:Int),u] ak true)):=zK;exact ⟨k2',(hx1.trans (Kx.of kc1)).trans kx2,by rw [Lin.bsOf_take hj]; exact hb2⟩
 ·intro T1 H1 hl1 hs1 hk1 ⟨hx1,hP⟩;have w1:=hk1.wf;have le_hk1:=hk1.le;rw [Vo] at hP;obtain ⟨S,hS⟩:∃ S,S=Lin.bsOf a G:=⟨_,rfl⟩
  rw [<- hS] at hP ⊢;clear hS;obtain ⟨ln,lo,hn',hi,so⟩:=S;simp only;have j2:ad T1 4=.ptr (H.next+1) 0:=(hs1.at_ 4 zU).trans (zV (aC hl g0 g1));have j7:ad T1 7=.ptr (H3.next+14) 0:=(hs1.at_ 7 zU).trans (zV (aC hl g0 g1));have d1:=hx1.get cG1 zO;have hb1:H3.next+14<H1.next:=by obtain ⟨p,q,h,-⟩:=hP; exact w1 _ _ h
  refine uv ?_;refine aH ?_;refine zD (aB hl1 j7) ?_;obtain ⟨D1,hD1⟩:∃ X,X=(H1.up 9).put (H1.next+6) (.cells [.ptr (H3.next+14) 1,.ptr (H3.next+14) 4] Ti true):=⟨_,rfl⟩
  rw [<- hD1];have s1:Sub H1 D1:=by rw [hD1]; exact (Sub.bump H1 9).put (w1.fresh (b:=H1.next+6) zO) _
  have kD1:Kp H D1:=by rw [hD1]; exact zK
  have bD1:=hP.mono s1;have dD1:=s1.get _ _ d1;have pD1:D1.get (H1.next+6)=some (.cells [.ptr (H3.next+14) 1,.ptr (H3.next+14) 4] Ti true):=by rw [hD1,au]
  clear hD1;refine am H [] (fun j _ H'=>Kx (H3.next+14) D1 H'/\BndV H' (H3.next+14) w ⟨ln,if 1<=j/\ln=true then 0 else lo,hn',if 2<=j/\hn'=true then 0 else hi,so⟩) (a:=0) (N:=2) (by simp only [dj]; exact hl1) (by refine zD hl1 ?_; rfl) (zE hl1) (II _) zO rfl rfl (fun _ _ _ m h=>⟨h.1.up m,h.2.up m⟩) kD1 ⟨Kx.of (Kp.refl kD1.wf),by simpa using bD1⟩ ?_ ?_
  ·intro j T2 H2 _ hj hl2 hi2 hs2 hk2 ⟨hx2,hP2⟩;have w2:=hk2.wf;have le_hk2:=hk2.le;have t60:ad T2 60=.own (H1.next+6) 0 2 2 1 true:=(hs2.at_ 60 zU).trans (zE hl1);have p2:=hx2.get pD1 zO;obtain ⟨p,q,hb,hp1,hq1⟩:=hP2;simp only at hb hp1 hq1;have hb2:H3.next+14<H2.next:=w2 _ _ hb
   have kxp:∀ (m:Nat) (e:Ent),Kx (H3.next+14) D1 ((H2.up m).put (H3.next+14) e):=fun m e=>(hx2.up m).put (by show _<H2.next+m; omega) _;have hm:∀ {x:AV} {z:Nat} (m:Nat) (cs:List AV),cp H2 x z->cp ((H2.up m).put (H3.next+14) (.cells cs vZ true)) x z:=fun m cs h=>(h.mono (Sub.bump H2 m)).monoT (SubT.put_ty (show (H2.up m).get (H3.next+14)=_ from hb) zU);have kkp:∀ (m:Nat) (e:Ent),Kp H ((H2.up m).put (H3.next+14) e):=fun m e=>(hk2.up m).put zO (by show _<H2.next+m; omega);obtain rfl | rfl:j=0\/j=1:=zO
   ·have hi2:ad T2 62=.int .i64 0:=hi2;have ix:co 1 (.own (H1.next+6) 0 2 2 1 true) (.int .i64 0)=some (.ptr (H1.next+6) 0):=rfl;simp only [show ¬ (1:Nat)<=0 by omega,show ¬ (2:Nat)<=0 by omega,false_and,if_false] at hb hp1 hq1;cases ln with
    | true =>
     refine zW (gf hl2 hi2 t60 ix p2 hb @UM) ?_;exact ⟨kkp _ _,kxp _ _,.nilSl,q,au _ _ _,Tg _,by simpa using hm _ _ hq1⟩
    | false =>
     refine zW (eW hl2 hi2 t60 ix p2 hb) ?_;have hB:BndV H2 (H3.next+14) w ⟨false,lo,hn',hi,so⟩:=⟨p,q,hb,hp1,hq1⟩
     exact ⟨hk2.up _,hx2.up _,by simpa using hB.up _⟩
   ·have hi2:ad T2 62=.int .i64 1:=hi2;have ix:co 1 (.own (H1.next+6) 0 2 2 1 true) (.int .i64 1)=some (.ptr (H1.next+6) 1):=rfl;simp only [show (1:Nat)<=1 by omega,show ¬ (2:Nat)<=1 by omega,false_and,true_and,if_false] at hb hp1 hq1;cases hn' with
    | true =>
     refine zW (ki hl2 hi2 t60 ix p2 hb @UL @U3) ?_;exact ⟨kkp _ _,kxp _ _,p,.nilSl,by rw [au]; simp,by simpa using hm _ _ hp1,Tg _⟩
    | false =>
     refine zW (gf hl2 hi2 t60 ix p2 hb @U3) ?_;have hB:BndV H2 (H3.next+14) w ⟨ln,if ln=true then 0 else lo,false,hi,so⟩:=⟨p,q,hb,hp1,hq1⟩
     exact ⟨hk2.up _,hx2.up _,by simpa using hB.up _⟩
  ·intro T2 H2 hl2 hs2 hk2 ⟨hx2,hP2⟩;have w2:=hk2.wf;have le_hk2:=hk2.le;have i2:ad T2 4=.ptr (H.next+1) 0:=(hs2.at_ 4 zU).trans (zE (aB hl1 j2));have i7:ad T2 7=.ptr (H3.next+14) 0:=(hs2.at_ 7 zU).trans (zE (aB hl1 j7));have d2:=hx2.get dD1 zO;obtain ⟨p,q,hb,hp1,hq1⟩:=hP2;simp only [show (1:Nat)<=2 by omega,show (2:Nat)<=2 by omega,true_and] at hb hp1 hq1;have op:=hp1.one;have oq:=hq1.one;obtain ⟨lo',hlo'⟩:∃ z:Int,z=(if ln=true then 0 else lo):=⟨_,rfl⟩
   obtain ⟨hi',hhi'⟩:∃ z:Int,z=(if hn'=true then 0 else hi):=⟨_,rfl⟩
   rw [<- hlo'] at hb hp1 ⊢;rw [<- hhi'] at hb hq1 ⊢;have bd:=U6 (aQ ln) (aQ (decide (lo'<0))) op (aQ hn') (aQ (decide (hi'<0))) oq;have sd:=UV (a:=.bool false) (b:=.bool false) (c:=.nilSl) (d:=.bool false) (e:=.bool false) (f:=.nilSl) (ty:=vQ) (aQ ln) (aQ (decide (lo'<0))) op (aQ hn') (aQ (decide (hi'<0))) oq;refine uv ?_;refine aH ?_;refine zD (rM hl2 i2 i7 hb d2 @U9 @U8 bd sd @SL) ?_;have lt2:H.next+1<H2.next:=w2 _ _ d2
   exact ⟨⟨_,rfl,p,q,rfl,(hp1.mono (Sub.bump H2 11)).monoT (SubT.put_ty (show (H2.up 11).get (H.next+1)=_ from d2) zU),(hq1.mono (Sub.bump H2 11)).monoT (SubT.put_ty (show (H2.up 11).get (H.next+1)=_ from d2) zU)⟩,zK⟩
end
def UQ {n:Nat} {x:E6} (gg:jU x.2) (hg:lS 1 [x]=false) (hn:n<=4) :
  Ss n [x]≠0\/(Lin.ValidG n [UT x]/\(x.1=1\/x.1=2\/x.1=3)/\Lin.Bd (2^64) (UT x).2/\∀ z∈x.2,SK z=false/\Lim z.2):=by
 by_cases hc:Ss n [x]=0
 ·refine .inr ?_;obtain ⟨-,h2⟩:=yZ hg;unfold Ss at hc;split at hc
  ·omega
  split at hc
  ·omega
  split at hc
  ·omega
  split at hc
  ·omega
  rename_i q1 q2 q3 q4;have q3:FP x=false:=by
   cases hok:FP x with
   | false=>rfl
   | true=>exact absurd (VA.2 ⟨x,Vh.2 rfl,hok⟩) q3
  have hl:(x.2.length:Int)=n+1:=by
   apply Wv
   intro hn;exact q4 (VA.2 ⟨x,Vh.2 rfl,by simpa using hn⟩)
  unfold FP at q3;rw [WE] at q3;have ok:Aj x.2=true:=by simpa using q3.1
  have ho:=q3.2;unfold FQ at ho;refine ⟨fun y hy=>?_,?_,PZ fun z hz=>⟨(gg.1 z hz).1,(h2 x (Vh.2 rfl)).2 z hz⟩,fun z hz=>⟨N5 ok z hz,(gg.1 z hz).1⟩⟩
  ·rw [Vh] at hy;subst hy;refine ⟨by show (x.2.map fE).length=_; rw [B8]; omega,fun e=>?_,fun e=>?_⟩
   ·have e:x.1=3:=e;rw [if_neg (by simp only; omega),if_pos e] at ho
    have:=of_decide_eq_false ho
    show 0<Lin.hd1 (x.2.map fE);simp only at this;omega
   ·have e:x.1≠3:=e;split at ho
    ·have:=of_decide_eq_false ho
     show Lin.hd1 (x.2.map fE)=0;simp only at this;omega
    ·cases ho
  ·split at ho
   ·rename_i h; simp only at h; omega
   ·split at ho
    ·rename_i h; simp only at h; omega
    ·cases ho
 ·exact .inl hc
def UN {l:List (Bool × List Nat)} (gr:jU l) (hg:iX 5 1 l=false) (hk:Aj l=true):Lin.Bd (2^64) (l.map fE)/\∀ z∈l,SK z=false/\Lim z.2 :=
 ⟨PZ fun z hz=>⟨(gr.1 z hz).1,(tx hg).2 z hz⟩,fun z hz=>⟨N5 hk z hz,(gr.1 z hz).1⟩⟩
def Uo {l:List (Bool × List Nat)} {b:Bool} (h:fe 1 [(l,b)]=false):iX 5 1 l=false:=by
 unfold fe at h;rw [WE,Wh] at h
 simpa using h.2 _ (Vh.2 rfl)
def UZ {H:Heap} {b:Nat} {v:AV} {l:List (Bool × List Nat)} {e r:Bool} (h:H.get b=some (.cells [v,.bool e] t_api_Con r)) (hv:SlV rawE aa H v l):SlV conQE t_api_Con H (.own b 0 1 1 2 true) [(l,e)] :=
 ⟨_,Rd.own h rfl (wT _),fun _ _ _ _ _ _ e=>by cases e; exact ⟨_,_,h⟩,rfl,fun i a hi=>by
  match i with
  | 0=>simp at hi; subst hi; exact ⟨v,rfl,hv⟩
  | i+1=>simp at hi⟩
def UY {H:Heap} {b:Nat} {v:AV} {g:E6} {r:Bool} (h:H.get b=some (.cells [.int .u8 (g.1:Int),v] ak r)) (hv:SlV rawE aa H v g.2):SlV genQE ak H (.own b 0 1 1 2 true) [g] :=
 ⟨_,Rd.own h rfl (wT _),fun _ _ _ _ _ _ e=>by cases e; exact ⟨_,_,h⟩,rfl,fun i a hi=>by
  match i with
  | 0=>simp at hi; subst hi; exact ⟨v,rfl,hv⟩
  | i+1=>simp at hi⟩
section
variable {tab:Nat->Option aw} {H:Heap} {s1 s2:AV}
def UO {n n':Bool} {x y lo hi:Int} (hlo:lo=(if n=true then 0 else x)) (hhi:hi=(if n'=true then 0 else y)) (h:n=false->n'=false->x<=y):SP n (eR lo) n' (eR hi)=true:=by
 have z0:eR 0=(false,[]):=by
  unfold eR;rw [Vp (l:=ag (0:Int).natAbs) (by have:=bZ (0:Int).natAbs; omega)]; rfl
 have hb:∀ (m:Bool) (w t:Int),w=(if m=true then 0 else t)->TJ m (eR w)=true:=fun m w t e=>by
  cases m with
  | true=>rw [e,if_pos rfl,z0]; rfl
  | false=>unfold TJ; rw [ET]; rfl
 unfold SP;rw [hb n lo x hlo,hb n' hi y hhi,F8,F8];cases n with
 | true=>rfl
 | false =>
  cases n' with
  | true=>rfl
  | false =>
   have:=h rfl rfl
   simp only [Vx,if_false] at hlo hhi;rw [hlo,hhi]
   simpa using this
def Ut {n n':Bool} {x y lo hi z:Int} (hlo:lo=(if n=true then 0 else x)) (hhi:hi=(if n'=true then 0 else y)) (h:n=false->x<=z) (h':n'=false->z<=y):Tc n lo n' hi z=true:=by
 unfold Tc;cases n with
 | true =>
  cases n' with
  | true=>rfl
  | false=>have:=h' rfl; simp only [Vx,if_false] at hhi; rw [hhi]; simpa using this
 | false =>
  have h:=h rfl;simp only [Vx,if_false] at hlo;rw [hlo];cases n' with
  | true=>simpa using h
  | false=>have:=h' rfl; simp only [Vx,if_false] at hhi; rw [hhi]; simp [h,this]
set_option maxHeartbeats 4000000 in
def law22_PolyBounds (C:Code tab) (hw:Wf H) {d:Int} {l:List ur} {row:List (Bool × List Nat)} {gn:E6} {acs:List AV} (hs1:SlV conQE t_api_Con H s1 l) (hs2:SlV rawE aa H s2 row) (hgn:genQE.R H acs gn) (gl:∀ x∈l,jU x.1) (gr:jU row) (gg:jU gn.2/\gn.1<256) (_ : -9223372036854775808<=d/\d<9223372036854775808) :
  Ans tab (.fn Su [.int .i64 d,s1,s2,.agg acs]) H fun v H'=>v=.bool true/\Kp H H':=by
 obtain ⟨w,rfl,hgw⟩:=hgn;have ow:=hgw.one;have os2:=hs2.one;refine Aw C.q0 rfl rfl zU fun T hl g=>?_;have hl:T.length=210:=hl;have hrs:c_facetroomlaw22_PolyBounds.results=[(8,none)]:=rfl;have g0:ad T 0=.int .i64 d:=g 0 (by simp);have g1:ad T 1=s1:=g 1 (by simp);have g2:ad T 2=s2:=g 2 (by simp);have g3:ad T 3=.agg [.int .u8 (gn.1:Int),w]:=g 3 (by simp);clear g;refine bk ?_;refine zW (aV hl g3 (EP ow) @aD) ?_;obtain ⟨H1,hH1⟩:∃ H1,H1=(H.up 2).put H.next (.cells [.int .u8 (gn.1:Int),w] ak true):=⟨_,rfl⟩
 have kk1:Kp H H1:=by rw [hH1]; exact zK
 have cG1:H1.get H.next=some (.cells [.int .u8 (gn.1:Int),w] ak true):=by rw [hH1,au]
 have w1:=kk1.wf;rw [<- hH1];clear hH1;refine vO (fun T'=>T'.length=210/\ad T' 0=.int .i64 d/\ad T' 1=s1/\ad T' 2=s2/\ad T' 7=.ptr H.next 0) (zV (aV hl g0 g1 g2)) ?_;clear hl g0 g1 g2 g3;rintro T ⟨hl,g0,g1,g2,g7⟩;refine bk ?_;refine zW hl ?_;refine AnsH.eq (DW C zF) fun H2 hk2=>?_;obtain ⟨k2,_,w2⟩:=zT H1 zK hk2;refine zW (aB hl @aD) ?_;refine bk ?_;refine zW (aC hl g0 g1) ?_;refine AnsH.use (F7 C zF ((hs1.mono (kk1.trans k2).sub).mono (zG H2)) gl (SlV.nil conQE t_api_Con _) (fun x hx=>by cases hx)) ?_;rintro v3 H3 ⟨hm3,hk3⟩;obtain ⟨x,u,z,x',u',z',b,hv3,ou,oz,ou',oz'⟩:=LY hm3;obtain ⟨k3,_,w3⟩:=zT H2 zK hk3;have e3:Emp H3 H2.next (H2.next+12):=(Emp.start w2 (k:=12)).keep hk3
 have n3:=e3.1;have fA:=e3.2 (H2.next+7) zO zO;have fB:=e3.2 (H2.next+8) zO zO;obtain ⟨G3,hG3⟩:∃ G3,G3=(((H3.put (H2.next+7) (.cells [.int .i64 0,.nilSl,.nilSl] ah true)).put (H2.next+8) (.cells [.int .i64 0,.nilSl,.nilSl] ah true)).put (H2.next+7) (.cells [.int .i64 x,u,z] ah true)).put (H2.next+8) (.cells [.int .i64 x',u',z'] ah true):=⟨_,rfl⟩
 have kG3:Kp H2 G3:=by rw [hG3]; exact zK
 have s3G:Sub H3 G3:=by rw [hG3]; exact (((aP fA).put fB _).put fA _).put fB _
 have wG3:=kG3.wf;have pA3:G3.get (H2.next+7)=some (.cells [.int .i64 x,u,z] ah true):=by rw [hG3,az zO,au]
 have kH:Kp H G3:=kk1.trans (k2.trans kG3);have cG3:G3.get H.next=some (.cells [.int .u8 (gn.1:Int),w] ak true):=(k2.trans kG3).get cG1
 subst hv3;refine zW (cr hl g0 g1 @mF @aD) ?_;rw [<- hG3];clear hG3;refine vO (fun T'=>T'.length=210/\ad T' 2=s2/\ad T' 7=.ptr H.next 0/\ad T' 9=.bool true/\ad T' 10=.ptr (H2.next+7) 0/\ad T' 12=.bool b) (zV (aC hl g2 g7)) ?_;clear hl g0 g1 g2 g7;rintro T ⟨hl,g2,g7,g9,g10,g12⟩;refine bk ?_;cases b with
 | false =>
  refine zW (cr hl g9 g12 @yl hrs) ?_;exact zK
 | true =>
 rcases hm3 with ⟨_,_,he,-⟩ | ⟨n,p,q,K,G,K',G',rfl,n3',he,⟨vc,vg,rfl,hc,hg⟩,⟨vc',vg',rfl,hc',hg'⟩,ok,ok',lK,lG⟩
 ·cases he
 cases he;have hc:=hc.mono s3G;have hg:=hg.mono s3G;clear hc' hg' ok' s3G cG1;refine zW (aV hl g2 g12 (xF os2)) ?_;refine AnsH.eq (ko C (ls:=[(row,false)]) (n:=1) zF (UZ (au _ _ _) (hs2.mono (kH.sub.trans ((Sub.bump G3 17).put (wG3.fresh (b:=G3.next+5) zO) _)))) zO) fun G4 hk4=>?_;obtain ⟨k4,_,w4⟩:=zT G3 zK hk4;have kH4:=kH.trans k4;have c4:=k4.get cG3;cases hq1:fe 1 [(row,false)] with
 | true =>
  refine zW (aV hl g9 @yl hrs) ?_;exact zK
 | false =>
 have hfgx:=Qo (p:=.int .u8 0) (q:=.nilSl) (bf .u8 (gn.1:Int)) ow;refine zW (cr hl g7 g9 c4 hfgx) ?_;have n4:G3.next+17<=G4.next:=hk4.le
 have f4:G4.get (G3.next+10)=none:=hk4.free (show G3.next+10<G3.next+17 by omega) (by rw [az zO]; exact wG3.fresh (b:=G3.next+10) zO);refine AnsH.eq (xq C (ls:=[gn]) (n:=1) zF (UY (au _ _ _) ((hgw.mono kH4.sub).mono (aP f4))) zO) fun G5 hk5=>?_;obtain ⟨k5,_,w5⟩:=zT G3 zK hk5;have kH5:=kH.trans k5;have lH5:=kH5.le;have c5:=k5.get cG3;cases hq2:lS 1 [gn] with
 | true =>
  refine zW (aV hl g9 @yl hrs) ?_;exact zK
 | false =>
 refine zW (aC hl g9 @aD) ?_;have p5:=k5.get pA3;have hc5:=hc.mono k5.sub;have hg5:=hg.mono k5.sub;have hs5:=hs2.mono kH5.sub;have hgw5:=hgw.mono kH5.sub;have hbig:vJ row:=Gg hq1 _ (Vh.2 rfl);have hgr:=Uo hq1;have hgd:=UQ (n:=n) gg.1 hq2 zO;have hlg:∀ y∈gn.2,y.2.length<=1:=((yZ hq2).2 gn (Vh.2 rfl)).2;have hbigG:vJ gn.2:=Up hq2 _ (Vh.2 rfl);refine vO (fun T'=>T'.length=210/\ad T' 2=s2/\ad T' 7=.ptr H.next 0/\ad T' 10=.ptr (H2.next+7) 0) (zV (aV hl g2 g7 g10)) ?_;clear hl g2 g7 g9 g10 g12 f4 cG3 c4 pA3 hc hg hq1 hq2 hk4 hk5 e3 fA fB;rintro T ⟨hl,g2,g7,g10⟩;refine bk ?_;by_cases hbc:TC n G row=0
 case neg =>
  refine zW (aV hl g2 g10 p5) ?_;refine AnsH.eq (TO C (n:=n) zF ⟨u,z,rfl,hc5.mono (zG G5),hg5.mono (zG G5)⟩ ok (hs5.mono (zG G5)) hbig hbc) fun G6 hk6=>?_;obtain ⟨k6,_,w6⟩:=zT G5 zK hk6;have n6:G5.next+9<=G6.next:=hk6.le
  have kH6:=kH5.trans k6;have sd:=UV (a:=.bool false) (b:=.bool false) (c:=.nilSl) (d:=.bool false) (e:=.bool false) (f:=.nilSl) (ty:=vQ) (aQ false) (aQ false) bp (aQ false) (aQ false) bp;refine zW (aC hl sd @aD) ?_;refine bk ?_;refine zW (aV hl hbc @yl hrs) ?_;exact zK
 case pos =>
 unfold TC at hbc;split at hbc
 case isFalse=>omega
 rename_i hrok;split at hbc
 case isTrue=>omega
 rename_i hrl;split at hbc
 case isTrue=>omega
 rename_i hGn;clear hbc;have hrl:row.length=n+1:=zO;obtain ⟨hab,hrz⟩:=UN gr hgr hrok;have hra:RowV G5 s2 (row.map fE):=SlV.int hs5 hrz;obtain ⟨a,ha⟩:∃ a,a=row.map fE:=⟨_,rfl⟩
 rw [<- ha] at hab hra;have hal:a.length=n+1:=by rw [ha,B8,hrl]
 clear ha hrz hrok hrl hgr hbig hs5;refine zW (aV hl g2 g10 p5) ?_;refine AnsH.use (TP C (n:=n) (e':=64) zF ⟨u,z,rfl,hc5.mono (zG G5),hg5.mono (zG G5)⟩ ok (hra.mono (zG G5)) hal hab zO hGn) ?_;rintro v6 H6 ⟨⟨_,rfl,pl,pu,rfl,hpl,hpu⟩,hk6⟩;obtain ⟨k6,_,w6⟩:=zT G5 zK hk6;have n6:G5.next+9<=H6.next:=hk6.le
 have opl:=hpl.one;have opu:=hpu.one;obtain ⟨B,hB⟩:∃ B,B=Lin.bsOf a G:=⟨_,rfl⟩
 obtain ⟨lo,hlo⟩:∃ z:Int,z=(if B.ln=true then 0 else B.lo):=⟨_,rfl⟩
 obtain ⟨hi,hhi⟩:∃ z:Int,z=(if B.hn=true then 0 else B.hi):=⟨_,rfl⟩
 rw [<- hB,<- hlo] at hpl;rw [<- hB,<- hhi] at hpu;rw [<- hB,<- hlo,<- hhi];have sd:=UV (a:=.bool false) (b:=.bool false) (c:=.nilSl) (d:=.bool false) (e:=.bool false) (f:=.nilSl) (ty:=vQ) (aQ B.ln) (aQ (decide (lo<0))) opl (aQ B.hn) (aQ (decide (hi<0))) opu;have f6:H6.get (G5.next+6)=none:=hk6.free (show G5.next+6<G5.next+9 by omega) (w5.fresh (b:=G5.next+6) zO);obtain ⟨G6,hG6⟩:∃ X,X=(H6.put (G5.next+6) (.cells [.bool false,.bool false,.nilSl,.bool false,.bool false,.nilSl] vQ true)).put (G5.next+6) (.cells [.bool B.ln,.bool (decide (lo<0)),pl,.bool B.hn,.bool (decide (hi<0)),pu] vQ true):=⟨_,rfl⟩
 have s6:Sub H6 G6:=by rw [hG6]; exact (aP f6).put f6 _
 have kG6:Kp G5 G6:=by rw [hG6]; exact zK
 have i6:G6.get (G5.next+6)=some (.cells [.bool B.ln,.bool (decide (lo<0)),pl,.bool B.hn,.bool (decide (hi<0)),pu] vQ true):=by rw [hG6,au]
 have hpl6:=hpl.mono s6;have hpu6:=hpu.mono s6;have w6':=kG6.wf;refine zW (aC hl sd @aD) ?_;rw [<- hG6];refine vO (fun T'=>T'.length=210/\ad T' 2=s2/\ad T' 7=.ptr H.next 0/\ad T' 10=.ptr (H2.next+7) 0/\ad T' 13=.ptr (G5.next+6) 0/\ad T' 14=.int .i64 0) (zV (aV hl g2 g7 g10)) ?_;clear hl g2 g7 g10 hG6 f6 hpl hpu sd hk6;rintro T ⟨hl,g2,g7,g10,g13,g14⟩;have kH6:=kH5.trans kG6;have p6:=kG6.get p5;have c6:=kG6.get c5;have hc6:=hc5.mono kG6.sub;have hg6:=hg5.mono kG6.sub;have hra6:=hra.mono kG6.sub;have hgw6:=hgw5.mono kG6.sub;clear p5 c5 hc5 hg5 hra hgw5 k6 w6 s6;refine bk ?_;refine zW (aC hl g14 @aD) ?_;refine bk ?_;refine zW (aV hl @g13 i6 @aD) ?_;refine bk ?_;refine zW (cr hl @g13 i6 @U4 @aD) ?_;obtain ⟨G7,hG7⟩:∃ X,X=G6.up 10:=⟨_,rfl⟩
 rw [<- hG7];have s67:Sub G6 G7:=by rw [hG7]; exact Sub.bump _ 10
 have kH7:Kp H G7:=by rw [hG7]; exact kH6.up _
 have w7:=kH7.wf;clear hG7;have p7:=s67.get _ _ p6;have c7:=s67.get _ _ c6;have i7:=s67.get _ _ i6;have hc7:=hc6.mono s67;have hg7:=hg6.mono s67;have hra7:=hra6.mono s67;have hgw7:=hgw6.mono s67;have hpl7:=hpl6.mono s67;have hpu7:=hpu6.mono s67;clear p6 c6 i6 hc6 hg6 hra6 hgw6 hpl6 hpu6 w6';refine vO (fun T'=>T'.length=210/\ad T' 2=s2/\ad T' 7=.ptr H.next 0/\ad T' 10=.ptr (H2.next+7) 0/\ad T' 13=.ptr (G5.next+6) 0/\ad T' 15=.bool B.ln/\ad T' 16=.bool B.hn) (zV (cr hl g2 g7 g10 @g13)) ?_;clear hl g2 g7 g10 g13 g14;rintro T ⟨hl,g2,g7,g10,g13,g15,g16⟩;have hn3:n<=3:=n3';have abt:=jk hab;have hv:=ok.own.valid;have gbt:∀ x∈G,Bt 137 (Lin.dot a x.2):=fun x hx=>oF abt (jk (ok.rowG x hx).2) (by rw [hal,(ok.rowG x hx).1]) zO;have bok:Lin.Bok a G B:=by rw [hB]; exact Lin.bok_of fun x hx h3=>(hv x hx).2.1 h3
 have hany:=ok.own.point hGn;have slo:St lo:=by
  have:=(Uc gbt G.length (wT _)).1
  rw [Vo,<- hB] at this;rw [hlo]; split
  ·exact (Bt.zero 1).sm zO
  ·exact this.sm zO
 have shi:St hi:=by
  have:=(Uc gbt G.length (wT _)).2
  rw [Vo,<- hB] at this;rw [hhi]; split
  ·exact (Bt.zero 1).sm zO
  ·exact this.sm zO
 obtain ⟨fL,hfL⟩:∃ f:Nat × List Int->Bool,f=fun x=>x.1 == 3 && decide (Lin.flr a x.2=lo):=⟨_,rfl⟩
 obtain ⟨fU,hfU⟩:∃ f:Nat × List Int->Bool,f=fun x=>x.1 == 3 && decide (Lin.cei a x.2=hi):=⟨_,rfl⟩
 have eL:(B.ln || G.any fL)=true:=by
  cases hb:B.ln with
  | true=>rfl
  | false =>
   obtain ⟨x,hx,x3,e⟩:=bok.los (bok.so.trans hany);simp only [X5];refine VA.2 ⟨x,hx,?_⟩;rw [hfL,hlo,hb];simp [x3,e]
 have eU:(B.hn || G.any fU)=true:=by
  cases hb:B.hn with
  | true=>rfl
  | false =>
   obtain ⟨x,hx,x3,e⟩:=bok.his (bok.so.trans hany);simp only [X5];refine VA.2 ⟨x,hx,?_⟩;rw [hfU,hhi,hb];simp [x3,e]
 refine db (fun T' H'=>Kp G7 H'/\ad T' 15=.bool true/\ad T' 16=.bool true) rfl ?_ ?_
 ·refine zW hl ?_;refine bC G7 [15,16,17] (fun r vs _=>∃ i:Nat,vs=[.bool (B.ln || (G.take i).any fL),.bool (B.hn || (G.take i).any fU),.int .i64 (i:Int)]/\i+r=G.length) G.length (by simp only [dj]; exact hl) rfl zK ⟨0,by refine zW (aC hl @g15 g16) ?_; simp,zO⟩ ?_;rintro r T1 H7 hl1 hs1 hk1 ⟨i,hvs,hir⟩;have w1:=hk1.wf;have le_hk1:=hk1.le;simp only [wW,AO,zB,and_true] at hvs;obtain ⟨v15,v16,v17⟩:=hvs;have x2:ad T1 2=s2:=(hs1.at_ 2 zU).trans (zV (aB hl g2));have x10:ad T1 10=.ptr (H2.next+7) 0:=(hs1.at_ 10 zU).trans (zV (aB hl g10));have x13:ad T1 13=.ptr (G5.next+6) 0:=(hs1.at_ 13 zU).trans (zV (aB hl @g13));have pA:=hk1.get p7;have iA:=hk1.get i7;have gA:=hg7.mono hk1.sub;by_cases hi7:i<G.length
  ·have hiI:(i:Int)<(G.length:Int):=zO;obtain ⟨_,⟨q,rfl,hq⟩,-,-,L⟩:=gA.at (pD hi7);have L:aW H7 (some 2) (ap z (i*2))=some (.agg [.int .u8 (G[i].1:Int),q]):=L;have ix:co 2 z (.int .i64 (i:Int))=some (ap z (i*2)):=SlV.idx gA .i64 i hi7;have oq:=hq.one;have ei:IntKind.i64.wrap ((i:Int)+1)=((i+1:Nat):Int):=by rw [wrap_i64] <;> omega
   by_cases h3:(G[i].1:Int)=3
   ·refine zW (rc hl1 v15 v16 v17 x10 pA gA.lenV hiI ix L h3) ?_;have n18:H7.next+25<=(H7.up 25).next:=wT _
    have f18:H7.get (H7.next+10)=none:=w1.fresh zO;have h3':G[i].1=3:=zO;have hrow:=ok.rowG _ (rZ hi7);have hr0:=(hv _ (rZ hi7)).2.1 h3';have hqb:=jk hrow.2;have hlen:a.length=(G[i].2).length:=by rw [hal,hrow.1]
    obtain ⟨r0,hr0e⟩:∃ r0,r0=G[i].2:=⟨_,rfl⟩
    have hq:RowV H7 q G[i].2:=hq;rw [<- hr0e] at hrow hr0 hqb hlen hq;obtain ⟨X1,hX1⟩:∃ X,X=((H7.up 25).put (H7.next+10) (.cells [.int .u8 0,.nilSl] ak true)).put (H7.next+10) (.cells [.int .u8 3,q] ak true):=⟨_,rfl⟩
    have sX1:Sub H7 X1:=by rw [hX1]; exact ((Sub.bump H7 25).put f18 _).put f18 _
    have kX1:Kp G7 X1:=by rw [hX1]; exact zK
    have cX1:X1.get (H7.next+10)=some (.cells [.int .u8 3,q] ak true):=by rw [hX1,au]
    have fX1:X1.get (H7.next+22)=none:=by rw [hX1,az zO,az zO]; exact w1.fresh zO
    have nX1:X1.next=H7.next+25:=by rw [hX1]; rfl
    have wX1:=kX1.wf;rw [x2,<- hX1];clear hX1;refine AnsH.use (rO C zF ((hra7.mono hk1.sub).mono sX1) (hq.mono sX1) hlen zO abt hqb zO) ?_;rintro _ H8 ⟨_,rfl,⟨pn,rfl,hpn⟩,hk8⟩;obtain ⟨k8,_,w8⟩:=zT X1 zK hk8;have on:=hpn.one;have f8:H8.get (H7.next+22)=none:=hk8.free zO fX1;have n8:=hk8.le;obtain ⟨D,hD⟩:∃ D,D=Lin.dot a r0:=⟨_,rfl⟩
    have hds:St D:=by rw [hD]; exact (oF abt hqb hlen zO).sm zO
    have c8:=k8.get cX1;rw [<- hD] at hpn ⊢;refine zW (eW hl1 v15 v16 v17 x10 x13) ?_;obtain ⟨X2,hX2⟩:∃ X,X=(H8.put (H7.next+22) (.cells [.bool false,.nilSl] aa true)).put (H7.next+22) (.cells [.bool (decide (D<0)),pn] aa true):=⟨_,rfl⟩
    have sX2:Sub H8 X2:=by rw [hX2]; exact (aP f8).put f8 _
    have kX2:Kp G7 X2:=by have:=kX1.trans k8; rw [hX2]; exact zK
    have s12:Sub X1 X2:=k8.sub.trans sX2;have c2:=s12.get _ _ cX1;have e2:X2.get (H7.next+22)=some (.cells [.bool (decide (D<0)),pn] aa true):=by rw [hX2,au]
    have hpn2:=hpn.mono sX2;have hq2:=hq.mono (sX1.trans s12);have i2:=kX2.get i7;have wX2:=kX2.wf;have nX2:H7.next+25<=X2.next:=by have:=s12.1; omega
    rw [<- hX2];clear hX2 f8 fX1 hk8 hpn;have hpos:0<r0.length:=zO;have er0:r0[0]=Lin.hd1 r0:=by
     cases r0 with
     | nil=>simp at hpos
     | cons _ _=>rfl
    have ix0:co 2 q (.int .i64 0)=some (ap q (0*2)):=SlV.idx hq2 .i64 0 hpos;obtain ⟨w0,hw0,ld0,-⟩:=jM hq2 hpos;rw [er0] at hw0 ld0;have sm0:St (Lin.hd1 r0):=by rw [<- er0]; exact (hqb _ (rZ hpos)).sm zO
    refine aH ?_;refine zD (cr hl1 @c2 e2 ix0 ld0) ?_;refine AnsH.use (SZ C (x:=D) (y:=Lin.hd1 r0) zF ⟨pn,rfl,hpn2.mono (zG X2)⟩ ⟨w0,rfl,hw0.mono (zG X2)⟩ hds sm0 hr0) ?_;rintro _ H9 ⟨_,rfl,⟨pd,rfl,hpd⟩,hk9⟩;obtain ⟨FL,hFL⟩:∃ z,z=D / Lin.hd1 r0:=⟨_,rfl⟩
    rw [<- hFL] at hpd ⊢;obtain ⟨k9,_,w9⟩:=zT X2 zK hk9;have od:=hpd.one;have n9:X2.next+12<=H9.next:=hk9.le
    have f9:H9.get (X2.next+9)=none:=hk9.free (show X2.next+9<X2.next+12 by omega) (wX2.fresh (b:=X2.next+9) zO);obtain ⟨X3,hX3⟩:∃ X,X=(H9.put (X2.next+9) (.cells [.bool false,.nilSl] aa true)).put (X2.next+9) (.cells [.bool (decide (FL<0)),pd] aa true):=⟨_,rfl⟩
    have sX3:Sub H9 X3:=by rw [hX3]; exact (aP f9).put f9 _
    have kX3:Kp X2 X3:=by rw [hX3]; exact zK
    have d3:X3.get (X2.next+9)=some (.cells [.bool (decide (FL<0)),pd] aa true):=by rw [hX3,au]
    have hpd3:=hpd.mono sX3;have wX3:=kX3.wf;have c3:=kX3.get c2;have e3:=kX3.get e2;have hpn3:=hpn2.mono kX3.sub;have hw03:=hw0.mono kX3.sub;have ld3:=bJ kX3.sub ld0;have c2':=k9.get c2;have e2':=k9.get e2;have ld2':=bJ k9.sub ld0;refine zD (ki hl1 @c2 e2 c2' e2' ix0 ld0 ld2') ?_;rw [<- hX3];clear hX3 f9 hk9 hpd;obtain ⟨bL,hbL⟩:∃ b,b=(B.ln || (G.take i).any fL):=⟨_,rfl⟩
    obtain ⟨bU,hbU⟩:∃ b,b=(B.hn || (G.take i).any fU):=⟨_,rfl⟩
    rw [<- hbL] at v15;rw [<- hbU] at v16;refine MU (fun T'=>T'.length=210/\ad T' 13=.ptr (G5.next+6) 0/\ad T' 15=.bool bL/\ad T' 16=.bool bU/\ad T' 17=.int .i64 (i:Int)/\ad T' 18=.ptr (H7.next+10) 0/\ad T' 19=.ptr (H7.next+22) 0/\ad T' 21=.ptr (X2.next+9) 0) (zE (cr hl1 v15 v16 v17 x13)) ?_;clear hl1 v15 v16 v17 x2 x10 x13 c2' e2' ld2';rintro T1 ⟨hl1,x13,v15,v16,v17,x18,x19,x21⟩;refine aH ?_;refine zD (gf hl1 x18 x19 c3 e3 ix0 ld3) ?_;refine AnsH.use (Tn C (x:=D) (y:=Lin.hd1 r0) zF ⟨pn,rfl,hpn3.mono (zG X3)⟩ ⟨w0,rfl,hw03.mono (zG X3)⟩ hds sm0 hr0) ?_;rintro _ H10 ⟨_,rfl,⟨pu',rfl,hpu'⟩,hk10⟩;obtain ⟨CE,hCE⟩:∃ z,z = -((-D) / Lin.hd1 r0):=⟨_,rfl⟩
    rw [<- hCE] at hpu' ⊢;obtain ⟨k10,_,w10⟩:=zT X3 zK hk10;have ou':=hpu'.one;have n10:X3.next+12<=H10.next:=hk10.le
    have f10:H10.get (X3.next+9)=none:=hk10.free (show X3.next+9<X3.next+12 by omega) (wX3.fresh (b:=X3.next+9) zO);have sY:∀ k,Sub H10 (((H10.up k).put (X3.next+9) (.cells [.bool false,.nilSl] aa true)).put (X3.next+9) (.cells [.bool (decide (CE<0)),pu'] aa true)):=fun k=>((Sub.bump H10 k).put f10 _).put f10 _;have nX3:X2.next+12<=X3.next:=by have:=sX3.1; omega
    have lt6:G5.next+6<G7.next:=w7 _ _ i7
    have leG:G7.next<=H7.next:=hk1.le
    have kG10:Kp G7 H10:=kX2.trans (kX3.trans k10);have i10:=kG10.get i7;have d10:=k10.get d3;have hpd10:=hpd3.mono k10.sub;have hpl10:=hpl7.mono kG10.sub;have hpu10:=hpu7.mono kG10.sub;have smF:St FL:=by rw [hFL]; exact Sm.mono (WZ _ _) hds
    have smC:St CE:=by
     rw [hCE];show Sm _;rw [WL];refine Sm.mono (WZ _ _) ?_;rw [WL]; exact hds
    have c3':=k10.get c3;have e3':=k10.get e3;have ld3':=bJ k10.sub ld3;have tL:fL G[i]=decide (FL=lo):=by rw [hfL,hFL,hD,hr0e]; simp [h3']; rfl
    have tU:fU G[i]=decide (CE=hi):=by rw [hfU,hCE,hD,hr0e]; simp [h3']; rfl
    have fin:∀ x y:Bool,x=(bL || decide (FL=lo))->y=(bU || decide (CE=hi))->x=(B.ln || (G.take (i+1)).any fL)/\y=(B.hn || (G.take (i+1)).any fU):=fun x y hx hy=>by
     rw [TE hi7,TE hi7,tL,tU,<- Bool.or_assoc,<- Bool.or_assoc,<- hbL,<- hbU];exact ⟨hx,hy⟩
    cases bL with
    | true =>
     cases bU with
     | true =>
      refine zD (Pi hl1 x13 v15 v16 v17 x18 x19 c3 e3 c3' e3' ix0 ld3 ld3' ei) ?_;exact ⟨zK,r-1,zO,i+1,by rw [<- (fin true true rfl rfl).1,<- (fin true true rfl rfl).2],zO⟩
     | false =>
      refine zD (QK hl1 x13 v15 v16 v17 x18 x19 c3 e3 c3' e3' ix0 ld3 ld3' i10 @Uv) ?_;refine AnsH.eq (Fj C (x:=CE) (y:=hi) zF ⟨pu',rfl,hpu'.mono (sY _)⟩ ⟨pu,rfl,hpu10.mono (sY _)⟩ smC) fun H11 hk11=>?_;obtain ⟨k11,_,_⟩:=zT G7 zK hk11;refine zD (Fd hl1 x13 v15 v16 v17 x18 x19 c3 e3 c3' e3' ix0 ld3 ld3' i10 @Uv ei) ?_;exact ⟨zK,r-1,zO,i+1,by rw [<- (fin true (decide (CE=hi)) rfl rfl).1,<- (fin true (decide (CE=hi)) rfl rfl).2],zO⟩
    | false =>
     refine zD (BC hl1 x13 v15 v16 v17 x18 x19 x21 c3 e3 c3' e3' ix0 ld3 ld3' i10 d10 @TU) ?_;refine AnsH.eq (Fj C (x:=FL) (y:=lo) zF ⟨pd,rfl,hpd10.mono (sY _)⟩ ⟨pl,rfl,hpl10.mono (sY _)⟩ smF) fun H11 hk11=>?_;obtain ⟨k11,_,w11⟩:=zT G7 zK hk11;have s11:Sub H10 H11:=(sY 9).trans hk11.sub;have i11:=s11.get _ _ i10;have u11:H11.get (X3.next+9)=some (.cells [.bool (decide (CE<0)),pu'] aa true):=hk11.get (au _ _ _);cases bU with
     | true =>
      refine zD (Ph hl1 x13 v15 v16 v17 x18 x19 x21 c3 e3 c3' e3' ix0 ld3 ld3' i10 d10 @TU ei) ?_;exact ⟨zK,r-1,zO,i+1,by rw [<- (fin (decide (FL=lo)) true rfl rfl).1,<- (fin (decide (FL=lo)) true rfl rfl).2],zO⟩
     | false =>
      refine zD (QI hl1 x13 v15 v16 v17 x18 x19 x21 c3 e3 c3' e3' ix0 ld3 ld3' i10 d10 i11 u11 @TU @Uv) ?_;refine AnsH.eq (Fj C (x:=CE) (y:=hi) zF ⟨pu',rfl,(hpu'.mono s11).mono (zG H11)⟩ ⟨pu,rfl,(hpu10.mono s11).mono (zG H11)⟩ smC) fun H12 hk12=>?_;obtain ⟨k12,_,_⟩:=zT G7 zK hk12;refine zD (Pg hl1 x13 v15 v16 v17 x18 x19 x21 c3 e3 c3' e3' ix0 ld3 ld3' i10 d10 i11 u11 @TU @Uv ei) ?_;exact ⟨zK,r-1,zO,i+1,by rw [<- (fin (decide (FL=lo)) (decide (CE=hi)) rfl rfl).1,<- (fin (decide (FL=lo)) (decide (CE=hi)) rfl rfl).2],zO⟩
   ·have h3x:¬ G[i].1=3:=zO;have tL:fL G[i]=false:=by rw [hfL]; simp [h3x]
    have tU:fU G[i]=false:=by rw [hfU]; simp [h3x]
    refine zW (Al hl1 v15 v16 v17 x10 pA gA.lenV hiI ix L h3 ei) ?_;exact ⟨zK,r-1,zO,i+1,by rw [TE hi7,TE hi7,tL,tU]; simp,zO⟩
  ·have hiI:¬ (i:Int)<(G.length:Int):=zO;have tk:G.take i=G:=Vl zO;rw [tk,eL] at v15;rw [tk,eU] at v16;refine zW (kj hl1 v15 v16 v17 x10 pA gA.lenV hiI @aU) ?_;exact zK
 rintro T8 H8 hs ⟨k78,j15,j16⟩;have hl8:T8.length=210:=hs.len.trans hl;have j2:=(hs.at_ 2 zU).trans g2;have j7:=(hs.at_ 7 zU).trans g7;have j10:=(hs.at_ 10 zU).trans g10;have j13:=(hs.at_ 13 zU).trans g13;have kH8:=kH7.trans k78;have w8:=k78.wf;have p8:=k78.get p7;have c8:=k78.get c7;have i8:=k78.get i7;have hc8:=hc7.mono k78.sub;have hg8:=hg7.mono k78.sub;have hra8:=hra7.mono k78.sub;have hgw8:=hgw7.mono k78.sub;have hpl8:=hpl7.mono k78.sub;have hpu8:=hpu7.mono k78.sub;clear hs hl g2 g7 g10 g13 g15 g16 p7 c7 i7 hc7 hg7 hra7 hgw7 hpl7 hpu7 eL eU hfL hfU fL fU w7 kH7 k78;have blo:Bt 137 lo:=by
  have:=(Uc gbt G.length (wT _)).1
  rw [Vo,<- hB] at this;rw [hlo]; split
  ·exact Bt.zero _
  ·exact this
 have bhi:Bt 137 hi:=by
  have:=(Uc gbt G.length (wT _)).2
  rw [Vo,<- hB] at this;rw [hhi]; split
  ·exact Bt.zero _
  ·exact this
 have hmay:SP B.ln (eR lo) B.hn (eR hi)=true:=UO hlo hhi fun h1 h2=>by
  rw [hB];exact Lin.bs_le (fun x hx h3=>(hv x hx).2.1 h3) hany
 have ll:(ag lo.natAbs).length<=1048576:=DR (m:=137) blo zO;have lh:(ag hi.natAbs).length<=1048576:=DR (m:=137) bhi zO;refine bk ?_;refine zW (eW hl8 j13 j15 j16 i8 @SL) ?_;refine AnsH.eq (TY C (n:=B.ln) (n':=B.hn) (z:=eR lo) (z':=eR hi) zF (hpl8.mono (zG H8)) (hpu8.mono (zG H8)) (bu _) (bu _) ll lh) fun H9 hk9=>?_;rw [hmay];obtain ⟨k9,_,w9⟩:=zT H8 zK hk9;have kH9:=kH8.trans k9;have lH9:=kH9.le;have c9:=k9.get c8;have p9:=k9.get p8;have i9:=k9.get i8;have e0:(if true=true then (0:Int) else 8)=0:=rfl;refine zW (aC hl8 e0 @aD) ?_;refine vO (fun T'=>T'.length=210/\ad T' 2=s2/\ad T' 7=.ptr H.next 0/\ad T' 10=.ptr (H2.next+7) 0/\ad T' 13=.ptr (G5.next+6) 0) (zV (cr hl8 j2 j7 j10 j13)) ?_;clear hl8 j2 j7 j10 j13 j15 j16;rintro T ⟨hl,g2,g7,g10,g13⟩;refine bk ?_;rcases hgd with hbad | ⟨hvg,hkg,hbg,hzg⟩
 ·refine zW (cr hl g7 g10 p9 c9) ?_;refine AnsH.eq (Ue C (r:=gn) (n:=n) zF ⟨u,z,rfl,(hc8.mono k9.sub).mono (zG H9),(hg8.mono k9.sub).mono (zG H9)⟩ ok ((hgw8.mono k9.sub).mono (zG H9)) hbigG (fun y hy=>⟨(gg.1.1 y hy).1,by have:=hlg y hy; omega⟩) hbad) fun H10 hk10=>?_;obtain ⟨k10,_,_⟩:=zT H9 zK hk10;have kH10:=kH9.trans k10;have hbad:¬ Ss n [gn]=0:=hbad;refine zW (aB hl @aD) ?_;refine bk ?_;refine zW (aV hl hbad @yl hrs) ?_;exact zK
 have hr0:RowV H9 w (gn.2.map fE):=SlV.int (hgw8.mono k9.sub) hzg;obtain ⟨r0,hr0e⟩:∃ r0,r0=gn.2.map fE:=⟨_,rfl⟩
 have hvg:Lin.ValidG n [(gn.1,r0)]:=by rw [hr0e]; exact hvg
 have hbg:Lin.Bd (2^64) r0:=by rw [hr0e]; exact hbg
 rw [<- hr0e] at hr0;clear hr0e hzg;refine zW (cr hl g7 g10 p9 c9) ?_;refine AnsH.eq (Uj C (n:=n) (k:=gn.1) (r:=r0) (e':=64) zF ⟨u,z,rfl,(hc8.mono k9.sub).mono (zG H9),(hg8.mono k9.sub).mono (zG H9)⟩ ok (hr0.mono (zG H9)) hvg hkg hbg zO) fun H10 hk10=>?_;obtain ⟨k10,_,w10⟩:=zT H9 zK hk10;have kH10:=kH9.trans k10;have lH10:=kH10.le;have c10:=k10.get c9;have i10:=k10.get i9;obtain ⟨bh,hbh⟩:∃ b,b=Lin.inP [(gn.1,r0)] K:=⟨_,rfl⟩
 rw [<- hbh];refine zW (aB hl @aD) ?_;refine vO (fun T'=>T'.length=210/\ad T' 2=s2/\ad T' 7=.ptr H.next 0/\ad T' 13=.ptr (G5.next+6) 0/\ad T' 25=.bool bh/\ad T' 26=.int .i64 0) (zV (aV hl g2 g7 @g13)) ?_;clear hl g2 g7 g10 g13;rintro T ⟨hl,g2,g7,g13,g25,g26⟩;refine bk ?_;cases bh with
 | false =>
  refine zW (cr hl g25 g26 @yl hrs) ?_;exact zK
 | true =>
 by_cases h3:(gn.1:Int)=3
 case neg =>
  refine zW (ki hl g7 g25 g26 c10 h3 @yl hrs) ?_;exact zK
 case pos =>
 refine zW (gf hl g7 g25 g26 c10 h3 @aD) ?_;have h3n:gn.1=3:=zO;rw [h3n] at hvg hbh;obtain ⟨hrl,hrp,-⟩:=hvg _ (Vh.2 rfl);have hrp:=hrp rfl;simp only at hrl hrp;obtain ⟨bL,bU⟩:=Lin.bs_in ok.own hGn hal hrl hrp fun c hc=>Lin.inP_iff.1 hbh.symm _ (Vh.2 rfl) c hc;rw [<- hB] at bL bU;have rbt:=jk hbg;have hlen:a.length=r0.length:=zO;have hdb:=oF abt rbt hlen zO;have hpos:0<r0.length:=zO;have er0:r0[0]=Lin.hd1 r0:=by
  cases r0 with
  | nil=>simp at hpos
  | cons _ _=>rfl
 have bFL:=UE hdb;have bCE:=UG hdb;have hFC:=Lin.flr_cei (a:=a) hrp;obtain ⟨FL,hFL⟩:∃ q,q=Lin.flr a r0:=⟨_,rfl⟩
 obtain ⟨CE,hCE⟩:∃ q,q=Lin.cei a r0:=⟨_,rfl⟩
 rw [<- hFL] at bL bFL hFC;rw [<- hCE] at bU bCE hFC;have tF:Tc B.ln lo B.hn hi FL=true:=Ut hlo hhi bL fun e=>by have:=bU e; omega
 have tC:Tc B.ln lo B.hn hi CE=true:=Ut hlo hhi (fun e=>by have:=bL e; omega) bU;obtain ⟨G10,hG10⟩:∃ X,X=H10.up 11:=⟨_,rfl⟩
 rw [<- hG10];have s10:Sub H10 G10:=by rw [hG10]; exact Sub.bump _ 11
 have kG10:Kp H G10:=by rw [hG10]; exact kH10.up _
 have w10':=kG10.wf;clear hG10;have c11:=s10.get _ _ c10;have i11:=s10.get _ _ i10;have kk:=k9.sub.trans (k10.sub.trans s10);have hra11:=hra8.mono kk;have hr11:=hr0.mono (k10.sub.trans s10);have hpl11:=hpl8.mono kk;have hpu11:=hpu8.mono kk;refine vO (fun T'=>T'.length=210/\ad T' 2=s2/\ad T' 7=.ptr H.next 0/\ad T' 13=.ptr (G5.next+6) 0) (zV (aV hl g2 g7 @g13)) ?_;clear hl g2 g7 g13 g25 g26 c8 c9 c10 p8 p9 i8 i9 i10 hra8 hr0 hpl8 hpu8 hc8 hg8 hgw8;rintro T ⟨hl,g2,g7,g13⟩;refine bk ?_;refine zW (aV hl g2 g7 c11) ?_;refine AnsH.use (rO C zF (hra11.mono (zG G10)) (hr11.mono (zG G10)) hlen zO abt rbt zO) ?_;rintro _ H11 ⟨_,rfl,⟨pn,rfl,hpn⟩,hk11⟩;obtain ⟨k11,_,w11⟩:=zT G10 zK hk11;have on:=hpn.one;have n11:G10.next+10<=H11.next:=hk11.le
 have f11:H11.get (G10.next+7)=none:=hk11.free (show G10.next+7<G10.next+10 by omega) (w10'.fresh (b:=G10.next+7) zO);obtain ⟨D,hD⟩:∃ D,D=Lin.dot a r0:=⟨_,rfl⟩
 have hds:St D:=by rw [hD]; exact hdb.sm zO
 rw [<- hD] at hpn ⊢;obtain ⟨X2,hX2⟩:∃ X,X=(H11.put (G10.next+7) (.cells [.bool false,.nilSl] aa true)).put (G10.next+7) (.cells [.bool (decide (D<0)),pn] aa true):=⟨_,rfl⟩
 have sX2:Sub H11 X2:=by rw [hX2]; exact (aP f11).put f11 _
 have kX2:Kp G10 X2:=by rw [hX2]; exact zK
 have e2:X2.get (G10.next+7)=some (.cells [.bool (decide (D<0)),pn] aa true):=by rw [hX2,au]
 have hpn2:=hpn.mono sX2;have c2:=kX2.get c11;have i2:=kX2.get i11;have hr2:=hr11.mono kX2.sub;have wX2:=kX2.wf;refine zW (aB hl @aD) ?_;rw [<- hX2];refine vO (fun T'=>T'.length=210/\ad T' 7=.ptr H.next 0/\ad T' 13=.ptr (G5.next+6) 0/\ad T' 27=.ptr (G10.next+7) 0) (zV (aC hl g7 @g13)) ?_;clear hl g2 g7 g13 hX2 f11 hk11 hpn;rintro T ⟨hl,g7,g13,g27⟩;have ix0:co 2 w (.int .i64 0)=some (ap w (0*2)):=SlV.idx hr2 .i64 0 hpos;obtain ⟨w0,hw0,ld0,-⟩:=jM hr2 hpos;rw [er0] at hw0 ld0;have sm0:St (Lin.hd1 r0):=by rw [<- er0]; exact (rbt _ (rZ hpos)).sm zO
 refine bk ?_;refine aH ?_;refine zD (gf hl g7 g27 @c2 e2 ix0 ld0) ?_;refine AnsH.use (SZ C (x:=D) (y:=Lin.hd1 r0) zF ⟨pn,rfl,hpn2.mono (zG X2)⟩ ⟨w0,rfl,hw0.mono (zG X2)⟩ hds sm0 hrp) ?_;rintro _ H12 ⟨_,rfl,⟨pd,rfl,hpd⟩,hk12⟩;have eFL:D / Lin.hd1 r0=FL:=by rw [hFL,hD]; rfl
 rw [eFL] at hpd ⊢;obtain ⟨k12,_,w12⟩:=zT X2 zK hk12;have od:=hpd.one;have n12:X2.next+12<=H12.next:=hk12.le
 have f12:H12.get (X2.next+9)=none:=hk12.free (show X2.next+9<X2.next+12 by omega) (wX2.fresh (b:=X2.next+9) zO);obtain ⟨X3,hX3⟩:∃ X,X=(H12.put (X2.next+9) (.cells [.bool false,.nilSl] aa true)).put (X2.next+9) (.cells [.bool (decide (FL<0)),pd] aa true):=⟨_,rfl⟩
 have sX3:Sub H12 X3:=by rw [hX3]; exact (aP f12).put f12 _
 have kX3:Kp X2 X3:=by rw [hX3]; exact zK
 have d3:X3.get (X2.next+9)=some (.cells [.bool (decide (FL<0)),pd] aa true):=by rw [hX3,au]
 have hpd3:=hpd.mono sX3;have wX3:=kX3.wf;have c3:=kX3.get c2;have e3:=kX3.get e2;have hpn3:=hpn2.mono kX3.sub;have hw03:=hw0.mono kX3.sub;have ld3:=bJ kX3.sub ld0;have c2':=k12.get c2;have e2':=k12.get e2;have ld2':=bJ k12.sub ld0;refine zD (rc hl g7 g27 @c2 e2 c2' e2' ix0 ld0 ld2' @aD) ?_;rw [<- hX3];refine vO (fun T'=>T'.length=210/\ad T' 7=.ptr H.next 0/\ad T' 13=.ptr (G5.next+6) 0/\ad T' 27=.ptr (G10.next+7) 0/\ad T' 29=.ptr (X2.next+9) 0) (zE (aV hl g7 @g13 g27)) ?_;clear hl g7 g13 g27 hX3 f12 hk12 hpd c2' e2' ld2';rintro T ⟨hl,g7,g13,g27,g29⟩;refine bk ?_;refine aH ?_;refine zD (gf hl g7 g27 c3 e3 ix0 ld3) ?_;refine AnsH.use (Tn C (x:=D) (y:=Lin.hd1 r0) zF ⟨pn,rfl,hpn3.mono (zG X3)⟩ ⟨w0,rfl,hw03.mono (zG X3)⟩ hds sm0 hrp) ?_;rintro _ H13 ⟨_,rfl,⟨pu',rfl,hpu'⟩,hk13⟩;have eCE : -((-D) / Lin.hd1 r0)=CE:=by rw [hCE,hD]; rfl
 rw [eCE] at hpu' ⊢;obtain ⟨k13,_,w13⟩:=zT X3 zK hk13;have ou':=hpu'.one;have n13:X3.next+12<=H13.next:=hk13.le
 have f13:H13.get (X3.next+9)=none:=hk13.free (show X3.next+9<X3.next+12 by omega) (wX3.fresh (b:=X3.next+9) zO);obtain ⟨X4,hX4⟩:∃ X,X=(H13.put (X3.next+9) (.cells [.bool false,.nilSl] aa true)).put (X3.next+9) (.cells [.bool (decide (CE<0)),pu'] aa true):=⟨_,rfl⟩
 have sX4:Sub H13 X4:=by rw [hX4]; exact (aP f13).put f13 _
 have kX4:Kp X3 X4:=by rw [hX4]; exact zK
 have u4:X4.get (X3.next+9)=some (.cells [.bool (decide (CE<0)),pu'] aa true):=by rw [hX4,au]
 have hpu4:=hpu'.mono sX4;have hpd4:=hpd3.mono kX4.sub;have d4:=kX4.get d3;have wX4:=kX4.wf;have kG4:Kp G10 X4:=kX2.trans (kX3.trans kX4);have i4:=kG4.get i11;have hpl4:=hpl11.mono kG4.sub;have hpu4':=hpu11.mono kG4.sub;have c3':=k13.get c3;have e3':=k13.get e3;have ld3':=bJ k13.sub ld3;refine zD (rc hl g7 g27 c3 e3 c3' e3' ix0 ld3 ld3' @aD) ?_;rw [<- hX4];refine vO (fun T'=>T'.length=210/\ad T' 13=.ptr (G5.next+6) 0/\ad T' 29=.ptr (X2.next+9) 0/\ad T' 31=.ptr (X3.next+9) 0) (zE (aC hl @g13 g29)) ?_;clear hl g7 g13 g27 g29 hX4 f13 hk13 hpu' c3' e3' ld3';rintro T ⟨hl,g13,g29,g31⟩;have kH4:Kp H X4:=kG10.trans kG4;refine bk ?_;refine zW (eW hl @g13 g29 i4 d4 @SL) ?_;refine AnsH.eq (Us C (n:=B.ln) (n':=B.hn) (x:=lo) (y:=hi) (z:=FL) zF ⟨pl,pu,rfl,hpl4.mono (zG X4),hpu4'.mono (zG X4)⟩ ⟨pd,rfl,hpd4.mono (zG X4)⟩ (blo.mono zO) (bhi.mono zO) (bFL.mono zO) hmay) fun H14 hk14=>?_;rw [tF];obtain ⟨k14,_,w14⟩:=zT X4 zK hk14;have i14:=k14.get i4;have u14:=k14.get u4;refine zW (aB hl @aD) ?_;refine vO (fun T'=>T'.length=210/\ad T' 13=.ptr (G5.next+6) 0/\ad T' 31=.ptr (X3.next+9) 0/\ad T' 33=.bool true/\ad T' 34=.int .i64 0) (zV (aC hl @g13 g31)) ?_;clear hl g13 g29 g31;rintro T ⟨hl,g13,g31,g33,g34⟩;refine bk ?_;refine zW (eW hl @g13 g31 i14 u14 @SL) ?_;refine AnsH.eq (Us C (n:=B.ln) (n':=B.hn) (x:=lo) (y:=hi) (z:=CE) zF ⟨pl,pu,rfl,(hpl4.mono k14.sub).mono (zG H14),(hpu4'.mono k14.sub).mono (zG H14)⟩ ⟨pu',rfl,(hpu4.mono k14.sub).mono (zG H14)⟩ (blo.mono zO) (bhi.mono zO) (bCE.mono zO) hmay) fun H15 hk15=>?_;rw [tC];have k15:Kp X4 H15:=k14.trans (Kp.trans zK hk15);have le_k15:=k15.le;have kH15:=kH4.trans k15;refine zW (aB hl @aD) ?_;refine WC.wb ?_;refine zW (aV hl g33 g34 hrs) ?_;exact zK
end
end Go.Proofs.YthjdfjlhjnihfaaGreat.Ev
namespace Go.Proofs.YthjdfjlhjnihfaaGreat.Ev
open Go Go.WideShapes Nn
section
variable {HT:Type} {enc:TypeId × Value->HT} {P:Program} {w:World} {base base':Nat} {sp:Nat->Bool} {held:Bool} {μ:Mu} {F:Nat->Prop} {H:Heap}
def UU {acs:List AV} {cs:Array Value} (h:LR μ F w acs cs.toList):VR μ F w (.agg acs) (.agg cs):=.agg acs cs (by simpa using h.1) fun i c v h1 h2=>h.2 i c v h1 (by simpa using h2)
def open_gen {tgs tg tvs tv ti te:TypeId} (hC:GenTys P tgs tg tv) (hP:RowTys P tvs tv ti te) (hF:∀ c,c<w.heap.size->F c) {r:Reach} {v:Value} {d:DataW HT} {ps:List MemPlace} (hval:Value.okWide P w r base' tg v) (hd:DataW.Trod enc P w base sp held tg v d ps) :
  ∃ acs z,VR μ F w (.agg acs) v/\genQE.R H acs z/\jU z.2/\z.1<256:=by
 obtain ⟨f0,f1,i1,-⟩:=hC.g;obtain ⟨cs,rfl,hsz⟩:=okWide_struct i1 hval;obtain ⟨fuel,h⟩:=hd;obtain ⟨acs,z,g1,g2,g3⟩:=Uy (H:=H) (μ:=μ) hC hP hF h;exact ⟨acs,z,UU g1,g2,g3⟩
end
open Go
def LN {P:Program}:GK P eS:=trivial
def N4 {P:Program} {w:World} (hG:GlobW w):HR P (fun _=>none) (fun c=>c<w.heap.size) (Heap.nil 0) w:=by
 have h:=Li (P:=P) hG;refine ⟨h.dom,fun c hc=>hc,fun b e hb=>?_,h.inj,fun g cs hg=>(h.gl g cs hg).mono (fun _ _ h=>h) (fun c hc=>h.fb c hc) fun _ _=>rfl⟩;rw [Tr.nil_get] at hb; cases hb
def open_calls {P:Program} (hmix:P.follows .mixedOrders=true) {tab:Nat->Option aw} (ht:Id P tab) {f:Nat} {afn:aw} (haf:tab f=some afn) (hext:afn.ext=none) {args:List AV} {vs:List Value} {w:World} (hG:GlobW w)
  (hl:LR (fun _=>none) (fun c=>c<w.heap.size) w args vs) (h:Ans tab (.fn f args) (Heap.nil 0) fun v _=>v=.bool true) :
  Calls P f vs.toArray w fun e w'=>e=.returned (.bool true)/\w'.os=w.os/\w'.output=w.output/\w.heap.size<=w'.heap.size/\∀ c,c<w.heap.size->w'.heap[c]? = w.heap[c]?:=by
 obtain ⟨v,H',⟨N,hN⟩,rfl⟩:=h;have h1:=hN (N+1) (N+1) zO zO;simp only [kD,jq,haf,hext] at h1;obtain ⟨-,ht2⟩:=ht f afn haf;obtain ⟨fn,hfn,hc⟩:=ht2 fun e h=>by rw [hext] at h; cases h
 obtain ⟨c1,c2,c3,c4,-⟩:=CK hc hext;have hH:=N4 (P:=P) hG;have hin:=pi (yp LN hmix ht N) hmix hfn c1 c2 c3 c4 h1 hl hH 0 (fence:=Fence.wide) (rd:=false) (.inl ⟨rfl,rfl⟩);refine (hin.calls fun k=>room_wide k).mono fun e w' ⟨u,he,μ',hv,_,hS⟩=>?_;cases hv;refine ⟨he,hS.os,hS.out,hS.size,fun c hc=>hS.keep c hc fun b L ⟨e,h,_⟩=>?_⟩;rw [Tr.nil_get] at h; cases h
def Mb {w w':World} (h1:w'.os=w.os) (h2:w'.output=w.output) (h:∀ c,c<w.heap.size->w'.heap[c]? = w.heap[c]?) (may:MemPlace->Prop):w.keptBut w' may:=by
 refine ⟨h1,h2,fun i hi=>?_⟩;rw [h i hi];split
 ·rename_i e1 e2;cases e1.symm.trans e2;exact ⟨rfl,rfl,rfl,fun _ _=>rfl⟩
 ·rename_i e1 e2;cases e1.symm.trans e2;exact .inr ⟨rfl,rfl⟩
 ·rfl
section
open Go.ChangeShapes Go.WideShapes Go.ChangeAt Go.RowKit
variable {HT:Type} {enc:TypeId × Value->HT} {P:Program}
def stays {t:TypeId} (hl:laidOutB P=true) (hr:P.readableRec t=true) (hrow:t<P.types.size) {W W':World} {sp:Nat->Bool} {v:Value} {d:DataW HT} {ps:List MemPlace}
  (h:DataW.Trod enc P W 0 (fun _=>true) true t v d ps) (hk:∀ c,c<W.heap.size->W'.heap[c]? = W.heap[c]?) (hlt:∀ x∈ps,x.block<W.heap.size) (hs:∀ p∈ps,sp p.block=true):DataW.Trod enc P W' 0 sp true t v d ps :=
 WideElems.Trod_stays hl hr hrow h (fun p hp=>by
  have hb:=hk p.block (hlt p hp);cases p with
  | cell b o=>exact World.cell?_of_block (w:=W) hb
  | map b=>exact hb) hs
def post_kept {f:Func} {s:ChangeSpec} {apart fresh handsOn again:Bool} {W W':World} {args:Array Value} {v:Value} {ds gs:List (DataW HT)} {before:List MemPlace}
  (hW:DataW.Whole enc P f.params.toList s.vars apart W args.toList ds gs before)
  (hres:∀ (b:Nat) (sp:Nat->Bool) (hd:Bool),DataW.TrodAll enc P W' b sp hd f.resultTypes.toList (v.resultList f.resultTypes.size) (s.fn HT (ds++gs)).results [])
  (hargs:∀ sp:Nat->Bool,(∀ p∈before,sp p.block=true)->DataW.TrodAll enc P W' 0 sp true f.params.toList args.toList (s.fn HT (ds++gs)).args before)
  (hvars:∀ sp:Nat->Bool,DataW.TrodVars enc P W' sp s.vars (s.fn HT (ds++gs)).vars [])
  (h1:W'.os=W.os) (h2:W'.output=W.output) (hk:∀ c,c<W.heap.size->W'.heap[c]? = W.heap[c]?)
  (hok:∀ (j:Nat) (t:TypeId) (r:Value),f.resultTypes[j]? = some t->(v.resultList f.resultTypes.size)[j]? = some r->Value.okWide P W' .any 0 t r) :
  s.post enc P f apart fresh handsOn again W args v W':=by
 have hold:∀ p∈before,(fun b=>decide (b<W.heap.size)) p.block=true:=fun p hp=>by simpa using hW.lt p hp
 have hlt:∀ p∈before,p.block<W.heap.size:=fun p hp=>hW.lt p hp;refine ⟨ds,gs,before,[],before,[],hW,hres _ _ _,hargs _ hold,hvars _,Mb h1 h2 hk _,fun _=>?_⟩;obtain ⟨_,_,_,_,e,hz,hn⟩:=hW;refine ⟨hok,_,_,([]++before)++[],⟨[]++before,[],trodAll_append (hargs _ (fun _ _=>rfl)) (hres _ _ _),hvars _,rfl,?_,?_⟩,?_⟩
 ·intro b off hp;have hp':MemPlace.cell b off∈before:=by simpa using hp
  have hb:=hlt _ hp';rw [World.frozen?_of_block (w:=W) (hk b hb)];exact hz b off hp'
 ·intro ha
  have:=hn ha
  simpa using this
 ·intro p hp _
  simpa using hp
end
end Go.Proofs.YthjdfjlhjnihfaaGreat.Ev
namespace Go.Proofs.YthjdfjlhjnihfaaGreat.Ins217
open Go Go.RowKit Go.Lib Go.Proofs
variable {P:Program}
theorem tS:Tryz.prog.underlying 125=some (.slice 24):=by kernel_rfl
theorem iE:(Tryz.prog.info? 24).map (fun i=>(i.zero,i.size,i.bytes))=some (some (Value.slice none 0 0),1,24):=by kernel_rfl
def zE:∀ w,(Go.sizeOf 24).run Tryz.prog w=.ok 1 w:=fun w=>by
 obtain ⟨i0,hi,h0,h1,h2⟩:=info_parts iE;simp [Go.sizeOf,typeInfo,hi,h1]
theorem tI:Tryz.prog.underlying 3=some (.int .i64):=by kernel_rfl
theorem Ch:Tryz.prog.follows .mixedOrders=true:=by kernel_rfl
def BH (w:World) {o:Oper} {a:Act} {K:Act->World->Prop} {Q:Exit->Act->World->Prop} (d s:Operand) (t t':TypeId)
  (ho:o.op=.call { callee:=.builtin .copy,args:=#[d,s],argTypes:=#[t,t'] }) (v u:Value) (hd:a.eval d=v) (hs:a.eval s=u) {v':Value} {w':World}
  (hr:(Builtin.copy_ #[t,t'] o.type #[v,u]).run P w=.ok v' w') (h:K (a.put o.dst v') w'):o.wp P a w K Q:=by
 unfold Oper.wp execOp;simp only [ho,resolve,invoke,builtin,Sem.run_bind,Sem.run_pure,Result.andThen_ok,List.map_toArray,wW,AO,hd,hs,hr];exact h
def jC (w:World) {ops:Array Oper} {rest:List Oper} {o:Oper} {a:Act} {Q:Exit->Act->World->Prop} (hgd:o.guard=none) (d s:Operand) (t t':TypeId)
  (ho:o.op=.call { callee:=.builtin .copy,args:=#[d,s],argTypes:=#[t,t'] }) (v u:Value) (hd:a.eval d=v) (hs:a.eval s=u) {v':Value} {w':World}
  (hr:(Builtin.copy_ #[t,t'] o.type #[v,u]).run P w=.ok v' w') (h:wpList P ops Q rest (a.put o.dst v') w'):wpList P ops Q (o :: rest) a w :=
 wpList_plain hgd fun _ hK=>BH w d s t t' ho v u hd hs hr (hK _ _ h)
def pf {ops:Array Oper} {o:Oper} {a:Act} {w:World} {K:Act->World->Prop} {Q:Exit->Act->World->Prop} {E:Prop}
  (hg:o.guard=none) (d x:Operand) (dT sT:TypeId) (hop:o.op=Op.call { callee:=Callee.builtin Builtin.copy,args:=#[d,x],argTypes:=#[dT,sT] })
  (v u:Value) (hd:a.eval d=v) (hx:a.eval x=u) {v':Value} {w':World} (hr:(Builtin.copy_ #[dT,sT] o.type #[v,u]).run P w=.ok v' w') (hK:K (a.put o.dst v') w') :
  if Region.wanted o (yielded ops a.tmps)=true then Oper.wp P o a w K Q else E:=by
 have hw:Region.wanted o (yielded ops a.tmps)=true:=by simp [Region.wanted,hg]
 rw [if_pos hw];unfold Oper.wp;simp [execOp,hop,resolve,invoke,builtin,hd,hx,hr,Result.andThen];exact hK
def oV (b:Nat) (vs:List Value) (o:Nat) (w:World) (h:∀ j,j<vs.length->(w.cell? ⟨b,o+j,none⟩).isSome=true) (k:Nat) (hk:(w.cell? ⟨b,k,none⟩).isSome=true):((w.setCells b o vs).cell? ⟨b,k,none⟩).isSome=true:=by
 by_cases hin:o<=k/\k<o+vs.length
 ·have:=World.cell?_setCells_in b vs o w h (k-o) zO
  rw [show o+(k-o)=k by omega] at this;rw [this]; rfl
 ·rw [World.cell?_setCells_out b vs o w ⟨b,k,none⟩ (fun _ _=>by show k<o\/o+vs.length<=k; omega)];exact hk
set_option maxHeartbeats 4000000 in
set_option maxRecDepth 100000 in
def shift (b off n c i vb voff m vc:Nat) (cs vs:List Value) (w:World) (hi:i<n) (hm:0<m) (hroom:n+m<=c) (hc63:n+m<=9223372036854775807) (hvb:vb≠b)
  (hcl:cs.length=n) (hvl:vs.length=m)
  (hcs:∀ j v,cs[j]? = some v->w.cell? ⟨b,off+j,none⟩=some v) (hsp:∀ j,j<n+m->(w.cell? ⟨b,off+j,none⟩).isSome=true) (hfz:∀ j,j<n+m->w.frozen? ⟨b,off+j,none⟩=false)
  (hvs:∀ j v,vs[j]? = some v->w.cell? ⟨vb,voff+j,none⟩=some v) (h1c:∀ v∈cs,v.oneCell'=true) (h1v:∀ v∈vs,v.oneCell'=true)
  (tA tB:TypeId) (kA kB:Nat) (hsa:w.shape? vb=some (tA,kA)) (hsb:w.shape? b=some (tB,kB)) (hkB:kB≠0) (hfa:w.frozen? ⟨vb,voff,none⟩=false) (hfe:w.frozen? ⟨vb,kA,none⟩=false) :
  Calls Tryz.prog 217 #[.slice (some ⟨b,off,none⟩) n c,.int .i64 i,.slice (some ⟨vb,voff,none⟩) m vc] w fun e w' =>
   e=.returned (.slice (some ⟨b,off,none⟩) (n+m) c)/\w'=(w.drew.setCells b (off+(i+m)) (cs.drop i)).setCells b (off+i) vs:=by
 have hz1:¬ ((m:Int)=0):=zO;have hz2:¬ ((i:Int)=(n:Int)):=zO;have hsz:(Tryz.prog.info? 24).map (·.size)=some 1:=by
  obtain ⟨i0,hi0,h0,h1,h2⟩:=info_parts iE;rw [hi0]; simp [h1]
 have hov:∀ lb cb,(callFunc 228 #[.slice (some ⟨vb,voff,none⟩) m vc,.slice (some ⟨b,off+(i+m),none⟩) lb cb]).run Tryz.prog w=.ok (.value (.bool false)) w:=fun lb cb=>by
  rw [run_callFunc_extern Tryz.func228 (by kernel_rfl) (by kernel_rfl) (by kernel_rfl) (e:=Extern.SlicesOverlaps.overlaps #[125,125] #[4]) (by kernel_rfl),
   Lib.run_overlaps_apart w 125 4 24 tS 1 zE ⟨vb,voff,none⟩ ⟨b,off+(i+m),none⟩ m vc lb cb hvb tA tB kA kB hsa hsb hkB hfa hfe]
  rfl
 have hdl:(cs.drop i).length=n-i:=by rw [Wc,hcl]
 have hw1:IntKind.i64.wrap ((i:Int)+(m:Int))=(i:Int)+(m:Int):=by rw [IntKind.wrap_i64]; omega
 have hb1:(0:Int)<=(i:Int)+(m:Int):=zO;have hin:i<=n:=zO;have htn:((i:Int)+(m:Int)).toNat=i+m:=zO;have hb2:¬ (c=i+m):=zO;have hb3:(i:Int)<=(n:Int)+(m:Int):=zO;have hb4:¬ (c=i):=zO;have hcp1:∀ ty dc sc,(Builtin.copy_ #[125,125] ty #[.slice (some ⟨b,off+(i+m),none⟩) (n+m-(i+m)) dc,.slice (some ⟨b,off+i,none⟩) (n+m-i) sc]).run Tryz.prog w.drew=.ok (goInt (cs.drop i).length) (w.drew.setCells b (off+(i+m)) (cs.drop i)):=fun ty dc sc =>
  run_copy_cells w.drew _ _ ty 24 b (off+(i+m)) (n+m-(i+m)) dc ⟨b,off+i,none⟩ (n+m-i) sc (cs.drop i) tS hsz (by rw [hdl]; simp only [ZQ]; split <;> omega)
   (fun j v hj=>by rw [Addr.add_lit,V2]; exact hcs (i+j) v (by rwa [Vn] at hj))
   (fun j hj=>by rw [V2]; exact hsp _ zO) (fun j hj=>by rw [V2]; exact hfz _ zO) (fun v hv=>h1c v (XH hv))
 obtain ⟨W1,hW1⟩:∃ W1,W1=w.drew.setCells b (off+(i+m)) (cs.drop i):=⟨_,rfl⟩
 have hsp1:∀ k,k<n+m->(W1.cell? ⟨b,off+k,none⟩).isSome=true:=fun k hk=>by
  rw [hW1];exact oV b _ _ _ (fun j hj=>by rw [V2]; exact hsp _ zO) _ (hsp k hk)
 have hcp2:∀ (W:World),(∀ x,W.cell? x=W1.cell? x)->(∀ x,W.frozen? x=W1.frozen? x)->∀ ty dc,(Builtin.copy_ #[125,125] ty #[.slice (some ⟨b,off+i,none⟩) (n+m-i) dc,.slice (some ⟨vb,voff,none⟩) m vc]).run Tryz.prog W=.ok (goInt vs.length) (W.setCells b (off+i) vs):=fun W hWc hWf ty dc =>
  run_copy_cells W _ _ ty 24 b (off+i) (n+m-i) dc ⟨vb,voff,none⟩ m vc vs tS hsz (by rw [hvl]; simp only [ZQ]; split <;> omega)
   (fun j v hj=>by
    rw [Addr.add_lit,hWc,hW1,World.cell?_setCells_out b _ _ _ _ (fun h _=>absurd h hvb)];exact hvs j v hj)
   (fun j hj=>by rw [hWc,V2]; exact hsp1 _ zO) (fun j hj=>by rw [hWf,hW1,World.frozen?_setCells,V2]; exact hfz _ zO) h1v
 rw [<- hW1] at hcp1;have mixed:=Ch
 go_enter Tryz.func217,Tryz.ntmps217
 go_wp2_with (simp only [hov])
 go_region_law_o (refine pf rfl _ _ 125 125 rfl _ _ (by simp [Act.eval,Act.put]) (by simp [Act.eval,Act.put]) (hcp1 _ _ _) ?_)
 go_wp2_with (at_builtin; refine jC _ rfl _ _ 125 125 rfl _ _ rfl rfl (hcp2 _ (fun _=>rfl) (fun _=>rfl) _ _) ?_)
 go_ret
 first | exact ⟨rfl,rfl⟩ | exact ⟨rfl,by rw [hW1]⟩
set_option maxHeartbeats 4000000 in
set_option maxRecDepth 100000 in
def end_room (b off n c vb voff m vc:Nat) (vs:List Value) (w:World) (hm:0<m) (hroom:n+m<=c) (hc63:n+m<=9223372036854775807)
  (hvl:vs.length=m) (hsp:∀ j,j<m->(w.cell? ⟨b,off+n+j,none⟩).isSome=true) (hfz:∀ j,j<m->w.frozen? ⟨b,off+n+j,none⟩=false)
  (hvs:∀ j v,vs[j]? = some v->w.cell? ⟨vb,voff+j,none⟩=some v) (h1v:∀ v∈vs,v.oneCell'=true) :
  Calls Tryz.prog 217 #[.slice (some ⟨b,off,none⟩) n c,.int .i64 n,.slice (some ⟨vb,voff,none⟩) m vc] w fun e w' =>
   e=.returned (.slice (some ⟨b,off,none⟩) (n+m) c)/\w'=w.setCells b (off+n) vs:=by
 have hz1:¬ ((m:Int)=0):=zO;have hsrc:Src Tryz.prog 1 125 (.slice (some ⟨vb,voff,none⟩) m vc) m vs w:=Src.ofSlice w tS ⟨vb,voff,none⟩ m vc vs zO (fun j u hj=>by rw [Addr.add_lit]; exact hvs j u hj) h1v;have mixed:=Ch
 go_enter Tryz.func217,Tryz.ntmps217
 go_wp2_with (at_builtin; refine wpList_append_room1 _ rfl _ _ 125 125 rfl 24 _ _ tS iE b off n c rfl _ rfl m vs hsrc hroom (by rw [hvl]; exact hsp) (by rw [hvl]; exact hfz) ?_)
 go_ret
 exact ⟨rfl,rfl⟩
set_option maxHeartbeats 4000000 in
set_option maxRecDepth 100000 in
def end_grow (base:Option Addr) (n c vb voff m vc:Nat) (cs vs:List Value) (w:World) (hm:0<m) (hnc:n<=c) (hroom:c<n+m) (hbig:(n+m)*24<=140737488355328)
  (hcl:cs.length=n) (hvl:vs.length=m) (hnil:base=none->n=0)
  (hcs:∀ a,base=some a->∀ j v,cs[j]? = some v->w.cell? (a.add j)=some v)
  (hvs:∀ j v,vs[j]? = some v->w.cell? ⟨vb,voff+j,none⟩=some v) (h1v:∀ v∈vs,v.oneCell'=true) :
  Calls Tryz.prog 217 #[.slice base n c,.int .i64 n,.slice (some ⟨vb,voff,none⟩) m vc] w fun e w' =>
   e=.returned (.slice (some ⟨w.heap.size,0,none⟩) (n+m) (grownCap w (n+m) c 24)) /\
   w'=w.drew.alloc (.cells ((cs++vs).toArray++Builtin.zeroCells (Value.slice none 0 0).cells (grownCap w (n+m) c 24-(n+m))) 24):=by
 obtain ⟨i0,hi0,hz0,hzs,hzb⟩:=info_parts iE;have hz1:¬ ((m:Int)=0):=zO;have hsrc:Src Tryz.prog i0.size 125 (.slice (some ⟨vb,voff,none⟩) m vc) m vs w:=by
  rw [hzs];exact Src.ofSlice w tS ⟨vb,voff,none⟩ m vc vs zO (fun j u hj=>by rw [Addr.add_lit]; exact hvs j u hj) h1v
 have hold:(Builtin.firstCells i0.size n (.slice base n c)).run Tryz.prog w.drew=.ok cs.toArray w.drew:=by
  rw [hzs];cases base with
  | none =>
   have h0:=hnil rfl;subst h0;rw [V8.1 hcl];exact run_firstCells_none w.drew 1 0 0 c
  | some a=>exact run_firstCells_some w.drew 1 n a n c cs zO (fun j v hj=>hcs a rfl j v hj)
 have hrun:∀ ty,(Builtin.append_ #[125,125] ty #[.slice base n c,.slice (some ⟨vb,voff,none⟩) m vc]).run Tryz.prog w=_:=fun ty =>
  run_append_grow_src w 125 125 ty 24 i0 _ tS hi0 hz0 base n c cs hold _ m vs hsrc hroom zO (by rw [hzb]; exact growslice_fits hroom hbig)
 have mixed:=Ch
 go_enter Tryz.func217,Tryz.ntmps217
 cases base with
 | none =>
  have h0:=hnil rfl;subst h0
  go_wp2_with (at_builtin; refine Lib.wpList_append_run _ rfl _ _ _ _ rfl _ _ rfl rfl _ _ (hrun _) ?_)
  go_ret
  exact ⟨rfl,rfl⟩
 | some a =>
  obtain ⟨ab,ao,asp⟩:=a
  go_wp2_with (at_builtin; refine Lib.wpList_append_run _ rfl _ _ _ _ rfl _ _ rfl rfl _ _ (hrun _) ?_)
  all_goals (go_ret; exact ⟨rfl,rfl⟩)
set_option maxHeartbeats 4000000 in
set_option maxRecDepth 100000 in
def grow (b off n c i vb voff m vc:Nat) (cs vs:List Value) (w:World) (hi:i<n) (hm:0<m) (hnc:n<=c) (hroom:c<n+m) (hbig:(n+m)*24<=140737488355328)
  (hcl:cs.length=n) (hvl:vs.length=m)
  (hcs:∀ j v,cs[j]? = some v->w.cell? ⟨b,off+j,none⟩=some v)
  (hvs:∀ j v,vs[j]? = some v->w.cell? ⟨vb,voff+j,none⟩=some v) (h1c:∀ v∈cs,v.oneCell'=true) (h1v:∀ v∈vs,v.oneCell'=true) :
  Calls Tryz.prog 217 #[.slice (some ⟨b,off,none⟩) n c,.int .i64 i,.slice (some ⟨vb,voff,none⟩) m vc] w fun e w' =>
   e=.returned (.slice (some ⟨w.heap.size,0,none⟩) (n+m) (grownCap w (n+m) c 24)) /\
   w'=(((w.alloc (.cells ((cs.take i).toArray++Builtin.zeroCells (Value.slice none 0 0).cells (n+m-i)++Builtin.zeroCells (Value.slice none 0 0).cells (grownCap w (n+m) c 24-(n+m))) 24)).drew.setCells w.heap.size i vs).drew).setCells w.heap.size (i+m) (cs.drop i):=by
 obtain ⟨i0,hi0,hz0,hzs,hzb⟩:=info_parts iE;have hz1:¬ ((m:Int)=0):=zO;have hz2:¬ ((i:Int)=(n:Int)):=zO;have hz3:(c:Int)<(n:Int)+(m:Int):=zO;have hsz:(Tryz.prog.info? 24).map (·.size)=some 1:=by rw [hi0]; simp [hzs]
 have hbw:b<w.heap.size:=block_lt_of_cell (hcs 0 _ (pD zO));have hvw:vb<w.heap.size:=block_lt_of_cell (hvs 0 _ (pD zO));have hkk:(n:Int)+(m:Int)-(i:Int)=((n+m-i:Nat):Int):=zO;have hik:i+(n+m-i)=n+m:=zO;have hold:(Builtin.firstCells i0.size i (.slice (some ⟨b,off,none⟩) i c)).run Tryz.prog w.drew=.ok (cs.take i).toArray w.drew:=by
  rw [hzs];exact run_firstCells_some w.drew 1 i ⟨b,off,none⟩ i c (cs.take i) (by rw [Vu]; omega) (fun j v hj=>by
   rw [Addr.add_lit];rw [Vm] at hj;split at hj
   ·exact hcs j v hj
   ·cases hj)
 have hrz:∀ ty,(Builtin.append_ #[125,3] ty #[.slice (some ⟨b,off,none⟩) i c,.int .i64 ((n:Int)+(m:Int)-(i:Int))]).run Tryz.prog w =
   .ok (.slice (some ⟨w.heap.size,0,none⟩) (n+m) (grownCap w (n+m) c 24)) (w.drew.alloc (.cells ((cs.take i).toArray++Builtin.zeroCells (Value.slice none 0 0).cells (n+m-i)++Builtin.zeroCells (Value.slice none 0 0).cells (grownCap w (n+m) c 24-(n+m))) 24)):=fun ty=>by
  have h:=Lib.run_append_grow_zeros w 125 3 ty 24 i0 _ .i64 .i64 tS tI hi0 hz0 (some ⟨b,off,none⟩) i c (cs.take i) hold (n+m-i) zO zO zO zO (by rw [hzb]; omega) (by rw [hzb,hik]; exact growslice_fits hroom hbig);rw [hik] at h;rw [hkk];exact h
 obtain ⟨G,hG⟩:∃ G,G=grownCap w (n+m) c 24:=⟨_,rfl⟩
 obtain ⟨ROW,hROW⟩:∃ ROW:Array Value,ROW=(cs.take i).toArray++Builtin.zeroCells (Value.slice none 0 0).cells (n+m-i)++Builtin.zeroCells (Value.slice none 0 0).cells (G-(n+m)):=⟨_,rfl⟩
 rw [<- hG] at hrz ⊢;rw [<- hROW] at hrz ⊢;have hRl:n+m<=ROW.size:=by
  rw [hROW];simp [Builtin.zeroCells,Value.cells];omega
 obtain ⟨W1,hW1⟩:∃ W1,W1=w.drew.alloc (.cells ROW 24):=⟨_,rfl⟩
 rw [<- hW1] at hrz;have hN:∀ j,j<n+m->(W1.cell? ⟨w.heap.size,j,none⟩).isSome=true:=fun j hj=>by
  rw [hW1,World.cell?_alloc_at (w:=w.drew) ROW _ w.heap.size j rfl,Wa zO]; rfl
 have hNf:∀ j,W1.frozen? ⟨w.heap.size,j,none⟩=false:=fun j=>by rw [hW1]; exact World.frozen?_alloc_at (w:=w.drew) ROW _ w.heap.size j rfl
 have hOb:∀ j v,w.cell? ⟨b,j,none⟩=some v->W1.cell? ⟨b,j,none⟩=some v:=fun j v h=>by rw [hW1,World.cell?_alloc_past (w:=w.drew) _ b j hbw]; exact h
 have hOv:∀ j v,w.cell? ⟨vb,j,none⟩=some v->W1.cell? ⟨vb,j,none⟩=some v:=fun j v h=>by rw [hW1,World.cell?_alloc_past (w:=w.drew) _ vb j hvw]; exact h
 have hcpA:∀ (W:World),(∀ x,W.cell? x=W1.cell? x)->(∀ x,W.frozen? x=W1.frozen? x)->∀ ty dc,(Builtin.copy_ #[125,125] ty #[.slice (some ⟨w.heap.size,i,none⟩) (n+m-i) dc,.slice (some ⟨vb,voff,none⟩) m vc]).run Tryz.prog W=.ok (goInt vs.length) (W.setCells w.heap.size i vs):=fun W hWc hWf ty dc =>
  run_copy_cells W _ _ ty 24 w.heap.size i (n+m-i) dc ⟨vb,voff,none⟩ m vc vs tS hsz (by rw [hvl]; simp only [ZQ]; split <;> omega)
   (fun j v hj=>by rw [Addr.add_lit,hWc]; exact hOv _ v (hvs j v hj))
   (fun j hj=>by rw [hWc]; exact hN _ zO) (fun j hj=>by rw [hWf]; exact hNf _) h1v
 have hGn:n+m<=G:=by rw [hG]; exact grownCap_ge w _ _ _
 have hG63:G<=9223372036854775807:=by
  have:=grownCap_le_maxLen w (n+m) c 24 (by unfold maxLen; omega)
  rw [<- hG] at this;unfold maxLen at this;omega
 have hGi:¬ (G=i):=zO;have hGim:¬ (G=i+m):=zO;have hci:¬ (c=i):=zO;have hbN:b≠w.heap.size:=zO;have hdl:(cs.drop i).length=n-i:=by rw [Wc,hcl]
 have hcpB:∀ (W:World),(∀ x,W.cell? x=(W1.setCells w.heap.size i vs).cell? x)->(∀ x,W.frozen? x=(W1.setCells w.heap.size i vs).frozen? x)->∀ ty dc sc,(Builtin.copy_ #[125,125] ty #[.slice (some ⟨w.heap.size,i+m,none⟩) (n+m-(i+m)) dc,.slice (some ⟨b,off+i,none⟩) (n-i) sc]).run Tryz.prog W=.ok (goInt (cs.drop i).length) (W.setCells w.heap.size (i+m) (cs.drop i)):=fun W hWc hWf ty dc sc =>
  run_copy_cells W _ _ ty 24 w.heap.size (i+m) (n+m-(i+m)) dc ⟨b,off+i,none⟩ (n-i) sc (cs.drop i) tS hsz (by rw [hdl]; simp only [ZQ]; split <;> omega)
   (fun j v hj=>by
    rw [Addr.add_lit,hWc,World.cell?_setCells_out _ _ _ _ _ (fun h _=>absurd h hbN),V2];exact hOb _ v (hcs (i+j) v (by rwa [Vn] at hj)))
   (fun j hj=>by rw [hWc]; exact oV _ _ _ _ (fun t ht=>hN _ zO) _ (hN _ zO))
   (fun j hj=>by rw [hWf,World.frozen?_setCells]; exact hNf _) (fun v hv=>h1c v (XH hv))
 subst hW1;have hE1:∀ x,((w.alloc (.cells ROW 24)).drew).cell? x=(w.drew.alloc (.cells ROW 24)).cell? x:=fun x=>rfl;have hE2:∀ x,((w.alloc (.cells ROW 24)).drew).frozen? x=(w.drew.alloc (.cells ROW 24)).frozen? x:=fun x=>rfl;have hF1:∀ x,(((w.alloc (.cells ROW 24)).drew.setCells w.heap.size i vs).drew).cell? x=((w.drew.alloc (.cells ROW 24)).setCells w.heap.size i vs).cell? x:=fun x=>rfl;have hF2:∀ x,(((w.alloc (.cells ROW 24)).drew.setCells w.heap.size i vs).drew).frozen? x=((w.drew.alloc (.cells ROW 24)).setCells w.heap.size i vs).frozen? x:=fun x=>rfl;have hw1:IntKind.i64.wrap ((i:Int)+(m:Int))=(i:Int)+(m:Int):=by rw [IntKind.wrap_i64]; omega
 have hb1:(0:Int)<=(i:Int)+(m:Int):=zO;have hin:i<=n:=zO;have htn:((i:Int)+(m:Int)).toNat=i+m:=zO;have hb3:(i:Int)<=(n:Int):=zO;clear hkk hik hold hROW hG hRl;have mixed:=Ch
 go_enter Tryz.func217,Tryz.ntmps217
 go_wp2_with (first
  | (at_builtin; refine Lib.wpList_append_run _ rfl _ _ _ _ rfl _ _ rfl rfl _ _ (hrz _) ?_)
  | (at_builtin; refine jC _ rfl _ _ 125 125 rfl _ _ rfl rfl (hcpA _ hE1 hE2 _ _) ?_)
  | (at_builtin; refine jC _ rfl _ _ 125 125 rfl _ _ rfl rfl (hcpB _ (fun _=>rfl) (fun _=>rfl) _ _ _) ?_))
 go_region_law_o (refine pf rfl _ _ 125 125 rfl (.slice (some ⟨w.heap.size,i+m,none⟩) (n+m-(i+m)) (G-(i+m))) (.slice (some ⟨b,off+i,none⟩) (n-i) (c-i)) (by simp [Act.eval,Act.put]) (by simp [Act.eval,Act.put]) (hcpB _ hF1 hF2 3 (G-(i+m)) (c-i)) ?_)
 go_wp2
 go_ret
 exact ⟨rfl,rfl⟩
end Go.Proofs.YthjdfjlhjnihfaaGreat.Ins217
namespace Go.Proofs.YthjdfjlhjnihfaaGreat.Ev.Ok217
open Go Go.Proofs.YthjdfjlhjnihfaaGreat.Ev
def ri (A:Array Value):Nat->List Value->Array Value
 | _,[]=>A
 | o,v :: r=>ri (A.setIfInBounds o v) (o+1) r
def iG:∀ (vs:List Value) (o:Nat) (A:Array Value),(ri A o vs).size=A.size
 | [],o,A=>rfl
 | v :: r,o,A=>by rw [ri,iG r]; simp
def nr:∀ (vs:List Value) (o:Nat) (A:Array Value) (j:Nat),j<A.size->(ri A o vs)[j]? = if o<=j/\j<o+vs.length then vs[j-o]? else A[j]?
 | [],o,A,j,hj=>by rw [ri,if_neg (by simp only [Xj]; omega)]
 | v :: r,o,A,j,hj=>by
  rw [ri,nr r (o+1) _ j (by simpa using hj)];by_cases h1:o+1<=j/\j<o+1+r.length
  ·rw [if_pos h1,if_pos (by simp; omega),show j-o=(j-(o+1))+1 by omega,Wu]
  ·rw [if_neg h1];by_cases h2:j=o
   ·subst h2;rw [if_pos (by simp),YT,Wi,Array.getElem?_setIfInBounds_self_of_lt hj]
   ·rw [if_neg (by simp; omega),Array.getElem?_setIfInBounds_ne zO]
def l7 (b:Nat):∀ (vs:List Value) (o:Nat) (w:World) (arr:Array Value) (ty:TypeId) (fr:Nat × Nat),w.heap[b]? = some (.cells arr ty fr) ->
  (w.setCells b o vs).heap[b]? = some (.cells (ri arr o vs) ty fr)/\(∀ c,c≠b->(w.setCells b o vs).heap[c]? = w.heap[c]?)/\(w.setCells b o vs).heap.size=w.heap.size /\
   Tp w (w.setCells b o vs)/\(w.setCells b o vs).os=w.os/\(w.setCells b o vs).output=w.output
 | [],o,w,arr,ty,fr,h=>⟨h,fun _ _=>rfl,rfl,Tp.same rfl rfl,rfl,rfl⟩
 | v :: r,o,w,arr,ty,fr,h=>by
  have h1:(w.setCell ⟨b,o,none⟩ v).heap[b]? = some (.cells (arr.setIfInBounds o v) ty fr):=by
   simp [World.setCell,W3,h]
  obtain ⟨k1,k2,k3,k4,k5,k6⟩:=l7 b r (o+1) (w.setCell ⟨b,o,none⟩ v) _ ty fr h1;refine ⟨k1,fun c hc=>(k2 c hc).trans ?_,k3.trans ?_,(Tp.same rfl rfl).trans k4,k5,k6⟩
  ·simp [World.setCell,W3,Ne.symm hc]
  ·simp [World.setCell]
def lX (w:World) (ty:TypeId):∀ (vs:List Value) (o:Nat) (A:Array Value),(w.alloc (.cells A ty)).setCells w.heap.size o vs=w.alloc (.cells (ri A o vs) ty)
 | [],o,A=>rfl
 | v :: r,o,A=>by
  have h1:(w.alloc (.cells A ty)).setCell ⟨w.heap.size,o,none⟩ v=w.alloc (.cells (A.setIfInBounds o v) ty):=by
   simp only [World.setCell,World.alloc];congr 1
   apply YZ
   intro j;rw [W3];by_cases hj:w.heap.size=j
   ·subst hj; simp
   ·rw [if_neg hj,XN,XN,if_neg (Ne.symm hj),if_neg (Ne.symm hj)]
  rw [World.setCells,h1,lX w ty r (o+1) _]; rfl
section
variable {P:Program} {μ:Mu} {F:Nat->Prop} {H:Heap} {w:World}
def yY {μ':Mu} {H':Heap} {w':World} (h:Stp (fun x=>x=H.next) P μ F { H with next:=H.next+1 } w μ' F H' w'):Stp qZ P μ F H w μ' F H' w' :=
 ⟨h.mu,h.fr,h.size,h.keep,h.rw,Oc (Vz _ _) h.next,fun b hb _ hn=>h.new b (Vi hb (Vz _ _)) zO hn,h.rng,
  fun b e hb hl _=>h.old b e hb (Vi hl (Vz _ _)) zO,h.alv,h.tape,h.os,h.out⟩
def HC {ty:Nat} {cs:List AV} {V:List Value} {A:Array Value} {w1:World} {k cap':Nat} {H1:Heap} (hH:HR P μ F H1 w) (hnx:H1.next=H.next+1) (hid:μ H.next=none) (hs:sizeOf? P ty=some 1)
  (hl:LR μ F w cs V) (hk:V.length=k) (hA:∀ j,j<k->A[j]? = V[j]?) (hcap:k<=cap') (hsz:A.size=cap')
  (h1:w1.heap=w.heap) (ht:Tp w w1) (hos:w1.os=w.os) (hout:w1.output=w.output) :
  ∃ μ',VR μ' F (w1.alloc (.cells A ty)) (.own H.next 0 k k 1 false) (.slice (some ⟨w.heap.size,0,none⟩) k cap')/\HR P μ' F (H1.put H.next (.cells cs ty true)) (w1.alloc (.cells A ty)) /\
   Stp (fun x=>x=H.next) P μ F H1 w μ' F (H1.put H.next (.cells cs ty true)) (w1.alloc (.cells A ty)):=by
 have hcl:cs.length=k:=hl.1.trans hk;obtain ⟨q1,q2⟩:=kQ (I:=fun x=>x=H.next) hH hid zO rfl (sz:=1) (arr:=A) (cs:=cs) hs zO
  (fun i c v hc hv=>by
   have hi:i<k:=by rw [<- hcl]; exact (I6.1 hc).1
   rw [hA i hi] at hv;exact hl.2 i c v hc hv) w1 h1 ht hos hout
 exact ⟨_,.own H.next 0 k k 1 false _ cap' (upd_same _ _) rfl (wT _) hcap (fun h=>by cases h) (by simp [hsz]),q1,q2⟩
def Om {b ty:Nat} {L:Ak} {cs0 cs:List AV} {V:List Value} {A:Array Value} {w':World} {k cap:Nat} (hH:HR P μ F H w) (hb:H.get b=some (.cells cs0 ty true)) (hL:μ b=some L) (hLs:L.sz=1)
  (hl:LR μ F w cs V) (hk:V.length=k) (hA:∀ j,j<k->A[j]? = V[j]?) (hcap:k<=cap) (hsz:A.size=L.N) (hN:cap<=L.N)
  (hw:w'.heap[L.blk]? = some (.cells A ty (0,0))) (hoth:∀ c,c≠L.blk->w'.heap[c]? = w.heap[c]?) (hsize:w'.heap.size=w.heap.size) (ht:Tp w w') (hos:w'.os=w.os) (hout:w'.output=w.output) :
  ∃ μ',VR μ' F w' (.own H.next 0 k k 1 false) (.slice (some ⟨L.blk,0,none⟩) k cap)/\HR P μ' F (({ H with next:=H.next+1 }.kill b).put H.next (.cells cs ty true)) w' /\
   Stp qZ P μ F H w μ' F (({ H with next:=H.next+1 }.kill b).put H.next (.cells cs ty true)) w':=by
 have hcl:cs.length=k:=hl.1.trans hk;have hid:μ H.next=none:=jN hH (wT _)
 have hH1:=hH.bump 1;have hb1:({ H with next:=H.next+1 }:Heap).get b=some (.cells cs0 ty true):=hb;obtain ⟨arr,fr,g1,g2,g3,g4,g5,g6,g7⟩:=fN hH hb hL;obtain ⟨p1,p2⟩:=iC (I:=fun x=>x=H.next) (e:=.cells cs ty true) hH1 hb1 rfl hL w' hoth hsize ht hos hout
  (fun hF=>⟨A,(0,0),hw,hsz,g3,zO,fun i c v hc hv=>by
   have hi:i<k:=by rw [<- hcl]; exact (I6.1 hc).1
   rw [hA i hi] at hv;exact (hl.2 i c v hc hv).mono (fun _ _ h=>h) (fun _ h=>h) hF,fun _=>⟨(g6 rfl).1,rfl⟩,fun h=>by cases h⟩) rfl
 obtain ⟨q4,q5⟩:=sW (I:=fun x=>x=H.next) p1 (b:=b) (id:=H.next) (L:=L) (by rw [Heap.get_put,if_pos rfl]) hL hid (by show H.next<H.next+1; omega) rfl;refine ⟨μ.upd H.next L,.own H.next 0 k k 1 false L cap (upd_same _ _) hLs (wT _) hcap (fun h=>by cases h) (by simp; omega),?_,?_⟩
 ·refine q4.congr rfl fun x=>?_;simp only [Heap.get_put,Heap.get_kill];split
  ·rfl
  ·split
   ·rfl
   ·rename_i hx; rfl
 ·refine yY ((p2.trans q5).congr rfl fun x e he=>⟨e,?_,rfl⟩);simp only [Heap.get_put,Heap.get_kill] at he ⊢;split at he
  ·rename_i hx; rw [if_pos hx]; exact he
  ·rename_i hx;rw [if_neg hx];split at he
   ·cases he
   ·rename_i hx2; rw [if_neg hx2,if_neg hx2]; exact he
end
def tu {vs:List Value} {w:World} {F:Fence} {rd:Bool} {n:Nat} {R:Value->World->Prop} (hF:FenceOK F rd) (h:Calls Tryz.prog 217 vs.toArray w fun e w'=>∃ u,e=.returned u/\R u w'):Runs F n Tryz.prog ((callFunc 217 vs.toArray).run Tryz.prog w) R:=by
 rw [qQ (P:=Tryz.prog) (f:=217) Tryz.func217 (by kernel_rfl) (of_decide_eq_true (by kernel_rfl))];unfold Runs;simp only;have key:CallsIn Fence.wide n Tryz.prog 217 vs.toArray w fun e w'=>∃ u,e=.returned u/\R u w':=callsIn_wide.2 h;rcases hF with ⟨_,rfl⟩ | ⟨_,l,rfl⟩
 ·exact key
 ·exact key
def tf {w:World} {b:Nat} {arr:Array Value} {ty:TypeId} (h:w.heap[b]? = some (.cells arr ty (0,0))) (o:Nat):w.frozen? ⟨b,o,none⟩=false:=by
 simp [World.frozen?,h]
def On {H H':Heap} {size bytes ty:Nat} {args:List AV} {v:AV} (h:Ty H (.insert size bytes ty) args=some (v,H')) :
  (∃ b2 off2 m c2 sz2 Gn news,args=[.nilSl,.int .i64 (.ofNat 0),.own b2 off2 m c2 sz2 Gn]/\aL H size m (.own b2 off2 m c2 sz2 Gn)=some news/\0<m/\m*bytes<=2^46/\m<2^62/\news.all AV.one=true /\
   v=.own H.next 0 m m size false/\H'=({ H with next:=H.next+1 }:Heap).put H.next (.cells news ty true)) \/
  (∃ b n c ex i b2 off2 m c2 sz2 Gn news cs cs2 ty2,args=[.own b 0 n c size ex,.int .i64 (.ofNat i),.own b2 off2 m c2 sz2 Gn]/\aL H size m (.own b2 off2 m c2 sz2 Gn)=some news/\H.get b=some (.cells cs ty true)/\H.get b2=some (.cells cs2 ty2 true) /\
   b≠b2/\0<m/\i<=n/\cs.length=n*size/\(n+m)*bytes<=2^46/\n+m<2^62/\news.all AV.one=true/\cs.all AV.one=true /\
   v=.own H.next 0 (n+m) (n+m) size false/\H'=(({ H with next:=H.next+1 }:Heap).kill b).put H.next (.cells (cs.take (i*size)++news++cs.drop (i*size)) ty true)):=by
 unfold Ty at h;split at h
 all_goals first | contradiction | skip
 ·rename_i heq;cases heq;split at h
  ·rename_i news hnews;split at h
   ·rename_i hc;obtain ⟨c1,c2',c3,c4,c5⟩:=hc;cases h;subst c1;exact .inl ⟨_,_,_,_,_,_,news,rfl,hnews,c2',c3,c4,c5,rfl,rfl⟩
   ·cases h
  ·cases h
 ·rename_i heq;cases heq;split at h
  ·rename_i news cs ty' cs2 ty2 hnews hb hb2;split at h
   ·rename_i hc;obtain ⟨c1,c2',c3,c4,c5,c6,c7,c8,c9,c10,c11⟩:=hc;cases h;subst c1;subst c2';subst c9;exact .inr ⟨_,_,_,_,_,_,_,_,_,_,_,news,cs,cs2,ty2,rfl,hnews,hb,hb2,c3,c4,c5,c6,c7,c8,c10,c11,rfl,rfl⟩
   ·cases h
  ·cases h
 all_goals (cases h)
def DY {P:Program} {μ:Mu} {F:Nat->Prop} {H:Heap} {w:World} {b2 off2 m c2 sz2:Nat} {Gn:Bool} {news:List AV} {z:Value} (hH:HR P μ F H w) (hz:VR μ F w (.own b2 off2 m c2 sz2 Gn) z) (hnews:aL H 1 m (.own b2 off2 m c2 sz2 Gn)=some news) :
  ∃ L2 cap2 arr2 ty2 fr2 cs2 rw2,μ b2=some L2/\z=.slice (some ⟨L2.blk,off2,none⟩) m cap2/\H.get b2=some (.cells cs2 ty2 rw2)/\w.heap[L2.blk]? = some (.cells arr2 ty2 fr2)/\off2+m<=arr2.size/\(rw2=true->fr2=(0,0)) /\
   ((arr2.toList.drop off2).take m).length=m/\LR μ F w news ((arr2.toList.drop off2).take m)/\∀ j u,((arr2.toList.drop off2).take m)[j]? = some u->w.cell? ⟨L2.blk,off2+j,none⟩=some u:=by
 cases hz with
 | own _ _ _ _ _ _ L2 cap2 k1 k2 k3 k4 k5 k6 =>
 simp only [aL] at hnews;split at hnews
 ·rename_i cs2 ty2 rw2 hb2;split at hnews
  ·rename_i hcc;obtain ⟨e1,e2,e3⟩:=hcc;cases hnews;obtain ⟨arr2,fr2,g1,g2,g3,g4,g5,g6,g7⟩:=fN hH hb2 k1;have hvl:((arr2.toList.drop off2).take m).length=m:=by simp; omega
   refine ⟨L2,cap2,arr2,ty2,fr2,cs2,rw2,k1,rfl,hb2,g1,zO,fun h=>(g6 h).2,hvl,⟨by simp; omega,fun i c u hi hu=>?_⟩,fun j u hj=>?_⟩
   ·rw [Vm] at hi hu;rw [Wo] at hi;split at hi
    ·rename_i him;rw [if_pos him] at hu;rw [Vn] at hi hu;exact g5 _ c u hi (by simpa using hu)
    ·cases hi
   ·rw [oI g1];rw [Vm] at hj;split at hj
    ·rw [Vn] at hj; simpa using hj
    ·cases hj
  ·cases hnews
 ·cases hnews
def N3 {μ:Mu} {F:Nat->Prop} {w:World} {b n c sz:Nat} {ex:Bool} {x:Value} (h:VR μ F w (.own b 0 n c sz ex) x):∃ L cap,μ b=some L/\L.sz=sz/\n<=c/\c<=cap/\cap*sz<=L.N/\x=.slice (some ⟨L.blk,0,none⟩) n cap:=by
 cases h with
 | own _ _ _ _ _ _ L cap k1 k2 k3 k4 k5 k6=>exact ⟨L,cap,k1,k2,k3,k4,zO,rfl⟩
def xZ {μ:Mu} {F:Nat->Prop} {w:World} {vs:List Value} {a b c:AV} (h:LR μ F w [a,b,c] vs):∃ x y z,vs=[x,y,z]/\VR μ F w a x/\VR μ F w b y/\VR μ F w c z:=by
 have hl:=h.1
 match vs,hl with
 | [x,y,z],_=>exact ⟨x,y,z,rfl,h.head,h.tail.head,h.tail.tail.head⟩
set_option maxRecDepth 100000 in
def extOK_insert:ExtOK Tryz.prog 217 (.insert 1 24 24):=by
 intro H args v H' h μ F w vs fence rd nn hF hH hl;have hsE:sizeOf? Tryz.prog 24=some 1:=by
  obtain ⟨i0,hi,h0,h1,h2⟩:=info_parts Ins217.iE;simp [sizeOf?,hi,h1]
 have hid:μ H.next=none:=jN hH (wT _)
 have hzs:∀ k,(Builtin.zeroCells (Value.slice none 0 0).cells k).size=k:=fun k=>by rw [xx]; simp [Value.cells]
 rcases On h with ⟨b2,off2,m,c2,sz2,Gn,news,rfl,hnews,h1,h2,h3,h4,rfl,rfl⟩ | ⟨b,n,c,ex,i,b2,off2,m,c2,sz2,Gn,news,cs,cs2,ty2,rfl,hnews,hb,hb2,h1,h2,h3,h4,h5,h6,h7,h8,rfl,rfl⟩
 ·obtain ⟨x,y,z,rfl,hx,hy,hz⟩:=xZ hl;cases hx;cases hy;obtain ⟨L2,cap2,arr2,ty2,fr2,cs2,rw2,k1,rfl,k3,g1,g2,-,hvl,hvr,hcell⟩:=DY hH hz hnews;refine tu hF ((Ins217.end_grow none 0 0 L2.blk off2 m cap2 [] ((arr2.toList.drop off2).take m) w h1 (wT _) zO zO rfl hvl (fun _=>rfl) (fun a h=>by cases h) hcell (hvr.one h4)).mono fun e w' ⟨he,hw⟩=>?_);subst hw;rw [VB] at he;have hge:=Go.grownCap_ge w m 0 24;simp only [VB,Xk];obtain ⟨μ',q1,q2,q3⟩:=HC (P:=Tryz.prog) (H:=H) (A:=((arr2.toList.drop off2).take m).toArray++Builtin.zeroCells (Value.slice none 0 0).cells (grownCap w m 0 24-m)) (w1:=w.drew) (k:=m) (cap':=grownCap w m 0 24) (hH.bump 1) rfl hid hsE hvr hvl
   (fun j hj=>by rw [Wg (by simp [hvl]; omega)]; simp) hge (by simp only [Xc,Xv,hvl,hzs]; omega) rfl Tp.draw rfl rfl
  exact ⟨_,he,μ',q1,q2,yY q3⟩
 ·obtain ⟨x,y,z,rfl,hx,hy,hz⟩:=xZ hl;obtain ⟨L,cap,r1,r2,r3,r4,r5,rfl⟩:=N3 hx;cases hy;obtain ⟨L2,cap2,arr2,ty2',fr2,cs2',rw2,k1,rfl,k3,g1,g2,gfr,hvl,hvr,hcell⟩:=DY hH hz hnews;rw [hb2] at k3;cases k3;have hfr2:=gfr rfl;subst hfr2;obtain ⟨arr,fr,p1,p2,p3,p4,p5,p6,p7⟩:=fN hH hb r1;obtain ⟨-,rfl⟩:=p6 rfl;rw [Wo] at h4 r5;have hne:L2.blk≠L.blk:=fun e=>h1 (hH.inj b b2 _ _ L L2 hb hb2 r1 k1 e.symm);have hvsl:(arr.toList.take n).length=n:=by simp; omega
  have hcs:LR μ F w cs (arr.toList.take n):=by
   refine ⟨by simp; omega,fun i c u hi hu=>?_⟩;rw [Vm] at hu;split at hu
   ·exact p5 i c u hi (by simpa using hu)
   ·cases hu
  have hcell0:∀ j u,(arr.toList.take n)[j]? = some u->w.cell? ⟨L.blk,0+j,none⟩=some u:=fun j u hj=>by
   rw [oI p1,VB];rw [Vm] at hj;split at hj
   ·simpa using hj
   ·cases hj
  have hV:LR μ F w (cs.take (i*1)++news++cs.drop (i*1)) ((arr.toList.take n).take i++(arr2.toList.drop off2).take m++(arr.toList.take n).drop i):=by
   rw [Wo];exact ((hcs.take i).append hvr).append (hcs.drop i)
  have hVl:((arr.toList.take n).take i++(arr2.toList.drop off2).take m++(arr.toList.take n).drop i).length=n+m:=by
   simp only [Vg,Vu,Wc,hvl,hvsl]
   have:=hvsl
   rw [Vu] at this;omega
  generalize hC:arr.toList.take n=C at *
  generalize hD:(arr2.toList.drop off2).take m=D at *
  have hCl:=hvsl;have hDl:=hvl;have harr:∀ j,j<n->arr[j]? = C[j]?:=fun j hj=>by rw [<- hC,Vm,if_pos hj]; simp
  have hVat:∀ j,j<n+m->(C.take i++D++C.drop i)[j]? = if j<i then C[j]? else if j<i+m then D[j-i]? else C[j-m]?:=by
   intro j hj;have e1:(C.take i).length=i:=by rw [Vu]; omega
   by_cases q1:j<i
   ·rw [if_pos q1,Vw (by rw [Vg,e1]; omega),Vw zO,Vm,if_pos q1]
   ·rw [if_neg q1];by_cases q2:j<i+m
    ·rw [if_pos q2,Vw (by rw [Vg,e1]; omega),VN zO,e1]
    ·rw [if_neg q2,VN (by rw [Vg,e1]; omega),Vg,e1,Vn];congr 1; omega
  have hsp:∀ j,j<cap->(w.cell? ⟨L.blk,0+j,none⟩).isSome=true:=fun j hj=>by
   rw [oI p1,VB,Wa zO]; rfl
  by_cases hroom:n+m<=cap
  ·
   have fin:∀ (A:Array Value) (w':World),A.size=L.N->(∀ j,j<n+m->A[j]? = (C.take i++D++C.drop i)[j]?)->w'.heap[L.blk]? = some (.cells A 24 (0,0))->(∀ c,c≠L.blk->w'.heap[c]? = w.heap[c]?)->w'.heap.size=w.heap.size->Tp w w'->w'.os=w.os->w'.output=w.output ->
     ∃ μ',ie qZ Tryz.prog μ F H w (.own H.next 0 (n+m) (n+m) 1 false) (({ H with next:=H.next+1 }:Heap).kill b |>.put H.next (.cells (cs.take (i*1)++news++cs.drop (i*1)) 24 true)) (.slice (some ⟨L.blk,0,none⟩) (n+m) cap) w' μ':=by
    intro A w' a1 a2 a3 a4 a5 a6 a7 a8;obtain ⟨μ',q1,q2,q3⟩:=Om (P:=Tryz.prog) (A:=A) (w':=w') (k:=n+m) (cap:=cap) hH hb r1 r2 hV hVl a2 hroom a1 r5 a3 a4 a5 a6 a7 a8;exact ⟨μ',q1,q2,q3⟩
   by_cases hin:i=n
   ·subst hin;refine tu hF ((Ins217.end_room L.blk 0 i cap L2.blk off2 m cap2 D w h2 hroom zO hDl (fun j hj=>by rw [V2]; exact hsp _ zO) (fun j _=>tf p1 _) hcell (hvr.one h7)).mono fun e w' ⟨he,hw⟩=>?_);subst hw;obtain ⟨s1,s2,s3,s4,s5,s6⟩:=l7 L.blk D (0+i) w arr 24 (0,0) p1;obtain ⟨μ',hd⟩:=fin _ _ ((iG _ _ _).trans p2) (fun j hj=>by
     rw [nr _ _ _ _ zO,hVat j hj,hDl,VB];by_cases q1:j<i
     ·rw [if_neg zO,if_pos q1,harr j q1]
     ·rw [if_pos zO,if_neg q1,if_pos zO]) s1 s2 s3 s4 s5 s6
    exact ⟨_,he,μ',hd⟩
   ·refine tu hF ((Ins217.shift L.blk 0 n cap i L2.blk off2 m cap2 C D w zO h2 hroom zO hne hCl hDl hcell0 (fun j hj=>hsp j zO) (fun j _=>tf p1 _) hcell (hcs.one h8) (hvr.one h7)
     ty2 24 arr2.size arr.size (by simp [World.shape?,g1]) (by simp [World.shape?,p1]) zO (tf g1 _) (tf g1 _)).mono fun e w' ⟨he,hw⟩=>?_)
    subst hw;obtain ⟨s1,s2,s3,s4,s5,s6⟩:=l7 L.blk (C.drop i) (0+(i+m)) w.drew arr 24 (0,0) p1;obtain ⟨t1,t2,t3,t4,t5,t6⟩:=l7 L.blk D (0+i) _ _ 24 (0,0) s1;obtain ⟨μ',hd⟩:=fin _ _ (by rw [iG,iG]; exact p2) (fun j hj=>by
     rw [nr _ _ _ _ (by rw [iG]; omega),nr _ _ _ _ zO,hVat j hj,hDl,VB,VB,Wc,hCl];by_cases q1:j<i
     ·rw [if_neg zO,if_neg zO,if_pos q1,harr j zO]
     ·by_cases q2:j<i+m
      ·rw [if_pos zO,if_neg q1,if_pos q2]
      ·rw [if_neg zO,if_pos zO,if_neg q1,if_neg q2,Vn];congr 1; omega) t1 (fun c hc=>(t2 c hc).trans (s2 c hc)) (t3.trans s3) ((Tp.draw.trans s4).trans t4) (t5.trans s5) (t6.trans s6)
    exact ⟨_,he,μ',hd⟩
  ·
   have hge:=Go.grownCap_ge w (n+m) cap 24;obtain ⟨z1,z2⟩:=sv (I:=fun x=>x=H.next) (hH.bump 1) b;have fin:∀ (A:Array Value) (w1:World),A.size=grownCap w (n+m) cap 24->(∀ j,j<n+m->A[j]? = (C.take i++D++C.drop i)[j]?)->w1.heap=w.heap->Tp w w1->w1.os=w.os->w1.output=w.output ->
     ∃ μ',ie qZ Tryz.prog μ F H w (.own H.next 0 (n+m) (n+m) 1 false) (({ H with next:=H.next+1 }:Heap).kill b |>.put H.next (.cells (cs.take (i*1)++news++cs.drop (i*1)) 24 true)) (.slice (some ⟨w.heap.size,0,none⟩) (n+m) (grownCap w (n+m) cap 24)) (w1.alloc (.cells A 24)) μ':=by
    intro A w1 a1 a2 a3 a4 a5 a6;obtain ⟨μ',q1,q2,q3⟩:=HC (P:=Tryz.prog) (H:=H) (A:=A) (w1:=w1) (k:=n+m) (cap':=grownCap w (n+m) cap 24) z1 rfl hid hsE hV hVl a2 hge a1 a3 a4 a5 a6;exact ⟨μ',q1,q2,yY (z2.trans q3)⟩
   by_cases hin:i=n
   ·subst hin;refine tu hF ((Ins217.end_grow (some ⟨L.blk,0,none⟩) i cap L2.blk off2 m cap2 C D w h2 zO zO zO hCl hDl (fun h=>by cases h) (fun a ha j u hj=>by cases ha; rw [jl]; exact hcell0 j u hj) hcell (hvr.one h7)).mono fun e w' ⟨he,hw⟩=>?_);subst hw;obtain ⟨μ',hd⟩:=fin ((C++D).toArray++Builtin.zeroCells (Value.slice none 0 0).cells (grownCap w (i+m) cap 24-(i+m))) w.drew (by simp only [Xc,Xv,Vg,hCl,hDl,hzs]; omega) (fun j hj=>by
     rw [Wg (by simp [hCl,hDl]; omega),hVat j hj];have e0:(C++D).toArray[j]? = (C++D)[j]?:=by simp
     rw [e0];by_cases q1:j<i
     ·rw [if_pos q1,Vw zO]
     ·rw [if_neg q1,if_pos zO,VN zO,hCl]) rfl Tp.draw rfl rfl
    exact ⟨_,he,μ',hd⟩
   ·refine tu hF ((Ins217.grow L.blk 0 n cap i L2.blk off2 m cap2 C D w zO h2 zO zO zO hCl hDl hcell0 hcell (hcs.one h8) (hvr.one h7)).mono fun e w' ⟨he,hw⟩=>?_);have e1:∀ A:Array Value,(((w.alloc (.cells A 24)).drew.setCells w.heap.size i D).drew).setCells w.heap.size (i+m) (C.drop i)=w.drew.drew.alloc (.cells (ri (ri A i D) (i+m) (C.drop i)) 24):=fun A=>by
     have a1:(w.alloc (.cells A 24)).drew=w.drew.alloc (.cells A 24):=rfl;have a2:(w.drew.alloc (.cells A 24)).setCells w.heap.size i D=w.drew.alloc (.cells (ri A i D) 24):=lX w.drew 24 D i A;have a3:(w.drew.alloc (.cells (ri A i D) 24)).drew=w.drew.drew.alloc (.cells (ri A i D) 24):=rfl;rw [a1,a2,a3];exact lX w.drew.drew 24 (C.drop i) (i+m) (ri A i D)
    rw [e1] at hw;subst hw;obtain ⟨μ',hd⟩:=fin (ri (ri ((C.take i).toArray++Builtin.zeroCells (Value.slice none 0 0).cells (n+m-i)++Builtin.zeroCells (Value.slice none 0 0).cells (grownCap w (n+m) cap 24-(n+m))) i D) (i+m) (C.drop i)) w.drew.drew (by
      rw [iG,iG];simp only [Xc,Xv,Vu,hCl,hzs]; omega) (fun j hj=>by
     have hA0:((C.take i).toArray++Builtin.zeroCells (Value.slice none 0 0).cells (n+m-i)++Builtin.zeroCells (Value.slice none 0 0).cells (grownCap w (n+m) cap 24-(n+m))).size=grownCap w (n+m) cap 24:=by
      simp only [Xc,Xv,Vu,hCl,hzs]; omega
     rw [nr _ _ _ _ (by rw [iG,hA0]; omega),nr _ _ _ _ (by rw [hA0]; omega),hVat j hj,hDl,Wc,hCl];by_cases q1:j<i
     ·rw [if_neg zO,if_neg zO,if_pos q1,Wg (by simp only [Xc,Xv,Vu,hCl,hzs]; omega),Wg (by simp only [Xv,Vu,hCl]; omega)];simp [q1]
     ·by_cases q2:j<i+m
      ·rw [if_neg zO,if_pos zO,if_neg q1,if_pos q2]
      ·rw [if_pos zO,if_neg q1,if_neg q2,Vn];congr 1; omega) rfl (Tp.draw.trans Tp.draw) rfl rfl
    exact ⟨_,he,μ',hd⟩
end Go.Proofs.YthjdfjlhjnihfaaGreat.Ev.Ok217
namespace Go.Proofs.YthjdfjlhjnihfaaGreat.Ev.So130
open Go Go.RowKit Go.Sort Go.Shelf Go.Lib Go.Proofs.YthjdfjlhjnihfaaGreat.Ev
set_option maxRecDepth 100000
def Fu:Go.Shelf.Ren:=⟨fun | 6=>130 | 15=>172 | 14=>171 | 28=>207 | 29=>117 | 20=>199 | 21=>200 | 22=>201 | 23=>202 | 24=>203 | 25=>204 | 26=>205 | 27=>206 | 46=>222 | 47=>223 | 48=>224 | 49=>225 | 50=>226 | 57=>232 | n=>n,fun | 22=>125 | 24=>24 | 25=>113 | 3=>3 | 39=>180 | 0=>0 | 53=>252 | 55=>94 | 4=>4 | 46=>245 | 45=>244 | 50=>249 | 5=>5 | 9=>9 | 66=>268 | 70=>272 | 76=>276 | 77=>277 | n=>n,fun | n=>n⟩
def Lj:Go.Proofs.SlLaysF.n6 Tryz.prog Fu:={
 mixed:=by kernel_rfl
 f6:=⟨Tryz.f130.name,by decide,Tryz.func130.trans (congrArg some (by kernel_rfl))⟩
 f14:=⟨Tryz.f171.name,by decide,Tryz.func171.trans (congrArg some (by kernel_rfl))⟩
 f15:=Tryz.func172.trans (congrArg some (by kernel_rfl))
 f20:=⟨Tryz.f199.name,by decide,Tryz.func199.trans (congrArg some (by kernel_rfl))⟩
 f21:=⟨Tryz.f200.name,by decide,Tryz.func200.trans (congrArg some (by kernel_rfl))⟩
 f22:=⟨Tryz.f201.name,by decide,Tryz.func201.trans (congrArg some (by kernel_rfl))⟩
 f23:=⟨Tryz.f202.name,by decide,Tryz.func202.trans (congrArg some (by kernel_rfl))⟩
 f24:=⟨Tryz.f203.name,by decide,Tryz.func203.trans (congrArg some (by kernel_rfl))⟩
 f25:=⟨Tryz.f204.name,by decide,Tryz.func204.trans (congrArg some (by kernel_rfl))⟩
 f26:=⟨Tryz.f205.name,by decide,Tryz.func205.trans (congrArg some (by kernel_rfl))⟩
 f27:=⟨Tryz.f206.name,by decide,Tryz.func206.trans (congrArg some (by kernel_rfl))⟩
 f28:=Tryz.func207.trans (congrArg some (by kernel_rfl))
 f29:=Tryz.func117.trans (congrArg some (by kernel_rfl))
 f46:=⟨Tryz.f222.name,by decide,Tryz.func222.trans (congrArg some (by kernel_rfl))⟩
 f47:=Tryz.func223.trans (congrArg some (by kernel_rfl))
 f48:=Tryz.func224.trans (congrArg some (by kernel_rfl))
 f49:=⟨Tryz.f225.name,by decide,Tryz.func225.trans (congrArg some (by kernel_rfl))⟩
 f50:=⟨Tryz.f226.name,by decide,Tryz.func226.trans (congrArg some (by kernel_rfl))⟩
 f57:=⟨Tryz.f232.name,by decide,Tryz.func232.trans (congrArg some (by kernel_rfl))⟩
 t0:=Tryz.underlying0
 a0:=Tryz.isAgg0
 z0:=Tryz.sizeOf0
 v0:=Tryz.zeroValue0
 t3:=Tryz.underlying3
 a3:=Tryz.isAgg3
 z3:=Tryz.sizeOf3
 v3:=Tryz.zeroValue3
 t4:=Tryz.underlying4
 a4:=Tryz.isAgg4
 z4:=Tryz.sizeOf4
 v4:=Tryz.zeroValue4
 t5:=Tryz.underlying5
 a5:=Tryz.isAgg5
 z5:=Tryz.sizeOf5
 v5:=Tryz.zeroValue5
 t9:=Tryz.underlying9
 a9:=Tryz.isAgg9
 z9:=Tryz.sizeOf9
 v9:=Tryz.zeroValue9
 t22:=Tryz.underlying125
 a22:=Tryz.isAgg125
 z22:=Tryz.sizeOf125
 v22:=Tryz.zeroValue125
 a24:=Tryz.isAgg24
 z24:=Tryz.sizeOf24
 t25:=Tryz.underlying113
 a25:=Tryz.isAgg113
 z25:=Tryz.sizeOf113
 v25:=Tryz.zeroValue113
 t39:=Tryz.underlying180
 a39:=Tryz.isAgg180
 z39:=Tryz.sizeOf180
 v39:=Tryz.zeroValue180
 t45:=Tryz.underlying244
 a45:=Tryz.isAgg244
 z45:=Tryz.sizeOf244
 v45:=Tryz.zeroValue244
 t46:=Tryz.underlying245
 a46:=Tryz.isAgg245
 z46:=Tryz.sizeOf245
 v46:=Tryz.zeroValue245
 t50:=Tryz.underlying249
 a50:=Tryz.isAgg249
 z50:=Tryz.sizeOf249
 v50:=Tryz.zeroValue249
 t53:=Tryz.underlying252
 a53:=Tryz.isAgg252
 z53:=Tryz.sizeOf252
 v53:=Tryz.zeroValue252
 t55:=Tryz.underlying94
 a55:=Tryz.isAgg94
 z55:=Tryz.sizeOf94
 v55:=Tryz.zeroValue94
 t66:=Tryz.underlying268
 a66:=Tryz.isAgg268
 z66:=Tryz.sizeOf268
 v66:=Tryz.zeroValue268
 t70:=Tryz.underlying272
 a70:=Tryz.isAgg272
 z70:=Tryz.sizeOf272
 v70:=Tryz.zeroValue272
 t76:=Tryz.underlying276
 a76:=Tryz.isAgg276
 z76:=Tryz.sizeOf276
 v76:=Tryz.zeroValue276
 t77:=Tryz.underlying277
 a77:=Tryz.isAgg277
 z77:=Tryz.sizeOf277
 v77:=Tryz.zeroValue277 }
def PS:GJ Tryz.prog 130 [131]:=by
 refine ⟨⟨Tryz.f130,Tryz.func130,by kernel_rfl,by decide +kernel⟩,trivial,?_,?_,?_⟩
 ·intro g hg args w;simp only [Vt,List.not_mem_nil,or_false] at hg;subst hg;exact enters_of Tryz.func131 (by kernel_rfl) rfl args w
 ·intro p cap fv w;exact AnyF.slices_SortFunc_none { Lj with } p cap fv w
 ·intro k enc cf g cb blk cap w hg h1 hO hT hcmp hH hblk hsz;have eg:∀ args w,(callFunc g args).run Tryz.prog w=.ok (.enter g args) w:=by
   intro args w;simp only [Vt,List.not_mem_nil,or_false] at hg;subst hg;exact enters_of Tryz.func131 (by kernel_rfl) rfl args w
  have hs:(List.finRange (k+1)).toArray.size=k+1:=by simp
  have h:=Any.slices_SortFunc_total Lj enc h1 cf hO g cb blk 0 cap (List.finRange (k+1)).toArray w eg (by rw [hs]; exact hcmp) hH hblk (by rw [hs]; exact hsz) hT;rw [hs] at h
  change Calls Tryz.prog 130 _ _ _ at h
  exact h
def extOK:ExtOK Tryz.prog 130 (.sortF 24 [131]):=PS
end Go.Proofs.YthjdfjlhjnihfaaGreat.Ev.So130
namespace Go.Proofs.YthjdfjlhjnihfaaGreat.Ev
open Go
set_option maxRecDepth 1000000
set_option maxHeartbeats 8000000
def look:List (Nat × aw)->Nat->Option aw
 | [],_=>none
 | p :: r,f=>if f=p.1 then some p.2 else look r f
def DN:∀ {L:List (Nat × aw)} {f:Nat} {a:aw},look L f=some a->(f,a)∈L
 | p :: r,f,a,h=>by
  unfold look at h;split at h
  ·rename_i e; cases h; subst e; exact N0 ..
  ·exact Ct _ (DN h)
def aq {f:Nat} {fn:Func} {a:aw} (hf:Tryz.prog.funcs[f]? = some fn) (hc:Qw Tryz.prog fn=some a:=by kernel_rfl) (he:a.ext.isNone=true:=by rfl):E5 Tryz.prog f a:=Le hf hc he
abbrev Rw (l:List (Nat × aw)):Prop:=∀ p∈l,E5 Tryz.prog p.1 p.2
def Lt:Rw []:=fun p hp=>by cases hp
def bi {f:Nat} {a:aw} {l:List (Nat × aw)} (h:E5 Tryz.prog f a) (hl:Rw l):Rw ((f,a) :: l):=List.forall_mem_cons.2 ⟨h,hl⟩
def R8:List (Nat × aw):=[(Su,c_facetroomlaw22_PolyBounds),(fy,jf),(fT,jx),(Sv,gJ),(dF,gI),(SI,Tk),(qL,Bh),(SS,Tj),(SU,Tz),(iP,tQ),(Tb,TM),(SV,TR),(TI,Ua),(eN,il),(gu,ka),(pB,wU),(pC,wV),(pE,wX),(oh,tZ),(hZ,kz)]
def R7:List (Nat × aw):=[(nw,Br),(fw,je),(fu,jd),(oi,ui),(l9,wR),(Sx,c_P_poly_bounds_take),(mL,rv),(mJ,ru),(uI,Bf),(SJ,SY),(de,fk),(TG,TZ),(pw,wN),(SR,TN),(nZ,tY),(gO,tX),(jS,rt),(TH,T9),(ST,Tl),(To,TT)]
def R6:List (Nat × aw):=[(yG,EJ),(cL,dW),(lz,qi),(cE,dQ),(pL,xh),(cF,dR),(rW,zw),(fO,js),(fC,jh),(eP,rI),(jZ,xf),(mX,c_dual_points),(pJ,xg),(fq,SG),(pM,xl),(Sq,du),(lu,qe),(nU,tP),(S8,wM),(px,wO)]
def R5:List (Nat × aw):=[(jI,nD),(nT,tO),(pp,wJ),(pq,wK),(nS,tN),(fz,jg),(eO,rH),(lA,zJ),(pK,c_dual_cons),(S9,wS),(mf,xc),(bQ,eH),(bR,eI),(yI,EL),(fP,jt),(eB,gY),(bO,cU),(eA,gX),(pI,xe),(pO,c_cone_Gens)]
def R4:List (Nat × aw):=[(bM,cS),(jJ,nF),(ot,TB),(ft,jc),(gy,qm),(gw,qk),(aT,bB),(aS,bA),(cC,dM),(kr,oW),(uP,Bo),(uR,Ub),(uN,Bm),(uM,Bk),(eh,gW),(bN,cT),(ee,gV),(rY,zz),(oj,zA),(d9,gU)]
def R3:List (Nat × aw):=[(dZ,gT),(cd,dt),(lB,c_cone_checked),(pN,xo),(sr,zY),(cV,c_P_cone_under_add),(SO,qg),(mR,rC),(dw,dx),(iV,qp),(b9,dl),(SF,ky),(mU,rE),(mY,rJ),(sj,zM),(cw,fl),(dE,gH),(yH,EK),(Sz,jy),(SD,kb)]
def RZ:List (Nat × aw):=[(gB,ke),(sf,zL),(r8,zC),(mS,rD),(ol,uj),(iU,mz),(iQ,mp),(ca,dr),(gQ,bW),(cy,fJ),(fQ,ju),(kE,tW),(fV,jA),(iz,c_P_cone_under_cut),(h9,c_P_cone_under_fold),(mP,rA),(iy,lW),(rX,zy),(uK,Bi),(SW,uk)]
def RY:List (Nat × aw):=[(pH,xd),(uO,Bn),(se,zI),(yJ,EM),(cO,eJ),(iT,my),(iS,mw),(Ta,wZ),(iR,mr),(pF,wY),(fR,jv),(oB,zR),(j8,xm),(eY,kC),(mg,xn),(SX,zN),(oA,zP),(l8,wP),(cK,dV),(cD,dO)]
def RX:List (Nat × aw):=[(fX,c_P_rows_form_put),(py,wQ),(nY,tV),(lv,qf),(nV,zx),(mM,rx),(aX,bS),(nX,TA),(r9,zH),(aY,dB),(gt,qj),(fS,jw),(pz,c_sat_Signs),(sq,zQ),(pt,wL),(uJ,Bg),(lp,Tf),(mQ,rB),(cB,dL),(mN,ry)]
def Vc:List (Nat × aw):=[(lq,qc),(mO,rz),(nW,tT),(uQ,Bp),(mI,rr),(fd,nE),(mV,rF)]
def Sn:Rw R8:=bi (aq Tryz.func5)<|bi (aq Tryz.func6)<|bi (aq Tryz.func7)<|bi (aq Tryz.func8)<|bi (aq Tryz.func9)<|bi (aq Tryz.func17)<|bi (aq Tryz.func18)<|bi (aq Tryz.func19)<|bi (aq Tryz.func20)<|bi (aq Tryz.func21)<|bi (aq Tryz.func22)<|bi (aq Tryz.func15)<|bi (aq Tryz.func23)<|bi (aq Tryz.func24)<|bi (aq Tryz.func25)<|bi (aq Tryz.func10)<|bi (aq Tryz.func26)<|bi (aq Tryz.func27)<|bi (aq Tryz.func28)<|bi (aq Tryz.func29)<|Lt
def Sl:Rw R7:=bi (aq Tryz.func30)<|bi (aq Tryz.func31)<|bi (aq Tryz.func32)<|bi (aq Tryz.func33)<|bi (aq Tryz.func45)<|bi (aq Tryz.func46)<|bi (aq Tryz.func47)<|bi (aq Tryz.func49)<|bi (aq Tryz.func48)<|bi (aq Tryz.func50)<|bi (aq Tryz.func51)<|bi (aq Tryz.func52)<|bi (aq Tryz.func53)<|bi (aq Tryz.func42)<|bi (aq Tryz.func37)<|bi (aq Tryz.func38)<|bi (aq Tryz.func54)<|bi (aq Tryz.func56)<|bi (aq Tryz.func55)<|bi (aq Tryz.func57)<|Lt
def Sk:Rw R6:=bi (aq Tryz.func58)<|bi (aq Tryz.func34)<|bi (aq Tryz.func36)<|bi (aq Tryz.func60)<|bi (aq Tryz.func59)<|bi (aq Tryz.func61)<|bi (aq Tryz.func62)<|bi (aq Tryz.func14)<|bi (aq Tryz.func63)<|bi (aq Tryz.func64)<|bi (aq Tryz.func65)<|bi (aq Tryz.func67)<|bi (aq Tryz.func66)<|bi (aq Tryz.func11)<|bi (aq Tryz.func68)<|bi (aq Tryz.func79)<|bi (aq Tryz.func82)<|bi (aq Tryz.func83)<|bi (aq Tryz.func85)<|bi (aq Tryz.func84)<|Lt
def Sj:Rw R5:=bi (aq Tryz.func86)<|bi (aq Tryz.func88)<|bi (aq Tryz.func87)<|bi (aq Tryz.func89)<|bi (aq Tryz.func90)<|bi (aq Tryz.func74)<|bi (aq Tryz.func75)<|bi (aq Tryz.func76)<|bi (aq Tryz.func77)<|bi (aq Tryz.func69)<|bi (aq Tryz.func91)<|bi (aq Tryz.func92)<|bi (aq Tryz.func93)<|bi (aq Tryz.func94)<|bi (aq Tryz.func41)<|bi (aq Tryz.func96)<|bi (aq Tryz.func95)<|bi (aq Tryz.func97)<|bi (aq Tryz.func98)<|bi (aq Tryz.func99)<|Lt
def Si:Rw R4:=bi (aq Tryz.func100)<|bi (aq Tryz.func101)<|bi (aq Tryz.func102)<|bi (aq Tryz.func35)<|bi (aq Tryz.func103)<|bi (aq Tryz.func105)<|bi (aq Tryz.func106)<|bi (aq Tryz.func107)<|bi (aq Tryz.func116)<|bi (aq Tryz.func118)<|bi (aq Tryz.func119)<|bi (aq Tryz.func120)<|bi (aq Tryz.func121)<|bi (aq Tryz.func122)<|bi (aq Tryz.func114)<|bi (aq Tryz.func113)<|bi (aq Tryz.func115)<|bi (aq Tryz.func104)<|bi (aq Tryz.func123)<|bi (aq Tryz.func72)<|Lt
def Sh:Rw R3:=bi (aq Tryz.func73)<|bi (aq Tryz.func78)<|bi (aq Tryz.func124)<|bi (aq Tryz.func125)<|bi (aq Tryz.func126)<|bi (aq Tryz.func127)<|bi (aq Tryz.func128)<|bi (aq Tryz.func129)<|bi (qE rfl rfl So130.extOK)<|bi (aq Tryz.func131)<|bi (aq Tryz.func133)<|bi (aq Tryz.func146)<|bi (aq Tryz.func145)<|bi (aq Tryz.func147)<|bi (aq Tryz.func148)<|bi (aq Tryz.func149)<|bi (aq Tryz.func150)<|bi (aq Tryz.func151)<|bi (aq Tryz.func152)<|bi (aq Tryz.func153)<|Lt
def Sg:Rw RZ:=bi (aq Tryz.func154)<|bi (aq Tryz.func156)<|bi (aq Tryz.func155)<|bi (aq Tryz.func157)<|bi (aq Tryz.func158)<|bi (qE rfl rfl (Ei Tryz.func159 (by kernel_rfl) (by kernel_rfl) (by kernel_rfl) (by kernel_rfl)))<|bi (qE rfl rfl (Eh Tryz.func160 (by kernel_rfl) (by kernel_rfl) (by kernel_rfl) (by kernel_rfl)))<|bi (aq Tryz.func144)<|bi (aq Tryz.func134)<|bi (aq Tryz.func161)<|bi (aq Tryz.func112)<|bi (aq Tryz.func162)<|bi (aq Tryz.func163)<|bi (aq Tryz.func166)<|bi (aq Tryz.func167)<|bi (aq Tryz.func168)<|bi (aq Tryz.func170)<|bi (aq Tryz.func169)<|bi (aq Tryz.func132)<|bi (aq Tryz.func176)<|Lt
def Sf:Rw RY:=bi (aq Tryz.func177)<|bi (aq Tryz.func179)<|bi (aq Tryz.func178)<|bi (aq Tryz.func180)<|bi (aq Tryz.func181)<|bi (aq Tryz.func182)<|bi (aq Tryz.func117)<|bi (aq Tryz.func183)<|bi (aq Tryz.func184)<|bi (aq Tryz.func185)<|bi (aq Tryz.func143)<|bi (aq Tryz.func165)<|bi (aq Tryz.func164)<|bi (aq Tryz.func186)<|bi (aq Tryz.func187)<|bi (aq Tryz.func189)<|bi (aq Tryz.func188)<|bi (aq Tryz.func190)<|bi (aq Tryz.func192)<|bi (aq Tryz.func191)<|Lt
def Se:Rw RX:=bi (aq Tryz.func193)<|bi (aq Tryz.func196)<|bi (aq Tryz.func198)<|bi (aq Tryz.func197)<|bi (aq Tryz.func194)<|bi (aq Tryz.func195)<|bi (aq Tryz.func173)<|bi (aq Tryz.func174)<|bi (aq Tryz.func208)<|bi (aq Tryz.func209)<|bi (aq Tryz.func210)<|bi (aq Tryz.func175)<|bi (aq Tryz.func211)<|bi (aq Tryz.func212)<|bi (aq Tryz.func214)<|bi (aq Tryz.func213)<|bi (aq Tryz.func215)<|bi (aq Tryz.func216)<|bi (qE rfl rfl Ok217.extOK_insert)<|bi (aq Tryz.func218)<|Lt
def Vd:Rw Vc:=bi (aq Tryz.func219)<|bi (aq Tryz.func221)<|bi (aq Tryz.func227)<|bi (aq Tryz.func230)<|bi (aq Tryz.func220)<|bi (aq Tryz.func231)<|bi (aq Tryz.func234)<|Lt
def PQ:List (Nat × aw):=R8++R7++R6++R5++R4++R3++RZ++RY++RX++Vc
def OV {l m:List (Nat × aw)} (h:Rw l) (h2:Rw m):Rw (l++m):=fun p hp=>(Vf.1 hp).elim (h p) (h2 p)
def NM:Rw PQ:=(OV (OV (OV (OV (OV (OV (OV (OV (OV Sn Sl) Sk) Sj) Si) Sh) Sg) Sf) Se) Vd)
def tabOK:Id Tryz.prog (look PQ):=fun _ _ h=>NM _ (DN h)
theorem code:Code (look PQ):=by constructor <;> kernel_rfl
end Go.Proofs.YthjdfjlhjnihfaaGreat.Ev
