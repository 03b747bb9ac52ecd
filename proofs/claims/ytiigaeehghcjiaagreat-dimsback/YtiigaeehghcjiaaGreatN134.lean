/- A part. -/
import Derived.Test.YtiigaeehghcjiaaGreatA0
import Derived.Test.YtiigaeehghcjiaaGreatPoly2
import Derived.Test.YtiigaeehghcjiaaGreatN48
import Derived.WideShapes
import Derived.Test.YtiigaeehghcjiaaGreatEvDraw5
import Derived.KernelRfl
import Derived.WalkKit
import Derived.ProofKit
import Derived.Test.YtiigaeehghcjiaaGreatProg
import Derived.Lib.Walk
import Derived.Lib.SliceRun
import Derived.Lib.JoinLaws
import Derived.Lib.AppendZeros
import Derived.Lib.AppendZerosOnto
import Derived.Lib.Overlaps
import Derived.Laws.Externs
import Derived.Laws.IdiomCopy
import Derived.Laws.NewBlocks
import Derived.Shelf.RegionOpenPlain
import Derived.Shelf.SlSortCmp.NoneTotal
import Derived.Ground.SlsfProg
import Derived.Test.YtiigaeehghcjiaaGreatKit
set_option linter.all false
namespace Go.Proofs.YtiigaeehghcjiaaGreat.Ev
open Go Nn
section
variable {tab:Nat->Option au} {H:Heap}
def EB (C:Code tab) (i:Wf H) {v:AV} {n e f x:Nat} {K:List (List Int × Bool)} {G:List (Nat × List Int)} (hp:PolyV H v (n+1) K G) (a:PolyOK (n+1) e f K G) (hn:n<=2) (he:e<=64) (b:G.length<=6) (hx:x<n+1) :
  Ans tab (.fn lz [v,.int .i64 (x:Int)]) H fun r H'=>(∃ d g,r=.tup [.agg [.int .i64 (n:Int),d,g],.int .i64 0]/\SlV conE t_api_Con H' d (Lin.consP n (G.map (Lin.delG x)))/\SlV genE al H' g (Lin.gensP n (Lin.consP n (G.map (Lin.delG x)))))/\Kp H H':=by
 refine (CK C (m2:=16*(e+4)) (m3:=16*(16*(e+4)+4)) i hp a zO (fun y _ hy c hc=>(za a hn hy he b).1.bK c hc) zO (fun y _ hy c hc=>(za a hn hy he b).1.bG c hc) zO (fun y _ hy=>(za a hn hy he b).1.lenK)).mono ?_;rintro r H' ⟨hd,h⟩;refine ⟨?_,h⟩;rcases hd with ⟨-,-,hs⟩ | ⟨j,-⟩
 ·rw [WV] at hs;exact Jf hs (za a hn hx he b).1
 ·omega
def vQ (C:Code tab) (h:Wf H) {v:AV} {n e f:Nat} {K:List (List Int × Bool)} {G:List (Nat × List Int)} (hp:PolyV H v n K G) (a:PolyOK n e f K G) (hn:n<=3) (d:f<=64) (j:K.length<=50) (i:G.length<=100) :
  Ans tab (.fn nM [v]) H fun r H'=>(∃ b c,r=.tup [.agg [.int .i64 ((n+1:Nat):Int),b,c],.int .i64 0]/\SlV conE t_api_Con H' b (Lin.consP (n+1) (Lin.gensP (n+1) (K.map Lin.padC)))/\SlV genE al H' c (Lin.gensP (n+1) (K.map Lin.padC)))/\Kp H H':=by
 have ok:=Jo a hn d j i;refine (LU C (m2:=64*(f+4)) h hp a hn zO (fun x hx=>ok.bG x hx) zO).mono ?_;rintro r H' ⟨hm,g⟩;exact ⟨vA hm ok,g⟩
set_option maxHeartbeats 4000000 in
def F2 (C:Code tab) (hw:Wf H):Ans tab (.fn fQ []) H fun v H'=>v=.bool true/\Kp H H':=by
 refine TL C.q1 fun T hl=>?_;refine zW hl ?_;refine AnsH.use (wH C (l:=[1]) zF (nP (m:=[1]) (am _ _ _)) (by simp) (by simp)) ?_;rintro v1 c ⟨r1,ah⟩;obtain ⟨k1,_,w1⟩:=zT H zK ah;have z1:lenV v1=some (.int .i64 1):=r1.lenV;refine zW (aB hl z1) ?_;refine AnsH.use (AF C zF) ?_;rintro _ H2 ⟨⟨vc,vg,rfl,hc,hg⟩,D⟩;obtain ⟨Q,_,_⟩:=zT c zK D;have k2:=k1.trans Q;have w2:=k2.wf;have oc:=hc.one;have og:=hg.one;refine zW hl ?_;refine AnsH.use (EB C (x:=0) (n:=1) zF ⟨vc,vg,rfl,hc,hg⟩ Jn zO zO zU zO) ?_;rintro _ d ⟨⟨va,u,rfl,ha,hb⟩,ak⟩;have Y:Lin.consP 1 ([(3,[1,1,1]),(3,[1,3,3])].map (Lin.delG 0))=[([-1,1],false),([3,-1],false)]:=Lin.k13;rw [Y] at ha hb;rw [Lin.g13] at hb;obtain ⟨k23,_,_⟩:=zT H2 zK ak;have k13:=Q.trans k23;have k3:=k1.trans k13;have w3:=k3.wf;have oa:=ha.one;have ob:=hb.one;have n2:c.next+8<=H2.next:=D.le
 have n3:=k23.le;have f3:d.get (c.next+5)=none:=k23.free (show c.next+5<H2.next by omega) (D.free (show c.next+5<c.next+8 by omega) (w1.fresh (b:=c.next+5) zO));obtain ⟨G3,g⟩:∃ G,G=((d.up 8).put (c.next+5) (.cells [.int .i64 0,.nilSl,.nilSl] aj true)).put (c.next+5) (.cells [.int .i64 ((1:Nat):Int),va,u] aj true):=⟨_,rfl⟩
 have V:Sub d G3:=by rw [g]; exact ((Sub.bump d 8).put f3 _).put f3 _
 have S:Kp H G3:=by rw [g]; exact zK
 have az:=S.wf;have aA:G3.next=d.next+8:=by rw [g]; rfl
 have I:G3.get (c.next+5)=some (.cells [.int .i64 ((1:Nat):Int),va,u] aj true):=by rw [g,am]
 have fB:G3.get (d.next+5)=none:=by rw [g,aw zO,aw zO]; exact w3.fresh zO
 refine zW (aB hl @oQ) ?_;rw [<- g];obtain ⟨A,hA⟩:∃ A,A=c.next+5:=⟨_,rfl⟩
 rw [<- hA] at I;rw [<- hA];clear g;have O:=ha.mono V;have P:=hb.mono V;refine AnsH.use (vQ C (n:=1) (f:=4) az ⟨va,u,rfl,O,P⟩ ok13 zO zO zU zU) ?_;rintro _ y ⟨⟨vd,w,rfl,hd,he⟩,h⟩;have Z:Lin.gensP (1+1) ([([-1,1],false),([3,-1],false)].map Lin.padC)=[(1,[0,0,1]),(3,[1,1,0]),(3,[1,3,0])]:=Lin.gb2;rw [Z] at hd he;have aa:Lin.consP (1+1) [(1,[0,0,1]),(3,[1,1,0]),(3,[1,3,0])]=[([-1,1,0],false),([3,-1,0],false)]:=Lin.kb2;rw [aa] at hd;have k4:=S.trans h;have w4:=k4.wf;have od:=hd.one;have oe:=he.one;have n4:=h.le;have K:y.get (d.next+5)=none:=h.free zO fB;obtain ⟨G4,p⟩:∃ G,G=(y.put (d.next+5) (.cells [.int .i64 0,.nilSl,.nilSl] aj true)).put (d.next+5) (.cells [.int .i64 ((1+1:Nat):Int),vd,w] aj true):=⟨_,rfl⟩
 have r:Sub y G4:=by rw [p]; exact (aH K).put K _
 have U:Kp H G4:=by rw [p]; exact zK
 have aE:=U.wf;have a:G4.get (d.next+5)=some (.cells [.int .i64 ((1+1:Nat):Int),vd,w] aj true):=by rw [p,am]
 have e:=r.get _ _ (h.get I);refine zW (aC hl @oQ @aD) ?_;rw [<- p];obtain ⟨B,N⟩:∃ B,B=d.next+5:=⟨_,rfl⟩
 rw [<- N] at a;rw [<- N];clear p;have ab:=(O.mono h.sub).mono r;have ae:=(P.mono h.sub).mono r;have af:=hd.mono r;have ag:=he.mono r;have a:G4.get B=some (.cells [.int .i64 ((2:Nat):Int),vd,w] aj true):=a;refine EX (fun T'=>T'.length=35/\ad T' 1=.ptr A 0/\ad T' 2=.int .i64 0/\ad T' 3=.ptr B 0/\ad T' 4=.int .i64 0) (zV hl) ?_;clear hl;rintro T' ⟨hl,t1,j,t3,t4⟩;refine aJ ?_;refine zD (cn hl t1 j t3 t4) ?_;refine AnsH.use (AF C zF) ?_;rintro _ W ⟨⟨p1,p2,rfl,h1,h2⟩,al⟩;obtain ⟨E,_,w5⟩:=zT G4 zK al;have o1:=h1.one;have o2:=h2.one;have z2:lenV p2=some (.int .i64 2):=h2.lenV;have k:=E.get e;have o:=E.get a;refine zX (mo hl t1 j t3 t4 z2 e k a o @aS) ?_;refine AnsH.use (tu C (n:=1) zF (.inl rfl) Lin.g13 Lin.k13 zU zU) ?_;rintro _ H6 ⟨⟨q1,q2,rfl,h3,L⟩,ao⟩;obtain ⟨ax,_,_⟩:=zT W zK ao;have i:=E.trans ax;have w6:=i.wf;have o3:=h3.one;have o4:=L.one;have s:=i.get e;have t:=i.get a;refine zX (E0 hl t1 j t3 t4 z2 e k s a o t @aS) ?_;refine AnsH.eq (F0 C (n:=1) (n':=1) w6 ⟨va,u,rfl,ab.mono i.sub,ae.mono i.sub⟩ ⟨q1,q2,rfl,h3,L⟩ zU ok13.smK zU ok13.smG) fun X aq=>?_;rw [decide_eq_true ⟨rfl,rfl,rfl⟩];have F:=i.trans aq;have w7:=F.wf;have z:=F.get a;refine zX (Dd hl t1 j t3 t4 z2 e k s a o t z @aS) ?_;refine AnsH.use (tu C (n:=2) zF (.inr rfl) Lin.gb2 Lin.kb2 zU zU) ?_;rintro _ H8 ⟨⟨q3,q4,rfl,h5,M⟩,ar⟩;obtain ⟨ay,_,_⟩:=zT X zK ar;have q:=F.trans ay;have w8:=q.wf;have o5:=h5.one;have o6:=M.one;have J:=q.get a;refine zX (ME hl t1 j t3 t4 z2 e k s a o t z J @aS) ?_;refine AnsH.eq (F0 C (n:=2) (n':=2) w8 ⟨vd,w,rfl,af.mono q.sub,ag.mono q.sub⟩ ⟨q3,q4,rfl,h5,M⟩ zU ok_b2.smK zU ok_b2.smG) fun H9 av=>?_;rw [decide_eq_true ⟨rfl,rfl,rfl⟩];have R:=q.trans av;have w9:=R.wf;refine zX (ME hl t1 j t3 t4 z2 e k s a o t z J @aS) ?_;exact U.trans R
end
section
variable {tab:Nat->Option au} {H:Heap} {s:AV}
set_option maxHeartbeats 2000000 in
def Ez (C:Code tab) (A:Wf H) {r:List Int} {o:List Nat} {bo n:Nat} {so:AV} (hs:RowV H s r) (hr:r.length=n+1) (hA:H.get bo=some (.cells [so] dy true)) (x:pC (gK .i64) aL H so (o.map fun i:Nat=>(i:Int))) (hi:∀ i∈o,i<n) (hn:n<=60) (Z:o.length<=60) :
  Ans tab (.fn g8 [s,.ptr bo 0]) H fun v H'=>RowV H' v (Lin.mvO o r)/\Kp H H':=by
 have af:=A _ _ hA;refine bE C.q25 zU fun T hl e g=>?_;obtain ⟨cs,⟨p,rfl,hp⟩,-,-,l⟩:=hs.at (Vb (show 0<r.length by omega));have M:cG 2 s (.int .i64 0)=some (az s 0):=hs.idx .i64 0 zO;have l:bc H (some 2) (az s 0)=some (.agg [.bool (decide (r[0]<0)),p]):=l;have op:=hp.one;have ld:=Ldd.of A l;have J:=AR (p:=.bool false) (q:=.nilSl) (aF (decide (r[0]<0))) op;have R:lenV so=some (.int .i64 (o.length:Int)):=by have:=x.lenV; rwa [Vf] at this
 refine zW (lh hl e g M l ld.put J hA R) ?_;obtain ⟨X,k⟩:∃ X,X=(H.up 9).put (H.next+4) (.cells [.bool (decide (r[0]<0)),p] aa true):=⟨_,rfl⟩
 rw [<- k];have D:Kp H X:=by rw [k]; exact ((Kp.refl A).up 9).put zO (show _<H.next+9 by omega)
 have F:X.get (H.next+4)=some (.cells [.bool (decide (r[0]<0)),p] aa true):=by rw [k,am]
 clear k;have e0:Lin.hd1 r=r[0]:=by cases r with | nil=>simp at hr | cons a r=>rfl
 have q0:Bq intE aa H X (.own (H.next+4) 0 1 1 2 true) [r[0]]:=.inr ⟨H.next+4,true,_,rfl,F,⟨rfl,fun i a hi=>by
  match i with
  | 0=>simp at hi; subst hi; exact ⟨p,rfl,hp.mono D.sub⟩
  | i+1=>simp at hi⟩,zO⟩
 refine aq H [4] (fun j vs H'=>∃ v,vs=[v]/\Bq intE aa H H' v (r[0] :: (o.take j).map fun i=>r.getD (i+1) 0)) (a:=0) (N:=o.length) rfl (by refine zW (aC hl e g) ?_; rfl) (zV (aC hl e g)) (Vn _) zO (by simp only [U7,hl]; rfl) rfl (fun j _ H' m ⟨v,h1,h2⟩=>⟨v,h1,h2.mono (Sub.bump H' m)⟩) D ⟨_,by refine zW (aC hl e g) ?_; rfl,by rw [XN]; exact q0⟩ ?_ ?_
 ·rintro j T1 c _ hj f L z d ⟨v,h,hq⟩;have w1:=d.wf;have ae:=d.le;have ab:=d.le;simp only [Vg,Vl,Vj,and_true] at h;have t0:ad T1 0=s:=(z.at_ 0 zU).trans (zV (aB hl e));have V:ad T1 11=so:=(z.at_ 11 zU).trans (zV (aC hl e g));have Y:o[j]<n:=hi _ (Vd hj);obtain ⟨w,y,Q⟩:=SlV.at1 (x.mono d.sub) (i:=j) (a:=(o[j]:Int)) (by simp [hj]);have y:w=.int .i64 (o[j]:Int):=y;subst y;have O:=SlV.idx1 x .i64 j (by rw [Vf]; exact hj);have hlt:o[j]+1<r.length:=zO;obtain ⟨ds,⟨p2,rfl,B⟩,-,-,u⟩:=(hs.mono d.sub).at (Vb hlt);have u:bc c (some 2) (az s ((o[j]+1)*2))=some (.agg [.bool (decide (r[o[j]+1]<0)),p2]):=u;have P:cG 2 s (.int .i64 ((o[j]+1:Nat):Int))=some (az s ((o[j]+1)*2)):=hs.idx .i64 (o[j]+1) hlt;have I:IntKind.i64.wrap ((o[j]:Int)+1)=((o[j]+1:Nat):Int):=by rw [wrap_i64] <;> omega
  have U:=B.one;have K:=AR (p:=.bool false) (q:=.nilSl) (aF (decide (r[o[j]+1]<0))) U;have W:(o.take j).length<=60:=by rw [VD]; omega
  simp only [U7,hl] at f;refine zW (mo f h t0 V L O Q P u I K) ?_;obtain ⟨N,E,t,q4,S,n4,-⟩:=Bq.push (ty2:=aa) (bytes:=32) (id:=c.next+10) (id2:=c.next+9) (cs:=[.bool (decide (r[o[j]+1]<0)),p2]) (a:=r[o[j]+1]) (hq.mono (Sub.bump c 12)) zU (d.up 12) ⟨p2,rfl,B.mono (Sub.bump c 12)⟩ zO (show _<c.next+12 by omega) (w1.fresh (b:=c.next+10) zO) zO (show _<c.next+12 by omega) (w1.fresh (b:=c.next+9) zO) zO (by rw [VQ,Vf]; omega) (by rw [VQ,Vf]; omega);have t:dq ((c.up 12).put (c.next+9) (.cells [.bool (decide (r[o[j]+1]<0)),p2] aa true)) (c.next+10) 2 32 aa v (.own (c.next+9) 0 1 1 2 true)=some (.own (c.next+10) 0 N N 2 false,E):=t;refine zW (aB f t) ?_;refine ⟨S,_,rfl,?_⟩;rw [Vi hj,VP];have G:r.getD (o[j]+1) 0=r[o[j]+1]:=by rw [U8,Vb hlt]; rfl
  simp only [Vg,Vl,G];exact q4
 ·rintro T1 c f z d ⟨v,h,hq⟩;simp only [Vg,Vl,Vj,and_true] at h;simp only [U7,hl] at f;rw [VH] at hq;refine zW (aB f h) ?_;unfold Lin.mvO;rw [e0];exact ⟨hq.sl.mono (Sub.bump c _),d.up _⟩
end
def dL (o:List Nat):List Int:=o.map fun i:Nat=>(i:Int)
def NT {a b:List Nat} (h:dL a=dL b):a=b:=by
 have key:∀ c:List Nat,(dL c).map Int.toNat=c:=fun c=>by
  unfold dL;rw [W6];exact (Wn (g:=id) fun z d=>rfl).trans (X0 _)
 rw [<- key a,h,key b]
def Qo {n:Nat} {l m:List Int} (hp:m.Perm l) (hs:Mx m) (hl:l.length=n):(∀ i (h:i<m.length),m[i]=(i:Int)) ↔ ∃ o,l=dL o/\Lin.Ord n o:=by
 have d:m.length=n:=by rw [hp.length_eq,hl]
 constructor
 ·intro h;have e:m=dL (List.range n):=by
   apply WJ
   ·rw [d]; simp [dL]
   ·intro i h1 h2;rw [h i h1]; simp [dL]
  have e2:l=dL (l.map Int.toNat):=by
   unfold dL;rw [W6];refine ((Wn (g:=id) fun z c=>?_).trans (X0 _)).symm
   have:=hp.mem_iff.2 c
   rw [e] at this;obtain ⟨k,-,rfl⟩:=Vc.1 this;rfl
  refine ⟨l.map Int.toNat,e2,?_⟩
  have:=(hp.symm.map Int.toNat)
  rw [e] at this;unfold dL at this;rw [W6] at this;have e3:(List.range n).map (Int.toNat ∘ fun i:Nat=>(i:Int))=List.range n:=(Wn (g:=id) fun z c=>rfl).trans (X0 _);rw [e3] at this;exact this
 ·rintro ⟨o,rfl,f⟩ i h;have j:m.Perm (dL (List.range n)):=hp.trans (f.map _);have p:List.Pairwise (fun x y:Int=>x<=y) (dL (List.range n)):=by
   unfold dL;rw [Wc];exact List.pairwise_le_range.imp fun h=>by omega
  have e:m=dL (List.range n):=YC (fun a b _ _ h1 h2=>Int.le_antisymm h1 h2) hs p j;subst e;simp [dL]
def Ru (H:Heap) (r:AV) (n:Nat) (l:List Int) (K:List (List Int × Bool)):Prop :=
 (∃ o,l=dL o/\Lin.Ord n o/\sj H r n (Lin.movG n o K))\/(¬ (∃ o,l=dL o/\Lin.Ord n o)/\r=.tup [wT,.int .i64 2])
section
variable {tab:Nat->Option au} {H:Heap} {s:AV}
def Mp (C:Code tab) (j:Wf H) {L:List (List Int × Bool)} {o:List Nat} {bo n:Nat} {so:AV} (hs:SlV conE t_api_Con H s L) (d:L.length<=2000) (h:∀ c∈L,c.1.length=n+1) (hA:H.get bo=some (.cells [so] dy true)) (f:pC (gK .i64) aL H so (dL o)) (hi:∀ i∈o,i<n) (hn:n<=60) (g:o.length<=60) :
  Ans tab (.fn dC [s,.fn (.func gf) [.fn (.func g8) [] [.ptr bo 0]] []]) H fun v H'=>SlV conE t_api_Con H' v (L.map (Lin.mvC o))/\Kp H H' :=
 Gk C j (Lin.mvC o) hs d fun c hc H' cs b hr=>by
  obtain ⟨w,rfl,k⟩:=hr;refine AnsH.use (Ff C b.wf (l':=Lin.mvO o c.1) k fun H2 a h2=>?_) ?_
  ·exact Ez C a.wf h2 (h c hc) ((b.trans a).get hA) (f.mono (b.trans a).sub) hi hn g
  ·rintro r H2 ⟨⟨w',e,h'⟩,a⟩;exact ⟨⟨_,e,w',rfl,h'⟩,a⟩
set_option maxHeartbeats 4000000 in
def CJ (C:Code tab) (hw:Wf H) {v so:AV} {n e f m2:Nat} {K:List (List Int × Bool)} {G:List (Nat × List Int)} {l:List Int} (hp:PolyV H v n K G) (D:PolyOK n e f K G) (aM:K.length<=60) (I:pC (gK .i64) aL H so l) (hG:∀ o,Lin.Ord n o->∀ x∈Lin.movG n o K,Lin.Bd (2^m2) x.2) (ay:m2<=300000) :
  Ans tab (.fn nL [v,so]) H fun r H'=>Ru H' r n l K/\Kp H H':=by
 obtain ⟨vc,vg,rfl,hc,hg⟩:=hp;have oc:=hc.one;have og:=hg.one;have os:=I.one;have ar:=D.dim;refine bE C.q6 zU fun T hl d g=>?_;refine zW (cn hl d g (py oc og) (BA os)) ?_;refine AnsH.eq (uj C (n:=n) (K:=K) (G:=G) zF ⟨vc,vg,rfl,hc.mono (zG H),hg.mono (zG H)⟩ D) fun H2 O=>?_;obtain ⟨k2,_,w2⟩:=zT H zK O;have d0:H2.get H.next=some (.cells [.int .i64 (n:Int),vc,vg] aj true):=O.get (cY)
 have R:H2.get (H.next+1)=some (.cells [so] dy true):=O.get (cY);have d1:H2.get (H.next+2)=some (.cells [.int .i64 0,.nilSl,.nilSl] aj true):=O.get (cY);have aS:=w2 _ _ d1;by_cases q1:l.length=n
 case neg =>
  have Y:¬ (l.length:Int)=(n:Int):=zO;refine zW (lh hl d g d0 d1 R I.lenV Y @oQ) ?_;exact ⟨.inr ⟨fun ⟨o,e,h⟩=>q1 (by rw [e]; simp [dL,h.len]),rfl⟩,zK⟩
 have Y:(l.length:Int)=(n:Int):=zO;refine zW (ip hl d g d0 R I.lenV Y) ?_;refine AnsH.use (uQ C zF os) ?_;rintro _ H3 ⟨rfl,Q,n3,av⟩;obtain ⟨k23,_,_⟩:=zT H2 zK av;have k3:=k2.trans k23;have w3:=k3.wf;refine zW (aC hl d g) ?_;have Q:H3.get (H2.next+12)=some (.cells [so] dy true):=Q;refine AnsH.use (IW C w3 Q (I.mono k3.sub) zO) ?_;rintro v4 Z ⟨⟨m,hm,ak,aG⟩,aw⟩;have J:Kp H2 Z:=k23.trans aw;have aQ:=J.le;have X:=k2.trans J;have w4:=X.wf;have aN:m.length=n:=by rw [ak.length_eq,q1]
 have am:=Qo ak aG q1;have e0:=J.get d0;have ex:=J.get R;have e1:=J.get d1;refine zW (aZ hl d g hm.lenV) ?_;refine aq Z [] (fun j _ _=>∀ i (h:i<m.length),i<j->m[i]=(i:Int)) (a:=0) (N:=m.length) (by simp only [U7]; exact hl) (by refine zW (aC hl d g) ?_; rfl) (zV (aC hl d g)) (Vn _) zO rfl rfl (fun _ _ _ _ h=>h) (Kp.refl w4) (fun k _ h=>by omega) ?_ ?_
 ·intro j T1 y _ hj A ag t s S;have w1:=s.wf;have aH:=s.le;have t4:ad T1 4=.ptr (H.next+2) 0:=(t.at_ 4 zU).trans (zV (aC hl d g));have ao:ad T1 24=v4:=(t.at_ 24 zU).trans (zV (aC hl d g));obtain ⟨w,W,P⟩:=SlV.at1 (hm.mono s.sub) (Vb hj);have W:w=.int .i64 m[j]:=W;subst W;have ah:=SlV.idx1 hm .i64 j hj;have f1:=s.get e1;have aR:=w1 _ _ f1;by_cases q:m[j]=(j:Int)
  ·rw [q] at P;refine zW (cn A ao ag ah P) ?_;exact ⟨zK,fun k h hk=>by
    by_cases e:k=j
    ·subst e; exact q
    ·exact S k h zO⟩
  ·have az:¬ ∃ o,l=dL o/\Lin.Ord n o:=fun h=>q (am.2 h j hj);obtain ⟨z,hz⟩:∃ z,z=m[j]:=⟨_,rfl⟩
   rw [<- hz] at P q;have q:¬ (j:Int)=z:=fun e=>q e.symm;have kf:Kp H y:=X.trans s;refine zW (lh A t4 ao ag ah P q f1 @oQ) ?_;exact ⟨.inr ⟨az,rfl⟩,zK⟩
 ·intro T1 y A t s S;obtain ⟨o,rfl,F⟩:=am.1 fun i h=>S i h h;have w1:=s.wf;have aH:=s.le;have k1:Kp H y:=X.trans s;have aO:=k1.le;have u:ad T1 2=.ptr H.next 0:=(t.at_ 2 zU).trans (zV (aC hl d g))
  have t3:ad T1 3=.ptr (H.next+1) 0:=(t.at_ 3 zU).trans (zV (aC hl d g));have t4:ad T1 4=.ptr (H.next+2) 0:=(t.at_ 4 zU).trans (zV (aC hl d g));have d:=s.get e0;have gx:=s.get ex;have g:=s.get e1;have aA:o.length<=60:=by rw [F.len]; omega
  refine zW (aC A t3 @aD) ?_;refine EX (fun T'=>T'.length=47/\ad T' 2=.ptr H.next 0/\ad T' 4=.ptr (H.next+2) 0/\ad T' 9=.fn (.func g8) [] [.ptr (H.next+1) 0]) (zV (aC A u t4)) ?_;clear hl A u t3 t4 t;rintro T' ⟨hl,u,t4,t9⟩;refine aJ ?_;refine zD (fy hl u t4 t9 d g) ?_;refine AnsH.use (Mp C (n:=n) (o:=o) (bo:=H.next+1) (so:=so) ((w1.bump 2).bump 12) ((hc.mono k1.sub).mono ((Sub.bump y 2).trans (Sub.bump _ 12))) zO (fun c hc=>(D.rowK c hc).1) gx ((I.mono k1.sub).mono ((Sub.bump y 2).trans (Sub.bump _ 12))) (fun i hi=>F.mem.1 hi) zO aA) ?_;rintro v5 H5 ⟨aB,ax⟩;have k15:Kp y H5:=Kp.trans (((Kp.refl w1).up 2).up 12) ax;have aP:=k15.le;have k5:=k1.trans k15;have w5:=k5.wf;have L:=k15.get d;have M:=k15.get g;have aE:∀ c∈K.map (Lin.mvC o),c.1.length=n+1/\Lin.Bd (2^f) c.1:=fun c hc=>by
   obtain ⟨b,hb,rfl⟩:=Vc.1 hc;exact ⟨Lin.mvO_len F _,N6 (D.rowK b hb).2⟩
  refine zD (lp hl u t4 t9 d g L M) ?_;refine AnsH.use (kT C (n:=n) (m:=f) (m2:=m2) w5 aB ar (by rw [Vf]; omega) aE D.f3 (hG o F) ay) ?_;rintro _ H6 ⟨V,U⟩;have k6:=k5.trans U;have w6:=k6.wf;have aa:=U.get L;have B:=U.get M;have aT:=w6 _ _ B;have ae:∀ H' r,sj H' r n (Lin.movG n o K)->Ru H' r n (dL o) K:=fun H' r h=>.inl ⟨o,rfl,F,h⟩;rcases V with ⟨rfl,V⟩ | ⟨p,rfl,⟨aI,aK,rfl,ab,af⟩,h1,h2⟩
  ·refine zD (mo hl u t4 t9 d g L M aa B @oQ) ?_;exact ⟨ae _ _ (.inl ⟨rfl,V⟩),zK⟩
  ·have aU:=ab.one;have aV:=af.one;refine zD (mo hl u t4 t9 d g L M aa B @oQ) ?_;refine ⟨ae _ _ (.inr ⟨_,rfl,⟨aI,aK,rfl,?_,?_⟩,h1,h2⟩),zK⟩
   ·have m3:NoTy (t_api_Con :: conE.tys) H6 (H.next+2):=NoTy.ty B zU;exact SlV.monoT (E:=conE) zS ab
   ·have m3:NoTy (al :: genE.tys) H6 (H.next+2):=NoTy.ty B zU;exact SlV.monoT (E:=genE) zS af
def qf (C:Code tab) (p:Wf H) {v so:AV} {n e f:Nat} {K:List (List Int × Bool)} {G:List (Nat × List Int)} {o:List Nat} (hp:PolyV H v n K G) (a:PolyOK n e f K G) (hn:n<=3) (h:K.length<=60) (m:pC (gK .i64) aL H so (dL o)) (l:Lin.Ord n o) {e2 f2:Nat} (ok:PolyOK n e2 f2 (Lin.movK n o K) (Lin.movG n o K)) (s:f<=18000) :
  Ans tab (.fn nL [v,so]) H fun r H'=>(∃ d g,r=.tup [.agg [.int .i64 (n:Int),d,g],.int .i64 0]/\SlV conE t_api_Con H' d (Lin.movK n o K)/\SlV genE al H' g (Lin.movG n o K))/\Kp H H':=by
 have hb:∀ o,Lin.Ord n o->∀ x∈Lin.movG n o K,Lin.Bd (2^(16*(f+4))) x.2:=fun o k x hx=>(xu hn (fun c hc=>by
  obtain ⟨b,hb,rfl⟩:=Vc.1 hc;exact ⟨Lin.mvO_len k _,N6 (a.rowK b hb).2⟩) x hx).2
 refine (CJ C p hp a h m hb zO).mono ?_;rintro r H' ⟨hm,i⟩;refine ⟨?_,i⟩;rcases hm with ⟨q,e,-,hm⟩ | ⟨j,-⟩
 ·have e:o=q:=NT e;subst e;exact vA hm ok
 ·exact absurd ⟨o,rfl,l⟩ j
end
def C6 (n:Nat) (o:List Nat):Nat->List Nat
 | 0=>List.replicate n 0
 | i+1=>(C6 n o i).set (o.getD i 0) i
def EL (n:Nat) (o:List Nat):∀ i,(C6 n o i).length=n
 | 0=>Xc
 | i+1=>by rw [C6,U7,EL n o i]
def TY {n:Nat} {o:List Nat} (hn:n<=3) (d:Lin.Ord n o):Lin.Ord n (C6 n o n)/\Lin.twoO o (C6 n o n)=List.range n:=by
 have hl:=d.len;have hm:∀ i∈o,i<n:=fun i hi=>d.mem.1 hi;unfold Lin.Ord at d ⊢
 match n,hn,o,hl with
 | 0,_,[],_=>decide
 | 1,_,[a],_ =>
  have ha:=hm a (by simp);have key:∀ a,a<1->List.Perm [a] (List.range 1)->(C6 1 [a] 1).Perm (List.range 1)/\Lin.twoO [a] (C6 1 [a] 1)=List.range 1:=by decide
  exact key a ha d
 | 2,_,[a,b],_ =>
  have ha:=hm a (by simp);have hb:=hm b (by simp);have key:∀ a,a<2->∀ b,b<2->List.Perm [a,b] (List.range 2)->(C6 2 [a,b] 2).Perm (List.range 2)/\Lin.twoO [a,b] (C6 2 [a,b] 2)=List.range 2:=by decide
  exact key a ha b hb d
 | 3,_,[a,b,c],_ =>
  have ha:=hm a (by simp);have hb:=hm b (by simp);have hc:=hm c (by simp);have key:∀ a,a<3->∀ b,b<3->∀ c,c<3->List.Perm [a,b,c] (List.range 3)->(C6 3 [a,b,c] 3).Perm (List.range 3)/\Lin.twoO [a,b,c] (C6 3 [a,b,c] 3)=List.range 3:=by decide
  exact key a ha b hb c hc d
def NS (l:List Nat) (i k:Nat):(dL l).set i (k:Int)=dL (l.set i k):=by
 unfold dL;exact (XW (f:=fun i:Nat=>(i:Int))).symm
def mX (l:List Nat):(dL l).length=l.length:=Vf _
def Ot (l:List Int) (i:Nat) (z:Int):(aQ l).set i (.int .i64 z)=aQ (l.set i z):=(XW (f:=fun z:Int=>AV.int .i64 z)).symm
def Hf (n:Nat):(List.replicate n [AV.int .i64 0]).flatten=aQ (dL (List.replicate n 0)):=by
 induction n with
 | zero=>rfl
 | succ n a=>rw [Wb,XV,a]; rfl
section
variable {tab:Nat->Option au} {H:Heap} {s1 s2:AV}
def Lq {v:AV} {d:Int} (h:Pm H v d):∃ x u w b,v=.tup [.agg [.int .i64 x,u,w],.bool b]/\One u/\One w:=by
 rcases h with ⟨_,rfl,x,u,w,rfl,a,c⟩ | ⟨n,p,K,G,-,-,rfl,⟨e,f,rfl,hc,hg⟩,-⟩
 ·exact ⟨_,_,_,_,rfl,a,c⟩
 ·exact ⟨_,_,_,_,rfl,hc.one,hg.one⟩
def BU (C:Code tab) (i:Wf H) {v:AV} {n:Nat} {K:List (List Int × Bool)} {G:List (Nat × List Int)} (b:PolyOK n 64 64 K G) (hn:n<=3) (m:K.length<=6) (l:G.length<=6) (hp:PolyV H v (n+1) (Lin.consP (n+1) (Lin.gensP (n+1) (K.map Lin.padC))) (Lin.gensP (n+1) (K.map Lin.padC))) :
  Ans tab (.fn lz [v,.int .i64 (n:Int)]) H fun r H'=>(∃ d g,r=.tup [.agg [.int .i64 (n:Int),d,g],.int .i64 0]/\SlV conE t_api_Con H' d K/\SlV genE al H' g G)/\Kp H H':=by
 have j:=Jo b hn zO zO zO;have a:=Lin.grow_drop b.own;have k:=Lin.grow_few b.own;refine (CK C (n:=n+1) (x:=(n:Int)) (m2:=64) (m3:=64) i hp j zO (fun y hy _ c hc=>?_) zO (fun y hy _ c hc=>?_) zO (fun y hy _=>?_)).mono ?_
 ·obtain rfl:n=y:=zO;have hc:c∈Lin.consP n ((Lin.gensP (n+1) (K.map Lin.padC)).map (Lin.delG n)):=hc;rw [a.1] at hc;exact b.bK c hc
 ·obtain rfl:n=y:=zO;have hc:c∈Lin.gensP n (Lin.consP n ((Lin.gensP (n+1) (K.map Lin.padC)).map (Lin.delG n))):=hc;rw [a.2] at hc;exact b.bG c hc
 ·obtain rfl:n=y:=zO;show (Lin.consP n ((Lin.gensP (n+1) (K.map Lin.padC)).map (Lin.delG n))).length<=1022;rw [a.1]; omega
 ·rintro r H' ⟨hd,h⟩;refine ⟨?_,h⟩;rcases hd with ⟨-,-,hs⟩ | ⟨hx,-⟩
  ·rw [WV] at hs;have hs:Db H' r n ((Lin.gensP (n+1) (K.map Lin.padC)).map (Lin.delG n)):=hs
   have:=Jf (e:=64) (f:=64) hs (by rw [a.2,a.1]; exact b)
   rw [a.2,a.1] at this;exact this
  ·omega
set_option maxHeartbeats 16000000 in
def law24_DimsBack (C:Code tab) (hw:Wf H) {d:Int} {l:List wA} {ol:List Int} (q:SlV conQE t_api_Con H s1 l) (aE:pC (gK .i64) aL H s2 ol) (gl:∀ r∈l,my r.1) (_ : -9223372036854775808<=d/\d<9223372036854775808) :
  Ans tab (.fn eD [.int .i64 d,s1,s2]) H fun v H'=>v=.bool true/\Kp H H':=by
 have fE:=aE.one;refine B0 C.q0 rfl rfl zU fun T hl g=>?_;have hl:T.length=157:=hl;have bn:c_facetroomlaw24_DimsBack.results=[(6,none)]:=rfl;have g0:ad T 0=.int .i64 d:=g 0 (by simp);have g1:ad T 1=s1:=g 1 (by simp);have e:ad T 2=s2:=g 2 (by simp);clear g;refine bf ?_;refine zW (aB hl @aD) ?_;refine bf ?_;refine zW hl ?_;refine AnsH.eq (F2 C zF) fun H2 eJ=>?_;obtain ⟨k2,_,w2⟩:=zT H zK eJ;refine zW (aB hl @aD) ?_;refine bf ?_;refine zW (aC hl g0 g1) ?_;refine AnsH.use (Im C zF ((q.mono k2.sub).mono (zG H2)) gl) ?_;rintro v3 H3 ⟨cg,ce⟩;obtain ⟨y,u,z,b,ck,ou,oz⟩:=Lq cg;obtain ⟨k3,_,w3⟩:=zT H2 zK ce;have e3:Emp H3 H2.next (H2.next+9):=(Emp.start w2 (k:=9)).keep ce
 have n3:=e3.1;have fA:=e3.2 (H2.next+6) zO zO;obtain ⟨G3,aS⟩:∃ G3,G3=(H3.put (H2.next+6) (.cells [.int .i64 0,.nilSl,.nilSl] aj true)).put (H2.next+6) (.cells [.int .i64 y,u,z] aj true):=⟨_,rfl⟩
 have dU:Kp H2 G3:=by rw [aS]; exact zK
 have eY:Sub H3 G3:=by rw [aS]; exact (aH fA).put fA _
 have e0:=dU.wf;have cr:G3.get (H2.next+6)=some (.cells [.int .i64 y,u,z] aj true):=by rw [aS,am]
 refine zW (aZ hl ck @oQ @aD) ?_;rw [<- aS];clear aS;obtain ⟨P,hP⟩:∃ P,P=H2.next+6:=⟨_,rfl⟩
 rw [<- hP] at cr;rw [<- hP];have dT:Kp H G3:=k2.trans dU;have fo:=dT.le;have eL:Pm G3 v3 d:=by
  rcases cg with h | ⟨n,p,K,G,h1,h2,h3,h4,h5⟩
  ·exact .inl h
  ·exact .inr ⟨n,p,K,G,h1,h2,h3,h4.mono eY,h5⟩
 clear cg ce e3 fA n3;refine ka (fun T'=>T'.length=157/\ad T' 2=s2/\ad T' 7=.bool true/\ad T' 8=.ptr P 0/\ad T' 9=.bool b) (zV (aB hl e)) ?_;clear hl g0 g1 e;rintro T ⟨hl,e,t7,j,t9⟩;refine bf ?_;rcases eL with ⟨_,h,-⟩ | ⟨n,p,K,G,rfl,aw,h,⟨vc,vg,eN,bI,b1⟩,Z,lK,lG⟩
 ·rw [ck] at h;cases h;refine zW (ip hl e t7 j t9 @qU bn) ?_;exact zK
 rw [ck] at h;cases h;cases eN;have fu:=bI.one;have fv:=b1.one;by_cases q20:(20:Int)<(ol.length:Int)
 ·refine zW (lh hl e t7 j t9 aE.lenV q20 @qU bn) ?_;exact zK
 refine zW (lp hl e t7 j t9 aE.lenV q20 @aD) ?_;obtain ⟨L,cb⟩:∃ X,X=G3.up 11:=⟨_,rfl⟩
 rw [<- cb];have bo:Kp G3 L:=by rw [cb]; exact (Kp.refl e0).up 11
 clear cb;have K4:Kp H L:=dT.trans bo;have e7:=K4.wf;have ct:=bo.get cr;have bK:=bI.mono bo.sub;have b2:=b1.mono bo.sub;clear cr bI b1;refine ka (fun T'=>T'.length=157/\ad T' 2=s2/\ad T' 8=.ptr P 0) (zV (aC hl e j)) ?_;clear hl e j;rintro T ⟨hl,e,j⟩;refine bf ?_;refine zW (aZ hl e j ct) ?_;refine AnsH.use (vQ C (n:=n) (f:=64) zF ⟨u,z,rfl,bK.mono (zG L),b2.mono (zG L)⟩ Z aw zO zO zO) ?_;rintro _ H5 ⟨⟨cJ,cL,rfl,bE,bW⟩,bh⟩;obtain ⟨k5,_,w5⟩:=zT L zK bh;have n5:L.next+8<=H5.next:=bh.le
 have fq:=bE.one;have fr:=bW.one;have f5:H5.get (L.next+5)=none:=bh.free (show L.next+5<L.next+8 by omega) (e7.fresh (b:=L.next+5) zO);obtain ⟨D,aX⟩:∃ Y,Y=(H5.put (L.next+5) (.cells [.int .i64 0,.nilSl,.nilSl] aj true)).put (L.next+5) (.cells [.int .i64 ((n+1:Nat):Int),cJ,cL] aj true):=⟨_,rfl⟩
 have s5:Sub H5 D:=by rw [aX]; exact (aH f5).put f5 _
 have bp:Kp L D:=by rw [aX]; exact zK
 have bt:D.get (L.next+5)=some (.cells [.int .i64 ((n+1:Nat):Int),cJ,cL] aj true):=by rw [aX,am]
 refine zW (aC hl @oQ @aD) ?_;rw [<- aX];clear aX;obtain ⟨A,hA⟩:∃ Y,Y=L.next+5:=⟨_,rfl⟩
 rw [<- hA] at bt;rw [<- hA];have K5:Kp H D:=K4.trans bp;have e8:=K5.wf;have bD:=bE.mono s5;have bV:=bW.mono s5;have cu:=bp.get ct;have da:=bK.mono bp.sub;have dy:=b2.mono bp.sub;clear ct bK b2 bh f5 n5 bE bW hA;refine ka (fun T'=>T'.length=157/\ad T' 2=s2/\ad T' 8=.ptr P 0/\ad T' 10=.ptr A 0/\ad T' 11=.int .i64 0) (zV (aC hl e j)) ?_;clear hl e j;rintro T ⟨hl,e,j,az,aK⟩;refine bf ?_;refine zW (ip hl e j az aK cu bt) ?_;refine AnsH.use (BU C (n:=n) (K:=K) (G:=G) zF Z aw lK lG ⟨cJ,cL,rfl,bD.mono (zG D),bV.mono (zG D)⟩) ?_;rintro _ H6 ⟨⟨cM,cN,rfl,bG,bZ⟩,bj⟩;obtain ⟨k6,_,w6⟩:=zT D zK bj;have n6:D.next+10<=H6.next:=bj.le
 have fs:=bG.one;have ft:=bZ.one;have f6:H6.get (D.next+7)=none:=bj.free (show D.next+7<D.next+10 by omega) (e8.fresh (b:=D.next+7) zO);obtain ⟨X6,aY⟩:∃ Y,Y=(H6.put (D.next+7) (.cells [.int .i64 0,.nilSl,.nilSl] aj true)).put (D.next+7) (.cells [.int .i64 (n:Int),cM,cN] aj true):=⟨_,rfl⟩
 have s6:Sub H6 X6:=by rw [aY]; exact (aH f6).put f6 _
 have aG:Kp D X6:=by rw [aY]; exact zK
 have bu:X6.get (D.next+7)=some (.cells [.int .i64 (n:Int),cM,cN] aj true):=by rw [aY,am]
 refine zW (aC hl @oQ @aD) ?_;rw [<- aY];clear aY;obtain ⟨B,hB⟩:∃ Y,Y=D.next+7:=⟨_,rfl⟩
 rw [<- hB] at bu;rw [<- hB];have K6:Kp H X6:=K5.trans aG;have fP:=K6.wf;have bF:=bG.mono s6;have bY:=bZ.mono s6;have cv:=aG.get cu;have bM:=da.mono aG.sub;have b3:=dy.mono aG.sub;have cm:=aG.get bt;have c4:=bD.mono aG.sub;have ds:=bV.mono aG.sub;clear cu da dy bt bD bV bj f6 n6 bG bZ hB;refine ka (fun T'=>T'.length=157/\ad T' 2=s2/\ad T' 8=.ptr P 0/\ad T' 10=.ptr A 0/\ad T' 11=.int .i64 0/\ad T' 12=.ptr B 0/\ad T' 13=.int .i64 0) (zV (cn hl e j az aK)) ?_;clear hl e j az aK;rintro T ⟨hl,e,j,az,aK,cE,cF⟩;have ew:IntKind.i64.wrap ((n:Int)+1)=((n+1:Nat):Int):=by rw [wrap_i64] <;> omega
 refine bf ?_;refine zW (lh hl j az aK cE cF cv cm bu) ?_;refine AnsH.eq (pI C (n:=n) (n':=n) zF ⟨cM,cN,rfl,bF.mono (zG X6),bY.mono (zG X6)⟩ ⟨u,z,rfl,bM.mono (zG X6),b3.mono (zG X6)⟩ zO Z.smK zO Z.smG) fun O dQ=>?_;rw [decide_eq_true ⟨rfl,rfl,rfl⟩];have aq:Kp X6 O:=Kp.trans zK dQ;have K7:=K6.trans aq;have e9:=K7.wf;have bv:=aq.get cv;have bN:=bM.mono aq.sub;have b4:=b3.mono aq.sub;have dW:=aq.get cm;have en:=c4.mono aq.sub;have ev:=ds.mono aq.sub;have eU:=aq.get bu;have eo:=bF.mono aq.sub;have fU:=bY.mono aq.sub;refine zW (ip hl j az bv dW ew @aD) ?_;clear cv bM b3 cm c4 ds bu bF bY dQ;clear dW en ev eU eo fU;refine ka (fun T'=>T'.length=157/\ad T' 2=s2/\ad T' 8=.ptr P 0) (zV (ip hl e j az aK cE cF)) ?_;clear hl e j az aK cE cF;rintro T ⟨hl,e,j⟩;have eC:∀ o,Lin.Ord n o->∀ x∈Lin.movG n o K,Lin.Bd (2^(16*(64+4))) x.2:=fun o ho x hx=>(DT Z aw ho zO zO zO).bG x hx;refine bf ?_;refine zW (aZ hl e j bv) ?_;refine AnsH.use (CJ C (n:=n) (m2:=16*(64+4)) zF ⟨u,z,rfl,bN.mono (zG O),b4.mono (zG O)⟩ Z zO ((aE.mono K7.sub).mono (zG O)) eC zO) ?_;rintro _ H8 ⟨ch,bl⟩;obtain ⟨k8,_,w8⟩:=zT O zK bl;have n8:O.next+9<=H8.next:=bl.le
 have fj:=K7.trans k8;rcases ch with ⟨o,rfl,F,ch⟩ | ⟨-,rfl⟩
 case inr =>
  refine zW (aC hl @oQ @aD) ?_;refine bf ?_;refine zW (aC hl @qU bn) ?_;have l7:=K7.le;exact zK
 case inl =>
 have cl:=DT Z aw F zO zO zO;obtain ⟨bx,bA,rfl,bQ,b7⟩:=vA ch cl;have fw:=bQ.one;have fx:=b7.one;have f8:H8.get (O.next+6)=none:=bl.free (show O.next+6<O.next+9 by omega) (e9.fresh (b:=O.next+6) zO);obtain ⟨X8,a0⟩:∃ Y,Y=(H8.put (O.next+6) (.cells [.int .i64 0,.nilSl,.nilSl] aj true)).put (O.next+6) (.cells [.int .i64 (n:Int),bx,bA] aj true):=⟨_,rfl⟩
 have s8:Sub H8 X8:=by rw [a0]; exact (aH f8).put f8 _
 have br:Kp O X8:=by rw [a0]; exact zK
 have cz:X8.get (O.next+6)=some (.cells [.int .i64 (n:Int),bx,bA] aj true):=by rw [a0,am]
 refine zW (aC hl @oQ @aD) ?_;rw [<- a0];clear a0;obtain ⟨Q,hQ⟩:∃ Y,Y=O.next+6:=⟨_,rfl⟩
 rw [<- hQ] at cz;rw [<- hQ];have K8:Kp H X8:=K7.trans br;have fa:=K8.wf;have dg:=bQ.mono s8;have dE:=b7.mono s8;have d0:=br.get bv;have db:=bN.mono br.sub;have dz:=b4.mono br.sub;clear bv bN b4 bl f8 n8 bQ b7 hQ;refine ka (fun T'=>T'.length=157/\ad T' 2=s2/\ad T' 8=.ptr P 0/\ad T' 14=.ptr Q 0/\ad T' 15=.int .i64 0) (zV (aC hl e j)) ?_;clear hl e j;rintro T ⟨hl,e,j,m,cH⟩;refine bf ?_;refine zW (aC hl cH @aD) ?_;have lo:(dL o).length=n:=by rw [mX,F.len]
 have a1:lenV s2=some (.int .i64 (n:Int)):=by have:=aE.lenV; rwa [lo] at this
 obtain ⟨X9,cc⟩:∃ X,X=X8.up 2:=⟨_,rfl⟩
 try rw [<- cc]
 have aI:Kp X8 X9:=by rw [cc]; exact (Kp.refl fa).up 2
 clear cc;have K9:Kp H X9:=K8.trans aI;have fQ:=K9.wf;have d1:=aI.get d0;have dc:=db.mono aI.sub;have dA:=dz.mono aI.sub;have d4:=aI.get cz;have dh:=dg.mono aI.sub;have dF:=dE.mono aI.sub;clear d0 db dz cz dg dE;refine ka (fun T'=>T'.length=157/\ad T' 2=s2/\ad T' 8=.ptr P 0/\ad T' 14=.ptr Q 0) (zV (cn hl e j m cH)) ?_;clear hl e j m cH;rintro T ⟨hl,e,j,m⟩;have cj:=aE.mono K9.sub;have eM:∀ H':Heap,Hb H' (X9.next+2) aL 1 8 [.int .i64 0] (.int .i64 (n:Int)) (.int .i64 (n:Int))=some (.own (X9.next+2) 0 n n 1 true,H'.put (X9.next+2) (.cells (aQ (dL (List.replicate n 0))) aL true)):=fun H'=>by rw [<- Hf]; exact iy _ _ _ _ _ _ _ _ _ zO zO rfl
 refine bf ?_;refine zW (cn hl e a1 eM @aD) ?_;obtain ⟨Y9,bb⟩:∃ X,X=(X9.up 4).put (X9.next+2) (.cells (aQ (dL (List.replicate n 0))) aL true):=⟨_,rfl⟩
 rw [<- bb];have dV:Kp X9 Y9:=by rw [bb]; exact zK
 have a6:Y9.get (X9.next+2)=some (.cells (aQ (dL (C6 n o 0))) aL true):=by rw [bb,am]; rfl
 clear bb;obtain ⟨M,hM⟩:∃ X,X=X9.next+2:=⟨_,rfl⟩
 rw [<- hM] at a6;rw [<- hM];have ej:=dV.wf;have fm:X9.next<=M:=zO
 have JA:=ej _ _ a6;refine ka (fun T'=>T'.length=157/\ad T' 2=s2/\ad T' 8=.ptr P 0/\ad T' 14=.ptr Q 0/\ad T' 16=.own M 0 n n 1 true) (zV (aZ hl e j m)) ?_;clear hl e j m;rintro T ⟨hl,e,j,m,s⟩;refine cZ (fun T' X=>Kp X9 X/\X.get M=some (.cells (aQ (dL (C6 n o n))) aL true)) rfl ?_ ?_
 ·refine zW hl ?_;refine bk X9 [17] (fun r vs X=>∃ i:Nat,vs=[.int .i64 (i:Int)]/\i+r=n/\X.get M=some (.cells (aQ (dL (C6 n o i))) aL true)) n (by simp only [U7]; exact hl) rfl zK ⟨0,by refine zW hl ?_; rfl,zO,a6⟩ ?_;rintro r T1 X af q ax ⟨i,hv,eF,b9⟩;have wX:=ax.wf;simp only [Vg,Vl,Vj,and_true] at hv;have u2:ad T1 2=s2:=(q.at_ 2 zU).trans (zV (aB hl e));have aM:ad T1 16=.own M 0 n n 1 true:=(q.at_ 16 zU).trans (zV (aB hl s));have fk:=wX _ _ b9;by_cases hi:i<n
  ·have aA:(i:Int)<(n:Int):=zO;have ei:IntKind.i64.wrap ((i:Int)+1)=((i+1:Nat):Int):=by rw [wrap_i64] <;> omega
   have av:i<o.length:=by rw [F.len]; exact hi
   have bm:o[i]<n:=F.mem.1 (Vd av);obtain ⟨w,ak,cf⟩:=SlV.at1 (cj.mono ax.sub) (i:=i) (a:=(o[i]:Int)) (by simp [dL,av]);have ak:w=.int .i64 (o[i]:Int):=ak;subst ak;have cd:=SlV.idx1 cj .i64 i (by rw [mX]; exact av);have eP:cG 1 (.own M 0 n n 1 true) (.int .i64 (o[i]:Int))=some (.ptr M o[i]):=by
    have:=iB (b:=M) (off:=0) (n:=n) (c:=n) (sz:=1) (x:=true) (k:=.i64) bm
    simpa using this
   have hcl:(aQ (dL (C6 n o i))).length=n:=by unfold aQ; rw [Vf,mX,EL]
   have eZ:y5 (some (.cells (aQ (dL (C6 n o i))) aL true)) 1 o[i] (.int .i64 (i:Int))=some (.cells (aQ (dL (C6 n o (i+1)))) aL true):=by
    rw [Ts (bi .i64 (i:Int)),if_pos (by rw [hcl]; exact bm),Ot,NS,C6]
    have:o.getD i 0=o[i]:=by rw [U8,Vb av]; rfl
    rw [this]
   refine zW (E0 af hv u2 a1 hi aA aM cd cf eP b9 eZ ei) ?_;exact ⟨zK,r-1,zO,i+1,rfl,zO,rfl⟩
  ·have aA:¬ (i:Int)<(n:Int):=zO
   have:i=n:=zO
   subst this;refine zW (lp af hv u2 a1 hi aA @aV @pt) ?_;exact ⟨zK,b9⟩
 rintro T1 E q ⟨aJ,el⟩;have af:T1.length=157:=q.len.trans hl;have u2:ad T1 2=s2:=(q.at_ 2 zU).trans (zV (aB hl e));have u8:ad T1 8=.ptr P 0:=(q.at_ 8 zU).trans (zV (aB hl j));have a2:ad T1 14=.ptr Q 0:=(q.at_ 14 zU).trans (zV (aB hl m));have aM:ad T1 16=.own M 0 n n 1 true:=(q.at_ 16 zU).trans (zV (aB hl s));have bC:Kp H E:=K9.trans aJ;have e1:=bC.wf;have co:=aJ.get d1;have c5:=dc.mono aJ.sub;have dt:=dA.mono aJ.sub;have cw:=aJ.get d4;have bO:=dh.mono aJ.sub;have b5:=dF.mono aJ.sub;clear d1 dc dA d4 dh dF hl e j m s q a6 cj dV JA ej;have eO:pC (gK .i64) aL E (.own M 0 n n 1 true) (dL (C6 n o n)):=by
  have:=nP (xf:=true) el
  rw [mX,EL] at this;exact this
 have al:=aE.mono bC.sub;obtain ⟨dP,eE⟩:=TY aw F;have mb:=Lin.move_back F dP eE Z.own;have mt:=Lin.move_two F F Z.own;have dR:=F.two F;have aR:=DT Z aw dR zO zO zO;have bs:=Lin.own_len (n:=n) (l:=K.map (Lin.mvC o)) (Lin.mv_rows F);rw [Vf] at bs;have bs:(Lin.movK n o K).length<=60:=by unfold Lin.movK; omega
 refine ka (fun T'=>T'.length=157/\ad T' 2=s2/\ad T' 8=.ptr P 0/\ad T' 14=.ptr Q 0/\ad T' 16=.own M 0 n n 1 true) ⟨af,u2,u8,a2,aM⟩ ?_;clear af u2 u8 a2 aM;rintro T ⟨hl,e,j,m,s⟩;refine bf ?_;refine zW (ip hl e j m s co cw) ?_;refine AnsH.use (qf C (n:=n) (o:=C6 n o n) (e2:=64) (f2:=64) zF ⟨bx,bA,rfl,bO.mono (zG E),b5.mono (zG E)⟩ cl aw bs (eO.mono (zG E)) dP (by rw [mb.1,mb.2]; exact Z) zO) ?_;rintro _ a3 ⟨⟨cO,cP,rfl,a7,a9⟩,bc⟩;rw [mb.1] at a7;rw [mb.2] at a9;obtain ⟨fh,_,fI⟩:=zT E zK bc;have eR:E.next+9<=a3.next:=bc.le
 have fy:=a7.one;have fz:=a9.one;have bT:a3.get (E.next+6)=none:=bc.free (show E.next+6<E.next+9 by omega) (e1.fresh (b:=E.next+6) zO);obtain ⟨t,aT⟩:∃ Y,Y=(a3.put (E.next+6) (.cells [.int .i64 0,.nilSl,.nilSl] aj true)).put (E.next+6) (.cells [.int .i64 (n:Int),cO,cP] aj true):=⟨_,rfl⟩
 have ea:Sub a3 t:=by rw [aT]; exact (aH bT).put bT _
 have ay:Kp E t:=by rw [aT]; exact zK
 have bw:t.get (E.next+6)=some (.cells [.int .i64 (n:Int),cO,cP] aj true):=by rw [aT,am]
 refine zW (aC hl @oQ @aD) ?_;rw [<- aT];clear aT;obtain ⟨R,hR⟩:∃ Y,Y=E.next+6:=⟨_,rfl⟩
 rw [<- hR] at bw;rw [<- hR];have cV:Kp H t:=bC.trans ay;have e4:=cV.wf;have di:=a7.mono ea;have dG:=a9.mono ea;have cp:=ay.get co;have c6:=c5.mono ay.sub;have du:=dt.mono ay.sub;have cx:=ay.get cw;have bP:=bO.mono ay.sub;have fR:=b5.mono ay.sub;clear co c5 dt cw bO b5 bc bT eR a7 a9 hR;refine ka (fun T'=>T'.length=157/\ad T' 2=s2/\ad T' 8=.ptr P 0/\ad T' 14=.ptr Q 0/\ad T' 16=.own M 0 n n 1 true/\ad T' 18=.ptr R 0/\ad T' 19=.int .i64 0) (zV (cn hl e j m s)) ?_;clear hl e j m s;rintro T ⟨hl,e,j,m,s,U,V⟩;have al:=al.mono ay.sub;refine bf ?_;refine zW (pD hl e j m s U V cp cx bw) ?_;refine AnsH.use (qf C (n:=n) (o:=o) (e2:=16*(64+4)) (f2:=16*(16*(64+4)+4)) zF ⟨bx,bA,rfl,bP.mono (zG t),fR.mono (zG t)⟩ cl aw bs (al.mono (zG t)) F (by rw [mt.1,mt.2]; exact aR) zO) ?_;rintro _ a4 ⟨⟨cT,cU,rfl,a8,ba⟩,bd⟩;rw [mt.1] at a8;rw [mt.2] at ba;obtain ⟨fi,_,fJ⟩:=zT t zK bd;have eS:t.next+9<=a4.next:=bd.le
 have fC:=a8.one;have fD:=ba.one;have bU:a4.get (t.next+6)=none:=bd.free (show t.next+6<t.next+9 by omega) (e4.fresh (b:=t.next+6) zO);obtain ⟨aN,aU⟩:∃ Y,Y=(a4.put (t.next+6) (.cells [.int .i64 0,.nilSl,.nilSl] aj true)).put (t.next+6) (.cells [.int .i64 (n:Int),cT,cU] aj true):=⟨_,rfl⟩
 have eb:Sub a4 aN:=by rw [aU]; exact (aH bU).put bU _
 have ao:Kp t aN:=by rw [aU]; exact zK
 have cC:aN.get (t.next+6)=some (.cells [.int .i64 (n:Int),cT,cU] aj true):=by rw [aU,am]
 refine zW (aC hl @oQ @aD) ?_;rw [<- aU];clear aU;obtain ⟨W,hW⟩:∃ Y,Y=t.next+6:=⟨_,rfl⟩
 rw [<- hW] at cC;rw [<- hW];have cW:Kp H aN:=cV.trans ao;have e5:=cW.wf;have dn:=a8.mono eb;have dM:=ba.mono eb;have dX:=ao.get cp;have c7:=c6.mono ao.sub;have dv:=du.mono ao.sub;have d2:=ao.get cx;have dd:=bP.mono ao.sub;have dB:=fR.mono ao.sub;have d5:=ao.get bw;have dj:=di.mono ao.sub;have dH:=dG.mono ao.sub;clear cp c6 du cx bP fR bw di dG bd bU eS a8 ba hW;refine ka (fun T'=>T'.length=157/\ad T' 2=s2/\ad T' 8=.ptr P 0/\ad T' 14=.ptr Q 0/\ad T' 16=.own M 0 n n 1 true/\ad T' 18=.ptr R 0/\ad T' 19=.int .i64 0/\ad T' 20=.ptr W 0/\ad T' 21=.int .i64 0) (zV (ip hl e j m s U V)) ?_;clear hl e j m s U V;rintro T ⟨hl,e,j,m,s,U,V,ag,ah⟩;have al:=al.mono ao.sub;refine bf ?_;refine zW (aB hl @aD) ?_;obtain ⟨aO,ca⟩:∃ X,X=aN.up 1:=⟨_,rfl⟩
 try rw [<- ca]
 have aa:Kp aN aO:=by rw [ca]; exact (Kp.refl e5).up 1
 clear ca;have cX:Kp H aO:=cW.trans aa;have fL:=cX.wf;have al:=al.mono aa.sub;have dY:=aa.get dX;have c8:=c7.mono aa.sub;have dw:=dv.mono aa.sub;have d3:=aa.get d2;have de:=dd.mono aa.sub;have dC:=dB.mono aa.sub;have d6:=aa.get d5;have dk:=dj.mono aa.sub;have dI:=dH.mono aa.sub;have d8:=aa.get cC;have dp:=dn.mono aa.sub;have dN:=dM.mono aa.sub;clear dX c7 dv d2 dd dB d5 dj dH cC dn dM;refine ka (fun T'=>T'.length=157/\ad T' 2=s2/\ad T' 8=.ptr P 0/\ad T' 14=.ptr Q 0/\ad T' 16=.own M 0 n n 1 true/\ad T' 18=.ptr R 0/\ad T' 19=.int .i64 0/\ad T' 20=.ptr W 0/\ad T' 21=.int .i64 0/\ad T' 22=.nilSl) (zV (lh hl e j m s U V ag ah)) ?_;clear hl e j m s U V ag ah;rintro T ⟨hl,e,j,m,s,U,V,ag,ah,t22⟩;refine cZ (fun T' X=>Kp aO X/\∃ v,ad T' 22=v/\Bq (bz (gK .i64)) aL aO X v (dL (Lin.twoO o o))) rfl ?_ ?_
 ·refine zW hl ?_;refine bk aO [22,23] (fun r vs X=>∃ (i:Nat) (v:AV),vs=[v,.int .i64 (i:Int)]/\i+r=n/\Bq (bz (gK .i64)) aL aO X v (dL (Lin.twoO o (o.take i)))) n (by simp only [U7]; exact hl) rfl zK ⟨0,.nilSl,by refine zW (aB hl t22) ?_; rfl,zO,Bq.nil⟩ ?_;rintro r T1 X af q ax ⟨i,v,hv,eF,bq⟩;have wX:=ax.wf;have fn:=ax.le;simp only [Vg,Vl,Vj,and_true] at hv;obtain ⟨v22,cI⟩:=hv;have u2:ad T1 2=s2:=(q.at_ 2 zU).trans (zV (aB hl e));by_cases hi:i<n
  ·have aA:(i:Int)<(n:Int):=zO;have ei:IntKind.i64.wrap ((i:Int)+1)=((i+1:Nat):Int):=by rw [wrap_i64] <;> omega
   have av:i<o.length:=by rw [F.len]; exact hi
   have bm:o[i]<n:=F.mem.1 (Vd av);have ci:o[i]<o.length:=by rw [F.len]; exact bm
   obtain ⟨w,ak,cf⟩:=SlV.at1 (al.mono ax.sub) (i:=i) (a:=(o[i]:Int)) (by simp [dL,av]);have ak:w=.int .i64 (o[i]:Int):=ak;subst ak;have cd:=SlV.idx1 al .i64 i (by rw [mX]; exact av);obtain ⟨w,ak,eK⟩:=SlV.at1 (al.mono ax.sub) (i:=o[i]) (a:=(o[o[i]]:Int)) (by simp [dL,ci]);have ak:w=.int .i64 (o[o[i]]:Int):=ak;subst ak;have eG:=SlV.idx1 al .i64 o[i] (by rw [mX]; exact ci);have hlt:(dL (Lin.twoO o (o.take i))).length<=60:=by rw [mX]; unfold Lin.twoO; rw [Vf,VD]; omega
   refine zW (BL af v22 cI u2 a1 hi aA cd cf eG eK @SO) ?_;obtain ⟨N,H6,e6,b6,k6,fp,-,-⟩:=Bq.push (ty2:=aL) (bytes:=8) (id:=X.next+13) (id2:=X.next+12) (H:=X.up 15) (cs:=[.int .i64 (o[o[i]]:Int)]) (a:=(o[o[i]]:Int)) (bq.mono (Sub.bump X 15)) zU (ax.up 15) ⟨_,rfl,rfl⟩ zO (by rw [bL]; omega) (wX.fresh zO) zO (by rw [bL]; omega) (wX.fresh zO) zO zO zO;have eu:dq ((X.up 15).put (X.next+12) (.cells [.int .i64 (o[o[i]]:Int)] aL true)) (X.next+13) 1 8 aL v (.own (X.next+12) 0 1 1 1 true)=some (.own (X.next+13) 0 N N 1 false,H6):=e6;refine zW (aZ af cI eu ei) ?_;refine ⟨zK,r-1,zO,i+1,_,rfl,zO,?_⟩;have et:dL (Lin.twoO o (o.take (i+1)))=dL (Lin.twoO o (o.take i))++[(o[o[i]]:Int)]:=by
    rw [Vi av];unfold Lin.twoO dL;rw [VP,VP];simp only [Vg,Vl];rw [U8,Vb ci]; rfl
   rw [et];exact b6.mono (Sub.bump H6 _)
  ·have aA:¬ (i:Int)<(n:Int):=zO
   have:i=n:=zO
   subst this;rw [Vy (by rw [F.len]; omega)] at bq;refine zW (lh af v22 cI u2 a1 hi aA @aV @pt) ?_;exact ⟨zK,_,rfl,bq.mono (Sub.bump X 4)⟩
 rintro T1 J q ⟨ab,vS,fS,em⟩;have af:T1.length=157:=q.len.trans hl;have u2:ad T1 2=s2:=(q.at_ 2 zU).trans (zV (aB hl e));have u8:ad T1 8=.ptr P 0:=(q.at_ 8 zU).trans (zV (aB hl j));have a2:ad T1 14=.ptr Q 0:=(q.at_ 14 zU).trans (zV (aB hl m));have aM:ad T1 16=.own M 0 n n 1 true:=(q.at_ 16 zU).trans (zV (aB hl s));have ee:ad T1 18=.ptr R 0:=(q.at_ 18 zU).trans (zV (aB hl U));have ef:ad T1 19=.int .i64 0:=(q.at_ 19 zU).trans (zV (aB hl V));have eg:ad T1 20=.ptr W 0:=(q.at_ 20 zU).trans (zV (aB hl ag));have eh:ad T1 21=.int .i64 0:=(q.at_ 21 zU).trans (zV (aB hl ah));have c0:Kp H J:=cX.trans ab;have fV:=c0.wf;have dS:=em.sl;have oS:=dS.one;have cq:=ab.get dY;have bH:=c8.mono ab.sub;have b0:=dw.mono ab.sub;have cy:=ab.get d3;have df:=de.mono ab.sub;have dD:=dC.mono ab.sub;have cA:=ab.get d6;have dl:=dk.mono ab.sub;have dJ:=dI.mono ab.sub;have cD:=ab.get d8;have dr:=dp.mono ab.sub;have dO:=dN.mono ab.sub;clear dY c8 dw d3 de dC d6 dk dI d8 dp dN;refine ka (fun T'=>T'.length=157/\ad T' 2=s2/\ad T' 8=.ptr P 0/\ad T' 14=.ptr Q 0/\ad T' 16=.own M 0 n n 1 true/\ad T' 18=.ptr R 0/\ad T' 19=.int .i64 0/\ad T' 20=.ptr W 0/\ad T' 21=.int .i64 0/\ad T' 22=vS) ⟨af,u2,u8,a2,aM,ee,ef,eg,eh,fS⟩ ?_;clear hl af e j m s U V ag ah t22 u2 u8 a2 aM ee ef eg eh fS q;rintro T ⟨hl,e,j,m,s,U,V,ag,ah,t22⟩;refine bf ?_;refine zW (Dd hl e j m s U V ag ah t22 cq cy cA cD) ?_;refine AnsH.use (qf C (n:=n) (o:=Lin.twoO o o) (e2:=16*(64+4)) (f2:=16*(16*(64+4)+4)) zF ⟨u,z,rfl,bH.mono (zG J),b0.mono (zG J)⟩ Z aw zO (dS.mono (zG J)) dR aR zO) ?_;rintro _ a5 ⟨⟨cR,cS,rfl,bR,b8⟩,bg⟩;obtain ⟨k15,_,fK⟩:=zT J zK bg;have eT:J.next+9<=a5.next:=bg.le
 have fW:=bR.one;have fB:=b8.one;have f15:a5.get (J.next+6)=none:=bg.free (show J.next+6<J.next+9 by omega) (fV.fresh (b:=J.next+6) zO);obtain ⟨ar,aW⟩:∃ Y,Y=(a5.put (J.next+6) (.cells [.int .i64 0,.nilSl,.nilSl] aj true)).put (J.next+6) (.cells [.int .i64 (n:Int),cR,cS] aj true):=⟨_,rfl⟩
 have ec:Sub a5 ar:=by rw [aW]; exact (aH f15).put f15 _
 have ae:Kp J ar:=by rw [aW]; exact zK
 have cB:ar.get (J.next+6)=some (.cells [.int .i64 (n:Int),cR,cS] aj true):=by rw [aW,am]
 refine zW (aC hl @oQ @aD) ?_;rw [<- aW];clear aW;obtain ⟨S,hS⟩:∃ Y,Y=J.next+6:=⟨_,rfl⟩
 rw [<- hS] at cB;rw [<- hS];have c1:Kp H ar:=c0.trans ae;have fM:=c1.wf;have eq:=bR.mono ec;have ey:=b8.mono ec;have dZ:=ae.get cq;have c9:=bH.mono ae.sub;have dx:=b0.mono ae.sub;have eV:=ae.get cy;have ep:=df.mono ae.sub;have ex:=dD.mono ae.sub;have d7:=ae.get cA;have dm:=dl.mono ae.sub;have dK:=dJ.mono ae.sub;have d9:=ae.get cD;have es:=dr.mono ae.sub;have eA:=dO.mono ae.sub;clear cq bH b0 cy df dD cA dl dJ cD dr dO bg f15 eT bR b8 hS;refine ka (fun T'=>T'.length=157/\ad T' 2=s2/\ad T' 8=.ptr P 0/\ad T' 14=.ptr Q 0/\ad T' 16=.own M 0 n n 1 true/\ad T' 18=.ptr R 0/\ad T' 19=.int .i64 0/\ad T' 20=.ptr W 0/\ad T' 21=.int .i64 0/\ad T' 22=vS/\ad T' 24=.ptr S 0/\ad T' 25=.int .i64 0) (zV (pD hl e j m s U V ag ah t22)) ?_;clear hl e j m s U V ag ah t22;rintro T ⟨hl,e,j,m,s,U,V,ag,ah,t22,ed,t25⟩;refine bf ?_;refine zW (BL hl j U V ag ah ed t25 dZ d7 d9 cB) ?_;refine AnsH.eq (pI C (n:=n) (n':=n) zF ⟨cO,cP,rfl,dm.mono (zG ar),dK.mono (zG ar)⟩ ⟨u,z,rfl,c9.mono (zG ar),dx.mono (zG ar)⟩ zO Z.smK zO Z.smG) fun aP eH=>?_;rw [decide_eq_true ⟨rfl,rfl,rfl⟩];have I:Kp ar aP:=Kp.trans zK eH;have c2:=c1.trans I;have fN:=c2.wf;have fF:=I.get dZ;have fb:=c9.mono I.sub;have fe:=dx.mono I.sub;have fG:=I.get eV;have fc:=ep.mono I.sub;have ff:=ex.mono I.sub;have fH:=I.get d7;have fd:=dm.mono I.sub;have fg:=dK.mono I.sub;have eX:=I.get d9;have fT:=es.mono I.sub;have eB:=eA.mono I.sub;have eW:=I.get cB;have er:=eq.mono I.sub;have ez:=ey.mono I.sub;have lS:=aR.lenK;have fl:=aR.many;refine zW (ip hl ah t25 ag ed eX eW) ?_;refine AnsH.eq (pI C (n:=n) (n':=n) zF ⟨cT,cU,rfl,fT.mono (zG aP),eB.mono (zG aP)⟩ ⟨cR,cS,rfl,er.mono (zG aP),ez.mono (zG aP)⟩ zO aR.smK zO aR.smG) fun ek eI=>?_;rw [decide_eq_true ⟨rfl,rfl,rfl⟩];have eQ:Kp aP ek:=Kp.trans zK eI;have c3:=c2.trans eQ;have fO:=c3.wf;refine zW (aB hl @aD) ?_;refine WC.wb ?_;refine zW (aB hl bn) ?_;exact c3
end
end Go.Proofs.YtiigaeehghcjiaaGreat.Ev
namespace Go.Proofs.YtiigaeehghcjiaaGreat.Ev
open Go Go.WideShapes Nn
section
variable {HT:Type} {enc:TypeId × Value->HT} {P:Program} {w:World} {base base':Nat} {sp:Nat->Bool} {held:Bool} {μ:Mu} {F:Nat->Prop} {H:Heap}
end
end Go.Proofs.YtiigaeehghcjiaaGreat.Ev
namespace Go.Proofs.YtiigaeehghcjiaaGreat.Ev
open Go Go.ChangeShapes Go.WideShapes Nn
section
variable {HT:Type} {enc:TypeId × Value->HT} {P:Program} {w:World} {base base':Nat} {sp:Nat->Bool} {held:Bool} {μ:Mu} {F:Nat->Prop} {H:Heap}
def Nj {t:TypeId} (c:P.underlying t=some (.int .i64)) {b:Nat} {cs:List Value} {x:DataW HT × List MemPlace} (h:DataW.trod enc P w base sp held b t cs=some x) :
  ∃ a z,LR μ F w a cs/\(bz (gK .i64)).R H a z/\True:=by
 obtain ⟨n,rfl,-,d⟩:=DataW.trod_int c h;exact ⟨[.int .i64 n],n,LR.cons (.int _ _) LR.nil,⟨_,rfl,rfl⟩,trivial⟩
def open_ints {ta te:TypeId} (f:P.underlying ta=some (.slice te)) (he:P.underlying te=some (.int .i64)) (hc:P.cellsOf te=1) (k:∀ c,c<w.heap.size->F c) {r:Reach} {v:Value} {d:DataW HT} {ps:List MemPlace} (hval:Value.okWide P w r base' ta v) (hd:DataW.Trod enc P w base sp held ta v d ps) :
  ∃ b l,VR μ F w b v/\pC (gK .i64) aL H b l:=by
 obtain ⟨a,n,c,rfl⟩:=okWide_slice f hval;obtain ⟨g,h⟩:=hd;obtain ⟨m,b,l,e,i,j,-,-⟩:=Jb (E:=bz (gK .i64)) (ty:=aL) (H:=H) (μ:=μ) (good:=fun _=>True) k f hc (fun g cs x h=>Nj he h) h;have e:m=.slice a n c:=by simpa [Value.cells] using e.symm
 subst e;exact ⟨b,l,i,j⟩
end
open Go
def N3 {P:Program}:IX P fe:=trivial
def Qp {P:Program} {w:World} (a:GlobW w):HR P (fun _=>none) (fun c=>c<w.heap.size) (Heap.nil 0) w:=by
 have h:=Nt (P:=P) a;refine ⟨h.dom,fun c hc=>hc,fun b e hb=>?_,h.inj,fun g cs hg=>(h.gl g cs hg).mono (fun _ _ h=>h) (fun c hc=>h.fb c hc) fun _ _=>rfl⟩;rw [Tr.nil_get] at hb; cases hb
def open_calls {P:Program} (i:P.follows .mixedOrders=true) {tab:Nat->Option au} (j:Kd P tab) {f:Nat} {afn:au} (g:tab f=some afn) (d:afn.ext=none) {args:List AV} {vs:List Value} {w:World} (p:GlobW w)
  (hl:LR (fun _=>none) (fun c=>c<w.heap.size) w args vs) (h:Ans tab (.fn f args) (Heap.nil 0) fun v _=>v=.bool true) :
  Calls P f vs.toArray w fun e w'=>e=.returned (.bool true)/\w'.os=w.os/\w'.output=w.output/\w.heap.size<=w'.heap.size/\∀ c,c<w.heap.size->w'.heap[c]? = w.heap[c]?:=by
 obtain ⟨v,H',⟨N,q⟩,rfl⟩:=h;have h1:=q (N+1) (N+1) zO zO;simp only [mp,kh,g,d] at h1;obtain ⟨-,t⟩:=j f afn g;obtain ⟨fn,r,hc⟩:=t fun e h=>by rw [d] at h; cases h
 obtain ⟨l,m,n,o,-⟩:=EJ hc d;have hH:=Qp (P:=P) p;have s:=qW (Af N3 i j N) i r l m n o h1 hl hH 0 (fence:=Fence.wide) (rd:=false) (.inl ⟨rfl,rfl⟩);refine (s.calls fun k=>room_wide k).mono fun e w' ⟨u,he,μ',x,_,a⟩=>?_;cases x;refine ⟨he,a.os,a.out,a.size,fun c hc=>a.keep c hc fun b L ⟨e,h,_⟩=>?_⟩;rw [Tr.nil_get] at h; cases h
def Oo {w w':World} (h1:w'.os=w.os) (h2:w'.output=w.output) (h:∀ c,c<w.heap.size->w'.heap[c]? = w.heap[c]?) (b:MemPlace->Prop):w.keptBut w' b:=by
 refine ⟨h1,h2,fun i hi=>?_⟩;rw [h i hi];split
 ·rename_i a e2;cases a.symm.trans e2;exact ⟨rfl,rfl,rfl,fun _ _=>rfl⟩
 ·rename_i a e2;cases a.symm.trans e2;exact .inr ⟨rfl,rfl⟩
 ·rfl
section
open Go.ChangeShapes Go.WideShapes Go.ChangeAt Go.RowKit
variable {HT:Type} {enc:TypeId × Value->HT} {P:Program}
def stays {t:TypeId} (hl:laidOutB P=true) (hr:P.readableRec t=true) (e:t<P.types.size) {W W':World} {sp:Nat->Bool} {v:Value} {d:DataW HT} {ps:List MemPlace}
  (h:DataW.Trod enc P W 0 (fun _=>true) true t v d ps) (a:∀ c,c<W.heap.size->W'.heap[c]? = W.heap[c]?) (hlt:∀ x∈ps,x.block<W.heap.size) (hs:∀ p∈ps,sp p.block=true):DataW.Trod enc P W' 0 sp true t v d ps :=
 WideElems.Trod_stays hl hr e h (fun p hp=>by
  have hb:=a p.block (hlt p hp);cases p with
  | cell b o=>exact World.cell?_of_block (w:=W) hb
  | map b=>exact hb) hs
def post_kept {f:Func} {s:ChangeSpec} {apart fresh k i:Bool} {W W':World} {args:Array Value} {v:Value} {ds gs:List (DataW HT)} {before:List MemPlace}
  (hW:DataW.Whole enc P f.params.toList s.vars apart W args.toList ds gs before)
  (g:∀ (b:Nat) (sp:Nat->Bool) (hd:Bool),DataW.TrodAll enc P W' b sp hd f.resultTypes.toList (v.resultList f.resultTypes.size) (s.fn HT (ds++gs)).results [])
  (hargs:∀ sp:Nat->Bool,(∀ p∈before,sp p.block=true)->DataW.TrodAll enc P W' 0 sp true f.params.toList args.toList (s.fn HT (ds++gs)).args before)
  (h:∀ sp:Nat->Bool,DataW.TrodVars enc P W' sp s.vars (s.fn HT (ds++gs)).vars [])
  (h1:W'.os=W.os) (h2:W'.output=W.output) (a:∀ c,c<W.heap.size->W'.heap[c]? = W.heap[c]?)
  (l:∀ (j:Nat) (t:TypeId) (r:Value),f.resultTypes[j]? = some t->(v.resultList f.resultTypes.size)[j]? = some r->Value.okWide P W' .any 0 t r) :
  s.post enc P f apart fresh k i W args v W':=by
 have m:∀ p∈before,(fun b=>decide (b<W.heap.size)) p.block=true:=fun p hp=>by simpa using hW.lt p hp
 have hlt:∀ p∈before,p.block<W.heap.size:=fun p hp=>hW.lt p hp;refine ⟨ds,gs,before,[],before,[],hW,g _ _ _,hargs _ m,h _,Oo h1 h2 a _,fun _=>?_⟩;obtain ⟨_,_,_,_,e,n,hn⟩:=hW;refine ⟨l,_,_,([]++before)++[],⟨[]++before,[],trodAll_append (hargs _ (fun _ _=>rfl)) (g _ _ _),h _,rfl,?_,?_⟩,?_⟩
 ·intro b off hp;have d:MemPlace.cell b off∈before:=by simpa using hp
  have hb:=hlt _ d;rw [World.frozen?_of_block (w:=W) (a b hb)];exact n b off d
 ·intro ha
  have:=hn ha
  simpa using this
 ·intro p hp _
  simpa using hp
end
end Go.Proofs.YtiigaeehghcjiaaGreat.Ev
namespace Go.Proofs.YtiigaeehghcjiaaGreat.Ins182
open Go Go.RowKit Go.Lib Go.Proofs
variable {P:Program}
theorem tS:Tryz.prog.underlying 101=some (.slice 38):=by kernel_rfl
theorem iE:(Tryz.prog.info? 38).map (fun i=>(i.zero,i.size,i.bytes))=some (some (Value.slice none 0 0),1,24):=by kernel_rfl
def zE:∀ w,(Go.sizeOf 38).run Tryz.prog w=.ok 1 w:=fun w=>by
 obtain ⟨a,hi,h0,h1,h2⟩:=info_parts iE;simp [Go.sizeOf,typeInfo,hi,h1]
theorem tI:Tryz.prog.underlying 3=some (.int .i64):=by kernel_rfl
theorem DZ:Tryz.prog.follows .mixedOrders=true:=by kernel_rfl
def Dg (w:World) {o:Oper} {a:Act} {K:Act->World->Prop} {Q:Exit->Act->World->Prop} (d s:Operand) (t b:TypeId)
  (e:o.op=.call { callee:=.builtin .copy,args:=#[d,s],argTypes:=#[t,b] }) (v u:Value) (hd:a.eval d=v) (hs:a.eval s=u) {c:Value} {w':World}
  (hr:(Builtin.copy_ #[t,b] o.type #[v,u]).run P w=.ok c w') (h:K (a.put o.dst c) w'):o.wp P a w K Q:=by
 unfold Oper.wp execOp;simp only [e,resolve,invoke,builtin,Sem.run_bind,Sem.run_pure,Result.andThen_ok,List.map_toArray,Vg,Vl,hd,hs,hr];exact h
def kE (w:World) {ops:Array Oper} {rest:List Oper} {o:Oper} {a:Act} {Q:Exit->Act->World->Prop} (f:o.guard=none) (d s:Operand) (t b:TypeId)
  (g:o.op=.call { callee:=.builtin .copy,args:=#[d,s],argTypes:=#[t,b] }) (v u:Value) (hd:a.eval d=v) (hs:a.eval s=u) {c:Value} {w':World}
  (hr:(Builtin.copy_ #[t,b] o.type #[v,u]).run P w=.ok c w') (h:wpList P ops Q rest (a.put o.dst c) w'):wpList P ops Q (o :: rest) a w :=
 wpList_plain f fun _ e=>Dg w d s t b g v u hd hs hr (e _ _ h)
def qT {ops:Array Oper} {o:Oper} {a:Act} {w:World} {K:Act->World->Prop} {Q:Exit->Act->World->Prop} {E:Prop}
  (hg:o.guard=none) (d x:Operand) (b c:TypeId) (g:o.op=Op.call { callee:=Callee.builtin Builtin.copy,args:=#[d,x],argTypes:=#[b,c] })
  (v u:Value) (hd:a.eval d=v) (hx:a.eval x=u) {e:Value} {w':World} (hr:(Builtin.copy_ #[b,c] o.type #[v,u]).run P w=.ok e w') (f:K (a.put o.dst e) w') :
  if Region.wanted o (yielded ops a.tmps)=true then Oper.wp P o a w K Q else E:=by
 have h:Region.wanted o (yielded ops a.tmps)=true:=by simp [Region.wanted,hg]
 rw [if_pos h];unfold Oper.wp;simp [execOp,g,resolve,invoke,builtin,hd,hx,hr,Result.andThen];exact f
def qE (b:Nat) (vs:List Value) (o:Nat) (w:World) (h:∀ j,j<vs.length->(w.cell? ⟨b,o+j,none⟩).isSome=true) (k:Nat) (a:(w.cell? ⟨b,k,none⟩).isSome=true):((w.setCells b o vs).cell? ⟨b,k,none⟩).isSome=true:=by
 by_cases c:o<=k/\k<o+vs.length
 ·have:=World.cell?_setCells_in b vs o w h (k-o) zO
  rw [show o+(k-o)=k by omega] at this;rw [this]; rfl
 ·rw [World.cell?_setCells_out b vs o w ⟨b,k,none⟩ (fun _ _=>by show k<o\/o+vs.length<=k; omega)];exact a
set_option maxHeartbeats 4000000 in
set_option maxRecDepth 100000 in
def shift (b off n c i a f m o:Nat) (cs vs:List Value) (w:World) (hi:i<n) (hm:0<m) (af:n+m<=c) (ad:n+m<=9223372036854775807) (C:a≠b)
  (hcl:cs.length=n) (V:vs.length=m)
  (J:∀ j v,cs[j]? = some v->w.cell? ⟨b,off+j,none⟩=some v) (q:∀ j,j<n+m->(w.cell? ⟨b,off+j,none⟩).isSome=true) (A:∀ j,j<n+m->w.frozen? ⟨b,off+j,none⟩=false)
  (X:∀ j v,vs[j]? = some v->w.cell? ⟨a,f+j,none⟩=some v) (F:∀ v∈cs,v.oneCell'=true) (G:∀ v∈vs,v.oneCell'=true)
  (D E:TypeId) (r s:Nat) (R:w.shape? a=some (D,r)) (S:w.shape? b=some (E,s)) (P:s≠0) (L:w.frozen? ⟨a,f,none⟩=false) (M:w.frozen? ⟨a,r,none⟩=false) :
  Calls Tryz.prog 182 #[.slice (some ⟨b,off,none⟩) n c,.int .i64 i,.slice (some ⟨a,f,none⟩) m o] w fun e w' =>
   e=.returned (.slice (some ⟨b,off,none⟩) (n+m) c)/\w'=(w.drew.setCells b (off+(i+m)) (cs.drop i)).setCells b (off+i) vs:=by
 have aj:¬ ((m:Int)=0):=zO;have ak:¬ ((i:Int)=(n:Int)):=zO;have B:(Tryz.prog.info? 38).map (·.size)=some 1:=by
  obtain ⟨i0,N,h0,h1,h2⟩:=info_parts iE;rw [N]; simp [h1]
 have Q:∀ t p,(callFunc 195 #[.slice (some ⟨a,f,none⟩) m o,.slice (some ⟨b,off+(i+m),none⟩) t p]).run Tryz.prog w=.ok (.value (.bool false)) w:=fun t p=>by
  rw [run_callFunc_extern Tryz.func195 (by kernel_rfl) (by kernel_rfl) (by kernel_rfl) (e:=Extern.SlicesOverlaps.overlaps #[101,101] #[4]) (by kernel_rfl),
   Lib.run_overlaps_apart w 101 4 38 tS 1 zE ⟨a,f,none⟩ ⟨b,off+(i+m),none⟩ m o t p C D E r s R S P L M]
  rfl
 have K:(cs.drop i).length=n-i:=by rw [WH,hcl]
 have ah:IntKind.i64.wrap ((i:Int)+(m:Int))=(i:Int)+(m:Int):=by rw [IntKind.wrap_i64]; omega
 have Y:(0:Int)<=(i:Int)+(m:Int):=zO;have ae:i<=n:=zO;have ag:((i:Int)+(m:Int)).toNat=i+m:=zO;have Z:¬ (c=i+m):=zO;have aa:(i:Int)<=(n:Int)+(m:Int):=zO;have ab:¬ (c=i):=zO;have z:∀ ty d u,(Builtin.copy_ #[101,101] ty #[.slice (some ⟨b,off+(i+m),none⟩) (n+m-(i+m)) d,.slice (some ⟨b,off+i,none⟩) (n+m-i) u]).run Tryz.prog w.drew=.ok (goInt (cs.drop i).length) (w.drew.setCells b (off+(i+m)) (cs.drop i)):=fun ty d u =>
  run_copy_cells w.drew _ _ ty 38 b (off+(i+m)) (n+m-(i+m)) d ⟨b,off+i,none⟩ (n+m-i) u (cs.drop i) tS B (by rw [K]; simp only [Nat.min_def]; split <;> omega)
   (fun j v hj=>by rw [Addr.add_lit,Wh]; exact J (i+j) v (by rwa [VB] at hj))
   (fun j hj=>by rw [Wh]; exact q _ zO) (fun j hj=>by rw [Wh]; exact A _ zO) (fun v U=>F v (XF U))
 obtain ⟨g,l⟩:∃ g,g=w.drew.setCells b (off+(i+m)) (cs.drop i):=⟨_,rfl⟩
 have T:∀ k,k<n+m->(g.cell? ⟨b,off+k,none⟩).isSome=true:=fun k O=>by
  rw [l];exact qE b _ _ _ (fun j hj=>by rw [Wh]; exact q _ zO) _ (q k O)
 have I:∀ (W:World),(∀ x,W.cell? x=g.cell? x)->(∀ x,W.frozen? x=g.frozen? x)->∀ ty d,(Builtin.copy_ #[101,101] ty #[.slice (some ⟨b,off+i,none⟩) (n+m-i) d,.slice (some ⟨a,f,none⟩) m o]).run Tryz.prog W=.ok (goInt vs.length) (W.setCells b (off+i) vs):=fun W y H ty d =>
  run_copy_cells W _ _ ty 38 b (off+i) (n+m-i) d ⟨a,f,none⟩ m o vs tS B (by rw [V]; simp only [Nat.min_def]; split <;> omega)
   (fun j v hj=>by
    rw [Addr.add_lit,y,l,World.cell?_setCells_out b _ _ _ _ (fun h _=>absurd h C)];exact X j v hj)
   (fun j hj=>by rw [y,Wh]; exact T _ zO) (fun j hj=>by rw [H,l,World.frozen?_setCells,Wh]; exact A _ zO) G
 rw [<- l] at z;have mixed:=DZ
 go_enter Tryz.func182,Tryz.ntmps182
 go_wp2_with (simp only [Q])
 go_region_law_o (refine qT rfl _ _ 101 101 rfl _ _ (by simp [Act.eval,Act.put]) (by simp [Act.eval,Act.put]) (z _ _ _) ?_)
 go_wp2_with (at_builtin; refine kE _ rfl _ _ 101 101 rfl _ _ rfl rfl (I _ (fun _=>rfl) (fun _=>rfl) _ _) ?_)
 go_ret
 first | exact ⟨rfl,rfl⟩ | exact ⟨rfl,by rw [l]⟩
set_option maxHeartbeats 4000000 in
set_option maxRecDepth 100000 in
def end_room (b off n c a d m f:Nat) (vs:List Value) (w:World) (hm:0<m) (k:n+m<=c) (q:n+m<=9223372036854775807)
  (g:vs.length=m) (l:∀ j,j<m->(w.cell? ⟨b,off+n+j,none⟩).isSome=true) (i:∀ j,j<m->w.frozen? ⟨b,off+n+j,none⟩=false)
  (p:∀ j v,vs[j]? = some v->w.cell? ⟨a,d+j,none⟩=some v) (h:∀ v∈vs,v.oneCell'=true) :
  Calls Tryz.prog 182 #[.slice (some ⟨b,off,none⟩) n c,.int .i64 n,.slice (some ⟨a,d,none⟩) m f] w fun e w' =>
   e=.returned (.slice (some ⟨b,off,none⟩) (n+m) c)/\w'=w.setCells b (off+n) vs:=by
 have r:¬ ((m:Int)=0):=zO;have o:Src Tryz.prog 1 101 (.slice (some ⟨a,d,none⟩) m f) m vs w:=Src.ofSlice w tS ⟨a,d,none⟩ m f vs zO (fun j u hj=>by rw [Addr.add_lit]; exact p j u hj) h;have mixed:=DZ
 go_enter Tryz.func182,Tryz.ntmps182
 go_wp2_with (at_builtin; refine wpList_append_room1 _ rfl _ _ 101 101 rfl 38 _ _ tS iE b off n c rfl _ rfl m vs o k (by rw [g]; exact l) (by rw [g]; exact i) ?_)
 go_ret
 exact ⟨rfl,rfl⟩
set_option maxHeartbeats 4000000 in
set_option maxRecDepth 100000 in
def end_grow (base:Option Addr) (n c b d m f:Nat) (cs vs:List Value) (w:World) (hm:0<m) (D:n<=c) (i:c<n+m) (p:(n+m)*24<=140737488355328)
  (hcl:cs.length=n) (E:vs.length=m) (h:base=none->n=0)
  (q:∀ a,base=some a->∀ j v,cs[j]? = some v->w.cell? (a.add j)=some v)
  (x:∀ j v,vs[j]? = some v->w.cell? ⟨b,d+j,none⟩=some v) (o:∀ v∈vs,v.oneCell'=true) :
  Calls Tryz.prog 182 #[.slice base n c,.int .i64 n,.slice (some ⟨b,d,none⟩) m f] w fun e w' =>
   e=.returned (.slice (some ⟨w.heap.size,0,none⟩) (n+m) (grownCap w (n+m) c 38)) /\
   w'=w.drew.alloc (.cells ((cs++vs).toArray++Builtin.zeroCells (Value.slice none 0 0).cells (grownCap w (n+m) c 38-(n+m))) 38):=by
 obtain ⟨g,r,y,l,z⟩:=info_parts iE;have F:¬ ((m:Int)=0):=zO;have t:Src Tryz.prog g.size 101 (.slice (some ⟨b,d,none⟩) m f) m vs w:=by
  rw [l];exact Src.ofSlice w tS ⟨b,d,none⟩ m f vs zO (fun j u hj=>by rw [Addr.add_lit]; exact x j u hj) o
 have s:(Builtin.firstCells g.size n (.slice base n c)).run Tryz.prog w.drew=.ok cs.toArray w.drew:=by
  rw [l];cases base with
  | none =>
   have h0:=h rfl;subst h0;rw [Ww.1 hcl];exact run_firstCells_none w.drew 1 0 0 c
  | some a=>exact run_firstCells_some w.drew 1 n a n c cs zO (fun j v hj=>q a rfl j v hj)
 have k:∀ ty,(Builtin.append_ #[101,101] ty #[.slice base n c,.slice (some ⟨b,d,none⟩) m f]).run Tryz.prog w=_:=fun ty =>
  run_append_grow_src w 101 101 ty 38 g _ tS r y base n c cs s _ m vs t i zO (by rw [z]; exact growslice_fits i p)
 have mixed:=DZ
 go_enter Tryz.func182,Tryz.ntmps182
 cases base with
 | none =>
  have h0:=h rfl;subst h0
  go_wp2_with (at_builtin; refine Lib.wpList_append_run _ rfl _ _ _ _ rfl _ _ rfl rfl _ _ (k _) ?_)
  go_ret
  exact ⟨rfl,rfl⟩
 | some a =>
  obtain ⟨A,B,C⟩:=a
  go_wp2_with (at_builtin; refine Lib.wpList_append_run _ rfl _ _ _ _ rfl _ _ rfl rfl _ _ (k _) ?_)
  all_goals (go_ret; exact ⟨rfl,rfl⟩)
set_option maxHeartbeats 4000000 in
set_option maxRecDepth 100000 in
def grow (b off n c i f q m B:Nat) (cs vs:List Value) (w:World) (hi:i<n) (hm:0<m) (av:n<=c) (ad:c<n+m) (Y:(n+m)*24<=140737488355328)
  (hcl:cs.length=n) (ae:vs.length=m)
  (y:∀ j v,cs[j]? = some v->w.cell? ⟨b,off+j,none⟩=some v)
  (J:∀ j v,vs[j]? = some v->w.cell? ⟨f,q+j,none⟩=some v) (N:∀ v∈cs,v.oneCell'=true) (O:∀ v∈vs,v.oneCell'=true) :
  Calls Tryz.prog 182 #[.slice (some ⟨b,off,none⟩) n c,.int .i64 i,.slice (some ⟨f,q,none⟩) m B] w fun e w' =>
   e=.returned (.slice (some ⟨w.heap.size,0,none⟩) (n+m) (grownCap w (n+m) c 38)) /\
   w'=(((w.alloc (.cells ((cs.take i).toArray++Builtin.zeroCells (Value.slice none 0 0).cells (n+m-i)++Builtin.zeroCells (Value.slice none 0 0).cells (grownCap w (n+m) c 38-(n+m))) 38)).drew.setCells w.heap.size i vs).drew).setCells w.heap.size (i+m) (cs.drop i):=by
 obtain ⟨M,E,ag,L,K⟩:=info_parts iE;have ay:¬ ((m:Int)=0):=zO;have az:¬ ((i:Int)=(n:Int)):=zO;have aA:(c:Int)<(n:Int)+(m:Int):=zO;have I:(Tryz.prog.info? 38).map (·.size)=some 1:=by rw [E]; simp [L]
 have Z:b<w.heap.size:=block_lt_of_cell (y 0 _ (Vb zO));have af:f<w.heap.size:=block_lt_of_cell (J 0 _ (Vb zO));have F:(n:Int)+(m:Int)-(i:Int)=((n+m-i:Nat):Int):=zO;have z:i+(n+m-i)=n+m:=zO;have H:(Builtin.firstCells M.size i (.slice (some ⟨b,off,none⟩) i c)).run Tryz.prog w.drew=.ok (cs.take i).toArray w.drew:=by
  rw [L];exact run_firstCells_some w.drew 1 i ⟨b,off,none⟩ i c (cs.take i) (by rw [VD]; omega) (fun j v hj=>by
   rw [Addr.add_lit];rw [VA] at hj;split at hj
   ·exact y j v hj
   ·cases hj)
 have p:∀ ty,(Builtin.append_ #[101,3] ty #[.slice (some ⟨b,off,none⟩) i c,.int .i64 ((n:Int)+(m:Int)-(i:Int))]).run Tryz.prog w =
   .ok (.slice (some ⟨w.heap.size,0,none⟩) (n+m) (grownCap w (n+m) c 38)) (w.drew.alloc (.cells ((cs.take i).toArray++Builtin.zeroCells (Value.slice none 0 0).cells (n+m-i)++Builtin.zeroCells (Value.slice none 0 0).cells (grownCap w (n+m) c 38-(n+m))) 38)):=fun ty=>by
  have h:=Lib.run_append_grow_zeros w 101 3 ty 38 M _ .i64 .i64 tS tI E ag (some ⟨b,off,none⟩) i c (cs.take i) H (n+m-i) zO zO zO zO (by rw [K]; omega) (by rw [K,z]; exact growslice_fits ad Y);rw [z] at h;rw [F];exact h
 obtain ⟨G,o⟩:∃ G,G=grownCap w (n+m) c 38:=⟨_,rfl⟩
 obtain ⟨a,s⟩:∃ a:Array Value,a=(cs.take i).toArray++Builtin.zeroCells (Value.slice none 0 0).cells (n+m-i)++Builtin.zeroCells (Value.slice none 0 0).cells (G-(n+m)):=⟨_,rfl⟩
 rw [<- o] at p ⊢;rw [<- s] at p ⊢;have V:n+m<=a.size:=by
  rw [s];simp [Builtin.zeroCells,Value.cells];omega
 obtain ⟨d,k⟩:∃ d,d=w.drew.alloc (.cells a 38):=⟨_,rfl⟩
 rw [<- k] at p;have r:∀ j,j<n+m->(d.cell? ⟨w.heap.size,j,none⟩).isSome=true:=fun j hj=>by
  rw [k,World.cell?_alloc_at (w:=w.drew) a _ w.heap.size j rfl,Wx zO]; rfl
 have C:∀ j,d.frozen? ⟨w.heap.size,j,none⟩=false:=fun j=>by rw [k]; exact World.frozen?_alloc_at (w:=w.drew) a _ w.heap.size j rfl
 have T:∀ j v,w.cell? ⟨b,j,none⟩=some v->d.cell? ⟨b,j,none⟩=some v:=fun j v h=>by rw [k,World.cell?_alloc_past (w:=w.drew) _ b j Z]; exact h
 have U:∀ j v,w.cell? ⟨f,j,none⟩=some v->d.cell? ⟨f,j,none⟩=some v:=fun j v h=>by rw [k,World.cell?_alloc_past (w:=w.drew) _ f j af]; exact h
 have aa:∀ (W:World),(∀ x,W.cell? x=d.cell? x)->(∀ x,W.frozen? x=d.frozen? x)->∀ ty g,(Builtin.copy_ #[101,101] ty #[.slice (some ⟨w.heap.size,i,none⟩) (n+m-i) g,.slice (some ⟨f,q,none⟩) m B]).run Tryz.prog W=.ok (goInt vs.length) (W.setCells w.heap.size i vs):=fun W l u ty g =>
  run_copy_cells W _ _ ty 38 w.heap.size i (n+m-i) g ⟨f,q,none⟩ m B vs tS I (by rw [ae]; simp only [Nat.min_def]; split <;> omega)
   (fun j v hj=>by rw [Addr.add_lit,l]; exact U _ v (J j v hj))
   (fun j hj=>by rw [l]; exact r _ zO) (fun j hj=>by rw [u]; exact C _) O
 have al:n+m<=G:=by rw [o]; exact grownCap_ge w _ _ _
 have ah:G<=9223372036854775807:=by
  have:=grownCap_le_maxLen w (n+m) c 38 (by unfold maxLen; omega)
  rw [<- o] at this;unfold maxLen at this;omega
 have aj:¬ (G=i):=zO;have ak:¬ (G=i+m):=zO;have aq:¬ (c=i):=zO;have X:b≠w.heap.size:=zO;have ab:(cs.drop i).length=n-i:=by rw [WH,hcl]
 have D:∀ (W:World),(∀ x,W.cell? x=(d.setCells w.heap.size i vs).cell? x)->(∀ x,W.frozen? x=(d.setCells w.heap.size i vs).frozen? x)->∀ ty g A,(Builtin.copy_ #[101,101] ty #[.slice (some ⟨w.heap.size,i+m,none⟩) (n+m-(i+m)) g,.slice (some ⟨b,off+i,none⟩) (n-i) A]).run Tryz.prog W=.ok (goInt (cs.drop i).length) (W.setCells w.heap.size (i+m) (cs.drop i)):=fun W l u ty g A =>
  run_copy_cells W _ _ ty 38 w.heap.size (i+m) (n+m-(i+m)) g ⟨b,off+i,none⟩ (n-i) A (cs.drop i) tS I (by rw [ab]; simp only [Nat.min_def]; split <;> omega)
   (fun j v hj=>by
    rw [Addr.add_lit,l,World.cell?_setCells_out _ _ _ _ _ (fun h _=>absurd h X),Wh];exact T _ v (y (i+j) v (by rwa [VB] at hj)))
   (fun j hj=>by rw [l]; exact qE _ _ _ _ (fun t ht=>r _ zO) _ (r _ zO))
   (fun j hj=>by rw [u,World.frozen?_setCells]; exact C _) (fun v hv=>N v (XF hv))
 subst k;have P:∀ x,((w.alloc (.cells a 38)).drew).cell? x=(w.drew.alloc (.cells a 38)).cell? x:=fun x=>rfl;have Q:∀ x,((w.alloc (.cells a 38)).drew).frozen? x=(w.drew.alloc (.cells a 38)).frozen? x:=fun x=>rfl;have R:∀ x,(((w.alloc (.cells a 38)).drew.setCells w.heap.size i vs).drew).cell? x=((w.drew.alloc (.cells a 38)).setCells w.heap.size i vs).cell? x:=fun x=>rfl;have S:∀ x,(((w.alloc (.cells a 38)).drew.setCells w.heap.size i vs).drew).frozen? x=((w.drew.alloc (.cells a 38)).setCells w.heap.size i vs).frozen? x:=fun x=>rfl;have ax:IntKind.i64.wrap ((i:Int)+(m:Int))=(i:Int)+(m:Int):=by rw [IntKind.wrap_i64]; omega
 have am:(0:Int)<=(i:Int)+(m:Int):=zO;have ar:i<=n:=zO;have aw:((i:Int)+(m:Int)).toNat=i+m:=zO;have ao:(i:Int)<=(n:Int):=zO;clear F z H s o V;have mixed:=DZ
 go_enter Tryz.func182,Tryz.ntmps182
 go_wp2_with (first
  | (at_builtin; refine Lib.wpList_append_run _ rfl _ _ _ _ rfl _ _ rfl rfl _ _ (p _) ?_)
  | (at_builtin; refine kE _ rfl _ _ 101 101 rfl _ _ rfl rfl (aa _ P Q _ _) ?_)
  | (at_builtin; refine kE _ rfl _ _ 101 101 rfl _ _ rfl rfl (D _ (fun _=>rfl) (fun _=>rfl) _ _ _) ?_))
 go_region_law_o (refine qT rfl _ _ 101 101 rfl (.slice (some ⟨w.heap.size,i+m,none⟩) (n+m-(i+m)) (G-(i+m))) (.slice (some ⟨b,off+i,none⟩) (n-i) (c-i)) (by simp [Act.eval,Act.put]) (by simp [Act.eval,Act.put]) (D _ R S 3 (G-(i+m)) (c-i)) ?_)
 go_wp2
 go_ret
 exact ⟨rfl,rfl⟩
end Go.Proofs.YtiigaeehghcjiaaGreat.Ins182
namespace Go.Proofs.YtiigaeehghcjiaaGreat.Ev.Ok182
open Go Go.Proofs.YtiigaeehghcjiaaGreat.Ev
def tj (A:Array Value):Nat->List Value->Array Value
 | _,[]=>A
 | o,v :: r=>tj (A.setIfInBounds o v) (o+1) r
def jm:∀ (vs:List Value) (o:Nat) (A:Array Value),(tj A o vs).size=A.size
 | [],o,A=>rfl
 | v :: r,o,A=>by rw [tj,jm r]; simp
def pb:∀ (vs:List Value) (o:Nat) (A:Array Value) (j:Nat),j<A.size->(tj A o vs)[j]? = if o<=j/\j<o+vs.length then vs[j-o]? else A[j]?
 | [],o,A,j,hj=>by rw [tj,if_neg (by simp only [XJ]; omega)]
 | v :: r,o,A,j,hj=>by
  rw [tj,pb r (o+1) _ j (by simpa using hj)];by_cases h1:o+1<=j/\j<o+1+r.length
  ·rw [if_pos h1,if_pos (by simp; omega),show j-o=(j-(o+1))+1 by omega,WR]
  ·rw [if_neg h1];by_cases h2:j=o
   ·subst h2;rw [if_pos (by simp),Yv,WI,Array.getElem?_setIfInBounds_self_of_lt hj]
   ·rw [if_neg (by simp; omega),Array.getElem?_setIfInBounds_ne zO]
def nG (b:Nat):∀ (vs:List Value) (o:Nat) (w:World) (arr:Array Value) (ty:TypeId) (fr:Nat × Nat),w.heap[b]? = some (.cells arr ty fr) ->
  (w.setCells b o vs).heap[b]? = some (.cells (tj arr o vs) ty fr)/\(∀ c,c≠b->(w.setCells b o vs).heap[c]? = w.heap[c]?)/\(w.setCells b o vs).heap.size=w.heap.size /\
   Tp w (w.setCells b o vs)/\(w.setCells b o vs).os=w.os/\(w.setCells b o vs).output=w.output
 | [],o,w,arr,ty,fr,h=>⟨h,fun _ _=>rfl,rfl,Tp.same rfl rfl,rfl,rfl⟩
 | v :: r,o,w,arr,ty,fr,h=>by
  have h1:(w.setCell ⟨b,o,none⟩ v).heap[b]? = some (.cells (arr.setIfInBounds o v) ty fr):=by
   simp [World.setCell,Xk,h]
  obtain ⟨k1,k2,a,d,e,f⟩:=nG b r (o+1) (w.setCell ⟨b,o,none⟩ v) _ ty fr h1;refine ⟨k1,fun c hc=>(k2 c hc).trans ?_,a.trans ?_,(Tp.same rfl rfl).trans d,e,f⟩
  ·simp [World.setCell,Xk,Ne.symm hc]
  ·simp [World.setCell]
def nA (w:World) (ty:TypeId):∀ (vs:List Value) (o:Nat) (A:Array Value),(w.alloc (.cells A ty)).setCells w.heap.size o vs=w.alloc (.cells (tj A o vs) ty)
 | [],o,A=>rfl
 | v :: r,o,A=>by
  have h1:(w.alloc (.cells A ty)).setCell ⟨w.heap.size,o,none⟩ v=w.alloc (.cells (A.setIfInBounds o v) ty):=by
   simp only [World.setCell,World.alloc];congr 1
   apply Zm
   intro j;rw [Xk];by_cases hj:w.heap.size=j
   ·subst hj; simp
   ·rw [if_neg hj,X3,X3,if_neg (Ne.symm hj),if_neg (Ne.symm hj)]
  rw [World.setCells,h1,nA w ty r (o+1) _]; rfl
section
variable {P:Program} {μ:Mu} {F:Nat->Prop} {H:Heap} {w:World}
def AL {μ':Mu} {H':Heap} {w':World} (h:Stp (fun x=>x=H.next) P μ F { H with next:=H.next+1 } w μ' F H' w'):Stp sZ P μ F H w μ' F H' w' :=
 ⟨h.mu,h.fr,h.size,h.keep,h.rw,Vq (VI _ _) h.next,fun b hb _ hn=>h.new b (Vu hb (VI _ _)) zO hn,h.rng,
  fun b e hb hl _=>h.old b e hb (Vu hl (VI _ _)) zO,h.alv,h.tape,h.os,h.out⟩
def JK {ty:Nat} {cs:List AV} {V:List Value} {A:Array Value} {w1:World} {k cap':Nat} {a:Heap} (hH:HR P μ F a w) (o:a.next=H.next+1) (e:μ H.next=none) (hs:sizeOf? P ty=some 1)
  (hl:LR μ F w cs V) (f:V.length=k) (hA:∀ j,j<k->A[j]? = V[j]?) (d:k<=cap') (m:A.size=cap')
  (h1:w1.heap=w.heap) (n:Tp w w1) (g:w1.os=w.os) (l:w1.output=w.output) :
  ∃ μ',VR μ' F (w1.alloc (.cells A ty)) (.own H.next 0 k k 1 false) (.slice (some ⟨w.heap.size,0,none⟩) k cap')/\HR P μ' F (a.put H.next (.cells cs ty true)) (w1.alloc (.cells A ty)) /\
   Stp (fun x=>x=H.next) P μ F a w μ' F (a.put H.next (.cells cs ty true)) (w1.alloc (.cells A ty)):=by
 have hcl:cs.length=k:=hl.1.trans f;obtain ⟨q1,q2⟩:=mJ (I:=fun x=>x=H.next) hH e zO rfl (sz:=1) (arr:=A) (cs:=cs) hs zO
  (fun i c v hc b=>by
   have hi:i<k:=by rw [<- hcl]; exact (Vo.1 hc).1
   rw [hA i hi] at b;exact hl.2 i c v hc b) w1 h1 n g l
 exact ⟨_,.own H.next 0 k k 1 false _ cap' (upd_same _ _) rfl (Ve _) d (fun h=>by cases h) (by simp [m]),q1,q2⟩
def QH {b ty:Nat} {L:BJ} {a cs:List AV} {V:List Value} {A:Array Value} {w':World} {k cap:Nat} (hH:HR P μ F H w) (hb:H.get b=some (.cells a ty true)) (hL:μ b=some L) (o:L.sz=1)
  (hl:LR μ F w cs V) (s:V.length=k) (hA:∀ j,j<k->A[j]? = V[j]?) (q:k<=cap) (B:A.size=L.N) (N:cap<=L.N)
  (D:w'.heap[L.blk]? = some (.cells A ty (0,0))) (u:∀ c,c≠L.blk->w'.heap[c]? = w.heap[c]?) (z:w'.heap.size=w.heap.size) (C:Tp w w') (t:w'.os=w.os) (y:w'.output=w.output) :
  ∃ μ',VR μ' F w' (.own H.next 0 k k 1 false) (.slice (some ⟨L.blk,0,none⟩) k cap)/\HR P μ' F (({ H with next:=H.next+1 }.kill b).put H.next (.cells cs ty true)) w' /\
   Stp sZ P μ F H w μ' F (({ H with next:=H.next+1 }.kill b).put H.next (.cells cs ty true)) w':=by
 have hcl:cs.length=k:=hl.1.trans s;have r:μ H.next=none:=kS hH (Ve _)
 have n:=hH.bump 1;have p:({ H with next:=H.next+1 }:Heap).get b=some (.cells a ty true):=hb;obtain ⟨arr,fr,E,G,g,J,K,l,M⟩:=gw hH hb hL;obtain ⟨p1,p2⟩:=jj (I:=fun x=>x=H.next) (e:=.cells cs ty true) n p rfl hL w' u z C t y
  (fun m=>⟨A,(0,0),D,B,g,zO,fun i c v hc d=>by
   have hi:i<k:=by rw [<- hcl]; exact (Vo.1 hc).1
   rw [hA i hi] at d;exact (hl.2 i c v hc d).mono (fun _ _ h=>h) (fun _ h=>h) m,fun _=>⟨(l rfl).1,rfl⟩,fun h=>by cases h⟩) rfl
 obtain ⟨q4,q5⟩:=uW (I:=fun x=>x=H.next) p1 (b:=b) (id:=H.next) (L:=L) (by rw [Heap.get_put,if_pos rfl]) hL r (by show H.next<H.next+1; omega) rfl;refine ⟨μ.upd H.next L,.own H.next 0 k k 1 false L cap (upd_same _ _) o (Ve _) q (fun h=>by cases h) (by simp; omega),?_,?_⟩
 ·refine q4.congr rfl fun x=>?_;simp only [Heap.get_put,Heap.get_kill];split
  ·rfl
  ·split
   ·rfl
   ·rename_i hx; rfl
 ·refine AL ((p2.trans q5).congr rfl fun x e he=>⟨e,?_,rfl⟩);simp only [Heap.get_put,Heap.get_kill] at he ⊢;split at he
  ·rename_i hx; rw [if_pos hx]; exact he
  ·rename_i hx;rw [if_neg hx];split at he
   ·cases he
   ·rename_i f; rw [if_neg f,if_neg f]; exact he
end
def vG {vs:List Value} {w:World} {F:Fence} {rd:Bool} {n:Nat} {R:Value->World->Prop} (a:FenceOK F rd) (h:Calls Tryz.prog 182 vs.toArray w fun e w'=>∃ u,e=.returned u/\R u w'):Runs F n Tryz.prog ((callFunc 182 vs.toArray).run Tryz.prog w) R:=by
 rw [sP (P:=Tryz.prog) (f:=182) Tryz.func182 (by kernel_rfl) (of_decide_eq_true (by kernel_rfl))];unfold Runs;simp only;have key:CallsIn Fence.wide n Tryz.prog 182 vs.toArray w fun e w'=>∃ u,e=.returned u/\R u w':=callsIn_wide.2 h;rcases a with ⟨_,rfl⟩ | ⟨_,l,rfl⟩
 ·exact key
 ·exact key
def u3 {w:World} {b:Nat} {arr:Array Value} {ty:TypeId} (h:w.heap[b]? = some (.cells arr ty (0,0))) (o:Nat):w.frozen? ⟨b,o,none⟩=false:=by
 simp [World.frozen?,h]
def QI {H H':Heap} {size bytes ty:Nat} {args:List AV} {v:AV} (h:vL H (.insert size bytes ty) args=some (v,H')) :
  (∃ d f m e g IA a,args=[.nilSl,.int .i64 (.ofNat 0),.own d f m e g IA]/\aK H size m (.own d f m e g IA)=some a/\0<m/\m*bytes<=2^46/\m<2^62/\a.all AV.one=true /\
   v=.own H.next 0 m m size false/\H'=({ H with next:=H.next+1 }:Heap).put H.next (.cells a ty true)) \/
  (∃ b n c ex i d f m e g IA a cs q ty2,args=[.own b 0 n c size ex,.int .i64 (.ofNat i),.own d f m e g IA]/\aK H size m (.own d f m e g IA)=some a/\H.get b=some (.cells cs ty true)/\H.get d=some (.cells q ty2 true) /\
   b≠d/\0<m/\i<=n/\cs.length=n*size/\(n+m)*bytes<=2^46/\n+m<2^62/\a.all AV.one=true/\cs.all AV.one=true /\
   v=.own H.next 0 (n+m) (n+m) size false/\H'=(({ H with next:=H.next+1 }:Heap).kill b).put H.next (.cells (cs.take (i*size)++a++cs.drop (i*size)) ty true)):=by
 unfold vL at h;split at h
 all_goals first | contradiction | skip
 ·rename_i heq;cases heq;split at h
  ·rename_i a r;split at h
   ·rename_i hc;obtain ⟨j,k,l,o,p⟩:=hc;cases h;subst j;exact .inl ⟨_,_,_,_,_,_,a,rfl,r,k,l,o,p,rfl,rfl⟩
   ·cases h
  ·cases h
 ·rename_i heq;cases heq;split at h
  ·rename_i a cs A q ty2 r hb z;split at h
   ·rename_i hc;obtain ⟨j,k,l,o,p,u,w,x,y,s,t⟩:=hc;cases h;subst j;subst k;subst y;exact .inr ⟨_,_,_,_,_,_,_,_,_,_,_,a,cs,q,ty2,rfl,r,hb,z,l,o,p,u,w,x,s,t,rfl,rfl⟩
   ·cases h
  ·cases h
 all_goals (cases h)
def F4 {P:Program} {μ:Mu} {F:Nat->Prop} {H:Heap} {w:World} {f a m p t:Nat} {IA:Bool} {s:List AV} {z:Value} (hH:HR P μ F H w) (C:VR μ F w (.own f a m p t IA) z) (e:aK H 1 m (.own f a m p t IA)=some s) :
  ∃ d n b ty2 g o l,μ f=some d/\z=.slice (some ⟨d.blk,a,none⟩) m n/\H.get f=some (.cells o ty2 l)/\w.heap[d.blk]? = some (.cells b ty2 g)/\a+m<=b.size/\(l=true->g=(0,0)) /\
   ((b.toList.drop a).take m).length=m/\LR μ F w s ((b.toList.drop a).take m)/\∀ j u,((b.toList.drop a).take m)[j]? = some u->w.cell? ⟨d.blk,a+j,none⟩=some u:=by
 cases C with
 | own _ _ _ _ _ _ d n k1 k2 K L M N =>
 simp only [aK] at e;split at e
 ·rename_i o ty2 l r;split at e
  ·rename_i y;obtain ⟨D,e2,e3⟩:=y;cases e;obtain ⟨b,g,q,E,G,I,v,x,J⟩:=gw hH r k1;have B:((b.toList.drop a).take m).length=m:=by simp; omega
   refine ⟨d,n,b,ty2,g,o,l,k1,rfl,r,q,zO,fun h=>(x h).2,B,⟨by simp; omega,fun i c u hi k=>?_⟩,fun j u hj=>?_⟩
   ·rw [VA] at hi k;rw [Wz] at hi;split at hi
    ·rename_i A;rw [if_pos A] at k;rw [VB] at hi k;exact v _ c u hi (by simpa using k)
    ·cases hi
   ·rw [qh q];rw [VA] at hj;split at hj
    ·rw [VB] at hj; simpa using hj
    ·cases hj
  ·cases e
 ·cases e
def Qm {μ:Mu} {F:Nat->Prop} {w:World} {b n c sz:Nat} {ex:Bool} {x:Value} (h:VR μ F w (.own b 0 n c sz ex) x):∃ L cap,μ b=some L/\L.sz=sz/\n<=c/\c<=cap/\cap*sz<=L.N/\x=.slice (some ⟨L.blk,0,none⟩) n cap:=by
 cases h with
 | own _ _ _ _ _ _ L cap k1 k2 a d e f=>exact ⟨L,cap,k1,k2,a,d,zO,rfl⟩
def zI {μ:Mu} {F:Nat->Prop} {w:World} {vs:List Value} {a b c:AV} (h:LR μ F w [a,b,c] vs):∃ x y z,vs=[x,y,z]/\VR μ F w a x/\VR μ F w b y/\VR μ F w c z:=by
 have hl:=h.1
 match vs,hl with
 | [x,y,z],_=>exact ⟨x,y,z,rfl,h.head,h.tail.head,h.tail.tail.head⟩
set_option maxRecDepth 100000 in
def extOK_insert:ExtOK Tryz.prog 182 (.insert 1 24 38):=by
 intro H args v H' h μ F w vs fence rd nn J hH hl;have af:sizeOf? Tryz.prog 38=some 1:=by
  obtain ⟨i0,hi,h0,h1,h2⟩:=info_parts Ins182.iE;simp [sizeOf?,hi,h1]
 have ae:μ H.next=none:=kS hH (Ve _)
 have K:∀ k,(Builtin.zeroCells (Value.slice none 0 0).cells k).size=k:=fun k=>by rw [yX]; simp [Value.cells]
 rcases QI h with ⟨b2,f,m,c2,ao,IA,S,rfl,X,h1,h2,h3,U,rfl,rfl⟩ | ⟨b,n,c,ex,i,b2,f,m,c2,ao,IA,S,cs,ah,ty2,rfl,X,hb,ad,h1,h2,h3,U,h5,h6,N,h8,rfl,rfl⟩
 ·obtain ⟨x,y,z,rfl,hx,hy,hz⟩:=zI hl;cases hx;cases hy;obtain ⟨o,t,q,ty2,aj,ah,am,k1,rfl,k3,M,g2,-,s,p,B⟩:=F4 hH hz X;refine vG J ((Ins182.end_grow none 0 0 o.blk f m t [] ((q.toList.drop f).take m) w h1 (Ve _) zO zO rfl s (fun _=>rfl) (fun a h=>by cases h) B (p.one U)).mono fun e w' ⟨he,g⟩=>?_);subst g;rw [VX] at he;have hge:=Go.grownCap_ge w m 0 38;simp only [VX,W4];obtain ⟨μ',q1,q2,q3⟩:=JK (P:=Tryz.prog) (H:=H) (A:=((q.toList.drop f).take m).toArray++Builtin.zeroCells (Value.slice none 0 0).cells (grownCap w m 0 38-m)) (w1:=w.drew) (k:=m) (cap':=grownCap w m 0 38) (hH.bump 1) rfl ae af p s
   (fun j hj=>by rw [WE (by simp [s]; omega)]; simp) hge (by simp only [Xs,XI,s,K]; omega) rfl Tp.draw rfl rfl
  exact ⟨_,he,μ',q1,q2,AL q3⟩
 ·obtain ⟨x,y,z,rfl,hx,hy,hz⟩:=zI hl;obtain ⟨L,cap,r1,r2,r3,r4,r5,rfl⟩:=Qm hx;cases hy;obtain ⟨o,t,q,ar,aj,aq,am,k1,rfl,k3,M,g2,ak,s,p,B⟩:=F4 hH hz X;rw [ad] at k3;cases k3;have al:=ak rfl;subst al;obtain ⟨arr,fr,p1,p2,p3,p4,p5,p6,p7⟩:=gw hH hb r1;obtain ⟨-,rfl⟩:=p6 rfl;rw [Wz] at U r5;have hne:o.blk≠L.blk:=fun e=>h1 (hH.inj b b2 _ _ L o hb ad r1 k1 e.symm);have Z:(arr.toList.take n).length=n:=by simp; omega
  have Q:LR μ F w cs (arr.toList.take n):=by
   refine ⟨by simp; omega,fun i c u hi R=>?_⟩;rw [VA] at R;split at R
   ·exact p5 i c u hi (by simpa using R)
   ·cases R
  have V:∀ j u,(arr.toList.take n)[j]? = some u->w.cell? ⟨L.blk,0+j,none⟩=some u:=fun j u hj=>by
   rw [qh p1,VX];rw [VA] at hj;split at hj
   ·simpa using hj
   ·cases hj
  have hV:LR μ F w (cs.take (i*1)++S++cs.drop (i*1)) ((arr.toList.take n).take i++(q.toList.drop f).take m++(arr.toList.take n).drop i):=by
   rw [Wz];exact ((Q.take i).append p).append (Q.drop i)
  have aa:((arr.toList.take n).take i++(q.toList.drop f).take m++(arr.toList.take n).drop i).length=n+m:=by
   simp only [Vv,VD,WH,s,Z]
   have:=Z
   rw [VD] at this;omega
  generalize hC:arr.toList.take n=C at *
  generalize hD:(q.toList.drop f).take m=D at *
  have d:=Z;have l:=s;have ab:∀ j,j<n->arr[j]? = C[j]?:=fun j hj=>by rw [<- hC,VA,if_pos hj]; simp
  have O:∀ j,j<n+m->(C.take i++D++C.drop i)[j]? = if j<i then C[j]? else if j<i+m then D[j-i]? else C[j-m]?:=by
   intro j hj;have r:(C.take i).length=i:=by rw [VD]; omega
   by_cases q1:j<i
   ·rw [if_pos q1,VJ (by rw [Vv,r]; omega),VJ zO,VA,if_pos q1]
   ·rw [if_neg q1];by_cases q2:j<i+m
    ·rw [if_pos q2,VJ (by rw [Vv,r]; omega),V5 zO,r]
    ·rw [if_neg q2,V5 (by rw [Vv,r]; omega),Vv,r,VB];congr 1; omega
  have ag:∀ j,j<cap->(w.cell? ⟨L.blk,0+j,none⟩).isSome=true:=fun j hj=>by
   rw [qh p1,VX,Wx zO]; rfl
  by_cases Y:n+m<=cap
  ·
   have fin:∀ (A:Array Value) (w':World),A.size=L.N->(∀ j,j<n+m->A[j]? = (C.take i++D++C.drop i)[j]?)->w'.heap[L.blk]? = some (.cells A 38 (0,0))->(∀ c,c≠L.blk->w'.heap[c]? = w.heap[c]?)->w'.heap.size=w.heap.size->Tp w w'->w'.os=w.os->w'.output=w.output ->
     ∃ μ',iS sZ Tryz.prog μ F H w (.own H.next 0 (n+m) (n+m) 1 false) (({ H with next:=H.next+1 }:Heap).kill b |>.put H.next (.cells (cs.take (i*1)++S++cs.drop (i*1)) 38 true)) (.slice (some ⟨L.blk,0,none⟩) (n+m) cap) w' μ':=by
    intro A w' E G a3 a4 a5 T a7 a8;obtain ⟨μ',q1,q2,q3⟩:=QH (P:=Tryz.prog) (A:=A) (w':=w') (k:=n+m) (cap:=cap) hH hb r1 r2 hV aa G Y E r5 a3 a4 a5 T a7 a8;exact ⟨μ',q1,q2,q3⟩
   by_cases W:i=n
   ·subst W;refine vG J ((Ins182.end_room L.blk 0 i cap o.blk f m t D w h2 Y zO l (fun j hj=>by rw [Wh]; exact ag _ zO) (fun j _=>u3 p1 _) B (p.one N)).mono fun e w' ⟨he,g⟩=>?_);subst g;obtain ⟨s1,s2,s3,s4,s5,s6⟩:=nG L.blk D (0+i) w arr 38 (0,0) p1;obtain ⟨μ',hd⟩:=fin _ _ ((jm _ _ _).trans p2) (fun j hj=>by
     rw [pb _ _ _ _ zO,O j hj,l,VX];by_cases q1:j<i
     ·rw [if_neg zO,if_pos q1,ab j q1]
     ·rw [if_pos zO,if_neg q1,if_pos zO]) s1 s2 s3 s4 s5 s6
    exact ⟨_,he,μ',hd⟩
   ·refine vG J ((Ins182.shift L.blk 0 n cap i o.blk f m t C D w zO h2 Y zO hne d l V (fun j hj=>ag j zO) (fun j _=>u3 p1 _) B (Q.one h8) (p.one N)
     ty2 38 q.size arr.size (by simp [World.shape?,M]) (by simp [World.shape?,p1]) zO (u3 M _) (u3 M _)).mono fun e w' ⟨he,g⟩=>?_)
    subst g;obtain ⟨s1,s2,s3,s4,s5,s6⟩:=nG L.blk (C.drop i) (0+(i+m)) w.drew arr 38 (0,0) p1;obtain ⟨t1,t2,t3,t4,t5,t6⟩:=nG L.blk D (0+i) _ _ 38 (0,0) s1;obtain ⟨μ',hd⟩:=fin _ _ (by rw [jm,jm]; exact p2) (fun j hj=>by
     rw [pb _ _ _ _ (by rw [jm]; omega),pb _ _ _ _ zO,O j hj,l,VX,VX,WH,d];by_cases q1:j<i
     ·rw [if_neg zO,if_neg zO,if_pos q1,ab j zO]
     ·by_cases q2:j<i+m
      ·rw [if_pos zO,if_neg q1,if_pos q2]
      ·rw [if_neg zO,if_pos zO,if_neg q1,if_neg q2,VB];congr 1; omega) t1 (fun c hc=>(t2 c hc).trans (s2 c hc)) (t3.trans s3) ((Tp.draw.trans s4).trans t4) (t5.trans s5) (t6.trans s6)
    exact ⟨_,he,μ',hd⟩
  ·
   have hge:=Go.grownCap_ge w (n+m) cap 38;obtain ⟨z1,z2⟩:=uA (I:=fun x=>x=H.next) (hH.bump 1) b;have fin:∀ (A:Array Value) (w1:World),A.size=grownCap w (n+m) cap 38->(∀ j,j<n+m->A[j]? = (C.take i++D++C.drop i)[j]?)->w1.heap=w.heap->Tp w w1->w1.os=w.os->w1.output=w.output ->
     ∃ μ',iS sZ Tryz.prog μ F H w (.own H.next 0 (n+m) (n+m) 1 false) (({ H with next:=H.next+1 }:Heap).kill b |>.put H.next (.cells (cs.take (i*1)++S++cs.drop (i*1)) 38 true)) (.slice (some ⟨w.heap.size,0,none⟩) (n+m) (grownCap w (n+m) cap 38)) (w1.alloc (.cells A 38)) μ':=by
    intro A w1 E G a3 a4 a5 T;obtain ⟨μ',q1,q2,q3⟩:=JK (P:=Tryz.prog) (H:=H) (A:=A) (w1:=w1) (k:=n+m) (cap':=grownCap w (n+m) cap 38) z1 rfl ae af hV aa G hge E a3 a4 a5 T;exact ⟨μ',q1,q2,AL (z2.trans q3)⟩
   by_cases W:i=n
   ·subst W;refine vG J ((Ins182.end_grow (some ⟨L.blk,0,none⟩) i cap o.blk f m t C D w h2 zO zO zO d l (fun h=>by cases h) (fun a ha j u hj=>by cases ha; rw [j9]; exact V j u hj) B (p.one N)).mono fun e w' ⟨he,g⟩=>?_);subst g;obtain ⟨μ',hd⟩:=fin ((C++D).toArray++Builtin.zeroCells (Value.slice none 0 0).cells (grownCap w (i+m) cap 38-(i+m))) w.drew (by simp only [Xs,XI,Vv,d,l,K]; omega) (fun j hj=>by
     rw [WE (by simp [d,l]; omega),O j hj];have e0:(C++D).toArray[j]? = (C++D)[j]?:=by simp
     rw [e0];by_cases q1:j<i
     ·rw [if_pos q1,VJ zO]
     ·rw [if_neg q1,if_pos zO,V5 zO,d]) rfl Tp.draw rfl rfl
    exact ⟨_,he,μ',hd⟩
   ·refine vG J ((Ins182.grow L.blk 0 n cap i o.blk f m t C D w zO h2 zO zO zO d l V B (Q.one h8) (p.one N)).mono fun e w' ⟨he,g⟩=>?_);have r:∀ A:Array Value,(((w.alloc (.cells A 38)).drew.setCells w.heap.size i D).drew).setCells w.heap.size (i+m) (C.drop i)=w.drew.drew.alloc (.cells (tj (tj A i D) (i+m) (C.drop i)) 38):=fun A=>by
     have E:(w.alloc (.cells A 38)).drew=w.drew.alloc (.cells A 38):=rfl;have G:(w.drew.alloc (.cells A 38)).setCells w.heap.size i D=w.drew.alloc (.cells (tj A i D) 38):=nA w.drew 38 D i A;have a3:(w.drew.alloc (.cells (tj A i D) 38)).drew=w.drew.drew.alloc (.cells (tj A i D) 38):=rfl;rw [E,G,a3];exact nA w.drew.drew 38 (C.drop i) (i+m) (tj A i D)
    rw [r] at g;subst g;obtain ⟨μ',hd⟩:=fin (tj (tj ((C.take i).toArray++Builtin.zeroCells (Value.slice none 0 0).cells (n+m-i)++Builtin.zeroCells (Value.slice none 0 0).cells (grownCap w (n+m) cap 38-(n+m))) i D) (i+m) (C.drop i)) w.drew.drew (by
      rw [jm,jm];simp only [Xs,XI,VD,d,K]; omega) (fun j hj=>by
     have hA0:((C.take i).toArray++Builtin.zeroCells (Value.slice none 0 0).cells (n+m-i)++Builtin.zeroCells (Value.slice none 0 0).cells (grownCap w (n+m) cap 38-(n+m))).size=grownCap w (n+m) cap 38:=by
      simp only [Xs,XI,VD,d,K]; omega
     rw [pb _ _ _ _ (by rw [jm,hA0]; omega),pb _ _ _ _ (by rw [hA0]; omega),O j hj,l,WH,d];by_cases q1:j<i
     ·rw [if_neg zO,if_neg zO,if_pos q1,WE (by simp only [Xs,XI,VD,d,K]; omega),WE (by simp only [XI,VD,d]; omega)];simp [q1]
     ·by_cases q2:j<i+m
      ·rw [if_neg zO,if_pos zO,if_neg q1,if_pos q2]
      ·rw [if_pos zO,if_neg q1,if_neg q2,VB];congr 1; omega) rfl (Tp.draw.trans Tp.draw) rfl rfl
    exact ⟨_,he,μ',hd⟩
end Go.Proofs.YtiigaeehghcjiaaGreat.Ev.Ok182
namespace Go.Proofs.YtiigaeehghcjiaaGreat.Ev.So100
open Go Go.RowKit Go.Sort Go.Shelf Go.Lib Go.Proofs.YtiigaeehghcjiaaGreat.Ev
set_option maxRecDepth 100000
def U3:Go.Shelf.Ren:=⟨fun | 6=>100 | 15=>85 | 14=>135 | 28=>117 | 29=>118 | 20=>163 | 21=>164 | 22=>165 | 23=>166 | 24=>167 | 25=>168 | 26=>169 | 27=>170 | 46=>187 | 47=>142 | 48=>143 | 49=>188 | 50=>189 | 57=>200 | n=>n,fun | 22=>101 | 24=>38 | 25=>94 | 3=>3 | 39=>116 | 0=>0 | 53=>153 | 55=>98 | 4=>4 | 46=>145 | 45=>144 | 50=>150 | 5=>5 | 9=>9 | 66=>173 | 70=>177 | 76=>202 | 77=>203 | n=>n,fun | n=>n⟩
def U4:Go.Proofs.SlLaysF.n6 Tryz.prog U3:={
 mixed:=by kernel_rfl
 f6:=⟨Tryz.f100.name,by decide,Tryz.func100.trans (congrArg some (by kernel_rfl))⟩
 f14:=⟨Tryz.f135.name,by decide,Tryz.func135.trans (congrArg some (by kernel_rfl))⟩
 f15:=Tryz.func85.trans (congrArg some (by kernel_rfl))
 f20:=⟨Tryz.f163.name,by decide,Tryz.func163.trans (congrArg some (by kernel_rfl))⟩
 f21:=⟨Tryz.f164.name,by decide,Tryz.func164.trans (congrArg some (by kernel_rfl))⟩
 f22:=⟨Tryz.f165.name,by decide,Tryz.func165.trans (congrArg some (by kernel_rfl))⟩
 f23:=⟨Tryz.f166.name,by decide,Tryz.func166.trans (congrArg some (by kernel_rfl))⟩
 f24:=⟨Tryz.f167.name,by decide,Tryz.func167.trans (congrArg some (by kernel_rfl))⟩
 f25:=⟨Tryz.f168.name,by decide,Tryz.func168.trans (congrArg some (by kernel_rfl))⟩
 f26:=⟨Tryz.f169.name,by decide,Tryz.func169.trans (congrArg some (by kernel_rfl))⟩
 f27:=⟨Tryz.f170.name,by decide,Tryz.func170.trans (congrArg some (by kernel_rfl))⟩
 f28:=Tryz.func117.trans (congrArg some (by kernel_rfl))
 f29:=Tryz.func118.trans (congrArg some (by kernel_rfl))
 f46:=⟨Tryz.f187.name,by decide,Tryz.func187.trans (congrArg some (by kernel_rfl))⟩
 f47:=Tryz.func142.trans (congrArg some (by kernel_rfl))
 f48:=Tryz.func143.trans (congrArg some (by kernel_rfl))
 f49:=⟨Tryz.f188.name,by decide,Tryz.func188.trans (congrArg some (by kernel_rfl))⟩
 f50:=⟨Tryz.f189.name,by decide,Tryz.func189.trans (congrArg some (by kernel_rfl))⟩
 f57:=⟨Tryz.f200.name,by decide,Tryz.func200.trans (congrArg some (by kernel_rfl))⟩
 t0:=Tryz.underlying0
 a0:=Tryz.isAgg0
 z0:=Tryz.sizeOf0
 v0:=Tryz.zeroValue0
 t3:=Tryz.underlying3
 a3:=Tryz.isAgg3
 z3:=Tryz.sizeOf3
 v3:=Tryz.zeroValue3
 t4:=Tryz.underlying4
 a4:=Tryz.isAgg4
 z4:=Tryz.sizeOf4
 v4:=Tryz.zeroValue4
 t5:=Tryz.underlying5
 a5:=Tryz.isAgg5
 z5:=Tryz.sizeOf5
 v5:=Tryz.zeroValue5
 t9:=Tryz.underlying9
 a9:=Tryz.isAgg9
 z9:=Tryz.sizeOf9
 v9:=Tryz.zeroValue9
 t22:=Tryz.underlying101
 a22:=Tryz.isAgg101
 z22:=Tryz.sizeOf101
 v22:=Tryz.zeroValue101
 a24:=Tryz.isAgg38
 z24:=Tryz.sizeOf38
 t25:=Tryz.underlying94
 a25:=Tryz.isAgg94
 z25:=Tryz.sizeOf94
 v25:=Tryz.zeroValue94
 t39:=Tryz.underlying116
 a39:=Tryz.isAgg116
 z39:=Tryz.sizeOf116
 v39:=Tryz.zeroValue116
 t45:=Tryz.underlying144
 a45:=Tryz.isAgg144
 z45:=Tryz.sizeOf144
 v45:=Tryz.zeroValue144
 t46:=Tryz.underlying145
 a46:=Tryz.isAgg145
 z46:=Tryz.sizeOf145
 v46:=Tryz.zeroValue145
 t50:=Tryz.underlying150
 a50:=Tryz.isAgg150
 z50:=Tryz.sizeOf150
 v50:=Tryz.zeroValue150
 t53:=Tryz.underlying153
 a53:=Tryz.isAgg153
 z53:=Tryz.sizeOf153
 v53:=Tryz.zeroValue153
 t55:=Tryz.underlying98
 a55:=Tryz.isAgg98
 z55:=Tryz.sizeOf98
 v55:=Tryz.zeroValue98
 t66:=Tryz.underlying173
 a66:=Tryz.isAgg173
 z66:=Tryz.sizeOf173
 v66:=Tryz.zeroValue173
 t70:=Tryz.underlying177
 a70:=Tryz.isAgg177
 z70:=Tryz.sizeOf177
 v70:=Tryz.zeroValue177
 t76:=Tryz.underlying202
 a76:=Tryz.isAgg202
 z76:=Tryz.sizeOf202
 v76:=Tryz.zeroValue202
 t77:=Tryz.underlying203
 a77:=Tryz.isAgg203
 z77:=Tryz.sizeOf203
 v77:=Tryz.zeroValue203 }
def U5:Pg Tryz.prog 100 [101]:=by
 refine ⟨⟨Tryz.f100,Tryz.func100,by kernel_rfl,by decide +kernel⟩,trivial,?_,?_,?_⟩
 ·intro g hg args w;simp only [VC,List.not_mem_nil,or_false] at hg;subst hg;exact enters_of Tryz.func101 (by kernel_rfl) rfl args w
 ·intro p cap d w;exact AnyF.slices_SortFunc_none { U4 with } p cap d w
 ·intro k enc b g a blk cap w hg h1 e hT i hH f j;have c:∀ args w,(callFunc g args).run Tryz.prog w=.ok (.enter g args) w:=by
   intro args w;simp only [VC,List.not_mem_nil,or_false] at hg;subst hg;exact enters_of Tryz.func101 (by kernel_rfl) rfl args w
  have hs:(List.finRange (k+1)).toArray.size=k+1:=by simp
  have h:=Any.slices_SortFunc_total U4 enc h1 b e g a blk 0 cap (List.finRange (k+1)).toArray w c (by rw [hs]; exact i) hH f (by rw [hs]; exact j) hT;rw [hs] at h
  change Calls Tryz.prog 100 _ _ _ at h
  exact h
def extOK:ExtOK Tryz.prog 100 (.sortF 38 [101]):=U5
end Go.Proofs.YtiigaeehghcjiaaGreat.Ev.So100
namespace Go.Proofs.YtiigaeehghcjiaaGreat.Ev
open Go
set_option maxRecDepth 1000000
set_option maxHeartbeats 8000000
def look:List (Nat × au)->Nat->Option au
 | [],_=>none
 | p :: r,f=>if f=p.1 then some p.2 else look r f
def FV:∀ {L:List (Nat × au)} {f:Nat} {a:au},look L f=some a->(f,a)∈L
 | p :: r,f,a,h=>by
  unfold look at h;split at h
  ·rename_i e; cases h; subst e; exact Vm ..
  ·exact Vh _ (FV h)
def ap {f:Nat} {fn:Func} {a:au} (b:Tryz.prog.funcs[f]? = some fn) (hc:SX Tryz.prog fn=some a:=by kernel_rfl) (he:a.ext.isNone=true:=by rfl):GX Tryz.prog f a:=Nm b hc he
abbrev Rw (l:List (Nat × au)):Prop:=∀ p∈l,GX Tryz.prog p.1 p.2
def KS:Rw []:=fun p hp=>by cases hp
def U0 {f:Nat} {a:au} {l:List (Nat × au)} (h:GX Tryz.prog f a) (hl:Rw l):Rw ((f,a) :: l):=List.forall_mem_cons.2 ⟨h,hl⟩
def UH:List (Nat × au):=[(eD,c_facetroomlaw24_DimsBack),(fQ,jV),(gF,ky),(nM,yM),(lz,yN),(gy,km),(nL,yL),(vp,GG),(gG,kz),(eY,iX),(iP,mg),(dR,il),(ph,CZ),(fP,jU),(pR,wm),(jI,rW),(gf,qI),(dC,mi),(jJ,rX),(i9,qH)]
def UG:List (Nat × au):=[(fo,mh),(rx,yJ),(gB,ko),(dO,ii),(iL,l8),(g8,rV),(ul,Be),(gA,kn),(fO,jT),(fS,jX),(e9,tQ),(ly,yH),(oL,c_dual_points),(ru,yI),(fM,jR),(ry,yK),(da,fw),(cR,fk),(fR,jW),(eZ,tP)]
def UF:List (Nat × au):=[(ni,Bn),(rv,c_dual_cons),(eC,iF),(eB,iD),(aO,fF),(gW,lH),(dj,iW),(Au,GI),(pM,vV),(iN,mc),(eI,iJ),(bQ,cW),(eH,iI),(rt,yG),(rA,c_cone_Gens),(bO,cU),(kO,px),(pV,wt),(fN,jS),(gZ,rU)]
def UE:List (Nat × au):=[(gY,rT),(aY,bH),(aX,bF),(eF,iH),(bP,cV),(eE,iG),(uo,Bh),(gC,kr),(dm,fI),(lV,qG),(dF,gN),(pS,Bi),(iO,mf),(nI,yB),(cg,du),(nj,c_cone_checked),(rz,yQ),(ux,Bx),(db,c_P_cone_under_add),(nh,rR)]
def UD:List (Nat × au):=[(oH,tK),(dz,dD),(jK,rY),(ca,dr),(pN,vW),(dQ,ik),(cd,dt),(bp,bY),(jD,vX),(gD,kv),(nK,nX),(gL,nW),(br,eh),(gc,gn),(ee,el),(fg,fj),(eR,eT),(cS,cT),(nk,rZ),(dM,dW)]
def UC:List (Nat × au):=[(fD,fE),(cy,gq),(cj,dw),(nf,rP),(mr,wh),(gI,kD),(jh,c_P_cone_under_cut),(iQ,c_P_cone_under_fold),(oF,tH),(jg,nz),(um,Bg),(wW,CT),(kY,tz),(pL,vU),(dl,fG),(gE,kw),(fZ,gm),(jp,jv),(iT,iY),(dN,dX)]
def UB:List (Nat × au):=[(gV,ig),(lW,qJ),(cB,dZ),(pY,Bv),(lB,yO),(fp,mj),(nN,yP),(pW,Br),(pX,Bs),(nH,yz),(cI,eA),(cC,d8),(gM,c_P_rows_form_put),(rl,yA),(pQ,wg),(ng,rQ),(mZ,Bf),(oC,tE),(oB,tD),(bg,bT)]
def UA:List (Nat × au):=[(pP,vZ),(nJ,yE),(gU,ie),(sJ,CS),(rm,c_sat_Signs),(uw,Bu),(rh,yv),(wV,CR),(m6,rN),(oG,tJ),(cA,dY),(oD,tF),(nd,rO),(oE,tG),(cw,fH),(rj,yx),(oA,tC),(wU,CQ),(pO,vY),(xe,CY)]
def Uz:List (Nat × au):=[(oy,tx),(ft,pw),(rg,yu),(ri,yw),(rk,yy),(oK,tO),(xg,C0),(kN,pu),(lU,qF),(rf,yr),(xd,CX),(oM,tT),(uv,Bp),(dP,ij),(At,GH),(gH,kC),(g9,lJ),(hZ,lM),(uu,Bo),(uq,Bj)]
def Uy:List (Nat × au):=[(wZ,CV),(wY,CU),(iM,l9),(oJ,tN),(cL,eU),(jG,nY),(rq,yD),(jF,nV),(jH,nZ),(jE,nU),(oI,tM),(pT,wn),(pU,wq),(rr,yF),(xc,CW),(ut,Bm),(Av,GJ),(bh,dH),(rp,yC),(ur,Bk)]
def Tq:List (Nat × au):=[(gX,rS)]
def UW:Rw UH:=U0 (ap Tryz.func3)<|U0 (ap Tryz.func5)<|U0 (ap Tryz.func6)<|U0 (ap Tryz.func7)<|U0 (ap Tryz.func8)<|U0 (ap Tryz.func9)<|U0 (ap Tryz.func10)<|U0 (ap Tryz.func16)<|U0 (ap Tryz.func17)<|U0 (ap Tryz.func19)<|U0 (ap Tryz.func18)<|U0 (ap Tryz.func20)<|U0 (ap Tryz.func21)<|U0 (ap Tryz.func22)<|U0 (ap Tryz.func23)<|U0 (ap Tryz.func24)<|U0 (ap Tryz.func27)<|U0 (ap Tryz.func26)<|U0 (ap Tryz.func28)<|U0 (ap Tryz.func32)<|KS
def UV:Rw UG:=U0 (ap Tryz.func31)<|U0 (ap Tryz.func30)<|U0 (ap Tryz.func33)<|U0 (ap Tryz.func35)<|U0 (ap Tryz.func34)<|U0 (ap Tryz.func36)<|U0 (ap Tryz.func42)<|U0 (ap Tryz.func43)<|U0 (ap Tryz.func37)<|U0 (ap Tryz.func44)<|U0 (ap Tryz.func45)<|U0 (ap Tryz.func46)<|U0 (ap Tryz.func48)<|U0 (ap Tryz.func47)<|U0 (ap Tryz.func49)<|U0 (ap Tryz.func50)<|U0 (ap Tryz.func25)<|U0 (ap Tryz.func29)<|U0 (ap Tryz.func51)<|U0 (ap Tryz.func52)<|KS
def UU:Rw UF:=U0 (ap Tryz.func53)<|U0 (ap Tryz.func54)<|U0 (ap Tryz.func55)<|U0 (ap Tryz.func56)<|U0 (ap Tryz.func59)<|U0 (ap Tryz.func57)<|U0 (ap Tryz.func58)<|U0 (ap Tryz.func62)<|U0 (ap Tryz.func61)<|U0 (ap Tryz.func63)<|U0 (ap Tryz.func65)<|U0 (ap Tryz.func64)<|U0 (ap Tryz.func67)<|U0 (ap Tryz.func68)<|U0 (ap Tryz.func69)<|U0 (ap Tryz.func70)<|U0 (ap Tryz.func71)<|U0 (ap Tryz.func72)<|U0 (ap Tryz.func73)<|U0 (ap Tryz.func74)<|KS
def UT:Rw UE:=U0 (ap Tryz.func76)<|U0 (ap Tryz.func77)<|U0 (ap Tryz.func78)<|U0 (ap Tryz.func80)<|U0 (ap Tryz.func79)<|U0 (ap Tryz.func81)<|U0 (ap Tryz.func75)<|U0 (ap Tryz.func82)<|U0 (ap Tryz.func83)<|U0 (ap Tryz.func85)<|U0 (ap Tryz.func84)<|U0 (ap Tryz.func88)<|U0 (ap Tryz.func89)<|U0 (ap Tryz.func66)<|U0 (ap Tryz.func90)<|U0 (ap Tryz.func94)<|U0 (ap Tryz.func95)<|U0 (ap Tryz.func96)<|U0 (ap Tryz.func97)<|U0 (ap Tryz.func98)<|KS
def US:Rw UD:=U0 (ap Tryz.func99)<|U0 (sw rfl rfl So100.extOK)<|U0 (ap Tryz.func101)<|U0 (ap Tryz.func103)<|U0 (ap Tryz.func87)<|U0 (ap Tryz.func11)<|U0 (ap Tryz.func106)<|U0 (ap Tryz.func104)<|U0 (ap Tryz.func105)<|U0 (ap Tryz.func107)<|U0 (ap Tryz.func117)<|U0 (ap Tryz.func118)<|U0 (ap Tryz.func108)<|U0 (ap Tryz.func109)<|U0 (ap Tryz.func110)<|U0 (ap Tryz.func111)<|U0 (ap Tryz.func112)<|U0 (ap Tryz.func113)<|U0 (ap Tryz.func114)<|U0 (ap Tryz.func115)<|KS
def UR:Rw UC:=U0 (ap Tryz.func116)<|U0 (ap Tryz.func123)<|U0 (ap Tryz.func91)<|U0 (ap Tryz.func92)<|U0 (ap Tryz.func126)<|U0 (ap Tryz.func127)<|U0 (ap Tryz.func130)<|U0 (ap Tryz.func131)<|U0 (ap Tryz.func132)<|U0 (ap Tryz.func134)<|U0 (ap Tryz.func133)<|U0 (ap Tryz.func102)<|U0 (ap Tryz.func93)<|U0 (ap Tryz.func122)<|U0 (ap Tryz.func139)<|U0 (ap Tryz.func140)<|U0 (ap Tryz.func141)<|U0 (ap Tryz.func142)<|U0 (ap Tryz.func143)<|U0 (ap Tryz.func144)<|KS
def UQ:Rw UB:=U0 (ap Tryz.func145)<|U0 (ap Tryz.func146)<|U0 (ap Tryz.func124)<|U0 (ap Tryz.func129)<|U0 (ap Tryz.func128)<|U0 (ap Tryz.func149)<|U0 (ap Tryz.func150)<|U0 (ap Tryz.func152)<|U0 (ap Tryz.func151)<|U0 (ap Tryz.func153)<|U0 (ap Tryz.func155)<|U0 (ap Tryz.func154)<|U0 (ap Tryz.func156)<|U0 (ap Tryz.func160)<|U0 (ap Tryz.func162)<|U0 (ap Tryz.func161)<|U0 (ap Tryz.func157)<|U0 (ap Tryz.func158)<|U0 (ap Tryz.func119)<|U0 (ap Tryz.func136)<|KS
def UP:Rw UA:=U0 (ap Tryz.func137)<|U0 (ap Tryz.func125)<|U0 (ap Tryz.func172)<|U0 (ap Tryz.func86)<|U0 (ap Tryz.func176)<|U0 (ap Tryz.func177)<|U0 (ap Tryz.func179)<|U0 (ap Tryz.func178)<|U0 (ap Tryz.func180)<|U0 (ap Tryz.func181)<|U0 (sw rfl rfl Ok182.extOK_insert)<|U0 (ap Tryz.func183)<|U0 (ap Tryz.func184)<|U0 (ap Tryz.func186)<|U0 (ap Tryz.func159)<|U0 (ap Tryz.func138)<|U0 (ap Tryz.func121)<|U0 (ap Tryz.func120)<|U0 (ap Tryz.func194)<|U0 (ap Tryz.func197)<|KS
def UO:Rw Uz:=U0 (ap Tryz.func185)<|U0 (ap Tryz.func199)<|U0 (ap Tryz.func171)<|U0 (ap Tryz.func148)<|U0 (ap Tryz.func147)<|U0 (ap Tryz.func211)<|U0 (ap Tryz.func212)<|U0 (ap Tryz.func198)<|U0 (ap Tryz.func173)<|U0 (ap Tryz.func174)<|U0 (ap Tryz.func175)<|U0 (ap Tryz.func217)<|U0 (ap Tryz.func218)<|U0 (ap Tryz.func219)<|U0 (ap Tryz.func220)<|U0 (ap Tryz.func221)<|U0 (ap Tryz.func222)<|U0 (ap Tryz.func223)<|U0 (ap Tryz.func225)<|U0 (ap Tryz.func224)<|KS
def UN:Rw Uy:=U0 (ap Tryz.func190)<|U0 (ap Tryz.func191)<|U0 (ap Tryz.func193)<|U0 (ap Tryz.func192)<|U0 (ap Tryz.func227)<|U0 (ap Tryz.func228)<|U0 (ap Tryz.func229)<|U0 (ap Tryz.func214)<|U0 (sw rfl rfl (Gh Tryz.func203 (by kernel_rfl) (by kernel_rfl) (by kernel_rfl) (by kernel_rfl)))<|U0 (sw rfl rfl (Gg Tryz.func204 (by kernel_rfl) (by kernel_rfl) (by kernel_rfl) (by kernel_rfl)))<|U0 (ap Tryz.func201)<|U0 (ap Tryz.func202)<|U0 (ap Tryz.func205)<|U0 (ap Tryz.func206)<|U0 (ap Tryz.func208)<|U0 (ap Tryz.func207)<|U0 (ap Tryz.func209)<|U0 (ap Tryz.func230)<|U0 (ap Tryz.func213)<|U0 (ap Tryz.func215)<|KS
def Up:Rw Tq:=U0 (ap Tryz.func226)<|KS
def Sf:List (Nat × au):=UH++UG++UF++UE++UD++UC++UB++UA++Uz++Uy++Tq
def Pr {l m:List (Nat × au)} (h:Rw l) (h2:Rw m):Rw (l++m):=fun p hp=>(Vx.1 hp).elim (h p) (h2 p)
def P8:Rw Sf:=(Pr (Pr (Pr (Pr (Pr (Pr (Pr (Pr (Pr (Pr UW UV) UU) UT) US) UR) UQ) UP) UO) UN) Up)
def tabOK:Kd Tryz.prog (look Sf):=fun _ _ h=>P8 _ (FV h)
theorem code:Code (look Sf):=by constructor <;> kernel_rfl
end Go.Proofs.YtiigaeehghcjiaaGreat.Ev
