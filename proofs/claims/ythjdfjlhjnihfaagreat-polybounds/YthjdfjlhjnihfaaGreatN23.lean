/- A part. -/
import Derived.Test.YthjdfjlhjnihfaaGreatA0
import Derived.Test.YthjdfjlhjnihfaaGreatN8
set_option linter.all false
namespace Go.Proofs.YthjdfjlhjnihfaaGreat.Ev
open Go Nn
section
variable {tab:Nat->Option aw} {H:Heap}
def NK {x y:Int} (h:y≠0):(if (decide ((x<0)≠(y<0)))=true then -((x.natAbs / y.natAbs:Nat):Int) else ((x.natAbs / y.natAbs:Nat):Int))=x.tdiv y:=by
 have key:∀ z:Int,z<0->∃ n:Nat,z = -(n:Int):=fun z hz=>⟨z.natAbs,zO⟩
 rcases Z7 x 0 with h1 | h1 <;> rcases Z7 y 0 with h2 | h2
 ·have e:decide ((x<0)≠(y<0))=false:=by simp [h1,h2]
  obtain ⟨n,rfl⟩:=key x h1;obtain ⟨m,rfl⟩:=key y h2;rw [e];simp [Zw,Int.tdiv_neg,Y6]
 ·have e:decide ((x<0)≠(y<0))=true:=by simp [h1]; omega
  obtain ⟨n,rfl⟩:=key x h1;obtain ⟨m,rfl⟩:=Xa h2;rw [e];simp [Zw,Y6]
 ·have e:decide ((x<0)≠(y<0))=true:=by simp [h2]; omega
  obtain ⟨n,rfl⟩:=Xa h1;obtain ⟨m,rfl⟩:=key y h2;rw [e];simp [Int.tdiv_neg,Y6]
 ·have e:decide ((x<0)≠(y<0))=false:=by
   have:¬ x<0:=zO
   have:¬ y<0:=zO
   simp [*]
  obtain ⟨n,rfl⟩:=Xa h1;obtain ⟨m,rfl⟩:=Xa h2;rw [e];simp [Y6]
def NT (n:Nat):decide (0<(ag n).length)=decide (n≠0):=by
 have:=bZ n
 congr 1;simp only [eq_iff_iff];omega
def PM (a b c d:Option AV):Option AV:=a.bind fun a=>b.bind fun b=>c.bind fun c=>d.bind fun d=>some (.tup [a,b,c,d])
theorem Iz (a b c d:AV):PM (some a) (some b) (some c) (some d)=some (.tup [a,b,c,d]):=rfl
def NQ (T:Tm) (H:Heap) (r s t u:Nat) (k l m n:Option (Option Nat)):ck T H [(r,k),(s,l),(t,m),(u,n)]=PM (sV H (ad T r) k) (sV H (ad T s) l) (sV H (ad T t) m) (sV H (ad T u) n):=by
 show (List.mapM (nl T H) [(r,k),(s,l),(t,m),(u,n)]).bind _=_;rw [<- jR T H (r,k),<- jR T H (s,l),<- jR T H (t,m),<- jR T H (u,n)];simp only [Wx,Zl,PM];cases nl T H (r,k) <;> cases nl T H (s,l) <;> cases nl T H (t,m) <;> cases nl T H (u,n) <;> rfl
def P8 (x y:Int):(!(decide (x<0) == decide (y<0)))=decide ((x<0)≠(y<0)):=by
 by_cases h1:x<0 <;> by_cases h2:y<0 <;> simp [h1,h2]
def xN (C:Code tab) (hw:Wf H) {a b:AV} {x y:Int} (ha:IntV H a x) (hb:IntV H b y) (hx:St x) (hy:St y) (h0:y≠0) :
  Ans tab (.fn jI [a,b]) H fun v H'=>∃ q,v=.tup [q,.bool (decide (x.natAbs % y.natAbs≠0)),.bool (decide ((x<0)≠(y<0))),.int .i64 0]/\IntV H' q (x.tdiv y)/\Kp H H':=by
 obtain ⟨p,rfl,hp⟩:=ha;obtain ⟨q,rfl,hq⟩:=hb;have op:=hp.one;have oq:=hq.one;refine bz C.q60 zU fun T hl g0 g1=>?_;refine zW (aC hl g0 g1) ?_;refine AnsH.eq (gL C zF (DO (x:=x) (y:=y) (H:=H) hp hq (zG H) (by refine uv ?_; rfl)) (by simp) fun z hz=>?_) fun H2 hk2=>?_
 ·simp at hz; rcases hz with rfl | rfl <;> assumption
 obtain ⟨k2,_,w2⟩:=zT H zK hk2;have b0:=hk2.get (b:=H.next) (e:=.cells [.bool (decide (x<0)),p] aa true) (cR);have b1:=hk2.get (b:=H.next+1) (e:=.cells [.bool (decide (y<0)),q] aa true) (cR);have b2:=hk2.get (b:=H.next+2) (e:=.cells [.bool false,.nilSl] aa true) (cR);refine zW (cr hl g0 g1 @b0 b1) ?_;refine AnsH.use (HN C zF (hp.mono (zG H)) (hq.mono (zG H)) hx hy zO) ?_;rintro v H3 ⟨o,r,rfl,ho,hr,hk3⟩;obtain ⟨k3,_,w3⟩:=zT H zK hk3;have c0:=hk3.get (b:=H.next) b0;have c1:=hk3.get (b:=H.next+1) b1;have c2:=hk3.get (b:=H.next+2) b2;obtain ⟨nb,hnb⟩:∃ nb,nb=decide ((x<0)≠(y<0)):=⟨_,rfl⟩
 obtain ⟨rb,hrb⟩:∃ rb,rb=decide (x.natAbs % y.natAbs≠0):=⟨_,rfl⟩
 obtain ⟨Qn,hQn⟩:∃ n,n=x.natAbs / y.natAbs:=⟨_,rfl⟩
 obtain ⟨Rn,hRn⟩:∃ n,n=x.natAbs % y.natAbs:=⟨_,rfl⟩
 have hne:=P8 x y;rw [<- hnb] at hne;rw [<- hQn] at ho;rw [<- hRn] at hr;have hlr:=NT Rn;have hte:=NK (x:=x) h0;rw [<- hnb,<- hQn] at hte;rw [<- hRn] at hrb;rw [<- hrb] at hlr;rw [<- hRn,<- hrb,<- hnb];refine zW (eW hl g0 g1 c0 @c1 hne) ?_;refine AnsH.use (fm C zF (ho.mono (zG H3)) _) ?_;rintro v4 H4 ⟨rfl,hk4⟩;obtain ⟨k4,_,_⟩:=zT H zK hk4;have o3:=ho.one;have d2:=hk4.get (b:=H.next+2) c2;have lt2:=k4.wf _ _ d2;have hr4:=hr.mono hk4.sub;refine zW (ki hl g0 g1 d2 hr4.lenV hlr @NQ @Iz) ?_;refine ⟨_,rfl,?_,zK⟩;rw [<- hte];exact ny _ ((ho.mono hk4.sub).monoT (SubT.put_ty d2 zU))
theorem RQ (a b c d:AV) (l:List AV):Eg 3 (.tup (a :: b :: c :: d :: l))=some d:=rfl
def CX (C:Code tab) (hw:Wf H) {a b:AV} {x y:Int} (ha:IntV H a x) (hb:IntV H b y) (hx:St x) (hy:St y) (h0:y≠0) (hd:x.natAbs % y.natAbs=0) :
  Ans tab (.fn mI [a,b]) H fun v H'=>∃ q,v=.tup [q,.int .i64 0]/\IntV H' q (x.tdiv y)/\Kp H H':=by
 obtain ⟨p,rfl,hp⟩:=ha;obtain ⟨q,rfl,hq⟩:=hb;have op:=hp.one;have oq:=hq.one;refine bz C.q184 zU fun T hl g0 g1=>?_;refine zW (aC hl g0 g1) ?_;refine AnsH.use (xN C zF ⟨p,rfl,hp.mono (zG H)⟩ ⟨q,rfl,hq.mono (zG H)⟩ hx hy h0) ?_;rintro v H3 ⟨w,rfl,⟨r,rfl,hr⟩,hk3⟩;obtain ⟨k3,_,w3⟩:=zT H zK hk3;have o3:=hr.one;have hrest:decide (x.natAbs % y.natAbs≠0)=false:=by simp [hd]
 rw [hrest];have d2:=hk3.get (b:=H.next+2) (e:=.cells [.bool false,.nilSl] aa true) (cR);have lt2:=k3.wf _ _ d2;have n3:H.next+17<=H3.next:=hk3.le
 have f3:H3.get (H.next+12)=none:=hk3.free (show _<H.next+17 by omega) (by rw [az zO,az zO,az zO]; exact hw.fresh (b:=H.next+12) zO);refine zW (cr hl g0 g1 d2 @RQ) ?_;have s3:Sub (H3.up 8) (((H3.up 8).put (H.next+12) (Ent.cells [AV.bool false,AV.nilSl] aa true)).put (H.next+12) (Ent.cells [AV.bool (decide (x.tdiv y<0)),r] aa true)):=(aP (H:=H3.up 8) f3).put f3 _;have hr2:=(hr.mono (Sub.bump H3 8)).mono s3;have d3:(((H3.up 8).put (H.next+12) (Ent.cells [AV.bool false,AV.nilSl] aa true)).put (H.next+12) (Ent.cells [AV.bool (decide (x.tdiv y<0)),r] aa true)).get (H.next+2)=some (.cells [.bool false,.nilSl] aa true):=by exact zV d2
 refine ⟨_,rfl,⟨r,rfl,hr2.monoT (SubT.put_ty d3 zU)⟩,?_⟩;have n4:H3.next<=(H3.up 8).next:=Vz _ _
 refine ((((k3.up 8).put ?_ ?_).put ?_ ?_).put ?_ ?_)
 all_goals (first | omega | (simp only [next_put]; omega))
def Oq (C:Code tab) (hw:Wf H) {a b:AV} {x y:Nat} (ha:cp H a x) (hb:cp H b y) (hx:Sm x) (hy:Sm y) :
  Ans tab (.fn uQ [a,b]) H fun v H'=>∃ r,v=.tup [r,.int .i64 0]/\cp H' r (Nat.gcd x y)/\Kp H H':=by
 have hox:=ha.one;have hoy:=hb.one;refine bz C.q183 zU fun T hl g0 g1=>?_;refine zW (aC hl g0 g1) ?_;refine AnsH.eq (y8 C zF (Ar (H:=H) ha hb (zG H) (by refine uv ?_; rfl)) (by simp) fun c hc=>?_) fun H2 hk2=>?_
 ·unfold Sm at hx hy;simp at hc; rcases hc with rfl | rfl
  ·exact ⟨zO,(cW _)⟩
  ·exact ⟨zO,(cW _)⟩
 obtain ⟨k2,_,w2⟩:=zT H zK hk2;refine zW (aC hl g0 g1) ?_;refine kN H2 [0,1] (fun k vs H'=>∃ a' b' x' y',vs=[a',b']/\cp H' a' x'/\cp H' b' y'/\Sm x'/\Sm y'/\Nat.gcd x' y'=Nat.gcd x y/\k=y') (fun vs H'=>∃ a' b',vs=[a',b']/\cp H' a' (Nat.gcd x y)/\Sm (Nat.gcd x y)) y (by simp only [dj,hl]; rfl) rfl zK ⟨a,b,x,y,by exact zV (aC hl g0 g1),ha.mono k2.sub,hb.mono k2.sub,hx,hy,rfl,rfl⟩ ?_ ?_
 ·rintro k T1 H1 hl1 hs1 hk1 ⟨a',b',x',y',hv,na,nb,sx,sy,hg,hk⟩;have w1:=hk1.wf;have le_hk1:=hk1.le;have o1:=nb.one;simp only [wW,AO,zB,and_true] at hv;obtain ⟨v0,v1⟩:=hv;have hlen:=bZ y';refine zW (aV hl1 v0 v1 nb.lenV) ?_;refine iteH.split (fun h=>?_) fun h=>?_
  ·refine zW (aC hl1 v0 v1) ?_;refine AnsH.use (HN C zF (na.mono (zG H1)) (nb.mono (zG H1)) sx sy zO) ?_;rintro v H3 ⟨o,r,rfl,ho,hr,hk3⟩;obtain ⟨k3,_,w3⟩:=zT H2 zK hk3;refine zW (aC hl1 v0 v1) ?_;have hlt:x' % y'<y':=VO _ zO;refine ⟨zK,x' % y',zO,_,_,y',x' % y',rfl,nb.mono hk3.sub,hr,sy,Sm.mono (WW hlt) sy,?_,rfl⟩;rw [<- hg,Nat.gcd_comm x' y',Nat.gcd_rec y' x',Nat.gcd_comm]
  ·refine zW (aC hl1 v0 v1) ?_;refine ⟨zK,_,_,rfl,?_⟩;have h00:y'=0:=zO;rw [h00,Nat.gcd_zero_right] at hg;rw [<- hg];exact ⟨na.mono (zG H1),sx⟩
 ·rintro T1 H1 hl1 hs1 hk1 ⟨a',b',hv,na,sg⟩;have w1:=hk1.wf;have le_hk1:=hk1.le;simp only [wW,AO,zB,and_true] at hv;obtain ⟨v0,v1⟩:=hv;unfold Sm at sg;have hz:SlV (bT cm) ae (H1.up 4) a' (ag (Nat.gcd x y)):=na.mono (Sub.bump H1 4);obtain ⟨v',H4,e1,h2,k4,n4,-,-⟩:=Bl.app (E:=bT cm) (ty:=ae) (bytes:=8) (id:=H1.next+1) (H0:=H1) (H:=H1.up 4) (v:=.nilSl) (l:=[]) (.inl ⟨rfl,rfl⟩) zU zK hz zO (by refine uv ?_; omega) (w1.fresh (b:=H1.next+1) zO) (fun b n h=>by cases h) (by simp; omega) (by simp; omega);have e1':cN (H1.up 4) (H1.next+1) 1 8 ae .nilSl a'=some (v',H4):=e1;refine zW (aC hl1 v0 e1') ?_;exact ⟨_,rfl,Bl.sl h2,Kp.trans (Kp.trans k2 hk1) k4⟩
end
section
variable {tab:Nat->Option aw} {H:Heap} {s:AV}
def rawE:fh (Bool × List Nat) where
 sz:=2
 tys:=[ae]
 R H cs z:=∃ v,cs=[.bool z.1,v]/\Lb H v z.2
 pos:=zO
 len:=by rintro H cs z ⟨v,rfl,h⟩; exact ⟨rfl,by simp [h.one.2]; rfl⟩
 mono:=by rintro H H' cs z hs ⟨v,rfl,h⟩; exact ⟨v,rfl,h.monoT hs⟩
def SK (z:Bool × List Nat):Bool:=decide (z.2.getLast? = some 0) || (z.1 && decide (z.2.length=0))
def CY (C:Code tab) (hw:Wf H) {b:Bool} {l:List Nat} {w:AV} (hn:Lb H w l) (hbig:l.length<4611686018427387904):Ans tab (.fn jS [.agg [.bool b,w]]) H fun v H'=>v=.int .i64 (if SK (b,l) then 8 else 0)/\Kp H H':=by
 have ow:=hn.one;refine cQ C.q36 zU fun T hl g0=>?_;refine zW (aB hl g0) ?_;have k1:Kp H ((H.up 16).put H.next (.cells [.bool b,w] aa true)):=zK;have le_k1:=k1.le;refine AnsH.eq (kR C k1.wf (hn.mono k1.sub) hbig) fun H2 hk2=>?_;have k2:=k1.trans hk2;have b0:H2.get H.next=some (.cells [.bool b,w] aa true):=hk2.get (au _ _ _)
 by_cases hz:l.getLast? = some 0
 ·rw [if_pos hz];refine zW (aC hl g0 @b0) ?_;exact ⟨by simp [SK,hz],zK⟩
 ·rw [if_neg hz];cases b with
  | false =>
   refine zW (aC hl g0 @b0) ?_;exact ⟨by simp [SK,hz],zK⟩
  | true =>
   refine zW (aV hl g0 @b0 hn.lenV) ?_;refine iteH.split (fun h=>?_) fun h=>?_
   ·have e:l=[]:=Vp zO;refine zW (aB hl g0) ?_;exact ⟨by simp [SK,hz,e],zK⟩
   ·have e:l≠[]:=fun e=>h (by rw [e]; rfl);refine zW (aB hl g0) ?_;exact ⟨by simp [SK,hz,e],zK⟩
def lM {α:Type} (p:α->Bool) (l:List α):Int:=match l.findIdx? p with
 | some i=>(i:Int)
 | none=>-1
def qO {α:Type} {p:α->Bool} {l:List α} {j:Nat} (hj:j<l.length) (h0:∀ k (h:k<l.length),k<j->p l[k]=false) (h1:p l[j]=true):lM p l=(j:Int):=by
 have:l.findIdx? p=some j:=by
  rw [VP];exact ⟨hj,h1,fun k hk=>by rw [h0 k zO hk]; simp⟩
 simp [lM,this]
def lJ {α:Type} {p:α->Bool} {l:List α} (h0:∀ k (h:k<l.length),p l[k]=false):lM p l = -1:=by
 have:l.findIdx? p=none:=by
  rw [Xo];intro x hx;obtain ⟨k,hk,rfl⟩:=V6 hx;exact h0 k hk
 simp [lM,this]
def qP {α:Type} (p:α->Bool) (l:List α):decide (lM p l ≥ 0)=l.any p:=by
 cases h:l.findIdx? p with
 | none =>
  have:l.any p=false:=by
   rw [Xo] at h;rw [Wh]; intro x hx; simp [h x hx]
  simp [lM,h,this]
 | some i =>
  have:l.any p=true:=by
   rw [VP] at h;obtain ⟨hi,h1,-⟩:=h;rw [VA]; exact ⟨_,rZ hi,h1⟩
  simp [lM,h,this]
def Az (C:Code tab) (hw:Wf H) {α:Type} {E:fh α} {ty fi:Nat} {first caps:List AV} {l:List α} (hE:E.sz=2) (hs:SlV E ty H s l) (hbig:l.length<4611686018427387904) (p:α->Bool)
  (hf:∀ a∈l,∀ H' cs,Kp H H'->E.R H' cs a->Ans tab (.fn fi (first++[.agg cs]++caps)) H' fun v H2=>v=.bool (p a)/\Kp H' H2) :
  Ans tab (.fn cC [s,.fn (.func fi) first caps]) H fun v H'=>v=.int .i64 (lM p l)/\Kp H H':=by
 refine bz C.q88 zU fun T hl g0 g1=>?_;refine zW (aV hl g0 g1 hs.lenV) ?_;refine am H [] (fun j _ _=>∀ k (h:k<l.length),k<j->p l[k]=false) (a:=0) (N:=l.length) rfl (by refine zW (aC hl g0 g1) ?_; rfl) (zV (aC hl g0 g1)) (II _) zO (by simp only [dj,hl]; rfl) rfl (fun _ _ _ _ h=>h) zK (fun k _ h=>by omega) ?_ ?_
 ·intro j T1 H1 _ hj hl1 hi1 hs1 hk1 hP;have w1:=hk1.wf;have le_hk1:=hk1.le;have t0:ad T1 0=s:=(hs1.at_ 0 zU).trans (zV (aB hl g0));have t1:ad T1 1=.fn (.func fi) first caps:=(hs1.at_ 1 zU).trans (zV (aV hl g0 g1 g1))
  obtain ⟨cs,hr,hlen,-,hld⟩:=(hs.mono hk1.sub).at (pD hj);have hix:=SlV.idx hs .i64 j hj;rw [hE] at hld hix;simp only [dj,hl] at hl1;refine zW (eW hl1 t0 t1 hi1 hix hld) ?_;refine AnsH.eq (hf _ (rZ hj) _ cs zK (E.mono ((zG H1).t _) hr)) fun H2 hk2=>?_;obtain ⟨k2,_,_⟩:=zT H zK hk2;cases hp:p l[j] with
  | true =>
   refine zW hl1 ?_;exact ⟨by rw [qO hj hP hp],zK⟩
  | false =>
   refine zW hl1 ?_;refine ⟨zK,fun k h hk=>?_⟩;by_cases e:k=j
   ·subst e; exact hp
   ·exact hP k h zO
 ·intro T1 H1 hl1 hs1 hk1 hP;simp only [dj,hl] at hl1;refine zW hl1 ?_;exact ⟨by rw [lJ fun k h=>hP k h h],zK⟩
def nI (C:Code tab) (hw:Wf H) {α:Type} {E:fh α} {ty fi:Nat} {first caps:List AV} {l:List α} (hE:E.sz=2) (hs:SlV E ty H s l) (hbig:l.length<4611686018427387904) (p:α->Bool)
  (hf:∀ a∈l,∀ H' cs,Kp H H'->E.R H' cs a->Ans tab (.fn fi (first++[.agg cs]++caps)) H' fun v H2=>v=.bool (p a)/\Kp H' H2) :
  Ans tab (.fn Sq [s,.fn (.func fi) first caps]) H fun v H'=>v=.bool (l.any p)/\Kp H H':=by
 refine bz C.q55 zU fun T hl g0 g1=>?_;refine zW (aC hl g0 g1) ?_;refine AnsH.eq (Az C zF hE (hs.mono (zG H)) hbig p fun a ha H' cs hk hr=>hf a ha H' cs (Kp.trans (H:=H) zK hk) hr) fun H2 hk2=>?_;obtain ⟨k2,_,_⟩:=zT H zK hk2;refine zW (aC hl g0 g1) ?_;exact ⟨by rw [qP],zK⟩
def BP (C:Code tab) (hw:Wf H) {cs:List AV} {z:Bool × List Nat} (hz:rawE.R H cs z) (hbig:z.2.length<4611686018427387904) :
  Ans tab (.fn lu [.agg cs]) H fun v H'=>v=.bool (SK z)/\Kp H H':=by
 obtain ⟨w,rfl,hn⟩:=hz;obtain ⟨b,l⟩:=z;have ow:=hn.one;refine cQ C.q56 zU fun T hl g0=>?_;refine zW (aB hl g0) ?_;refine AnsH.eq (CY C zF (hn.mono (zG H)) hbig) fun H2 hk2=>?_;obtain ⟨k2,_,_⟩:=zT H zK hk2;cases SK (b,l) with
 | true =>
  rw [if_pos rfl];refine zW (aB hl g0) ?_;exact zK
 | false =>
  rw [if_neg zU];refine zW (aB hl g0) ?_;exact zK
def Aj (l:List (Bool × List Nat)):Bool:=decide (l.length<=64) && !l.any SK
def vJ (l:List (Bool × List Nat)):Prop:=l.length<4611686018427387904/\∀ z∈l,z.2.length<4611686018427387904
def qC (C:Code tab) (hw:Wf H) {l:List (Bool × List Nat)} (hs:SlV rawE aa H s l) (hbig:vJ l) :
  Ans tab (.fn l9 [s]) H fun v H'=>v=.int .i64 (if Aj l then 0 else 8)/\Kp H H':=by
 refine cQ C.q24 zU fun T hl g0=>?_;by_cases h64:l.length<=64
 ·have e:¬ (64:Int)<(l.length:Int):=zO;refine zW (aV hl g0 hs.lenV e) ?_;refine AnsH.eq (nI C zF rfl (hs.mono (zG H)) hbig.1 SK fun a ha H' cs hk hr=>BP C hk.wf hr (hbig.2 a ha)) fun H2 hk2=>?_;obtain ⟨k2,_,_⟩:=zT H zK hk2;cases ha:l.any SK with
  | true =>
   refine zW (aB hl g0) ?_;exact ⟨by simp only [Aj,ha]; simp,zK⟩
  | false =>
   refine zW (aB hl g0) ?_;exact ⟨by simp only [Aj,ha]; simp [h64],zK⟩
 ·have e:(64:Int)<(l.length:Int):=zO;refine zW (aV hl g0 hs.lenV e) ?_;exact ⟨by simp [Aj,h64],zK⟩
end
def NoTy (tys:List Nat) (H:Heap) (b:Nat):Prop:=∀ cs t r,t∈tys->H.get b≠some (.cells cs t r)
def NoTy.none {tys:List Nat} {H:Heap} {b:Nat} (h:H.get b=none):NoTy tys H b:=fun cs t r _ e=>by rw [h] at e; cases e
def NoTy.ty {tys:List Nat} {H:Heap} {b ty:Nat} {cs:List AV} {r:Bool} (h:H.get b=some (.cells cs ty r)) (hn:ty ∉ tys):NoTy tys H b:=fun cs' t r' ht e=>by rw [h] at e; cases e; exact hn ht
def NoTy.fresh {tys:List Nat} {H:Heap} {b:Nat} (hw:Wf H) (h:H.next<=b):NoTy tys H b:=NoTy.none (hw.fresh h)
def SubT.refl (tys:List Nat) (H:Heap):SubT tys H H:=fun _ _ _ _ _ h=>h
def SubT.upR {tys:List Nat} {H H':Heap} {m:Nat} (h:SubT tys H H'):SubT tys H (H'.up m):=h
def SubT.puts {tys:List Nat} {H H':Heap} {b:Nat} {e:Ent} (h:SubT tys H H') (hb:NoTy tys H b):SubT tys H (H'.put b e):=fun c cs t r ht hc=>by
 rw [az (fun e1=>hb cs t r ht (by rw [<- e1]; exact hc))]; exact h c cs t r ht hc
def SubT.kills {tys:List Nat} {H H':Heap} {b:Nat} (h:SubT tys H H') (hb:NoTy tys H b):SubT tys H (H'.kill b):=fun c cs t r ht hc=>by
 rw [dg (fun e1=>hb cs t r ht (by rw [<- e1]; exact hc))]; exact h c cs t r ht hc
def SubT.trans {tys:List Nat} {H H' H'':Heap} (h:SubT tys H H') (h':SubT tys H' H''):SubT tys H H'':=fun c cs t r ht hc=>h' c cs t r ht (h c cs t r ht hc)
def zS {P:Prop} (h:P:=by repeat (first | assumption | exact SubT.refl _ _ | exact Sub.t (by assumption) _ | refine SubT.upR ?_ | refine SubT.puts ?_ (by first | assumption | exact NoTy.fresh (by assumption) zO) | refine SubT.kills ?_ (by first | assumption | exact NoTy.fresh (by assumption) zO))):P:=h
def IntV.monoT {H H':Heap} {v:AV} {z:Int} (hs:SubT [ae] H H') (h:IntV H v z):IntV H' v z:=by
 obtain ⟨w,rfl,h⟩:=h; exact ⟨w,rfl,SlV.monoT (E:=bT cm) hs h⟩
def Bt (e:Nat) (z:Int):Prop:=z.natAbs<2^e
def Bt.mono {e f:Nat} {z:Int} (h:Bt e z) (hf:e<=f):Bt f z:=Vi h (VD zU hf)
def Bt.zero (e:Nat):Bt e 0:=VL zU
def Bt.neg {e:Nat} {z:Int} (h:Bt e z):Bt e (-z):=by unfold Bt at *; rwa [WL]
def Bt.mul {e f:Nat} {x y:Int} (h:Bt e x) (h':Bt f y):Bt (e+f) (x*y):=by
 unfold Bt at *;rw [Yv,VZ];exact Zs h h'
def Bt.add {e f:Nat} {x y:Int} (h:Bt e x) (h':Bt f y):Bt (max e f+1) (x+y):=by
 have h1:=h.mono (Nat.le_max_left e f);have h2:=h'.mono (Nat.le_max_right e f);unfold Bt at *;rw [VF]
 have:=Yw x y
 omega
def Bt.len {e:Nat} {z:Int} (h:Bt e z) (he:e<=8796093022208):(ag z.natAbs).length<274877906944:=by
 have h1:z.natAbs<B^(e / 64+1):=by
  have hb:B=2^64:=by decide
  rw [hb,<- Ym];exact Vi h (VD zU zO)
 have:=gZ h1
 omega
def Bt.sm {e:Nat} {z:Int} (h:Bt e z) (he:e<=8796093022208):St z:=by
 have:=h.len he
 unfold St Sm; omega
def jB:AV->Option Nat
 | .own b _ _ _ _ _=>some b
 | _=>none
def Fr (H:Heap) (v:AV):Prop:=∀ b,jB v=some b->H.next<=b
abbrev RowV (H:Heap) (v:AV) (l:List Int):Prop:=SlV intE aa H v l
abbrev dS (H:Heap) (v:AV) (ls:List (List Int)):Prop:=xJ (rl intE aa) af H v ls
def eR (z:Int):Bool × List Nat:=(decide (z<0),ag z.natAbs)
def SlV.raw {ty:Nat} {H:Heap} {v:AV} {l:List Int} (h:SlV intE ty H v l):SlV rawE ty H v (l.map eR):=by
 obtain ⟨cells,hr,ht,hc,ha⟩:=h;refine ⟨cells,hr,ht,by rw [hc,B8]; rfl,fun i a hi=>?_⟩;rw [VT] at hi;cases hz:l[i]? with
 | none=>rw [hz] at hi; cases hi
 | some z =>
  rw [hz] at hi; cases hi;obtain ⟨w,h1,h2⟩:=ha i z hz;exact ⟨w,h1,h2⟩
def ET (z:Int):SK (eR z)=false:=by
 have h1:¬ (ag z.natAbs).getLast? = some 0:=cW z.natAbs;have h2:=bZ z.natAbs;show (decide ((ag z.natAbs).getLast? = some 0) || (decide (z<0) && decide ((ag z.natAbs).length=0)))=false;rw [decide_eq_false h1,X5];by_cases h:z<0
 ·have h3:¬ (ag z.natAbs).length=0:=by have:=h2.2 zO; omega
  rw [decide_eq_false h3,Bool.and_false]
 ·rw [decide_eq_false h,Y4]
section
variable {tab:Nat->Option aw} {H:Heap} {s:AV}
def sO (C:Code tab) (hw:Wf H) {l:List Int} (hs:RowV H s l) (h64:l.length<=64) (hz:∀ z∈l,St z):Ans tab (.fn l9 [s]) H fun v H'=>v=.int .i64 0/\Kp H H':=by
 refine (qC C hw hs.raw ⟨by rw [B8]; omega,fun z h=>?_⟩).mono fun v H' h=>?_
 ·rw [uL] at h;obtain ⟨a,ha,rfl⟩:=h
  have:=hz a ha
  unfold St Sm at this;show (ag a.natAbs).length<_;omega
 ·have e:Aj (l.map eR)=true:=by
   simp only [Aj,B8,List.any_map,Vy,decide_eq_true_eq,V3,Wh];exact ⟨h64,fun z _=>by simp [ET]⟩
  rw [e,if_pos rfl] at h;exact h
def dy {ty:Nat} {ls:List (List Int)} (hs:xJ (rl intE aa) ty H s ls) {i:Nat} (hi:i<ls.length):∃ w,RowV H w ls[i]/\aW H none (ap s i)=some w:=SlV.at1 hs (pD hi)
def gh (C:Code tab) (hw:Wf H) {ls:List (List Int)} {ty d:Nat} (hs:xJ (rl intE aa) ty H s ls) (h0:0<ls.length) (hbig:ls.length<4611686018427387904) (hd:d<=64) (hc:∀ r∈ls,r.length=d/\∀ z∈r,St z) :
  Ans tab (.fn mL [s]) H fun v H'=>v=.int .i64 0/\Kp H H':=by
 refine cQ C.q26 zU fun T hl g0=>?_;refine zW (aC hl g0 hs.lenV) ?_;refine am H [] (fun _ _ _=>True) (a:=0) (N:=ls.length) rfl (by refine zW (aB hl g0) ?_; rfl) (zV (aB hl g0)) (II _) zO (by simp only [dj,hl]; rfl) rfl (fun _ _ _ _ h=>h) zK trivial ?_ ?_
 ·intro j T1 H1 _ hj hl1 hi1 hs1 hk1 _;have w1:=hk1.wf;have le_hk1:=hk1.le;have t8:ad T1 8=s:=(hs1.at_ 8 zU).trans (zV (aB hl g0));obtain ⟨w,hr,hld⟩:=dy (hs.mono hk1.sub) hj;have hix:=SlV.idx1 hs .i64 j hj;have hcc:=hc _ (rZ hj);simp only [dj,hl] at hl1;refine zW (cr hl1 t8 hi1 hix hld) ?_;refine AnsH.eq (sO C zF (hr.mono (zG H1)) zO hcc.2) fun H2 hk2=>?_;obtain ⟨k2,_,_⟩:=zT H zK hk2;refine zW hl1 ?_;exact zK
 ·intro T1 H1 hl1 hs1 hk1 _;have w1:=hk1.wf;have le_hk1:=hk1.le;have t0:ad T1 0=s:=(hs1.at_ 0 zU).trans (zV (aB hl g0));obtain ⟨v',e,hr⟩:=hs.lo .i64 1 zO;have e':bD 1 s (some (.int .i64 1)) none none=some v':=e;have hr':xJ (rl intE aa) ty H v' (ls.drop 1):=hr;simp only [dj,hl] at hl1;refine zW (aV hl1 t0 e' hr.lenV) ?_;refine am H [] (fun _ _ _=>True) (a:=0) (N:=(ls.drop 1).length) rfl (by refine zW hl1 ?_; rfl) (zV hl1) (II _) (by simp; omega) (by simp only [dj,hl1]; rfl) rfl (fun _ _ _ _ h=>h) zK trivial ?_ ?_
  ·intro j T2 H2 _ hj hl2 hi2 hs2 hk2 _;have w2:=hk2.wf;have le_hk2:=hk2.le;have t21:ad T2 21=v':=(hs2.at_ 21 zU).trans (zV hl1);have t0':ad T2 0=s:=(hs2.at_ 0 zU).trans (zV (aB hl1 t0));obtain ⟨w,hr2,hld⟩:=dy (hr'.mono hk2.sub) hj;obtain ⟨w0,hr0,hld0⟩:=dy (hs.mono hk2.sub) h0;have hix:=SlV.idx1 hr' .i64 j hj;have hix0:co 1 s (.int .i64 0)=some (ap s 0):=SlV.idx1 hs .i64 0 h0;have l2:lenV w=some (.int .i64 (d:Int)):=by rw [hr2.lenV,(hc _ (XH (rZ hj))).1]
   have l0:lenV w0=some (.int .i64 (d:Int)):=by rw [hr0.lenV,(hc _ (rZ h0)).1]
   simp only [dj,hl1] at hl2;refine zW (rM hl2 t21 hi2 hix hld t0' hix0 hld0 l2 l0) ?_;exact zK
  ·intro T2 H2 hl2 hs2 hk2 _;simp only [dj,hl1] at hl2;refine zW hl2 ?_;exact zK
def MuI (z:Int):Prop:=(ag z.natAbs).length<274877906944
def MuI.sm {z:Int} (h:MuI z):St z:=by unfold MuI at h; unfold St Sm; omega
def GQ (C:Code tab) (hw:Wf H) {a b:AV} {x y:Int} (ha:IntV H a x) (hb:IntV H b y) (hx:St x) (hy:St y):Ans tab (.fn uI [a,b]) H fun v H'=>IntV H' v (x+y)/\Kp H H':=by
 obtain ⟨p,rfl,hp⟩:=ha;obtain ⟨q,rfl,hq⟩:=hb;have op:=hp.one;have oq:=hq.one;refine bz C.q28 zU fun T hl g0 g1=>?_;refine zW (aC hl g0 g1) ?_;refine AnsH.use (Iw C zF ⟨p,rfl,hp.mono (zG H)⟩ ⟨q,rfl,hq.mono (zG H)⟩ hx hy) ?_;rintro v H2 ⟨r,rfl,⟨w,rfl,hr⟩,hk2⟩;obtain ⟨k2,_,w2⟩:=zT H zK hk2;have ow:=hr.one;have n2:H.next+12<=H2.next:=hk2.le
 have d2:=hk2.get (b:=H.next+2) (e:=.cells [.bool false,.nilSl] aa true) (cR);have f2:H2.get (H.next+9)=none:=hk2.free (show _<H.next+12 by omega) (by rw [az zO,az zO,az zO]; exact hw.fresh (b:=H.next+9) zO);have m2:NoTy [ae] H2 (H.next+2):=NoTy.ty d2 zU;have m9:NoTy [ae] H2 (H.next+9):=NoTy.none f2;refine zW (aV hl g0 g1 d2) ?_;exact ⟨⟨w,rfl,SlV.monoT (E:=bT cm) zS hr⟩,zK⟩
def lZ (C:Code tab) (hw:Wf H) {a b:AV} {x y:Int} (ha:IntV H a x) (hb:IntV H b y) (hx:MuI x) (hy:MuI y):Ans tab (.fn mJ [a,b]) H fun v H'=>IntV H' v (x*y)/\Kp H H':=by
 obtain ⟨p,rfl,hp⟩:=ha;obtain ⟨q,rfl,hq⟩:=hb;have op:=hp.one;have oq:=hq.one;refine bz C.q27 zU fun T hl g0 g1=>?_;refine zW (aC hl g0 g1) ?_;refine AnsH.use (Iu C zF ⟨p,rfl,hp.mono (zG H)⟩ ⟨q,rfl,hq.mono (zG H)⟩ hx hy) ?_;rintro v H2 ⟨r,rfl,⟨w,rfl,hr⟩,hk2⟩;obtain ⟨k2,_,w2⟩:=zT H zK hk2;have ow:=hr.one;have n2:H.next+12<=H2.next:=hk2.le
 have d2:=hk2.get (b:=H.next+2) (e:=.cells [.bool false,.nilSl] aa true) (cR);have f2:H2.get (H.next+9)=none:=hk2.free (show _<H.next+12 by omega) (by rw [az zO,az zO,az zO]; exact hw.fresh (b:=H.next+9) zO);have m2:NoTy [ae] H2 (H.next+2):=NoTy.ty d2 zU;have m9:NoTy [ae] H2 (H.next+9):=NoTy.none f2;refine zW (aV hl g0 g1 d2) ?_;exact ⟨⟨w,rfl,SlV.monoT (E:=bT cm) zS hr⟩,zK⟩
def rj (g:Nat->Int->Int) (l:List Int) (j:Nat):List Int:=(List.range l.length).map fun i=>if i<j then g i (l.getD i 0) else 0
def Jd (g:Nat->Int->Int) (l:List Int):rj g l 0=List.replicate l.length 0:=by
 simp [rj,List.map_const']
def Dy (g:Nat->Int->Int) (l:List Int) (j:Nat):(rj g l j).length=l.length:=by simp [rj]
def LF (g:Nat->Int->Int) (l:List Int) {j:Nat} (hj:j<l.length):(rj g l j).set j (g j l[j])=rj g l (j+1):=by
 apply WV
 ·simp [rj]
 ·intro i h1 h2;have hi:i<l.length:=by simpa [rj] using h2
  rw [List.getElem_set];by_cases e:j=i
  ·subst e; simp [rj,hj]
  ·rw [if_neg e];simp only [rj,XS,List.getElem_range];by_cases h:i<j
   ·rw [if_pos h,if_pos zO]
   ·rw [if_neg h,if_neg zO]
def LG (g:Nat->Int->Int) (l:List Int):rj g l l.length=l.mapIdx g:=by
 apply WV
 ·simp [rj]
 ·intro i h1 h2;have hi:i<l.length:=by simpa [rj] using h1
  simp [rj,hi]
def vU (C:Code tab) (hw:Wf H) {l:List Int} {fi:Nat} {first caps:List AV} (hs:RowV H s l) (hbig:l.length<1099511627776) (g:Nat->Int->Int)
  (hf:∀ i (hi:i<l.length) H' w,Kp H H'->IntV H' w l[i]->Ans tab (.fn fi (first++[.int .i64 (i:Int),w]++caps)) H' fun v H2=>IntV H2 v (g i l[i])/\Kp H' H2) :
  Ans tab (.fn nV [s,.fn (.func fi) first caps]) H fun v H'=>RowV H' v (l.mapIdx g)/\Kp H H'/\Fr H v:=by
 refine bz C.q164 zU fun T hl g0 g1=>?_;have hmk:∀ H':Heap,Ho H' (H.next+3) aa 2 32 [.bool false,.nilSl] (.int .i64 (l.length:Int)) (.int .i64 (l.length:Int))=some (.own (H.next+3) 0 l.length l.length 2 true,H'.put (H.next+3) (.cells ((List.replicate l.length [AV.bool false,AV.nilSl]).flatten) aa true)):=fun H'=>iW _ _ _ _ _ _ _ _ _ zO zO rfl;refine zW (cr hl g0 g1 hs.lenV hmk) ?_;have hz:intE.R H [.bool false,.nilSl] 0:=⟨.nilSl,by simp,fM H⟩
 refine am H [] (fun j _ H'=>∃ cells,H'.get (H.next+3)=some (.cells cells aa true)/\Cells intE H' cells (rj g l j)) (a:=0) (N:=l.length) rfl (by refine zW (aC hl g0 g1) ?_; rfl) (zV (aC hl g0 g1)) (II _) zO (by simp only [dj,hl]; rfl) rfl (fun j vs H' m ⟨cells,h1,h2⟩=>⟨cells,h1,h2.mono ((Sub.bump H' m).t _)⟩) zK ⟨_,by refine uv ?_; rfl,?_⟩ ?_ ?_
 ·rw [Jd];exact (qH hz _).mono ((zG H).t _)
 ·rintro j T1 H1 _ hj hl1 hi1 hs1 hk1 ⟨cells,hb,hcl⟩;have w1:=hk1.wf;have le_hk1:=hk1.le;have t11:ad T1 11=s:=(hs1.at_ 11 zU).trans (zV (aB hl g0));have t5:ad T1 5=.own (H.next+3) 0 l.length l.length 2 true:=(hs1.at_ 5 zU).trans (zV (aC hl g0 g1));have t1:ad T1 1=.fn (.func fi) first caps:=(hs1.at_ 1 zU).trans (zV (aV hl g0 g1 g1))
  obtain ⟨w,hn,hld,-,-⟩:=jM (hs.mono hk1.sub) hj;have hix:co 2 s (.int .i64 (j:Int))=some (ap s (j*2)):=SlV.idx hs .i64 j hj;have ow:=hn.one;have lt3:=w1 _ _ hb;simp only [dj,hl] at hl1;refine zW (gf hl1 t11 t5 t1 hi1 hix hld) ?_;refine AnsH.use (hf j hj _ (.agg [.bool (decide (l[j]<0)),w]) zK ⟨w,rfl,hn.mono (zG H1)⟩) ?_;rintro v H2 ⟨⟨w2,rfl,hn2⟩,hk2⟩;obtain ⟨k2,_,_⟩:=zT H zK hk2;have w2':=k2.wf;have ow2:=hn2.one;have hb2:=hk2.get (b:=H.next+3) (e:=.cells cells aa true) (zV hb);have lt32:=w2' _ _ hb2;have hclen:cells.length=l.length*2:=by have:=hcl.1; rwa [Dy] at this
  have hst:Db (some (.cells cells aa true)) 2 (0+j*2) (.agg [.bool (decide (g j l[j]<0)),w2])=some (.cells (cells.take (0+j*2)++[.bool (decide (g j l[j]<0)),w2]++cells.drop (0+j*2+2)) aa true):=iN (Ee (aQ _) ow2) zO;have hio:co 2 (.own (H.next+3) 0 l.length l.length 2 true) (.int .i64 (j:Int))=some (.ptr (H.next+3) (0+j*2)):=mj hj;rw [VB] at hst hio;have m3:NoTy [ae] H2 (H.next+3):=NoTy.ty hb2 zU;refine zW (aV hl1 hio hb2 hst) ?_;refine ⟨zK,_,rfl,?_⟩;rw [<- LF g l hj];have hcl2:Cells intE H2 cells (rj g l j):=hcl.mono ((Kp.sub (H:=H1) (Kp.trans zK hk2)).t _);exact Cells.mono (E:=intE) zS (hcl2.set (i:=j) (by rw [Dy]; exact hj) ⟨w2,rfl,hn2⟩)
 ·rintro T1 H1 hl1 hs1 hk1 ⟨cells,hb,hcl⟩;have w1:=hk1.wf;have le_hk1:=hk1.le;have t5:ad T1 5=.own (H.next+3) 0 l.length l.length 2 true:=(hs1.at_ 5 zU).trans (zV (aC hl g0 g1));simp only [dj,hl] at hl1;refine zW (aB hl1 t5) ?_;refine ⟨?_,zK,fun b hb=>by cases hb; omega⟩;rw [LG] at hcl
  have:Own intE aa H H1 (H.next+3) true (.own (H.next+3) 0 l.length l.length 2 true) (l.mapIdx g):=⟨cells,by simp [intE],hb,hcl,zO⟩
  exact this.sl.mono (Sub.bump H1 _)
def xQ (C:Code tab) (hw:Wf H) {l:List Int} {fi:Nat} {first caps:List AV} (hs:RowV H s l) (hbig:l.length<1099511627776) (g:Nat->Int->Int)
  (hf:∀ i (hi:i<l.length) H' w,Kp H H'->IntV H' w l[i]->Ans tab (.fn fi (first++[.int .i64 (i:Int),w]++caps)) H' fun v H2=>IntV H2 v (g i l[i])/\Kp H' H2) :
  Ans tab (.fn nV [s,.fn (.func fi) first caps]) H fun v H'=>RowV H' v (l.mapIdx g)/\Kp H H':=(vU C hw hs hbig g hf).mono fun _ _ ⟨h1,h2,_⟩=>⟨h1,h2⟩
end
end Go.Proofs.YthjdfjlhjnihfaaGreat.Ev
namespace Go.Proofs.YthjdfjlhjnihfaaGreat.Lin
abbrev V:=List Int
def dot:V->V->Int
 | a :: x,b :: y=>a*b+dot x y
 | _,_=>0
def mix (m:Int) (x:V) (n:Int) (y:V):V:=List.zipWith (fun a b=>m*a+n*b) x y
def scl (m:Int) (x:V):V:=x.map (m * ·)
def kM (d:Nat):V:=List.replicate d 0
def mix_length {m n:Int} {x y:V} {d:Nat} (h:x.length=d) (h':y.length=d):(mix m x n y).length=d:=by simp [mix,h,h']
def ai {m:Int} {x:V} {d:Nat} (h:x.length=d):(scl m x).length=d:=by simp [scl,h]
def cq (d:Nat):(kM d).length=d:=by simp [kM]
def dot_comm:∀ x y:V,dot x y=dot y x
 | [],[]=>rfl
 | [],_ :: _=>rfl
 | _ :: _,[]=>rfl
 | a :: x,b :: y=>by simp only [dot]; rw [dot_comm x y,Z8]
def ml:∀ (c:V) (d:Nat),dot c (kM d)=0
 | [],d=>by cases d <;> rfl
 | a :: c,0=>rfl
 | a :: c,d+1=>by
  show a*0+dot c (kM d)=0;rw [ml c d]; simp
def bg:∀ (c:V) {x y:V} (m n:Int),x.length=y.length->dot c (mix m x n y)=m*dot c x+n*dot c y
 | [],x,y,m,n,_=>by cases x <;> cases y <;> simp [dot,mix]
 | a :: c,[],[],m,n,_=>by simp [dot,mix]
 | a :: c,[],_ :: _,m,n,h=>by simp at h
 | a :: c,_ :: _,[],m,n,h=>by simp at h
 | a :: c,u :: x,v :: y,m,n,h=>by
  have ih:=bg c (x:=x) (y:=y) m n (by simpa using h);simp only [mix,List.zipWith_cons_cons,dot] at ih ⊢;rw [ih]
  grind
def dot_scl:∀ (c x:V) (m:Int),dot c (scl m x)=m*dot c x
 | [],x,m=>by cases x <;> simp [dot,scl]
 | a :: c,[],m=>by simp [dot,scl]
 | a :: c,u :: x,m=>by
  have ih:=dot_scl c x m;simp only [scl,wW,dot] at ih ⊢;rw [ih]
  grind
def at_ (x:V) (i:Nat):Int:=x.getD i 0
def aJ {x y:V} (h:x.length=y.length) (hi:∀ i,at_ x i=at_ y i):x=y:=by
 apply WV h
 intro i h1 h2
 have:=hi i
 simpa [at_,h1,h2] using this
def al {m n:Int} {x y:V} (h:x.length=y.length) (i:Nat):at_ (mix m x n y) i=m*at_ x i+n*at_ y i:=by
 simp only [at_,mix,dH,List.getElem?_zipWith];by_cases hi:i<x.length
 ·have hi':i<y.length:=h ▸ hi;simp [pD hi,pD hi']
 ·have hi':¬ i<y.length:=h ▸ hi;simp [VC (Xp hi),VC (Xp hi')]
def aA {m:Int} {x:V} (i:Nat):at_ (scl m x) i=m*at_ x i:=by
 simp only [at_,scl,dH,VT];cases x[i]? <;> simp
def ic {d i:Nat}:at_ (kM d) i=0:=by
 simp only [at_,kM,dH,V9];split <;> rfl
inductive Con (d:Nat) (L R:V->Prop):V->Prop
 | zero:Con d L R (kM d)
 | line {x l:V} (c:Int):Con d L R x->L l->Con d L R (mix 1 x c l)
 | ray {x r:V} (c:Int):0<=c->Con d L R x->R r->Con d L R (mix 1 x c r)
 | div {x:V} (k:Int):0<k->x.length=d->Con d L R (scl k x)->Con d L R x
abbrev Spn (d:Nat) (L:V->Prop):V->Prop:=Con d L (fun _=>False)
section
variable {d:Nat} {L R L' R':V->Prop}
def Con.length (hL:∀ l,L l->l.length=d) (hR:∀ r,R r->r.length=d) {x:V} (h:Con d L R x):x.length=d:=by
 induction h with
 | zero=>exact cq d
 | line c _ hl ih=>exact mix_length ih (hL _ hl)
 | ray c _ _ hr ih=>exact mix_length ih (hR _ hr)
 | div k _ h _ _=>exact h
def Con.mono (hL:∀ l,L l->L' l) (hR:∀ r,R r->R' r) {x:V} (h:Con d L R x):Con d L' R' x:=by
 induction h with
 | zero=>exact .zero
 | line c _ hl ih=>exact .line c ih (hL _ hl)
 | ray c hc _ hr ih=>exact .ray c hc ih (hR _ hr)
 | div k hk h _ ih=>exact .div k hk h ih
def Con.smul (hL:∀ l,L l->l.length=d) (hR:∀ r,R r->r.length=d) {x:V} (h:Con d L R x):∀ k:Int,0<=k->Con d L R (scl k x):=by
 induction h with
 | zero =>
  intro k _
  have:scl k (kM d)=kM d:=aJ (by simp [scl,kM]) fun i=>by rw [aA,ic]; simp
  rw [this]; exact .zero
 | @line x l c hx hl ih =>
  intro k hk;have h1:=hx.length hL hR;have h2:=hL _ hl
  have:scl k (mix 1 x c l)=mix 1 (scl k x) (k*c) l:=aJ (by rw [ai (mix_length h1 h2),mix_length (ai h1) h2]) fun i=>by
   rw [aA,al (h1.trans h2.symm),al ((ai h1).trans h2.symm),aA]; grind
  rw [this]; exact .line _ (ih k hk) hl
 | @ray x r c hc hx hr ih =>
  intro k hk;have h1:=hx.length hL hR;have h2:=hR _ hr
  have:scl k (mix 1 x c r)=mix 1 (scl k x) (k*c) r:=aJ (by rw [ai (mix_length h1 h2),mix_length (ai h1) h2]) fun i=>by
   rw [aA,al (h1.trans h2.symm),al ((ai h1).trans h2.symm),aA]; grind
  rw [this]; exact .ray _ (VI hk hc) (ih k hk) hr
 | @div x j hj h hx ih =>
  intro k hk;refine .div j hj (ai h) ?_
  have:scl j (scl k x)=scl k (scl j x):=aJ (by rw [ai (ai h),ai (ai h)]) fun i=>by
   rw [aA,aA,aA,aA]; grind
  rw [this]; exact ih k hk
def Con.add (hL:∀ l,L l->l.length=d) (hR:∀ r,R r->r.length=d) {y:V} (h:Con d L R y):∀ x,Con d L R x->Con d L R (mix 1 x 1 y):=by
 induction h with
 | zero =>
  intro x hx;have h1:=hx.length hL hR
  have:mix 1 x 1 (kM d)=x:=aJ (by rw [mix_length h1 (cq d),h1]) fun i=>by rw [al (h1.trans (cq d).symm),ic]; grind
  rw [this]; exact hx
 | @line y l c hy hl ih =>
  intro x hx;have h1:=hx.length hL hR;have h2:=hy.length hL hR;have h3:=hL _ hl
  have:mix 1 x 1 (mix 1 y c l)=mix 1 (mix 1 x 1 y) c l:=aJ (by rw [mix_length h1 (mix_length h2 h3),mix_length (mix_length h1 h2) h3]) fun i=>by
   rw [al (h1.trans (mix_length h2 h3).symm),al (h2.trans h3.symm),al ((mix_length h1 h2).trans h3.symm),al (h1.trans h2.symm)]; grind
  rw [this]; exact .line _ (ih x hx) hl
 | @ray y r c hc hy hr ih =>
  intro x hx;have h1:=hx.length hL hR;have h2:=hy.length hL hR;have h3:=hR _ hr
  have:mix 1 x 1 (mix 1 y c r)=mix 1 (mix 1 x 1 y) c r:=aJ (by rw [mix_length h1 (mix_length h2 h3),mix_length (mix_length h1 h2) h3]) fun i=>by
   rw [al (h1.trans (mix_length h2 h3).symm),al (h2.trans h3.symm),al ((mix_length h1 h2).trans h3.symm),al (h1.trans h2.symm)]; grind
  rw [this]; exact .ray _ hc (ih x hx) hr
 | @div y k hk h hy ih =>
  intro x hx;have h1:=hx.length hL hR;refine .div k hk (mix_length h1 h) ?_
  have:scl k (mix 1 x 1 y)=mix 1 (scl k x) 1 (scl k y):=aJ (by rw [ai (mix_length h1 h),mix_length (ai h1) (ai h)]) fun i=>by
   rw [aA,al (h1.trans h.symm),al ((ai h1).trans (ai h).symm),aA,aA]; grind
  rw [this]; exact ih _ (hx.smul hL hR k zO)
def Con.sum2 (hL:∀ l,L l->l.length=d) (hR:∀ r,R r->r.length=d) {x y:V} (hx:Con d L R x) (hy:Con d L R y) {m n:Int} (hm:0<=m) (hn:0<=n):Con d L R (mix m x n y):=by
 have h1:=hx.length hL hR;have h2:=hy.length hL hR
 have:mix m x n y=mix 1 (scl m x) 1 (scl n y):=aJ (by rw [mix_length h1 h2,mix_length (ai h1) (ai h2)]) fun i=>by
  rw [al (h1.trans h2.symm),al ((ai h1).trans (ai h2).symm),aA,aA]; grind
 rw [this];exact (hy.smul hL hR n hn).add hL hR _ (hx.smul hL hR m hm)
def Con.of_ray {r:V} (hl:r.length=d) (hr:R r):Con d L R r:=by
 have:r=mix 1 (kM d) 1 r:=aJ (by rw [mix_length (cq d) hl,hl]) fun i=>by rw [al ((cq d).trans hl.symm),ic]; grind
 rw [this]; exact .ray 1 zO .zero hr
def Con.of_line {l:V} (hl:l.length=d) (hr:L l) (c:Int):Con d L R (scl c l):=by
 have:scl c l=mix 1 (kM d) c l:=aJ (by rw [ai hl,mix_length (cq d) hl]) fun i=>by rw [aA,al ((cq d).trans hl.symm),ic]; grind
 rw [this]; exact .line c .zero hr
def Con.trans (hL':∀ l,L' l->l.length=d) (hR':∀ r,R' r->r.length=d) (hL:∀ l,L l->∀ c:Int,Con d L' R' (scl c l)) (hR:∀ r,R r->Con d L' R' r) (hLl:∀ l,L l->l.length=d) (hRl:∀ r,R r->r.length=d) {x:V} (h:Con d L R x):Con d L' R' x:=by
 induction h with
 | zero=>exact .zero
 | @line x l c hx hl ih =>
  have h1:=hx.length hLl hRl;have h2:=hLl _ hl
  have:mix 1 x c l=mix 1 x 1 (scl c l):=aJ (by rw [mix_length h1 h2,mix_length h1 (ai h2)]) fun i=>by
   rw [al (h1.trans h2.symm),al (h1.trans (ai h2).symm),aA]; grind
  rw [this]; exact (hL _ hl c).add hL' hR' _ ih
 | @ray x r c hc hx hr ih =>
  exact ih.sum2 hL' hR' (hR _ hr) zO hc
 | div k hk h _ ih=>exact .div k hk h ih
def Con.dot_nonneg (hLl:∀ l,L l->l.length=d) (hRl:∀ r,R r->r.length=d) {a:V} (hL:∀ l,L l->dot a l=0) (hR:∀ r,R r->0<=dot a r) {x:V} (h:Con d L R x):0<=dot a x:=by
 induction h with
 | zero=>rw [ml]; omega
 | @line x l c hx hl ih =>
  rw [bg _ _ _ ((hx.length hLl hRl).trans (hLl _ hl).symm),hL _ hl]; simpa using ih
 | @ray x r c hc hx hr ih =>
  rw [bg _ _ _ ((hx.length hLl hRl).trans (hRl _ hr).symm)]
  have:=VI hc (hR _ hr)
  omega
 | @div x k hk h _ ih =>
  rw [dot_scl] at ih;exact WY ih hk
def Con.dot_zero (hLl:∀ l,L l->l.length=d) (hRl:∀ r,R r->r.length=d) {a:V} (hL:∀ l,L l->dot a l=0) (hR:∀ r,R r->dot a r=0) {x:V} (h:Con d L R x):dot a x=0:=by
 induction h with
 | zero=>rw [ml]
 | @line x l c hx hl ih=>rw [bg _ _ _ ((hx.length hLl hRl).trans (hLl _ hl).symm),hL _ hl,ih]; simp
 | @ray x r c hc hx hr ih=>rw [bg _ _ _ ((hx.length hLl hRl).trans (hRl _ hr).symm),hR _ hr,ih]; simp
 | @div x k hk h _ ih =>
  rw [dot_scl] at ih;rcases Vv.1 ih with h | h
  ·omega
  ·exact h
def Spn.smul (hL:∀ l,L l->l.length=d) {x:V} (h:Spn d L x):∀ k:Int,Spn d L (scl k x):=by
 induction h with
 | zero =>
  intro k
  have:scl k (kM d)=kM d:=aJ (by simp [scl,kM]) fun i=>by rw [aA,ic]; simp
  rw [this]; exact .zero
 | @line x l c hx hl ih =>
  intro k;have h1:=hx.length hL (fun r h=>h.elim);have h2:=hL _ hl
  have:scl k (mix 1 x c l)=mix 1 (scl k x) (k*c) l:=aJ (by rw [ai (mix_length h1 h2),mix_length (ai h1) h2]) fun i=>by
   rw [aA,al (h1.trans h2.symm),al ((ai h1).trans h2.symm),aA]; grind
  rw [this]; exact .line _ (ih k) hl
 | ray c hc hx hr ih=>exact hr.elim
 | @div x j hj h hx ih =>
  intro k;refine .div j hj (ai h) ?_
  have:scl j (scl k x)=scl k (scl j x):=aJ (by rw [ai (ai h),ai (ai h)]) fun i=>by
   rw [aA,aA,aA,aA]; grind
  rw [this]; exact ih k
def Spn.sum2 (hL:∀ l,L l->l.length=d) {x y:V} (hx:Spn d L x) (hy:Spn d L y) (m n:Int):Spn d L (mix m x n y):=by
 have h1:=hx.length hL (fun r h=>h.elim);have h2:=hy.length hL (fun r h=>h.elim)
 have:mix m x n y=mix 1 (scl m x) 1 (scl n y):=aJ (by rw [mix_length h1 h2,mix_length (ai h1) (ai h2)]) fun i=>by
  rw [al (h1.trans h2.symm),al ((ai h1).trans (ai h2).symm),aA,aA]; grind
 rw [this];exact (Spn.smul hL hy n).add hL (fun r h=>h.elim) _ (Spn.smul hL hx m)
end
structure Keep (d:Nat) (E I:V->Prop) (x:V):Prop where
 len:x.length=d
 eq:∀ e,E e->dot e x=0
 ge:∀ i,I i->0<=dot i x
structure DD (d:Nat) (E I:V->Prop) (L:V->Prop) (R:List V):Prop where
 lenL:∀ l,L l->l.length=d
 lineE:∀ l,L l->∀ e,E e->dot e l=0
 lineI:∀ l,L l->∀ i,I i->dot i l=0
 lines:∀ x,x.length=d->(∀ e,E e->dot e x=0)->(∀ i,I i->dot i x=0)->Spn d L x
 keep:∀ r∈R,Keep d E I r
 all:∀ x,Keep d E I x->Con d L (· ∈ R) x
 off:∀ r∈R,∃ i,I i/\dot i r≠0
 ext:∀ r∈R,∀ y,Keep d E I y->(∀ i,I i->dot i r=0->dot i y=0)->∃ k c:Int,0<k/\0<=c/\Spn d L (mix k y (-c) r)
 apart:R.Pairwise fun r s=>¬ ∀ i,I i->(dot i r=0 ↔ dot i s=0)
section
variable {d:Nat} {E I L:V->Prop} {R:List V}
def Keep.add {x y:V} (hx:Keep d E I x) (hy:Keep d E I y) {m n:Int} (hm:0<=m) (hn:0<=n):Keep d E I (mix m x n y):=by
 refine ⟨mix_length hx.len hy.len,fun e he=>?_,fun i hi=>?_⟩
 ·rw [bg _ _ _ (hx.len.trans hy.len.symm),hx.eq e he,hy.eq e he]; simp
 ·rw [bg _ _ _ (hx.len.trans hy.len.symm)]
  have:=VI hm (hx.ge i hi)
  have:=VI hn (hy.ge i hi)
  omega
def DD.lenR (h:DD d E I L R):∀ r,r∈R->r.length=d:=fun r hr=>(h.keep r hr).len
def DD.con_keep (h:DD d E I L R) {x:V} (hx:Con d L (· ∈ R) x):Keep d E I x :=
 ⟨hx.length h.lenL h.lenR,fun e he=>hx.dot_zero h.lenL h.lenR (fun l hl=>h.lineE l hl e he) (fun r hr=>(h.keep r hr).eq e he),
  fun i hi=>hx.dot_nonneg h.lenL h.lenR (fun l hl=>h.lineI l hl i hi) (fun r hr=>(h.keep r hr).ge i hi)⟩
def DD.face (h:DD d E I L R) {S:V->Prop} (hS:∀ i,S i->I i) {x:V} (hx:Con d L (· ∈ R) x) (hz:∀ i,S i->dot i x=0):Con d L (fun r=>r∈R/\∀ i,S i->dot i r=0) x:=by
 induction hx with
 | zero=>exact .zero
 | @line x l c hx hl ih =>
  refine .line c (ih fun i hi=>?_) hl
  have:=hz i hi
  rw [bg _ _ _ ((hx.length h.lenL h.lenR).trans (h.lenL _ hl).symm),h.lineI l hl i (hS i hi)] at this
  simpa using this
 | @ray x r c hc hx hr ih =>
  have key:∀ i,S i->dot i x=0/\(0<c->dot i r=0):=fun i hi=>by
   have:=hz i hi
   rw [bg _ _ _ ((hx.length h.lenL h.lenR).trans (h.lenR _ hr).symm)] at this;have h1:=(h.con_keep hx).ge i (hS i hi);have h2:=(h.keep r hr).ge i (hS i hi);have h3:=VI hc h2;refine ⟨zO,fun hc0=>?_⟩;have h4:c*dot i r=0:=zO;rcases Vv.1 h4 with h5 | h5
   ·omega
   ·exact h5
  by_cases hc0:c=0
  ·subst hc0;have e:mix 1 x 0 r=x:=aJ (by rw [mix_length (hx.length h.lenL h.lenR) (h.lenR _ hr),hx.length h.lenL h.lenR]) fun i=>by
    rw [al ((hx.length h.lenL h.lenR).trans (h.lenR _ hr).symm)]; grind
   rw [e]; exact ih fun i hi=>(key i hi).1
  ·exact .ray c hc (ih fun i hi=>(key i hi).1) ⟨hr,fun i hi=>(key i hi).2 zO⟩
 | @div x k hk hl hx ih =>
  refine .div k hk hl (ih fun i hi=>?_);rw [dot_scl,hz i hi]; simp
def DD.same (h:DD d E I L R) {i j:Nat} {r s:V} (hi:R[i]? = some r) (hj:R[j]? = some s) (hs:∀ a,I a->(dot a r=0 ↔ dot a s=0)):i=j:=by
 rcases XG i j with hlt | heq | hlt
 ·exfalso
  obtain ⟨hi',rfl⟩:=I6.1 hi;obtain ⟨hj',rfl⟩:=I6.1 hj;exact VM.1 h.apart i j hi' hj' hlt hs
 ·exact heq
 ·exfalso
  obtain ⟨hi',rfl⟩:=I6.1 hi;obtain ⟨hj',rfl⟩:=I6.1 hj;exact VM.1 h.apart j i hj' hi' hlt fun a ha=>(hs a ha).symm
def DD.lin_of (h:DD d E I L R) {x:V} (hx:Keep d E I x) (hz:∀ i,I i->dot i x=0):Spn d L x:=h.lines x hx.len hx.eq hz
end
def yR:∀ (l:List V) (u v:V->Int),(∃ i∈l,0<v i)->∃ i∈l,0<v i/\∀ j∈l,0<v j->u i*v j<=u j*v i
 | [],u,v,h=>by obtain ⟨i,hi,_⟩:=h; cases hi
 | a :: l,u,v,h=>by
  by_cases hl:∃ i∈l,0<v i
  ·obtain ⟨i,hi,hv,hm⟩:=yR l u v hl;by_cases ha:0<v a/\u a*v i<u i*v a
   ·refine ⟨a,N0 ..,ha.1,fun j hj hvj=>?_⟩;rcases Vt.1 hj with rfl | hj
    ·exact Yn _
    ·have h1:=hm j hj hvj;have h2:u a*v i*v j<=u i*v a*v j:=Xq zO zO;have h3:u i*v j*v a<=u j*v i*v a:=Xq h1 zO;have h4:(u a*v j)*v i<=(u j*v a)*v i:=by
      have e1:u a*v j*v i=u a*v i*v j:=by grind
      have e2:u j*v a*v i=u j*v i*v a:=by grind
      have e3:u i*v a*v j=u i*v j*v a:=by grind
      rw [e1,e2]; rw [e3] at h2; exact YW h2 h3
     exact Y7 h4 hv
   ·refine ⟨i,Ct _ hi,hv,fun j hj hvj=>?_⟩;rcases Vt.1 hj with rfl | hj
    ·exact Int.not_lt.1 fun hlt=>ha ⟨hvj,hlt⟩
    ·exact hm j hj hvj
  ·obtain ⟨i,hi,hv⟩:=h;rcases Vt.1 hi with rfl | hi
   ·refine ⟨i,N0 ..,hv,fun j hj hvj=>?_⟩;rcases Vt.1 hj with rfl | hj
    ·exact Yn _
    ·exact absurd ⟨j,hj,hvj⟩ hl
   ·exact absurd ⟨i,hi,hv⟩ hl
def S7 (l:List V) (x:V):Nat:=(l.filter fun i=>!decide (dot i x=0)).length
def Cb {l:List V} {x y:V} (h:∀ i∈l,dot i x=0->dot i y=0):S7 l y<=S7 l x:=by
 unfold S7
 induction l with
 | nil=>simp
 | cons a l ih =>
  have ih:=ih fun i hi=>h i (Ct _ hi);have ha:=h a (N0 ..);simp only [W9];by_cases hx:dot a x=0
  ·simp [hx,ha hx]; exact ih
  ·by_cases hy:dot a y=0
   ·simp [hx,hy]; omega
   ·simp [hx,hy]; exact ih
def Hk {l:List V} {x y:V} (h:∀ i∈l,dot i x=0->dot i y=0) {b:V} (hb:b∈l) (hx:dot b x≠0) (hy:dot b y=0):S7 l y<S7 l x:=by
 unfold S7
 induction l with
 | nil=>cases hb
 | cons a l ih =>
  have h':=fun i hi=>h i (Ct _ hi);have ha:=h a (N0 ..);simp only [W9];rcases Vt.1 hb with rfl | hb
  ·have:=Cb h'
   unfold S7 at this;simp [hx,hy]; omega
  ·have ih:=ih h' hb;by_cases hxa:dot a x=0
   ·simp [hxa,ha hxa]; exact ih
   ·by_cases hya:dot a y=0
    ·simp [hxa,hya]; omega
    ·simp [hxa,hya]; exact ih
section
variable {d:Nat} {E L:V->Prop} {R:List V} {l:List V} {a:V}
def nh {x m:V} (hx:Keep d E (· ∈ l) x) (hm:Keep d E (· ∈ l) m) (hsub:∀ i∈l,dot i x=0->dot i m=0) (hne:∃ i∈l,dot i m≠0) :
  ∃ b∈l,0<dot b m/\0<dot b x/\Keep d E (· ∈ l) (mix (dot b m) x (-(dot b x)) m)/\S7 l (mix (dot b m) x (-(dot b x)) m)<S7 l x/\∀ j∈l,0<dot j m->dot b x*dot j m<=dot j x*dot b m:=by
 obtain ⟨i0,hi0,hn0⟩:=hne;have h0:=hm.ge i0 hi0;obtain ⟨b,hb,hbm,hmin⟩:=yR l (fun i=>dot i x) (fun i=>dot i m) ⟨i0,hi0,zO⟩;have hbx:0<dot b x:=by
  have h1:=hx.ge b hb;have h2:dot b x≠0:=fun e=>by have:=hsub b hb e; omega
  omega
 have hlen:=hx.len.trans hm.len.symm;have hdot:∀ c,dot c (mix (dot b m) x (-(dot b x)) m)=dot b m*dot c x-dot b x*dot c m:=fun c=>by rw [bg _ _ _ hlen]; grind
 refine ⟨b,hb,hbm,hbx,⟨mix_length hx.len hm.len,fun e he=>by rw [hdot,hx.eq e he,hm.eq e he]; simp,fun j hj=>?_⟩,Hk (fun j hj hz=>by rw [hdot,hz,hsub j hj hz]; simp) hb zO (by rw [hdot]; grind),hmin⟩;rw [hdot];by_cases hj0:0<dot j m
 ·have:=hmin j hj hj0
  have e:dot b m*dot j x=dot j x*dot b m:=Z8 _ _;omega
 ·have h1:=hm.ge j hj;have h2:dot j m=0:=zO;have h3:=VI (Wn hbm) (hx.ge j hj);rw [h2]; simpa using h3
def fG:∀ (c x:V) (m:Int),dot (scl m c) x=m*dot c x:=fun c x m=>by rw [dot_comm,dot_scl,dot_comm]
def Con.face1 {L' R':V->Prop} (hLl:∀ l,L' l->l.length=d) (hRl:∀ r,R' r->r.length=d) (hL:∀ l,L' l->dot a l=0) (hR:∀ r,R' r->0<=dot a r) {x:V} (hx:Con d L' R' x) (hz:dot a x=0):Con d L' (fun r=>R' r/\dot a r=0) x:=by
 induction hx with
 | zero=>exact .zero
 | @line x l c hx hl ih =>
  refine .line c (ih ?_) hl;rw [bg _ _ _ ((hx.length hLl hRl).trans (hLl _ hl).symm),hL l hl] at hz
  simpa using hz
 | @ray x r c hc hx hr ih =>
  rw [bg _ _ _ ((hx.length hLl hRl).trans (hRl _ hr).symm)] at hz;have h1:=hx.dot_nonneg hLl hRl hL hR;have h2:=VI hc (hR r hr);by_cases hc0:c=0
  ·subst hc0;have e:mix 1 x 0 r=x:=aJ (by rw [mix_length (hx.length hLl hRl) (hRl _ hr),hx.length hLl hRl]) fun i=>by
    rw [al ((hx.length hLl hRl).trans (hRl _ hr).symm)]; grind
   rw [e]; exact ih zO
  ·refine .ray c hc (ih zO) ⟨hr,?_⟩;have h4:c*dot a r=0:=zO;rcases Vv.1 h4 with h5 | h5
   ·omega
   ·exact h5
 | @div x k hk hl hx ih =>
  refine .div k hk hl (ih ?_);rw [dot_scl,hz]; simp
def mx (a p n:V):V:=mix (-(dot a n)) p (dot a p) n
variable {Rn:V->Prop} {k:Nat}
def pX (hLl:∀ l,L l->l.length=d) (hRl:∀ r,Rn r->r.length=d) {x m:V} (hx:x.length=d) {α β:Int} (hα:0<α) (hβ:0<=β) (hy:Con d L Rn (mix α x (-β) m)) (hm:Con d L Rn m):Con d L Rn x:=by
 have hml:=hm.length hLl hRl;refine .div α hα hx ?_;have e:scl α x=mix 1 (mix α x (-β) m) β m:=aJ (by rw [ai hx,mix_length (mix_length hx hml) hml]) fun i=>by
  rw [aA,al ((mix_length hx hml).trans hml.symm),al (hx.trans hml.symm)]; grind
 rw [e];exact hy.sum2 hLl hRl hm zO hβ
def GV (h:DD d E (· ∈ l) L R) (hRl:∀ r,Rn r->r.length=d) (IH:∀ y,Keep d E (· ∈ l) y->dot a y=0->S7 l y<k->Con d L Rn y) {m m':V} (hm:Keep d E (· ∈ l) m) (hm':Keep d E (· ∈ l) m')
  (ha:dot a m=0) (ha':dot a m'=0) (hsub:∀ b∈l,dot b m=0->dot b m'=0) (hoff:∃ b∈l,dot b m'≠0) (hk:S7 l m<=k) (hno:∀ α β:Int,0<α->0<β->¬ Spn d L (mix α m (-β) m')):Con d L Rn m:=by
 have hlen:=hm.len.trans hm'.len.symm;obtain ⟨b0,hb0,hα,hβ,hy,hyo,hmin⟩:=nh hm hm' hsub hoff;have hay:dot a (mix (dot b0 m') m (-(dot b0 m)) m')=0:=by rw [bg _ _ _ hlen,ha,ha']; simp
 have hcy:=IH _ hy hay zO;by_cases hlt:S7 l m'<k
 ·exact pX h.lenL hRl hm.len hα zO hcy (IH m' hm' ha' hlt)
 ·have hsub':∀ b∈l,dot b m'=0->dot b m=0:=fun b hb hz=>by
   by_cases hbm:dot b m=0
   ·exact hbm
   ·have:=Hk hsub hb hbm hz
    omega
  have hoff':∃ b∈l,dot b m≠0:=by
   obtain ⟨b,hb,hn⟩:=hoff;exact ⟨b,hb,fun e=>hn (hsub b hb e)⟩
  obtain ⟨b1,hb1,hα',hβ',hy',hyo',-⟩:=nh hm' hm hsub' hoff';have hay':dot a (mix (dot b1 m) m' (-(dot b1 m')) m)=0:=by rw [bg _ _ _ hlen.symm,ha,ha']; simp
  have hcy':=IH _ hy' hay' (by have:=Cb hsub; omega);have hle:=hmin b1 hb1 hβ';by_cases heq:dot b0 m*dot b1 m'=dot b1 m*dot b0 m'
  ·exfalso
   refine hno (dot b0 m') (dot b0 m) hα hβ (h.lin_of hy fun i hi=>?_);have g1:=hy.ge i hi;have g2:=hy'.ge i hi;rw [bg _ _ _ hlen] at g1 ⊢;rw [bg _ _ _ hlen.symm] at g2;have e:dot b1 m*(dot b0 m'*dot i m + -(dot b0 m)*dot i m')+dot b0 m*(dot b1 m*dot i m' + -(dot b1 m')*dot i m)=0:=by grind
   have p1:=VI (Wn hα') g1;have p2:=VI (Wn hβ) g2;have p3:dot b1 m*(dot b0 m'*dot i m + -(dot b0 m)*dot i m')=0:=zO;rcases Vv.1 p3 with p4 | p4
   ·omega
   ·exact p4
  ·refine .div (dot b1 m*dot b0 m'-dot b0 m*dot b1 m') zO hm.len ?_;have e:scl (dot b1 m*dot b0 m'-dot b0 m*dot b1 m') m=mix (dot b1 m) (mix (dot b0 m') m (-(dot b0 m)) m') (dot b0 m) (mix (dot b1 m) m' (-(dot b1 m')) m) :=
    aJ (by rw [ai hm.len,mix_length (mix_length hm.len hm'.len) (mix_length hm'.len hm.len)]) fun i=>by
     rw [aA,al ((mix_length hm.len hm'.len).trans (mix_length hm'.len hm.len).symm),al hlen,al hlen.symm]; grind
   rw [e];exact hcy.sum2 h.lenL hRl hcy' zO zO
def DD.sub_same (h:DD d E (· ∈ l) L R) {i j:Nat} {p q:V} (hi:R[i]? = some p) (hj:R[j]? = some q) (hs:∀ b∈l,dot b p=0->dot b q=0):i=j:=by
 have hp:=Ve hi;have hq:=Ve hj;obtain ⟨k,c,hk,hc,hsp⟩:=h.ext p hp q (h.keep q hq) hs;refine h.same hi hj fun b hb=>⟨hs b hb,fun hz=>?_⟩
 have key:∀ b∈l,k*dot b q=c*dot b p:=fun b hb=>by
  have:=Con.dot_zero (a:=b) h.lenL (fun r h=>h.elim) (fun x hx=>h.lineI x hx b hb) (fun r h=>h.elim) hsp
  rw [bg _ _ _ ((h.keep q hq).len.trans (h.keep p hp).len.symm),Xs] at this;omega
 have hc0:c≠0:=fun e=>by
  obtain ⟨b',hb',hn⟩:=h.off q hq
  have:=key b' hb'
  rw [e] at this;rcases Vv.1 (show k*dot b' q=0 by omega) with h1 | h1
  ·omega
  ·exact hn h1
 have:=key b hb
 rw [hz] at this;rcases Vv.1 (show c*dot b p=0 by omega) with h1 | h1
 ·exact absurd h1 hc0
 ·exact h1
def DD.three (h:DD d E (· ∈ l) L R) {i j:Nat} {p q n:V} (hi:R[i]? = some p) (hj:R[j]? = some q) (hn:n∈R) {u v w:Int} (hu:0<u) (hv:0<v) (hw:0<=w) (hs:∀ b∈l,u*dot b p=v*dot b q+w*dot b n):i=j:=by
 refine h.sub_same hi hj fun b hb hz=>?_;have e:=hs b hb;rw [hz] at e;have g1:=VI (Wn hv) ((h.keep q (Ve hj)).ge b hb);have g2:=VI hw ((h.keep n hn).ge b hb);rcases Vv.1 (show v*dot b q=0 by omega) with h1 | h1
 ·omega
 ·exact h1
def fD {p n:V} (hp:Keep d E (· ∈ l) p) (hn:Keep d E (· ∈ l) n) (h1:0<dot a p) (h2:dot a n<0):Keep d E (· ∈ l) (mx a p n):=hp.add hn zO zO
def uS {p n:V} (hp:p.length=d) (hn:n.length=d) (c:V):dot c (mx a p n) = -(dot a n)*dot c p+dot a p*dot c n:=bg _ _ _ (hp.trans hn.symm)
def oC {p n:V} (hp:p.length=d) (hn:n.length=d):dot a (mx a p n)=0:=by rw [uS hp hn]; grind
def lC {p n:V} (hp:Keep d E (· ∈ l) p) (hn:Keep d E (· ∈ l) n) (h1:0<dot a p) (h2:dot a n<0) {b:V} (hb:b∈l):dot b (mx a p n)=0 ↔ dot b p=0/\dot b n=0:=by
 rw [uS hp.len hn.len];have g1:=VI (show 0 <= -(dot a n) by omega) (hp.ge b hb);have g2:=VI (Wn h1) (hn.ge b hb);constructor
 ·intro e;constructor
  ·rcases Vv.1 (show -(dot a n)*dot b p=0 by omega) with h | h
   ·omega
   ·exact h
  ·rcases Vv.1 (show dot a p*dot b n=0 by omega) with h | h
   ·omega
   ·exact h
 ·rintro ⟨e1,e2⟩;rw [e1,e2]; simp
def E7 (l:List V) (R:List V) (i j:Nat) (p n:V):Prop:=∀ (t:Nat) (q:V),R[t]? = some q->t≠i->t≠j->¬ ∀ b∈l,dot b p=0->dot b n=0->dot b q=0
def N9 (h:DD d E (· ∈ l) L R) (hal:∀ x,L x->dot a x=0) (hRl:∀ r,Rn r->r.length=d) (hz:∀ r∈R,dot a r=0->Rn r)
  (hmx:∀ i j p n,R[i]? = some p->R[j]? = some n->0<dot a p->dot a n<0->E7 l R i j p n->Con d L Rn (mx a p n))
  (IH:∀ y,Keep d E (· ∈ l) y->dot a y=0->S7 l y<k->Con d L Rn y) {i j:Nat} {p n:V} (hi:R[i]? = some p) (hj:R[j]? = some n) (h1:0<dot a p) (h2:dot a n<0) (hk:S7 l (mx a p n)<=k):Con d L Rn (mx a p n):=by
 have hp:=h.keep p (Ve hi);have hn:=h.keep n (Ve hj);by_cases hnear:E7 l R i j p n
 ·exact hmx i j p n hi hj h1 h2 hnear
 ·have ⟨t,q,ht,hti,htj,hq⟩:∃ t q,R[t]? = some q/\t≠i/\t≠j/\∀ b∈l,dot b p=0->dot b n=0->dot b q=0:=by
   apply Wv
   intro hno;exact hnear fun t q ht h1 h2 h3=>hno ⟨t,q,ht,h1,h2,h3⟩
  have hqm:=Ve ht;have hqk:=h.keep q hqm;have hsubq:∀ b∈l,dot b (mx a p n)=0->dot b q=0:=fun b hb hz=>by
   obtain ⟨e1,e2⟩:=(lC hp hn h1 h2 hb).1 hz;exact hq b hb e1 e2
  rcases Int.lt_trichotomy (dot a q) 0 with hq0 | hq0 | hq0
  ·
   refine GV (m':=mx a p q) h hRl IH (fD hp hn h1 h2) (fD hp hqk h1 hq0) (oC hp.len hn.len) (oC hp.len hqk.len) (fun b hb hz=>?_) ?_ hk (fun α β hα hβ hsp=>?_)
   ·exact (lC hp hqk h1 hq0 hb).2 ⟨((lC hp hn h1 h2 hb).1 hz).1,hsubq b hb hz⟩
   ·obtain ⟨b,hb,hbn⟩:=h.off q hqm;exact ⟨b,hb,fun e=>hbn ((lC hp hqk h1 hq0 hb).1 e).2⟩
   ·have key:∀ b∈l,α*(-(dot a n)*dot b p+dot a p*dot b n)=β*(-(dot a q)*dot b p+dot a p*dot b q):=fun b hb=>by
     have:=Con.dot_zero (a:=b) h.lenL (fun r h=>h.elim) (fun x hx=>h.lineI x hx b hb) (fun r h=>h.elim) hsp
     rw [bg _ _ _ ((fD hp hn h1 h2).len.trans (fD hp hqk h1 hq0).len.symm),uS hp.len hn.len,uS hp.len hqk.len] at this
     grind
    by_cases hg:0<=α*(-(dot a n))-β*(-(dot a q))
    ·
     have:=h.three ht hj (Ve hi) (u:=β*dot a p) (v:=α*dot a p) (w:=α*(-(dot a n))-β*(-(dot a q))) (WA hβ h1) (WA hα h1) hg (fun b hb=>by have:=key b hb; grind)
     exact htj this
    ·have:=h.three hj ht (Ve hi) (u:=α*dot a p) (v:=β*dot a p) (w:=β*(-(dot a q))-α*(-(dot a n))) (WA hα h1) (WA hβ h1) zO (fun b hb=>by have:=key b hb; grind)
     exact htj this.symm
  ·
   obtain ⟨b0,hb0,hα,hβ,hy,hyo,-⟩:=nh (fD hp hn h1 h2) hqk hsubq (h.off q hqm);have hay:dot a (mix (dot b0 q) (mx a p n) (-(dot b0 (mx a p n))) q)=0:=by
    rw [bg _ _ _ ((fD hp hn h1 h2).len.trans hqk.len.symm),oC hp.len hn.len,hq0]; simp
   exact pX h.lenL hRl (fD hp hn h1 h2).len hα zO (IH _ hy hay zO) (Con.of_ray hqk.len (hz q hqm hq0))
  ·
   refine GV (m':=mx a q n) h hRl IH (fD hp hn h1 h2) (fD hqk hn hq0 h2) (oC hp.len hn.len) (oC hqk.len hn.len) (fun b hb hz=>?_) ?_ hk (fun α β hα hβ hsp=>?_)
   ·exact (lC hqk hn hq0 h2 hb).2 ⟨hsubq b hb hz,((lC hp hn h1 h2 hb).1 hz).2⟩
   ·obtain ⟨b,hb,hbn⟩:=h.off q hqm;exact ⟨b,hb,fun e=>hbn ((lC hqk hn hq0 h2 hb).1 e).1⟩
   ·have key:∀ b∈l,α*(-(dot a n)*dot b p+dot a p*dot b n)=β*(-(dot a n)*dot b q+dot a q*dot b n):=fun b hb=>by
     have:=Con.dot_zero (a:=b) h.lenL (fun r h=>h.elim) (fun x hx=>h.lineI x hx b hb) (fun r h=>h.elim) hsp
     rw [bg _ _ _ ((fD hp hn h1 h2).len.trans (fD hqk hn hq0 h2).len.symm),uS hp.len hn.len,uS hqk.len hn.len] at this
     grind
    by_cases hg:0<=β*dot a q-α*dot a p
    ·have:=h.three hi ht (Ve hj) (u:=α*(-(dot a n))) (v:=β*(-(dot a n))) (w:=β*dot a q-α*dot a p) (WA hα zO) (WA hβ zO) hg (fun b hb=>by have:=key b hb; grind)
     exact hti this.symm
    ·have:=h.three ht hi (Ve hj) (u:=β*(-(dot a n))) (v:=α*(-(dot a n))) (w:=α*dot a p-β*dot a q) (WA hβ zO) (WA hα zO) zO (fun b hb=>by have:=key b hb; grind)
     exact hti this
def Et (h:DD d E (· ∈ l) L R) (hal:∀ x,L x->dot a x=0) (hRl:∀ r,Rn r->r.length=d) (hz:∀ r∈R,dot a r=0->Rn r)
  (hmx:∀ i j p n,R[i]? = some p->R[j]? = some n->0<dot a p->dot a n<0->E7 l R i j p n->Con d L Rn (mx a p n)) :
  ∀ (k:Nat) (x:V),S7 l x=k->Keep d E (· ∈ l) x->dot a x=0->Con d L Rn x:=by
 intro k
 induction k using Nat.strongRecOn with
 | _ k ih =>
  intro x hk hx hax;have IH:∀ y,Keep d E (· ∈ l) y->dot a y=0->S7 l y<k->Con d L Rn y:=fun y hy hay hlt=>ih _ hlt y rfl hy hay;have hf:=h.face (S:=fun i=>i∈l/\dot i x=0) (fun i hi=>hi.1) (h.all x hx) (fun i hi=>hi.2);have hJl:∀ r,(r∈R/\∀ i,(i∈l/\dot i x=0)->dot i r=0)->r.length=d:=fun r hr=>h.lenR r hr.1;by_cases hp:∃ p,p∈R/\(∀ i,(i∈l/\dot i x=0)->dot i p=0)/\0<dot a p
  ·by_cases hn:∃ n,n∈R/\(∀ i,(i∈l/\dot i x=0)->dot i n=0)/\dot a n<0
   ·obtain ⟨p,hpR,hpJ,hp0⟩:=hp;obtain ⟨n,hnR,hnJ,hn0⟩:=hn;obtain ⟨i,hi⟩:=VH hpR;obtain ⟨j,hj⟩:=VH hnR;have hpk:=h.keep p hpR;have hnk:=h.keep n hnR;have hsub:∀ b∈l,dot b x=0->dot b (mx a p n)=0:=fun b hb hbx=>(lC hpk hnk hp0 hn0 hb).2 ⟨hpJ b ⟨hb,hbx⟩,hnJ b ⟨hb,hbx⟩⟩;have hm:=N9 h hal hRl hz hmx IH hi hj hp0 hn0 (by have:=Cb hsub; omega);obtain ⟨b0,hb0,hα,hβ,hy,hyo,-⟩:=nh hx (fD hpk hnk hp0 hn0) hsub (by
     obtain ⟨b,hb,hbn⟩:=h.off p hpR;exact ⟨b,hb,fun e=>hbn ((lC hpk hnk hp0 hn0 hb).1 e).1⟩)
    have hay:dot a (mix (dot b0 (mx a p n)) x (-(dot b0 x)) (mx a p n))=0:=by
     rw [bg _ _ _ (hx.len.trans (fD hpk hnk hp0 hn0).len.symm),hax,oC hpk.len hnk.len]; simp
    exact pX h.lenL hRl hx.len hα zO (IH _ hy hay zO) hm
   ·have:=Con.face1 (a:=a) h.lenL hJl (fun x hx=>hal x hx) (fun r hr=>Int.not_lt.1 fun hlt=>hn ⟨r,hr.1,hr.2,hlt⟩) hf hax
    exact this.mono (fun _ h=>h) fun r hr=>hz r hr.1.1 hr.2
  ·have:=Con.face1 (a:=scl (-1) a) h.lenL hJl (fun x hx=>by rw [fG,hal x hx]; simp) (fun r hr=>by
    rw [fG]
    have:¬ 0<dot a r:=fun hlt=>hp ⟨r,hr.1,hr.2,hlt⟩
    omega) hf (by rw [fG,hax]; simp)
   refine this.mono (fun _ h=>h) fun r hr=>hz r hr.1.1 ?_
   have:=hr.2
   rw [fG] at this;omega
def Oy (h:DD d E (· ∈ l) L R) (hal:∀ x,L x->dot a x=0) (hRl:∀ r,Rn r->r.length=d) (hz:∀ r∈R,0<=dot a r->Rn r)
  (hmx:∀ i j p n,R[i]? = some p->R[j]? = some n->0<dot a p->dot a n<0->E7 l R i j p n->Con d L Rn (mx a p n)) :
  ∀ (k:Nat) (x:V),S7 l x=k->Keep d E (· ∈ l) x->0<=dot a x->Con d L Rn x:=by
 have hzero:=Et h hal hRl (fun r hr e=>hz r hr zO) hmx;intro k
 induction k using Nat.strongRecOn with
 | _ k ih =>
  intro x hk hx hax;by_cases hax0:dot a x=0
  ·exact hzero _ x rfl hx hax0
  ·have hf:=h.face (S:=fun i=>i∈l/\dot i x=0) (fun i hi=>hi.1) (h.all x hx) (fun i hi=>hi.2);have hJl:∀ r,(r∈R/\∀ i,(i∈l/\dot i x=0)->dot i r=0)->r.length=d:=fun r hr=>h.lenR r hr.1;obtain ⟨p,hpR,hpJ,hp0⟩:∃ p,p∈R/\(∀ i,(i∈l/\dot i x=0)->dot i p=0)/\0<dot a p:=by
    by_cases hp:∃ p,p∈R/\(∀ i,(i∈l/\dot i x=0)->dot i p=0)/\0<dot a p
    ·exact hp
    ·exfalso
     have:=Con.dot_nonneg (a:=scl (-1) a) h.lenL hJl (fun x hx=>by rw [fG,hal x hx]; simp) (fun r hr=>by
      rw [fG]
      have:¬ 0<dot a r:=fun hlt=>hp ⟨r,hr.1,hr.2,hlt⟩
      omega) hf
     rw [fG] at this;omega
   have hpk:=h.keep p hpR;obtain ⟨b0,hb0,hα,hβ,hy,hyo,-⟩:=nh hx hpk (fun b hb e=>hpJ b ⟨hb,e⟩) (h.off p hpR);have hlen:=hx.len.trans hpk.len.symm;have hcp:Con d L Rn p:=Con.of_ray hpk.len (hz p hpR zO);by_cases hay:0<=dot a (mix (dot b0 p) x (-(dot b0 x)) p)
   ·exact pX h.lenL hRl hx.len hα zO (ih _ zO _ rfl hy hay) hcp
   ·
    have hd:∀ c,dot c (mix (dot a p) x (-(dot a x)) p)=dot a p*dot c x-dot a x*dot c p:=fun c=>by rw [bg _ _ _ hlen]; grind
    have hy2:Keep d E (· ∈ l) (mix (dot a p) x (-(dot a x)) p):=by
     refine ⟨mix_length hx.len hpk.len,fun e he=>by rw [hd,hx.eq e he,hpk.eq e he]; simp,fun j hj=>?_⟩;rw [hd];have g:=hy.ge j hj;rw [bg _ _ _ hlen] at g hay;have gx:=hx.ge j hj;have gp:=hpk.ge j hj;have e1:dot b0 p*(dot a p*dot j x-dot a x*dot j p)=dot a p*(dot b0 p*dot j x + -(dot b0 x)*dot j p)+dot j p * -(dot b0 p*dot a x + -(dot b0 x)*dot a p):=by grind
     have e2:=VI (Wn hp0) g;have e3:=VI gp (show 0 <= -(dot b0 p*dot a x + -(dot b0 x)*dot a p) by omega);refine WY (a:=dot b0 p) ?_ hα;omega
    exact pX h.lenL hRl hx.len hp0 hax (hzero _ _ rfl hy2 (by rw [hd]; grind)) hcp
end
def content (x:V):Nat:=x.foldl (fun g a=>Nat.gcd g a.natAbs) 0
def prime (x:V):V:=if content x=0 then x else x.map (fun a=>a / (content x:Int))
def zi:∀ (x:V) (g:Nat),(x.foldl (fun g a=>Nat.gcd g a.natAbs) g) ∣ g/\∀ a∈x,((x.foldl (fun g a=>Nat.gcd g a.natAbs) g:Nat):Int) ∣ a
 | [],g=>⟨Nat.dvd_refl _,fun a h=>by cases h⟩
 | b :: x,g=>by
  obtain ⟨h1,h2⟩:=zi x (Nat.gcd g b.natAbs);simp only [WH];refine ⟨Nat.dvd_trans h1 (Nat.gcd_dvd_left _ _),fun a ha=>?_⟩;rcases Vt.1 ha with rfl | ha
  ·exact Yj.2 (Nat.dvd_trans h1 (Nat.gcd_dvd_right _ _))
  ·exact h2 a ha
def content_dvd {x:V} {a:Int} (h:a∈x):(content x:Int) ∣ a:=(zi x 0).2 a h
def prime_length (x:V):(prime x).length=x.length:=by unfold prime; split <;> simp
def sS (x:V):scl 1 x=x:=by
 unfold scl
 conv=>rhs; rw [<- YM x]
 exact WN fun a _=>by simp
def jH (x:V):∃ c:Int,0<c/\scl c (prime x)=x:=by
 by_cases h:content x=0
 ·exact ⟨1,zO,by unfold prime; rw [if_pos h,sS]⟩
 ·refine ⟨(content x:Int),zO,?_⟩;unfold prime scl;rw [if_neg h,Xd]
  conv=>rhs; rw [<- YM x]
  refine WN fun a ha=>?_;exact ZM (content_dvd ha)
section
variable {d:Nat} {E L L' Rn:V->Prop} {R:List V} {l:List V} {a:V}
def Keep.of_scl {I:V->Prop} {c:Int} (hc:0<c) {x:V} (hx:x.length=d) (h:Keep d E I (scl c x)):Keep d E I x:=by
 refine ⟨hx,fun e he=>?_,fun i hi=>?_⟩
 ·have:=h.eq e he
  rw [dot_scl] at this;rcases Vv.1 this with h1 | h1
  ·omega
  ·exact h1
 ·have:=h.ge i hi
  rw [dot_scl] at this;exact WY this hc
def kJ {c:Int} (hc:0<c) {b x:V}:dot b (scl c x)=0 ↔ dot b x=0:=by
 rw [dot_scl];constructor
 ·intro h;rcases Vv.1 h with h1 | h1
  ·omega
  ·exact h1
 ·intro h; rw [h]; simp
def Con.image {R0:V->Prop} (hLl:∀ x,L x->x.length=d) (hRl:∀ x,R0 x->x.length=d) (hL':∀ x,L' x->x.length=d) (hR':∀ x,Rn x->x.length=d) (f:V->V) (hf0:f (kM d)=kM d)
  (hfm:∀ x y c,x.length=d->y.length=d->f (mix 1 x c y)=mix 1 (f x) c (f y)) (hfs:∀ x c,x.length=d->f (scl c x)=scl c (f x)) (hfl:∀ x,x.length=d->(f x).length=d)
  (h1:∀ x,L x->∀ c:Int,Con d L' Rn (scl c (f x))) (h2:∀ x,R0 x->Con d L' Rn (f x)) {x:V} (hx:Con d L R0 x):Con d L' Rn (f x):=by
 induction hx with
 | zero=>rw [hf0]; exact .zero
 | @line x y c hx hy ih =>
  have l1:=hx.length hLl hRl;have l2:=hLl _ hy;rw [hfm x y c l1 l2];have e:mix 1 (f x) c (f y)=mix 1 (f x) 1 (scl c (f y)):=aJ (by rw [mix_length (hfl x l1) (hfl y l2),mix_length (hfl x l1) (ai (hfl y l2))]) fun i=>by
   rw [al ((hfl x l1).trans (hfl y l2).symm),al ((hfl x l1).trans (ai (hfl y l2)).symm),aA]; grind
  rw [e];exact (h1 y hy c).add hL' hR' _ ih
 | @ray x y c hc hx hy ih =>
  rw [hfm x y c (hx.length hLl hRl) (hRl _ hy)];exact ih.sum2 hL' hR' (h2 y hy) zO hc
 | @div x k hk hl hx ih =>
  rw [hfs x k hl] at ih;exact .div k hk (hfl x hl) ih
def mv (a u:V) (x:V):V:=mix (dot a u) x (-(dot a x)) u
def br {u x:V} (hu:u.length=d) (hx:x.length=d):(mv a u x).length=d:=mix_length hx hu
def uT {u x:V} (hu:u.length=d) (hx:x.length=d) (b:V):dot b (mv a u x)=dot a u*dot b x-dot a x*dot b u:=by
 unfold mv; rw [bg _ _ _ (hx.trans hu.symm)]; grind
def FV {u:V} (hu:u.length=d):mv a u (kM d)=kM d:=aJ (by rw [br hu (cq d),cq]) fun i=>by
 unfold mv; rw [al ((cq d).trans hu.symm),ic,ml]; simp
def FW {u x y:V} {c:Int} (hu:u.length=d) (hx:x.length=d) (hy:y.length=d):mv a u (mix 1 x c y)=mix 1 (mv a u x) c (mv a u y) :=
 aJ (by rw [br hu (mix_length hx hy),mix_length (br hu hx) (br hu hy)]) fun i=>by
  rw [al ((br hu hx).trans (br hu hy).symm)];unfold mv;rw [al ((mix_length hx hy).trans hu.symm),al (hx.trans hy.symm),al (hx.trans hu.symm),al (hy.trans hu.symm),bg _ _ _ (hx.trans hy.symm)]; grind
def Cf {u x:V} {c:Int} (hu:u.length=d) (hx:x.length=d):mv a u (scl c x)=scl c (mv a u x) :=
 aJ (by rw [br hu (ai hx),ai (br hu hx)]) fun i=>by
  rw [aA];unfold mv;rw [al ((ai hx).trans hu.symm),aA,al (hx.trans hu.symm),dot_scl]; grind
def Hm {u:V} (hu:u.length=d):mv a u u=kM d:=aJ (by rw [br hu hu,cq]) fun i=>by
 unfold mv; rw [al rfl,ic]; grind
def uU {u x:V} (hu:u.length=d) (hx:x.length=d) (h:dot a x=0):mv a u x=scl (dot a u) x:=aJ (by rw [br hu hx,ai hx]) fun i=>by
 unfold mv; rw [al (hx.trans hu.symm),aA,h]; simp
def foldV (a u:V) (x:V):V:=prime (mv a u x)
def fF {u x:V} (hu:u.length=d) (hx:x.length=d):(foldV a u x).length=d:=by unfold foldV; rw [prime_length]; exact br hu hx
def kT (u x:V):∃ c:Int,0<c/\scl c (foldV a u x)=mv a u x:=jH _
def Ou {L0:V->Prop} {Ls:List V} {u:V} (h:DD d E (· ∈ l) L0 R) (ha:a.length=d) (hL0:∀ x,L0 x->x∈Ls\/∃ s:Int,x=scl s u) (hLs:∀ x∈Ls,L0 x) (hul:u.length=d) (huE:∀ e,E e->dot e u=0) (huI:∀ i∈l,dot i u=0) (hu:0<dot a u) (eq:Bool) :
  DD d (fun e=>E e\/(eq=true/\e=a)) (· ∈ l++(if eq then [] else [a])) (· ∈ Ls.map (foldV a u)) (R.map (foldV a u)++(if eq then [] else [u])):=by
 have lLs:∀ x∈Ls,x.length=d:=fun x hx=>h.lenL x (hLs x hx);have hin:∀ i,i∈l++(if eq then [] else [a]) ↔ i∈l\/(eq=false/\i=a):=fun i=>by cases eq <;> simp
 have hdotF:∀ x,x.length=d->∀ b,(dot b u=0\/b=a)->(dot b (foldV a u x)=0 ↔ b=a\/dot b x=0):=fun x hx b hb=>by
  obtain ⟨c,hc,e⟩:=kT (a:=a) u x;rw [<- kJ hc,e,uT hul hx];rcases hb with hb | rfl
  ·rw [hb];constructor
   ·intro h;rcases Vv.1 (show dot a u*dot b x=0 by omega) with h1 | h1
    ·omega
    ·exact .inr h1
   ·rintro (rfl | h)
    ·omega
    ·rw [h]; simp
  ·constructor
   ·intro _; exact .inl rfl
   ·intro _; grind
 have hposF:∀ x,x.length=d->∀ b,dot b u=0->0<=dot b x->0<=dot b (foldV a u x):=fun x hx b hb h0=>by
  obtain ⟨c,hc,e⟩:=kT (a:=a) u x
  have:0<=dot b (scl c (foldV a u x)):=by
   rw [e,uT hul hx,hb]
   have:=VI (Wn hu) h0
   omega
  rw [dot_scl] at this;exact WY this hc
 have lL':∀ x,x∈Ls.map (foldV a u)->x.length=d:=fun x hx=>by
  obtain ⟨y,hy,rfl⟩:=uL.1 hx;exact fF hul (lLs y hy)
 have lR':∀ x,x∈R.map (foldV a u)++(if eq then [] else [u])->x.length=d:=fun x hx=>by
  rcases Vf.1 hx with hx | hx
  ·obtain ⟨y,hy,rfl⟩:=uL.1 hx;exact fF hul (h.lenR y hy)
  ·cases eq
   ·simp at hx; rw [hx]; exact hul
   ·simp at hx
 have lineTo:∀ (Q:V->Prop) x,L0 x->∀ c:Int,Con d (· ∈ Ls.map (foldV a u)) Q (scl c (mv a u x)):=fun Q x hx c=>by
  rcases hL0 x hx with hx | ⟨s,rfl⟩
  ·obtain ⟨c',hc',e⟩:=kT (a:=a) u x;rw [<- e];have e2:scl c (scl c' (foldV a u x))=scl (c*c') (foldV a u x):=aJ (by simp [scl]) fun i=>by rw [aA,aA,aA]; grind
   rw [e2];exact Con.of_line (fF hul (lLs x hx)) (WO hx) _
  ·have e:scl c (mv a u (scl s u))=kM d:=by
    rw [Cf hul hul,Hm hul];exact aJ (by simp [scl,kM]) fun i=>by rw [aA,aA,ic]; simp
   rw [e]; exact .zero
 have spnTo:∀ {x},Spn d L0 x->Spn d (· ∈ Ls.map (foldV a u)) (mv a u x):=fun hx =>
  Con.image h.lenL (fun r h=>h.elim) lL' (fun r h=>h.elim) (mv a u) (FV hul) (fun x y c hx hy=>FW hul hx hy) (fun x c hx=>Cf hul hx) (fun x hx=>br hul hx) (lineTo _) (fun r h=>h.elim) hx
 have conTo:∀ {x},Con d L0 (· ∈ R) x->Con d (· ∈ Ls.map (foldV a u)) (· ∈ R.map (foldV a u)++(if eq then [] else [u])) (mv a u x):=fun hx =>
  Con.image h.lenL h.lenR lL' lR' (mv a u) (FV hul) (fun x y c hx hy=>FW hul hx hy) (fun x c hx=>Cf hul hx) (fun x hx=>br hul hx) (lineTo _) (fun r hr=>by
   obtain ⟨c',hc',e⟩:=kT (a:=a) u r;rw [<- e];exact (Con.of_ray (fF hul (h.lenR r hr)) (VU _ (WO hr))).smul lL' lR' c' zO) hx
 have old:∀ {x},Keep d (fun e=>E e\/(eq=true/\e=a)) (· ∈ l++(if eq then [] else [a])) x->Keep d E (· ∈ l) x:=fun hx=>⟨hx.len,fun e he=>hx.eq e (.inl he),fun i hi=>hx.ge i ((hin i).2 (.inl hi))⟩
 refine ⟨lL',?_,?_,?_,?_,?_,?_,?_,?_⟩
 ·
  intro x hx e he;obtain ⟨y,hy,rfl⟩:=uL.1 hx;rcases he with he | ⟨-,rfl⟩
  ·exact (hdotF y (lLs y hy) e (.inl (huE e he))).2 (.inr (h.lineE y (hLs y hy) e he))
  ·exact (hdotF y (lLs y hy) e (.inr rfl)).2 (.inl rfl)
 ·
  intro x hx i hi;obtain ⟨y,hy,rfl⟩:=uL.1 hx;rcases (hin i).1 hi with hi | ⟨-,rfl⟩
  ·exact (hdotF y (lLs y hy) i (.inl (huI i hi))).2 (.inr (h.lineI y (hLs y hy) i hi))
  ·exact (hdotF y (lLs y hy) i (.inr rfl)).2 (.inl rfl)
 ·
  intro x hx hE hI;have hax:dot a x=0:=by
   cases eq
   ·exact hI a ((hin a).2 (.inr ⟨rfl,rfl⟩))
   ·exact hE a (.inr ⟨rfl,rfl⟩)
  have:=spnTo (h.lines x hx (fun e he=>hE e (.inl he)) (fun i hi=>hI i ((hin i).2 (.inl hi))))
  rw [uU hul hx hax] at this;exact .div _ hu hx this
 ·
  intro r hr;rcases Vf.1 hr with hr | hr
  ·obtain ⟨y,hy,rfl⟩:=uL.1 hr;have hyk:=h.keep y hy;refine ⟨fF hul hyk.len,fun e he=>?_,fun i hi=>?_⟩
   ·rcases he with he | ⟨-,rfl⟩
    ·exact (hdotF y hyk.len e (.inl (huE e he))).2 (.inr (hyk.eq e he))
    ·exact (hdotF y hyk.len e (.inr rfl)).2 (.inl rfl)
   ·rcases (hin i).1 hi with hi | ⟨-,rfl⟩
    ·exact hposF y hyk.len i (huI i hi) (hyk.ge i hi)
    ·have:=(hdotF y hyk.len i (.inr rfl)).2 (.inl rfl); omega
  ·cases eq
   ·simp at hr;subst hr;refine ⟨hul,fun e he=>?_,fun i hi=>?_⟩
    ·rcases he with he | ⟨h,_⟩
     ·exact huE e he
     ·cases h
    ·rcases (hin i).1 hi with hi | ⟨-,rfl⟩
     ·have:=huI i hi; omega
     ·omega
   ·simp at hr
 ·
  intro x hx;have hc:=conTo (h.all x (old hx));cases hq:eq with
  | true =>
   have hax:dot a x=0:=hx.eq a (.inr ⟨hq,rfl⟩);rw [uU hul hx.len hax] at hc;rw [hq] at hc;exact .div _ hu hx.len hc
  | false =>
   have hax:0<=dot a x:=hx.ge a ((hin a).2 (.inr ⟨hq,rfl⟩));rw [hq] at hc lR';refine .div (dot a u) hu hx.len ?_;have e:scl (dot a u) x=mix 1 (mv a u x) (dot a x) u:=aJ (by rw [ai hx.len,mix_length (br hul hx.len) hul]) fun i=>by
    rw [aA,al ((br hul hx.len).trans hul.symm)];unfold mv;rw [al (hx.len.trans hul.symm)]; grind
   rw [e];exact .ray _ hax hc (by simp)
 ·
  intro r hr;rcases Vf.1 hr with hr | hr
  ·obtain ⟨y,hy,rfl⟩:=uL.1 hr;obtain ⟨b,hb,hn⟩:=h.off y hy;obtain ⟨c,hc,e⟩:=kT (a:=a) u y;refine ⟨b,(hin b).2 (.inl hb),fun h0=>?_⟩;rw [<- kJ hc,e,uT hul (h.lenR y hy),huI b hb] at h0;rcases Vv.1 (show dot a u*dot b y=0 by omega) with h1 | h1
   ·omega
   ·exact hn h1
  ·cases eq
   ·simp at hr;subst hr;exact ⟨a,(hin a).2 (.inr ⟨rfl,rfl⟩),zO⟩
   ·simp at hr
 ·
  intro r hr y hy hs;have hyo:=old hy;rcases Vf.1 hr with hr | hr
  ·obtain ⟨z,hz,rfl⟩:=uL.1 hr;have hzl:=h.lenR z hz;have hay:dot a y=0:=by
    cases eq
    ·exact hs a ((hin a).2 (.inr ⟨rfl,rfl⟩)) ((hdotF z hzl a (.inr rfl)).2 (.inl rfl))
    ·exact hy.eq a (.inr ⟨rfl,rfl⟩)
   obtain ⟨k,c,hk,hc,hsp⟩:=h.ext z hz y hyo (fun i hi h0=>hs i ((hin i).2 (.inl hi)) ((hdotF z hzl i (.inl (huI i hi))).2 (.inr h0)));obtain ⟨c',hc',e⟩:=kT (a:=a) u z;refine ⟨k*dot a u,c*c',WA hk hu,VI hc zO,?_⟩
   have:=spnTo hsp
   have e2:mv a u (mix k y (-c) z)=mix (k*dot a u) y (-(c*c')) (foldV a u z):=aJ (by rw [br hul (mix_length hyo.len hzl),mix_length hyo.len (fF hul hzl)]) fun i=>by
    have e3:at_ (mv a u z) i=c'*at_ (foldV a u z) i:=by rw [<- e,aA]
    rw [al (hyo.len.trans (fF hul hzl).symm)];unfold mv at e3 ⊢;rw [al ((mix_length hyo.len hzl).trans hul.symm),al (hyo.len.trans hzl.symm),bg _ _ _ (hyo.len.trans hzl.symm),hay];rw [al (hzl.trans hul.symm)] at e3
    grind
   rw [e2] at this;exact this
  ·cases hq:eq with
   | true=>rw [hq] at hr; simp at hr
   | false =>
    rw [hq] at hr;simp at hr;subst hr;have hay:0<=dot a y:=hy.ge a ((hin a).2 (.inr ⟨hq,rfl⟩));refine ⟨dot a r,dot a y,hu,hay,?_⟩
    have:=spnTo (h.lin_of hyo fun i hi=>hs i ((hin i).2 (.inl hi)) (huI i hi))
    exact this
 ·
  refine Xt.2 ⟨?_,by cases eq <;> simp,fun r hr s hs=>?_⟩
  ·refine Wk.2 (h.apart.imp_of_mem fun {r s} hr hs hne h2=>hne fun i hi=>?_);have g:=h2 i ((hin i).2 (.inl hi));rw [hdotF r (h.lenR r hr) i (.inl (huI i hi)),hdotF s (h.lenR s hs) i (.inl (huI i hi))] at g;by_cases hia:i=a
   ·subst hia; have:=huI i hi; omega
   ·simpa [hia] using g
  ·cases eq
   ·simp at hs;subst hs;obtain ⟨y,hy,rfl⟩:=uL.1 hr;intro h2
    have:=(h2 a ((hin a).2 (.inr ⟨rfl,rfl⟩))).1 ((hdotF y (h.lenR y hy) a (.inr rfl)).2 (.inl rfl))
    omega
   ·simp at hs
def K5 (hLl:∀ x,L x->x.length=d) {p n:V} (hp:p.length=d) (hn:n.length=d) {y:V} (hy:Con d L (fun r=>r=p\/r=n) y) :
  ∃ k α β:Int,0<k/\0<=α/\0<=β/\Spn d L (mix k y (-1) (mix α p β n)):=by
 have hRl:∀ r,(r=p\/r=n)->r.length=d:=fun r hr=>by rcases hr with rfl | rfl <;> first | exact hp | exact hn
 induction hy with
 | zero =>
  refine ⟨1,0,0,zO,zO,zO,?_⟩;have e:mix 1 (kM d) (-1) (mix 0 p 0 n)=kM d:=aJ (by rw [mix_length (cq d) (mix_length hp hn),cq]) fun i=>by
   rw [al ((cq d).trans (mix_length hp hn).symm),al (hp.trans hn.symm),ic]; grind
  rw [e]; exact .zero
 | @line x z c hx hz ih =>
  obtain ⟨k,α,β,hk,hα,hβ,h⟩:=ih;have hxl:=hx.length hLl hRl;have hzl:=hLl _ hz;refine ⟨k,α,β,hk,hα,hβ,?_⟩;have e:mix k (mix 1 x c z) (-1) (mix α p β n)=mix 1 (mix k x (-1) (mix α p β n)) (k*c) z:=aJ (by rw [mix_length (mix_length hxl hzl) (mix_length hp hn),mix_length (mix_length hxl (mix_length hp hn)) hzl]) fun i=>by
   rw [al ((mix_length hxl hzl).trans (mix_length hp hn).symm),al (hxl.trans hzl.symm),al ((mix_length hxl (mix_length hp hn)).trans hzl.symm),al (hxl.trans (mix_length hp hn).symm)]; grind
  rw [e]; exact .line _ h hz
 | @ray x z c hc hx hz ih =>
  obtain ⟨k,α,β,hk,hα,hβ,h⟩:=ih;have hxl:=hx.length hLl hRl;rcases hz with rfl | rfl
  ·refine ⟨k,α+k*c,β,hk,by have:=VI (Wn hk) hc; omega,hβ,?_⟩;have e:mix k (mix 1 x c z) (-1) (mix (α+k*c) z β n)=mix k x (-1) (mix α z β n):=aJ (by rw [mix_length (mix_length hxl hp) (mix_length hp hn),mix_length hxl (mix_length hp hn)]) fun i=>by
    rw [al ((mix_length hxl hp).trans (mix_length hp hn).symm),al (hxl.trans hp.symm),al (hp.trans hn.symm),al (hxl.trans (mix_length hp hn).symm),al (hp.trans hn.symm)]; grind
   rw [e]; exact h
  ·refine ⟨k,α,β+k*c,hk,hα,by have:=VI (Wn hk) hc; omega,?_⟩;have e:mix k (mix 1 x c z) (-1) (mix α p (β+k*c) z)=mix k x (-1) (mix α p β z):=aJ (by rw [mix_length (mix_length hxl hn) (mix_length hp hn),mix_length hxl (mix_length hp hn)]) fun i=>by
    rw [al ((mix_length hxl hn).trans (mix_length hp hn).symm),al (hxl.trans hn.symm),al (hp.trans hn.symm),al (hxl.trans (mix_length hp hn).symm),al (hp.trans hn.symm)]; grind
   rw [e]; exact h
 | @div x j hj hl hx ih =>
  obtain ⟨k,α,β,hk,hα,hβ,h⟩:=ih;refine ⟨k*j,α,β,WA hk hj,hα,hβ,?_⟩;have e:mix k (scl j x) (-1) (mix α p β n)=mix (k*j) x (-1) (mix α p β n):=aJ (by rw [mix_length (ai hl) (mix_length hp hn),mix_length hl (mix_length hp hn)]) fun i=>by
   rw [al ((ai hl).trans (mix_length hp hn).symm),aA,al (hl.trans (mix_length hp hn).symm)]; grind
  rw [e] at h; exact h
def idxs (R:List V) (f:V->Bool):List Nat:=(List.range R.length).filter fun i=>f (R.getD i [])
def nearB (l R:List V) (i k:Nat):Bool:=(List.range R.length).all fun t=>t == i || t == k || !(l.all fun b=>!(dot b (R.getD i []) == 0 && dot b (R.getD k []) == 0) || dot b (R.getD t []) == 0)
def cutL (l:List V) (a:V) (eq:Bool) (R:List V):List V :=
 (idxs R fun r=>dot a r == 0).map (R.getD · []) ++
 (idxs R fun r=>decide (0<dot a r)).flatMap fun i=>(if eq then [] else [R.getD i []]) ++
  ((idxs R fun r=>decide (dot a r<0)).filter (nearB l R i)).map fun k=>prime (mx a (R.getD i []) (R.getD k []))
def mem_idxs {f:V->Bool} {i:Nat}:i∈idxs R f ↔ ∃ r,R[i]? = some r/\f r=true:=by
 unfold idxs;rw [Vj,Wb];constructor
 ·rintro ⟨h1,h2⟩;exact ⟨R[i],pD h1,by simpa [h1] using h2⟩
 ·rintro ⟨r,h1,h2⟩;obtain ⟨h3,rfl⟩:=I6.1 h1;exact ⟨h3,by simpa [h3] using h2⟩
def getD_of {i:Nat} {r:V} (h:R[i]? = some r):R.getD i []=r:=by simp [dH,h]
def nu {i k:Nat} {p n:V} (hi:R[i]? = some p) (hk:R[k]? = some n):nearB l R i k=true ↔ E7 l R i k p n:=by
 unfold nearB E7;rw [getD_of hi,getD_of hk,Vq];constructor
 ·intro h t q ht hti htk hall
  have:=h t (Wb.2 (I6.1 ht).1)
  rw [getD_of ht] at this;simp only [WK,beq_iff_eq,hti,htk,false_or,V3,Z9] at this;obtain ⟨b,hb,hn⟩:=this
  apply hn
  simp only [WK,V3,X6,beq_eq_false_iff_ne,beq_iff_eq];by_cases h1:dot b p=0
  ·by_cases h2:dot b n=0
   ·exact .inr (hall b hb h1 h2)
   ·exact .inl (.inr h2)
  ·exact .inl (.inl h1)
 ·intro h t ht;have ht:=Wb.1 ht;have hq:R[t]? = some R[t]:=pD ht;rw [getD_of hq];by_cases hti:t=i
  ·simp [hti]
  ·by_cases htk:t=k
   ·simp [htk]
   ·have:=h t _ hq hti htk
    simp only [WK,beq_iff_eq,hti,htk,false_or,V3,Z9];simp only [YN,Classical.not_imp] at this;obtain ⟨b,hb,h1,h2,h3⟩:=this;exact ⟨b,hb,by simp [h1,h2,h3]⟩
def mem_cutL {eq:Bool} {r':V}:r'∈cutL l a eq R ↔ (∃ (i:Nat) (r:V),R[i]? = some r/\dot a r=0/\r'=r)\/(∃ (i:Nat) (r:V),R[i]? = some r/\0<dot a r/\((eq=false/\r'=r)\/∃ (k:Nat) (n:V),R[k]? = some n/\dot a n<0/\E7 l R i k r n/\r'=prime (mx a r n))):=by
 unfold cutL;rw [Vf,uL,List.mem_flatMap];constructor
 ·rintro (⟨i,hi,rfl⟩ | ⟨i,hi,h⟩)
  ·obtain ⟨r,h1,h2⟩:=mem_idxs.1 hi;exact .inl ⟨i,r,h1,by simpa using h2,getD_of h1⟩
  ·obtain ⟨r,h1,h2⟩:=mem_idxs.1 hi;refine .inr ⟨i,r,h1,by simpa using h2,?_⟩;rw [getD_of h1] at h;rcases Vf.1 h with h | h
   ·cases eq
    ·exact .inl ⟨rfl,by simpa using h⟩
    ·simp at h
   ·obtain ⟨k,hk,rfl⟩:=uL.1 h;obtain ⟨hk1,hk2⟩:=Vj.1 hk;obtain ⟨n,h3,h4⟩:=mem_idxs.1 hk1;exact .inr ⟨k,n,h3,by simpa using h4,(nu h1 h3).1 hk2,by rw [getD_of h3]⟩
 ·rintro (⟨i,r,h1,h2,rfl⟩ | ⟨i,r,h1,h2,h⟩)
  ·exact .inl ⟨i,mem_idxs.2 ⟨r',h1,by simp [h2]⟩,getD_of h1⟩
  ·refine .inr ⟨i,mem_idxs.2 ⟨r,h1,by simp [h2]⟩,?_⟩;rw [getD_of h1];rcases h with ⟨rfl,rfl⟩ | ⟨k,n,h3,h4,h5,rfl⟩
   ·simp
   ·exact Wl _ (uL.2 ⟨k,Vj.2 ⟨mem_idxs.2 ⟨n,h3,by simp [h4]⟩,(nu h1 h3).2 h5⟩,by rw [getD_of h3]⟩)
def Cv (f:V->Bool):(idxs R f).Pairwise (· < ·):=Ya _ Ys
def Qt (h:DD d E (· ∈ l) L R) (hal:∀ x,L x->dot a x=0) (eq:Bool) :
  DD d (fun e=>E e\/(eq=true/\e=a)) (· ∈ l++(if eq then [] else [a])) L (cutL l a eq R):=by
 have hin:∀ i,i∈l++(if eq then [] else [a]) ↔ i∈l\/(eq=false/\i=a):=fun i=>by cases eq <;> simp
 have old:∀ {x},Keep d (fun e=>E e\/(eq=true/\e=a)) (· ∈ l++(if eq then [] else [a])) x->Keep d E (· ∈ l) x:=fun hx=>⟨hx.len,fun e he=>hx.eq e (.inl he),fun i hi=>hx.ge i ((hin i).2 (.inl hi))⟩
 have keepR:∀ {i r},R[i]? = some r->Keep d E (· ∈ l) r:=fun h1=>h.keep _ (Ve h1);have primeK:∀ {p n},Keep d E (· ∈ l) p->Keep d E (· ∈ l) n->0<dot a p->dot a n<0->Keep d E (· ∈ l) (prime (mx a p n))/\dot a (prime (mx a p n))=0/\∀ b∈l,(dot b (prime (mx a p n))=0 ↔ dot b p=0/\dot b n=0):=fun {p n} hp hn h1 h2=>by
  obtain ⟨c,hc,e⟩:=jH (mx a p n);have hm:=fD hp hn h1 h2;refine ⟨Keep.of_scl hc (by rw [prime_length]; exact hm.len) (by rw [e]; exact hm),(kJ hc).1 (by rw [e]; exact oC hp.len hn.len),fun b hb=>?_⟩;rw [<- kJ hc,e]; exact lC hp hn h1 h2 hb
 have lR':∀ r,r∈cutL l a eq R->r.length=d:=fun r hr=>by
  rcases mem_cutL.1 hr with ⟨i,r,h1,h2,rfl⟩ | ⟨i,r,h1,h2,⟨h3,rfl⟩ | ⟨k,n,h3,h4,h5,rfl⟩⟩
  ·exact (keepR h1).len
  ·exact (keepR h1).len
  ·exact (primeK (keepR h1) (keepR h3) h2 h4).1.len
 have hmx:∀ i j p n,R[i]? = some p->R[j]? = some n->0<dot a p->dot a n<0->E7 l R i j p n->Con d L (· ∈ cutL l a eq R) (mx a p n):=fun i j p n h1 h2 h3 h4 h5=>by
  obtain ⟨c,hc,e⟩:=jH (mx a p n);rw [<- e];have hm:prime (mx a p n)∈cutL l a eq R:=mem_cutL.2 (.inr ⟨i,p,h1,h3,.inr ⟨j,n,h2,h4,h5,rfl⟩⟩);exact (Con.of_ray (lR' _ hm) hm).smul h.lenL lR' c zO
 refine ⟨h.lenL,?_,?_,?_,?_,?_,?_,?_,?_⟩
 ·intro x hx e he;rcases he with he | ⟨-,rfl⟩
  ·exact h.lineE x hx e he
  ·exact hal x hx
 ·intro x hx i hi;rcases (hin i).1 hi with hi | ⟨-,rfl⟩
  ·exact h.lineI x hx i hi
  ·exact hal x hx
 ·intro x hx hE hI;exact h.lines x hx (fun e he=>hE e (.inl he)) (fun i hi=>hI i ((hin i).2 (.inl hi)))
 ·
  intro r hr;rcases mem_cutL.1 hr with ⟨i,r,h1,h2,rfl⟩ | ⟨i,r,h1,h2,⟨h3,rfl⟩ | ⟨k,n,h3,h4,h5,rfl⟩⟩
  ·refine ⟨(keepR h1).len,fun e he=>?_,fun i hi=>?_⟩
   ·rcases he with he | ⟨-,rfl⟩
    ·exact (keepR h1).eq e he
    ·exact h2
   ·rcases (hin i).1 hi with hi | ⟨-,rfl⟩
    ·exact (keepR h1).ge i hi
    ·omega
  ·refine ⟨(keepR h1).len,fun e he=>?_,fun i hi=>?_⟩
   ·rcases he with he | ⟨h,rfl⟩
    ·exact (keepR h1).eq e he
    ·rw [h3] at h; cases h
   ·rcases (hin i).1 hi with hi | ⟨-,rfl⟩
    ·exact (keepR h1).ge i hi
    ·omega
  ·obtain ⟨g1,g2,g3⟩:=primeK (keepR h1) (keepR h3) h2 h4;refine ⟨g1.len,fun e he=>?_,fun i hi=>?_⟩
   ·rcases he with he | ⟨-,rfl⟩
    ·exact g1.eq e he
    ·exact g2
   ·rcases (hin i).1 hi with hi | ⟨-,rfl⟩
    ·exact g1.ge i hi
    ·omega
 ·
  intro x hx;cases hq:eq with
  | true =>
   rw [hq] at hmx lR';exact Et h hal lR' (fun r hr e=>by
    obtain ⟨i,hi⟩:=VH hr;exact mem_cutL.2 (.inl ⟨i,r,hi,e,rfl⟩)) hmx _ x rfl (old hx) (hx.eq a (.inr ⟨hq,rfl⟩))
  | false =>
   rw [hq] at hmx lR';exact Oy h hal lR' (fun r hr e=>by
    obtain ⟨i,hi⟩:=VH hr;by_cases h0:dot a r=0
    ·exact mem_cutL.2 (.inl ⟨i,r,hi,h0,rfl⟩)
    ·exact mem_cutL.2 (.inr ⟨i,r,hi,zO,.inl ⟨rfl,rfl⟩⟩)) hmx _ x rfl (old hx) (hx.ge a ((hin a).2 (.inr ⟨hq,rfl⟩)))
 ·
  intro r hr;rcases mem_cutL.1 hr with ⟨i,r,h1,h2,rfl⟩ | ⟨i,r,h1,h2,⟨h3,rfl⟩ | ⟨k,n,h3,h4,h5,rfl⟩⟩
  ·obtain ⟨b,hb,hn⟩:=h.off _ (Ve h1);exact ⟨b,(hin b).2 (.inl hb),hn⟩
  ·obtain ⟨b,hb,hn⟩:=h.off _ (Ve h1);exact ⟨b,(hin b).2 (.inl hb),hn⟩
  ·obtain ⟨b,hb,hn⟩:=h.off _ (Ve h1);exact ⟨b,(hin b).2 (.inl hb),fun e=>hn (((primeK (keepR h1) (keepR h3) h2 h4).2.2 b hb).1 e).1⟩
 ·
  intro r hr y hy hs;have hyo:=old hy;rcases mem_cutL.1 hr with ⟨i,r,h1,h2,rfl⟩ | ⟨i,r,h1,h2,⟨h3,rfl⟩ | ⟨k,n,h3,h4,h5,rfl⟩⟩
  ·exact h.ext _ (Ve h1) y hyo fun i hi e=>hs i ((hin i).2 (.inl hi)) e
  ·exact h.ext _ (Ve h1) y hyo fun i hi e=>hs i ((hin i).2 (.inl hi)) e
  ·obtain ⟨g1,g2,g3⟩:=primeK (keepR h1) (keepR h3) h2 h4;have hay:dot a y=0:=by
    cases eq
    ·exact hs a ((hin a).2 (.inr ⟨rfl,rfl⟩)) g2
    ·exact hy.eq a (.inr ⟨rfl,rfl⟩)
   have hf:=h.face (S:=fun b=>b∈l/\dot b r=0/\dot b n=0) (fun b hb=>hb.1) (h.all y hyo) (fun b hb=>hs b ((hin b).2 (.inl hb.1)) ((g3 b hb.1).2 hb.2));have hf2:Con d L (fun x=>x=r\/x=n) y:=hf.mono (fun _ h=>h) fun x hx=>by
    obtain ⟨t,ht⟩:=VH hx.1;by_cases hti:t=i
    ·rw [hti,h1] at ht; cases ht; exact .inl rfl
    ·by_cases htk:t=k
     ·rw [htk,h3] at ht; cases ht; exact .inr rfl
     ·exact absurd (fun b hb e1 e2=>hx.2 b ⟨hb,e1,e2⟩) (h5 t x ht hti htk)
   have hrl:=(keepR h1).len;have hnl:=(keepR h3).len;obtain ⟨k',α,β,hk',hα,hβ,hsp⟩:=K5 h.lenL hrl hnl hf2;have hz:=Con.dot_zero (a:=a) h.lenL (fun r h=>h.elim) (fun x hx=>hal x hx) (fun r h=>h.elim) hsp;rw [bg _ _ _ (hyo.len.trans (mix_length hrl hnl).symm),hay,bg _ _ _ (hrl.trans hnl.symm)] at hz;obtain ⟨c,hc,e⟩:=jH (mx a r n);refine ⟨dot a r*k',β*c,WA h2 hk',VI hβ zO,?_⟩
   have:=Spn.smul h.lenL hsp (dot a r)
   have e2:scl (dot a r) (mix k' y (-1) (mix α r β n))=mix (dot a r*k') y (-(β*c)) (prime (mx a r n)):=aJ (by rw [ai (mix_length hyo.len (mix_length hrl hnl)),mix_length hyo.len g1.len]) fun i=>by
    have e3:at_ (mx a r n) i=c*at_ (prime (mx a r n)) i:=by rw [<- aA,e]
    unfold mx at e3;rw [al (hrl.trans hnl.symm)] at e3;rw [aA,al (hyo.len.trans (mix_length hrl hnl).symm),al (hrl.trans hnl.symm),al (hyo.len.trans g1.len.symm)];unfold mx
    grind
   rw [e2] at this;exact this
 ·
  have hne:∀ {i j:Nat} {r s:V},R[i]? = some r->R[j]? = some s->i≠j->¬ ∀ b,b∈l++(if eq then [] else [a])->(dot b r=0 ↔ dot b s=0):=fun h1 h2 hij h3=>hij (h.same h1 h2 fun b hb=>h3 b ((hin b).2 (.inl hb)));have hsign:∀ {i j:Nat} {r s:V},R[i]? = some r->R[j]? = some s->dot a r≠dot a s->i≠j:=fun h1 h2 h3 e=>by rw [e,h2] at h1; cases h1; exact h3 rfl
  unfold cutL;refine Xt.2 ⟨?_,?_,fun r hr s hs=>?_⟩
  ·refine Wk.2 ((Cv _).imp_of_mem fun {i j} hi hj hlt=>?_);obtain ⟨r,h1,_⟩:=mem_idxs.1 hi;obtain ⟨s,h2,_⟩:=mem_idxs.1 hj;rw [getD_of h1,getD_of h2];exact hne h1 h2 zO
  ·refine List.pairwise_flatMap.2 ⟨fun i hi=>?_,(Cv _).imp_of_mem fun {i j} hi hj hlt x hx y hy=>?_⟩
   ·obtain ⟨p,h1,h2⟩:=mem_idxs.1 hi;have h2:0<dot a p:=by simpa using h2
    refine Xt.2 ⟨by cases eq <;> simp,?_,fun x hx y hy=>?_⟩
    ·refine Wk.2 (((Cv _).filter _).imp_of_mem fun {k k'} hk hk' hlt=>?_);obtain ⟨hk1,hk2⟩:=Vj.1 hk;obtain ⟨hk1',hk2'⟩:=Vj.1 hk';obtain ⟨n,h3,h4⟩:=mem_idxs.1 hk1;obtain ⟨n',h3',h4'⟩:=mem_idxs.1 hk1';have h4:dot a n<0:=by simpa using h4
     have h4':dot a n'<0:=by simpa using h4'
     rw [getD_of h1,getD_of h3,getD_of h3'];intro h5;refine (nu h1 h3).1 hk2 k' n' h3' (hsign h3' h1 zO) zO fun b hb e1 e2=>?_;have g:=(h5 b ((hin b).2 (.inl hb))).1 (((primeK (keepR h1) (keepR h3) h2 h4).2.2 b hb).2 ⟨e1,e2⟩);exact (((primeK (keepR h1) (keepR h3') h2 h4').2.2 b hb).1 g).2
    ·obtain ⟨k,hk,rfl⟩:=uL.1 hy;obtain ⟨hk1,hk2⟩:=Vj.1 hk;obtain ⟨n,h3,h4⟩:=mem_idxs.1 hk1;have h4:dot a n<0:=by simpa using h4
     rw [getD_of h1] at hx ⊢;rw [getD_of h3];cases eq
     ·simp at hx;subst hx;intro h5
      have:=(h5 a ((hin a).2 (.inr ⟨rfl,rfl⟩))).2 (primeK (keepR h1) (keepR h3) h2 h4).2.1
      omega
     ·simp at hx
   ·obtain ⟨p,h1,h2⟩:=mem_idxs.1 hi;obtain ⟨q,h1',h2'⟩:=mem_idxs.1 hj;have h2:0<dot a p:=by simpa using h2
    have h2':0<dot a q:=by simpa using h2'
    rw [getD_of h1] at hx;rw [getD_of h1'] at hy;rcases Vf.1 hx with hx | hx <;> rcases Vf.1 hy with hy | hy
    ·cases eq
     ·simp at hx hy; subst hx; subst hy; exact hne h1 h1' zO
     ·simp at hx
    ·obtain ⟨k,hk,rfl⟩:=uL.1 hy;obtain ⟨hk1,hk2⟩:=Vj.1 hk;obtain ⟨n,h3,h4⟩:=mem_idxs.1 hk1;have h4:dot a n<0:=by simpa using h4
     rw [getD_of h3];cases eq
     ·simp at hx;subst hx;intro h5
      have:=(h5 a ((hin a).2 (.inr ⟨rfl,rfl⟩))).2 (primeK (keepR h1') (keepR h3) h2' h4).2.1
      omega
     ·simp at hx
    ·obtain ⟨k,hk,rfl⟩:=uL.1 hx;obtain ⟨hk1,hk2⟩:=Vj.1 hk;obtain ⟨n,h3,h4⟩:=mem_idxs.1 hk1;have h4:dot a n<0:=by simpa using h4
     rw [getD_of h3];cases eq
     ·simp at hy;subst hy;intro h5
      have:=(h5 a ((hin a).2 (.inr ⟨rfl,rfl⟩))).1 (primeK (keepR h1) (keepR h3) h2 h4).2.1
      omega
     ·simp at hy
    ·obtain ⟨k,hk,rfl⟩:=uL.1 hx;obtain ⟨k',hk',rfl⟩:=uL.1 hy;obtain ⟨hk1,hk2⟩:=Vj.1 hk;obtain ⟨hk1',hk2'⟩:=Vj.1 hk';obtain ⟨n,h3,h4⟩:=mem_idxs.1 hk1;obtain ⟨n',h3',h4'⟩:=mem_idxs.1 hk1';have h4:dot a n<0:=by simpa using h4
     have h4':dot a n'<0:=by simpa using h4'
     rw [getD_of h3,getD_of h3'];intro h5;refine (nu h1 h3).1 hk2 j q h1' zO (hsign h1' h3 zO) fun b hb e1 e2=>?_;have g:=(h5 b ((hin b).2 (.inl hb))).1 (((primeK (keepR h1) (keepR h3) h2 h4).2.2 b hb).2 ⟨e1,e2⟩);exact (((primeK (keepR h1') (keepR h3') h2' h4').2.2 b hb).1 g).1
  ·obtain ⟨t,ht,rfl⟩:=uL.1 hr;obtain ⟨q,h0,h0'⟩:=mem_idxs.1 ht;have h0':dot a q=0:=by simpa using h0'
   obtain ⟨i,hi,hs⟩:=List.mem_flatMap.1 hs;obtain ⟨p,h1,h2⟩:=mem_idxs.1 hi;have h2:0<dot a p:=by simpa using h2
   rw [getD_of h0];rw [getD_of h1] at hs;rcases Vf.1 hs with hs | hs
   ·cases eq
    ·simp at hs; subst hs; exact hne h0 h1 (hsign h0 h1 zO)
    ·simp at hs
   ·obtain ⟨k,hk,rfl⟩:=uL.1 hs;obtain ⟨hk1,hk2⟩:=Vj.1 hk;obtain ⟨n,h3,h4⟩:=mem_idxs.1 hk1;have h4:dot a n<0:=by simpa using h4
    rw [getD_of h3];intro h5;refine (nu h1 h3).1 hk2 t q h0 (hsign h0 h1 zO) (hsign h0 h3 zO) fun b hb e1 e2=>?_;exact (h5 b ((hin b).2 (.inl hb))).2 (((primeK (keepR h1) (keepR h3) h2 h4).2.2 b hb).2 ⟨e1,e2⟩)
end
def j9 {x:V} {g:Int} (h:∀ a∈x,g ∣ a):g ∣ (content x:Int):=by
 have key:∀ (x:V) (n:Nat),g ∣ (n:Int)->(∀ a∈x,g ∣ a)->g ∣ ((x.foldl (fun g a=>Nat.gcd g a.natAbs) n:Nat):Int):=by
  intro x
  induction x with
  | nil=>intro n hn _; exact hn
  | cons b x ih =>
   intro n hn hx;simp only [WH];refine ih _ ?_ fun a ha=>hx a (Ct _ ha);have h1:g.natAbs ∣ n:=by have:=X7.2 hn; simpa using this
   have h2:g.natAbs ∣ b.natAbs:=X7.2 (hx b (N0 ..));exact Int.natAbs_dvd.1 (Int.ofNat_dvd.2 (Nat.dvd_gcd h1 h2))
 exact key x 0 (Int.dvd_zero g) h
def content_eq_zero {x:V}:content x=0 ↔ ∀ a∈x,a=0:=by
 constructor
 ·intro h a ha
  have:=content_dvd ha
  rw [h] at this;exact Int.zero_dvd.1 this
 ·intro h
  have:(0:Int) ∣ (content x:Int):=j9 fun a ha=>by rw [h a ha]; exact Int.dvd_zero 0
  have:=Int.zero_dvd.1 this
  omega
def F0 {x:V} {a:Int} (h:a∈x):∃ i,at_ x i=a:=by
 obtain ⟨i,hi⟩:=VH h;exact ⟨i,by simp [at_,hi]⟩
def MP {x:V} {i:Nat} (h:at_ x i≠0):at_ x i∈x:=by
 unfold at_ at h ⊢;rw [dH] at h ⊢;cases hx:x[i]? with
 | none=>rw [hx] at h; exact absurd rfl h
 | some y=>exact Ve hx
def zero_iff {x:V}:(∀ a∈x,a=0) ↔ ∀ i,at_ x i=0:=by
 constructor
 ·intro h i;by_cases h0:at_ x i=0
  ·exact h0
  ·exact h _ (MP h0)
 ·intro h a ha;obtain ⟨i,rfl⟩:=F0 ha;exact h i
def Gp {d:Nat} {x:V} (hx:x.length=d):x=kM d ↔ ∀ i,at_ x i=0:=by
 constructor
 ·rintro rfl i; exact ic
 ·intro h; exact aJ (by rw [hx,cq]) fun i=>by rw [h i,ic]
def mo {c:Int} (hc:0<c) (x:V):(content (scl c x):Int)=c*content x:=by
 refine Int.dvd_antisymm ?_ ?_ ?_ ?_
 ·omega
 ·have:=VI (Wn hc) (Int.natCast_nonneg (content x)); exact this
 ·
  by_cases h0:content x=0
  ·rw [h0]; simp
  ·have h1:∀ a∈x,(content (scl c x):Int) ∣ c*a:=fun a ha=>content_dvd (WO ha);have h2:c ∣ (content (scl c x):Int):=j9 fun a ha=>by
    obtain ⟨b,-,rfl⟩:=uL.1 ha;exact Int.dvd_mul_right _ _
   obtain ⟨g,hg⟩:=h2;rw [hg];refine ZN c (j9 fun a ha=>?_)
   have:=h1 a ha
   rw [hg] at this;exact Int.dvd_of_mul_dvd_mul_left zO this
 ·refine j9 fun a ha=>?_;obtain ⟨b,hb,rfl⟩:=uL.1 ha;exact ZN c (content_dvd hb)
def ik {x:V} (h:∃ i,at_ x i≠0):content (prime x)=1:=by
 have h0:content x≠0:=fun e=>by
  obtain ⟨i,hi⟩:=h;exact hi (zero_iff.1 (content_eq_zero.1 e) i)
 have e:scl (content x:Int) (prime x)=x:=by
  unfold prime scl;rw [if_neg h0,Xd]
  conv=>rhs; rw [<- YM x]
  exact WN fun a ha=>ZM (content_dvd ha)
 have:=mo (show (0:Int)<content x by omega) (prime x)
 rw [e] at this;have h2:(content x:Int)*1=content x*content (prime x):=zO
 have:=Zf zO h2
 omega
def Tt {x y:V} (hx:content x=1) (hy:content y=1) {m n:Int} (hm:0<m) (hn:0<n) (h:scl m x=scl n y):x=y:=by
 have h1:=mo hm x;have h2:=mo hn y;rw [hx] at h1;rw [hy] at h2;rw [h] at h1;have e:m=n:=zO;subst e;have hl:x.length=y.length:=by have:=congrArg List.length h; simpa [scl] using this
 refine aJ hl fun i=>?_
 have:=congrArg (fun z=>at_ z i) h
 simp only [aA] at this;exact Zf zO this
def jX {x:V} (i:Nat):(at_ (prime x) i=0 ↔ at_ x i=0)/\(0<at_ (prime x) i ↔ 0<at_ x i):=by
 obtain ⟨c,hc,e⟩:=jH x
 have:at_ x i=c*at_ (prime x) i:=by rw [<- aA,e]
 rw [this];refine ⟨⟨fun h=>by rw [h]; simp,fun h=>?_⟩,⟨fun h=>WA hc h,fun h=>?_⟩⟩
 ·rcases Vv.1 h with h1 | h1
  ·omega
  ·exact h1
 ·exact Int.pos_of_mul_pos_right h hc
def before (a b:Nat):Bool:=a != b && (a != 0 && (b == 0 || decide (a<b)))
def rank (i d:Nat):Nat:=if i=0 then d else i
def before_iff {a b d:Nat} (ha:a<d) (hb:b<d):before a b=true ↔ rank a d<rank b d:=by
 unfold before rank;simp only [Vy,bne_iff_ne,WK,beq_iff_eq,decide_eq_true_eq];split <;> split <;> omega
def places (d:Nat):List Nat:=(List.range' 1 (d-1))++(if d=0 then [] else [0])
def pivot (a:V):Option Nat:=(places a.length).find? fun i=>!decide (at_ a i=0)
def pv (a:V):Nat:=(pivot a).getD 0
def mem_places {d i:Nat}:i∈places d ↔ i<d:=by
 unfold places;rw [Vf,Zj];by_cases hd:d=0
 ·simp [hd]; omega
 ·simp [hd]; omega
def rn (d:Nat):(places d).Pairwise fun a b=>before a b=true:=by
 unfold places;refine Xt.2 ⟨?_,by split <;> simp,fun a ha b hb=>?_⟩
 ·refine XL (fun {a b} ha hb h=>?_) (List.pairwise_lt_range' (s:=1) (n:=d-1));rw [Zj] at ha hb;unfold before;simp only [Vy,bne_iff_ne,WK,beq_iff_eq,decide_eq_true_eq];omega
 ·rw [Zj] at ha;split at hb
  ·cases hb
  ·simp only [Vh] at hb;subst hb;unfold before
   simp
   omega
def pivot_some {a:V} {p:Nat}:pivot a=some p ↔ p<a.length/\at_ a p≠0/\∀ q,q<a.length->before q p=true->at_ a q=0:=by
 unfold pivot;rw [List.find?_eq_some_iff_append];constructor
 ·rintro ⟨h1,l1,l2,e,h2⟩;have hp:p∈places a.length:=by rw [e]; simp
  refine ⟨mem_places.1 hp,by simpa using h1,fun q hq hb=>?_⟩;have hqm:q∈places a.length:=mem_places.2 hq;rw [e] at hqm;rcases Vf.1 hqm with h | h
  ·have:=h2 q h; simpa using this
  ·exfalso
   have hs:=rn a.length;rw [e] at hs;have hs:=(Xt.1 hs).2.1;rcases Vt.1 h with rfl | h
   ·simp [before] at hb
   ·have:=(WS.1 hs).1 q h
    unfold before at this hb;simp only [Vy,bne_iff_ne,WK,beq_iff_eq,decide_eq_true_eq] at this hb;omega
 ·rintro ⟨h1,h2,h3⟩;obtain ⟨l1,l2,e⟩:=List.append_of_mem (mem_places.2 h1);refine ⟨by simpa using h2,l1,l2,e,fun q hq=>?_⟩;have hs:=rn a.length;rw [e] at hs;have hb:=(Xt.1 hs).2.2 q hq p (N0 ..);have hql:q<a.length:=mem_places.1 (by rw [e]; exact VU _ hq)
  simpa using h3 q hql hb
def pivot_none {a:V}:pivot a=none ↔ ∀ i,at_ a i=0:=by
 unfold pivot;rw [Z2];constructor
 ·intro h i;by_cases hi:i<a.length
  ·have:=h i (mem_places.2 hi); simpa using this
  ·simp [at_,dH,VC (Xp hi)]
 ·intro h i _;simp [h i]
def LD {a:V} {p:Nat} (h:pivot a=some p):pv a=p:=by simp [pv,h]
def wo (a u:V) (p:Nat):V:=if at_ a p=0 then a else prime (mix (at_ u p) a (-(at_ a p)) u)
def restF (F:List V) (a:V):V:=F.foldl (fun a r=>wo a r (pv r)) (prime a)
def signed (a:V) (p:Nat):V:=if at_ a p<0 then scl (-1) a else a
def insP (x:V) (p:Nat):List V->List V
 | []=>[x]
 | r :: F=>if before (pv r) p=true then r :: insP x p F else x :: r :: F
def putF (F:List V) (a:V):List V :=
 match pivot (restF F a) with
 | none=>F
 | some p=>insP (signed (restF F a) p) p (F.map fun r=>wo r (signed (restF F a) p) p)
def formF (l:List V):List V:=l.foldl putF []
structure Ech (d:Nat) (F:List V):Prop where
 len:∀ r∈F,r.length=d
 piv:∀ r∈F,∃ p,pivot r=some p/\0<at_ r p
 cont:∀ r∈F,content r=1
 clear:F.Pairwise fun r s=>at_ r (pv s)=0/\at_ s (pv r)=0
 sorted:F.Pairwise fun r s=>before (pv r) (pv s)=true
def Ech.nil (d:Nat):Ech d []:=⟨by simp,by simp,by simp,by simp,by simp⟩
section
variable {d:Nat} {F:List V}
def Ech.pos (h:Ech d F) {r:V} (hr:r∈F):pivot r=some (pv r)/\0<at_ r (pv r)/\pv r<d:=by
 obtain ⟨p,hp,h0⟩:=h.piv r hr;rw [LD hp];exact ⟨hp,h0,h.len r hr ▸ (pivot_some.1 hp).1⟩
def Ech.clear_of (h:Ech d F) {r s:V} (hr:r∈F) (hs:s∈F) (hne:r≠s):at_ r (pv s)=0:=by
 obtain ⟨i,hi⟩:=VH hr;obtain ⟨j,hj⟩:=VH hs;obtain ⟨hi',rfl⟩:=I6.1 hi;obtain ⟨hj',rfl⟩:=I6.1 hj;rcases XG i j with hlt | heq | hlt
 ·exact (VM.1 h.clear i j hi' hj' hlt).1
 ·subst heq; exact absurd rfl hne
 ·exact (VM.1 h.clear j i hj' hi' hlt).2
def Au (a:Nat):before a a=false:=by simp [before]
def Ech.pv_inj (h:Ech d F) {r s:V} (hr:r∈F) (hs:s∈F) (he:pv r=pv s):r=s:=by
 by_cases hne:r=s
 ·exact hne
 ·exfalso
  have:=h.clear_of hr hs hne
  rw [<- he] at this
  have:=(h.pos hr).2.1
  omega
def MO {a u:V} {p:Nat} (ha:a.length=d) (hu:u.length=d) (h:0<at_ u p):∃ k:Int,0<k/\∃ c:Int,0<c/\∃ s:Int,scl k (wo a u p)=mix c a s u/\((s=0) ↔ (at_ a p=0)):=by
 unfold wo;split
 ·rename_i h0;refine ⟨1,zO,1,zO,0,aJ (by rw [ai ha,mix_length ha hu]) fun i=>?_,by simp [h0]⟩;rw [aA,al (ha.trans hu.symm)]; grind
 ·rename_i h0;obtain ⟨k,hk,e⟩:=jH (mix (at_ u p) a (-(at_ a p)) u);exact ⟨k,hk,at_ u p,h,-(at_ a p),e,by simp [h0]⟩
def wo_length {a u:V} {p:Nat} (ha:a.length=d) (hu:u.length=d):(wo a u p).length=d:=by
 unfold wo;split
 ·exact ha
 ·rw [prime_length]; exact mix_length ha hu
def BI {a u:V} {p:Nat} (ha:a.length=d) (hu:u.length=d) (h:0<at_ u p):at_ (wo a u p) p=0:=by
 unfold wo;split
 ·rename_i h0; exact h0
 ·rw [(jX p).1,al (ha.trans hu.symm)]; grind
def xz {a u:V} {p q:Nat} (ha:a.length=d) (hu:u.length=d) (h0:at_ u q=0):at_ a q=0->at_ (wo a u p) q=0:=by
 intro haq;unfold wo;split
 ·exact haq
 ·rw [(jX q).1,al (ha.trans hu.symm),haq,h0]; simp
def Pz {a u:V} {p q:Nat} (ha:a.length=d) (hu:u.length=d) (h:0<at_ u p) (h0:at_ u q=0) (haq:0<at_ a q):0<at_ (wo a u p) q:=by
 unfold wo;split
 ·exact haq
 ·rw [(jX q).2,al (ha.trans hu.symm),h0]
  have:=WA h haq
  simpa using this
def GP {a u:V} {p q:Nat} (ha:a.length=d) (hu:u.length=d) (hc:content a=1) (hq:at_ (wo a u p) q≠0):content (wo a u p)=1:=by
 unfold wo at hq ⊢;split at hq
 ·rename_i h0; rw [if_pos h0]; exact hc
 ·rename_i h0;rw [if_neg h0];exact ik ⟨q,fun e=>hq ((jX q).1.2 e)⟩
def nj {A B:V->Prop} (hA:∀ x,A x->x.length=d) (hB:∀ x,B x->x.length=d) (h:∀ x,A x->Spn d B x) {x:V} (hx:Spn d A x):Spn d B x :=
 Con.trans hB (fun r h=>h.elim) (fun l hl c=>Spn.smul hB (h l hl) c) (fun r h=>h.elim) hA (fun r h=>h.elim) hx
def dY {B:V->Prop} {x:V} (hx:x.length=d) (h:B x):Spn d B x:=by
 have:=Con.of_line (d:=d) (L:=B) (R:=fun _=>False) hx h 1
 rw [sS] at this; exact this
def nP {B:V->Prop} (hB:∀ x,B x->x.length=d) {x:V} (hx:x.length=d) {k:Int} (hk:k≠0) (h:Spn d B (scl k x)):Spn d B x:=by
 rcases Z3 hk with h0 | h0
 ·have:=Spn.smul hB h (-1)
  have e:scl (-1) (scl k x)=scl (-k) x:=aJ (by simp [scl]) fun i=>by rw [aA,aA,aA]; grind
  rw [e] at this;exact .div (-k) zO hx this
 ·exact .div k h0 hx h
def Ha (h:Ech d F):∀ (G:List V) (done:List V),done++G=F->∀ a:V,a.length=d->(∀ r∈done,at_ a (pv r)=0) ->
  (G.foldl (fun a r=>wo a r (pv r)) a).length=d/\(∀ r∈F,at_ (G.foldl (fun a r=>wo a r (pv r)) a) (pv r)=0) /\
  (∃ m k:Int,0<m/\0<k/\Spn d (· ∈ F) (mix m (G.foldl (fun a r=>wo a r (pv r)) a) (-k) a)) /\
  ((content a=1\/∀ i,at_ a i=0)->(content (G.foldl (fun a r=>wo a r (pv r)) a)=1\/∀ i,at_ (G.foldl (fun a r=>wo a r (pv r)) a) i=0))
 | [],done,e,a,ha,hd=>by
  rw [Wp] at e;subst e;refine ⟨ha,hd,⟨1,1,zO,zO,?_⟩,fun h=>h⟩
  have:mix 1 a (-1) a=kM d:=aJ (by rw [mix_length ha ha,cq]) fun i=>by rw [al rfl,ic]; grind
  show Spn d _ (mix 1 a (-1) a);rw [this]; exact .zero
 | r :: G,done,e,a,ha,hd=>by
  have hr:r∈F:=by rw [<- e]; simp
  have hrl:=h.len r hr;obtain ⟨hp1,hp2,hp3⟩:=h.pos hr;have hstep:∀ s∈done++[r],at_ (wo a r (pv r)) (pv s)=0:=fun s hs=>by
   rcases Vf.1 hs with hs | hs
   ·have hsF:s∈F:=by rw [<- e]; exact VU _ hs
    by_cases hne:r=s
    ·subst hne; exact BI ha hrl hp2
    ·exact xz ha hrl (h.clear_of hr hsF hne) (hd s hs)
   ·simp only [Vh] at hs;subst hs;exact BI ha hrl hp2
  obtain ⟨g1,g2,⟨m,k,hm,hk,g3⟩,g4⟩:=Ha h G (done++[r]) (by rw [W0]; exact e) (wo a r (pv r)) (wo_length ha hrl) hstep;simp only [WH];refine ⟨g1,g2,?_,fun hc=>g4 ?_⟩
  ·obtain ⟨k1,hk1,c,hc,s,e1,_⟩:=MO ha hrl hp2;refine ⟨m*k1,k*c,WA hm hk1,WA hk hc,?_⟩;have t1:=Spn.smul (fun x hx=>h.len x hx) g3 k1;have t2:=Spn.sum2 (fun x hx=>h.len x hx) t1 (dY (d:=d) (B:=(· ∈ F)) hrl hr) 1 (k*s);have e2:mix 1 (scl k1 (mix m (G.foldl (fun a r=>wo a r (pv r)) (wo a r (pv r))) (-k) (wo a r (pv r)))) (k*s) r=mix (m*k1) (G.foldl (fun a r=>wo a r (pv r)) (wo a r (pv r))) (-(k*c)) a :=
    aJ (by rw [mix_length (ai (mix_length g1 (wo_length ha hrl))) hrl,mix_length g1 ha]) fun i=>by
     have e3:k1*at_ (wo a r (pv r)) i=c*at_ a i+s*at_ r i:=by rw [<- aA,e1,al (ha.trans hrl.symm)]
     rw [al ((ai (mix_length g1 (wo_length ha hrl))).trans hrl.symm),aA,al (g1.trans (wo_length ha hrl).symm),al (g1.trans ha.symm)]
     grind
   rw [e2] at t2;exact t2
  ·by_cases hz:∀ i,at_ (wo a r (pv r)) i=0
   ·exact .inr hz
   ·refine .inl ?_;have ⟨q,hq⟩:∃ q,at_ (wo a r (pv r)) q≠0:=YN.1 hz;rcases hc with hc | hc
    ·exact GP ha hrl hc hq
    ·exfalso
     have:wo a r (pv r)=a:=by unfold wo; rw [if_pos (hc _)]
     rw [this] at hq;exact hq (hc q)
def Dp (h:Ech d F) {a:V} (ha:a.length=d) :
  (restF F a).length=d/\(∀ r∈F,at_ (restF F a) (pv r)=0)/\(∃ m k:Int,0<m/\0<k/\Spn d (· ∈ F) (mix m (restF F a) (-k) a))/\(content (restF F a)=1\/∀ i,at_ (restF F a) i=0):=by
 have hl:(prime a).length=d:=by rw [prime_length]; exact ha
 obtain ⟨g1,g2,⟨m,k,hm,hk,g3⟩,g4⟩:=Ha h F [] rfl (prime a) hl (by simp);obtain ⟨c,hc,e⟩:=jH a;refine ⟨g1,g2,⟨m*c,k,WA hm hc,hk,?_⟩,g4 ?_⟩
 ·have t:=Spn.smul (fun x hx=>h.len x hx) g3 c;have e2:scl c (mix m (F.foldl (fun a r=>wo a r (pv r)) (prime a)) (-k) (prime a))=mix (m*c) (restF F a) (-k) a:=aJ (by rw [ai (mix_length g1 hl),mix_length (show (restF F a).length=d from g1) ha]) fun i=>by
   have e3:at_ a i=c*at_ (prime a) i:=by rw [<- aA,e]
   rw [aA,al (g1.trans hl.symm)];unfold restF;rw [al (g1.trans ha.symm),e3]; grind
  rw [e2] at t; exact t
 ·by_cases hz:∀ i,at_ a i=0
  ·exact .inr fun i=>(jX i).1.2 (hz i)
  ·exact .inl (ik (YN.1 hz))
def signed_length {a:V} {p:Nat} (ha:a.length=d):(signed a p).length=d:=by unfold signed; split <;> simp [scl,ha]
def IJ {a:V} {p:Nat} (q:Nat):at_ (signed a p) q=0 ↔ at_ a q=0:=by
 unfold signed;split
 ·rw [aA]; omega
 ·exact YK
def Fv {a:V} {p:Nat} (h:at_ a p≠0):0<at_ (signed a p) p:=by
 unfold signed;split
 ·rw [aA]; omega
 ·omega
def yf {B:V->Prop} (hB:∀ x,B x->x.length=d) {a:V} {p:Nat} (ha:a.length=d):Spn d B (signed a p) ↔ Spn d B a:=by
 unfold signed;split
 ·exact ⟨fun h=>nP hB ha zO h,fun h=>Spn.smul hB h (-1)⟩
 ·exact YK
def wF (a:V):content (scl (-1) a)=content a:=by
 have key:∀ (x:V) (g:Nat),(scl (-1) x).foldl (fun g a=>Nat.gcd g a.natAbs) g=x.foldl (fun g a=>Nat.gcd g a.natAbs) g:=by
  intro x
  induction x with
  | nil=>intro g; rfl
  | cons b x ih =>
   intro g;simp only [scl,wW,WH] at ih ⊢;rw [show (-1*b).natAbs=b.natAbs by rw [Int.neg_one_mul,WL]];exact ih _
 exact key a 0
def Df {a:V} {p:Nat} (h:content a=1):content (signed a p)=1:=by
 unfold signed;split
 ·rw [wF]; exact h
 ·exact h
def mem_insP {x y:V} {p:Nat}:∀ {G:List V},y∈insP x p G ↔ y=x\/y∈G
 | []=>by simp [insP]
 | r :: G=>by
  unfold insP;split
  ·rw [Vt,mem_insP,Vt];constructor
   ·rintro (h | h | h)
    ·exact .inr (.inl h)
    ·exact .inl h
    ·exact .inr (.inr h)
   ·rintro (h | h | h)
    ·exact .inr (.inl h)
    ·exact .inl h
    ·exact .inr (.inr h)
  ·simp
def rq {rel:V->V->Prop} {x:V} {p:Nat}:∀ {G:List V},G.Pairwise rel->(∀ r∈G,rel r x/\rel x r)->(insP x p G).Pairwise rel
 | [],_,_=>by simp [insP]
 | r :: G,h,hx=>by
  obtain ⟨h1,h2⟩:=WS.1 h;unfold insP;split
  ·refine WS.2 ⟨fun y hy=>?_,rq h2 fun s hs=>hx s (Ct _ hs)⟩;rcases mem_insP.1 hy with rfl | hy
   ·exact (hx r (N0 ..)).1
   ·exact h1 y hy
  ·refine WS.2 ⟨fun y hy=>(hx y hy).2,h⟩
def kL {a b c d:Nat} (ha:a<d) (hb:b<d) (hc:c<d) (h1:before a b=true) (h2:before b c=true):before a c=true:=by
 rw [before_iff ha hb] at h1;rw [before_iff hb hc] at h2;rw [before_iff ha hc];omega
def oL {a b d:Nat} (ha:a<d) (hb:b<d) (hne:a≠b):before a b=true\/before b a=true:=by
 rw [before_iff ha hb,before_iff hb ha];unfold rank;split <;> split <;> omega
def wx {x:V} {p:Nat} (hp:pv x=p) (hpd:p<d):∀ {G:List V},(∀ r∈G,pv r<d/\pv r≠p)->G.Pairwise (fun r s=>before (pv r) (pv s)=true)->(insP x p G).Pairwise (fun r s=>before (pv r) (pv s)=true)
 | [],_,_=>by simp [insP]
 | r :: G,hG,h=>by
  obtain ⟨h1,h2⟩:=WS.1 h;obtain ⟨hr1,hr2⟩:=hG r (N0 ..);unfold insP;split
  ·rename_i hb;refine WS.2 ⟨fun y hy=>?_,wx hp hpd (fun s hs=>hG s (Ct _ hs)) h2⟩;rcases mem_insP.1 hy with rfl | hy
   ·rw [hp]; exact hb
   ·exact h1 y hy
  ·rename_i hb;have hb':before p (pv r)=true:=(oL hr1 hpd hr2).resolve_left hb;refine WS.2 ⟨fun y hy=>?_,h⟩;rw [hp];rcases Vt.1 hy with rfl | hy
   ·exact hb'
   ·exact kL hpd hr1 (hG y (Ct _ hy)).1 hb' (h1 y hy)
def put_ech (h:Ech d F) {a:V} (ha:a.length=d):Ech d (putF F a)/\∀ x,Spn d (· ∈ putF F a) x ↔ Spn d (fun y=>y∈F\/y=a) x:=by
 obtain ⟨g1,g2,⟨m,k,hm,hk,g3⟩,g4⟩:=Dp h ha;have lF:∀ y,(y∈F\/y=a)->y.length=d:=fun y hy=>by rcases hy with hy | rfl <;> first | exact h.len y hy | exact ha
 unfold putF;split
 ·rename_i hn;have hz:=pivot_none.1 hn;refine ⟨h,fun x=>⟨fun hx=>hx.mono (fun y hy=>.inl hy) (fun r h=>h),fun hx=>nj lF (fun y hy=>h.len y hy) (fun y hy=>?_) hx⟩⟩;rcases hy with hy | rfl
  ·exact dY (h.len y hy) hy
  ·have e:mix m (restF F y) (-k) y=scl (-k) y:=aJ (by rw [mix_length g1 ha,ai ha]) fun i=>by rw [al (g1.trans ha.symm),aA,hz i]; simp
   rw [e] at g3;exact nP (fun x hx=>h.len x hx) ha zO g3
 ·rename_i p hp;obtain ⟨hp1,hp2,hp3⟩:=pivot_some.1 hp;rw [g1] at hp1 hp3
  generalize hb:signed (restF F a) p=b at *
  have hbl:b.length=d:=by rw [<- hb]; exact signed_length g1
  have hb0:0<at_ b p:=by rw [<- hb]; exact Fv hp2
  have hbz:∀ q,at_ b q=0 ↔ at_ (restF F a) q=0:=fun q=>by rw [<- hb]; exact IJ q
  have hbc:content b=1:=by
   rw [<- hb];exact Df (g4.resolve_right fun hz=>hp2 (hz p))
  have hbp:pivot b=some p:=pivot_some.2 ⟨by rw [hbl]; exact hp1,zO,fun q hq hbq=>by rw [hbl] at hq; exact (hbz q).2 (hp3 q hq hbq)⟩;have hbF:∀ r∈F,at_ b (pv r)=0:=fun r hr=>(hbz _).2 (g2 r hr);have hpF:∀ r∈F,pv r≠p:=fun r hr e=>by have:=hbF r hr; rw [e] at this; omega
  have hw:∀ r∈F,(wo r b p).length=d/\pivot (wo r b p)=some (pv r)/\0<at_ (wo r b p) (pv r)/\content (wo r b p)=1/\at_ (wo r b p) p=0:=fun r hr=>by
   have hrl:=h.len r hr;obtain ⟨q1,q2,q3⟩:=h.pos hr;have w1:=Pz hrl hbl hb0 (hbF r hr) q2;refine ⟨wo_length hrl hbl,pivot_some.2 ⟨by rw [wo_length hrl hbl]; exact q3,zO,fun q hq hbq=>?_⟩,w1,GP hrl hbl (h.cont r hr) (q:=pv r) zO,BI hrl hbl hb0⟩;rw [wo_length hrl hbl] at hq;have hrq:at_ r q=0:=(pivot_some.1 q1).2.2 q (by rw [hrl]; exact hq) hbq;rcases oL q3 hp1 (hpF r hr) with hbf | hbf
   ·exact xz hrl hbl ((pivot_some.1 hbp).2.2 q (by rw [hbl]; exact hq) (kL hq q3 hp1 hbq hbf)) hrq
   ·have:at_ r p=0:=(pivot_some.1 q1).2.2 p (by rw [hrl]; exact hp1) hbf
    unfold wo;rw [if_pos this];exact hrq
  have hpvw:∀ r∈F,pv (wo r b p)=pv r:=fun r hr=>LD (hw r hr).2.1;have hpvb:pv b=p:=LD hbp;have hmem:∀ y,y∈insP b p (F.map fun r=>wo r b p) ↔ y=b\/∃ r∈F,wo r b p=y:=fun y=>by rw [mem_insP,uL]
  refine ⟨⟨?_,?_,?_,?_,?_⟩,?_⟩
  ·intro y hy;rcases (hmem y).1 hy with rfl | ⟨r,hr,rfl⟩
   ·exact hbl
   ·exact (hw r hr).1
  ·intro y hy;rcases (hmem y).1 hy with rfl | ⟨r,hr,rfl⟩
   ·exact ⟨p,hbp,hb0⟩
   ·exact ⟨_,(hw r hr).2.1,(hw r hr).2.2.1⟩
  ·intro y hy;rcases (hmem y).1 hy with rfl | ⟨r,hr,rfl⟩
   ·exact hbc
   ·exact (hw r hr).2.2.2.1
  ·refine rq (Wk.2 (h.clear.imp_of_mem fun {r s} hr hs hc=>?_)) fun y hy=>?_
   ·rw [hpvw r hr,hpvw s hs];exact ⟨xz (h.len r hr) hbl (hbF s hs) hc.1,xz (h.len s hs) hbl (hbF r hr) hc.2⟩
   ·obtain ⟨r,hr,rfl⟩:=uL.1 hy;rw [hpvw r hr,hpvb];exact ⟨⟨(hw r hr).2.2.2.2,hbF r hr⟩,⟨hbF r hr,(hw r hr).2.2.2.2⟩⟩
  ·refine wx hpvb hp1 (fun y hy=>?_) (Wk.2 (h.sorted.imp_of_mem fun {r s} hr hs hc=>?_))
   ·obtain ⟨r,hr,rfl⟩:=uL.1 hy;rw [hpvw r hr];exact ⟨(h.pos hr).2.2,hpF r hr⟩
   ·rw [hpvw r hr,hpvw s hs]; exact hc
  ·have lN:∀ y,y∈insP b p (F.map fun r=>wo r b p)->y.length=d:=fun y hy=>by
    rcases (hmem y).1 hy with rfl | ⟨r,hr,rfl⟩
    ·exact hbl
    ·exact (hw r hr).1
   have hbS:Spn d (fun y=>y∈F\/y=a) b:=by
    rw [<- hb,yf lF g1];have t:=Spn.sum2 lF (g3.mono (fun y hy=>.inl hy) (fun r h=>h)) (dY (B:=fun y=>y∈F\/y=a) ha (.inr rfl)) 1 k;have e:mix 1 (mix m (restF F a) (-k) a) k a=scl m (restF F a):=aJ (by rw [mix_length (mix_length g1 ha) ha,ai g1]) fun i=>by rw [al ((mix_length g1 ha).trans ha.symm),al (g1.trans ha.symm),aA]; grind
    rw [e] at t;exact nP lF g1 zO t
   have hbN:Spn d (· ∈ insP b p (F.map fun r=>wo r b p)) b:=dY hbl ((hmem b).2 (.inl rfl));have hrN:∀ r∈F,Spn d (· ∈ insP b p (F.map fun r=>wo r b p)) r:=fun r hr=>by
    obtain ⟨k1,hk1,c,hc,s,e1,_⟩:=MO (h.len r hr) hbl hb0;have t:=Spn.sum2 lN (dY (d:=d) (B:=(· ∈ insP b p (F.map fun r=>wo r b p))) (hw r hr).1 ((hmem _).2 (.inr ⟨r,hr,rfl⟩))) hbN k1 (-s);have e:mix k1 (wo r b p) (-s) b=scl c r:=aJ (by rw [mix_length (hw r hr).1 hbl,ai (h.len r hr)]) fun i=>by
     have e3:k1*at_ (wo r b p) i=c*at_ r i+s*at_ b i:=by rw [<- aA,e1,al ((h.len r hr).trans hbl.symm)]
     rw [al ((hw r hr).1.trans hbl.symm),aA]; grind
    rw [e] at t;exact nP lN (h.len r hr) zO t
   refine fun x=>⟨fun hx=>nj lN lF (fun y hy=>?_) hx,fun hx=>nj lF lN (fun y hy=>?_) hx⟩
   ·rcases (hmem y).1 hy with rfl | ⟨r,hr,rfl⟩
    ·exact hbS
    ·obtain ⟨k1,hk1,c,hc,s,e1,_⟩:=MO (h.len r hr) hbl hb0;have t:=Spn.sum2 lF (dY (d:=d) (B:=fun y=>y∈F\/y=a) (h.len r hr) (.inl hr)) hbS c s;rw [<- e1] at t;exact nP lF (hw r hr).1 zO t
   ·rcases hy with hy | rfl
    ·exact hrN y hy
    ·have t:=Spn.sum2 lN (nj (fun y hy=>h.len y hy) lN hrN g3) ((yf lN g1).1 (by rw [hb]; exact hbN)) (-1) m;have e:mix (-1) (mix m (restF F y) (-k) y) m (restF F y)=scl k y:=aJ (by rw [mix_length (mix_length g1 ha) g1,ai ha]) fun i=>by rw [al ((mix_length g1 ha).trans g1.symm),al (g1.trans ha.symm),aA]; grind
     rw [e] at t;exact nP lN ha zO t
def form_go:∀ (l:List V) (G:List V),Ech d G->(∀ a∈l,a.length=d)->Ech d (l.foldl putF G)/\∀ x,Spn d (· ∈ l.foldl putF G) x ↔ Spn d (fun y=>y∈G\/y∈l) x
 | [],G,h,_=>⟨h,fun x=>by simp⟩
 | a :: l,G,h,hl=>by
  obtain ⟨h1,h2⟩:=put_ech h (hl a (N0 ..));obtain ⟨h3,h4⟩:=form_go l (putF G a) h1 fun b hb=>hl b (Ct _ hb);refine ⟨h3,fun x=>(h4 x).trans ?_⟩;have l1:∀ y,(y∈putF G a\/y∈l)->y.length=d:=fun y hy=>by rcases hy with hy | hy <;> first | exact h1.len y hy | exact hl y (Ct _ hy)
  have l2:∀ y,(y∈G\/y∈a :: l)->y.length=d:=fun y hy=>by rcases hy with hy | hy <;> first | exact h.len y hy | exact hl y hy
  constructor
  ·refine fun hx=>nj l1 l2 (fun y hy=>?_) hx;rcases hy with hy | hy
   ·exact ((h2 y).1 (dY (h1.len y hy) hy)).mono (fun z hz=>by rcases hz with hz | rfl <;> first | exact .inl hz | exact .inr (N0 ..)) (fun r h=>h)
   ·exact dY (hl y (Ct _ hy)) (.inr (Ct _ hy))
  ·refine fun hx=>nj l2 l1 (fun y hy=>?_) hx;rcases hy with hy | hy
   ·exact ((h2 y).2 (dY (h.len y hy) (.inl hy))).mono (fun z hz=>.inl hz) (fun r h=>h)
   ·rcases Vt.1 hy with rfl | hy
    ·exact ((h2 y).2 (dY (hl y (N0 ..)) (.inr rfl))).mono (fun z hz=>.inl hz) (fun r h=>h)
    ·exact dY (hl y (Ct _ hy)) (.inr hy)
def form_ech {l:List V} (hl:∀ a∈l,a.length=d):Ech d (formF l)/\∀ x,Spn d (· ∈ formF l) x ↔ Spn d (· ∈ l) x:=by
 obtain ⟨h1,h2⟩:=form_go l [] (Ech.nil d) hl;exact ⟨h1,fun x=>(h2 x).trans (by simp)⟩
def Ech.spn_zero (h:Ech d F) {x:V} (hx:Spn d (· ∈ F) x) (hz:∀ r∈F,at_ x (pv r)=0):∀ i,at_ x i=0:=by
 have key:∀ {x:V},Spn d (· ∈ F) x->∃ k:Int,0<k/\∃ c:V->Int,(∀ i,k*at_ x i=(F.map fun r=>c r*at_ r i).sum):=by
  intro x hx
  induction hx with
  | zero =>
   have zs:∀ G:List V,(G.map fun _=>(0:Int)).sum=0:=fun G=>by induction G with
    | nil=>rfl
    | cons g G ih=>simp [ih]
   exact ⟨1,zO,fun _=>0,fun i=>by rw [ic]; simp only [Zx,Yx]; exact (zs F).symm⟩
  | @line x l n hx hl ih =>
   obtain ⟨k,hk,c,hc⟩:=ih;obtain ⟨j,hj⟩:=VH hl;refine ⟨k,hk,fun r=>c r+(if r=l then k*n else 0),fun i=>?_⟩;rw [al ((hx.length (fun x hx=>h.len x hx) (fun r h=>h.elim)).trans (h.len l hl).symm)];have hnd:F.Nodup:=(h.clear.imp_of_mem fun {r s} hr hs hc e=>by
    subst e
    have:=(h.pos hr).2.1
    omega)
   have e:∀ (G:List V),G.Nodup->(G.map fun r=>(c r+(if r=l then k*n else 0))*at_ r i).sum=(G.map fun r=>c r*at_ r i).sum+(if l∈G then k*n*at_ l i else 0):=by
    intro G
    induction G with
    | nil=>intro _; simp
    | cons g G ihG =>
     intro hg;obtain ⟨hg1,hg2⟩:=XB.1 hg;simp only [wW,X0,ihG hg2];by_cases hgl:g=l
     ·subst hgl;simp only [if_pos rfl,Vt,true_or,if_true,hg1,if_false]
      grind
     ·have:¬ l=g:=fun e=>hgl e.symm
      simp only [if_neg hgl,Vt,this,false_or]
      grind
   rw [e F hnd,if_pos hl,<- hc i]
   grind
  | ray c hc hx hr ih=>exact hr.elim
  | @div x j hj hl hx ih =>
   obtain ⟨k,hk,c,hc⟩:=ih;exact ⟨k*j,WA hk hj,c,fun i=>by rw [<- hc i,aA]; grind⟩
 obtain ⟨k,hk,c,hc⟩:=key hx;have hc0:∀ r∈F,c r=0:=fun r hr=>by
  have e1:=hc (pv r);rw [hz r hr] at e1;have e2:∀ (G:List V),(∀ g∈G,g∈F)->G.Nodup->(G.map fun s=>c s*at_ s (pv r)).sum=if r∈G then c r*at_ r (pv r) else 0:=by
   intro G
   induction G with
   | nil=>intro _ _; simp
   | cons g G ihG =>
    intro hG hg;obtain ⟨hg1,hg2⟩:=XB.1 hg;simp only [wW,X0,ihG (fun x hx=>hG x (Ct _ hx)) hg2];by_cases hgr:g=r
    ·subst hgr;simp [hg1]
    ·have hrg:¬ r=g:=fun e=>hgr e.symm;rw [h.clear_of (hG g (N0 ..)) hr hgr];simp [hrg]
  have hnd:F.Nodup:=(h.clear.imp_of_mem fun {r s} hr hs hc e=>by
   subst e
   have:=(h.pos hr).2.1
   omega)
  rw [e2 F (fun g hg=>hg) hnd,if_pos hr] at e1;rcases Vv.1 (show c r*at_ r (pv r)=0 by omega) with h1 | h1
  ·exact h1
  ·have:=(h.pos hr).2.1; omega
 intro i;have e1:=hc i;have e2:(F.map fun r=>c r*at_ r i).sum=0:=by
  have:(F.map fun r=>c r*at_ r i)=F.map fun _=>(0:Int):=WN fun r hr=>by rw [hc0 r hr]; simp
  rw [this]
  have:∀ G:List V,(G.map fun _=>(0:Int)).sum=0:=fun G=>by induction G with
   | nil=>rfl
   | cons g G ih=>simp [ih]
  exact this F
 rw [e2] at e1;rcases Vv.1 e1 with h1 | h1
 ·omega
 ·exact h1
def Ech.pivot_spn (h:Ech d F) {x:V} (hxl:x.length=d) (hx:Spn d (· ∈ F) x) {p:Nat} (hp:pivot x=some p):∃ r∈F,pv r=p:=by
 obtain ⟨hp1,hp2,hp3⟩:=pivot_some.1 hp;rw [hxl] at hp1 hp3;by_cases hr:∃ r∈F,at_ x (pv r)≠0
 ·
  have ⟨r,hrF,hr0,hmin⟩:∃ r∈F,at_ x (pv r)≠0/\∀ s∈F,at_ x (pv s)≠0->s=r\/before (pv r) (pv s)=true:=by
   have:∀ (G:List V),G.Pairwise (fun r s=>before (pv r) (pv s)=true)->(∃ r∈G,at_ x (pv r)≠0)->∃ r∈G,at_ x (pv r)≠0/\∀ s∈G,at_ x (pv s)≠0->s=r\/before (pv r) (pv s)=true:=by
    intro G
    induction G with
    | nil=>intro _ h; obtain ⟨r,hr,_⟩:=h; cases hr
    | cons g G ih =>
     intro hs hex;obtain ⟨h1,h2⟩:=WS.1 hs;by_cases hg:at_ x (pv g)=0
     ·obtain ⟨r,hr,hr0⟩:=hex;have hrG:r∈G:=by
       rcases Vt.1 hr with rfl | hr
       ·exact absurd hg hr0
       ·exact hr
      obtain ⟨r',hr',hr0',hm⟩:=ih h2 ⟨r,hrG,hr0⟩;refine ⟨r',Ct _ hr',hr0',fun s hs hs0=>?_⟩;rcases Vt.1 hs with rfl | hs
      ·exact absurd hg hs0
      ·exact hm s hs hs0
     ·refine ⟨g,N0 ..,hg,fun s hs hs0=>?_⟩;rcases Vt.1 hs with rfl | hs
      ·exact .inl rfl
      ·exact .inr (h1 s hs)
   exact this F h.sorted hr
  refine ⟨r,hrF,?_⟩;obtain ⟨q1,q2,q3⟩:=h.pos hrF;by_cases he:pv r=p
  ·exact he
  ·exfalso
   rcases oL q3 hp1 he with hb | hb
   ·exact hr0 (hp3 _ q3 hb)
   ·
    have:∀ r∈F,at_ x (pv r)≠0->at_ r p=0:=fun s hs hs0=>by
     obtain ⟨t1,t2,t3⟩:=h.pos hs;refine (pivot_some.1 t1).2.2 p (by rw [h.len s hs]; exact hp1) ?_;rcases hmin s hs hs0 with rfl | hlt
     ·exact hb
     ·exact kL hp1 q3 t3 hb hlt
    have key:∀ (G:List V) (y:V),y.length=d->Spn d (· ∈ F) y->(∀ g∈G,g∈F)->(∀ s∈F,s ∉ G->at_ y (pv s)=0)->(∀ s∈F,at_ y (pv s)≠0->at_ s p=0)->G.Nodup->at_ y p=0:=by
     intro G
     induction G with
     | nil=>intro y hy hs _ hz _ _; exact h.spn_zero hs (fun s hs=>hz s hs (by simp)) p
     | cons g G ih =>
      intro y hy hs hG hz hsp hnd;obtain ⟨hg1,hg2⟩:=XB.1 hnd;have hgF:=hG g (N0 ..);obtain ⟨t1,t2,t3⟩:=h.pos hgF;have hgl:=h.len g hgF;have hyz:at_ (mix (at_ g (pv g)) y (-(at_ y (pv g))) g) p=0:=by
       refine ih _ (mix_length hy hgl) (Spn.sum2 (fun x hx=>h.len x hx) hs (dY hgl hgF) _ _) (fun x hx=>hG x (Ct _ hx)) (fun s hsF hsG=>?_) (fun s hsF hs0=>?_) hg2
       ·rw [al (hy.trans hgl.symm)];by_cases hsg:s=g
        ·subst hsg; grind
        ·rw [h.clear_of hgF hsF (fun e=>hsg e.symm),hz s hsF (fun hm=>by rcases Vt.1 hm with e | hm <;> first | exact hsg e | exact hsG hm)]; simp
       ·refine hsp s hsF fun e=>hs0 ?_;rw [al (hy.trans hgl.symm),e];by_cases hsg:s=g
        ·subst hsg; rw [e]; simp
        ·rw [h.clear_of hgF hsF (fun e=>hsg e.symm)]; simp
      rw [al (hy.trans hgl.symm)] at hyz;by_cases hy0:at_ y (pv g)=0
      ·rw [hy0] at hyz;rcases Vv.1 (show at_ g (pv g)*at_ y p=0 by simpa using hyz) with h1 | h1
       ·omega
       ·exact h1
      ·rw [hsp g hgF hy0] at hyz;rcases Vv.1 (show at_ g (pv g)*at_ y p=0 by simpa using hyz) with h1 | h1
       ·omega
       ·exact h1
    have hnd:F.Nodup:=(h.clear.imp_of_mem fun {r s} hr hs hc e=>by
     subst e
     have:=(h.pos hr).2.1
     omega)
    exact hp2 (key F x hxl hx (fun g hg=>hg) (fun s hs hn=>absurd hs hn) this hnd)
 ·exfalso
  exact hp2 (h.spn_zero hx (fun r hrF=>Yy.1 fun e=>hr ⟨r,hrF,e⟩) p)
def Ech.unique {G:List V} (hF:Ech d F) (hG:Ech d G) (hs:∀ x,Spn d (· ∈ F) x ↔ Spn d (· ∈ G) x):F=G:=by
 have sub:∀ {A B:List V},Ech d A->Ech d B->(∀ x,Spn d (· ∈ A) x ↔ Spn d (· ∈ B) x)->∀ r∈A,r∈B:=by
  intro A B hA hB hs r hr;obtain ⟨p1,p2,p3⟩:=hA.pos hr;have hrl:=hA.len r hr;obtain ⟨s,hsB,hsp⟩:=hB.pivot_spn hrl ((hs r).1 (dY hrl hr)) p1;obtain ⟨t1,t2,t3⟩:=hB.pos hsB;have hsl:=hB.len s hsB;have hsz:∀ r'∈A,r'≠r->at_ s (pv r')=0:=fun r' hr' hne=>by
   obtain ⟨s',hs',e'⟩:=hB.pivot_spn (hA.len r' hr') ((hs r').1 (dY (hA.len r' hr') hr')) (hA.pos hr').1;rw [<- e'];refine hB.clear_of hsB hs' fun e=>hne ?_;subst e;exact hA.pv_inj hr' hr (e'.symm.trans hsp)
  rw [hsp] at t2;have hz:=hA.spn_zero (x:=mix (at_ s (pv r)) r (-(at_ r (pv r))) s) (Spn.sum2 (fun x hx=>hA.len x hx) (dY hrl hr) ((hs s).2 (dY hsl hsB)) _ _) (fun r' hr'=>by
   rw [al (hrl.trans hsl.symm)];by_cases hne:r'=r
   ·subst hne; grind
   ·rw [hsz r' hr' hne,hA.clear_of hr hr' (fun e=>hne e.symm)]; simp)
  have:r=s:=Tt (hA.cont r hr) (hB.cont s hsB) t2 p2 (aJ (by rw [ai hrl,ai hsl]) fun i=>by
   have:=hz i
   rw [al (hrl.trans hsl.symm)] at this;rw [aA,aA]; grind)
  rw [this]; exact hsB
 have hmem:∀ x,x∈F ↔ x∈G:=fun x=>⟨sub hF hG hs x,sub hG hF (fun x=>(hs x).symm) x⟩
 have nodup:∀ {A:List V},Ech d A->A.Nodup:=fun hA=>hA.clear.imp_of_mem fun {r s} hr hs hc e=>by
  subst e
  have:=(hA.pos hr).2.1
  omega
 have hperm:F.Perm G:=(Y8 (nodup hF) (nodup hG)).2 hmem;refine Zp (le:=fun r s=>before (pv r) (pv s)=true) (fun r s hr hs h1 h2=>?_) hF.sorted hG.sorted hperm
 exfalso
 have q1:=(hF.pos hr).2.2;have q2:=(hG.pos hs).2.2
 have:=kL q1 q2 q1 h1 h2
 rw [Au] at this;cases this
def Do (h:Ech d F) {x y:V} (hx:x.length=d) (hy:y.length=d) (hxz:∀ r∈F,at_ x (pv r)=0) (hyz:∀ r∈F,at_ y (pv r)=0) (hxc:content x=1) (hyc:content y=1) {m n:Int} (hm:0<m) (hn:0<n) (hs:Spn d (· ∈ F) (mix m x (-n) y)):x=y:=by
 have hz:=h.spn_zero hs fun r hr=>by rw [al (hx.trans hy.symm),hxz r hr,hyz r hr]; simp
 exact Tt hxc hyc hm hn (aJ (by rw [ai hx,ai hy]) fun i=>by
  have:=hz i
  rw [al (hx.trans hy.symm)] at this;rw [aA,aA]; grind)
end
structure Under where
 lines:List V
 rays:List V
 done:List V
def unitV (d i:Nat):V:=(kM d).set i 1
def startU (d:Nat):Under:=⟨(List.range d).map (unitV d),[],[]⟩
def upV (a u:V):V:=if dot a u<0 then scl (-1) u else u
def addU (a:V) (eq:Bool) (u:Under):Under :=
 match u.lines.findIdx? fun l=>!decide (dot a l=0) with
 | none=>⟨u.lines,cutL u.done a eq u.rays,u.done++if eq then [] else [a]⟩
 | some i=>⟨(u.lines.eraseIdx i).map (foldV a (upV a (u.lines.getD i []))),u.rays.map (foldV a (upV a (u.lines.getD i [])))++(if eq then [] else [upV a (u.lines.getD i [])]),u.done++if eq then [] else [a]⟩
def gensU (d:Nat) (eqs ineqs:List V):Under:=ineqs.foldl (fun u a=>addU a false u) (eqs.foldl (fun u a=>addU a true u) (startU d))
def cmpV:V->V->Bool
 | [],_=>true
 | _ :: _,[]=>false
 | a :: x,b :: y=>if a<b then true else if a=b then cmpV x y else false
def gensL (d:Nat) (eqs ineqs:List V):List V:=formF (gensU d eqs ineqs).lines
def gensR (d:Nat) (eqs ineqs:List V):List V:=((gensU d eqs ineqs).rays.map (restF (gensL d eqs ineqs))).mergeSort cmpV
section
variable {d:Nat} {E:V->Prop}
def mA {i j:Nat} (hi:i<d):at_ (unitV d i) j=if j=i then 1 else 0:=by
 unfold at_ unitV kM;rw [dH,Xf];by_cases h:i=j
 ·subst h; simp [hi]
 ·have h':¬ j=i:=fun e=>h e.symm;rw [if_neg h,if_neg h',V9];split <;> rfl
def ni:DD d (fun _=>False) (· ∈ ([]:List V)) (· ∈ (startU d).lines) (startU d).rays:=by
 refine ⟨fun l hl=>?_,fun l hl e he=>he.elim,fun l hl i hi=>(by cases hi),fun x hx _ _=>?_,fun r hr=>(by cases hr),fun x hx=>?_,fun r hr=>(by cases hr),fun r hr=>(by cases hr),List.Pairwise.nil⟩
 ·obtain ⟨i,-,rfl⟩:=uL.1 hl;simp [unitV,kM]
 all_goals
  first
  | (have hx:=hx.len)
  | skip
 all_goals
  have hl:∀ l,l∈(startU d).lines->l.length=d:=fun l hl=>by
   obtain ⟨i,-,rfl⟩:=uL.1 hl;simp [unitV,kM]
  have key:∀ n,n<=d->Spn d (· ∈ (startU d).lines) (x.take n++kM (d-n)):=by
   intro n
   induction n with
   | zero=>intro _; simp; exact .zero
   | succ n ih =>
    intro hn;have hlen:(x.take n++kM (d-n)).length=d:=by simp [kM,hx]; omega
    have hu:(unitV d n).length=d:=by simp [unitV,kM]
    have e:x.take (n+1)++kM (d-(n+1))=mix 1 (x.take n++kM (d-n)) (at_ x n) (unitV d n):=aJ (by rw [mix_length hlen hu]; simp [kM,hx]; omega) fun i=>by
     rw [al (hlen.trans hu.symm),mA zO];have g:∀ m,m<=d->at_ (x.take m++kM (d-m)) i=if i<m then at_ x i else 0:=fun m hm=>by
      unfold at_;rw [dH,List.getElem?_append]
      have:(x.take m).length=m:=by simp [hx]; omega
      rw [this];by_cases hi:i<m
      ·rw [if_pos hi,if_pos hi,Vm,if_pos hi,dH]
      ·rw [if_neg hi,if_neg hi];unfold kM;rw [V9];split <;> rfl
     rw [g (n+1) hn,g n zO];by_cases h1:i<n
     ·rw [if_pos zO,if_pos h1,if_neg zO]; grind
     ·by_cases h2:i=n
      ·subst h2; rw [if_pos zO,if_neg zO,if_pos rfl]; grind
      ·rw [if_neg zO,if_neg h1,if_neg h2]; grind
    rw [e];exact .line _ (ih zO) (uL.2 ⟨n,Wb.2 zO,rfl⟩)
  have hk:=key d (wT _);have e:x.take d++kM (d-d)=x:=by rw [Vl zO]; simp [kM]
  rw [e] at hk
 ·exact hk
 ·exact hk.mono (fun _ h=>h) (fun r h=>h.elim)
def GH {u:Under} {a:V} (h:DD d E (· ∈ u.done) (· ∈ u.lines) u.rays) (ha:a.length=d) (eq:Bool) :
  DD d (fun e=>E e\/(eq=true/\e=a)) (· ∈ (addU a eq u).done) (· ∈ (addU a eq u).lines) (addU a eq u).rays:=by
 unfold addU;split
 ·rename_i hn;refine Qt h (fun x hx=>?_) eq
  have:=Xo.1 hn x hx
  simpa using this
 ·rename_i i hi;obtain ⟨hi1,hi2,-⟩:=VP.1 hi;have hl:u.lines.getD i []=u.lines[i]:=by simp [dH,hi1]
  rw [hl];have hm:u.lines[i]∈u.lines:=rZ hi1;have hne:dot a u.lines[i]≠0:=by simpa using hi2
  have hll:=h.lenL _ hm;have hs:∃ s:Int,(s=1\/s = -1)/\upV a u.lines[i]=scl s u.lines[i]:=by
   unfold upV;split
   ·exact ⟨-1,.inr rfl,rfl⟩
   ·exact ⟨1,.inl rfl,(sS _).symm⟩
  obtain ⟨s,hs1,hs2⟩:=hs;have hpos:0<dot a (upV a u.lines[i]):=by
   unfold upV;split
   ·rw [dot_scl]; omega
   ·omega
  refine Ou h ha (fun x hx=>?_) (fun x hx=>VG hx) (by rw [hs2]; exact ai hll) (fun e he=>?_) (fun j hj=>?_) hpos eq
  ·obtain ⟨j,hj⟩:=VH hx;by_cases hji:j=i
   ·right
    subst hji;rw [pD hi1] at hj;cases hj;refine ⟨s,?_⟩;rw [hs2];rcases hs1 with rfl | rfl
    ·rw [sS,sS]
    ·exact aJ (by simp [scl]) fun t=>by rw [aA,aA]; omega
   ·left
    exact XT.2 ⟨j,hji,hj⟩
  ·rw [hs2,dot_scl,h.lineE _ hm e he]; simp
  ·rw [hs2,dot_scl,h.lineI _ hm j hj]; simp
def DD.congr {E E' I I' L L':V->Prop} {R:List V} (h:DD d E I L R) (hE:∀ x,E x ↔ E' x) (hI:∀ x,I x ↔ I' x) (hL:∀ x,L x ↔ L' x):DD d E' I' L' R:=by
 have e1:E=E':=funext fun x=>propext (hE x);have e2:I=I':=funext fun x=>propext (hI x);have e3:L=L':=funext fun x=>propext (hL x);subst e1; subst e2; subst e3; exact h
def xH:∀ (l:List V) (u:Under) (E:V->Prop),DD d E (· ∈ u.done) (· ∈ u.lines) u.rays->(∀ a∈l,a.length=d) ->
  DD d (fun e=>E e\/e∈l) (· ∈ (l.foldl (fun u a=>addU a true u) u).done) (· ∈ (l.foldl (fun u a=>addU a true u) u).lines) (l.foldl (fun u a=>addU a true u) u).rays/\(l.foldl (fun u a=>addU a true u) u).done=u.done
 | [],u,E,h,_=>⟨h.congr (fun x=>by simp) (fun x=>YK) (fun x=>YK),rfl⟩
 | a :: l,u,E,h,hl=>by
  obtain ⟨h1,h2⟩:=xH l (addU a true u) _ (GH h (hl a (N0 ..)) true) fun b hb=>hl b (Ct _ hb);simp only [WH];refine ⟨h1.congr (fun x=>?_) (fun x=>YK) (fun x=>YK),h2.trans ?_⟩
  ·rw [Vt]; simp only [true_and]; exact or_assoc
  ·unfold addU; split <;> simp
def vN:∀ (l:List V) (u:Under),DD d E (· ∈ u.done) (· ∈ u.lines) u.rays->(∀ a∈l,a.length=d) ->
  DD d E (· ∈ (l.foldl (fun u a=>addU a false u) u).done) (· ∈ (l.foldl (fun u a=>addU a false u) u).lines) (l.foldl (fun u a=>addU a false u) u).rays/\(l.foldl (fun u a=>addU a false u) u).done=u.done++l
 | [],u,h,_=>⟨h,by simp⟩
 | a :: l,u,h,hl=>by
  obtain ⟨h1,h2⟩:=vN l (addU a false u) ((GH h (hl a (N0 ..)) false).congr (fun x=>by simp) (fun x=>YK) (fun x=>YK)) fun b hb=>hl b (Ct _ hb);simp only [WH];refine ⟨h1,h2.trans ?_⟩;unfold addU; split <;> simp
def gensU_dd {eqs ineqs:List V} (h1:∀ a∈eqs,a.length=d) (h2:∀ a∈ineqs,a.length=d):DD d (· ∈ eqs) (· ∈ ineqs) (· ∈ (gensU d eqs ineqs).lines) (gensU d eqs ineqs).rays:=by
 obtain ⟨g1,g2⟩:=xH eqs (startU d) _ ni h1;obtain ⟨g3,g4⟩:=vN ineqs _ g1 h2;refine g3.congr (fun x=>by simp) (fun x=>?_) (fun x=>YK);rw [g4,g2];simp [startU]
def DD.rep {I L L':V->Prop} {R:List V} (h:DD d E I L R) (hL':∀ x,L' x->x.length=d) (hs:∀ x,Spn d L x ↔ Spn d L' x) (f:V->V) (hf:∀ r∈R,(f r).length=d/\∃ m k:Int,0<m/\0<k/\Spn d L (mix m (f r) (-k) r)):DD d E I L' (R.map f):=by
 have hdot:∀ r∈R,∃ m k:Int,0<m/\0<k/\∀ b,(∀ l,L l->dot b l=0)->m*dot b (f r)=k*dot b r:=fun r hr=>by
  obtain ⟨hl,m,k,hm,hk,hsp⟩:=hf r hr;refine ⟨m,k,hm,hk,fun b hb=>?_⟩
  have:=Con.dot_zero (a:=b) h.lenL (fun r h=>h.elim) hb (fun r h=>h.elim) hsp
  rw [bg _ _ _ (hl.trans (h.lenR r hr).symm),Xs] at this;omega
 have hz:∀ r∈R,∀ b,(∀ l,L l->dot b l=0)->(dot b (f r)=0 ↔ dot b r=0):=fun r hr b hb=>by
  obtain ⟨m,k,hm,hk,e⟩:=hdot r hr;have e:=e b hb;constructor
  ·intro h0;rw [h0] at e;rcases Vv.1 (show k*dot b r=0 by omega) with h1 | h1
   ·omega
   ·exact h1
  ·intro h0;rw [h0] at e;rcases Vv.1 (show m*dot b (f r)=0 by omega) with h1 | h1
   ·omega
   ·exact h1
 have lI:∀ i,I i->∀ l,L l->dot i l=0:=fun i hi l hl=>h.lineI l hl i hi;have lE:∀ e,E e->∀ l,L l->dot e l=0:=fun e he l hl=>h.lineE l hl e he;have line0:∀ b,(∀ l,L l->dot b l=0)->∀ x,L' x->dot b x=0:=fun b hb x hx =>
  Con.dot_zero (a:=b) h.lenL (fun r h=>h.elim) hb (fun r h=>h.elim) ((hs x).2 (dY (hL' x hx) hx))
 have hfl:∀ x,x∈R.map f->x.length=d:=fun x hx=>by
  obtain ⟨r,hr,rfl⟩:=uL.1 hx;exact (hf r hr).1
 refine ⟨hL',fun l hl e he=>line0 e (lE e he) l hl,fun l hl i hi=>line0 i (lI i hi) l hl,fun x hx hE hI=>(hs x).1 (h.lines x hx hE hI),?_,?_,?_,?_,?_⟩
 ·intro x hx;obtain ⟨r,hr,rfl⟩:=uL.1 hx;refine ⟨(hf r hr).1,fun e he=>(hz r hr e (lE e he)).2 ((h.keep r hr).eq e he),fun i hi=>?_⟩;obtain ⟨m,k,hm,hk,e⟩:=hdot r hr;have e:=e i (lI i hi)
  have:=VI (Wn hk) ((h.keep r hr).ge i hi)
  rw [<- e] at this;exact WY this hm
 ·intro x hx;refine Con.trans hL' hfl (fun l hl c=>((hs _).1 (Spn.smul h.lenL (dY (h.lenL l hl) hl) c)).mono (fun _ h=>h) (fun r h=>h.elim)) (fun r hr=>?_) h.lenL h.lenR (h.all x hx);obtain ⟨hl,m,k,hm,hk,hsp⟩:=hf r hr;refine .div k hk (h.lenR r hr) ?_;have e:scl k r=mix 1 (scl m (f r)) 1 (scl (-1) (mix m (f r) (-k) r)):=aJ (by rw [ai (h.lenR r hr),mix_length (ai hl) (ai (mix_length hl (h.lenR r hr)))]) fun i=>by
   rw [aA,al ((ai hl).trans (ai (mix_length hl (h.lenR r hr))).symm),aA,aA,al (hl.trans (h.lenR r hr).symm)]; grind
  rw [e];have t1:Con d L' (· ∈ R.map f) (scl m (f r)):=(Con.of_ray hl (WO hr)).smul hL' hfl m zO;have t2:Con d L' (· ∈ R.map f) (scl (-1) (mix m (f r) (-k) r)):=((hs _).1 (Spn.smul h.lenL hsp (-1))).mono (fun _ h=>h) (fun r h=>h.elim);exact t2.add hL' hfl _ t1
 ·intro x hx;obtain ⟨r,hr,rfl⟩:=uL.1 hx;obtain ⟨i,hi,hn⟩:=h.off r hr;exact ⟨i,hi,fun e=>hn ((hz r hr i (lI i hi)).1 e)⟩
 ·intro x hx y hy hsat;obtain ⟨r,hr,rfl⟩:=uL.1 hx;obtain ⟨k1,c1,hk1,hc1,hsp1⟩:=h.ext r hr y hy fun i hi e=>hsat i hi ((hz r hr i (lI i hi)).2 e);obtain ⟨hl,m,k,hm,hk,hsp⟩:=hf r hr;refine ⟨k*k1,c1*m,WA hk hk1,VI hc1 zO,(hs _).1 ?_⟩;have t:=Spn.sum2 h.lenL hsp1 hsp k (-c1);have e:mix k (mix k1 y (-c1) r) (-c1) (mix m (f r) (-k) r)=mix (k*k1) y (-(c1*m)) (f r):=aJ (by rw [mix_length (mix_length hy.len (h.lenR r hr)) (mix_length hl (h.lenR r hr)),mix_length hy.len hl]) fun i=>by
   rw [al ((mix_length hy.len (h.lenR r hr)).trans (mix_length hl (h.lenR r hr)).symm),al (hy.len.trans (h.lenR r hr).symm),al (hl.trans (h.lenR r hr).symm),al (hy.len.trans hl.symm)]; grind
  rw [e] at t; exact t
 ·refine Wk.2 (h.apart.imp_of_mem fun {r s} hr hs' hne h2=>hne fun i hi=>?_)
  have:=h2 i hi
  rw [hz r hr i (lI i hi),hz s hs' i (lI i hi)] at this;exact this
def DD.perm {I L:V->Prop} {R R':List V} (h:DD d E I L R) (hp:R.Perm R'):DD d E I L R':=by
 have hm:∀ x,x∈R' ↔ x∈R:=fun x=>hp.mem_iff.symm;refine ⟨h.lenL,h.lineE,h.lineI,h.lines,fun r hr=>h.keep r ((hm r).1 hr),fun x hx=>(h.all x hx).mono (fun _ h=>h) (fun r hr=>(hm r).2 hr),fun r hr=>h.off r ((hm r).1 hr),fun r hr=>h.ext r ((hm r).1 hr),?_⟩;exact (hp.pairwise_iff (fun {r s} hne h2=>hne fun i hi=>(h2 i hi).symm)).1 h.apart
def cmpV_refl:∀ x:V,cmpV x x=true
 | []=>rfl
 | a :: x=>by simp [cmpV,cmpV_refl x]
def cmpV_trans:∀ a b c:V,cmpV a b=true->cmpV b c=true->cmpV a c=true
 | [],_,_,_,_=>rfl
 | _ :: _,[],_,h,_=>by simp [cmpV] at h
 | _ :: _,_ :: _,[],_,h=>by simp [cmpV] at h
 | a :: x,b :: y,c :: z,h1,h2=>by
  have ih:=cmpV_trans x y z;simp only [cmpV] at h1 h2 ⊢;split at h1
  ·split at h2
   ·rw [if_pos zO]
   ·split at h2
    ·rw [if_pos zO]
    ·cases h2
  ·split at h1
   ·split at h2
    ·rw [if_pos zO]
    ·split at h2
     ·rw [if_neg zO,if_pos zO]; exact ih h1 h2
     ·cases h2
   ·cases h1
def cmpV_total:∀ a b:V,(cmpV a b || cmpV b a)=true
 | [],_=>by simp [cmpV]
 | _ :: _,[]=>by simp [cmpV]
 | a :: x,b :: y=>by
  have ih:=cmpV_total x y;simp only [cmpV];by_cases h1:a<b
  ·simp [h1]
  ·by_cases h2:a=b
   ·subst h2; simpa using ih
   ·have:b<a:=zO
    simp [this]
def cmpV_antisymm:∀ a b:V,cmpV a b=true->cmpV b a=true->a=b
 | [],[],_,_=>rfl
 | [],_ :: _,_,h=>by simp [cmpV] at h
 | _ :: _,[],h,_=>by simp [cmpV] at h
 | a :: x,b :: y,h1,h2=>by
  have ih:=cmpV_antisymm x y;simp only [cmpV] at h1 h2;split at h1
  ·split at h2
   ·omega
   ·split at h2
    ·omega
    ·cases h2
  ·split at h1
   ·split at h2
    ·omega
    ·split at h2
     ·rename_i e _ _; rw [e,ih h1 h2]
     ·cases h2
   ·cases h1
structure Ax (d:Nat) (E I:V->Prop) (L R:List V):Prop where
 dd:DD d E I (· ∈ L) R
 form:Ech d L
 rest:∀ r∈R,∀ l∈L,at_ r (pv l)=0
 cont:∀ r∈R,content r=1
 sorted:R.Pairwise fun r s=>cmpV r s=true
def gens_told {eqs ineqs:List V} (h1:∀ a∈eqs,a.length=d) (h2:∀ a∈ineqs,a.length=d):Ax d (· ∈ eqs) (· ∈ ineqs) (gensL d eqs ineqs) (gensR d eqs ineqs):=by
 have h:=gensU_dd h1 h2;obtain ⟨f1,f2⟩:=form_ech (d:=d) (l:=(gensU d eqs ineqs).lines) h.lenL;have hr:∀ r∈(gensU d eqs ineqs).rays,(restF (gensL d eqs ineqs) r).length=d/\(∀ l∈gensL d eqs ineqs,at_ (restF (gensL d eqs ineqs) r) (pv l)=0)/\(∃ m k:Int,0<m/\0<k/\Spn d (· ∈ gensL d eqs ineqs) (mix m (restF (gensL d eqs ineqs) r) (-k) r))/\(content (restF (gensL d eqs ineqs) r)=1\/∀ i,at_ (restF (gensL d eqs ineqs) r) i=0):=fun r hr=>Dp f1 (h.lenR r hr);have hd:DD d (· ∈ eqs) (· ∈ ineqs) (· ∈ gensL d eqs ineqs) ((gensU d eqs ineqs).rays.map (restF (gensL d eqs ineqs))):=h.rep f1.len (fun x=>(f2 x).symm) _ fun r hr'=>by
  obtain ⟨g1,g2,⟨m,k,hm,hk,g3⟩,g4⟩:=hr r hr';exact ⟨g1,m,k,hm,hk,(f2 _).1 g3⟩
 have hp:((gensU d eqs ineqs).rays.map (restF (gensL d eqs ineqs))).Perm (gensR d eqs ineqs):=(ZW _ _).symm;refine ⟨hd.perm hp,f1,fun r hr' l hl=>?_,fun r hr'=>?_,List.pairwise_mergeSort cmpV_trans cmpV_total _⟩
 ·obtain ⟨s,hs,rfl⟩:=uL.1 (hp.mem_iff.2 hr');exact (hr s hs).2.1 l hl
 ·have hm:=hp.mem_iff.2 hr';obtain ⟨s,hs,rfl⟩:=uL.1 hm;refine (hr s hs).2.2.2.resolve_right fun hz=>?_;obtain ⟨i,hi,hn⟩:=hd.off _ hm;refine hn ?_;rw [(Gp (hr s hs).1).2 hz,ml]
def MD {L R:V->Prop} (hL:∀ x,L x->x.length=d) (hR:∀ x,R x->x.length=d) {x:V} (h:Con d L R x):Spn d L x\/∃ r,R r/\∃ k c:Int,0<k/\0<c/\∃ y,Con d L R y/\scl k x=mix c r 1 y:=by
 induction h with
 | zero=>exact .inl .zero
 | @line x l c hx hl ih =>
  have h1:=hx.length hL hR;have h2:=hL l hl;rcases ih with ih | ⟨r,hr,k,c1,hk,hc1,y,hy,e⟩
  ·exact .inl (.line c ih hl)
  ·refine .inr ⟨r,hr,k,c1,hk,hc1,_,.line (k*c) hy hl,aJ (by rw [ai (mix_length h1 h2),mix_length (hR r hr) (mix_length (hy.length hL hR) h2)]) fun i=>?_⟩;have e3:k*at_ x i=c1*at_ r i+1*at_ y i:=by rw [<- aA,e,al ((hR r hr).trans (hy.length hL hR).symm)]
   rw [aA,al (h1.trans h2.symm),al ((hR r hr).trans (mix_length (hy.length hL hR) h2).symm),al ((hy.length hL hR).trans h2.symm)]; grind
 | @ray x l c hc hx hl ih =>
  have h1:=hx.length hL hR;have h2:=hR l hl;by_cases hc0:c=0
  ·subst hc0;have e:mix 1 x 0 l=x:=aJ (by rw [mix_length h1 h2,h1]) fun i=>by rw [al (h1.trans h2.symm)]; grind
   rw [e]; exact ih
  ·exact .inr ⟨l,hl,1,c,zO,zO,x,hx,aJ (by rw [ai (mix_length h1 h2),mix_length h2 h1]) fun i=>by rw [aA,al (h1.trans h2.symm),al (h2.trans h1.symm)]; grind⟩
 | @div x j hj hl hx ih =>
  rcases ih with ih | ⟨r,hr,k,c1,hk,hc1,y,hy,e⟩
  ·exact .inl (.div j hj hl ih)
  ·refine .inr ⟨r,hr,k*j,c1,WA hk hj,hc1,y,hy,?_⟩;rw [<- e];exact aJ (by simp [scl]) fun i=>by rw [aA,aA,aA]; grind
def C6 {E' I I':V->Prop} {L R L' R':List V} (h:Ax d E I L R) (h':Ax d E' I' L' R') (hs:∀ x,Keep d E I x ↔ Keep d E' I' x) (hL:L=L'):∀ r∈R,r∈R':=by
 intro r hr;subst hL;have hk:=h.dd.keep r hr;have hlin:∀ x,Keep d E I x->Spn d (· ∈ L) x->∀ i,I i->dot i x=0:=fun x _ hx i hi=>Con.dot_zero (a:=i) h.dd.lenL (fun r h=>h.elim) (fun l hl=>h.dd.lineI l hl i hi) (fun r h=>h.elim) hx;rcases MD h'.dd.lenL h'.dd.lenR (h'.dd.all r ((hs r).1 hk)) with hsp | ⟨r',hr',k,c,hk0,hc0,y,hy,e⟩
 ·exfalso
  obtain ⟨i,hi,hn⟩:=h.dd.off r hr;exact hn (hlin r hk hsp i hi)
 ·have hrl':=h'.dd.lenR r' hr';have hyk:Keep d E I y:=(hs y).2 (h'.dd.con_keep hy);have hrk':Keep d E I r':=(hs r').2 (h'.dd.keep r' hr');obtain ⟨k1,c1,hk1,hc1,hsp⟩:=h.dd.ext r hr r' hrk' fun i hi hz=>by
   have e2:k*dot i r=c*dot i r'+1*dot i y:=by rw [<- dot_scl,e,bg _ _ _ (hrl'.trans hyk.len.symm)]
   rw [hz] at e2;have g1:=VI (Wn hc0) (hrk'.ge i hi);have g2:=hyk.ge i hi;rcases Vv.1 (show c*dot i r'=0 by omega) with h1 | h1
   ·omega
   ·exact h1
  have hc1':c1≠0:=fun e0=>by
   subst e0;obtain ⟨i',hi',hn'⟩:=h'.dd.off r' hr'
   have:=Con.dot_zero (a:=i') h'.dd.lenL (fun r h=>h.elim) (fun l hl=>h'.dd.lineI l hl i' hi') (fun r h=>h.elim) hsp
   rw [bg _ _ _ (hrl'.trans hk.len.symm)] at this;rcases Vv.1 (show k1*dot i' r'=0 by omega) with h1 | h1
   ·omega
   ·exact hn' h1
  have:r'=r:=Do h.form hrl' hk.len (fun l hl=>h'.rest r' hr' l hl) (fun l hl=>h.rest r hr l hl) (h'.cont r' hr') (h.cont r hr) hk1 zO hsp
  rw [<- this]; exact hr'
def C5 {E' I I':V->Prop} {L R L' R':List V} (h:Ax d E I L R) (h':Ax d E' I' L' R') (hs:∀ x,Keep d E I x ↔ Keep d E' I' x):L=L'/\R=R':=by
 have lin:∀ {E I:V->Prop} {L R:List V},Ax d E I L R->∀ x,x.length=d->(Spn d (· ∈ L) x ↔ Keep d E I x/\Keep d E I (scl (-1) x)):=by
  intro E I L R h x hx;constructor
  ·intro hsp;have hE:∀ e,E e->dot e x=0:=fun e he=>Con.dot_zero (a:=e) h.dd.lenL (fun r h=>h.elim) (fun l hl=>h.dd.lineE l hl e he) (fun r h=>h.elim) hsp;have hI:∀ e,I e->dot e x=0:=fun e he=>Con.dot_zero (a:=e) h.dd.lenL (fun r h=>h.elim) (fun l hl=>h.dd.lineI l hl e he) (fun r h=>h.elim) hsp;exact ⟨⟨hx,hE,fun i hi=>by rw [hI i hi]; omega⟩,⟨ai hx,fun e he=>by rw [dot_scl,hE e he]; simp,fun i hi=>by rw [dot_scl,hI i hi]; simp⟩⟩
  ·rintro ⟨h1,h2⟩;refine h.dd.lines x hx h1.eq fun i hi=>?_;have g1:=h1.ge i hi;have g2:=h2.ge i hi;rw [dot_scl] at g2;omega
 have hL:L=L':=h.form.unique h'.form fun x=>by
  constructor
  ·intro hx;have hxl:=hx.length h.dd.lenL (fun r h=>h.elim);rw [lin h x hxl] at hx;rw [lin h' x hxl,<- hs,<- hs]; exact hx
  ·intro hx;have hxl:=hx.length h'.dd.lenL (fun r h=>h.elim);rw [lin h' x hxl] at hx;rw [lin h x hxl,hs,hs]; exact hx
 refine ⟨hL,?_⟩;have s1:=C6 h h' hs hL;have s2:=C6 h' h (fun x=>(hs x).symm) hL.symm;have nodup:∀ {E I:V->Prop} {L R:List V},Ax d E I L R->R.Nodup:=fun h=>h.dd.apart.imp fun hne e=>hne fun i hi=>by rw [e]
 refine Zp (le:=fun a b=>cmpV a b=true) (fun a b _ _ h1 h2=>cmpV_antisymm a b h1 h2) h.sorted h'.sorted ((Y8 (nodup h) (nodup h')).2 fun x=>⟨s1 x,s2 x⟩)
end
def Bd (M:Nat) (x:V):Prop:=∀ i,(at_ x i).natAbs<=M
def Bd.mono {M N:Nat} (h:M<=N) {x:V} (hx:Bd M x):Bd N x:=fun i=>Oc (hx i) h
def Mp {M N:Nat}:∀ {x y:V},(∀ a∈x,a.natAbs<=M)->(∀ b∈y,b.natAbs<=N)->(dot x y).natAbs<=x.length*(M*N)
 | [],y,_,_=>by cases y <;> simp [dot]
 | a :: x,[],_,_=>by simp [dot]
 | a :: x,b :: y,h1,h2=>by
  have ih:=Mp (x:=x) (y:=y) (fun c hc=>h1 c (Ct _ hc)) (fun c hc=>h2 c (Ct _ hc));have ha:=h1 a (N0 ..);have hb:=h2 b (N0 ..);simp only [dot,VV];have g:=Yw (a*b) (dot x y);rw [Yv] at g
  have:=Wq ha hb
  rw [VW,XU];omega
def Bd.mem {M:Nat} {x:V} (h:Bd M x):∀ a∈x,a.natAbs<=M:=fun a ha=>by
 obtain ⟨i,rfl⟩:=F0 ha;exact h i
def MM {d M N:Nat} {x y:V} (hx:x.length=d) (h1:Bd M x) (h2:Bd N y):(dot x y).natAbs<=d*(M*N):=by
 have:=Mp h1.mem h2.mem
 rw [hx] at this; exact this
def Rt {d M b:Nat} {a u x:V} (ha:a.length=d) (hu:u.length=d) (hx:x.length=d) (h1:Bd M a) (h2:Bd b u) (h3:Bd b x):Bd (2*d*M*b*b) (mv a u x):=by
 intro i;unfold mv;rw [al (hx.trans hu.symm)];have g1:=MM ha h1 h2;have g2:=MM ha h1 h3;have t:=Yw (dot a u*at_ x i) (-(dot a x)*at_ u i);rw [Yv,Yv,WL] at t;have p1:=Wq g1 (h3 i);have p2:=Wq g2 (h2 i);have e:2*d*M*b*b=d*(M*b)*b+d*(M*b)*b:=by grind
 rw [e]; omega
def nB:List V->List V->List V
 | [],Ls=>Ls
 | a :: S,Ls=>match Ls.findIdx? fun l=>!decide (dot a l=0) with
  | none=>nB S Ls
  | some i=>nB S ((Ls.eraseIdx i).map (mv a (Ls.getD i [])))
def CC {d M:Nat} (hM:1<=2*d*M):∀ (S Ls:List V) (n b:Nat),Ls.length<=n->1<=b->(∀ a∈S,a.length=d/\Bd M a)->(∀ l∈Ls,l.length=d/\Bd b l)->∀ w∈nB S Ls,w.length=d/\Bd ((2*d*M*b)^2^n) w
 | [],Ls,n,b,hn,hb,hS,hL,w,hw=>by
  refine ⟨(hL w hw).1,(hL w hw).2.mono ?_⟩;have h1:b<=2*d*M*b:=by have:=Ji b hM; omega
  have h2:(2*d*M*b)^1<=(2*d*M*b)^2^n:=VD zO (Nat.one_le_two_pow);rw [Nat.pow_one] at h2;omega
 | a :: S,Ls,n,b,hn,hb,hS,hL,w,hw=>by
  unfold nB at hw;split at hw
  ·exact CC hM S Ls n b hn hb (fun c hc=>hS c (Ct _ hc)) hL w hw
  ·rename_i i hi;obtain ⟨hi1,hi2,-⟩:=VP.1 hi;have hl:Ls.getD i []=Ls[i]:=by simp [dH,hi1]
   rw [hl] at hw;have hm:=hL _ (rZ hi1);have ha:=hS a (N0 ..);obtain ⟨n',rfl⟩:∃ n',n=n'+1:=⟨n-1,zO⟩
   have hb':1<=2*d*M*b*b:=by
    have g1:=Wq hM hb;have g2:=Wq g1 hb
    simpa using g2
   have:=CC hM S _ n' (2*d*M*b*b) (by rw [B8,Y9 hi1]; omega) hb' (fun c hc=>hS c (Ct _ hc)) (fun l hl=>by
    obtain ⟨x,hx,rfl⟩:=uL.1 hl;have hx':=hL x (VG hx);exact ⟨br hm.1 hx'.1,Rt ha.1 hm.1 hx'.1 ha.2 hm.2 hx'.2⟩) w hw
   refine ⟨this.1,this.2.mono (XE ?_)⟩;have e:2*d*M*(2*d*M*b*b)=(2*d*M*b)^2:=by rw [Nat.pow_two]; grind
   rw [e,<- Ym,VF 2 n',Vk 2 (2^n')]
def qR:∀ {d:Nat} (S Ls:List V),(∀ l∈Ls,l.length=d)->∀ (b:V),(∀ l∈Ls,dot b l=0)->∀ w∈nB S Ls,dot b w=0
 | d,[],Ls,hL,b,hb,w,hw=>hb w hw
 | d,a :: S,Ls,hL,b,hb,w,hw=>by
  unfold nB at hw;split at hw
  ·exact qR S Ls hL b hb w hw
  ·rename_i i hi;obtain ⟨hi1,hi2,-⟩:=VP.1 hi;have hl:Ls.getD i []=Ls[i]:=by simp [dH,hi1]
   rw [hl] at hw;have hm:=rZ hi1;refine qR (d:=d) S _ (fun l hl=>?_) b (fun l hl=>?_) w hw
   ·obtain ⟨x,hx,rfl⟩:=uL.1 hl;exact br (hL _ hm) (hL x (VG hx))
   ·obtain ⟨x,hx,rfl⟩:=uL.1 hl;rw [uT (hL _ hm) (hL x (VG hx)),hb _ hm,hb x (VG hx)]; simp
def pV:∀ {d:Nat} (S Ls:List V),(∀ l∈Ls,l.length=d)->∀ s∈S,∀ w∈nB S Ls,dot s w=0
 | d,[],Ls,hL,s,hs,w,hw=>by cases hs
 | d,a :: S,Ls,hL,s,hs,w,hw=>by
  unfold nB at hw;split at hw
  ·rename_i hn;rcases Vt.1 hs with rfl | hs
   ·exact qR (d:=d) S Ls hL s (fun l hl=>by have:=Xo.1 hn l hl; simpa using this) w hw
   ·exact pV S Ls hL s hs w hw
  ·rename_i i hi;obtain ⟨hi1,hi2,-⟩:=VP.1 hi;have hl:Ls.getD i []=Ls[i]:=by simp [dH,hi1]
   rw [hl] at hw;have hm:=rZ hi1;have hL':∀ l∈(Ls.eraseIdx i).map (mv a Ls[i]),l.length=d:=fun l hl=>by
    obtain ⟨x,hx,rfl⟩:=uL.1 hl;exact br (hL _ hm) (hL x (VG hx))
   rcases Vt.1 hs with rfl | hs
   ·refine qR (d:=d) S _ hL' s (fun l hl=>?_) w hw;obtain ⟨x,hx,rfl⟩:=uL.1 hl;rw [uT (hL _ hm) (hL x (VG hx))]; grind
   ·exact pV S _ hL' s hs w hw
def zd:∀ {d:Nat} (S Ls:List V),(∀ l∈Ls,l.length=d)->∀ x,x.length=d->Spn d (· ∈ Ls) x->(∀ s∈S,dot s x=0)->Spn d (· ∈ nB S Ls) x
 | d,[],Ls,hL,x,hx,hs,_=>hs
 | d,a :: S,Ls,hL,x,hx,hs,hz=>by
  unfold nB;split
  ·exact zd S Ls hL x hx hs fun s hs=>hz s (Ct _ hs)
  ·rename_i i hi;obtain ⟨hi1,hi2,-⟩:=VP.1 hi;have hl:Ls.getD i []=Ls[i]:=by simp [dH,hi1]
   rw [hl];have hm:=rZ hi1;have hul:=hL _ hm;have hne:dot a Ls[i]≠0:=by simpa using hi2
   have hL':∀ l,l∈(Ls.eraseIdx i).map (mv a Ls[i])->l.length=d:=fun l hl=>by
    obtain ⟨x,hx,rfl⟩:=uL.1 hl;exact br (hL _ hm) (hL x (VG hx))
   refine zd S _ hL' x hx ?_ fun s hs=>hz s (Ct _ hs);have t:Spn d (· ∈ (Ls.eraseIdx i).map (mv a Ls[i])) (mv a Ls[i] x):=Con.image (fun l hl=>hL l hl) (fun r h=>h.elim) hL' (fun r h=>h.elim) (mv a Ls[i]) (FV hul) (fun x y c hx hy=>FW hul hx hy) (fun x c hx=>Cf hul hx) (fun x hx=>br hul hx) (fun y hy c=>by
    obtain ⟨j,hj⟩:=VH hy;by_cases hji:j=i
    ·subst hji;rw [pD hi1] at hj;cases hj;have e:scl c (mv a Ls[j] Ls[j])=kM d:=by
      rw [Hm hul];exact aJ (by simp [scl,kM]) fun t=>by rw [aA,ic]; simp
     rw [e]; exact .zero
    ·exact Con.of_line (br hul (hL y hy)) (WO (XT.2 ⟨j,hji,hj⟩)) c) (fun r h=>h.elim) hs
   rw [uU hul hx (hz a (N0 ..))] at t;exact nP hL' hx hne t
def Hz {d M:Nat} (hd:0<d) (hM:0<M) {S:List V} (hS:∀ a∈S,a.length=d/\Bd M a) {v:V} (hv:v.length=d) (hc:content v=1) (hz:∀ s∈S,dot s v=0)
  (hone:∀ x,x.length=d->(∀ s∈S,dot s x=0)->∃ m n:Int,m≠0/\scl m x=scl n v):Bd ((2*d*M)^2^d) v:=by
 have hLl:∀ l∈(startU d).lines,l.length=d:=fun l hl=>(ni (d:=d)).lenL l hl;have hsp:=zd S (startU d).lines hLl v hv ((ni (d:=d)).lines v hv (fun e h=>h.elim) (fun i h=>by cases h)) hz;have hbd:∀ l∈(startU d).lines,l.length=d/\Bd 1 l:=fun l hl=>by
  refine ⟨hLl l hl,fun i=>?_⟩;obtain ⟨j,hj,rfl⟩:=uL.1 hl;rw [mA (Wb.1 hj)];split <;> simp
 have hM1:1<=2*d*M:=by have:=Wq (show 1<=2*d by omega) hM; simpa using this
 have hE:=CC hM1 S (startU d).lines d 1 (by simp [startU]) zO hS hbd;rw [Wo] at hE;have ⟨w,hw,j,hj⟩:∃ w∈nB S (startU d).lines,∃ j,at_ w j≠0:=by
  apply Wv
  intro hno;have hall:∀ w∈nB S (startU d).lines,∀ j,at_ w j=0:=fun w hw j=>Yy.1 fun e=>hno ⟨w,hw,j,e⟩;have hv0:∀ i,at_ v i=0:=by
   have key:∀ {x:V},Spn d (· ∈ nB S (startU d).lines) x->∀ i,at_ x i=0:=by
    intro x hx
    induction hx with
    | zero=>intro i; exact ic
    | @line x l c hx hl ih =>
     intro i;rw [al ((hx.length (fun l hl=>(hE l hl).1) (fun r h=>h.elim)).trans (hE l hl).1.symm),ih i,hall l hl i]; simp
    | ray c hc hx hr ih=>exact hr.elim
    | @div x k hk hl hx ih =>
     intro i
     have:=ih i
     rw [aA] at this;rcases Vv.1 this with h | h
     ·omega
     ·exact h
   exact key hsp
  have:=content_eq_zero.2 (zero_iff.2 hv0)
  omega
 obtain ⟨m,n,hm,e⟩:=hone w (hE w hw).1 fun s hs=>pV S _ hLl s hs w hw;have hen:n≠0:=fun h0=>by
  have:=congrArg (fun z=>at_ z j) e
  simp only [aA,h0,Zx] at this;rcases Vv.1 this with h | h
  ·exact hm h
  ·exact hj h
 intro i;have h1:(m.natAbs:Int) ∣ n:=by
  have h2:∀ a∈v,(m.natAbs:Int) ∣ n*a:=fun a ha=>by
   obtain ⟨t,rfl⟩:=F0 ha
   have:=congrArg (fun z=>at_ z t) e
   simp only [aA] at this;rw [<- this];exact Int.natAbs_dvd.2 (Int.dvd_mul_right m _)
  have h3:(m.natAbs:Int) ∣ (content (scl n.natAbs v):Int):=j9 fun a ha=>by
   obtain ⟨b,hb,rfl⟩:=uL.1 ha;rcases Int.natAbs_eq n with hn | hn
   ·rw [<- hn]; exact h2 b hb
   ·have:=h2 b hb
    rw [hn,Xs] at this;exact Int.dvd_neg.1 this
  rw [mo zO,hc] at h3
  have:=X7.2 h3
  simp only [WT,Int.mul_one,Int.natCast_one] at this;exact Yj.2 this
 obtain ⟨q,hq⟩:=h1;have hqi:(at_ w i).natAbs=q.natAbs*(at_ v i).natAbs:=by
  have:=congrArg (fun z=>(at_ z i).natAbs) e
  simp only [aA,Yv,hq] at this;simp only [WT] at this;rw [VJ] at this;exact Ze zO this
 have hq0:1<=q.natAbs:=by
  have:q≠0:=fun h0=>hen (by rw [hq,h0]; simp)
  omega
 have:=(hE w hw).2 i
 rw [hqi] at this;have g:=Ji (at_ v i).natAbs hq0;omega
end Go.Proofs.YthjdfjlhjnihfaaGreat.Lin
