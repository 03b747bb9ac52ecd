/- A part. -/
import Derived.Test.YteaefaohjlmjdaaGreatA0
import Derived.Test.YteaefaohjlmjdaaGreatN8
set_option linter.all false
namespace Go.Proofs.YteaefaohjlmjdaaGreat.Ev
open Go Nn
section
variable {tab:Nat->Option aA} {H:Heap}
def PZ {x y:Int} (h:y≠0):(if (decide ((x<0)≠(y<0)))=true then -((x.natAbs / y.natAbs:Nat):Int) else ((x.natAbs / y.natAbs:Nat):Int))=x.tdiv y:=by
 have key:∀ z:Int,z<0->∃ n:Nat,z = -(n:Int):=fun z hz=>⟨z.natAbs,zO⟩
 rcases Int.lt_or_le x 0 with h1 | h1 <;> rcases Int.lt_or_le y 0 with h2 | h2
 ·have e:decide ((x<0)≠(y<0))=false:=by simp [h1,h2]
  obtain ⟨n,rfl⟩:=key x h1;obtain ⟨m,rfl⟩:=key y h2;rw [e];simp [Int.neg_tdiv,Int.tdiv_neg,Zg]
 ·have e:decide ((x<0)≠(y<0))=true:=by simp [h1]; omega
  obtain ⟨n,rfl⟩:=key x h1;obtain ⟨m,rfl⟩:=XZ h2;rw [e];simp [Int.neg_tdiv,Zg]
 ·have e:decide ((x<0)≠(y<0))=true:=by simp [h2]; omega
  obtain ⟨n,rfl⟩:=XZ h1;obtain ⟨m,rfl⟩:=key y h2;rw [e];simp [Int.tdiv_neg,Zg]
 ·have e:decide ((x<0)≠(y<0))=false:=by
   have:¬ x<0:=zO
   have:¬ y<0:=zO
   simp [*]
  obtain ⟨n,rfl⟩:=XZ h1;obtain ⟨m,rfl⟩:=XZ h2;rw [e];simp [Zg]
def Qe (n:Nat):decide (0<(ag n).length)=decide (n≠0):=by
 have:=bI n
 congr 1;simp only [eq_iff_iff];omega
def RZ (a b c d:Option AV):Option AV:=a.bind fun a=>b.bind fun b=>c.bind fun c=>d.bind fun d=>some (.tup [a,b,c,d])
theorem KE (a b c d:AV):RZ (some a) (some b) (some c) (some d)=some (.tup [a,b,c,d]):=rfl
def Qa (T:Tm) (H:Heap) (r s t u:Nat) (k l m n:Option (Option Nat)):cg T H [(r,k),(s,l),(t,m),(u,n)]=RZ (uS H (ad T r) k) (uS H (ad T s) l) (uS H (ad T t) m) (uS H (ad T u) n):=by
 show (List.mapM (oJ T H) [(r,k),(s,l),(t,m),(u,n)]).bind _=_;rw [<- jZ T H (r,k),<- jZ T H (s,l),<- jZ T H (t,m),<- jZ T H (u,n)];simp only [WK,Zu,RZ];cases oJ T H (r,k) <;> cases oJ T H (s,l) <;> cases oJ T H (t,m) <;> cases oJ T H (u,n) <;> rfl
def Sl (x y:Int):(!(decide (x<0) == decide (y<0)))=decide ((x<0)≠(y<0)):=by
 by_cases h1:x<0 <;> by_cases h2:y<0 <;> simp [h1,h2]
def zu (C:Code tab) (hw:Wf H) {a b:AV} {x y:Int} (ha:IntV H a x) (hb:IntV H b y) (hx:dJ x) (hy:dJ y) (h0:y≠0) :
  Ans tab (.fn jP [a,b]) H fun v H'=>∃ q,v=.tup [q,.bool (decide (x.natAbs % y.natAbs≠0)),.bool (decide ((x<0)≠(y<0))),.int .i64 0]/\IntV H' q (x.tdiv y)/\Kp H H':=by
 obtain ⟨p,rfl,hp⟩:=ha;obtain ⟨q,rfl,hq⟩:=hb;have op:=hp.one;have oq:=hq.one;refine bB C.q166 zU fun T hl g0 g1=>?_;refine zW (aE hl g0 g1) ?_;refine AnsH.eq (gI C zF (JF (x:=x) (y:=y) (H:=H) hp hq (zG H) (by refine uH ?_; rfl)) (by simp) fun z hz=>?_) fun H2 hk2=>?_
 ·simp at hz; rcases hz with rfl | rfl <;> assumption
 obtain ⟨k2,_,w2⟩:=zT H zK hk2;have b0:=hk2.get (b:=H.next) (e:=.cells [.bool (decide (x<0)),p] aa true) (cH);have b1:=hk2.get (b:=H.next+1) (e:=.cells [.bool (decide (y<0)),q] aa true) (cH);have b2:=hk2.get (b:=H.next+2) (e:=.cells [.bool false,.nilSl] aa true) (cH);refine zW (bA hl g0 g1 @b0 b1) ?_;refine AnsH.use (J2 C zF (hp.mono (zG H)) (hq.mono (zG H)) hx hy zO) ?_;rintro v H3 ⟨o,r,rfl,ho,hr,hk3⟩;obtain ⟨k3,_,w3⟩:=zT H zK hk3;have c0:=hk3.get (b:=H.next) b0;have c1:=hk3.get (b:=H.next+1) b1;have c2:=hk3.get (b:=H.next+2) b2;obtain ⟨nb,hnb⟩:∃ nb,nb=decide ((x<0)≠(y<0)):=⟨_,rfl⟩
 obtain ⟨rb,hrb⟩:∃ rb,rb=decide (x.natAbs % y.natAbs≠0):=⟨_,rfl⟩
 obtain ⟨Qn,hQn⟩:∃ n,n=x.natAbs / y.natAbs:=⟨_,rfl⟩
 obtain ⟨Rn,hRn⟩:∃ n,n=x.natAbs % y.natAbs:=⟨_,rfl⟩
 have hne:=Sl x y;rw [<- hnb] at hne;rw [<- hQn] at ho;rw [<- hRn] at hr;have hlr:=Qe Rn;have hte:=PZ (x:=x) h0;rw [<- hnb,<- hQn] at hte;rw [<- hRn] at hrb;rw [<- hrb] at hlr;rw [<- hRn,<- hrb,<- hnb];refine zW (dL hl g0 g1 c0 @c1 hne) ?_;refine AnsH.use (eW C zF (ho.mono (zG H3)) _) ?_;rintro v4 H4 ⟨rfl,hk4⟩;obtain ⟨k4,_,_⟩:=zT H zK hk4;have o3:=ho.one;have d2:=hk4.get (b:=H.next+2) c2;have lt2:=k4.wf _ _ d2;have hr4:=hr.mono hk4.sub;refine zW (iy hl g0 g1 d2 hr4.lenV hlr @Qa @KE) ?_;refine ⟨_,rfl,?_,zK⟩;rw [<- hte];exact oS _ ((ho.mono hk4.sub).monoT (SubT.put_ty d2 zU))
theorem Ut (a b c d:AV) (l:List AV):F4 3 (.tup (a :: b :: c :: d :: l))=some d:=rfl
def EU (C:Code tab) (hw:Wf H) {a b:AV} {x y:Int} (ha:IntV H a x) (hb:IntV H b y) (hx:dJ x) (hy:dJ y) (h0:y≠0) (hd:x.natAbs % y.natAbs=0) :
  Ans tab (.fn nL [a,b]) H fun v H'=>∃ q,v=.tup [q,.int .i64 0]/\IntV H' q (x.tdiv y)/\Kp H H':=by
 obtain ⟨p,rfl,hp⟩:=ha;obtain ⟨q,rfl,hq⟩:=hb;have op:=hp.one;have oq:=hq.one;refine bB C.q162 zU fun T hl g0 g1=>?_;refine zW (aE hl g0 g1) ?_;refine AnsH.use (zu C zF ⟨p,rfl,hp.mono (zG H)⟩ ⟨q,rfl,hq.mono (zG H)⟩ hx hy h0) ?_;rintro v H3 ⟨w,rfl,⟨r,rfl,hr⟩,hk3⟩;obtain ⟨k3,_,w3⟩:=zT H zK hk3;have o3:=hr.one;have hrest:decide (x.natAbs % y.natAbs≠0)=false:=by simp [hd]
 rw [hrest];have d2:=hk3.get (b:=H.next+2) (e:=.cells [.bool false,.nilSl] aa true) (cH);have lt2:=k3.wf _ _ d2;have n3:H.next+17<=H3.next:=hk3.le
 have f3:H3.get (H.next+12)=none:=hk3.free (show _<H.next+17 by omega) (by rw [az zO,az zO,az zO]; exact hw.fresh (b:=H.next+12) zO);refine zW (bA hl g0 g1 d2 @Ut) ?_;have s3:Sub (H3.up 8) (((H3.up 8).put (H.next+12) (Ent.cells [AV.bool false,AV.nilSl] aa true)).put (H.next+12) (Ent.cells [AV.bool (decide (x.tdiv y<0)),r] aa true)):=(aJ (H:=H3.up 8) f3).put f3 _;have hr2:=(hr.mono (Sub.bump H3 8)).mono s3;have d3:(((H3.up 8).put (H.next+12) (Ent.cells [AV.bool false,AV.nilSl] aa true)).put (H.next+12) (Ent.cells [AV.bool (decide (x.tdiv y<0)),r] aa true)).get (H.next+2)=some (.cells [.bool false,.nilSl] aa true):=by exact zV d2
 refine ⟨_,rfl,⟨r,rfl,hr2.monoT (SubT.put_ty d3 zU)⟩,?_⟩;have n4:H3.next<=(H3.up 8).next:=VH _ _
 refine ((((k3.up 8).put ?_ ?_).put ?_ ?_).put ?_ ?_)
 all_goals (first | omega | (simp only [next_put]; omega))
def QF (C:Code tab) (hw:Wf H) {a b:AV} {x y:Nat} (ha:bJ H a x) (hb:bJ H b y) (hx:Sm x) (hy:Sm y) :
  Ans tab (.fn xp [a,b]) H fun v H'=>∃ r,v=.tup [r,.int .i64 0]/\bJ H' r (Nat.gcd x y)/\Kp H H':=by
 have hox:=ha.one;have hoy:=hb.one;refine bB C.q161 zU fun T hl g0 g1=>?_;refine zW (aE hl g0 g1) ?_;refine AnsH.eq (A2 C zF (B2 (H:=H) ha hb (zG H) (by refine uH ?_; rfl)) (by simp) fun c hc=>?_) fun H2 hk2=>?_
 ·unfold Sm at hx hy;simp at hc; rcases hc with rfl | rfl
  ·exact ⟨zO,(dt _)⟩
  ·exact ⟨zO,(dt _)⟩
 obtain ⟨k2,_,w2⟩:=zT H zK hk2;refine zW (aE hl g0 g1) ?_;refine lM H2 [0,1] (fun k vs H'=>∃ a' b' x' y',vs=[a',b']/\bJ H' a' x'/\bJ H' b' y'/\Sm x'/\Sm y'/\Nat.gcd x' y'=Nat.gcd x y/\k=y') (fun vs H'=>∃ a' b',vs=[a',b']/\bJ H' a' (Nat.gcd x y)/\Sm (Nat.gcd x y)) y (by simp only [U4,hl]; rfl) rfl zK ⟨a,b,x,y,by exact zV (aE hl g0 g1),ha.mono k2.sub,hb.mono k2.sub,hx,hy,rfl,rfl⟩ ?_ ?_
 ·rintro k T1 H1 hl1 hs1 hk1 ⟨a',b',x',y',hv,na,nb,sx,sy,hg,hk⟩;have w1:=hk1.wf;have le_hk1:=hk1.le;have o1:=nb.one;simp only [Ve,Vk,Vg,and_true] at hv;obtain ⟨v0,v1⟩:=hv;have hlen:=bI y';refine zW (aQ hl1 v0 v1 nb.lenV) ?_;refine iteH.split (fun h=>?_) fun h=>?_
  ·refine zW (aE hl1 v0 v1) ?_;refine AnsH.use (J2 C zF (na.mono (zG H1)) (nb.mono (zG H1)) sx sy zO) ?_;rintro v H3 ⟨o,r,rfl,ho,hr,hk3⟩;obtain ⟨k3,_,w3⟩:=zT H2 zK hk3;refine zW (aE hl1 v0 v1) ?_;have hlt:x' % y'<y':=V4 _ zO;refine ⟨zK,x' % y',zO,_,_,y',x' % y',rfl,nb.mono hk3.sub,hr,sy,Sm.mono (W0 hlt) sy,?_,rfl⟩;rw [<- hg,Nat.gcd_comm x' y',Nat.gcd_rec y' x',Nat.gcd_comm]
  ·refine zW (aE hl1 v0 v1) ?_;refine ⟨zK,_,_,rfl,?_⟩;have h00:y'=0:=zO;rw [h00,Nat.gcd_zero_right] at hg;rw [<- hg];exact ⟨na.mono (zG H1),sx⟩
 ·rintro T1 H1 hl1 hs1 hk1 ⟨a',b',hv,na,sg⟩;have w1:=hk1.wf;have le_hk1:=hk1.le;simp only [Ve,Vk,Vg,and_true] at hv;obtain ⟨v0,v1⟩:=hv;unfold Sm at sg;have hz:SlV (bS cj) ae (H1.up 4) a' (ag (Nat.gcd x y)):=na.mono (Sub.bump H1 4);obtain ⟨v',H4,e1,h2,k4,n4,-,-⟩:=Bl.app (E:=bS cj) (ty:=ae) (bytes:=8) (id:=H1.next+1) (H0:=H1) (H:=H1.up 4) (v:=.nilSl) (l:=[]) (.inl ⟨rfl,rfl⟩) zU zK hz zO (by refine uH ?_; omega) (w1.fresh (b:=H1.next+1) zO) (fun b n h=>by cases h) (by simp; omega) (by simp; omega);have e1':dI (H1.up 4) (H1.next+1) 1 8 ae .nilSl a'=some (v',H4):=e1;refine zW (aE hl1 v0 e1') ?_;exact ⟨_,rfl,Bl.sl h2,Kp.trans (Kp.trans k2 hk1) k4⟩
end
section
variable {tab:Nat->Option aA} {H:Heap} {s:AV}
def rawE:fw (Bool × List Nat) where
 sz:=2
 tys:=[ae]
 R H cs z:=∃ v,cs=[.bool z.1,v]/\Lb H v z.2
 pos:=zO
 len:=by rintro H cs z ⟨v,rfl,h⟩; exact ⟨rfl,by simp [h.one.2]; rfl⟩
 mono:=by rintro H H' cs z hs ⟨v,rfl,h⟩; exact ⟨v,rfl,h.monoT hs⟩
def mP (z:Bool × List Nat):Bool:=decide (z.2.getLast? = some 0) || (z.1 && decide (z.2.length=0))
def xZ (C:Code tab) (hw:Wf H) {b:Bool} {l:List Nat} {w:AV} (hn:Lb H w l) (hbig:l.length<4611686018427387904):Ans tab (.fn j9 [.agg [.bool b,w]]) H fun v H'=>v=.int .i64 (if mP (b,l) then 8 else 0)/\Kp H H':=by
 have ow:=hn.one;refine cR C.q43 zU fun T hl g0=>?_;refine zW (aD hl g0) ?_;have k1:Kp H ((H.up 16).put H.next (.cells [.bool b,w] aa true)):=zK;have le_k1:=k1.le;refine AnsH.eq (oP C k1.wf (hn.mono k1.sub) hbig) fun H2 hk2=>?_;have k2:=k1.trans hk2;have b0:H2.get H.next=some (.cells [.bool b,w] aa true):=hk2.get (ap _ _ _)
 by_cases hz:l.getLast? = some 0
 ·rw [if_pos hz];refine zW (aE hl g0 @b0) ?_;exact ⟨by simp [mP,hz],zK⟩
 ·rw [if_neg hz];cases b with
  | false =>
   refine zW (aE hl g0 @b0) ?_;exact ⟨by simp [mP,hz],zK⟩
  | true =>
   refine zW (aQ hl g0 @b0 hn.lenV) ?_;refine iteH.split (fun h=>?_) fun h=>?_
   ·have e:l=[]:=V6 zO;refine zW (aD hl g0) ?_;exact ⟨by simp [mP,hz,e],zK⟩
   ·have e:l≠[]:=fun e=>h (by rw [e]; rfl);refine zW (aD hl g0) ?_;exact ⟨by simp [mP,hz,e],zK⟩
def nr {α:Type} (p:α->Bool) (l:List α):Int:=match l.findIdx? p with
 | some i=>(i:Int)
 | none=>-1
def sG {α:Type} {p:α->Bool} {l:List α} {j:Nat} (hj:j<l.length) (h0:∀ k (h:k<l.length),k<j->p l[k]=false) (h1:p l[j]=true):nr p l=(j:Int):=by
 have:l.findIdx? p=some j:=by
  rw [V2];exact ⟨hj,h1,fun k hk=>by rw [h0 k zO hk]; simp⟩
 simp [nr,this]
def pR {α:Type} {p:α->Bool} {l:List α} (h0:∀ k (h:k<l.length),p l[k]=false):nr p l = -1:=by
 have:l.findIdx? p=none:=by
  rw [Xv];intro x hx;obtain ⟨k,hk,rfl⟩:=Wg hx;exact h0 k hk
 simp [nr,this]
def sI {α:Type} (p:α->Bool) (l:List α):decide (nr p l ≥ 0)=l.any p:=by
 cases h:l.findIdx? p with
 | none =>
  have:l.any p=false:=by
   rw [Xv] at h;rw [Wt]; intro x hx; simp [h x hx]
  simp [nr,h,this]
 | some i =>
  have:l.any p=true:=by
   rw [V2] at h;obtain ⟨hi,h1,-⟩:=h;rw [VO]; exact ⟨_,U9 hi,h1⟩
  simp [nr,h,this]
def B8 (C:Code tab) (hw:Wf H) {α:Type} {E:fw α} {ty fi:Nat} {first caps:List AV} {l:List α} (hE:E.sz=2) (hs:SlV E ty H s l) (hbig:l.length<4611686018427387904) (p:α->Bool)
  (hf:∀ a∈l,∀ H' cs,Kp H H'->E.R H' cs a->Ans tab (.fn fi (first++[.agg cs]++caps)) H' fun v H2=>v=.bool (p a)/\Kp H' H2) :
  Ans tab (.fn cy [s,.fn (.func fi) first caps]) H fun v H'=>v=.int .i64 (nr p l)/\Kp H H':=by
 refine bB C.q76 zU fun T hl g0 g1=>?_;refine zW (aQ hl g0 g1 hs.lenV) ?_;refine aq H [] (fun j _ _=>∀ k (h:k<l.length),k<j->p l[k]=false) (a:=0) (N:=l.length) rfl (by refine zW (aE hl g0 g1) ?_; rfl) (zV (aE hl g0 g1)) (Vj _) zO (by simp only [U4,hl]; rfl) rfl (fun _ _ _ _ h=>h) zK (fun k _ h=>by omega) ?_ ?_
 ·intro j T1 H1 _ hj hl1 hi1 hs1 hk1 hP;have w1:=hk1.wf;have le_hk1:=hk1.le;have t0:ad T1 0=s:=(hs1.at_ 0 zU).trans (zV (aD hl g0));have t1:ad T1 1=.fn (.func fi) first caps:=(hs1.at_ 1 zU).trans (zV (aQ hl g0 g1 g1))
  obtain ⟨cs,hr,hlen,-,hld⟩:=(hs.mono hk1.sub).at (U7 hj);have hix:=SlV.idx hs .i64 j hj;rw [hE] at hld hix;simp only [U4,hl] at hl1;refine zW (dL hl1 t0 t1 hi1 hix hld) ?_;refine AnsH.eq (hf _ (U9 hj) _ cs zK (E.mono ((zG H1).t _) hr)) fun H2 hk2=>?_;obtain ⟨k2,_,_⟩:=zT H zK hk2;cases hp:p l[j] with
  | true =>
   refine zW hl1 ?_;exact ⟨by rw [sG hj hP hp],zK⟩
  | false =>
   refine zW hl1 ?_;refine ⟨zK,fun k h hk=>?_⟩;by_cases e:k=j
   ·subst e; exact hp
   ·exact hP k h zO
 ·intro T1 H1 hl1 hs1 hk1 hP;simp only [U4,hl] at hl1;refine zW hl1 ?_;exact ⟨by rw [pR fun k h=>hP k h h],zK⟩
def xV (C:Code tab) (hw:Wf H) {α:Type} {E:fw α} {ty fi:Nat} {first caps:List AV} {l:List α} (hE:E.sz=2) (hs:SlV E ty H s l) (hbig:l.length<4611686018427387904) (p:α->Bool)
  (hf:∀ a∈l,∀ H' cs,Kp H H'->E.R H' cs a->Ans tab (.fn fi (first++[.agg cs]++caps)) H' fun v H2=>v=.bool (p a)/\Kp H' H2) :
  Ans tab (.fn b9 [s,.fn (.func fi) first caps]) H fun v H'=>v=.bool (l.any p)/\Kp H H':=by
 refine bB C.q48 zU fun T hl g0 g1=>?_;refine zW (aE hl g0 g1) ?_;refine AnsH.eq (B8 C zF hE (hs.mono (zG H)) hbig p fun a ha H' cs hk hr=>hf a ha H' cs (Kp.trans (H:=H) zK hk) hr) fun H2 hk2=>?_;obtain ⟨k2,_,_⟩:=zT H zK hk2;refine zW (aE hl g0 g1) ?_;exact ⟨by rw [sI],zK⟩
def Du (C:Code tab) (hw:Wf H) {cs:List AV} {z:Bool × List Nat} (hz:rawE.R H cs z) (hbig:z.2.length<4611686018427387904) :
  Ans tab (.fn mw [.agg cs]) H fun v H'=>v=.bool (mP z)/\Kp H H':=by
 obtain ⟨w,rfl,hn⟩:=hz;obtain ⟨b,l⟩:=z;have ow:=hn.one;refine cR C.q49 zU fun T hl g0=>?_;refine zW (aD hl g0) ?_;refine AnsH.eq (xZ C zF (hn.mono (zG H)) hbig) fun H2 hk2=>?_;obtain ⟨k2,_,_⟩:=zT H zK hk2;cases mP (b,l) with
 | true =>
  rw [if_pos rfl];refine zW (aD hl g0) ?_;exact zK
 | false =>
  rw [if_neg zU];refine zW (aD hl g0) ?_;exact zK
def wW (l:List (Bool × List Nat)):Bool:=decide (l.length<=64) && !l.any mP
def rV (l:List (Bool × List Nat)):Prop:=l.length<4611686018427387904/\∀ z∈l,z.2.length<4611686018427387904
def oD (C:Code tab) (hw:Wf H) {l:List (Bool × List Nat)} (hs:SlV rawE aa H s l) (hbig:rV l) :
  Ans tab (.fn ng [s]) H fun v H'=>v=.int .i64 (if wW l then 0 else 8)/\Kp H H':=by
 refine cR C.q23 zU fun T hl g0=>?_;by_cases h64:l.length<=64
 ·have e:¬ (64:Int)<(l.length:Int):=zO;refine zW (aQ hl g0 hs.lenV e) ?_;refine AnsH.eq (xV C zF rfl (hs.mono (zG H)) hbig.1 mP fun a ha H' cs hk hr=>Du C hk.wf hr (hbig.2 a ha)) fun H2 hk2=>?_;obtain ⟨k2,_,_⟩:=zT H zK hk2;cases ha:l.any mP with
  | true =>
   refine zW (aD hl g0) ?_;exact ⟨by simp only [wW,ha]; simp,zK⟩
  | false =>
   refine zW (aD hl g0) ?_;exact ⟨by simp only [wW,ha]; simp [h64],zK⟩
 ·have e:(64:Int)<(l.length:Int):=zO;refine zW (aQ hl g0 hs.lenV e) ?_;exact ⟨by simp [wW,h64],zK⟩
end
def NoTy (tys:List Nat) (H:Heap) (b:Nat):Prop:=∀ cs t r,t∈tys->H.get b≠some (.cells cs t r)
def NoTy.none {tys:List Nat} {H:Heap} {b:Nat} (h:H.get b=none):NoTy tys H b:=fun cs t r _ e=>by rw [h] at e; cases e
def NoTy.ty {tys:List Nat} {H:Heap} {b ty:Nat} {cs:List AV} {r:Bool} (h:H.get b=some (.cells cs ty r)) (hn:ty ∉ tys):NoTy tys H b:=fun cs' t r' ht e=>by rw [h] at e; cases e; exact hn ht
def NoTy.fresh {tys:List Nat} {H:Heap} {b:Nat} (hw:Wf H) (h:H.next<=b):NoTy tys H b:=NoTy.none (hw.fresh h)
def SubT.refl (tys:List Nat) (H:Heap):SubT tys H H:=fun _ _ _ _ _ h=>h
def SubT.upR {tys:List Nat} {H H':Heap} {m:Nat} (h:SubT tys H H'):SubT tys H (H'.up m):=h
def SubT.puts {tys:List Nat} {H H':Heap} {b:Nat} {e:Ent} (h:SubT tys H H') (hb:NoTy tys H b):SubT tys H (H'.put b e):=fun c cs t r ht hc=>by
 rw [az (fun e1=>hb cs t r ht (by rw [<- e1]; exact hc))]; exact h c cs t r ht hc
def SubT.kills {tys:List Nat} {H H':Heap} {b:Nat} (h:SubT tys H H') (hb:NoTy tys H b):SubT tys H (H'.kill b):=fun c cs t r ht hc=>by
 rw [cD (fun e1=>hb cs t r ht (by rw [<- e1]; exact hc))]; exact h c cs t r ht hc
def SubT.trans {tys:List Nat} {H H' H'':Heap} (h:SubT tys H H') (h':SubT tys H' H''):SubT tys H H'':=fun c cs t r ht hc=>h' c cs t r ht (h c cs t r ht hc)
def zS {P:Prop} (h:P:=by repeat (first | assumption | exact SubT.refl _ _ | exact Sub.t (by assumption) _ | refine SubT.upR ?_ | refine SubT.puts ?_ (by first | assumption | exact NoTy.fresh (by assumption) zO) | refine SubT.kills ?_ (by first | assumption | exact NoTy.fresh (by assumption) zO))):P:=h
def IntV.monoT {H H':Heap} {v:AV} {z:Int} (hs:SubT [ae] H H') (h:IntV H v z):IntV H' v z:=by
 obtain ⟨w,rfl,h⟩:=h; exact ⟨w,rfl,SlV.monoT (E:=bS cj) hs h⟩
def Bt (e:Nat) (z:Int):Prop:=z.natAbs<2^e
def Bt.mono {e f:Nat} {z:Int} (h:Bt e z) (hf:e<=f):Bt f z:=Vq h (Vx zU hf)
def Bt.zero (e:Nat):Bt e 0:=VK zU
def Bt.neg {e:Nat} {z:Int} (h:Bt e z):Bt e (-z):=by unfold Bt at *; rwa [Yj]
def Bt.mul {e f:Nat} {x y:Int} (h:Bt e x) (h':Bt f y):Bt (e+f) (x*y):=by
 unfold Bt at *;rw [X0,VZ];exact ZA h h'
def Bt.add {e f:Nat} {x y:Int} (h:Bt e x) (h':Bt f y):Bt (max e f+1) (x+y):=by
 have h1:=h.mono (Nat.le_max_left e f);have h2:=h'.mono (Nat.le_max_right e f);unfold Bt at *;rw [VJ]
 have:=XQ x y
 omega
def Bt.len {e:Nat} {z:Int} (h:Bt e z) (he:e<=8796093022208):(ag z.natAbs).length<274877906944:=by
 have h1:z.natAbs<B^(e / 64+1):=by
  have hb:B=2^64:=by decide
  rw [hb,<- Ym];exact Vq h (Vx zU zO)
 have:=bi h1
 omega
def Bt.sm {e:Nat} {z:Int} (h:Bt e z) (he:e<=8796093022208):dJ z:=by
 have:=h.len he
 unfold dJ Sm; omega
def gY:AV->Option Nat
 | .own b _ _ _ _ _=>some b
 | _=>none
def Fr (H:Heap) (v:AV):Prop:=∀ b,gY v=some b->H.next<=b
abbrev RowV (H:Heap) (v:AV) (l:List Int):Prop:=SlV intE aa H v l
abbrev dK (H:Heap) (v:AV) (ls:List (List Int)):Prop:=BR (tk intE aa) af H v ls
def cC (z:Int):Bool × List Nat:=(decide (z<0),ag z.natAbs)
def SlV.raw {ty:Nat} {H:Heap} {v:AV} {l:List Int} (h:SlV intE ty H v l):SlV rawE ty H v (l.map cC):=by
 obtain ⟨cells,hr,ht,hc,ha⟩:=h;refine ⟨cells,hr,ht,by rw [hc,Vc]; rfl,fun i a hi=>?_⟩;rw [V5] at hi;cases hz:l[i]? with
 | none=>rw [hz] at hi; cases hi
 | some z =>
  rw [hz] at hi; cases hi;obtain ⟨w,h1,h2⟩:=ha i z hz;exact ⟨w,h1,h2⟩
def wG (z:Int):mP (cC z)=false:=by
 have h1:¬ (ag z.natAbs).getLast? = some 0:=dt z.natAbs;have h2:=bI z.natAbs;show (decide ((ag z.natAbs).getLast? = some 0) || (decide (z<0) && decide ((ag z.natAbs).length=0)))=false;rw [decide_eq_false h1,YQ];by_cases h:z<0
 ·have h3:¬ (ag z.natAbs).length=0:=by have:=h2.2 zO; omega
  rw [decide_eq_false h3,Bool.and_false]
 ·rw [decide_eq_false h,ZQ]
section
variable {tab:Nat->Option aA} {H:Heap} {s:AV}
def pj (C:Code tab) (hw:Wf H) {l:List Int} (hs:RowV H s l) (h64:l.length<=64) (hz:∀ z∈l,dJ z):Ans tab (.fn ng [s]) H fun v H'=>v=.int .i64 0/\Kp H H':=by
 refine (oD C hw hs.raw ⟨by rw [Vc]; omega,fun z h=>?_⟩).mono fun v H' h=>?_
 ·rw [Va] at h;obtain ⟨a,ha,rfl⟩:=h
  have:=hz a ha
  unfold dJ Sm at this;show (ag a.natAbs).length<_;omega
 ·have e:wW (l.map cC)=true:=by
   simp only [wW,Vc,List.any_map,VG,decide_eq_true_eq,V8,Wt];exact ⟨h64,fun z _=>by simp [wG]⟩
  rw [e,if_pos rfl] at h;exact h
def dl {ty:Nat} {ls:List (List Int)} (hs:BR (tk intE aa) ty H s ls) {i:Nat} (hi:i<ls.length):∃ w,RowV H w ls[i]/\aX H none (au s i)=some w:=SlV.at1 hs (U7 hi)
def gg (C:Code tab) (hw:Wf H) {ls:List (List Int)} {ty d:Nat} (hs:BR (tk intE aa) ty H s ls) (h0:0<ls.length) (hbig:ls.length<4611686018427387904) (hd:d<=64) (hc:∀ r∈ls,r.length=d/\∀ z∈r,dJ z) :
  Ans tab (.fn nN [s]) H fun v H'=>v=.int .i64 0/\Kp H H':=by
 refine cR C.q44 zU fun T hl g0=>?_;refine zW (aE hl g0 hs.lenV) ?_;refine aq H [] (fun _ _ _=>True) (a:=0) (N:=ls.length) rfl (by refine zW (aD hl g0) ?_; rfl) (zV (aD hl g0)) (Vj _) zO (by simp only [U4,hl]; rfl) rfl (fun _ _ _ _ h=>h) zK trivial ?_ ?_
 ·intro j T1 H1 _ hj hl1 hi1 hs1 hk1 _;have w1:=hk1.wf;have le_hk1:=hk1.le;have t8:ad T1 8=s:=(hs1.at_ 8 zU).trans (zV (aD hl g0));obtain ⟨w,hr,hld⟩:=dl (hs.mono hk1.sub) hj;have hix:=SlV.idx1 hs .i64 j hj;have hcc:=hc _ (U9 hj);simp only [U4,hl] at hl1;refine zW (bA hl1 t8 hi1 hix hld) ?_;refine AnsH.eq (pj C zF (hr.mono (zG H1)) zO hcc.2) fun H2 hk2=>?_;obtain ⟨k2,_,_⟩:=zT H zK hk2;refine zW hl1 ?_;exact zK
 ·intro T1 H1 hl1 hs1 hk1 _;have w1:=hk1.wf;have le_hk1:=hk1.le;have t0:ad T1 0=s:=(hs1.at_ 0 zU).trans (zV (aD hl g0));obtain ⟨v',e,hr⟩:=hs.lo .i64 1 zO;have e':cw 1 s (some (.int .i64 1)) none none=some v':=e;have hr':BR (tk intE aa) ty H v' (ls.drop 1):=hr;simp only [U4,hl] at hl1;refine zW (aQ hl1 t0 e' hr.lenV) ?_;refine aq H [] (fun _ _ _=>True) (a:=0) (N:=(ls.drop 1).length) rfl (by refine zW hl1 ?_; rfl) (zV hl1) (Vj _) (by simp; omega) (by simp only [U4,hl1]; rfl) rfl (fun _ _ _ _ h=>h) zK trivial ?_ ?_
  ·intro j T2 H2 _ hj hl2 hi2 hs2 hk2 _;have w2:=hk2.wf;have le_hk2:=hk2.le;have t21:ad T2 21=v':=(hs2.at_ 21 zU).trans (zV hl1);have t0':ad T2 0=s:=(hs2.at_ 0 zU).trans (zV (aD hl1 t0));obtain ⟨w,hr2,hld⟩:=dl (hr'.mono hk2.sub) hj;obtain ⟨w0,hr0,hld0⟩:=dl (hs.mono hk2.sub) h0;have hix:=SlV.idx1 hr' .i64 j hj;have hix0:cI 1 s (.int .i64 0)=some (au s 0):=SlV.idx1 hs .i64 0 h0;have l2:lenV w=some (.int .i64 (d:Int)):=by rw [hr2.lenV,(hc _ (XN (U9 hj))).1]
   have l0:lenV w0=some (.int .i64 (d:Int)):=by rw [hr0.lenV,(hc _ (U9 h0)).1]
   simp only [U4,hl1] at hl2;refine zW (qz hl2 t21 hi2 hix hld t0' hix0 hld0 l2 l0) ?_;exact zK
  ·intro T2 H2 hl2 hs2 hk2 _;simp only [U4,hl1] at hl2;refine zW hl2 ?_;exact zK
def MuI (z:Int):Prop:=(ag z.natAbs).length<274877906944
def MuI.sm {z:Int} (h:MuI z):dJ z:=by unfold MuI at h; unfold dJ Sm; omega
def I8 (C:Code tab) (hw:Wf H) {a b:AV} {x y:Int} (ha:IntV H a x) (hb:IntV H b y) (hx:dJ x) (hy:dJ y):Ans tab (.fn xc [a,b]) H fun v H'=>IntV H' v (x+y)/\Kp H H':=by
 obtain ⟨p,rfl,hp⟩:=ha;obtain ⟨q,rfl,hq⟩:=hb;have op:=hp.one;have oq:=hq.one;refine bB C.q75 zU fun T hl g0 g1=>?_;refine zW (aE hl g0 g1) ?_;refine AnsH.use (Ci C zF ⟨p,rfl,hp.mono (zG H)⟩ ⟨q,rfl,hq.mono (zG H)⟩ hx hy) ?_;rintro v H2 ⟨r,rfl,⟨w,rfl,hr⟩,hk2⟩;obtain ⟨k2,_,w2⟩:=zT H zK hk2;have ow:=hr.one;have n2:H.next+12<=H2.next:=hk2.le
 have d2:=hk2.get (b:=H.next+2) (e:=.cells [.bool false,.nilSl] aa true) (cH);have f2:H2.get (H.next+9)=none:=hk2.free (show _<H.next+12 by omega) (by rw [az zO,az zO,az zO]; exact hw.fresh (b:=H.next+9) zO);have m2:NoTy [ae] H2 (H.next+2):=NoTy.ty d2 zU;have m9:NoTy [ae] H2 (H.next+9):=NoTy.none f2;refine zW (aQ hl g0 g1 d2) ?_;exact ⟨⟨w,rfl,SlV.monoT (E:=bS cj) zS hr⟩,zK⟩
def mU (C:Code tab) (hw:Wf H) {a b:AV} {x y:Int} (ha:IntV H a x) (hb:IntV H b y) (hx:MuI x) (hy:MuI y):Ans tab (.fn nM [a,b]) H fun v H'=>IntV H' v (x*y)/\Kp H H':=by
 obtain ⟨p,rfl,hp⟩:=ha;obtain ⟨q,rfl,hq⟩:=hb;have op:=hp.one;have oq:=hq.one;refine bB C.q74 zU fun T hl g0 g1=>?_;refine zW (aE hl g0 g1) ?_;refine AnsH.use (Cg C zF ⟨p,rfl,hp.mono (zG H)⟩ ⟨q,rfl,hq.mono (zG H)⟩ hx hy) ?_;rintro v H2 ⟨r,rfl,⟨w,rfl,hr⟩,hk2⟩;obtain ⟨k2,_,w2⟩:=zT H zK hk2;have ow:=hr.one;have n2:H.next+12<=H2.next:=hk2.le
 have d2:=hk2.get (b:=H.next+2) (e:=.cells [.bool false,.nilSl] aa true) (cH);have f2:H2.get (H.next+9)=none:=hk2.free (show _<H.next+12 by omega) (by rw [az zO,az zO,az zO]; exact hw.fresh (b:=H.next+9) zO);have m2:NoTy [ae] H2 (H.next+2):=NoTy.ty d2 zU;have m9:NoTy [ae] H2 (H.next+9):=NoTy.none f2;refine zW (aQ hl g0 g1 d2) ?_;exact ⟨⟨w,rfl,SlV.monoT (E:=bS cj) zS hr⟩,zK⟩
def tg (g:Nat->Int->Int) (l:List Int) (j:Nat):List Int:=(List.range l.length).map fun i=>if i<j then g i (l.getD i 0) else 0
def Ld (g:Nat->Int->Int) (l:List Int):tg g l 0=List.replicate l.length 0:=by
 simp [tg,List.map_const']
def Fz (g:Nat->Int->Int) (l:List Int) (j:Nat):(tg g l j).length=l.length:=by simp [tg]
def NP (g:Nat->Int->Int) (l:List Int) {j:Nat} (hj:j<l.length):(tg g l j).set j (g j l[j])=tg g l (j+1):=by
 apply W4
 ·simp [tg]
 ·intro i h1 h2;have hi:i<l.length:=by simpa [tg] using h2
  rw [List.getElem_set];by_cases e:j=i
  ·subst e; simp [tg,hj]
  ·rw [if_neg e];simp only [tg,X5,List.getElem_range];by_cases h:i<j
   ·rw [if_pos h,if_pos zO]
   ·rw [if_neg h,if_neg zO]
def NQ (g:Nat->Int->Int) (l:List Int):tg g l l.length=l.mapIdx g:=by
 apply W4
 ·simp [tg]
 ·intro i h1 h2;have hi:i<l.length:=by simpa [tg] using h1
  simp [tg,hi]
def Do (C:Code tab) (hw:Wf H) {l:List Int} {fi:Nat} {first caps:List AV} (hs:RowV H s l) (hbig:l.length<1099511627776) (g:Nat->Int->Int)
  (hf:∀ i (hi:i<l.length) H' w,Kp H H'->IntV H' w l[i]->Ans tab (.fn fi (first++[.int .i64 (i:Int),w]++caps)) H' fun v H2=>IntV H2 v (g i l[i])/\Kp H' H2) :
  Ans tab (.fn mo [s,.fn (.func fi) first caps]) H fun v H'=>Kp H H'/\∃ b,Own intE aa H H' b true v (l.mapIdx g):=by
 refine bB C.q46 zU fun T hl g0 g1=>?_;have hmk:∀ H':Heap,Jy H' (H.next+3) aa 2 32 [.bool false,.nilSl] (.int .i64 (l.length:Int)) (.int .i64 (l.length:Int))=some (.own (H.next+3) 0 l.length l.length 2 true,H'.put (H.next+3) (.cells ((List.replicate l.length [AV.bool false,AV.nilSl]).flatten) aa true)):=fun H'=>jc _ _ _ _ _ _ _ _ _ zO zO rfl;refine zW (bA hl g0 g1 hs.lenV hmk) ?_;have hz:intE.R H [.bool false,.nilSl] 0:=⟨.nilSl,by simp,eN H⟩
 refine aq H [] (fun j _ H'=>∃ cells,H'.get (H.next+3)=some (.cells cells aa true)/\Cells intE H' cells (tg g l j)) (a:=0) (N:=l.length) rfl (by refine zW (aE hl g0 g1) ?_; rfl) (zV (aE hl g0 g1)) (Vj _) zO (by simp only [U4,hl]; rfl) rfl (fun j vs H' m ⟨cells,h1,h2⟩=>⟨cells,h1,h2.mono ((Sub.bump H' m).t _)⟩) zK ⟨_,by refine uH ?_; rfl,?_⟩ ?_ ?_
 ·rw [Ld];exact (oK hz _).mono ((zG H).t _)
 ·rintro j T1 H1 _ hj hl1 hi1 hs1 hk1 ⟨cells,hb,hcl⟩;have w1:=hk1.wf;have le_hk1:=hk1.le;have t11:ad T1 11=s:=(hs1.at_ 11 zU).trans (zV (aD hl g0));have t5:ad T1 5=.own (H.next+3) 0 l.length l.length 2 true:=(hs1.at_ 5 zU).trans (zV (aE hl g0 g1));have t1:ad T1 1=.fn (.func fi) first caps:=(hs1.at_ 1 zU).trans (zV (aQ hl g0 g1 g1))
  obtain ⟨w,hn,hld,-,-⟩:=je (hs.mono hk1.sub) hj;have hix:cI 2 s (.int .i64 (j:Int))=some (au s (j*2)):=SlV.idx hs .i64 j hj;have ow:=hn.one;have lt3:=w1 _ _ hb;simp only [U4,hl] at hl1;refine zW (fy hl1 t11 t5 t1 hi1 hix hld) ?_;refine AnsH.use (hf j hj _ (.agg [.bool (decide (l[j]<0)),w]) zK ⟨w,rfl,hn.mono (zG H1)⟩) ?_;rintro v H2 ⟨⟨w2,rfl,hn2⟩,hk2⟩;obtain ⟨k2,_,_⟩:=zT H zK hk2;have w2':=k2.wf;have ow2:=hn2.one;have hb2:=hk2.get (b:=H.next+3) (e:=.cells cells aa true) (zV hb);have lt32:=w2' _ _ hb2;have hclen:cells.length=l.length*2:=by have:=hcl.1; rwa [Fz] at this
  have hst:BY (some (.cells cells aa true)) 2 (0+j*2) (.agg [.bool (decide (g j l[j]<0)),w2])=some (.cells (cells.take (0+j*2)++[.bool (decide (g j l[j]<0)),w2]++cells.drop (0+j*2+2)) aa true):=gh (A4 (am _) ow2) zO;have hio:cI 2 (.own (H.next+3) 0 l.length l.length 2 true) (.int .i64 (j:Int))=some (.ptr (H.next+3) (0+j*2)):=ke hj;rw [VQ] at hst hio;have m3:NoTy [ae] H2 (H.next+3):=NoTy.ty hb2 zU;refine zW (aQ hl1 hio hb2 hst) ?_;refine ⟨zK,_,rfl,?_⟩;rw [<- NP g l hj];have hcl2:Cells intE H2 cells (tg g l j):=hcl.mono ((Kp.sub (H:=H1) (Kp.trans zK hk2)).t _);exact Cells.mono (E:=intE) zS (hcl2.set (i:=j) (by rw [Fz]; exact hj) ⟨w2,rfl,hn2⟩)
 ·rintro T1 H1 hl1 hs1 hk1 ⟨cells,hb,hcl⟩;have w1:=hk1.wf;have le_hk1:=hk1.le;have t5:ad T1 5=.own (H.next+3) 0 l.length l.length 2 true:=(hs1.at_ 5 zU).trans (zV (aE hl g0 g1));simp only [U4,hl] at hl1;refine zW (aD hl1 t5) ?_;refine ⟨zK,H.next+3,?_⟩;rw [NQ] at hcl
  have:Own intE aa H H1 (H.next+3) true (.own (H.next+3) 0 l.length l.length 2 true) (l.mapIdx g):=⟨cells,by simp [intE],hb,hcl,zO⟩
  exact this.mono (Sub.bump H1 _)
def ya (C:Code tab) (hw:Wf H) {l:List Int} {fi:Nat} {first caps:List AV} (hs:RowV H s l) (hbig:l.length<1099511627776) (g:Nat->Int->Int)
  (hf:∀ i (hi:i<l.length) H' w,Kp H H'->IntV H' w l[i]->Ans tab (.fn fi (first++[.int .i64 (i:Int),w]++caps)) H' fun v H2=>IntV H2 v (g i l[i])/\Kp H' H2) :
  Ans tab (.fn mo [s,.fn (.func fi) first caps]) H fun v H'=>RowV H' v (l.mapIdx g)/\Kp H H'/\Fr H v :=
 (Do C hw hs hbig g hf).mono fun _ _ ⟨h1,b,h2⟩=>⟨h2.sl,h1,fun b' hb=>by obtain ⟨cells,rfl,-,-,h⟩:=h2; cases hb; exact h⟩
def zz (C:Code tab) (hw:Wf H) {l:List Int} {fi:Nat} {first caps:List AV} (hs:RowV H s l) (hbig:l.length<1099511627776) (g:Nat->Int->Int)
  (hf:∀ i (hi:i<l.length) H' w,Kp H H'->IntV H' w l[i]->Ans tab (.fn fi (first++[.int .i64 (i:Int),w]++caps)) H' fun v H2=>IntV H2 v (g i l[i])/\Kp H' H2) :
  Ans tab (.fn mo [s,.fn (.func fi) first caps]) H fun v H'=>RowV H' v (l.mapIdx g)/\Kp H H':=(ya C hw hs hbig g hf).mono fun _ _ ⟨h1,h2,_⟩=>⟨h1,h2⟩
end
end Go.Proofs.YteaefaohjlmjdaaGreat.Ev
namespace Go.Proofs.YteaefaohjlmjdaaGreat.Lin
abbrev V:=List Int
def dot:V->V->Int
 | a :: x,b :: y=>a*b+dot x y
 | _,_=>0
def mix (m:Int) (x:V) (n:Int) (y:V):V:=List.zipWith (fun a b=>m*a+n*b) x y
def scl (m:Int) (x:V):V:=x.map (m * ·)
def lc (d:Nat):V:=List.replicate d 0
def mix_length {m n:Int} {x y:V} {d:Nat} (h:x.length=d) (h':y.length=d):(mix m x n y).length=d:=by simp [mix,h,h']
def ah {m:Int} {x:V} {d:Nat} (h:x.length=d):(scl m x).length=d:=by simp [scl,h]
def ck (d:Nat):(lc d).length=d:=by simp [lc]
def dot_comm:∀ x y:V,dot x y=dot y x
 | [],[]=>rfl
 | [],_ :: _=>rfl
 | _ :: _,[]=>rfl
 | a :: x,b :: y=>by simp only [dot]; rw [dot_comm x y,Int.mul_comm]
def kg:∀ (c:V) (d:Nat),dot c (lc d)=0
 | [],d=>by cases d <;> rfl
 | a :: c,0=>rfl
 | a :: c,d+1=>by
  show a*0+dot c (lc d)=0;rw [kg c d]; simp
def aT:∀ (c:V) {x y:V} (m n:Int),x.length=y.length->dot c (mix m x n y)=m*dot c x+n*dot c y
 | [],x,y,m,n,_=>by cases x <;> cases y <;> simp [dot,mix]
 | a :: c,[],[],m,n,_=>by simp [dot,mix]
 | a :: c,[],_ :: _,m,n,h=>by simp at h
 | a :: c,_ :: _,[],m,n,h=>by simp at h
 | a :: c,u :: x,v :: y,m,n,h=>by
  have ih:=aT c (x:=x) (y:=y) m n (by simpa using h);simp only [mix,List.zipWith_cons_cons,dot] at ih ⊢;rw [ih]
  grind
def dot_scl:∀ (c x:V) (m:Int),dot c (scl m x)=m*dot c x
 | [],x,m=>by cases x <;> simp [dot,scl]
 | a :: c,[],m=>by simp [dot,scl]
 | a :: c,u :: x,m=>by
  have ih:=dot_scl c x m;simp only [scl,Ve,dot] at ih ⊢;rw [ih]
  grind
def at_ (x:V) (i:Nat):Int:=x.getD i 0
def aL {x y:V} (h:x.length=y.length) (hi:∀ i,at_ x i=at_ y i):x=y:=by
 apply W4 h
 intro i h1 h2
 have:=hi i
 simpa [at_,h1,h2] using this
def at_mix {m n:Int} {x y:V} (h:x.length=y.length) (i:Nat):at_ (mix m x n y) i=m*at_ x i+n*at_ y i:=by
 simp only [at_,mix,U5,List.getElem?_zipWith];by_cases hi:i<x.length
 ·have hi':i<y.length:=h ▸ hi;simp [U7 hi,U7 hi']
 ·have hi':¬ i<y.length:=h ▸ hi;simp [VI (Xw hi),VI (Xw hi')]
def aB {m:Int} {x:V} (i:Nat):at_ (scl m x) i=m*at_ x i:=by
 simp only [at_,scl,U5,V5];cases x[i]? <;> simp
def ii {d i:Nat}:at_ (lc d) i=0:=by
 simp only [at_,lc,U5,V9];split <;> rfl
inductive Con (d:Nat) (L R:V->Prop):V->Prop
 | zero:Con d L R (lc d)
 | line {x l:V} (c:Int):Con d L R x->L l->Con d L R (mix 1 x c l)
 | ray {x r:V} (c:Int):0<=c->Con d L R x->R r->Con d L R (mix 1 x c r)
 | div {x:V} (k:Int):0<k->x.length=d->Con d L R (scl k x)->Con d L R x
abbrev Spn (d:Nat) (L:V->Prop):V->Prop:=Con d L (fun _=>False)
section
variable {d:Nat} {L R L' R':V->Prop}
def Con.length (hL:∀ l,L l->l.length=d) (hR:∀ r,R r->r.length=d) {x:V} (h:Con d L R x):x.length=d:=by
 induction h with
 | zero=>exact ck d
 | line c _ hl ih=>exact mix_length ih (hL _ hl)
 | ray c _ _ hr ih=>exact mix_length ih (hR _ hr)
 | div k _ h _ _=>exact h
def Con.mono (hL:∀ l,L l->L' l) (hR:∀ r,R r->R' r) {x:V} (h:Con d L R x):Con d L' R' x:=by
 induction h with
 | zero=>exact .zero
 | line c _ hl ih=>exact .line c ih (hL _ hl)
 | ray c hc _ hr ih=>exact .ray c hc ih (hR _ hr)
 | div k hk h _ ih=>exact .div k hk h ih
def Con.smul (hL:∀ l,L l->l.length=d) (hR:∀ r,R r->r.length=d) {x:V} (h:Con d L R x):∀ k:Int,0<=k->Con d L R (scl k x):=by
 induction h with
 | zero =>
  intro k _
  have:scl k (lc d)=lc d:=aL (by simp [scl,lc]) fun i=>by rw [aB,ii]; simp
  rw [this]; exact .zero
 | @line x l c hx hl ih =>
  intro k hk;have h1:=hx.length hL hR;have h2:=hL _ hl
  have:scl k (mix 1 x c l)=mix 1 (scl k x) (k*c) l:=aL (by rw [ah (mix_length h1 h2),mix_length (ah h1) h2]) fun i=>by
   rw [aB,at_mix (h1.trans h2.symm),at_mix ((ah h1).trans h2.symm),aB]; grind
  rw [this]; exact .line _ (ih k hk) hl
 | @ray x r c hc hx hr ih =>
  intro k hk;have h1:=hx.length hL hR;have h2:=hR _ hr
  have:scl k (mix 1 x c r)=mix 1 (scl k x) (k*c) r:=aL (by rw [ah (mix_length h1 h2),mix_length (ah h1) h2]) fun i=>by
   rw [aB,at_mix (h1.trans h2.symm),at_mix ((ah h1).trans h2.symm),aB]; grind
  rw [this]; exact .ray _ (VS hk hc) (ih k hk) hr
 | @div x j hj h hx ih =>
  intro k hk;refine .div j hj (ah h) ?_
  have:scl j (scl k x)=scl k (scl j x):=aL (by rw [ah (ah h),ah (ah h)]) fun i=>by
   rw [aB,aB,aB,aB]; grind
  rw [this]; exact ih k hk
def Con.add (hL:∀ l,L l->l.length=d) (hR:∀ r,R r->r.length=d) {y:V} (h:Con d L R y):∀ x,Con d L R x->Con d L R (mix 1 x 1 y):=by
 induction h with
 | zero =>
  intro x hx;have h1:=hx.length hL hR
  have:mix 1 x 1 (lc d)=x:=aL (by rw [mix_length h1 (ck d),h1]) fun i=>by rw [at_mix (h1.trans (ck d).symm),ii]; grind
  rw [this]; exact hx
 | @line y l c hy hl ih =>
  intro x hx;have h1:=hx.length hL hR;have h2:=hy.length hL hR;have h3:=hL _ hl
  have:mix 1 x 1 (mix 1 y c l)=mix 1 (mix 1 x 1 y) c l:=aL (by rw [mix_length h1 (mix_length h2 h3),mix_length (mix_length h1 h2) h3]) fun i=>by
   rw [at_mix (h1.trans (mix_length h2 h3).symm),at_mix (h2.trans h3.symm),at_mix ((mix_length h1 h2).trans h3.symm),at_mix (h1.trans h2.symm)]; grind
  rw [this]; exact .line _ (ih x hx) hl
 | @ray y r c hc hy hr ih =>
  intro x hx;have h1:=hx.length hL hR;have h2:=hy.length hL hR;have h3:=hR _ hr
  have:mix 1 x 1 (mix 1 y c r)=mix 1 (mix 1 x 1 y) c r:=aL (by rw [mix_length h1 (mix_length h2 h3),mix_length (mix_length h1 h2) h3]) fun i=>by
   rw [at_mix (h1.trans (mix_length h2 h3).symm),at_mix (h2.trans h3.symm),at_mix ((mix_length h1 h2).trans h3.symm),at_mix (h1.trans h2.symm)]; grind
  rw [this]; exact .ray _ hc (ih x hx) hr
 | @div y k hk h hy ih =>
  intro x hx;have h1:=hx.length hL hR;refine .div k hk (mix_length h1 h) ?_
  have:scl k (mix 1 x 1 y)=mix 1 (scl k x) 1 (scl k y):=aL (by rw [ah (mix_length h1 h),mix_length (ah h1) (ah h)]) fun i=>by
   rw [aB,at_mix (h1.trans h.symm),at_mix ((ah h1).trans (ah h).symm),aB,aB]; grind
  rw [this]; exact ih _ (hx.smul hL hR k zO)
def Con.sum2 (hL:∀ l,L l->l.length=d) (hR:∀ r,R r->r.length=d) {x y:V} (hx:Con d L R x) (hy:Con d L R y) {m n:Int} (hm:0<=m) (hn:0<=n):Con d L R (mix m x n y):=by
 have h1:=hx.length hL hR;have h2:=hy.length hL hR
 have:mix m x n y=mix 1 (scl m x) 1 (scl n y):=aL (by rw [mix_length h1 h2,mix_length (ah h1) (ah h2)]) fun i=>by
  rw [at_mix (h1.trans h2.symm),at_mix ((ah h1).trans (ah h2).symm),aB,aB]; grind
 rw [this];exact (hy.smul hL hR n hn).add hL hR _ (hx.smul hL hR m hm)
def Con.of_ray {r:V} (hl:r.length=d) (hr:R r):Con d L R r:=by
 have:r=mix 1 (lc d) 1 r:=aL (by rw [mix_length (ck d) hl,hl]) fun i=>by rw [at_mix ((ck d).trans hl.symm),ii]; grind
 rw [this]; exact .ray 1 zO .zero hr
def Con.of_line {l:V} (hl:l.length=d) (hr:L l) (c:Int):Con d L R (scl c l):=by
 have:scl c l=mix 1 (lc d) c l:=aL (by rw [ah hl,mix_length (ck d) hl]) fun i=>by rw [aB,at_mix ((ck d).trans hl.symm),ii]; grind
 rw [this]; exact .line c .zero hr
def Con.trans (hL':∀ l,L' l->l.length=d) (hR':∀ r,R' r->r.length=d) (hL:∀ l,L l->∀ c:Int,Con d L' R' (scl c l)) (hR:∀ r,R r->Con d L' R' r) (hLl:∀ l,L l->l.length=d) (hRl:∀ r,R r->r.length=d) {x:V} (h:Con d L R x):Con d L' R' x:=by
 induction h with
 | zero=>exact .zero
 | @line x l c hx hl ih =>
  have h1:=hx.length hLl hRl;have h2:=hLl _ hl
  have:mix 1 x c l=mix 1 x 1 (scl c l):=aL (by rw [mix_length h1 h2,mix_length h1 (ah h2)]) fun i=>by
   rw [at_mix (h1.trans h2.symm),at_mix (h1.trans (ah h2).symm),aB]; grind
  rw [this]; exact (hL _ hl c).add hL' hR' _ ih
 | @ray x r c hc hx hr ih =>
  exact ih.sum2 hL' hR' (hR _ hr) zO hc
 | div k hk h _ ih=>exact .div k hk h ih
def Con.dot_nonneg (hLl:∀ l,L l->l.length=d) (hRl:∀ r,R r->r.length=d) {a:V} (hL:∀ l,L l->dot a l=0) (hR:∀ r,R r->0<=dot a r) {x:V} (h:Con d L R x):0<=dot a x:=by
 induction h with
 | zero=>rw [kg]; omega
 | @line x l c hx hl ih =>
  rw [aT _ _ _ ((hx.length hLl hRl).trans (hLl _ hl).symm),hL _ hl]; simpa using ih
 | @ray x r c hc hx hr ih =>
  rw [aT _ _ _ ((hx.length hLl hRl).trans (hRl _ hr).symm)]
  have:=VS hc (hR _ hr)
  omega
 | @div x k hk h _ ih =>
  rw [dot_scl] at ih;exact W7 ih hk
def Con.dot_zero (hLl:∀ l,L l->l.length=d) (hRl:∀ r,R r->r.length=d) {a:V} (hL:∀ l,L l->dot a l=0) (hR:∀ r,R r->dot a r=0) {x:V} (h:Con d L R x):dot a x=0:=by
 induction h with
 | zero=>rw [kg]
 | @line x l c hx hl ih=>rw [aT _ _ _ ((hx.length hLl hRl).trans (hLl _ hl).symm),hL _ hl,ih]; simp
 | @ray x r c hc hx hr ih=>rw [aT _ _ _ ((hx.length hLl hRl).trans (hRl _ hr).symm),hR _ hr,ih]; simp
 | @div x k hk h _ ih =>
  rw [dot_scl] at ih;rcases VB.1 ih with h | h
  ·omega
  ·exact h
def Spn.smul (hL:∀ l,L l->l.length=d) {x:V} (h:Spn d L x):∀ k:Int,Spn d L (scl k x):=by
 induction h with
 | zero =>
  intro k
  have:scl k (lc d)=lc d:=aL (by simp [scl,lc]) fun i=>by rw [aB,ii]; simp
  rw [this]; exact .zero
 | @line x l c hx hl ih =>
  intro k;have h1:=hx.length hL (fun r h=>h.elim);have h2:=hL _ hl
  have:scl k (mix 1 x c l)=mix 1 (scl k x) (k*c) l:=aL (by rw [ah (mix_length h1 h2),mix_length (ah h1) h2]) fun i=>by
   rw [aB,at_mix (h1.trans h2.symm),at_mix ((ah h1).trans h2.symm),aB]; grind
  rw [this]; exact .line _ (ih k) hl
 | ray c hc hx hr ih=>exact hr.elim
 | @div x j hj h hx ih =>
  intro k;refine .div j hj (ah h) ?_
  have:scl j (scl k x)=scl k (scl j x):=aL (by rw [ah (ah h),ah (ah h)]) fun i=>by
   rw [aB,aB,aB,aB]; grind
  rw [this]; exact ih k
def Spn.sum2 (hL:∀ l,L l->l.length=d) {x y:V} (hx:Spn d L x) (hy:Spn d L y) (m n:Int):Spn d L (mix m x n y):=by
 have h1:=hx.length hL (fun r h=>h.elim);have h2:=hy.length hL (fun r h=>h.elim)
 have:mix m x n y=mix 1 (scl m x) 1 (scl n y):=aL (by rw [mix_length h1 h2,mix_length (ah h1) (ah h2)]) fun i=>by
  rw [at_mix (h1.trans h2.symm),at_mix ((ah h1).trans (ah h2).symm),aB,aB]; grind
 rw [this];exact (Spn.smul hL hy n).add hL (fun r h=>h.elim) _ (Spn.smul hL hx m)
end
structure Keep (d:Nat) (E I:V->Prop) (x:V):Prop where
 len:x.length=d
 eq:∀ e,E e->dot e x=0
 ge:∀ i,I i->0<=dot i x
structure DD (d:Nat) (E I:V->Prop) (L:V->Prop) (R:List V):Prop where
 lenL:∀ l,L l->l.length=d
 lineE:∀ l,L l->∀ e,E e->dot e l=0
 lineI:∀ l,L l->∀ i,I i->dot i l=0
 lines:∀ x,x.length=d->(∀ e,E e->dot e x=0)->(∀ i,I i->dot i x=0)->Spn d L x
 keep:∀ r∈R,Keep d E I r
 all:∀ x,Keep d E I x->Con d L (· ∈ R) x
 off:∀ r∈R,∃ i,I i/\dot i r≠0
 ext:∀ r∈R,∀ y,Keep d E I y->(∀ i,I i->dot i r=0->dot i y=0)->∃ k c:Int,0<k/\0<=c/\Spn d L (mix k y (-c) r)
 apart:R.Pairwise fun r s=>¬ ∀ i,I i->(dot i r=0 ↔ dot i s=0)
section
variable {d:Nat} {E I L:V->Prop} {R:List V}
def Keep.add {x y:V} (hx:Keep d E I x) (hy:Keep d E I y) {m n:Int} (hm:0<=m) (hn:0<=n):Keep d E I (mix m x n y):=by
 refine ⟨mix_length hx.len hy.len,fun e he=>?_,fun i hi=>?_⟩
 ·rw [aT _ _ _ (hx.len.trans hy.len.symm),hx.eq e he,hy.eq e he]; simp
 ·rw [aT _ _ _ (hx.len.trans hy.len.symm)]
  have:=VS hm (hx.ge i hi)
  have:=VS hn (hy.ge i hi)
  omega
def DD.lenR (h:DD d E I L R):∀ r,r∈R->r.length=d:=fun r hr=>(h.keep r hr).len
def DD.con_keep (h:DD d E I L R) {x:V} (hx:Con d L (· ∈ R) x):Keep d E I x :=
 ⟨hx.length h.lenL h.lenR,fun e he=>hx.dot_zero h.lenL h.lenR (fun l hl=>h.lineE l hl e he) (fun r hr=>(h.keep r hr).eq e he),
  fun i hi=>hx.dot_nonneg h.lenL h.lenR (fun l hl=>h.lineI l hl i hi) (fun r hr=>(h.keep r hr).ge i hi)⟩
def DD.face (h:DD d E I L R) {S:V->Prop} (hS:∀ i,S i->I i) {x:V} (hx:Con d L (· ∈ R) x) (hz:∀ i,S i->dot i x=0):Con d L (fun r=>r∈R/\∀ i,S i->dot i r=0) x:=by
 induction hx with
 | zero=>exact .zero
 | @line x l c hx hl ih =>
  refine .line c (ih fun i hi=>?_) hl
  have:=hz i hi
  rw [aT _ _ _ ((hx.length h.lenL h.lenR).trans (h.lenL _ hl).symm),h.lineI l hl i (hS i hi)] at this
  simpa using this
 | @ray x r c hc hx hr ih =>
  have key:∀ i,S i->dot i x=0/\(0<c->dot i r=0):=fun i hi=>by
   have:=hz i hi
   rw [aT _ _ _ ((hx.length h.lenL h.lenR).trans (h.lenR _ hr).symm)] at this;have h1:=(h.con_keep hx).ge i (hS i hi);have h2:=(h.keep r hr).ge i (hS i hi);have h3:=VS hc h2;refine ⟨zO,fun hc0=>?_⟩;have h4:c*dot i r=0:=zO;rcases VB.1 h4 with h5 | h5
   ·omega
   ·exact h5
  by_cases hc0:c=0
  ·subst hc0;have e:mix 1 x 0 r=x:=aL (by rw [mix_length (hx.length h.lenL h.lenR) (h.lenR _ hr),hx.length h.lenL h.lenR]) fun i=>by
    rw [at_mix ((hx.length h.lenL h.lenR).trans (h.lenR _ hr).symm)]; grind
   rw [e]; exact ih fun i hi=>(key i hi).1
  ·exact .ray c hc (ih fun i hi=>(key i hi).1) ⟨hr,fun i hi=>(key i hi).2 zO⟩
 | @div x k hk hl hx ih =>
  refine .div k hk hl (ih fun i hi=>?_);rw [dot_scl,hz i hi]; simp
def DD.same (h:DD d E I L R) {i j:Nat} {r s:V} (hi:R[i]? = some r) (hj:R[j]? = some s) (hs:∀ a,I a->(dot a r=0 ↔ dot a s=0)):i=j:=by
 rcases XM i j with hlt | heq | hlt
 ·exfalso
  obtain ⟨hi',rfl⟩:=Vm.1 hi;obtain ⟨hj',rfl⟩:=Vm.1 hj;exact VX.1 h.apart i j hi' hj' hlt hs
 ·exact heq
 ·exfalso
  obtain ⟨hi',rfl⟩:=Vm.1 hi;obtain ⟨hj',rfl⟩:=Vm.1 hj;exact VX.1 h.apart j i hj' hi' hlt fun a ha=>(hs a ha).symm
def DD.lin_of (h:DD d E I L R) {x:V} (hx:Keep d E I x) (hz:∀ i,I i->dot i x=0):Spn d L x:=h.lines x hx.len hx.eq hz
end
def AP:∀ (l:List V) (u v:V->Int),(∃ i∈l,0<v i)->∃ i∈l,0<v i/\∀ j∈l,0<v j->u i*v j<=u j*v i
 | [],u,v,h=>by obtain ⟨i,hi,_⟩:=h; cases hi
 | a :: l,u,v,h=>by
  by_cases hl:∃ i∈l,0<v i
  ·obtain ⟨i,hi,hv,hm⟩:=AP l u v hl;by_cases ha:0<v a/\u a*v i<u i*v a
   ·refine ⟨a,Vh ..,ha.1,fun j hj hvj=>?_⟩;rcases VA.1 hj with rfl | hj
    ·exact Xi _
    ·have h1:=hm j hj hvj;have h2:u a*v i*v j<=u i*v a*v j:=YP zO zO;have h3:u i*v j*v a<=u j*v i*v a:=YP h1 zO;have h4:(u a*v j)*v i<=(u j*v a)*v i:=by
      have e1:u a*v j*v i=u a*v i*v j:=by grind
      have e2:u j*v a*v i=u j*v i*v a:=by grind
      have e3:u i*v a*v j=u i*v j*v a:=by grind
      rw [e1,e2]; rw [e3] at h2; exact Int.le_trans h2 h3
     exact Int.le_of_mul_le_mul_right h4 hv
   ·refine ⟨i,Vd _ hi,hv,fun j hj hvj=>?_⟩;rcases VA.1 hj with rfl | hj
    ·exact Int.not_lt.1 fun hlt=>ha ⟨hvj,hlt⟩
    ·exact hm j hj hvj
  ·obtain ⟨i,hi,hv⟩:=h;rcases VA.1 hi with rfl | hi
   ·refine ⟨i,Vh ..,hv,fun j hj hvj=>?_⟩;rcases VA.1 hj with rfl | hj
    ·exact Xi _
    ·exact absurd ⟨j,hj,hvj⟩ hl
   ·exact absurd ⟨i,hi,hv⟩ hl
def qQ (l:List V) (x:V):Nat:=(l.filter fun i=>!decide (dot i x=0)).length
def DX {l:List V} {x y:V} (h:∀ i∈l,dot i x=0->dot i y=0):qQ l y<=qQ l x:=by
 unfold qQ
 induction l with
 | nil=>simp
 | cons a l ih =>
  have ih:=ih fun i hi=>h i (Vd _ hi);have ha:=h a (Vh ..);simp only [Xg];by_cases hx:dot a x=0
  ·simp [hx,ha hx]; exact ih
  ·by_cases hy:dot a y=0
   ·simp [hx,hy]; omega
   ·simp [hx,hy]; exact ih
def Js {l:List V} {x y:V} (h:∀ i∈l,dot i x=0->dot i y=0) {b:V} (hb:b∈l) (hx:dot b x≠0) (hy:dot b y=0):qQ l y<qQ l x:=by
 unfold qQ
 induction l with
 | nil=>cases hb
 | cons a l ih =>
  have h':=fun i hi=>h i (Vd _ hi);have ha:=h a (Vh ..);simp only [Xg];rcases VA.1 hb with rfl | hb
  ·have:=DX h'
   unfold qQ at this;simp [hx,hy]; omega
  ·have ih:=ih h' hb;by_cases hxa:dot a x=0
   ·simp [hxa,ha hxa]; exact ih
   ·by_cases hya:dot a y=0
    ·simp [hxa,hya]; omega
    ·simp [hxa,hya]; exact ih
section
variable {d:Nat} {E L:V->Prop} {R:List V} {l:List V} {a:V}
def oF {x m:V} (hx:Keep d E (· ∈ l) x) (hm:Keep d E (· ∈ l) m) (hsub:∀ i∈l,dot i x=0->dot i m=0) (hne:∃ i∈l,dot i m≠0) :
  ∃ b∈l,0<dot b m/\0<dot b x/\Keep d E (· ∈ l) (mix (dot b m) x (-(dot b x)) m)/\qQ l (mix (dot b m) x (-(dot b x)) m)<qQ l x/\∀ j∈l,0<dot j m->dot b x*dot j m<=dot j x*dot b m:=by
 obtain ⟨i0,hi0,hn0⟩:=hne;have h0:=hm.ge i0 hi0;obtain ⟨b,hb,hbm,hmin⟩:=AP l (fun i=>dot i x) (fun i=>dot i m) ⟨i0,hi0,zO⟩;have hbx:0<dot b x:=by
  have h1:=hx.ge b hb;have h2:dot b x≠0:=fun e=>by have:=hsub b hb e; omega
  omega
 have hlen:=hx.len.trans hm.len.symm;have hdot:∀ c,dot c (mix (dot b m) x (-(dot b x)) m)=dot b m*dot c x-dot b x*dot c m:=fun c=>by rw [aT _ _ _ hlen]; grind
 refine ⟨b,hb,hbm,hbx,⟨mix_length hx.len hm.len,fun e he=>by rw [hdot,hx.eq e he,hm.eq e he]; simp,fun j hj=>?_⟩,Js (fun j hj hz=>by rw [hdot,hz,hsub j hj hz]; simp) hb zO (by rw [hdot]; grind),hmin⟩;rw [hdot];by_cases hj0:0<dot j m
 ·have:=hmin j hj hj0
  have e:dot b m*dot j x=dot j x*dot b m:=Int.mul_comm _ _;omega
 ·have h1:=hm.ge j hj;have h2:dot j m=0:=zO;have h3:=VS (W5 hbm) (hx.ge j hj);rw [h2]; simpa using h3
def ee:∀ (c x:V) (m:Int),dot (scl m c) x=m*dot c x:=fun c x m=>by rw [dot_comm,dot_scl,dot_comm]
def Con.face1 {L' R':V->Prop} (hLl:∀ l,L' l->l.length=d) (hRl:∀ r,R' r->r.length=d) (hL:∀ l,L' l->dot a l=0) (hR:∀ r,R' r->0<=dot a r) {x:V} (hx:Con d L' R' x) (hz:dot a x=0):Con d L' (fun r=>R' r/\dot a r=0) x:=by
 induction hx with
 | zero=>exact .zero
 | @line x l c hx hl ih =>
  refine .line c (ih ?_) hl;rw [aT _ _ _ ((hx.length hLl hRl).trans (hLl _ hl).symm),hL l hl] at hz
  simpa using hz
 | @ray x r c hc hx hr ih =>
  rw [aT _ _ _ ((hx.length hLl hRl).trans (hRl _ hr).symm)] at hz;have h1:=hx.dot_nonneg hLl hRl hL hR;have h2:=VS hc (hR r hr);by_cases hc0:c=0
  ·subst hc0;have e:mix 1 x 0 r=x:=aL (by rw [mix_length (hx.length hLl hRl) (hRl _ hr),hx.length hLl hRl]) fun i=>by
    rw [at_mix ((hx.length hLl hRl).trans (hRl _ hr).symm)]; grind
   rw [e]; exact ih zO
  ·refine .ray c hc (ih zO) ⟨hr,?_⟩;have h4:c*dot a r=0:=zO;rcases VB.1 h4 with h5 | h5
   ·omega
   ·exact h5
 | @div x k hk hl hx ih =>
  refine .div k hk hl (ih ?_);rw [dot_scl,hz]; simp
def mx (a p n:V):V:=mix (-(dot a n)) p (dot a p) n
variable {Rn:V->Prop} {k:Nat}
def rF (hLl:∀ l,L l->l.length=d) (hRl:∀ r,Rn r->r.length=d) {x m:V} (hx:x.length=d) {α β:Int} (hα:0<α) (hβ:0<=β) (hy:Con d L Rn (mix α x (-β) m)) (hm:Con d L Rn m):Con d L Rn x:=by
 have hml:=hm.length hLl hRl;refine .div α hα hx ?_;have e:scl α x=mix 1 (mix α x (-β) m) β m:=aL (by rw [ah hx,mix_length (mix_length hx hml) hml]) fun i=>by
  rw [aB,at_mix ((mix_length hx hml).trans hml.symm),at_mix (hx.trans hml.symm)]; grind
 rw [e];exact hy.sum2 hLl hRl hm zO hβ
def Jb (h:DD d E (· ∈ l) L R) (hRl:∀ r,Rn r->r.length=d) (IH:∀ y,Keep d E (· ∈ l) y->dot a y=0->qQ l y<k->Con d L Rn y) {m m':V} (hm:Keep d E (· ∈ l) m) (hm':Keep d E (· ∈ l) m')
  (ha:dot a m=0) (ha':dot a m'=0) (hsub:∀ b∈l,dot b m=0->dot b m'=0) (hoff:∃ b∈l,dot b m'≠0) (hk:qQ l m<=k) (hno:∀ α β:Int,0<α->0<β->¬ Spn d L (mix α m (-β) m')):Con d L Rn m:=by
 have hlen:=hm.len.trans hm'.len.symm;obtain ⟨b0,hb0,hα,hβ,hy,hyo,hmin⟩:=oF hm hm' hsub hoff;have hay:dot a (mix (dot b0 m') m (-(dot b0 m)) m')=0:=by rw [aT _ _ _ hlen,ha,ha']; simp
 have hcy:=IH _ hy hay zO;by_cases hlt:qQ l m'<k
 ·exact rF h.lenL hRl hm.len hα zO hcy (IH m' hm' ha' hlt)
 ·have hsub':∀ b∈l,dot b m'=0->dot b m=0:=fun b hb hz=>by
   by_cases hbm:dot b m=0
   ·exact hbm
   ·have:=Js hsub hb hbm hz
    omega
  have hoff':∃ b∈l,dot b m≠0:=by
   obtain ⟨b,hb,hn⟩:=hoff;exact ⟨b,hb,fun e=>hn (hsub b hb e)⟩
  obtain ⟨b1,hb1,hα',hβ',hy',hyo',-⟩:=oF hm' hm hsub' hoff';have hay':dot a (mix (dot b1 m) m' (-(dot b1 m')) m)=0:=by rw [aT _ _ _ hlen.symm,ha,ha']; simp
  have hcy':=IH _ hy' hay' (by have:=DX hsub; omega);have hle:=hmin b1 hb1 hβ';by_cases heq:dot b0 m*dot b1 m'=dot b1 m*dot b0 m'
  ·exfalso
   refine hno (dot b0 m') (dot b0 m) hα hβ (h.lin_of hy fun i hi=>?_);have g1:=hy.ge i hi;have g2:=hy'.ge i hi;rw [aT _ _ _ hlen] at g1 ⊢;rw [aT _ _ _ hlen.symm] at g2;have e:dot b1 m*(dot b0 m'*dot i m + -(dot b0 m)*dot i m')+dot b0 m*(dot b1 m*dot i m' + -(dot b1 m')*dot i m)=0:=by grind
   have p1:=VS (W5 hα') g1;have p2:=VS (W5 hβ) g2;have p3:dot b1 m*(dot b0 m'*dot i m + -(dot b0 m)*dot i m')=0:=zO;rcases VB.1 p3 with p4 | p4
   ·omega
   ·exact p4
  ·refine .div (dot b1 m*dot b0 m'-dot b0 m*dot b1 m') zO hm.len ?_;have e:scl (dot b1 m*dot b0 m'-dot b0 m*dot b1 m') m=mix (dot b1 m) (mix (dot b0 m') m (-(dot b0 m)) m') (dot b0 m) (mix (dot b1 m) m' (-(dot b1 m')) m) :=
    aL (by rw [ah hm.len,mix_length (mix_length hm.len hm'.len) (mix_length hm'.len hm.len)]) fun i=>by
     rw [aB,at_mix ((mix_length hm.len hm'.len).trans (mix_length hm'.len hm.len).symm),at_mix hlen,at_mix hlen.symm]; grind
   rw [e];exact hcy.sum2 h.lenL hRl hcy' zO zO
def DD.sub_same (h:DD d E (· ∈ l) L R) {i j:Nat} {p q:V} (hi:R[i]? = some p) (hj:R[j]? = some q) (hs:∀ b∈l,dot b p=0->dot b q=0):i=j:=by
 have hp:=Vo hi;have hq:=Vo hj;obtain ⟨k,c,hk,hc,hsp⟩:=h.ext p hp q (h.keep q hq) hs;refine h.same hi hj fun b hb=>⟨hs b hb,fun hz=>?_⟩
 have key:∀ b∈l,k*dot b q=c*dot b p:=fun b hb=>by
  have:=Con.dot_zero (a:=b) h.lenL (fun r h=>h.elim) (fun x hx=>h.lineI x hx b hb) (fun r h=>h.elim) hsp
  rw [aT _ _ _ ((h.keep q hq).len.trans (h.keep p hp).len.symm),YT] at this;omega
 have hc0:c≠0:=fun e=>by
  obtain ⟨b',hb',hn⟩:=h.off q hq
  have:=key b' hb'
  rw [e] at this;rcases VB.1 (show k*dot b' q=0 by omega) with h1 | h1
  ·omega
  ·exact hn h1
 have:=key b hb
 rw [hz] at this;rcases VB.1 (show c*dot b p=0 by omega) with h1 | h1
 ·exact absurd h1 hc0
 ·exact h1
def DD.three (h:DD d E (· ∈ l) L R) {i j:Nat} {p q n:V} (hi:R[i]? = some p) (hj:R[j]? = some q) (hn:n∈R) {u v w:Int} (hu:0<u) (hv:0<v) (hw:0<=w) (hs:∀ b∈l,u*dot b p=v*dot b q+w*dot b n):i=j:=by
 refine h.sub_same hi hj fun b hb hz=>?_;have e:=hs b hb;rw [hz] at e;have g1:=VS (W5 hv) ((h.keep q (Vo hj)).ge b hb);have g2:=VS hw ((h.keep n hn).ge b hb);rcases VB.1 (show v*dot b q=0 by omega) with h1 | h1
 ·omega
 ·exact h1
def fo {p n:V} (hp:Keep d E (· ∈ l) p) (hn:Keep d E (· ∈ l) n) (h1:0<dot a p) (h2:dot a n<0):Keep d E (· ∈ l) (mx a p n):=hp.add hn zO zO
def xu {p n:V} (hp:p.length=d) (hn:n.length=d) (c:V):dot c (mx a p n) = -(dot a n)*dot c p+dot a p*dot c n:=aT _ _ _ (hp.trans hn.symm)
def pQ {p n:V} (hp:p.length=d) (hn:n.length=d):dot a (mx a p n)=0:=by rw [xu hp hn]; grind
def mD {p n:V} (hp:Keep d E (· ∈ l) p) (hn:Keep d E (· ∈ l) n) (h1:0<dot a p) (h2:dot a n<0) {b:V} (hb:b∈l):dot b (mx a p n)=0 ↔ dot b p=0/\dot b n=0:=by
 rw [xu hp.len hn.len];have g1:=VS (show 0 <= -(dot a n) by omega) (hp.ge b hb);have g2:=VS (W5 h1) (hn.ge b hb);constructor
 ·intro e;constructor
  ·rcases VB.1 (show -(dot a n)*dot b p=0 by omega) with h | h
   ·omega
   ·exact h
  ·rcases VB.1 (show dot a p*dot b n=0 by omega) with h | h
   ·omega
   ·exact h
 ·rintro ⟨e1,e2⟩;rw [e1,e2]; simp
def GU (l:List V) (R:List V) (i j:Nat) (p n:V):Prop:=∀ (t:Nat) (q:V),R[t]? = some q->t≠i->t≠j->¬ ∀ b∈l,dot b p=0->dot b n=0->dot b q=0
def Qq (h:DD d E (· ∈ l) L R) (hal:∀ x,L x->dot a x=0) (hRl:∀ r,Rn r->r.length=d) (hz:∀ r∈R,dot a r=0->Rn r)
  (hmx:∀ i j p n,R[i]? = some p->R[j]? = some n->0<dot a p->dot a n<0->GU l R i j p n->Con d L Rn (mx a p n))
  (IH:∀ y,Keep d E (· ∈ l) y->dot a y=0->qQ l y<k->Con d L Rn y) {i j:Nat} {p n:V} (hi:R[i]? = some p) (hj:R[j]? = some n) (h1:0<dot a p) (h2:dot a n<0) (hk:qQ l (mx a p n)<=k):Con d L Rn (mx a p n):=by
 have hp:=h.keep p (Vo hi);have hn:=h.keep n (Vo hj);by_cases hnear:GU l R i j p n
 ·exact hmx i j p n hi hj h1 h2 hnear
 ·have ⟨t,q,ht,hti,htj,hq⟩:∃ t q,R[t]? = some q/\t≠i/\t≠j/\∀ b∈l,dot b p=0->dot b n=0->dot b q=0:=by
   apply VP
   intro hno;exact hnear fun t q ht h1 h2 h3=>hno ⟨t,q,ht,h1,h2,h3⟩
  have hqm:=Vo ht;have hqk:=h.keep q hqm;have hsubq:∀ b∈l,dot b (mx a p n)=0->dot b q=0:=fun b hb hz=>by
   obtain ⟨e1,e2⟩:=(mD hp hn h1 h2 hb).1 hz;exact hq b hb e1 e2
  rcases Int.lt_trichotomy (dot a q) 0 with hq0 | hq0 | hq0
  ·
   refine Jb (m':=mx a p q) h hRl IH (fo hp hn h1 h2) (fo hp hqk h1 hq0) (pQ hp.len hn.len) (pQ hp.len hqk.len) (fun b hb hz=>?_) ?_ hk (fun α β hα hβ hsp=>?_)
   ·exact (mD hp hqk h1 hq0 hb).2 ⟨((mD hp hn h1 h2 hb).1 hz).1,hsubq b hb hz⟩
   ·obtain ⟨b,hb,hbn⟩:=h.off q hqm;exact ⟨b,hb,fun e=>hbn ((mD hp hqk h1 hq0 hb).1 e).2⟩
   ·have key:∀ b∈l,α*(-(dot a n)*dot b p+dot a p*dot b n)=β*(-(dot a q)*dot b p+dot a p*dot b q):=fun b hb=>by
     have:=Con.dot_zero (a:=b) h.lenL (fun r h=>h.elim) (fun x hx=>h.lineI x hx b hb) (fun r h=>h.elim) hsp
     rw [aT _ _ _ ((fo hp hn h1 h2).len.trans (fo hp hqk h1 hq0).len.symm),xu hp.len hn.len,xu hp.len hqk.len] at this
     grind
    by_cases hg:0<=α*(-(dot a n))-β*(-(dot a q))
    ·
     have:=h.three ht hj (Vo hi) (u:=β*dot a p) (v:=α*dot a p) (w:=α*(-(dot a n))-β*(-(dot a q))) (WN hβ h1) (WN hα h1) hg (fun b hb=>by have:=key b hb; grind)
     exact htj this
    ·have:=h.three hj ht (Vo hi) (u:=α*dot a p) (v:=β*dot a p) (w:=β*(-(dot a q))-α*(-(dot a n))) (WN hα h1) (WN hβ h1) zO (fun b hb=>by have:=key b hb; grind)
     exact htj this.symm
  ·
   obtain ⟨b0,hb0,hα,hβ,hy,hyo,-⟩:=oF (fo hp hn h1 h2) hqk hsubq (h.off q hqm);have hay:dot a (mix (dot b0 q) (mx a p n) (-(dot b0 (mx a p n))) q)=0:=by
    rw [aT _ _ _ ((fo hp hn h1 h2).len.trans hqk.len.symm),pQ hp.len hn.len,hq0]; simp
   exact rF h.lenL hRl (fo hp hn h1 h2).len hα zO (IH _ hy hay zO) (Con.of_ray hqk.len (hz q hqm hq0))
  ·
   refine Jb (m':=mx a q n) h hRl IH (fo hp hn h1 h2) (fo hqk hn hq0 h2) (pQ hp.len hn.len) (pQ hqk.len hn.len) (fun b hb hz=>?_) ?_ hk (fun α β hα hβ hsp=>?_)
   ·exact (mD hqk hn hq0 h2 hb).2 ⟨hsubq b hb hz,((mD hp hn h1 h2 hb).1 hz).2⟩
   ·obtain ⟨b,hb,hbn⟩:=h.off q hqm;exact ⟨b,hb,fun e=>hbn ((mD hqk hn hq0 h2 hb).1 e).1⟩
   ·have key:∀ b∈l,α*(-(dot a n)*dot b p+dot a p*dot b n)=β*(-(dot a n)*dot b q+dot a q*dot b n):=fun b hb=>by
     have:=Con.dot_zero (a:=b) h.lenL (fun r h=>h.elim) (fun x hx=>h.lineI x hx b hb) (fun r h=>h.elim) hsp
     rw [aT _ _ _ ((fo hp hn h1 h2).len.trans (fo hqk hn hq0 h2).len.symm),xu hp.len hn.len,xu hqk.len hn.len] at this
     grind
    by_cases hg:0<=β*dot a q-α*dot a p
    ·have:=h.three hi ht (Vo hj) (u:=α*(-(dot a n))) (v:=β*(-(dot a n))) (w:=β*dot a q-α*dot a p) (WN hα zO) (WN hβ zO) hg (fun b hb=>by have:=key b hb; grind)
     exact hti this.symm
    ·have:=h.three ht hi (Vo hj) (u:=β*(-(dot a n))) (v:=α*(-(dot a n))) (w:=α*dot a p-β*dot a q) (WN hβ zO) (WN hα zO) zO (fun b hb=>by have:=key b hb; grind)
     exact hti this
def Gg (h:DD d E (· ∈ l) L R) (hal:∀ x,L x->dot a x=0) (hRl:∀ r,Rn r->r.length=d) (hz:∀ r∈R,dot a r=0->Rn r)
  (hmx:∀ i j p n,R[i]? = some p->R[j]? = some n->0<dot a p->dot a n<0->GU l R i j p n->Con d L Rn (mx a p n)) :
  ∀ (k:Nat) (x:V),qQ l x=k->Keep d E (· ∈ l) x->dot a x=0->Con d L Rn x:=by
 intro k
 induction k using Nat.strongRecOn with
 | _ k ih =>
  intro x hk hx hax;have IH:∀ y,Keep d E (· ∈ l) y->dot a y=0->qQ l y<k->Con d L Rn y:=fun y hy hay hlt=>ih _ hlt y rfl hy hay;have hf:=h.face (S:=fun i=>i∈l/\dot i x=0) (fun i hi=>hi.1) (h.all x hx) (fun i hi=>hi.2);have hJl:∀ r,(r∈R/\∀ i,(i∈l/\dot i x=0)->dot i r=0)->r.length=d:=fun r hr=>h.lenR r hr.1;by_cases hp:∃ p,p∈R/\(∀ i,(i∈l/\dot i x=0)->dot i p=0)/\0<dot a p
  ·by_cases hn:∃ n,n∈R/\(∀ i,(i∈l/\dot i x=0)->dot i n=0)/\dot a n<0
   ·obtain ⟨p,hpR,hpJ,hp0⟩:=hp;obtain ⟨n,hnR,hnJ,hn0⟩:=hn;obtain ⟨i,hi⟩:=VN hpR;obtain ⟨j,hj⟩:=VN hnR;have hpk:=h.keep p hpR;have hnk:=h.keep n hnR;have hsub:∀ b∈l,dot b x=0->dot b (mx a p n)=0:=fun b hb hbx=>(mD hpk hnk hp0 hn0 hb).2 ⟨hpJ b ⟨hb,hbx⟩,hnJ b ⟨hb,hbx⟩⟩;have hm:=Qq h hal hRl hz hmx IH hi hj hp0 hn0 (by have:=DX hsub; omega);obtain ⟨b0,hb0,hα,hβ,hy,hyo,-⟩:=oF hx (fo hpk hnk hp0 hn0) hsub (by
     obtain ⟨b,hb,hbn⟩:=h.off p hpR;exact ⟨b,hb,fun e=>hbn ((mD hpk hnk hp0 hn0 hb).1 e).1⟩)
    have hay:dot a (mix (dot b0 (mx a p n)) x (-(dot b0 x)) (mx a p n))=0:=by
     rw [aT _ _ _ (hx.len.trans (fo hpk hnk hp0 hn0).len.symm),hax,pQ hpk.len hnk.len]; simp
    exact rF h.lenL hRl hx.len hα zO (IH _ hy hay zO) hm
   ·have:=Con.face1 (a:=a) h.lenL hJl (fun x hx=>hal x hx) (fun r hr=>Int.not_lt.1 fun hlt=>hn ⟨r,hr.1,hr.2,hlt⟩) hf hax
    exact this.mono (fun _ h=>h) fun r hr=>hz r hr.1.1 hr.2
  ·have:=Con.face1 (a:=scl (-1) a) h.lenL hJl (fun x hx=>by rw [ee,hal x hx]; simp) (fun r hr=>by
    rw [ee]
    have:¬ 0<dot a r:=fun hlt=>hp ⟨r,hr.1,hr.2,hlt⟩
    omega) hf (by rw [ee,hax]; simp)
   refine this.mono (fun _ h=>h) fun r hr=>hz r hr.1.1 ?_
   have:=hr.2
   rw [ee] at this;omega
def QM (h:DD d E (· ∈ l) L R) (hal:∀ x,L x->dot a x=0) (hRl:∀ r,Rn r->r.length=d) (hz:∀ r∈R,0<=dot a r->Rn r)
  (hmx:∀ i j p n,R[i]? = some p->R[j]? = some n->0<dot a p->dot a n<0->GU l R i j p n->Con d L Rn (mx a p n)) :
  ∀ (k:Nat) (x:V),qQ l x=k->Keep d E (· ∈ l) x->0<=dot a x->Con d L Rn x:=by
 have hzero:=Gg h hal hRl (fun r hr e=>hz r hr zO) hmx;intro k
 induction k using Nat.strongRecOn with
 | _ k ih =>
  intro x hk hx hax;by_cases hax0:dot a x=0
  ·exact hzero _ x rfl hx hax0
  ·have hf:=h.face (S:=fun i=>i∈l/\dot i x=0) (fun i hi=>hi.1) (h.all x hx) (fun i hi=>hi.2);have hJl:∀ r,(r∈R/\∀ i,(i∈l/\dot i x=0)->dot i r=0)->r.length=d:=fun r hr=>h.lenR r hr.1;obtain ⟨p,hpR,hpJ,hp0⟩:∃ p,p∈R/\(∀ i,(i∈l/\dot i x=0)->dot i p=0)/\0<dot a p:=by
    by_cases hp:∃ p,p∈R/\(∀ i,(i∈l/\dot i x=0)->dot i p=0)/\0<dot a p
    ·exact hp
    ·exfalso
     have:=Con.dot_nonneg (a:=scl (-1) a) h.lenL hJl (fun x hx=>by rw [ee,hal x hx]; simp) (fun r hr=>by
      rw [ee]
      have:¬ 0<dot a r:=fun hlt=>hp ⟨r,hr.1,hr.2,hlt⟩
      omega) hf
     rw [ee] at this;omega
   have hpk:=h.keep p hpR;obtain ⟨b0,hb0,hα,hβ,hy,hyo,-⟩:=oF hx hpk (fun b hb e=>hpJ b ⟨hb,e⟩) (h.off p hpR);have hlen:=hx.len.trans hpk.len.symm;have hcp:Con d L Rn p:=Con.of_ray hpk.len (hz p hpR zO);by_cases hay:0<=dot a (mix (dot b0 p) x (-(dot b0 x)) p)
   ·exact rF h.lenL hRl hx.len hα zO (ih _ zO _ rfl hy hay) hcp
   ·
    have hd:∀ c,dot c (mix (dot a p) x (-(dot a x)) p)=dot a p*dot c x-dot a x*dot c p:=fun c=>by rw [aT _ _ _ hlen]; grind
    have hy2:Keep d E (· ∈ l) (mix (dot a p) x (-(dot a x)) p):=by
     refine ⟨mix_length hx.len hpk.len,fun e he=>by rw [hd,hx.eq e he,hpk.eq e he]; simp,fun j hj=>?_⟩;rw [hd];have g:=hy.ge j hj;rw [aT _ _ _ hlen] at g hay;have gx:=hx.ge j hj;have gp:=hpk.ge j hj;have e1:dot b0 p*(dot a p*dot j x-dot a x*dot j p)=dot a p*(dot b0 p*dot j x + -(dot b0 x)*dot j p)+dot j p * -(dot b0 p*dot a x + -(dot b0 x)*dot a p):=by grind
     have e2:=VS (W5 hp0) g;have e3:=VS gp (show 0 <= -(dot b0 p*dot a x + -(dot b0 x)*dot a p) by omega);refine W7 (a:=dot b0 p) ?_ hα;omega
    exact rF h.lenL hRl hx.len hp0 hax (hzero _ _ rfl hy2 (by rw [hd]; grind)) hcp
end
def content (x:V):Nat:=x.foldl (fun g a=>Nat.gcd g a.natAbs) 0
def prime (x:V):V:=if content x=0 then x else x.map (fun a=>a / (content x:Int))
def Bc:∀ (x:V) (g:Nat),(x.foldl (fun g a=>Nat.gcd g a.natAbs) g) ∣ g/\∀ a∈x,((x.foldl (fun g a=>Nat.gcd g a.natAbs) g:Nat):Int) ∣ a
 | [],g=>⟨Nat.dvd_refl _,fun a h=>by cases h⟩
 | b :: x,g=>by
  obtain ⟨h1,h2⟩:=Bc x (Nat.gcd g b.natAbs);simp only [WQ];refine ⟨Nat.dvd_trans h1 (Nat.gcd_dvd_left _ _),fun a ha=>?_⟩;rcases VA.1 ha with rfl | ha
  ·exact Ys.2 (Nat.dvd_trans h1 (Nat.gcd_dvd_right _ _))
  ·exact h2 a ha
def content_dvd {x:V} {a:Int} (h:a∈x):(content x:Int) ∣ a:=(Bc x 0).2 a h
def prime_length (x:V):(prime x).length=x.length:=by unfold prime; split <;> simp
def uO (x:V):scl 1 x=x:=by
 unfold scl
 conv=>rhs; rw [<- YU x]
 exact WV fun a _=>by simp
def jO (x:V):∃ c:Int,0<c/\scl c (prime x)=x:=by
 by_cases h:content x=0
 ·exact ⟨1,zO,by unfold prime; rw [if_pos h,uO]⟩
 ·refine ⟨(content x:Int),zO,?_⟩;unfold prime scl;rw [if_neg h,Xl]
  conv=>rhs; rw [<- YU x]
  refine WV fun a ha=>?_;exact ZU (content_dvd ha)
section
variable {d:Nat} {E L L' Rn:V->Prop} {R:List V} {l:List V} {a:V}
def Keep.of_scl {I:V->Prop} {c:Int} (hc:0<c) {x:V} (hx:x.length=d) (h:Keep d E I (scl c x)):Keep d E I x:=by
 refine ⟨hx,fun e he=>?_,fun i hi=>?_⟩
 ·have:=h.eq e he
  rw [dot_scl] at this;rcases VB.1 this with h1 | h1
  ·omega
  ·exact h1
 ·have:=h.ge i hi
  rw [dot_scl] at this;exact W7 this hc
def lD {c:Int} (hc:0<c) {b x:V}:dot b (scl c x)=0 ↔ dot b x=0:=by
 rw [dot_scl];constructor
 ·intro h;rcases VB.1 h with h1 | h1
  ·omega
  ·exact h1
 ·intro h; rw [h]; simp
def Con.image {R0:V->Prop} (hLl:∀ x,L x->x.length=d) (hRl:∀ x,R0 x->x.length=d) (hL':∀ x,L' x->x.length=d) (hR':∀ x,Rn x->x.length=d) (f:V->V) (hf0:f (lc d)=lc d)
  (hfm:∀ x y c,x.length=d->y.length=d->f (mix 1 x c y)=mix 1 (f x) c (f y)) (hfs:∀ x c,x.length=d->f (scl c x)=scl c (f x)) (hfl:∀ x,x.length=d->(f x).length=d)
  (h1:∀ x,L x->∀ c:Int,Con d L' Rn (scl c (f x))) (h2:∀ x,R0 x->Con d L' Rn (f x)) {x:V} (hx:Con d L R0 x):Con d L' Rn (f x):=by
 induction hx with
 | zero=>rw [hf0]; exact .zero
 | @line x y c hx hy ih =>
  have l1:=hx.length hLl hRl;have l2:=hLl _ hy;rw [hfm x y c l1 l2];have e:mix 1 (f x) c (f y)=mix 1 (f x) 1 (scl c (f y)):=aL (by rw [mix_length (hfl x l1) (hfl y l2),mix_length (hfl x l1) (ah (hfl y l2))]) fun i=>by
   rw [at_mix ((hfl x l1).trans (hfl y l2).symm),at_mix ((hfl x l1).trans (ah (hfl y l2)).symm),aB]; grind
  rw [e];exact (h1 y hy c).add hL' hR' _ ih
 | @ray x y c hc hx hy ih =>
  rw [hfm x y c (hx.length hLl hRl) (hRl _ hy)];exact ih.sum2 hL' hR' (h2 y hy) zO hc
 | @div x k hk hl hx ih =>
  rw [hfs x k hl] at ih;exact .div k hk (hfl x hl) ih
def mv (a u:V) (x:V):V:=mix (dot a u) x (-(dot a x)) u
def bu {u x:V} (hu:u.length=d) (hx:x.length=d):(mv a u x).length=d:=mix_length hx hu
def xv {u x:V} (hu:u.length=d) (hx:x.length=d) (b:V):dot b (mv a u x)=dot a u*dot b x-dot a x*dot b u:=by
 unfold mv; rw [aT _ _ _ (hx.trans hu.symm)]; grind
def Ie {u:V} (hu:u.length=d):mv a u (lc d)=lc d:=aL (by rw [bu hu (ck d),ck]) fun i=>by
 unfold mv; rw [at_mix ((ck d).trans hu.symm),ii,kg]; simp
def If {u x y:V} {c:Int} (hu:u.length=d) (hx:x.length=d) (hy:y.length=d):mv a u (mix 1 x c y)=mix 1 (mv a u x) c (mv a u y) :=
 aL (by rw [bu hu (mix_length hx hy),mix_length (bu hu hx) (bu hu hy)]) fun i=>by
  rw [at_mix ((bu hu hx).trans (bu hu hy).symm)];unfold mv;rw [at_mix ((mix_length hx hy).trans hu.symm),at_mix (hx.trans hy.symm),at_mix (hx.trans hu.symm),at_mix (hy.trans hu.symm),aT _ _ _ (hx.trans hy.symm)]; grind
def D6 {u x:V} {c:Int} (hu:u.length=d) (hx:x.length=d):mv a u (scl c x)=scl c (mv a u x) :=
 aL (by rw [bu hu (ah hx),ah (bu hu hx)]) fun i=>by
  rw [aB];unfold mv;rw [at_mix ((ah hx).trans hu.symm),aB,at_mix (hx.trans hu.symm),dot_scl]; grind
def Jv {u:V} (hu:u.length=d):mv a u u=lc d:=aL (by rw [bu hu hu,ck]) fun i=>by
 unfold mv; rw [at_mix rfl,ii]; grind
def xw {u x:V} (hu:u.length=d) (hx:x.length=d) (h:dot a x=0):mv a u x=scl (dot a u) x:=aL (by rw [bu hu hx,ah hx]) fun i=>by
 unfold mv; rw [at_mix (hx.trans hu.symm),aB,h]; simp
def foldV (a u:V) (x:V):V:=prime (mv a u x)
def fq {u x:V} (hu:u.length=d) (hx:x.length=d):(foldV a u x).length=d:=by unfold foldV; rw [prime_length]; exact bu hu hx
def lW (u x:V):∃ c:Int,0<c/\scl c (foldV a u x)=mv a u x:=jO _
def QH {L0:V->Prop} {Ls:List V} {u:V} (h:DD d E (· ∈ l) L0 R) (ha:a.length=d) (hL0:∀ x,L0 x->x∈Ls\/∃ s:Int,x=scl s u) (hLs:∀ x∈Ls,L0 x) (hul:u.length=d) (huE:∀ e,E e->dot e u=0) (huI:∀ i∈l,dot i u=0) (hu:0<dot a u) (eq:Bool) :
  DD d (fun e=>E e\/(eq=true/\e=a)) (· ∈ l++(if eq then [] else [a])) (· ∈ Ls.map (foldV a u)) (R.map (foldV a u)++(if eq then [] else [u])):=by
 have lLs:∀ x∈Ls,x.length=d:=fun x hx=>h.lenL x (hLs x hx);have hin:∀ i,i∈l++(if eq then [] else [a]) ↔ i∈l\/(eq=false/\i=a):=fun i=>by cases eq <;> simp
 have hdotF:∀ x,x.length=d->∀ b,(dot b u=0\/b=a)->(dot b (foldV a u x)=0 ↔ b=a\/dot b x=0):=fun x hx b hb=>by
  obtain ⟨c,hc,e⟩:=lW (a:=a) u x;rw [<- lD hc,e,xv hul hx];rcases hb with hb | rfl
  ·rw [hb];constructor
   ·intro h;rcases VB.1 (show dot a u*dot b x=0 by omega) with h1 | h1
    ·omega
    ·exact .inr h1
   ·rintro (rfl | h)
    ·omega
    ·rw [h]; simp
  ·constructor
   ·intro _; exact .inl rfl
   ·intro _; grind
 have hposF:∀ x,x.length=d->∀ b,dot b u=0->0<=dot b x->0<=dot b (foldV a u x):=fun x hx b hb h0=>by
  obtain ⟨c,hc,e⟩:=lW (a:=a) u x
  have:0<=dot b (scl c (foldV a u x)):=by
   rw [e,xv hul hx,hb]
   have:=VS (W5 hu) h0
   omega
  rw [dot_scl] at this;exact W7 this hc
 have lL':∀ x,x∈Ls.map (foldV a u)->x.length=d:=fun x hx=>by
  obtain ⟨y,hy,rfl⟩:=Va.1 hx;exact fq hul (lLs y hy)
 have lR':∀ x,x∈R.map (foldV a u)++(if eq then [] else [u])->x.length=d:=fun x hx=>by
  rcases Vu.1 hx with hx | hx
  ·obtain ⟨y,hy,rfl⟩:=Va.1 hx;exact fq hul (h.lenR y hy)
  ·cases eq
   ·simp at hx; rw [hx]; exact hul
   ·simp at hx
 have lineTo:∀ (Q:V->Prop) x,L0 x->∀ c:Int,Con d (· ∈ Ls.map (foldV a u)) Q (scl c (mv a u x)):=fun Q x hx c=>by
  rcases hL0 x hx with hx | ⟨s,rfl⟩
  ·obtain ⟨c',hc',e⟩:=lW (a:=a) u x;rw [<- e];have e2:scl c (scl c' (foldV a u x))=scl (c*c') (foldV a u x):=aL (by simp [scl]) fun i=>by rw [aB,aB,aB]; grind
   rw [e2];exact Con.of_line (fq hul (lLs x hx)) (WW hx) _
  ·have e:scl c (mv a u (scl s u))=lc d:=by
    rw [D6 hul hul,Jv hul];exact aL (by simp [scl,lc]) fun i=>by rw [aB,aB,ii]; simp
   rw [e]; exact .zero
 have spnTo:∀ {x},Spn d L0 x->Spn d (· ∈ Ls.map (foldV a u)) (mv a u x):=fun hx =>
  Con.image h.lenL (fun r h=>h.elim) lL' (fun r h=>h.elim) (mv a u) (Ie hul) (fun x y c hx hy=>If hul hx hy) (fun x c hx=>D6 hul hx) (fun x hx=>bu hul hx) (lineTo _) (fun r h=>h.elim) hx
 have conTo:∀ {x},Con d L0 (· ∈ R) x->Con d (· ∈ Ls.map (foldV a u)) (· ∈ R.map (foldV a u)++(if eq then [] else [u])) (mv a u x):=fun hx =>
  Con.image h.lenL h.lenR lL' lR' (mv a u) (Ie hul) (fun x y c hx hy=>If hul hx hy) (fun x c hx=>D6 hul hx) (fun x hx=>bu hul hx) (lineTo _) (fun r hr=>by
   obtain ⟨c',hc',e⟩:=lW (a:=a) u r;rw [<- e];exact (Con.of_ray (fq hul (h.lenR r hr)) (WF _ (WW hr))).smul lL' lR' c' zO) hx
 have old:∀ {x},Keep d (fun e=>E e\/(eq=true/\e=a)) (· ∈ l++(if eq then [] else [a])) x->Keep d E (· ∈ l) x:=fun hx=>⟨hx.len,fun e he=>hx.eq e (.inl he),fun i hi=>hx.ge i ((hin i).2 (.inl hi))⟩
 refine ⟨lL',?_,?_,?_,?_,?_,?_,?_,?_⟩
 ·
  intro x hx e he;obtain ⟨y,hy,rfl⟩:=Va.1 hx;rcases he with he | ⟨-,rfl⟩
  ·exact (hdotF y (lLs y hy) e (.inl (huE e he))).2 (.inr (h.lineE y (hLs y hy) e he))
  ·exact (hdotF y (lLs y hy) e (.inr rfl)).2 (.inl rfl)
 ·
  intro x hx i hi;obtain ⟨y,hy,rfl⟩:=Va.1 hx;rcases (hin i).1 hi with hi | ⟨-,rfl⟩
  ·exact (hdotF y (lLs y hy) i (.inl (huI i hi))).2 (.inr (h.lineI y (hLs y hy) i hi))
  ·exact (hdotF y (lLs y hy) i (.inr rfl)).2 (.inl rfl)
 ·
  intro x hx hE hI;have hax:dot a x=0:=by
   cases eq
   ·exact hI a ((hin a).2 (.inr ⟨rfl,rfl⟩))
   ·exact hE a (.inr ⟨rfl,rfl⟩)
  have:=spnTo (h.lines x hx (fun e he=>hE e (.inl he)) (fun i hi=>hI i ((hin i).2 (.inl hi))))
  rw [xw hul hx hax] at this;exact .div _ hu hx this
 ·
  intro r hr;rcases Vu.1 hr with hr | hr
  ·obtain ⟨y,hy,rfl⟩:=Va.1 hr;have hyk:=h.keep y hy;refine ⟨fq hul hyk.len,fun e he=>?_,fun i hi=>?_⟩
   ·rcases he with he | ⟨-,rfl⟩
    ·exact (hdotF y hyk.len e (.inl (huE e he))).2 (.inr (hyk.eq e he))
    ·exact (hdotF y hyk.len e (.inr rfl)).2 (.inl rfl)
   ·rcases (hin i).1 hi with hi | ⟨-,rfl⟩
    ·exact hposF y hyk.len i (huI i hi) (hyk.ge i hi)
    ·have:=(hdotF y hyk.len i (.inr rfl)).2 (.inl rfl); omega
  ·cases eq
   ·simp at hr;subst hr;refine ⟨hul,fun e he=>?_,fun i hi=>?_⟩
    ·rcases he with he | ⟨h,_⟩
     ·exact huE e he
     ·cases h
    ·rcases (hin i).1 hi with hi | ⟨-,rfl⟩
     ·have:=huI i hi; omega
     ·omega
   ·simp at hr
 ·
  intro x hx;have hc:=conTo (h.all x (old hx));cases hq:eq with
  | true =>
   have hax:dot a x=0:=hx.eq a (.inr ⟨hq,rfl⟩);rw [xw hul hx.len hax] at hc;rw [hq] at hc;exact .div _ hu hx.len hc
  | false =>
   have hax:0<=dot a x:=hx.ge a ((hin a).2 (.inr ⟨hq,rfl⟩));rw [hq] at hc lR';refine .div (dot a u) hu hx.len ?_;have e:scl (dot a u) x=mix 1 (mv a u x) (dot a x) u:=aL (by rw [ah hx.len,mix_length (bu hul hx.len) hul]) fun i=>by
    rw [aB,at_mix ((bu hul hx.len).trans hul.symm)];unfold mv;rw [at_mix (hx.len.trans hul.symm)]; grind
   rw [e];exact .ray _ hax hc (by simp)
 ·
  intro r hr;rcases Vu.1 hr with hr | hr
  ·obtain ⟨y,hy,rfl⟩:=Va.1 hr;obtain ⟨b,hb,hn⟩:=h.off y hy;obtain ⟨c,hc,e⟩:=lW (a:=a) u y;refine ⟨b,(hin b).2 (.inl hb),fun h0=>?_⟩;rw [<- lD hc,e,xv hul (h.lenR y hy),huI b hb] at h0;rcases VB.1 (show dot a u*dot b y=0 by omega) with h1 | h1
   ·omega
   ·exact hn h1
  ·cases eq
   ·simp at hr;subst hr;exact ⟨a,(hin a).2 (.inr ⟨rfl,rfl⟩),zO⟩
   ·simp at hr
 ·
  intro r hr y hy hs;have hyo:=old hy;rcases Vu.1 hr with hr | hr
  ·obtain ⟨z,hz,rfl⟩:=Va.1 hr;have hzl:=h.lenR z hz;have hay:dot a y=0:=by
    cases eq
    ·exact hs a ((hin a).2 (.inr ⟨rfl,rfl⟩)) ((hdotF z hzl a (.inr rfl)).2 (.inl rfl))
    ·exact hy.eq a (.inr ⟨rfl,rfl⟩)
   obtain ⟨k,c,hk,hc,hsp⟩:=h.ext z hz y hyo (fun i hi h0=>hs i ((hin i).2 (.inl hi)) ((hdotF z hzl i (.inl (huI i hi))).2 (.inr h0)));obtain ⟨c',hc',e⟩:=lW (a:=a) u z;refine ⟨k*dot a u,c*c',WN hk hu,VS hc zO,?_⟩
   have:=spnTo hsp
   have e2:mv a u (mix k y (-c) z)=mix (k*dot a u) y (-(c*c')) (foldV a u z):=aL (by rw [bu hul (mix_length hyo.len hzl),mix_length hyo.len (fq hul hzl)]) fun i=>by
    have e3:at_ (mv a u z) i=c'*at_ (foldV a u z) i:=by rw [<- e,aB]
    rw [at_mix (hyo.len.trans (fq hul hzl).symm)];unfold mv at e3 ⊢;rw [at_mix ((mix_length hyo.len hzl).trans hul.symm),at_mix (hyo.len.trans hzl.symm),aT _ _ _ (hyo.len.trans hzl.symm),hay];rw [at_mix (hzl.trans hul.symm)] at e3
    grind
   rw [e2] at this;exact this
  ·cases hq:eq with
   | true=>rw [hq] at hr; simp at hr
   | false =>
    rw [hq] at hr;simp at hr;subst hr;have hay:0<=dot a y:=hy.ge a ((hin a).2 (.inr ⟨hq,rfl⟩));refine ⟨dot a r,dot a y,hu,hay,?_⟩
    have:=spnTo (h.lin_of hyo fun i hi=>hs i ((hin i).2 (.inl hi)) (huI i hi))
    exact this
 ·
  refine Xz.2 ⟨?_,by cases eq <;> simp,fun r hr s hs=>?_⟩
  ·refine Wx.2 (h.apart.imp_of_mem fun {r s} hr hs hne h2=>hne fun i hi=>?_);have g:=h2 i ((hin i).2 (.inl hi));rw [hdotF r (h.lenR r hr) i (.inl (huI i hi)),hdotF s (h.lenR s hs) i (.inl (huI i hi))] at g;by_cases hia:i=a
   ·subst hia; have:=huI i hi; omega
   ·simpa [hia] using g
  ·cases eq
   ·simp at hs;subst hs;obtain ⟨y,hy,rfl⟩:=Va.1 hr;intro h2
    have:=(h2 a ((hin a).2 (.inr ⟨rfl,rfl⟩))).1 ((hdotF y (h.lenR y hy) a (.inr rfl)).2 (.inl rfl))
    omega
   ·simp at hs
def Nd (hLl:∀ x,L x->x.length=d) {p n:V} (hp:p.length=d) (hn:n.length=d) {y:V} (hy:Con d L (fun r=>r=p\/r=n) y) :
  ∃ k α β:Int,0<k/\0<=α/\0<=β/\Spn d L (mix k y (-1) (mix α p β n)):=by
 have hRl:∀ r,(r=p\/r=n)->r.length=d:=fun r hr=>by rcases hr with rfl | rfl <;> first | exact hp | exact hn
 induction hy with
 | zero =>
  refine ⟨1,0,0,zO,zO,zO,?_⟩;have e:mix 1 (lc d) (-1) (mix 0 p 0 n)=lc d:=aL (by rw [mix_length (ck d) (mix_length hp hn),ck]) fun i=>by
   rw [at_mix ((ck d).trans (mix_length hp hn).symm),at_mix (hp.trans hn.symm),ii]; grind
  rw [e]; exact .zero
 | @line x z c hx hz ih =>
  obtain ⟨k,α,β,hk,hα,hβ,h⟩:=ih;have hxl:=hx.length hLl hRl;have hzl:=hLl _ hz;refine ⟨k,α,β,hk,hα,hβ,?_⟩;have e:mix k (mix 1 x c z) (-1) (mix α p β n)=mix 1 (mix k x (-1) (mix α p β n)) (k*c) z:=aL (by rw [mix_length (mix_length hxl hzl) (mix_length hp hn),mix_length (mix_length hxl (mix_length hp hn)) hzl]) fun i=>by
   rw [at_mix ((mix_length hxl hzl).trans (mix_length hp hn).symm),at_mix (hxl.trans hzl.symm),at_mix ((mix_length hxl (mix_length hp hn)).trans hzl.symm),at_mix (hxl.trans (mix_length hp hn).symm)]; grind
  rw [e]; exact .line _ h hz
 | @ray x z c hc hx hz ih =>
  obtain ⟨k,α,β,hk,hα,hβ,h⟩:=ih;have hxl:=hx.length hLl hRl;rcases hz with rfl | rfl
  ·refine ⟨k,α+k*c,β,hk,by have:=VS (W5 hk) hc; omega,hβ,?_⟩;have e:mix k (mix 1 x c z) (-1) (mix (α+k*c) z β n)=mix k x (-1) (mix α z β n):=aL (by rw [mix_length (mix_length hxl hp) (mix_length hp hn),mix_length hxl (mix_length hp hn)]) fun i=>by
    rw [at_mix ((mix_length hxl hp).trans (mix_length hp hn).symm),at_mix (hxl.trans hp.symm),at_mix (hp.trans hn.symm),at_mix (hxl.trans (mix_length hp hn).symm),at_mix (hp.trans hn.symm)]; grind
   rw [e]; exact h
  ·refine ⟨k,α,β+k*c,hk,hα,by have:=VS (W5 hk) hc; omega,?_⟩;have e:mix k (mix 1 x c z) (-1) (mix α p (β+k*c) z)=mix k x (-1) (mix α p β z):=aL (by rw [mix_length (mix_length hxl hn) (mix_length hp hn),mix_length hxl (mix_length hp hn)]) fun i=>by
    rw [at_mix ((mix_length hxl hn).trans (mix_length hp hn).symm),at_mix (hxl.trans hn.symm),at_mix (hp.trans hn.symm),at_mix (hxl.trans (mix_length hp hn).symm),at_mix (hp.trans hn.symm)]; grind
   rw [e]; exact h
 | @div x j hj hl hx ih =>
  obtain ⟨k,α,β,hk,hα,hβ,h⟩:=ih;refine ⟨k*j,α,β,WN hk hj,hα,hβ,?_⟩;have e:mix k (scl j x) (-1) (mix α p β n)=mix (k*j) x (-1) (mix α p β n):=aL (by rw [mix_length (ah hl) (mix_length hp hn),mix_length hl (mix_length hp hn)]) fun i=>by
   rw [at_mix ((ah hl).trans (mix_length hp hn).symm),aB,at_mix (hl.trans (mix_length hp hn).symm)]; grind
  rw [e] at h; exact h
def idxs (R:List V) (f:V->Bool):List Nat:=(List.range R.length).filter fun i=>f (R.getD i [])
def nearB (l R:List V) (i k:Nat):Bool:=(List.range R.length).all fun t=>t == i || t == k || !(l.all fun b=>!(dot b (R.getD i []) == 0 && dot b (R.getD k []) == 0) || dot b (R.getD t []) == 0)
def cutL (l:List V) (a:V) (eq:Bool) (R:List V):List V :=
 (idxs R fun r=>dot a r == 0).map (R.getD · []) ++
 (idxs R fun r=>decide (0<dot a r)).flatMap fun i=>(if eq then [] else [R.getD i []]) ++
  ((idxs R fun r=>decide (dot a r<0)).filter (nearB l R i)).map fun k=>prime (mx a (R.getD i []) (R.getD k []))
def mem_idxs {f:V->Bool} {i:Nat}:i∈idxs R f ↔ ∃ r,R[i]? = some r/\f r=true:=by
 unfold idxs;rw [Vp,Wm];constructor
 ·rintro ⟨h1,h2⟩;exact ⟨R[i],U7 h1,by simpa [h1] using h2⟩
 ·rintro ⟨r,h1,h2⟩;obtain ⟨h3,rfl⟩:=Vm.1 h1;exact ⟨h3,by simpa [h3] using h2⟩
def getD_of {i:Nat} {r:V} (h:R[i]? = some r):R.getD i []=r:=by simp [U5,h]
def oO {i k:Nat} {p n:V} (hi:R[i]? = some p) (hk:R[k]? = some n):nearB l R i k=true ↔ GU l R i k p n:=by
 unfold nearB GU;rw [getD_of hi,getD_of hk,Vy];constructor
 ·intro h t q ht hti htk hall
  have:=h t (Wm.2 (Vm.1 ht).1)
  rw [getD_of ht] at this;simp only [WT,beq_iff_eq,hti,htk,false_or,V8,List.all_eq_false] at this;obtain ⟨b,hb,hn⟩:=this
  apply hn
  simp only [WT,V8,ZL,beq_eq_false_iff_ne,beq_iff_eq];by_cases h1:dot b p=0
  ·by_cases h2:dot b n=0
   ·exact .inr (hall b hb h1 h2)
   ·exact .inl (.inr h2)
  ·exact .inl (.inl h1)
 ·intro h t ht;have ht:=Wm.1 ht;have hq:R[t]? = some R[t]:=U7 ht;rw [getD_of hq];by_cases hti:t=i
  ·simp [hti]
  ·by_cases htk:t=k
   ·simp [htk]
   ·have:=h t _ hq hti htk
    simp only [WT,beq_iff_eq,hti,htk,false_or,V8,List.all_eq_false];simp only [YV,Classical.not_imp] at this;obtain ⟨b,hb,h1,h2,h3⟩:=this;exact ⟨b,hb,by simp [h1,h2,h3]⟩
def mem_cutL {eq:Bool} {r':V}:r'∈cutL l a eq R ↔ (∃ (i:Nat) (r:V),R[i]? = some r/\dot a r=0/\r'=r)\/(∃ (i:Nat) (r:V),R[i]? = some r/\0<dot a r/\((eq=false/\r'=r)\/∃ (k:Nat) (n:V),R[k]? = some n/\dot a n<0/\GU l R i k r n/\r'=prime (mx a r n))):=by
 unfold cutL;rw [Vu,Va,ZB];constructor
 ·rintro (⟨i,hi,rfl⟩ | ⟨i,hi,h⟩)
  ·obtain ⟨r,h1,h2⟩:=mem_idxs.1 hi;exact .inl ⟨i,r,h1,by simpa using h2,getD_of h1⟩
  ·obtain ⟨r,h1,h2⟩:=mem_idxs.1 hi;refine .inr ⟨i,r,h1,by simpa using h2,?_⟩;rw [getD_of h1] at h;rcases Vu.1 h with h | h
   ·cases eq
    ·exact .inl ⟨rfl,by simpa using h⟩
    ·simp at h
   ·obtain ⟨k,hk,rfl⟩:=Va.1 h;obtain ⟨hk1,hk2⟩:=Vp.1 hk;obtain ⟨n,h3,h4⟩:=mem_idxs.1 hk1;exact .inr ⟨k,n,h3,by simpa using h4,(oO h1 h3).1 hk2,by rw [getD_of h3]⟩
 ·rintro (⟨i,r,h1,h2,rfl⟩ | ⟨i,r,h1,h2,h⟩)
  ·exact .inl ⟨i,mem_idxs.2 ⟨r',h1,by simp [h2]⟩,getD_of h1⟩
  ·refine .inr ⟨i,mem_idxs.2 ⟨r,h1,by simp [h2]⟩,?_⟩;rw [getD_of h1];rcases h with ⟨rfl,rfl⟩ | ⟨k,n,h3,h4,h5,rfl⟩
   ·simp
   ·exact WO _ (Va.2 ⟨k,Vp.2 ⟨mem_idxs.2 ⟨n,h3,by simp [h4]⟩,(oO h1 h3).2 h5⟩,by rw [getD_of h3]⟩)
def En (f:V->Bool):(idxs R f).Pairwise (· < ·):=Yi _ Yz
def SJ (h:DD d E (· ∈ l) L R) (hal:∀ x,L x->dot a x=0) (eq:Bool) :
  DD d (fun e=>E e\/(eq=true/\e=a)) (· ∈ l++(if eq then [] else [a])) L (cutL l a eq R):=by
 have hin:∀ i,i∈l++(if eq then [] else [a]) ↔ i∈l\/(eq=false/\i=a):=fun i=>by cases eq <;> simp
 have old:∀ {x},Keep d (fun e=>E e\/(eq=true/\e=a)) (· ∈ l++(if eq then [] else [a])) x->Keep d E (· ∈ l) x:=fun hx=>⟨hx.len,fun e he=>hx.eq e (.inl he),fun i hi=>hx.ge i ((hin i).2 (.inl hi))⟩
 have keepR:∀ {i r},R[i]? = some r->Keep d E (· ∈ l) r:=fun h1=>h.keep _ (Vo h1);have primeK:∀ {p n},Keep d E (· ∈ l) p->Keep d E (· ∈ l) n->0<dot a p->dot a n<0->Keep d E (· ∈ l) (prime (mx a p n))/\dot a (prime (mx a p n))=0/\∀ b∈l,(dot b (prime (mx a p n))=0 ↔ dot b p=0/\dot b n=0):=fun {p n} hp hn h1 h2=>by
  obtain ⟨c,hc,e⟩:=jO (mx a p n);have hm:=fo hp hn h1 h2;refine ⟨Keep.of_scl hc (by rw [prime_length]; exact hm.len) (by rw [e]; exact hm),(lD hc).1 (by rw [e]; exact pQ hp.len hn.len),fun b hb=>?_⟩;rw [<- lD hc,e]; exact mD hp hn h1 h2 hb
 have lR':∀ r,r∈cutL l a eq R->r.length=d:=fun r hr=>by
  rcases mem_cutL.1 hr with ⟨i,r,h1,h2,rfl⟩ | ⟨i,r,h1,h2,⟨h3,rfl⟩ | ⟨k,n,h3,h4,h5,rfl⟩⟩
  ·exact (keepR h1).len
  ·exact (keepR h1).len
  ·exact (primeK (keepR h1) (keepR h3) h2 h4).1.len
 have hmx:∀ i j p n,R[i]? = some p->R[j]? = some n->0<dot a p->dot a n<0->GU l R i j p n->Con d L (· ∈ cutL l a eq R) (mx a p n):=fun i j p n h1 h2 h3 h4 h5=>by
  obtain ⟨c,hc,e⟩:=jO (mx a p n);rw [<- e];have hm:prime (mx a p n)∈cutL l a eq R:=mem_cutL.2 (.inr ⟨i,p,h1,h3,.inr ⟨j,n,h2,h4,h5,rfl⟩⟩);exact (Con.of_ray (lR' _ hm) hm).smul h.lenL lR' c zO
 refine ⟨h.lenL,?_,?_,?_,?_,?_,?_,?_,?_⟩
 ·intro x hx e he;rcases he with he | ⟨-,rfl⟩
  ·exact h.lineE x hx e he
  ·exact hal x hx
 ·intro x hx i hi;rcases (hin i).1 hi with hi | ⟨-,rfl⟩
  ·exact h.lineI x hx i hi
  ·exact hal x hx
 ·intro x hx hE hI;exact h.lines x hx (fun e he=>hE e (.inl he)) (fun i hi=>hI i ((hin i).2 (.inl hi)))
 ·
  intro r hr;rcases mem_cutL.1 hr with ⟨i,r,h1,h2,rfl⟩ | ⟨i,r,h1,h2,⟨h3,rfl⟩ | ⟨k,n,h3,h4,h5,rfl⟩⟩
  ·refine ⟨(keepR h1).len,fun e he=>?_,fun i hi=>?_⟩
   ·rcases he with he | ⟨-,rfl⟩
    ·exact (keepR h1).eq e he
    ·exact h2
   ·rcases (hin i).1 hi with hi | ⟨-,rfl⟩
    ·exact (keepR h1).ge i hi
    ·omega
  ·refine ⟨(keepR h1).len,fun e he=>?_,fun i hi=>?_⟩
   ·rcases he with he | ⟨h,rfl⟩
    ·exact (keepR h1).eq e he
    ·rw [h3] at h; cases h
   ·rcases (hin i).1 hi with hi | ⟨-,rfl⟩
    ·exact (keepR h1).ge i hi
    ·omega
  ·obtain ⟨g1,g2,g3⟩:=primeK (keepR h1) (keepR h3) h2 h4;refine ⟨g1.len,fun e he=>?_,fun i hi=>?_⟩
   ·rcases he with he | ⟨-,rfl⟩
    ·exact g1.eq e he
    ·exact g2
   ·rcases (hin i).1 hi with hi | ⟨-,rfl⟩
    ·exact g1.ge i hi
    ·omega
 ·
  intro x hx;cases hq:eq with
  | true =>
   rw [hq] at hmx lR';exact Gg h hal lR' (fun r hr e=>by
    obtain ⟨i,hi⟩:=VN hr;exact mem_cutL.2 (.inl ⟨i,r,hi,e,rfl⟩)) hmx _ x rfl (old hx) (hx.eq a (.inr ⟨hq,rfl⟩))
  | false =>
   rw [hq] at hmx lR';exact QM h hal lR' (fun r hr e=>by
    obtain ⟨i,hi⟩:=VN hr;by_cases h0:dot a r=0
    ·exact mem_cutL.2 (.inl ⟨i,r,hi,h0,rfl⟩)
    ·exact mem_cutL.2 (.inr ⟨i,r,hi,zO,.inl ⟨rfl,rfl⟩⟩)) hmx _ x rfl (old hx) (hx.ge a ((hin a).2 (.inr ⟨hq,rfl⟩)))
 ·
  intro r hr;rcases mem_cutL.1 hr with ⟨i,r,h1,h2,rfl⟩ | ⟨i,r,h1,h2,⟨h3,rfl⟩ | ⟨k,n,h3,h4,h5,rfl⟩⟩
  ·obtain ⟨b,hb,hn⟩:=h.off _ (Vo h1);exact ⟨b,(hin b).2 (.inl hb),hn⟩
  ·obtain ⟨b,hb,hn⟩:=h.off _ (Vo h1);exact ⟨b,(hin b).2 (.inl hb),hn⟩
  ·obtain ⟨b,hb,hn⟩:=h.off _ (Vo h1);exact ⟨b,(hin b).2 (.inl hb),fun e=>hn (((primeK (keepR h1) (keepR h3) h2 h4).2.2 b hb).1 e).1⟩
 ·
  intro r hr y hy hs;have hyo:=old hy;rcases mem_cutL.1 hr with ⟨i,r,h1,h2,rfl⟩ | ⟨i,r,h1,h2,⟨h3,rfl⟩ | ⟨k,n,h3,h4,h5,rfl⟩⟩
  ·exact h.ext _ (Vo h1) y hyo fun i hi e=>hs i ((hin i).2 (.inl hi)) e
  ·exact h.ext _ (Vo h1) y hyo fun i hi e=>hs i ((hin i).2 (.inl hi)) e
  ·obtain ⟨g1,g2,g3⟩:=primeK (keepR h1) (keepR h3) h2 h4;have hay:dot a y=0:=by
    cases eq
    ·exact hs a ((hin a).2 (.inr ⟨rfl,rfl⟩)) g2
    ·exact hy.eq a (.inr ⟨rfl,rfl⟩)
   have hf:=h.face (S:=fun b=>b∈l/\dot b r=0/\dot b n=0) (fun b hb=>hb.1) (h.all y hyo) (fun b hb=>hs b ((hin b).2 (.inl hb.1)) ((g3 b hb.1).2 hb.2));have hf2:Con d L (fun x=>x=r\/x=n) y:=hf.mono (fun _ h=>h) fun x hx=>by
    obtain ⟨t,ht⟩:=VN hx.1;by_cases hti:t=i
    ·rw [hti,h1] at ht; cases ht; exact .inl rfl
    ·by_cases htk:t=k
     ·rw [htk,h3] at ht; cases ht; exact .inr rfl
     ·exact absurd (fun b hb e1 e2=>hx.2 b ⟨hb,e1,e2⟩) (h5 t x ht hti htk)
   have hrl:=(keepR h1).len;have hnl:=(keepR h3).len;obtain ⟨k',α,β,hk',hα,hβ,hsp⟩:=Nd h.lenL hrl hnl hf2;have hz:=Con.dot_zero (a:=a) h.lenL (fun r h=>h.elim) (fun x hx=>hal x hx) (fun r h=>h.elim) hsp;rw [aT _ _ _ (hyo.len.trans (mix_length hrl hnl).symm),hay,aT _ _ _ (hrl.trans hnl.symm)] at hz;obtain ⟨c,hc,e⟩:=jO (mx a r n);refine ⟨dot a r*k',β*c,WN h2 hk',VS hβ zO,?_⟩
   have:=Spn.smul h.lenL hsp (dot a r)
   have e2:scl (dot a r) (mix k' y (-1) (mix α r β n))=mix (dot a r*k') y (-(β*c)) (prime (mx a r n)):=aL (by rw [ah (mix_length hyo.len (mix_length hrl hnl)),mix_length hyo.len g1.len]) fun i=>by
    have e3:at_ (mx a r n) i=c*at_ (prime (mx a r n)) i:=by rw [<- aB,e]
    unfold mx at e3;rw [at_mix (hrl.trans hnl.symm)] at e3;rw [aB,at_mix (hyo.len.trans (mix_length hrl hnl).symm),at_mix (hrl.trans hnl.symm),at_mix (hyo.len.trans g1.len.symm)];unfold mx
    grind
   rw [e2] at this;exact this
 ·
  have hne:∀ {i j:Nat} {r s:V},R[i]? = some r->R[j]? = some s->i≠j->¬ ∀ b,b∈l++(if eq then [] else [a])->(dot b r=0 ↔ dot b s=0):=fun h1 h2 hij h3=>hij (h.same h1 h2 fun b hb=>h3 b ((hin b).2 (.inl hb)));have hsign:∀ {i j:Nat} {r s:V},R[i]? = some r->R[j]? = some s->dot a r≠dot a s->i≠j:=fun h1 h2 h3 e=>by rw [e,h2] at h1; cases h1; exact h3 rfl
  unfold cutL;refine Xz.2 ⟨?_,?_,fun r hr s hs=>?_⟩
  ·refine Wx.2 ((En _).imp_of_mem fun {i j} hi hj hlt=>?_);obtain ⟨r,h1,_⟩:=mem_idxs.1 hi;obtain ⟨s,h2,_⟩:=mem_idxs.1 hj;rw [getD_of h1,getD_of h2];exact hne h1 h2 zO
  ·refine List.pairwise_flatMap.2 ⟨fun i hi=>?_,(En _).imp_of_mem fun {i j} hi hj hlt x hx y hy=>?_⟩
   ·obtain ⟨p,h1,h2⟩:=mem_idxs.1 hi;have h2:0<dot a p:=by simpa using h2
    refine Xz.2 ⟨by cases eq <;> simp,?_,fun x hx y hy=>?_⟩
    ·refine Wx.2 (((En _).filter _).imp_of_mem fun {k k'} hk hk' hlt=>?_);obtain ⟨hk1,hk2⟩:=Vp.1 hk;obtain ⟨hk1',hk2'⟩:=Vp.1 hk';obtain ⟨n,h3,h4⟩:=mem_idxs.1 hk1;obtain ⟨n',h3',h4'⟩:=mem_idxs.1 hk1';have h4:dot a n<0:=by simpa using h4
     have h4':dot a n'<0:=by simpa using h4'
     rw [getD_of h1,getD_of h3,getD_of h3'];intro h5;refine (oO h1 h3).1 hk2 k' n' h3' (hsign h3' h1 zO) zO fun b hb e1 e2=>?_;have g:=(h5 b ((hin b).2 (.inl hb))).1 (((primeK (keepR h1) (keepR h3) h2 h4).2.2 b hb).2 ⟨e1,e2⟩);exact (((primeK (keepR h1) (keepR h3') h2 h4').2.2 b hb).1 g).2
    ·obtain ⟨k,hk,rfl⟩:=Va.1 hy;obtain ⟨hk1,hk2⟩:=Vp.1 hk;obtain ⟨n,h3,h4⟩:=mem_idxs.1 hk1;have h4:dot a n<0:=by simpa using h4
     rw [getD_of h1] at hx ⊢;rw [getD_of h3];cases eq
     ·simp at hx;subst hx;intro h5
      have:=(h5 a ((hin a).2 (.inr ⟨rfl,rfl⟩))).2 (primeK (keepR h1) (keepR h3) h2 h4).2.1
      omega
     ·simp at hx
   ·obtain ⟨p,h1,h2⟩:=mem_idxs.1 hi;obtain ⟨q,h1',h2'⟩:=mem_idxs.1 hj;have h2:0<dot a p:=by simpa using h2
    have h2':0<dot a q:=by simpa using h2'
    rw [getD_of h1] at hx;rw [getD_of h1'] at hy;rcases Vu.1 hx with hx | hx <;> rcases Vu.1 hy with hy | hy
    ·cases eq
     ·simp at hx hy; subst hx; subst hy; exact hne h1 h1' zO
     ·simp at hx
    ·obtain ⟨k,hk,rfl⟩:=Va.1 hy;obtain ⟨hk1,hk2⟩:=Vp.1 hk;obtain ⟨n,h3,h4⟩:=mem_idxs.1 hk1;have h4:dot a n<0:=by simpa using h4
     rw [getD_of h3];cases eq
     ·simp at hx;subst hx;intro h5
      have:=(h5 a ((hin a).2 (.inr ⟨rfl,rfl⟩))).2 (primeK (keepR h1') (keepR h3) h2' h4).2.1
      omega
     ·simp at hx
    ·obtain ⟨k,hk,rfl⟩:=Va.1 hx;obtain ⟨hk1,hk2⟩:=Vp.1 hk;obtain ⟨n,h3,h4⟩:=mem_idxs.1 hk1;have h4:dot a n<0:=by simpa using h4
     rw [getD_of h3];cases eq
     ·simp at hy;subst hy;intro h5
      have:=(h5 a ((hin a).2 (.inr ⟨rfl,rfl⟩))).1 (primeK (keepR h1) (keepR h3) h2 h4).2.1
      omega
     ·simp at hy
    ·obtain ⟨k,hk,rfl⟩:=Va.1 hx;obtain ⟨k',hk',rfl⟩:=Va.1 hy;obtain ⟨hk1,hk2⟩:=Vp.1 hk;obtain ⟨hk1',hk2'⟩:=Vp.1 hk';obtain ⟨n,h3,h4⟩:=mem_idxs.1 hk1;obtain ⟨n',h3',h4'⟩:=mem_idxs.1 hk1';have h4:dot a n<0:=by simpa using h4
     have h4':dot a n'<0:=by simpa using h4'
     rw [getD_of h3,getD_of h3'];intro h5;refine (oO h1 h3).1 hk2 j q h1' zO (hsign h1' h3 zO) fun b hb e1 e2=>?_;have g:=(h5 b ((hin b).2 (.inl hb))).1 (((primeK (keepR h1) (keepR h3) h2 h4).2.2 b hb).2 ⟨e1,e2⟩);exact (((primeK (keepR h1') (keepR h3') h2' h4').2.2 b hb).1 g).1
  ·obtain ⟨t,ht,rfl⟩:=Va.1 hr;obtain ⟨q,h0,h0'⟩:=mem_idxs.1 ht;have h0':dot a q=0:=by simpa using h0'
   obtain ⟨i,hi,hs⟩:=ZB.1 hs;obtain ⟨p,h1,h2⟩:=mem_idxs.1 hi;have h2:0<dot a p:=by simpa using h2
   rw [getD_of h0];rw [getD_of h1] at hs;rcases Vu.1 hs with hs | hs
   ·cases eq
    ·simp at hs; subst hs; exact hne h0 h1 (hsign h0 h1 zO)
    ·simp at hs
   ·obtain ⟨k,hk,rfl⟩:=Va.1 hs;obtain ⟨hk1,hk2⟩:=Vp.1 hk;obtain ⟨n,h3,h4⟩:=mem_idxs.1 hk1;have h4:dot a n<0:=by simpa using h4
    rw [getD_of h3];intro h5;refine (oO h1 h3).1 hk2 t q h0 (hsign h0 h1 zO) (hsign h0 h3 zO) fun b hb e1 e2=>?_;exact (h5 b ((hin b).2 (.inl hb))).2 (((primeK (keepR h1) (keepR h3) h2 h4).2.2 b hb).2 ⟨e1,e2⟩)
end
def kw {x:V} {g:Int} (h:∀ a∈x,g ∣ a):g ∣ (content x:Int):=by
 have key:∀ (x:V) (n:Nat),g ∣ (n:Int)->(∀ a∈x,g ∣ a)->g ∣ ((x.foldl (fun g a=>Nat.gcd g a.natAbs) n:Nat):Int):=by
  intro x
  induction x with
  | nil=>intro n hn _; exact hn
  | cons b x ih =>
   intro n hn hx;simp only [WQ];refine ih _ ?_ fun a ha=>hx a (Vd _ ha);have h1:g.natAbs ∣ n:=by have:=Ye.2 hn; simpa using this
   have h2:g.natAbs ∣ b.natAbs:=Ye.2 (hx b (Vh ..));exact Int.natAbs_dvd.1 (Int.ofNat_dvd.2 (Nat.dvd_gcd h1 h2))
 exact key x 0 (Int.dvd_zero g) h
def content_eq_zero {x:V}:content x=0 ↔ ∀ a∈x,a=0:=by
 constructor
 ·intro h a ha
  have:=content_dvd ha
  rw [h] at this;exact Int.zero_dvd.1 this
 ·intro h
  have:(0:Int) ∣ (content x:Int):=kw fun a ha=>by rw [h a ha]; exact Int.dvd_zero 0
  have:=Int.zero_dvd.1 this
  omega
def Ik {x:V} {a:Int} (h:a∈x):∃ i,at_ x i=a:=by
 obtain ⟨i,hi⟩:=VN h;exact ⟨i,by simp [at_,hi]⟩
def O6 {x:V} {i:Nat} (h:at_ x i≠0):at_ x i∈x:=by
 unfold at_ at h ⊢;rw [U5] at h ⊢;cases hx:x[i]? with
 | none=>rw [hx] at h; exact absurd rfl h
 | some y=>exact Vo hx
def zero_iff {x:V}:(∀ a∈x,a=0) ↔ ∀ i,at_ x i=0:=by
 constructor
 ·intro h i;by_cases h0:at_ x i=0
  ·exact h0
  ·exact h _ (O6 h0)
 ·intro h a ha;obtain ⟨i,rfl⟩:=Ik ha;exact h i
def IG {d:Nat} {x:V} (hx:x.length=d):x=lc d ↔ ∀ i,at_ x i=0:=by
 constructor
 ·rintro rfl i; exact ii
 ·intro h; exact aL (by rw [hx,ck]) fun i=>by rw [h i,ii]
def nu {c:Int} (hc:0<c) (x:V):(content (scl c x):Int)=c*content x:=by
 refine Int.dvd_antisymm ?_ ?_ ?_ ?_
 ·omega
 ·have:=VS (W5 hc) (Int.natCast_nonneg (content x)); exact this
 ·
  by_cases h0:content x=0
  ·rw [h0]; simp
  ·have h1:∀ a∈x,(content (scl c x):Int) ∣ c*a:=fun a ha=>content_dvd (WW ha);have h2:c ∣ (content (scl c x):Int):=kw fun a ha=>by
    obtain ⟨b,-,rfl⟩:=Va.1 ha;exact Int.dvd_mul_right _ _
   obtain ⟨g,hg⟩:=h2;rw [hg];refine ZV c (kw fun a ha=>?_)
   have:=h1 a ha
   rw [hg] at this;exact Int.dvd_of_mul_dvd_mul_left zO this
 ·refine kw fun a ha=>?_;obtain ⟨b,hb,rfl⟩:=Va.1 ha;exact ZV c (content_dvd hb)
def iq {x:V} (h:∃ i,at_ x i≠0):content (prime x)=1:=by
 have h0:content x≠0:=fun e=>by
  obtain ⟨i,hi⟩:=h;exact hi (zero_iff.1 (content_eq_zero.1 e) i)
 have e:scl (content x:Int) (prime x)=x:=by
  unfold prime scl;rw [if_neg h0,Xl]
  conv=>rhs; rw [<- YU x]
  exact WV fun a ha=>ZU (content_dvd ha)
 have:=nu (show (0:Int)<content x by omega) (prime x)
 rw [e] at this;have h2:(content x:Int)*1=content x*content (prime x):=zO
 have:=Zo zO h2
 omega
def uV {x y:V} (hx:content x=1) (hy:content y=1) {m n:Int} (hm:0<m) (hn:0<n) (h:scl m x=scl n y):x=y:=by
 have h1:=nu hm x;have h2:=nu hn y;rw [hx] at h1;rw [hy] at h2;rw [h] at h1;have e:m=n:=zO;subst e;have hl:x.length=y.length:=by have:=congrArg List.length h; simpa [scl] using this
 refine aL hl fun i=>?_
 have:=congrArg (fun z=>at_ z i) h
 simp only [aB] at this;exact Zo zO this
def km {x:V} (i:Nat):(at_ (prime x) i=0 ↔ at_ x i=0)/\(0<at_ (prime x) i ↔ 0<at_ x i):=by
 obtain ⟨c,hc,e⟩:=jO x
 have:at_ x i=c*at_ (prime x) i:=by rw [<- aB,e]
 rw [this];refine ⟨⟨fun h=>by rw [h]; simp,fun h=>?_⟩,⟨fun h=>WN hc h,fun h=>?_⟩⟩
 ·rcases VB.1 h with h1 | h1
  ·omega
  ·exact h1
 ·exact Int.pos_of_mul_pos_right h hc
def before (a b:Nat):Bool:=a != b && (a != 0 && (b == 0 || decide (a<b)))
def rank (i d:Nat):Nat:=if i=0 then d else i
def before_iff {a b d:Nat} (ha:a<d) (hb:b<d):before a b=true ↔ rank a d<rank b d:=by
 unfold before rank;simp only [VG,bne_iff_ne,WT,beq_iff_eq,decide_eq_true_eq];split <;> split <;> omega
def places (d:Nat):List Nat:=(List.range' 1 (d-1))++(if d=0 then [] else [0])
def pivot (a:V):Option Nat:=(places a.length).find? fun i=>!decide (at_ a i=0)
def pv (a:V):Nat:=(pivot a).getD 0
def mem_places {d i:Nat}:i∈places d ↔ i<d:=by
 unfold places;rw [Vu,Zs];by_cases hd:d=0
 ·simp [hd]; omega
 ·simp [hd]; omega
def tn (d:Nat):(places d).Pairwise fun a b=>before a b=true:=by
 unfold places;refine Xz.2 ⟨?_,by split <;> simp,fun a ha b hb=>?_⟩
 ·refine XT (fun {a b} ha hb h=>?_) (List.pairwise_lt_range' (s:=1) (n:=d-1));rw [Zs] at ha hb;unfold before;simp only [VG,bne_iff_ne,WT,beq_iff_eq,decide_eq_true_eq];omega
 ·rw [Zs] at ha;split at hb
  ·cases hb
  ·simp only [V7] at hb;subst hb;unfold before
   simp
   omega
def pivot_some {a:V} {p:Nat}:pivot a=some p ↔ p<a.length/\at_ a p≠0/\∀ q,q<a.length->before q p=true->at_ a q=0:=by
 unfold pivot;rw [List.find?_eq_some_iff_append];constructor
 ·rintro ⟨h1,l1,l2,e,h2⟩;have hp:p∈places a.length:=by rw [e]; simp
  refine ⟨mem_places.1 hp,by simpa using h1,fun q hq hb=>?_⟩;have hqm:q∈places a.length:=mem_places.2 hq;rw [e] at hqm;rcases Vu.1 hqm with h | h
  ·have:=h2 q h; simpa using this
  ·exfalso
   have hs:=tn a.length;rw [e] at hs;have hs:=(Xz.1 hs).2.1;rcases VA.1 h with rfl | h
   ·simp [before] at hb
   ·have:=(W2.1 hs).1 q h
    unfold before at this hb;simp only [VG,bne_iff_ne,WT,beq_iff_eq,decide_eq_true_eq] at this hb;omega
 ·rintro ⟨h1,h2,h3⟩;obtain ⟨l1,l2,e⟩:=List.append_of_mem (mem_places.2 h1);refine ⟨by simpa using h2,l1,l2,e,fun q hq=>?_⟩;have hs:=tn a.length;rw [e] at hs;have hb:=(Xz.1 hs).2.2 q hq p (Vh ..);have hql:q<a.length:=mem_places.1 (by rw [e]; exact WF _ hq)
  simpa using h3 q hql hb
def pivot_none {a:V}:pivot a=none ↔ ∀ i,at_ a i=0:=by
 unfold pivot;rw [List.find?_eq_none];constructor
 ·intro h i;by_cases hi:i<a.length
  ·have:=h i (mem_places.2 hi); simpa using this
  ·simp [at_,U5,VI (Xw hi)]
 ·intro h i _;simp [h i]
def NM {a:V} {p:Nat} (h:pivot a=some p):pv a=p:=by simp [pv,h]
def wo (a u:V) (p:Nat):V:=if at_ a p=0 then a else prime (mix (at_ u p) a (-(at_ a p)) u)
def restF (F:List V) (a:V):V:=F.foldl (fun a r=>wo a r (pv r)) (prime a)
def signed (a:V) (p:Nat):V:=if at_ a p<0 then scl (-1) a else a
def insP (x:V) (p:Nat):List V->List V
 | []=>[x]
 | r :: F=>if before (pv r) p=true then r :: insP x p F else x :: r :: F
def putF (F:List V) (a:V):List V :=
 match pivot (restF F a) with
 | none=>F
 | some p=>insP (signed (restF F a) p) p (F.map fun r=>wo r (signed (restF F a) p) p)
def formF (l:List V):List V:=l.foldl putF []
structure Ech (d:Nat) (F:List V):Prop where
 len:∀ r∈F,r.length=d
 piv:∀ r∈F,∃ p,pivot r=some p/\0<at_ r p
 cont:∀ r∈F,content r=1
 clear:F.Pairwise fun r s=>at_ r (pv s)=0/\at_ s (pv r)=0
 sorted:F.Pairwise fun r s=>before (pv r) (pv s)=true
def Ech.nil (d:Nat):Ech d []:=⟨by simp,by simp,by simp,by simp,by simp⟩
section
variable {d:Nat} {F:List V}
def Ech.pos (h:Ech d F) {r:V} (hr:r∈F):pivot r=some (pv r)/\0<at_ r (pv r)/\pv r<d:=by
 obtain ⟨p,hp,h0⟩:=h.piv r hr;rw [NM hp];exact ⟨hp,h0,h.len r hr ▸ (pivot_some.1 hp).1⟩
def Ech.clear_of (h:Ech d F) {r s:V} (hr:r∈F) (hs:s∈F) (hne:r≠s):at_ r (pv s)=0:=by
 obtain ⟨i,hi⟩:=VN hr;obtain ⟨j,hj⟩:=VN hs;obtain ⟨hi',rfl⟩:=Vm.1 hi;obtain ⟨hj',rfl⟩:=Vm.1 hj;rcases XM i j with hlt | heq | hlt
 ·exact (VX.1 h.clear i j hi' hj' hlt).1
 ·subst heq; exact absurd rfl hne
 ·exact (VX.1 h.clear j i hj' hi' hlt).2
def B5 (a:Nat):before a a=false:=by simp [before]
def Ech.pv_inj (h:Ech d F) {r s:V} (hr:r∈F) (hs:s∈F) (he:pv r=pv s):r=s:=by
 by_cases hne:r=s
 ·exact hne
 ·exfalso
  have:=h.clear_of hr hs hne
  rw [<- he] at this
  have:=(h.pos hr).2.1
  omega
def O5 {a u:V} {p:Nat} (ha:a.length=d) (hu:u.length=d) (h:0<at_ u p):∃ k:Int,0<k/\∃ c:Int,0<c/\∃ s:Int,scl k (wo a u p)=mix c a s u/\((s=0) ↔ (at_ a p=0)):=by
 unfold wo;split
 ·rename_i h0;refine ⟨1,zO,1,zO,0,aL (by rw [ah ha,mix_length ha hu]) fun i=>?_,by simp [h0]⟩;rw [aB,at_mix (ha.trans hu.symm)]; grind
 ·rename_i h0;obtain ⟨k,hk,e⟩:=jO (mix (at_ u p) a (-(at_ a p)) u);exact ⟨k,hk,at_ u p,h,-(at_ a p),e,by simp [h0]⟩
def wo_length {a u:V} {p:Nat} (ha:a.length=d) (hu:u.length=d):(wo a u p).length=d:=by
 unfold wo;split
 ·exact ha
 ·rw [prime_length]; exact mix_length ha hu
def Dk {a u:V} {p:Nat} (ha:a.length=d) (hu:u.length=d) (h:0<at_ u p):at_ (wo a u p) p=0:=by
 unfold wo;split
 ·rename_i h0; exact h0
 ·rw [(km p).1,at_mix (ha.trans hu.symm)]; grind
def zf {a u:V} {p q:Nat} (ha:a.length=d) (hu:u.length=d) (h0:at_ u q=0):at_ a q=0->at_ (wo a u p) q=0:=by
 intro haq;unfold wo;split
 ·exact haq
 ·rw [(km q).1,at_mix (ha.trans hu.symm),haq,h0]; simp
def RM {a u:V} {p q:Nat} (ha:a.length=d) (hu:u.length=d) (h:0<at_ u p) (h0:at_ u q=0) (haq:0<at_ a q):0<at_ (wo a u p) q:=by
 unfold wo;split
 ·exact haq
 ·rw [(km q).2,at_mix (ha.trans hu.symm),h0]
  have:=WN h haq
  simpa using this
def I7 {a u:V} {p q:Nat} (ha:a.length=d) (hu:u.length=d) (hc:content a=1) (hq:at_ (wo a u p) q≠0):content (wo a u p)=1:=by
 unfold wo at hq ⊢;split at hq
 ·rename_i h0; rw [if_pos h0]; exact hc
 ·rename_i h0;rw [if_neg h0];exact iq ⟨q,fun e=>hq ((km q).1.2 e)⟩
def oH {A B:V->Prop} (hA:∀ x,A x->x.length=d) (hB:∀ x,B x->x.length=d) (h:∀ x,A x->Spn d B x) {x:V} (hx:Spn d A x):Spn d B x :=
 Con.trans hB (fun r h=>h.elim) (fun l hl c=>Spn.smul hB (h l hl) c) (fun r h=>h.elim) hA (fun r h=>h.elim) hx
def dN {B:V->Prop} {x:V} (hx:x.length=d) (h:B x):Spn d B x:=by
 have:=Con.of_line (d:=d) (L:=B) (R:=fun _=>False) hx h 1
 rw [uO] at this; exact this
def pt {B:V->Prop} (hB:∀ x,B x->x.length=d) {x:V} (hx:x.length=d) {k:Int} (hk:k≠0) (h:Spn d B (scl k x)):Spn d B x:=by
 rcases Int.lt_or_gt_of_ne hk with h0 | h0
 ·have:=Spn.smul hB h (-1)
  have e:scl (-1) (scl k x)=scl (-k) x:=aL (by simp [scl]) fun i=>by rw [aB,aB,aB]; grind
  rw [e] at this;exact .div (-k) zO hx this
 ·exact .div k h0 hx h
def Jg (h:Ech d F):∀ (G:List V) (done:List V),done++G=F->∀ a:V,a.length=d->(∀ r∈done,at_ a (pv r)=0) ->
  (G.foldl (fun a r=>wo a r (pv r)) a).length=d/\(∀ r∈F,at_ (G.foldl (fun a r=>wo a r (pv r)) a) (pv r)=0) /\
  (∃ m k:Int,0<m/\0<k/\Spn d (· ∈ F) (mix m (G.foldl (fun a r=>wo a r (pv r)) a) (-k) a)) /\
  ((content a=1\/∀ i,at_ a i=0)->(content (G.foldl (fun a r=>wo a r (pv r)) a)=1\/∀ i,at_ (G.foldl (fun a r=>wo a r (pv r)) a) i=0))
 | [],done,e,a,ha,hd=>by
  rw [Wy] at e;subst e;refine ⟨ha,hd,⟨1,1,zO,zO,?_⟩,fun h=>h⟩
  have:mix 1 a (-1) a=lc d:=aL (by rw [mix_length ha ha,ck]) fun i=>by rw [at_mix rfl,ii]; grind
  show Spn d _ (mix 1 a (-1) a);rw [this]; exact .zero
 | r :: G,done,e,a,ha,hd=>by
  have hr:r∈F:=by rw [<- e]; simp
  have hrl:=h.len r hr;obtain ⟨hp1,hp2,hp3⟩:=h.pos hr;have hstep:∀ s∈done++[r],at_ (wo a r (pv r)) (pv s)=0:=fun s hs=>by
   rcases Vu.1 hs with hs | hs
   ·have hsF:s∈F:=by rw [<- e]; exact WF _ hs
    by_cases hne:r=s
    ·subst hne; exact Dk ha hrl hp2
    ·exact zf ha hrl (h.clear_of hr hsF hne) (hd s hs)
   ·simp only [V7] at hs;subst hs;exact Dk ha hrl hp2
  obtain ⟨g1,g2,⟨m,k,hm,hk,g3⟩,g4⟩:=Jg h G (done++[r]) (by rw [WZ]; exact e) (wo a r (pv r)) (wo_length ha hrl) hstep;simp only [WQ];refine ⟨g1,g2,?_,fun hc=>g4 ?_⟩
  ·obtain ⟨k1,hk1,c,hc,s,e1,_⟩:=O5 ha hrl hp2;refine ⟨m*k1,k*c,WN hm hk1,WN hk hc,?_⟩;have t1:=Spn.smul (fun x hx=>h.len x hx) g3 k1;have t2:=Spn.sum2 (fun x hx=>h.len x hx) t1 (dN (d:=d) (B:=(· ∈ F)) hrl hr) 1 (k*s);have e2:mix 1 (scl k1 (mix m (G.foldl (fun a r=>wo a r (pv r)) (wo a r (pv r))) (-k) (wo a r (pv r)))) (k*s) r=mix (m*k1) (G.foldl (fun a r=>wo a r (pv r)) (wo a r (pv r))) (-(k*c)) a :=
    aL (by rw [mix_length (ah (mix_length g1 (wo_length ha hrl))) hrl,mix_length g1 ha]) fun i=>by
     have e3:k1*at_ (wo a r (pv r)) i=c*at_ a i+s*at_ r i:=by rw [<- aB,e1,at_mix (ha.trans hrl.symm)]
     rw [at_mix ((ah (mix_length g1 (wo_length ha hrl))).trans hrl.symm),aB,at_mix (g1.trans (wo_length ha hrl).symm),at_mix (g1.trans ha.symm)]
     grind
   rw [e2] at t2;exact t2
  ·by_cases hz:∀ i,at_ (wo a r (pv r)) i=0
   ·exact .inr hz
   ·refine .inl ?_;have ⟨q,hq⟩:∃ q,at_ (wo a r (pv r)) q≠0:=YV.1 hz;rcases hc with hc | hc
    ·exact I7 ha hrl hc hq
    ·exfalso
     have:wo a r (pv r)=a:=by unfold wo; rw [if_pos (hc _)]
     rw [this] at hq;exact hq (hc q)
def Fs (h:Ech d F) {a:V} (ha:a.length=d) :
  (restF F a).length=d/\(∀ r∈F,at_ (restF F a) (pv r)=0)/\(∃ m k:Int,0<m/\0<k/\Spn d (· ∈ F) (mix m (restF F a) (-k) a))/\(content (restF F a)=1\/∀ i,at_ (restF F a) i=0):=by
 have hl:(prime a).length=d:=by rw [prime_length]; exact ha
 obtain ⟨g1,g2,⟨m,k,hm,hk,g3⟩,g4⟩:=Jg h F [] rfl (prime a) hl (by simp);obtain ⟨c,hc,e⟩:=jO a;refine ⟨g1,g2,⟨m*c,k,WN hm hc,hk,?_⟩,g4 ?_⟩
 ·have t:=Spn.smul (fun x hx=>h.len x hx) g3 c;have e2:scl c (mix m (F.foldl (fun a r=>wo a r (pv r)) (prime a)) (-k) (prime a))=mix (m*c) (restF F a) (-k) a:=aL (by rw [ah (mix_length g1 hl),mix_length (show (restF F a).length=d from g1) ha]) fun i=>by
   have e3:at_ a i=c*at_ (prime a) i:=by rw [<- aB,e]
   rw [aB,at_mix (g1.trans hl.symm)];unfold restF;rw [at_mix (g1.trans ha.symm),e3]; grind
  rw [e2] at t; exact t
 ·by_cases hz:∀ i,at_ a i=0
  ·exact .inr fun i=>(km i).1.2 (hz i)
  ·exact .inl (iq (YV.1 hz))
def signed_length {a:V} {p:Nat} (ha:a.length=d):(signed a p).length=d:=by unfold signed; split <;> simp [scl,ha]
def KO {a:V} {p:Nat} (q:Nat):at_ (signed a p) q=0 ↔ at_ a q=0:=by
 unfold signed;split
 ·rw [aB]; omega
 ·exact YR
def Hq {a:V} {p:Nat} (h:at_ a p≠0):0<at_ (signed a p) p:=by
 unfold signed;split
 ·rw [aB]; omega
 ·omega
def Ab {B:V->Prop} (hB:∀ x,B x->x.length=d) {a:V} {p:Nat} (ha:a.length=d):Spn d B (signed a p) ↔ Spn d B a:=by
 unfold signed;split
 ·exact ⟨fun h=>pt hB ha zO h,fun h=>Spn.smul hB h (-1)⟩
 ·exact YR
def yy (a:V):content (scl (-1) a)=content a:=by
 have key:∀ (x:V) (g:Nat),(scl (-1) x).foldl (fun g a=>Nat.gcd g a.natAbs) g=x.foldl (fun g a=>Nat.gcd g a.natAbs) g:=by
  intro x
  induction x with
  | nil=>intro g; rfl
  | cons b x ih =>
   intro g;simp only [scl,Ve,WQ] at ih ⊢;rw [show (-1*b).natAbs=b.natAbs by rw [Int.neg_one_mul,Yj]];exact ih _
 exact key a 0
def Fh {a:V} {p:Nat} (h:content a=1):content (signed a p)=1:=by
 unfold signed;split
 ·rw [yy]; exact h
 ·exact h
def mem_insP {x y:V} {p:Nat}:∀ {G:List V},y∈insP x p G ↔ y=x\/y∈G
 | []=>by simp [insP]
 | r :: G=>by
  unfold insP;split
  ·rw [VA,mem_insP,VA];constructor
   ·rintro (h | h | h)
    ·exact .inr (.inl h)
    ·exact .inl h
    ·exact .inr (.inr h)
   ·rintro (h | h | h)
    ·exact .inr (.inl h)
    ·exact .inl h
    ·exact .inr (.inr h)
  ·simp
def tq {rel:V->V->Prop} {x:V} {p:Nat}:∀ {G:List V},G.Pairwise rel->(∀ r∈G,rel r x/\rel x r)->(insP x p G).Pairwise rel
 | [],_,_=>by simp [insP]
 | r :: G,h,hx=>by
  obtain ⟨h1,h2⟩:=W2.1 h;unfold insP;split
  ·refine W2.2 ⟨fun y hy=>?_,tq h2 fun s hs=>hx s (Vd _ hs)⟩;rcases mem_insP.1 hy with rfl | hy
   ·exact (hx r (Vh ..)).1
   ·exact h1 y hy
  ·refine W2.2 ⟨fun y hy=>(hx y hy).2,h⟩
def lJ {a b c d:Nat} (ha:a<d) (hb:b<d) (hc:c<d) (h1:before a b=true) (h2:before b c=true):before a c=true:=by
 rw [before_iff ha hb] at h1;rw [before_iff hb hc] at h2;rw [before_iff ha hc];omega
def p8 {a b d:Nat} (ha:a<d) (hb:b<d) (hne:a≠b):before a b=true\/before b a=true:=by
 rw [before_iff ha hb,before_iff hb ha];unfold rank;split <;> split <;> omega
def ym {x:V} {p:Nat} (hp:pv x=p) (hpd:p<d):∀ {G:List V},(∀ r∈G,pv r<d/\pv r≠p)->G.Pairwise (fun r s=>before (pv r) (pv s)=true)->(insP x p G).Pairwise (fun r s=>before (pv r) (pv s)=true)
 | [],_,_=>by simp [insP]
 | r :: G,hG,h=>by
  obtain ⟨h1,h2⟩:=W2.1 h;obtain ⟨hr1,hr2⟩:=hG r (Vh ..);unfold insP;split
  ·rename_i hb;refine W2.2 ⟨fun y hy=>?_,ym hp hpd (fun s hs=>hG s (Vd _ hs)) h2⟩;rcases mem_insP.1 hy with rfl | hy
   ·rw [hp]; exact hb
   ·exact h1 y hy
  ·rename_i hb;have hb':before p (pv r)=true:=(p8 hr1 hpd hr2).resolve_left hb;refine W2.2 ⟨fun y hy=>?_,h⟩;rw [hp];rcases VA.1 hy with rfl | hy
   ·exact hb'
   ·exact lJ hpd hr1 (hG y (Vd _ hy)).1 hb' (h1 y hy)
def put_ech (h:Ech d F) {a:V} (ha:a.length=d):Ech d (putF F a)/\∀ x,Spn d (· ∈ putF F a) x ↔ Spn d (fun y=>y∈F\/y=a) x:=by
 obtain ⟨g1,g2,⟨m,k,hm,hk,g3⟩,g4⟩:=Fs h ha;have lF:∀ y,(y∈F\/y=a)->y.length=d:=fun y hy=>by rcases hy with hy | rfl <;> first | exact h.len y hy | exact ha
 unfold putF;split
 ·rename_i hn;have hz:=pivot_none.1 hn;refine ⟨h,fun x=>⟨fun hx=>hx.mono (fun y hy=>.inl hy) (fun r h=>h),fun hx=>oH lF (fun y hy=>h.len y hy) (fun y hy=>?_) hx⟩⟩;rcases hy with hy | rfl
  ·exact dN (h.len y hy) hy
  ·have e:mix m (restF F y) (-k) y=scl (-k) y:=aL (by rw [mix_length g1 ha,ah ha]) fun i=>by rw [at_mix (g1.trans ha.symm),aB,hz i]; simp
   rw [e] at g3;exact pt (fun x hx=>h.len x hx) ha zO g3
 ·rename_i p hp;obtain ⟨hp1,hp2,hp3⟩:=pivot_some.1 hp;rw [g1] at hp1 hp3
  generalize hb:signed (restF F a) p=b at *
  have hbl:b.length=d:=by rw [<- hb]; exact signed_length g1
  have hb0:0<at_ b p:=by rw [<- hb]; exact Hq hp2
  have hbz:∀ q,at_ b q=0 ↔ at_ (restF F a) q=0:=fun q=>by rw [<- hb]; exact KO q
  have hbc:content b=1:=by
   rw [<- hb];exact Fh (g4.resolve_right fun hz=>hp2 (hz p))
  have hbp:pivot b=some p:=pivot_some.2 ⟨by rw [hbl]; exact hp1,zO,fun q hq hbq=>by rw [hbl] at hq; exact (hbz q).2 (hp3 q hq hbq)⟩;have hbF:∀ r∈F,at_ b (pv r)=0:=fun r hr=>(hbz _).2 (g2 r hr);have hpF:∀ r∈F,pv r≠p:=fun r hr e=>by have:=hbF r hr; rw [e] at this; omega
  have hw:∀ r∈F,(wo r b p).length=d/\pivot (wo r b p)=some (pv r)/\0<at_ (wo r b p) (pv r)/\content (wo r b p)=1/\at_ (wo r b p) p=0:=fun r hr=>by
   have hrl:=h.len r hr;obtain ⟨q1,q2,q3⟩:=h.pos hr;have w1:=RM hrl hbl hb0 (hbF r hr) q2;refine ⟨wo_length hrl hbl,pivot_some.2 ⟨by rw [wo_length hrl hbl]; exact q3,zO,fun q hq hbq=>?_⟩,w1,I7 hrl hbl (h.cont r hr) (q:=pv r) zO,Dk hrl hbl hb0⟩;rw [wo_length hrl hbl] at hq;have hrq:at_ r q=0:=(pivot_some.1 q1).2.2 q (by rw [hrl]; exact hq) hbq;rcases p8 q3 hp1 (hpF r hr) with hbf | hbf
   ·exact zf hrl hbl ((pivot_some.1 hbp).2.2 q (by rw [hbl]; exact hq) (lJ hq q3 hp1 hbq hbf)) hrq
   ·have:at_ r p=0:=(pivot_some.1 q1).2.2 p (by rw [hrl]; exact hp1) hbf
    unfold wo;rw [if_pos this];exact hrq
  have hpvw:∀ r∈F,pv (wo r b p)=pv r:=fun r hr=>NM (hw r hr).2.1;have hpvb:pv b=p:=NM hbp;have hmem:∀ y,y∈insP b p (F.map fun r=>wo r b p) ↔ y=b\/∃ r∈F,wo r b p=y:=fun y=>by rw [mem_insP,Va]
  refine ⟨⟨?_,?_,?_,?_,?_⟩,?_⟩
  ·intro y hy;rcases (hmem y).1 hy with rfl | ⟨r,hr,rfl⟩
   ·exact hbl
   ·exact (hw r hr).1
  ·intro y hy;rcases (hmem y).1 hy with rfl | ⟨r,hr,rfl⟩
   ·exact ⟨p,hbp,hb0⟩
   ·exact ⟨_,(hw r hr).2.1,(hw r hr).2.2.1⟩
  ·intro y hy;rcases (hmem y).1 hy with rfl | ⟨r,hr,rfl⟩
   ·exact hbc
   ·exact (hw r hr).2.2.2.1
  ·refine tq (Wx.2 (h.clear.imp_of_mem fun {r s} hr hs hc=>?_)) fun y hy=>?_
   ·rw [hpvw r hr,hpvw s hs];exact ⟨zf (h.len r hr) hbl (hbF s hs) hc.1,zf (h.len s hs) hbl (hbF r hr) hc.2⟩
   ·obtain ⟨r,hr,rfl⟩:=Va.1 hy;rw [hpvw r hr,hpvb];exact ⟨⟨(hw r hr).2.2.2.2,hbF r hr⟩,⟨hbF r hr,(hw r hr).2.2.2.2⟩⟩
  ·refine ym hpvb hp1 (fun y hy=>?_) (Wx.2 (h.sorted.imp_of_mem fun {r s} hr hs hc=>?_))
   ·obtain ⟨r,hr,rfl⟩:=Va.1 hy;rw [hpvw r hr];exact ⟨(h.pos hr).2.2,hpF r hr⟩
   ·rw [hpvw r hr,hpvw s hs]; exact hc
  ·have lN:∀ y,y∈insP b p (F.map fun r=>wo r b p)->y.length=d:=fun y hy=>by
    rcases (hmem y).1 hy with rfl | ⟨r,hr,rfl⟩
    ·exact hbl
    ·exact (hw r hr).1
   have hbS:Spn d (fun y=>y∈F\/y=a) b:=by
    rw [<- hb,Ab lF g1];have t:=Spn.sum2 lF (g3.mono (fun y hy=>.inl hy) (fun r h=>h)) (dN (B:=fun y=>y∈F\/y=a) ha (.inr rfl)) 1 k;have e:mix 1 (mix m (restF F a) (-k) a) k a=scl m (restF F a):=aL (by rw [mix_length (mix_length g1 ha) ha,ah g1]) fun i=>by rw [at_mix ((mix_length g1 ha).trans ha.symm),at_mix (g1.trans ha.symm),aB]; grind
    rw [e] at t;exact pt lF g1 zO t
   have hbN:Spn d (· ∈ insP b p (F.map fun r=>wo r b p)) b:=dN hbl ((hmem b).2 (.inl rfl));have hrN:∀ r∈F,Spn d (· ∈ insP b p (F.map fun r=>wo r b p)) r:=fun r hr=>by
    obtain ⟨k1,hk1,c,hc,s,e1,_⟩:=O5 (h.len r hr) hbl hb0;have t:=Spn.sum2 lN (dN (d:=d) (B:=(· ∈ insP b p (F.map fun r=>wo r b p))) (hw r hr).1 ((hmem _).2 (.inr ⟨r,hr,rfl⟩))) hbN k1 (-s);have e:mix k1 (wo r b p) (-s) b=scl c r:=aL (by rw [mix_length (hw r hr).1 hbl,ah (h.len r hr)]) fun i=>by
     have e3:k1*at_ (wo r b p) i=c*at_ r i+s*at_ b i:=by rw [<- aB,e1,at_mix ((h.len r hr).trans hbl.symm)]
     rw [at_mix ((hw r hr).1.trans hbl.symm),aB]; grind
    rw [e] at t;exact pt lN (h.len r hr) zO t
   refine fun x=>⟨fun hx=>oH lN lF (fun y hy=>?_) hx,fun hx=>oH lF lN (fun y hy=>?_) hx⟩
   ·rcases (hmem y).1 hy with rfl | ⟨r,hr,rfl⟩
    ·exact hbS
    ·obtain ⟨k1,hk1,c,hc,s,e1,_⟩:=O5 (h.len r hr) hbl hb0;have t:=Spn.sum2 lF (dN (d:=d) (B:=fun y=>y∈F\/y=a) (h.len r hr) (.inl hr)) hbS c s;rw [<- e1] at t;exact pt lF (hw r hr).1 zO t
   ·rcases hy with hy | rfl
    ·exact hrN y hy
    ·have t:=Spn.sum2 lN (oH (fun y hy=>h.len y hy) lN hrN g3) ((Ab lN g1).1 (by rw [hb]; exact hbN)) (-1) m;have e:mix (-1) (mix m (restF F y) (-k) y) m (restF F y)=scl k y:=aL (by rw [mix_length (mix_length g1 ha) g1,ah ha]) fun i=>by rw [at_mix ((mix_length g1 ha).trans g1.symm),at_mix (g1.trans ha.symm),aB]; grind
     rw [e] at t;exact pt lN ha zO t
def form_go:∀ (l:List V) (G:List V),Ech d G->(∀ a∈l,a.length=d)->Ech d (l.foldl putF G)/\∀ x,Spn d (· ∈ l.foldl putF G) x ↔ Spn d (fun y=>y∈G\/y∈l) x
 | [],G,h,_=>⟨h,fun x=>by simp⟩
 | a :: l,G,h,hl=>by
  obtain ⟨h1,h2⟩:=put_ech h (hl a (Vh ..));obtain ⟨h3,h4⟩:=form_go l (putF G a) h1 fun b hb=>hl b (Vd _ hb);refine ⟨h3,fun x=>(h4 x).trans ?_⟩;have l1:∀ y,(y∈putF G a\/y∈l)->y.length=d:=fun y hy=>by rcases hy with hy | hy <;> first | exact h1.len y hy | exact hl y (Vd _ hy)
  have l2:∀ y,(y∈G\/y∈a :: l)->y.length=d:=fun y hy=>by rcases hy with hy | hy <;> first | exact h.len y hy | exact hl y hy
  constructor
  ·refine fun hx=>oH l1 l2 (fun y hy=>?_) hx;rcases hy with hy | hy
   ·exact ((h2 y).1 (dN (h1.len y hy) hy)).mono (fun z hz=>by rcases hz with hz | rfl <;> first | exact .inl hz | exact .inr (Vh ..)) (fun r h=>h)
   ·exact dN (hl y (Vd _ hy)) (.inr (Vd _ hy))
  ·refine fun hx=>oH l2 l1 (fun y hy=>?_) hx;rcases hy with hy | hy
   ·exact ((h2 y).2 (dN (h.len y hy) (.inl hy))).mono (fun z hz=>.inl hz) (fun r h=>h)
   ·rcases VA.1 hy with rfl | hy
    ·exact ((h2 y).2 (dN (hl y (Vh ..)) (.inr rfl))).mono (fun z hz=>.inl hz) (fun r h=>h)
    ·exact dN (hl y (Vd _ hy)) (.inr hy)
def form_ech {l:List V} (hl:∀ a∈l,a.length=d):Ech d (formF l)/\∀ x,Spn d (· ∈ formF l) x ↔ Spn d (· ∈ l) x:=by
 obtain ⟨h1,h2⟩:=form_go l [] (Ech.nil d) hl;exact ⟨h1,fun x=>(h2 x).trans (by simp)⟩
def Ech.spn_zero (h:Ech d F) {x:V} (hx:Spn d (· ∈ F) x) (hz:∀ r∈F,at_ x (pv r)=0):∀ i,at_ x i=0:=by
 have key:∀ {x:V},Spn d (· ∈ F) x->∃ k:Int,0<k/\∃ c:V->Int,(∀ i,k*at_ x i=(F.map fun r=>c r*at_ r i).sum):=by
  intro x hx
  induction hx with
  | zero =>
   have zs:∀ G:List V,(G.map fun _=>(0:Int)).sum=0:=fun G=>by induction G with
    | nil=>rfl
    | cons g G ih=>simp [ih]
   exact ⟨1,zO,fun _=>0,fun i=>by rw [ii]; simp only [ZE,Y6]; exact (zs F).symm⟩
  | @line x l n hx hl ih =>
   obtain ⟨k,hk,c,hc⟩:=ih;obtain ⟨j,hj⟩:=VN hl;refine ⟨k,hk,fun r=>c r+(if r=l then k*n else 0),fun i=>?_⟩;rw [at_mix ((hx.length (fun x hx=>h.len x hx) (fun r h=>h.elim)).trans (h.len l hl).symm)];have hnd:F.Nodup:=(h.clear.imp_of_mem fun {r s} hr hs hc e=>by
    subst e
    have:=(h.pos hr).2.1
    omega)
   have e:∀ (G:List V),G.Nodup->(G.map fun r=>(c r+(if r=l then k*n else 0))*at_ r i).sum=(G.map fun r=>c r*at_ r i).sum+(if l∈G then k*n*at_ l i else 0):=by
    intro G
    induction G with
    | nil=>intro _; simp
    | cons g G ihG =>
     intro hg;obtain ⟨hg1,hg2⟩:=XC.1 hg;simp only [Ve,Yd,ihG hg2];by_cases hgl:g=l
     ·subst hgl;simp only [if_pos rfl,VA,true_or,if_true,hg1,if_false]
      grind
     ·have:¬ l=g:=fun e=>hgl e.symm
      simp only [if_neg hgl,VA,this,false_or]
      grind
   rw [e F hnd,if_pos hl,<- hc i]
   grind
  | ray c hc hx hr ih=>exact hr.elim
  | @div x j hj hl hx ih =>
   obtain ⟨k,hk,c,hc⟩:=ih;exact ⟨k*j,WN hk hj,c,fun i=>by rw [<- hc i,aB]; grind⟩
 obtain ⟨k,hk,c,hc⟩:=key hx;have hc0:∀ r∈F,c r=0:=fun r hr=>by
  have e1:=hc (pv r);rw [hz r hr] at e1;have e2:∀ (G:List V),(∀ g∈G,g∈F)->G.Nodup->(G.map fun s=>c s*at_ s (pv r)).sum=if r∈G then c r*at_ r (pv r) else 0:=by
   intro G
   induction G with
   | nil=>intro _ _; simp
   | cons g G ihG =>
    intro hG hg;obtain ⟨hg1,hg2⟩:=XC.1 hg;simp only [Ve,Yd,ihG (fun x hx=>hG x (Vd _ hx)) hg2];by_cases hgr:g=r
    ·subst hgr;simp [hg1]
    ·have hrg:¬ r=g:=fun e=>hgr e.symm;rw [h.clear_of (hG g (Vh ..)) hr hgr];simp [hrg]
  have hnd:F.Nodup:=(h.clear.imp_of_mem fun {r s} hr hs hc e=>by
   subst e
   have:=(h.pos hr).2.1
   omega)
  rw [e2 F (fun g hg=>hg) hnd,if_pos hr] at e1;rcases VB.1 (show c r*at_ r (pv r)=0 by omega) with h1 | h1
  ·exact h1
  ·have:=(h.pos hr).2.1; omega
 intro i;have e1:=hc i;have e2:(F.map fun r=>c r*at_ r i).sum=0:=by
  have:(F.map fun r=>c r*at_ r i)=F.map fun _=>(0:Int):=WV fun r hr=>by rw [hc0 r hr]; simp
  rw [this]
  have:∀ G:List V,(G.map fun _=>(0:Int)).sum=0:=fun G=>by induction G with
   | nil=>rfl
   | cons g G ih=>simp [ih]
  exact this F
 rw [e2] at e1;rcases VB.1 e1 with h1 | h1
 ·omega
 ·exact h1
def Ech.pivot_spn (h:Ech d F) {x:V} (hxl:x.length=d) (hx:Spn d (· ∈ F) x) {p:Nat} (hp:pivot x=some p):∃ r∈F,pv r=p:=by
 obtain ⟨hp1,hp2,hp3⟩:=pivot_some.1 hp;rw [hxl] at hp1 hp3;by_cases hr:∃ r∈F,at_ x (pv r)≠0
 ·
  have ⟨r,hrF,hr0,hmin⟩:∃ r∈F,at_ x (pv r)≠0/\∀ s∈F,at_ x (pv s)≠0->s=r\/before (pv r) (pv s)=true:=by
   have:∀ (G:List V),G.Pairwise (fun r s=>before (pv r) (pv s)=true)->(∃ r∈G,at_ x (pv r)≠0)->∃ r∈G,at_ x (pv r)≠0/\∀ s∈G,at_ x (pv s)≠0->s=r\/before (pv r) (pv s)=true:=by
    intro G
    induction G with
    | nil=>intro _ h; obtain ⟨r,hr,_⟩:=h; cases hr
    | cons g G ih =>
     intro hs hex;obtain ⟨h1,h2⟩:=W2.1 hs;by_cases hg:at_ x (pv g)=0
     ·obtain ⟨r,hr,hr0⟩:=hex;have hrG:r∈G:=by
       rcases VA.1 hr with rfl | hr
       ·exact absurd hg hr0
       ·exact hr
      obtain ⟨r',hr',hr0',hm⟩:=ih h2 ⟨r,hrG,hr0⟩;refine ⟨r',Vd _ hr',hr0',fun s hs hs0=>?_⟩;rcases VA.1 hs with rfl | hs
      ·exact absurd hg hs0
      ·exact hm s hs hs0
     ·refine ⟨g,Vh ..,hg,fun s hs hs0=>?_⟩;rcases VA.1 hs with rfl | hs
      ·exact .inl rfl
      ·exact .inr (h1 s hs)
   exact this F h.sorted hr
  refine ⟨r,hrF,?_⟩;obtain ⟨q1,q2,q3⟩:=h.pos hrF;by_cases he:pv r=p
  ·exact he
  ·exfalso
   rcases p8 q3 hp1 he with hb | hb
   ·exact hr0 (hp3 _ q3 hb)
   ·
    have:∀ r∈F,at_ x (pv r)≠0->at_ r p=0:=fun s hs hs0=>by
     obtain ⟨t1,t2,t3⟩:=h.pos hs;refine (pivot_some.1 t1).2.2 p (by rw [h.len s hs]; exact hp1) ?_;rcases hmin s hs hs0 with rfl | hlt
     ·exact hb
     ·exact lJ hp1 q3 t3 hb hlt
    have key:∀ (G:List V) (y:V),y.length=d->Spn d (· ∈ F) y->(∀ g∈G,g∈F)->(∀ s∈F,s ∉ G->at_ y (pv s)=0)->(∀ s∈F,at_ y (pv s)≠0->at_ s p=0)->G.Nodup->at_ y p=0:=by
     intro G
     induction G with
     | nil=>intro y hy hs _ hz _ _; exact h.spn_zero hs (fun s hs=>hz s hs (by simp)) p
     | cons g G ih =>
      intro y hy hs hG hz hsp hnd;obtain ⟨hg1,hg2⟩:=XC.1 hnd;have hgF:=hG g (Vh ..);obtain ⟨t1,t2,t3⟩:=h.pos hgF;have hgl:=h.len g hgF;have hyz:at_ (mix (at_ g (pv g)) y (-(at_ y (pv g))) g) p=0:=by
       refine ih _ (mix_length hy hgl) (Spn.sum2 (fun x hx=>h.len x hx) hs (dN hgl hgF) _ _) (fun x hx=>hG x (Vd _ hx)) (fun s hsF hsG=>?_) (fun s hsF hs0=>?_) hg2
       ·rw [at_mix (hy.trans hgl.symm)];by_cases hsg:s=g
        ·subst hsg; grind
        ·rw [h.clear_of hgF hsF (fun e=>hsg e.symm),hz s hsF (fun hm=>by rcases VA.1 hm with e | hm <;> first | exact hsg e | exact hsG hm)]; simp
       ·refine hsp s hsF fun e=>hs0 ?_;rw [at_mix (hy.trans hgl.symm),e];by_cases hsg:s=g
        ·subst hsg; rw [e]; simp
        ·rw [h.clear_of hgF hsF (fun e=>hsg e.symm)]; simp
      rw [at_mix (hy.trans hgl.symm)] at hyz;by_cases hy0:at_ y (pv g)=0
      ·rw [hy0] at hyz;rcases VB.1 (show at_ g (pv g)*at_ y p=0 by simpa using hyz) with h1 | h1
       ·omega
       ·exact h1
      ·rw [hsp g hgF hy0] at hyz;rcases VB.1 (show at_ g (pv g)*at_ y p=0 by simpa using hyz) with h1 | h1
       ·omega
       ·exact h1
    have hnd:F.Nodup:=(h.clear.imp_of_mem fun {r s} hr hs hc e=>by
     subst e
     have:=(h.pos hr).2.1
     omega)
    exact hp2 (key F x hxl hx (fun g hg=>hg) (fun s hs hn=>absurd hs hn) this hnd)
 ·exfalso
  exact hp2 (h.spn_zero hx (fun r hrF=>YC.1 fun e=>hr ⟨r,hrF,e⟩) p)
def Ech.unique {G:List V} (hF:Ech d F) (hG:Ech d G) (hs:∀ x,Spn d (· ∈ F) x ↔ Spn d (· ∈ G) x):F=G:=by
 have sub:∀ {A B:List V},Ech d A->Ech d B->(∀ x,Spn d (· ∈ A) x ↔ Spn d (· ∈ B) x)->∀ r∈A,r∈B:=by
  intro A B hA hB hs r hr;obtain ⟨p1,p2,p3⟩:=hA.pos hr;have hrl:=hA.len r hr;obtain ⟨s,hsB,hsp⟩:=hB.pivot_spn hrl ((hs r).1 (dN hrl hr)) p1;obtain ⟨t1,t2,t3⟩:=hB.pos hsB;have hsl:=hB.len s hsB;have hsz:∀ r'∈A,r'≠r->at_ s (pv r')=0:=fun r' hr' hne=>by
   obtain ⟨s',hs',e'⟩:=hB.pivot_spn (hA.len r' hr') ((hs r').1 (dN (hA.len r' hr') hr')) (hA.pos hr').1;rw [<- e'];refine hB.clear_of hsB hs' fun e=>hne ?_;subst e;exact hA.pv_inj hr' hr (e'.symm.trans hsp)
  rw [hsp] at t2;have hz:=hA.spn_zero (x:=mix (at_ s (pv r)) r (-(at_ r (pv r))) s) (Spn.sum2 (fun x hx=>hA.len x hx) (dN hrl hr) ((hs s).2 (dN hsl hsB)) _ _) (fun r' hr'=>by
   rw [at_mix (hrl.trans hsl.symm)];by_cases hne:r'=r
   ·subst hne; grind
   ·rw [hsz r' hr' hne,hA.clear_of hr hr' (fun e=>hne e.symm)]; simp)
  have:r=s:=uV (hA.cont r hr) (hB.cont s hsB) t2 p2 (aL (by rw [ah hrl,ah hsl]) fun i=>by
   have:=hz i
   rw [at_mix (hrl.trans hsl.symm)] at this;rw [aB,aB]; grind)
  rw [this]; exact hsB
 have hmem:∀ x,x∈F ↔ x∈G:=fun x=>⟨sub hF hG hs x,sub hG hF (fun x=>(hs x).symm) x⟩
 have nodup:∀ {A:List V},Ech d A->A.Nodup:=fun hA=>hA.clear.imp_of_mem fun {r s} hr hs hc e=>by
  subst e
  have:=(hA.pos hr).2.1
  omega
 have hperm:F.Perm G:=(Zh (nodup hF) (nodup hG)).2 hmem;refine Zx (le:=fun r s=>before (pv r) (pv s)=true) (fun r s hr hs h1 h2=>?_) hF.sorted hG.sorted hperm
 exfalso
 have q1:=(hF.pos hr).2.2;have q2:=(hG.pos hs).2.2
 have:=lJ q1 q2 q1 h1 h2
 rw [B5] at this;cases this
def yf (h:Ech d F) {x y:V} (hx:x.length=d) (hy:y.length=d) (hxz:∀ r∈F,at_ x (pv r)=0) (hyz:∀ r∈F,at_ y (pv r)=0) (hxc:content x=1) (hyc:content y=1) {m n:Int} (hm:0<m) (hn:0<n) (hs:Spn d (· ∈ F) (mix m x (-n) y)):x=y:=by
 have hz:=h.spn_zero hs fun r hr=>by rw [at_mix (hx.trans hy.symm),hxz r hr,hyz r hr]; simp
 exact uV hxc hyc hm hn (aL (by rw [ah hx,ah hy]) fun i=>by
  have:=hz i
  rw [at_mix (hx.trans hy.symm)] at this;rw [aB,aB]; grind)
end
structure Under where
 lines:List V
 rays:List V
 done:List V
def unitV (d i:Nat):V:=(lc d).set i 1
def startU (d:Nat):Under:=⟨(List.range d).map (unitV d),[],[]⟩
def upV (a u:V):V:=if dot a u<0 then scl (-1) u else u
def addU (a:V) (eq:Bool) (u:Under):Under :=
 match u.lines.findIdx? fun l=>!decide (dot a l=0) with
 | none=>⟨u.lines,cutL u.done a eq u.rays,u.done++if eq then [] else [a]⟩
 | some i=>⟨(u.lines.eraseIdx i).map (foldV a (upV a (u.lines.getD i []))),u.rays.map (foldV a (upV a (u.lines.getD i [])))++(if eq then [] else [upV a (u.lines.getD i [])]),u.done++if eq then [] else [a]⟩
def gensU (d:Nat) (eqs ineqs:List V):Under:=ineqs.foldl (fun u a=>addU a false u) (eqs.foldl (fun u a=>addU a true u) (startU d))
def cmpV:V->V->Bool
 | [],_=>true
 | _ :: _,[]=>false
 | a :: x,b :: y=>if a<b then true else if a=b then cmpV x y else false
def gensL (d:Nat) (eqs ineqs:List V):List V:=formF (gensU d eqs ineqs).lines
def gensR (d:Nat) (eqs ineqs:List V):List V:=((gensU d eqs ineqs).rays.map (restF (gensL d eqs ineqs))).mergeSort cmpV
section
variable {d:Nat} {E:V->Prop}
def nF {i j:Nat} (hi:i<d):at_ (unitV d i) j=if j=i then 1 else 0:=by
 unfold at_ unitV lc;rw [U5,W9];by_cases h:i=j
 ·subst h; simp [hi]
 ·have h':¬ j=i:=fun e=>h e.symm;rw [if_neg h,if_neg h',V9];split <;> rfl
def oG:DD d (fun _=>False) (· ∈ ([]:List V)) (· ∈ (startU d).lines) (startU d).rays:=by
 refine ⟨fun l hl=>?_,fun l hl e he=>he.elim,fun l hl i hi=>(by cases hi),fun x hx _ _=>?_,fun r hr=>(by cases hr),fun x hx=>?_,fun r hr=>(by cases hr),fun r hr=>(by cases hr),List.Pairwise.nil⟩
 ·obtain ⟨i,-,rfl⟩:=Va.1 hl;simp [unitV,lc]
 all_goals
  first
  | (have hx:=hx.len)
  | skip
 all_goals
  have hl:∀ l,l∈(startU d).lines->l.length=d:=fun l hl=>by
   obtain ⟨i,-,rfl⟩:=Va.1 hl;simp [unitV,lc]
  have key:∀ n,n<=d->Spn d (· ∈ (startU d).lines) (x.take n++lc (d-n)):=by
   intro n
   induction n with
   | zero=>intro _; simp; exact .zero
   | succ n ih =>
    intro hn;have hlen:(x.take n++lc (d-n)).length=d:=by simp [lc,hx]; omega
    have hu:(unitV d n).length=d:=by simp [unitV,lc]
    have e:x.take (n+1)++lc (d-(n+1))=mix 1 (x.take n++lc (d-n)) (at_ x n) (unitV d n):=aL (by rw [mix_length hlen hu]; simp [lc,hx]; omega) fun i=>by
     rw [at_mix (hlen.trans hu.symm),nF zO];have g:∀ m,m<=d->at_ (x.take m++lc (d-m)) i=if i<m then at_ x i else 0:=fun m hm=>by
      unfold at_;rw [U5,List.getElem?_append]
      have:(x.take m).length=m:=by simp [hx]; omega
      rw [this];by_cases hi:i<m
      ·rw [if_pos hi,if_pos hi,Vv,if_pos hi,U5]
      ·rw [if_neg hi,if_neg hi];unfold lc;rw [V9];split <;> rfl
     rw [g (n+1) hn,g n zO];by_cases h1:i<n
     ·rw [if_pos zO,if_pos h1,if_neg zO]; grind
     ·by_cases h2:i=n
      ·subst h2; rw [if_pos zO,if_neg zO,if_pos rfl]; grind
      ·rw [if_neg zO,if_neg h1,if_neg h2]; grind
    rw [e];exact .line _ (ih zO) (Va.2 ⟨n,Wm.2 zO,rfl⟩)
  have hk:=key d (Vb _);have e:x.take d++lc (d-d)=x:=by rw [VF zO]; simp [lc]
  rw [e] at hk
 ·exact hk
 ·exact hk.mono (fun _ h=>h) (fun r h=>h.elim)
def IY {u:Under} {a:V} (h:DD d E (· ∈ u.done) (· ∈ u.lines) u.rays) (ha:a.length=d) (eq:Bool) :
  DD d (fun e=>E e\/(eq=true/\e=a)) (· ∈ (addU a eq u).done) (· ∈ (addU a eq u).lines) (addU a eq u).rays:=by
 unfold addU;split
 ·rename_i hn;refine SJ h (fun x hx=>?_) eq
  have:=Xv.1 hn x hx
  simpa using this
 ·rename_i i hi;obtain ⟨hi1,hi2,-⟩:=V2.1 hi;have hl:u.lines.getD i []=u.lines[i]:=by simp [U5,hi1]
  rw [hl];have hm:u.lines[i]∈u.lines:=U9 hi1;have hne:dot a u.lines[i]≠0:=by simpa using hi2
  have hll:=h.lenL _ hm;have hs:∃ s:Int,(s=1\/s = -1)/\upV a u.lines[i]=scl s u.lines[i]:=by
   unfold upV;split
   ·exact ⟨-1,.inr rfl,rfl⟩
   ·exact ⟨1,.inl rfl,(uO _).symm⟩
  obtain ⟨s,hs1,hs2⟩:=hs;have hpos:0<dot a (upV a u.lines[i]):=by
   unfold upV;split
   ·rw [dot_scl]; omega
   ·omega
  refine QH h ha (fun x hx=>?_) (fun x hx=>VM hx) (by rw [hs2]; exact ah hll) (fun e he=>?_) (fun j hj=>?_) hpos eq
  ·obtain ⟨j,hj⟩:=VN hx;by_cases hji:j=i
   ·right
    subst hji;rw [U7 hi1] at hj;cases hj;refine ⟨s,?_⟩;rw [hs2];rcases hs1 with rfl | rfl
    ·rw [uO,uO]
    ·exact aL (by simp [scl]) fun t=>by rw [aB,aB]; omega
   ·left
    exact X6.2 ⟨j,hji,hj⟩
  ·rw [hs2,dot_scl,h.lineE _ hm e he]; simp
  ·rw [hs2,dot_scl,h.lineI _ hm j hj]; simp
def DD.congr {E E' I I' L L':V->Prop} {R:List V} (h:DD d E I L R) (hE:∀ x,E x ↔ E' x) (hI:∀ x,I x ↔ I' x) (hL:∀ x,L x ↔ L' x):DD d E' I' L' R:=by
 have e1:E=E':=funext fun x=>propext (hE x);have e2:I=I':=funext fun x=>propext (hI x);have e3:L=L':=funext fun x=>propext (hL x);subst e1; subst e2; subst e3; exact h
def zo:∀ (l:List V) (u:Under) (E:V->Prop),DD d E (· ∈ u.done) (· ∈ u.lines) u.rays->(∀ a∈l,a.length=d) ->
  DD d (fun e=>E e\/e∈l) (· ∈ (l.foldl (fun u a=>addU a true u) u).done) (· ∈ (l.foldl (fun u a=>addU a true u) u).lines) (l.foldl (fun u a=>addU a true u) u).rays/\(l.foldl (fun u a=>addU a true u) u).done=u.done
 | [],u,E,h,_=>⟨h.congr (fun x=>by simp) (fun x=>YR) (fun x=>YR),rfl⟩
 | a :: l,u,E,h,hl=>by
  obtain ⟨h1,h2⟩:=zo l (addU a true u) _ (IY h (hl a (Vh ..)) true) fun b hb=>hl b (Vd _ hb);simp only [WQ];refine ⟨h1.congr (fun x=>?_) (fun x=>YR) (fun x=>YR),h2.trans ?_⟩
  ·rw [VA]; simp only [true_and]; exact or_assoc
  ·unfold addU; split <;> simp
def xS:∀ (l:List V) (u:Under),DD d E (· ∈ u.done) (· ∈ u.lines) u.rays->(∀ a∈l,a.length=d) ->
  DD d E (· ∈ (l.foldl (fun u a=>addU a false u) u).done) (· ∈ (l.foldl (fun u a=>addU a false u) u).lines) (l.foldl (fun u a=>addU a false u) u).rays/\(l.foldl (fun u a=>addU a false u) u).done=u.done++l
 | [],u,h,_=>⟨h,by simp⟩
 | a :: l,u,h,hl=>by
  obtain ⟨h1,h2⟩:=xS l (addU a false u) ((IY h (hl a (Vh ..)) false).congr (fun x=>by simp) (fun x=>YR) (fun x=>YR)) fun b hb=>hl b (Vd _ hb);simp only [WQ];refine ⟨h1,h2.trans ?_⟩;unfold addU; split <;> simp
def gensU_dd {eqs ineqs:List V} (h1:∀ a∈eqs,a.length=d) (h2:∀ a∈ineqs,a.length=d):DD d (· ∈ eqs) (· ∈ ineqs) (· ∈ (gensU d eqs ineqs).lines) (gensU d eqs ineqs).rays:=by
 obtain ⟨g1,g2⟩:=zo eqs (startU d) _ oG h1;obtain ⟨g3,g4⟩:=xS ineqs _ g1 h2;refine g3.congr (fun x=>by simp) (fun x=>?_) (fun x=>YR);rw [g4,g2];simp [startU]
def DD.rep {I L L':V->Prop} {R:List V} (h:DD d E I L R) (hL':∀ x,L' x->x.length=d) (hs:∀ x,Spn d L x ↔ Spn d L' x) (f:V->V) (hf:∀ r∈R,(f r).length=d/\∃ m k:Int,0<m/\0<k/\Spn d L (mix m (f r) (-k) r)):DD d E I L' (R.map f):=by
 have hdot:∀ r∈R,∃ m k:Int,0<m/\0<k/\∀ b,(∀ l,L l->dot b l=0)->m*dot b (f r)=k*dot b r:=fun r hr=>by
  obtain ⟨hl,m,k,hm,hk,hsp⟩:=hf r hr;refine ⟨m,k,hm,hk,fun b hb=>?_⟩
  have:=Con.dot_zero (a:=b) h.lenL (fun r h=>h.elim) hb (fun r h=>h.elim) hsp
  rw [aT _ _ _ (hl.trans (h.lenR r hr).symm),YT] at this;omega
 have hz:∀ r∈R,∀ b,(∀ l,L l->dot b l=0)->(dot b (f r)=0 ↔ dot b r=0):=fun r hr b hb=>by
  obtain ⟨m,k,hm,hk,e⟩:=hdot r hr;have e:=e b hb;constructor
  ·intro h0;rw [h0] at e;rcases VB.1 (show k*dot b r=0 by omega) with h1 | h1
   ·omega
   ·exact h1
  ·intro h0;rw [h0] at e;rcases VB.1 (show m*dot b (f r)=0 by omega) with h1 | h1
   ·omega
   ·exact h1
 have lI:∀ i,I i->∀ l,L l->dot i l=0:=fun i hi l hl=>h.lineI l hl i hi;have lE:∀ e,E e->∀ l,L l->dot e l=0:=fun e he l hl=>h.lineE l hl e he;have line0:∀ b,(∀ l,L l->dot b l=0)->∀ x,L' x->dot b x=0:=fun b hb x hx =>
  Con.dot_zero (a:=b) h.lenL (fun r h=>h.elim) hb (fun r h=>h.elim) ((hs x).2 (dN (hL' x hx) hx))
 have hfl:∀ x,x∈R.map f->x.length=d:=fun x hx=>by
  obtain ⟨r,hr,rfl⟩:=Va.1 hx;exact (hf r hr).1
 refine ⟨hL',fun l hl e he=>line0 e (lE e he) l hl,fun l hl i hi=>line0 i (lI i hi) l hl,fun x hx hE hI=>(hs x).1 (h.lines x hx hE hI),?_,?_,?_,?_,?_⟩
 ·intro x hx;obtain ⟨r,hr,rfl⟩:=Va.1 hx;refine ⟨(hf r hr).1,fun e he=>(hz r hr e (lE e he)).2 ((h.keep r hr).eq e he),fun i hi=>?_⟩;obtain ⟨m,k,hm,hk,e⟩:=hdot r hr;have e:=e i (lI i hi)
  have:=VS (W5 hk) ((h.keep r hr).ge i hi)
  rw [<- e] at this;exact W7 this hm
 ·intro x hx;refine Con.trans hL' hfl (fun l hl c=>((hs _).1 (Spn.smul h.lenL (dN (h.lenL l hl) hl) c)).mono (fun _ h=>h) (fun r h=>h.elim)) (fun r hr=>?_) h.lenL h.lenR (h.all x hx);obtain ⟨hl,m,k,hm,hk,hsp⟩:=hf r hr;refine .div k hk (h.lenR r hr) ?_;have e:scl k r=mix 1 (scl m (f r)) 1 (scl (-1) (mix m (f r) (-k) r)):=aL (by rw [ah (h.lenR r hr),mix_length (ah hl) (ah (mix_length hl (h.lenR r hr)))]) fun i=>by
   rw [aB,at_mix ((ah hl).trans (ah (mix_length hl (h.lenR r hr))).symm),aB,aB,at_mix (hl.trans (h.lenR r hr).symm)]; grind
  rw [e];have t1:Con d L' (· ∈ R.map f) (scl m (f r)):=(Con.of_ray hl (WW hr)).smul hL' hfl m zO;have t2:Con d L' (· ∈ R.map f) (scl (-1) (mix m (f r) (-k) r)):=((hs _).1 (Spn.smul h.lenL hsp (-1))).mono (fun _ h=>h) (fun r h=>h.elim);exact t2.add hL' hfl _ t1
 ·intro x hx;obtain ⟨r,hr,rfl⟩:=Va.1 hx;obtain ⟨i,hi,hn⟩:=h.off r hr;exact ⟨i,hi,fun e=>hn ((hz r hr i (lI i hi)).1 e)⟩
 ·intro x hx y hy hsat;obtain ⟨r,hr,rfl⟩:=Va.1 hx;obtain ⟨k1,c1,hk1,hc1,hsp1⟩:=h.ext r hr y hy fun i hi e=>hsat i hi ((hz r hr i (lI i hi)).2 e);obtain ⟨hl,m,k,hm,hk,hsp⟩:=hf r hr;refine ⟨k*k1,c1*m,WN hk hk1,VS hc1 zO,(hs _).1 ?_⟩;have t:=Spn.sum2 h.lenL hsp1 hsp k (-c1);have e:mix k (mix k1 y (-c1) r) (-c1) (mix m (f r) (-k) r)=mix (k*k1) y (-(c1*m)) (f r):=aL (by rw [mix_length (mix_length hy.len (h.lenR r hr)) (mix_length hl (h.lenR r hr)),mix_length hy.len hl]) fun i=>by
   rw [at_mix ((mix_length hy.len (h.lenR r hr)).trans (mix_length hl (h.lenR r hr)).symm),at_mix (hy.len.trans (h.lenR r hr).symm),at_mix (hl.trans (h.lenR r hr).symm),at_mix (hy.len.trans hl.symm)]; grind
  rw [e] at t; exact t
 ·refine Wx.2 (h.apart.imp_of_mem fun {r s} hr hs' hne h2=>hne fun i hi=>?_)
  have:=h2 i hi
  rw [hz r hr i (lI i hi),hz s hs' i (lI i hi)] at this;exact this
def DD.perm {I L:V->Prop} {R R':List V} (h:DD d E I L R) (hp:R.Perm R'):DD d E I L R':=by
 have hm:∀ x,x∈R' ↔ x∈R:=fun x=>hp.mem_iff.symm;refine ⟨h.lenL,h.lineE,h.lineI,h.lines,fun r hr=>h.keep r ((hm r).1 hr),fun x hx=>(h.all x hx).mono (fun _ h=>h) (fun r hr=>(hm r).2 hr),fun r hr=>h.off r ((hm r).1 hr),fun r hr=>h.ext r ((hm r).1 hr),?_⟩;exact (hp.pairwise_iff (fun {r s} hne h2=>hne fun i hi=>(h2 i hi).symm)).1 h.apart
def cmpV_refl:∀ x:V,cmpV x x=true
 | []=>rfl
 | a :: x=>by simp [cmpV,cmpV_refl x]
def cmpV_trans:∀ a b c:V,cmpV a b=true->cmpV b c=true->cmpV a c=true
 | [],_,_,_,_=>rfl
 | _ :: _,[],_,h,_=>by simp [cmpV] at h
 | _ :: _,_ :: _,[],_,h=>by simp [cmpV] at h
 | a :: x,b :: y,c :: z,h1,h2=>by
  have ih:=cmpV_trans x y z;simp only [cmpV] at h1 h2 ⊢;split at h1
  ·split at h2
   ·rw [if_pos zO]
   ·split at h2
    ·rw [if_pos zO]
    ·cases h2
  ·split at h1
   ·split at h2
    ·rw [if_pos zO]
    ·split at h2
     ·rw [if_neg zO,if_pos zO]; exact ih h1 h2
     ·cases h2
   ·cases h1
def cmpV_total:∀ a b:V,(cmpV a b || cmpV b a)=true
 | [],_=>by simp [cmpV]
 | _ :: _,[]=>by simp [cmpV]
 | a :: x,b :: y=>by
  have ih:=cmpV_total x y;simp only [cmpV];by_cases h1:a<b
  ·simp [h1]
  ·by_cases h2:a=b
   ·subst h2; simpa using ih
   ·have:b<a:=zO
    simp [this]
def cmpV_antisymm:∀ a b:V,cmpV a b=true->cmpV b a=true->a=b
 | [],[],_,_=>rfl
 | [],_ :: _,_,h=>by simp [cmpV] at h
 | _ :: _,[],h,_=>by simp [cmpV] at h
 | a :: x,b :: y,h1,h2=>by
  have ih:=cmpV_antisymm x y;simp only [cmpV] at h1 h2;split at h1
  ·split at h2
   ·omega
   ·split at h2
    ·omega
    ·cases h2
  ·split at h1
   ·split at h2
    ·omega
    ·split at h2
     ·rename_i e _ _; rw [e,ih h1 h2]
     ·cases h2
   ·cases h1
structure y8 (d:Nat) (E I:V->Prop) (L R:List V):Prop where
 dd:DD d E I (· ∈ L) R
 form:Ech d L
 rest:∀ r∈R,∀ l∈L,at_ r (pv l)=0
 cont:∀ r∈R,content r=1
 sorted:R.Pairwise fun r s=>cmpV r s=true
def gens_told {eqs ineqs:List V} (h1:∀ a∈eqs,a.length=d) (h2:∀ a∈ineqs,a.length=d):y8 d (· ∈ eqs) (· ∈ ineqs) (gensL d eqs ineqs) (gensR d eqs ineqs):=by
 have h:=gensU_dd h1 h2;obtain ⟨f1,f2⟩:=form_ech (d:=d) (l:=(gensU d eqs ineqs).lines) h.lenL;have hr:∀ r∈(gensU d eqs ineqs).rays,(restF (gensL d eqs ineqs) r).length=d/\(∀ l∈gensL d eqs ineqs,at_ (restF (gensL d eqs ineqs) r) (pv l)=0)/\(∃ m k:Int,0<m/\0<k/\Spn d (· ∈ gensL d eqs ineqs) (mix m (restF (gensL d eqs ineqs) r) (-k) r))/\(content (restF (gensL d eqs ineqs) r)=1\/∀ i,at_ (restF (gensL d eqs ineqs) r) i=0):=fun r hr=>Fs f1 (h.lenR r hr);have hd:DD d (· ∈ eqs) (· ∈ ineqs) (· ∈ gensL d eqs ineqs) ((gensU d eqs ineqs).rays.map (restF (gensL d eqs ineqs))):=h.rep f1.len (fun x=>(f2 x).symm) _ fun r hr'=>by
  obtain ⟨g1,g2,⟨m,k,hm,hk,g3⟩,g4⟩:=hr r hr';exact ⟨g1,m,k,hm,hk,(f2 _).1 g3⟩
 have hp:((gensU d eqs ineqs).rays.map (restF (gensL d eqs ineqs))).Perm (gensR d eqs ineqs):=(Z3 _ _).symm;refine ⟨hd.perm hp,f1,fun r hr' l hl=>?_,fun r hr'=>?_,List.pairwise_mergeSort cmpV_trans cmpV_total _⟩
 ·obtain ⟨s,hs,rfl⟩:=Va.1 (hp.mem_iff.2 hr');exact (hr s hs).2.1 l hl
 ·have hm:=hp.mem_iff.2 hr';obtain ⟨s,hs,rfl⟩:=Va.1 hm;refine (hr s hs).2.2.2.resolve_right fun hz=>?_;obtain ⟨i,hi,hn⟩:=hd.off _ hm;refine hn ?_;rw [(IG (hr s hs).1).2 hz,kg]
def OT {L R:V->Prop} (hL:∀ x,L x->x.length=d) (hR:∀ x,R x->x.length=d) {x:V} (h:Con d L R x):Spn d L x\/∃ r,R r/\∃ k c:Int,0<k/\0<c/\∃ y,Con d L R y/\scl k x=mix c r 1 y:=by
 induction h with
 | zero=>exact .inl .zero
 | @line x l c hx hl ih =>
  have h1:=hx.length hL hR;have h2:=hL l hl;rcases ih with ih | ⟨r,hr,k,c1,hk,hc1,y,hy,e⟩
  ·exact .inl (.line c ih hl)
  ·refine .inr ⟨r,hr,k,c1,hk,hc1,_,.line (k*c) hy hl,aL (by rw [ah (mix_length h1 h2),mix_length (hR r hr) (mix_length (hy.length hL hR) h2)]) fun i=>?_⟩;have e3:k*at_ x i=c1*at_ r i+1*at_ y i:=by rw [<- aB,e,at_mix ((hR r hr).trans (hy.length hL hR).symm)]
   rw [aB,at_mix (h1.trans h2.symm),at_mix ((hR r hr).trans (mix_length (hy.length hL hR) h2).symm),at_mix ((hy.length hL hR).trans h2.symm)]; grind
 | @ray x l c hc hx hl ih =>
  have h1:=hx.length hL hR;have h2:=hR l hl;by_cases hc0:c=0
  ·subst hc0;have e:mix 1 x 0 l=x:=aL (by rw [mix_length h1 h2,h1]) fun i=>by rw [at_mix (h1.trans h2.symm)]; grind
   rw [e]; exact ih
  ·exact .inr ⟨l,hl,1,c,zO,zO,x,hx,aL (by rw [ah (mix_length h1 h2),mix_length h2 h1]) fun i=>by rw [aB,at_mix (h1.trans h2.symm),at_mix (h2.trans h1.symm)]; grind⟩
 | @div x j hj hl hx ih =>
  rcases ih with ih | ⟨r,hr,k,c1,hk,hc1,y,hy,e⟩
  ·exact .inl (.div j hj hl ih)
  ·refine .inr ⟨r,hr,k*j,c1,WN hk hj,hc1,y,hy,?_⟩;rw [<- e];exact aL (by simp [scl]) fun i=>by rw [aB,aB,aB]; grind
def E5 {E' I I':V->Prop} {L R L' R':List V} (h:y8 d E I L R) (h':y8 d E' I' L' R') (hs:∀ x,Keep d E I x ↔ Keep d E' I' x) (hL:L=L'):∀ r∈R,r∈R':=by
 intro r hr;subst hL;have hk:=h.dd.keep r hr;have hlin:∀ x,Keep d E I x->Spn d (· ∈ L) x->∀ i,I i->dot i x=0:=fun x _ hx i hi=>Con.dot_zero (a:=i) h.dd.lenL (fun r h=>h.elim) (fun l hl=>h.dd.lineI l hl i hi) (fun r h=>h.elim) hx;rcases OT h'.dd.lenL h'.dd.lenR (h'.dd.all r ((hs r).1 hk)) with hsp | ⟨r',hr',k,c,hk0,hc0,y,hy,e⟩
 ·exfalso
  obtain ⟨i,hi,hn⟩:=h.dd.off r hr;exact hn (hlin r hk hsp i hi)
 ·have hrl':=h'.dd.lenR r' hr';have hyk:Keep d E I y:=(hs y).2 (h'.dd.con_keep hy);have hrk':Keep d E I r':=(hs r').2 (h'.dd.keep r' hr');obtain ⟨k1,c1,hk1,hc1,hsp⟩:=h.dd.ext r hr r' hrk' fun i hi hz=>by
   have e2:k*dot i r=c*dot i r'+1*dot i y:=by rw [<- dot_scl,e,aT _ _ _ (hrl'.trans hyk.len.symm)]
   rw [hz] at e2;have g1:=VS (W5 hc0) (hrk'.ge i hi);have g2:=hyk.ge i hi;rcases VB.1 (show c*dot i r'=0 by omega) with h1 | h1
   ·omega
   ·exact h1
  have hc1':c1≠0:=fun e0=>by
   subst e0;obtain ⟨i',hi',hn'⟩:=h'.dd.off r' hr'
   have:=Con.dot_zero (a:=i') h'.dd.lenL (fun r h=>h.elim) (fun l hl=>h'.dd.lineI l hl i' hi') (fun r h=>h.elim) hsp
   rw [aT _ _ _ (hrl'.trans hk.len.symm)] at this;rcases VB.1 (show k1*dot i' r'=0 by omega) with h1 | h1
   ·omega
   ·exact hn' h1
  have:r'=r:=yf h.form hrl' hk.len (fun l hl=>h'.rest r' hr' l hl) (fun l hl=>h.rest r hr l hl) (h'.cont r' hr') (h.cont r hr) hk1 zO hsp
  rw [<- this]; exact hr'
def qF {E' I I':V->Prop} {L R L' R':List V} (h:y8 d E I L R) (h':y8 d E' I' L' R') (hs:∀ x,Keep d E I x ↔ Keep d E' I' x):L=L'/\R=R':=by
 have lin:∀ {E I:V->Prop} {L R:List V},y8 d E I L R->∀ x,x.length=d->(Spn d (· ∈ L) x ↔ Keep d E I x/\Keep d E I (scl (-1) x)):=by
  intro E I L R h x hx;constructor
  ·intro hsp;have hE:∀ e,E e->dot e x=0:=fun e he=>Con.dot_zero (a:=e) h.dd.lenL (fun r h=>h.elim) (fun l hl=>h.dd.lineE l hl e he) (fun r h=>h.elim) hsp;have hI:∀ e,I e->dot e x=0:=fun e he=>Con.dot_zero (a:=e) h.dd.lenL (fun r h=>h.elim) (fun l hl=>h.dd.lineI l hl e he) (fun r h=>h.elim) hsp;exact ⟨⟨hx,hE,fun i hi=>by rw [hI i hi]; omega⟩,⟨ah hx,fun e he=>by rw [dot_scl,hE e he]; simp,fun i hi=>by rw [dot_scl,hI i hi]; simp⟩⟩
  ·rintro ⟨h1,h2⟩;refine h.dd.lines x hx h1.eq fun i hi=>?_;have g1:=h1.ge i hi;have g2:=h2.ge i hi;rw [dot_scl] at g2;omega
 have hL:L=L':=h.form.unique h'.form fun x=>by
  constructor
  ·intro hx;have hxl:=hx.length h.dd.lenL (fun r h=>h.elim);rw [lin h x hxl] at hx;rw [lin h' x hxl,<- hs,<- hs]; exact hx
  ·intro hx;have hxl:=hx.length h'.dd.lenL (fun r h=>h.elim);rw [lin h' x hxl] at hx;rw [lin h x hxl,hs,hs]; exact hx
 refine ⟨hL,?_⟩;have s1:=E5 h h' hs hL;have s2:=E5 h' h (fun x=>(hs x).symm) hL.symm;have nodup:∀ {E I:V->Prop} {L R:List V},y8 d E I L R->R.Nodup:=fun h=>h.dd.apart.imp fun hne e=>hne fun i hi=>by rw [e]
 refine Zx (le:=fun a b=>cmpV a b=true) (fun a b _ _ h1 h2=>cmpV_antisymm a b h1 h2) h.sorted h'.sorted ((Zh (nodup h) (nodup h')).2 fun x=>⟨s1 x,s2 x⟩)
end
def Bd (M:Nat) (x:V):Prop:=∀ i,(at_ x i).natAbs<=M
def Bd.mono {M N:Nat} (h:M<=N) {x:V} (hx:Bd M x):Bd N x:=fun i=>Vn (hx i) h
def OG {M N:Nat}:∀ {x y:V},(∀ a∈x,a.natAbs<=M)->(∀ b∈y,b.natAbs<=N)->(dot x y).natAbs<=x.length*(M*N)
 | [],y,_,_=>by cases y <;> simp [dot]
 | a :: x,[],_,_=>by simp [dot]
 | a :: x,b :: y,h1,h2=>by
  have ih:=OG (x:=x) (y:=y) (fun c hc=>h1 c (Vd _ hc)) (fun c hc=>h2 c (Vd _ hc));have ha:=h1 a (Vh ..);have hb:=h2 b (Vh ..);simp only [dot,VT];have g:=XQ (a*b) (dot x y);rw [X0] at g
  have:=Wq ha hb
  rw [Wh,X7];omega
def Bd.mem {M:Nat} {x:V} (h:Bd M x):∀ a∈x,a.natAbs<=M:=fun a ha=>by
 obtain ⟨i,rfl⟩:=Ik ha;exact h i
def IW {d M N:Nat} {x y:V} (hx:x.length=d) (h1:Bd M x) (h2:Bd N y):(dot x y).natAbs<=d*(M*N):=by
 have:=OG h1.mem h2.mem
 rw [hx] at this; exact this
def TR {d M b:Nat} {a u x:V} (ha:a.length=d) (hu:u.length=d) (hx:x.length=d) (h1:Bd M a) (h2:Bd b u) (h3:Bd b x):Bd (2*d*M*b*b) (mv a u x):=by
 intro i;unfold mv;rw [at_mix (hx.trans hu.symm)];have g1:=IW ha h1 h2;have g2:=IW ha h1 h3;have t:=XQ (dot a u*at_ x i) (-(dot a x)*at_ u i);rw [X0,X0,Yj] at t;have p1:=Wq g1 (h3 i);have p2:=Wq g2 (h2 i);have e:2*d*M*b*b=d*(M*b)*b+d*(M*b)*b:=by grind
 rw [e]; omega
def oW:List V->List V->List V
 | [],Ls=>Ls
 | a :: S,Ls=>match Ls.findIdx? fun l=>!decide (dot a l=0) with
  | none=>oW S Ls
  | some i=>oW S ((Ls.eraseIdx i).map (mv a (Ls.getD i [])))
def Ey {d M:Nat} (hM:1<=2*d*M):∀ (S Ls:List V) (n b:Nat),Ls.length<=n->1<=b->(∀ a∈S,a.length=d/\Bd M a)->(∀ l∈Ls,l.length=d/\Bd b l)->∀ w∈oW S Ls,w.length=d/\Bd ((2*d*M*b)^2^n) w
 | [],Ls,n,b,hn,hb,hS,hL,w,hw=>by
  refine ⟨(hL w hw).1,(hL w hw).2.mono ?_⟩;have h1:b<=2*d*M*b:=by have:=Vl b hM; omega
  have h2:(2*d*M*b)^1<=(2*d*M*b)^2^n:=Vx zO (Nat.one_le_two_pow);rw [Nat.pow_one] at h2;omega
 | a :: S,Ls,n,b,hn,hb,hS,hL,w,hw=>by
  unfold oW at hw;split at hw
  ·exact Ey hM S Ls n b hn hb (fun c hc=>hS c (Vd _ hc)) hL w hw
  ·rename_i i hi;obtain ⟨hi1,hi2,-⟩:=V2.1 hi;have hl:Ls.getD i []=Ls[i]:=by simp [U5,hi1]
   rw [hl] at hw;have hm:=hL _ (U9 hi1);have ha:=hS a (Vh ..);obtain ⟨n',rfl⟩:∃ n',n=n'+1:=⟨n-1,zO⟩
   have hb':1<=2*d*M*b*b:=by
    have g1:=Wq hM hb;have g2:=Wq g1 hb
    simpa using g2
   have:=Ey hM S _ n' (2*d*M*b*b) (by rw [Vc,Zi hi1]; omega) hb' (fun c hc=>hS c (Vd _ hc)) (fun l hl=>by
    obtain ⟨x,hx,rfl⟩:=Va.1 hl;have hx':=hL x (VM hx);exact ⟨bu hm.1 hx'.1,TR ha.1 hm.1 hx'.1 ha.2 hm.2 hx'.2⟩) w hw
   refine ⟨this.1,this.2.mono (XK ?_)⟩;have e:2*d*M*(2*d*M*b*b)=(2*d*M*b)^2:=by rw [Nat.pow_two]; grind
   rw [e,<- Ym,VJ 2 n',Vt 2 (2^n')]
def sN:∀ {d:Nat} (S Ls:List V),(∀ l∈Ls,l.length=d)->∀ (b:V),(∀ l∈Ls,dot b l=0)->∀ w∈oW S Ls,dot b w=0
 | d,[],Ls,hL,b,hb,w,hw=>hb w hw
 | d,a :: S,Ls,hL,b,hb,w,hw=>by
  unfold oW at hw;split at hw
  ·exact sN S Ls hL b hb w hw
  ·rename_i i hi;obtain ⟨hi1,hi2,-⟩:=V2.1 hi;have hl:Ls.getD i []=Ls[i]:=by simp [U5,hi1]
   rw [hl] at hw;have hm:=U9 hi1;refine sN (d:=d) S _ (fun l hl=>?_) b (fun l hl=>?_) w hw
   ·obtain ⟨x,hx,rfl⟩:=Va.1 hl;exact bu (hL _ hm) (hL x (VM hx))
   ·obtain ⟨x,hx,rfl⟩:=Va.1 hl;rw [xv (hL _ hm) (hL x (VM hx)),hb _ hm,hb x (VM hx)]; simp
def rD:∀ {d:Nat} (S Ls:List V),(∀ l∈Ls,l.length=d)->∀ s∈S,∀ w∈oW S Ls,dot s w=0
 | d,[],Ls,hL,s,hs,w,hw=>by cases hs
 | d,a :: S,Ls,hL,s,hs,w,hw=>by
  unfold oW at hw;split at hw
  ·rename_i hn;rcases VA.1 hs with rfl | hs
   ·exact sN (d:=d) S Ls hL s (fun l hl=>by have:=Xv.1 hn l hl; simpa using this) w hw
   ·exact rD S Ls hL s hs w hw
  ·rename_i i hi;obtain ⟨hi1,hi2,-⟩:=V2.1 hi;have hl:Ls.getD i []=Ls[i]:=by simp [U5,hi1]
   rw [hl] at hw;have hm:=U9 hi1;have hL':∀ l∈(Ls.eraseIdx i).map (mv a Ls[i]),l.length=d:=fun l hl=>by
    obtain ⟨x,hx,rfl⟩:=Va.1 hl;exact bu (hL _ hm) (hL x (VM hx))
   rcases VA.1 hs with rfl | hs
   ·refine sN (d:=d) S _ hL' s (fun l hl=>?_) w hw;obtain ⟨x,hx,rfl⟩:=Va.1 hl;rw [xv (hL _ hm) (hL x (VM hx))]; grind
   ·exact rD S _ hL' s hs w hw
def A7:∀ {d:Nat} (S Ls:List V),(∀ l∈Ls,l.length=d)->∀ x,x.length=d->Spn d (· ∈ Ls) x->(∀ s∈S,dot s x=0)->Spn d (· ∈ oW S Ls) x
 | d,[],Ls,hL,x,hx,hs,_=>hs
 | d,a :: S,Ls,hL,x,hx,hs,hz=>by
  unfold oW;split
  ·exact A7 S Ls hL x hx hs fun s hs=>hz s (Vd _ hs)
  ·rename_i i hi;obtain ⟨hi1,hi2,-⟩:=V2.1 hi;have hl:Ls.getD i []=Ls[i]:=by simp [U5,hi1]
   rw [hl];have hm:=U9 hi1;have hul:=hL _ hm;have hne:dot a Ls[i]≠0:=by simpa using hi2
   have hL':∀ l,l∈(Ls.eraseIdx i).map (mv a Ls[i])->l.length=d:=fun l hl=>by
    obtain ⟨x,hx,rfl⟩:=Va.1 hl;exact bu (hL _ hm) (hL x (VM hx))
   refine A7 S _ hL' x hx ?_ fun s hs=>hz s (Vd _ hs);have t:Spn d (· ∈ (Ls.eraseIdx i).map (mv a Ls[i])) (mv a Ls[i] x):=Con.image (fun l hl=>hL l hl) (fun r h=>h.elim) hL' (fun r h=>h.elim) (mv a Ls[i]) (Ie hul) (fun x y c hx hy=>If hul hx hy) (fun x c hx=>D6 hul hx) (fun x hx=>bu hul hx) (fun y hy c=>by
    obtain ⟨j,hj⟩:=VN hy;by_cases hji:j=i
    ·subst hji;rw [U7 hi1] at hj;cases hj;have e:scl c (mv a Ls[j] Ls[j])=lc d:=by
      rw [Jv hul];exact aL (by simp [scl,lc]) fun t=>by rw [aB,ii]; simp
     rw [e]; exact .zero
    ·exact Con.of_line (bu hul (hL y hy)) (WW (X6.2 ⟨j,hji,hj⟩)) c) (fun r h=>h.elim) hs
   rw [xw hul hx (hz a (Vh ..))] at t;exact pt hL' hx hne t
def JK {d M:Nat} (hd:0<d) (hM:0<M) {S:List V} (hS:∀ a∈S,a.length=d/\Bd M a) {v:V} (hv:v.length=d) (hc:content v=1) (hz:∀ s∈S,dot s v=0)
  (hone:∀ x,x.length=d->(∀ s∈S,dot s x=0)->∃ m n:Int,m≠0/\scl m x=scl n v):Bd ((2*d*M)^2^d) v:=by
 have hLl:∀ l∈(startU d).lines,l.length=d:=fun l hl=>(oG (d:=d)).lenL l hl;have hsp:=A7 S (startU d).lines hLl v hv ((oG (d:=d)).lines v hv (fun e h=>h.elim) (fun i h=>by cases h)) hz;have hbd:∀ l∈(startU d).lines,l.length=d/\Bd 1 l:=fun l hl=>by
  refine ⟨hLl l hl,fun i=>?_⟩;obtain ⟨j,hj,rfl⟩:=Va.1 hl;rw [nF (Wm.1 hj)];split <;> simp
 have hM1:1<=2*d*M:=by have:=Wq (show 1<=2*d by omega) hM; simpa using this
 have hE:=Ey hM1 S (startU d).lines d 1 (by simp [startU]) zO hS hbd;rw [WE] at hE;have ⟨w,hw,j,hj⟩:∃ w∈oW S (startU d).lines,∃ j,at_ w j≠0:=by
  apply VP
  intro hno;have hall:∀ w∈oW S (startU d).lines,∀ j,at_ w j=0:=fun w hw j=>YC.1 fun e=>hno ⟨w,hw,j,e⟩;have hv0:∀ i,at_ v i=0:=by
   have key:∀ {x:V},Spn d (· ∈ oW S (startU d).lines) x->∀ i,at_ x i=0:=by
    intro x hx
    induction hx with
    | zero=>intro i; exact ii
    | @line x l c hx hl ih =>
     intro i;rw [at_mix ((hx.length (fun l hl=>(hE l hl).1) (fun r h=>h.elim)).trans (hE l hl).1.symm),ih i,hall l hl i]; simp
    | ray c hc hx hr ih=>exact hr.elim
    | @div x k hk hl hx ih =>
     intro i
     have:=ih i
     rw [aB] at this;rcases VB.1 this with h | h
     ·omega
     ·exact h
   exact key hsp
  have:=content_eq_zero.2 (zero_iff.2 hv0)
  omega
 obtain ⟨m,n,hm,e⟩:=hone w (hE w hw).1 fun s hs=>rD S _ hLl s hs w hw;have hen:n≠0:=fun h0=>by
  have:=congrArg (fun z=>at_ z j) e
  simp only [aB,h0,ZE] at this;rcases VB.1 this with h | h
  ·exact hm h
  ·exact hj h
 intro i;have h1:(m.natAbs:Int) ∣ n:=by
  have h2:∀ a∈v,(m.natAbs:Int) ∣ n*a:=fun a ha=>by
   obtain ⟨t,rfl⟩:=Ik ha
   have:=congrArg (fun z=>at_ z t) e
   simp only [aB] at this;rw [<- this];exact Int.natAbs_dvd.2 (Int.dvd_mul_right m _)
  have h3:(m.natAbs:Int) ∣ (content (scl n.natAbs v):Int):=kw fun a ha=>by
   obtain ⟨b,hb,rfl⟩:=Va.1 ha;rcases Int.natAbs_eq n with hn | hn
   ·rw [<- hn]; exact h2 b hb
   ·have:=h2 b hb
    rw [hn,YT] at this;exact Int.dvd_neg.1 this
  rw [nu zO,hc] at h3
  have:=Ye.2 h3
  simp only [Xx,Int.mul_one,Int.natCast_one] at this;exact Ys.2 this
 obtain ⟨q,hq⟩:=h1;have hqi:(at_ w i).natAbs=q.natAbs*(at_ v i).natAbs:=by
  have:=congrArg (fun z=>(at_ z i).natAbs) e
  simp only [aB,X0,hq] at this;simp only [Xx] at this;rw [VU] at this;exact Zn zO this
 have hq0:1<=q.natAbs:=by
  have:q≠0:=fun h0=>hen (by rw [hq,h0]; simp)
  omega
 have:=(hE w hw).2 i
 rw [hqi] at this;have g:=Vl (at_ v i).natAbs hq0;omega
end Go.Proofs.YteaefaohjlmjdaaGreat.Lin
