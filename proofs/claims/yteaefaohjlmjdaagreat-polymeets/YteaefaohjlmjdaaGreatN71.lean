/- A part. -/
import Derived.Test.YteaefaohjlmjdaaGreatA0
import Derived.Test.YteaefaohjlmjdaaGreatN48
import Derived.Test.YteaefaohjlmjdaaGreatN22
import Derived.Test.YteaefaohjlmjdaaGreatGens
import Derived.Test.YteaefaohjlmjdaaGreatN38
import Derived.Test.YteaefaohjlmjdaaGreatKit
set_option linter.all false
namespace Go.Proofs.YteaefaohjlmjdaaGreat.Ev
open Go Nn
section
variable {tab:Nat->Option az} {H:Heap} {s:AV}
theorem wJ {v:AV} (ov:One v) (b:Bool):iq (.agg [v,.bool b])=some [v,.bool b]:=by simp [iq,AV.cells,ov.2]; rfl
theorem wI {v:AV} (ov:One v) (k:Int):iq (.agg [.int .u8 k,v])=some [.int .u8 k,v]:=by simp [iq,AV.cells,ov.2]; rfl
def EI (C:Code tab) (m:Wf H) {cs g:List AV} {x y:List Int × Bool} (hx:conE.R H cs x) (hy:conE.R H g y) (j:x.1.length<1099511627776) (l:∀ z∈x.1,fq z) :
  Ans tab (.fn ia [.agg cs,.agg g]) H fun v H'=>v=.bool (decide (x=y))/\Kp H H':=by
 obtain ⟨v,rfl,c⟩:=hx;obtain ⟨w,rfl,d⟩:=hy;have ov:=c.one;have h:=d.one;obtain ⟨a,p⟩:=x;obtain ⟨b,q⟩:=y;have c:RowV H v a:=c;have d:RowV H w b:=d;refine bk C.q62 zU fun T hl e f=>?_;by_cases hb:p=q
 ·subst hb;refine zW (dx hl e f (wJ ov) (wJ h) (beq_self_eq_true (α:=Bool))) ?_;refine AnsH.eq (zM C zF (c.mono (zG H)) (d.mono (zG H)) j l) fun H2 i=>?_;obtain ⟨k2,_,_⟩:=zT H zK i;refine zW (aE hl e f) ?_;exact ⟨by simp,zK⟩
 ·have k:(p == q)=false:=by simpa using hb
  refine zW (dx hl e f (wJ ov) (wJ h) k) ?_;exact ⟨by simp [hb],zK⟩
def EH (C:Code tab) (m:Wf H) {cs g:List AV} {x y:Nat × List Int} (hx:genE.R H cs x) (hy:genE.R H g y) (j:x.2.length<1099511627776) (l:∀ z∈x.2,fq z) :
  Ans tab (.fn h9 [.agg cs,.agg g]) H fun v H'=>v=.bool (decide (x=y))/\Kp H H':=by
 obtain ⟨v,rfl,c⟩:=hx;obtain ⟨w,rfl,d⟩:=hy;have ov:=c.one;have h:=d.one;obtain ⟨p,a⟩:=x;obtain ⟨q,b⟩:=y;have c:RowV H v a:=c;have d:RowV H w b:=d;refine bk C.q63 zU fun T hl e f=>?_;by_cases hb:p=q
 ·subst hb;refine zW (bO hl e f (wI ov) (wI h)) ?_;refine AnsH.eq (zM C zF (c.mono (zG H)) (d.mono (zG H)) j l) fun H2 i=>?_;obtain ⟨k2,_,_⟩:=zT H zK i;refine zW (aE hl e f) ?_;exact ⟨by simp,zK⟩
 ·have k:¬ (p:Int)=(q:Int):=zO;refine zW (dx hl e f (wI ov) (wI h) k) ?_;exact ⟨by simp [hb],zK⟩
def Co (C:Code tab) (S:Wf H) {a b:AV} {l m:List (List Int × Bool)} (ha:SlV conE t_api_Con H a l) (hb:SlV conE t_api_Con H b m) (Q:l.length<1099511627776) (u:∀ r∈l,r.1.length<1099511627776/\∀ z∈r.1,fq z) :
  Ans tab (.fn aY [a,b,.fn (.func ia) [] []]) H fun v H'=>v=.bool (decide (l=m))/\Kp H H':=by
 refine ni C.q64 zU fun T hl c d f=>?_;by_cases he:l.length=m.length
 ·have M:lenV b=some (.int .i64 (l.length:Int)):=by rw [hb.lenV,he]
  refine zW (dx hl c d f ha.lenV M) ?_;refine aq H [] (fun j _ _=>∀ q (h:q<l.length) (h':q<m.length),q<j->l[q]=m[q]) (a:=0) (N:=l.length) rfl (by refine zW (aW hl c d f) ?_; rfl) (zV (aW hl c d f)) (Vk _) zO (by simp only [U4,hl]; rfl) rfl (fun _ _ _ _ h=>h) zK (fun q _ _ h=>by omega) ?_ ?_
  ·intro j T1 k _ hj g G o n p;have w1:=n.wf;have U:=n.le;have s:j<m.length:=zO;have O:ad T1 15=a:=(o.at_ 15 zU).trans (zV (aw hl c));have t1:ad T1 1=b:=(o.at_ 1 zU).trans (zV (bO hl c d f d));have P:ad T1 2=.fn (.func ia) [] []:=(o.at_ 2 zU).trans (zV (bO hl c d f f));obtain ⟨_,⟨v,rfl,hr⟩,-,-,L⟩:=(ha.mono n.sub).at (U7 hj);obtain ⟨_,⟨w,rfl,t⟩,-,-,L'⟩:=(hb.mono n.sub).at (U7 s);have L:bc k (some 2) (aA a (j*2))=some (.agg [v,.bool l[j].2]):=L;have L':bc k (some 2) (aA b (j*2))=some (.agg [w,.bool m[j].2]):=L';have I:cd 2 a (.int .i64 (j:Int))=some (aA a (j*2)):=SlV.idx ha .i64 j hj;have J:cd 2 b (.int .i64 (j:Int))=some (aA b (j*2)):=SlV.idx hb .i64 j s;have ov:=hr.one;have V:=t.one;have E:=(Ldd.of w1 L).put;have B:=(Ldd.of w1 L).ld;have D:=(Ldd.of w1 L').put;have A:=(Ldd.of w1 L').ld;simp only [U4,hl] at g;refine zW (lP g O t1 P G I J E B D A) ?_;refine AnsH.eq (EI C (x:=l[j]) (y:=m[j]) zF ⟨v,rfl,hr.mono (zG k)⟩ ⟨w,rfl,t.mono (zG k)⟩ (u _ (U9 hj)).1 (u _ (U9 hj)).2) fun H2 K=>?_;obtain ⟨k2,_,_⟩:=zT H zK K;cases i:decide (l[j]=m[j]) with
   | true =>
    have i:=of_decide_eq_true i;refine zW g ?_;refine ⟨zK,fun q h h' R=>?_⟩;by_cases e:q=j
    ·subst e; exact i
    ·exact p q h h' zO
   | false =>
    have i:=of_decide_eq_false i;refine zW g ?_;refine ⟨?_,zK⟩;rw [decide_eq_false];intro e; subst e; exact i rfl
  ·intro T1 k g o n p;simp only [U4,hl] at g;refine zW g ?_;exact ⟨by rw [decide_eq_true (ju he fun q h h'=>p q h h' h)],zK⟩
 ·have F:¬ (l.length:Int)=(m.length:Int):=zO;refine zW (jC hl c d f ha.lenV hb.lenV F he) ?_;refine ⟨?_,zK⟩;rw [decide_eq_false];intro e; subst e; exact he rfl
def Cn (C:Code tab) (S:Wf H) {a b:AV} {l m:List (Nat × List Int)} (ha:SlV genE ai H a l) (hb:SlV genE ai H b m) (Q:l.length<1099511627776) (u:∀ r∈l,r.2.length<1099511627776/\∀ z∈r.2,fq z) :
  Ans tab (.fn aX [a,b,.fn (.func h9) [] []]) H fun v H'=>v=.bool (decide (l=m))/\Kp H H':=by
 refine ni C.q65 zU fun T hl c d f=>?_;by_cases he:l.length=m.length
 ·have M:lenV b=some (.int .i64 (l.length:Int)):=by rw [hb.lenV,he]
  refine zW (dx hl c d f ha.lenV M) ?_;refine aq H [] (fun j _ _=>∀ q (h:q<l.length) (h':q<m.length),q<j->l[q]=m[q]) (a:=0) (N:=l.length) rfl (by refine zW (aW hl c d f) ?_; rfl) (zV (aW hl c d f)) (Vk _) zO (by simp only [U4,hl]; rfl) rfl (fun _ _ _ _ h=>h) zK (fun q _ _ h=>by omega) ?_ ?_
  ·intro j T1 k _ hj g G o n p;have w1:=n.wf;have U:=n.le;have s:j<m.length:=zO;have O:ad T1 15=a:=(o.at_ 15 zU).trans (zV (aw hl c));have t1:ad T1 1=b:=(o.at_ 1 zU).trans (zV (bO hl c d f d));have P:ad T1 2=.fn (.func h9) [] []:=(o.at_ 2 zU).trans (zV (bO hl c d f f));obtain ⟨_,⟨v,rfl,hr⟩,-,-,L⟩:=(ha.mono n.sub).at (U7 hj);obtain ⟨_,⟨w,rfl,t⟩,-,-,L'⟩:=(hb.mono n.sub).at (U7 s);have L:bc k (some 2) (aA a (j*2))=some (.agg [.int .u8 (l[j].1:Int),v]):=L;have L':bc k (some 2) (aA b (j*2))=some (.agg [.int .u8 (m[j].1:Int),w]):=L';have I:cd 2 a (.int .i64 (j:Int))=some (aA a (j*2)):=SlV.idx ha .i64 j hj;have J:cd 2 b (.int .i64 (j:Int))=some (aA b (j*2)):=SlV.idx hb .i64 j s;have ov:=hr.one;have V:=t.one;have E:=(Ldd.of w1 L).put;have B:=(Ldd.of w1 L).ld;have D:=(Ldd.of w1 L').put;have A:=(Ldd.of w1 L').ld;simp only [U4,hl] at g;refine zW (lP g O t1 P G I J E B D A) ?_;refine AnsH.eq (EH C (x:=l[j]) (y:=m[j]) zF ⟨v,rfl,hr.mono (zG k)⟩ ⟨w,rfl,t.mono (zG k)⟩ (u _ (U9 hj)).1 (u _ (U9 hj)).2) fun H2 K=>?_;obtain ⟨k2,_,_⟩:=zT H zK K;cases i:decide (l[j]=m[j]) with
   | true =>
    have i:=of_decide_eq_true i;refine zW g ?_;refine ⟨zK,fun q h h' R=>?_⟩;by_cases e:q=j
    ·subst e; exact i
    ·exact p q h h' zO
   | false =>
    have i:=of_decide_eq_false i;refine zW g ?_;refine ⟨?_,zK⟩;rw [decide_eq_false];intro e; subst e; exact i rfl
  ·intro T1 k g o n p;simp only [U4,hl] at g;refine zW g ?_;exact ⟨by rw [decide_eq_true (ju he fun q h h'=>p q h h' h)],zK⟩
 ·have F:¬ (l.length:Int)=(m.length:Int):=zO;refine zW (jC hl c d f ha.lenV hb.lenV F he) ?_;refine ⟨?_,zK⟩;rw [decide_eq_false];intro e; subst e; exact he rfl
def CW (C:Code tab) (J:Wf H) {v p:AV} {n n':Nat} {c c':List (List Int × Bool)} {g g':List (Nat × List Int)} (hp:PolyV H v n c g) (B:PolyV H p n' c' g') (s:c.length<1099511627776) (t:∀ r∈c,r.1.length<1099511627776/\∀ z∈r.1,fq z) (u:g.length<1099511627776) (w:∀ r∈g,r.2.length<1099511627776/\∀ z∈r.2,fq z) :
  Ans tab (.fn ry [v,p]) H fun x H'=>x=.bool (decide (n=n'/\c=c'/\g=g'))/\Kp H H':=by
 obtain ⟨E,G,rfl,hc,hg⟩:=hp;obtain ⟨F,I,rfl,i,j⟩:=B;have k:=hc.one;have m:=hg.one;have l:=i.one;have o:=j.one;refine bk C.q40 zU fun T hl a d=>?_;by_cases hn:n=n'
 ·subst hn;refine zW (bO hl a d (ki k m) (ki l o)) ?_;refine AnsH.eq (Co C zF (hc.mono (zG H)) (i.mono (zG H)) s t) fun H2 h=>?_;obtain ⟨k2,_,L⟩:=zT H zK h;have d0:=h.get (b:=H.next) (e:=.cells [.int .i64 (n:Int),E,G] aj true) (cy);have d1:=h.get (b:=H.next+1) (e:=.cells [.int .i64 (n:Int),F,I] aj true) (cy);by_cases f:c=c'
  ·rw [decide_eq_true f];refine zW (bO hl a d d0 d1) ?_;refine AnsH.eq (Cn C zF ((hg.mono k2.sub).mono (zG H2)) ((j.mono k2.sub).mono (zG H2)) u w) fun q y=>?_;have D:Kp H q:=k2.trans (Kp.trans zK y);have K:=D.le;refine zW (aE hl a d) ?_;exact ⟨by simp [f],zK⟩
  ·rw [decide_eq_false f];refine zW (aE hl a d) ?_;exact ⟨by simp [f],zK⟩
 ·have A:¬ (n:Int)=(n':Int):=zO;refine zW (dx hl a d (ki k m) (ki l o) A) ?_;exact ⟨by simp [hn],zK⟩
def Lk (C:Code tab) (u:Wf H) {v w:AV} {a r:List Int} {e f:Nat} (ha:RowV H v a) (hr:RowV H w r) (k:a.length=r.length) (i:a.length<=64) (j:∀ z∈a,Bt e z) (m:∀ z∈r,Bt f z) (l:e+f+7<=8796093022208) :
  Ans tab (.fn rk [v,w]) H fun x H'=>x=.int .i64 (iu (Lin.dot a r))/\Kp H H':=by
 refine bk C.q41 zU fun T hl c d=>?_;refine zW (aE hl c d) ?_;refine AnsH.use (uk C zF (ha.mono (zG H)) (hr.mono (zG H)) k i j m l) ?_;rintro x H2 ⟨q,rfl,⟨p,rfl,hp⟩,h⟩;obtain ⟨k2,_,D⟩:=zT H zK h;have op:=hp.one;have B:H.next+10<=H2.next:=h.le
 have fr:H2.get (H.next+7)=none:=h.free (show H.next+7<H.next+10 by omega) (u.fresh (b:=H.next+7) zO);obtain ⟨G,g⟩:∃ G,G=((H2.up 7).put (H.next+7) (.cells [.bool false,.nilSl] aa true)).put (H.next+7) (.cells [.bool (decide (Lin.dot a r<0)),p] aa true):=⟨_,rfl⟩
 have n:Kp H G:=by rw [g]; exact zK
 have t:bA G p (Lin.dot a r).natAbs:=by
  rw [g];exact hp.mono (((Sub.bump H2 7).put fr _).put fr _)
 refine zW (aE hl c d) ?_;rw [<- g];refine AnsH.eq (pu C (x:=Lin.dot a r) n.wf ⟨p,rfl,t⟩ ((oK j m k i).sm l)) fun o s=>?_;have y:Kp H o:=n.trans s;have A:=y.le;refine zW (aE hl c d) ?_;exact zK
def poly_keeps (C:Code tab) (q:Wf H) {v w:AV} {b:Bool} {k:Nat} {a r:List Int} {e f:Nat} (ha:RowV H v a) (hr:RowV H w r) (j:a.length=r.length) (o:a.length<=64) (i:∀ z∈a,Bt e z) (m:∀ z∈r,Bt f z) (p:e+f+7<=8796093022208) :
  Ans tab (.fn iB [.agg [.int .u8 (k:Int),w],.agg [v,.bool b]]) H fun x H'=>x=.bool (Lin.keepsP (a,b) (k,r))/\Kp H H':=by
 have ov:=ha.one;have n:=hr.one;refine bk C.q25 zU fun T hl c d=>?_;refine zW (bO hl c d (wJ ov) (wI n)) ?_;refine AnsH.eq (Lk C (e:=f) (f:=e) zF (hr.mono (zG H)) (ha.mono (zG H)) j.symm zO m i zO) fun H2 g=>?_;obtain ⟨k2,_,s⟩:=zT H zK g;have d1:H2.get H.next=some (.cells [.int .u8 (k:Int),w] ai true):=g.get (cy)
 have d2:H2.get (H.next+1)=some (.cells [v,.bool b] t_api_Con true):=g.get (cy);have hd:=Lin.dot_comm r a;cases b with
 | true =>
  refine zW (bO hl c d d1 d2) ?_;refine ⟨?_,zK⟩;congr 1;rw [Wi];simp [Lin.keepsP,iW,hd]
 | false =>
  by_cases h:k=1
  ·subst h;have d1:H2.get H.next=some (.cells [.int .u8 1,w] ai true):=d1
   refine zW (bO hl c d d1 d2) ?_;refine ⟨?_,zK⟩;congr 1;rw [Wi];simp [Lin.keepsP,iW,hd]
  ·have l:¬ (k:Int)=1:=zO;refine zW (dx hl c d d1 d2 l) ?_;refine ⟨?_,zK⟩;congr 1;rw [Wi];simp [Lin.keepsP,HM,hd,h]
def Hd {α:Type} {p:α->Bool} {l:List α} {j:Nat} (hj:j<l.length):(l.take (j+1)).all p=((l.take j).all p && p l[j]):=by
 rw [List.take_succ,U7 hj,List.all_append]; simp
def AB (C:Code tab) (hw:Wf H) {a b:AV} {n e f:Nat} {G:List (Nat × List Int)} {K:List (List Int × Bool)} (ha:SlV genE ai H a G) (hb:SlV conE t_api_Con H b K) (Q:∀ x∈G,x.2.length=n+1/\Lin.Bd (2^e) x.2) (F:∀ c∈K,c.1.length=n+1/\Lin.Bd (2^f) c.1) (hn:n<=60) (ar:G.length<1099511627776) (av:K.length<1099511627776) (ao:e+f<=4398046511104) :
  Ans tab (.fn pJ [a,b,.fn (.func iB) [] []]) H fun v H'=>v=.bool (Lin.inP G K)/\Kp H H':=by
 refine ni C.q24 zU fun T hl o p q=>?_;refine zW (bO hl o p q ha.lenV) ?_;refine aq H [] (fun j _ _=>Lin.inP (G.take j) K=true) (a:=0) (N:=G.length) rfl (by refine zW (aW hl o p q) ?_; rfl) (zV (aW hl o p q)) (Vk _) zO (by simp only [U4,hl]; rfl) rfl (fun _ _ _ _ h=>h) zK rfl ?_ ?_
 ·intro j T1 g _ hj d aa A s u;have w1:=s.wf;have ay:=s.le;have aj:ad T1 11=a:=(A.at_ 11 zU).trans (zV (aw hl o));have t1:ad T1 1=b:=(A.at_ 1 zU).trans (zV (bO hl o p q p));have t2:ad T1 2=.fn (.func iB) [] []:=(A.at_ 2 zU).trans (zV (bO hl o p q q));obtain ⟨_,⟨v,rfl,hr⟩,-,-,L⟩:=(ha.mono s.sub).at (U7 hj);have L:bc g (some 2) (aA a (j*2))=some (.agg [.int .u8 (G[j].1:Int),v]):=L;have ae:cd 2 a (.int .i64 (j:Int))=some (aA a (j*2)):=SlV.idx ha .i64 j hj;have hr:RowV g v G[j].2:=hr;have ov:=hr.one;have Y:=(Ldd.of w1 L).put;have W:=(Ldd.of w1 L).ld;have M:=U9 hj;simp only [U4,hl] at d;refine zW (jC d aj t1 aa ae Y W hb.lenV) ?_;obtain ⟨H2,E⟩:∃ H2,H2=((g.up 7).put (g.next+2) (.cells [.int .u8 0,.nilSl] ai true)).put (g.next+2) (.cells [.int .u8 (G[j].1:Int),v] ai true):=⟨_,rfl⟩
  have J:Kp g H2:=by rw [E]; exact zK
  have aC:=J.le;have k2:Kp H H2:=s.trans J;have aD:=k2.le;have w2:=k2.wf;have Z:H2.get (g.next+2)=some (.cells [.int .u8 (G[j].1:Int),v] ai true):=by rw [E]; exact ap _ _ _
  rw [<- E];refine aq H2 [] (fun i _ _=>(K.take i).all (fun c=>Lin.keepsP c G[j])=true) (a:=0) (N:=K.length) rfl (by refine zW d ?_; rfl) (zV d) (Vk _) zO (by simp only [U4,d]; rfl) rfl (fun _ _ _ _ h=>h) zK rfl ?_ ?_
  ·intro i T2 l _ hi m ab B t y;have O:=t.wf;have aB:=t.le;have al:ad T2 17=b:=(B.at_ 17 zU).trans (zV (aw d t1));have am:ad T2 2=.fn (.func iB) [] []:=(B.at_ 2 zU).trans (zV (aw d t2));have t8:ad T2 8=.ptr (g.next+2) 0:=(B.at_ 8 zU).trans (zV d);have P:=t.get Z;have aF:=O _ _ P;have S:Sub g l:=J.sub.trans t.sub;obtain ⟨_,⟨w,rfl,hc⟩,-,-,L'⟩:=((hb.mono s.sub).mono S).at (U7 hi);have L':bc l (some 2) (aA b (i*2))=some (.agg [w,.bool K[i].2]):=L';have af:cd 2 b (.int .i64 (i:Int))=some (aA b (i*2)):=SlV.idx hb .i64 i hi;have hc:RowV l w K[i].1:=hc;have ow:=hc.one;have X:=(Ldd.of O L').put;have V:=(Ldd.of O L').ld;have D:=U9 hi;have ah:=hr.mono S;simp only [U4,d] at m;refine zW (jB m al am t8 ab af X V P) ?_;refine AnsH.eq (poly_keeps C (e:=f+1) (f:=e+1) (b:=K[i].2) (k:=G[j].1) (a:=K[i].1) (r:=G[j].2) zF (hc.mono (zG l)) (ah.mono (zG l)) ((F _ D).1.trans (Q _ M).1.symm) (by rw [(F _ D).1]; omega) (fun z I=>ir (F _ D).2 z I) (fun z I=>ir (Q _ M).2 z I) zO) fun U ag=>?_;obtain ⟨k4,_,_⟩:=zT H2 zK ag;have ax:Kp H U:=k2.trans k4;cases R:Lin.keepsP (K[i].1,K[i].2) (G[j].1,G[j].2) with
   | true =>
    refine zW m ?_;refine ⟨zK,?_⟩;rw [Hd hi,y];exact R
   | false =>
    refine zW m ?_;refine ⟨?_,zK⟩
    have:Lin.inP G K=false:=by
     cases h:Lin.inP G K with
     | false=>rfl
     | true =>
      have:=Lin.inP_iff.1 h _ M _ D
      exact absurd (this.symm.trans R) zU
    rw [this]
  ·intro T2 l m B t y;rw [VC] at y;simp only [U4,d] at m;have k3:Kp H l:=k2.trans t;have aE:=k3.le;refine zW m ?_;refine ⟨zK,?_⟩;unfold Lin.inP at u ⊢;rw [Hd hj,u];exact y
 ·intro T1 g d A s u;simp only [U4,hl] at d;rw [VC] at u;refine zW d ?_;exact ⟨by rw [u],zK⟩
end
section
open Lin
def Cz {r:V} (h:∀ z∈r.map dU,z.2.length<=1):Bd (2^64) r:=fun i=>by
 unfold at_;rw [U5];cases hi:r[i]? with
 | none=>simp
 | some z =>
  have h1:=h (dU z) (Va.2 ⟨z,Vo hi,rfl⟩);have h2:z.natAbs<B^1:=xy (n:=z.natAbs) h1;have h3:B^1=2^64:=by decide
  simp only [WK];omega
def pZ {c:List (V × Bool)} {g:List (Nat × V)} (h:lW c g=false):(c.length<=9/\∀ x∈c,x.1.length<=5/\Bd (2^64) x.1)/\g.length<=9/\∀ x∈g,x.2.length<=5/\Bd (2^64) x.2:=by
 unfold lW at h;rw [WX] at h;obtain ⟨h1,h2⟩:=jQ h.1;obtain ⟨h3,a⟩:=jP h.2;rw [Vh] at h1 h3;refine ⟨⟨h1,fun x hx=>?_⟩,h3,fun x hx=>?_⟩
 ·obtain ⟨q1,q2⟩:=h2 _ (Va.2 ⟨x,hx,rfl⟩);simp only [Vh] at q1;exact ⟨q1,Cz q2⟩
 ·obtain ⟨q1,q2⟩:=a _ (Va.2 ⟨x,hx,rfl⟩);simp only [Vh] at q1;exact ⟨q1,Cz q2⟩
def LP {n:Nat} {l:List (V × Bool)}:∀ x∈gensP n l,x.1=1\/x.1=2\/x.1=3:=fun x hx=>by
 unfold gensP at hx;split at hx
 ·rcases Vq.1 hx with hx | hx
  ·obtain ⟨r,hr,rfl⟩:=Va.1 hx;exact .inl rfl
  ·obtain ⟨r,hr,rfl⟩:=Va.1 hx;show kindOf r=1\/kindOf r=2\/kindOf r=3;unfold kindOf;split <;> simp
 ·cases hx
end
section
variable {tab:Nat->Option az} {H:Heap} {s:AV}
structure PolyOK (n e f:Nat) (K:List (List Int × Bool)) (G:List (Nat × List Int)):Prop where
 own:Lin.Own n K G
 dim:n<=4
 few:K.length<=60\/K.length<=1022/\G.length<=60
 many:G.length<1024
 bK:∀ c∈K,Lin.Bd (2^f) c.1
 bG:∀ x∈G,Lin.Bd (2^e) x.2
 e3:e<=300000
 f3:f<=300000
section
variable {n e f:Nat} {K:List (List Int × Bool)} {G:List (Nat × List Int)}
def PolyOK.rowK (h:PolyOK n e f K G):∀ c∈K,c.1.length=n+1/\Lin.Bd (2^f) c.1:=fun c hc=>⟨h.own.rows c hc,h.bK c hc⟩
def PolyOK.rowG (h:PolyOK n e f K G):∀ x∈G,x.2.length=n+1/\Lin.Bd (2^e) x.2:=fun x hx=>⟨(h.own.valid x hx).1,h.bG x hx⟩
def PolyOK.kinds (h:PolyOK n e f K G):∀ x∈G,x.1=1\/x.1=2\/x.1=3:=fun x hx=>LP (n:=n) (l:=K) x (by rw [h.own.gens]; exact hx)
def PolyOK.smK (h:PolyOK n e f K G):∀ r∈K,r.1.length<1099511627776/\∀ z∈r.1,fq z:=fun r hr=>⟨by rw [(h.rowK r hr).1]; have:=h.dim; omega,fun z a=>(ir (h.rowK r hr).2 z a).sm (by have:=h.f3; omega)⟩
def PolyOK.smG (h:PolyOK n e f K G):∀ r∈G,r.2.length<1099511627776/\∀ z∈r.2,fq z:=fun r hr=>⟨by rw [(h.rowG r hr).1]; have:=h.dim; omega,fun z a=>(ir (h.rowG r hr).2 z a).sm (by have:=h.e3; omega)⟩
def PolyOK.lenK (h:PolyOK n e f K G):K.length<=1022:=by rcases h.few with h | h <;> omega
end
set_option maxHeartbeats 4000000 in
def mN (C:Code tab) (D:Wf H) {v:AV} {n e f:Nat} {K:List (List Int × Bool)} {G:List (Nat × List Int)} (hp:PolyV H v n K G) (a:PolyOK n e f K G) :
  Ans tab (.fn pL [v]) H fun x H'=>x=.int .i64 0/\Kp H H':=by
 obtain ⟨w,y,rfl,hc,hg⟩:=hp;have E:=hc.one;have F:=hg.one;have I:=a.lenK;have R:=a.many;have u:Lin.gensP n K=G:=a.own.gens;have k:Lin.consP n G=K:=a.own.cons;have e3:=a.e3;have f3:=a.f3;have smK:=a.smK;have smG:=a.smG;refine cY C.q20 zU fun T hl l=>?_;by_cases q1:(K.length:Int)<=60
 ·refine zW (bO hl l (ki E F) hc.lenV q1) ?_;refine AnsH.use (kU C (n:=n) (m:=f) (m2:=e) zF (hc.mono (zG H)) a.dim zO a.rowK f3 (by rw [u]; exact a.bG) e3) ?_;rintro v H2 ⟨hm,d⟩;obtain ⟨k2,_,P⟩:=zT H zK d;have M:H.next+17<=H2.next:=d.le
  have d0:H2.get H.next=some (.cells [.int .i64 (n:Int),w,y] aj true):=d.get (cy)
  have o:H2.get (H.next+14)=none:=d.free (show H.next+14<H.next+17 by omega) (by rw [aB zO]; exact D.fresh (b:=H.next+14) zO);rw [u] at hm;unfold qC at hm;rw [k] at hm;rcases hm with ⟨-,hm⟩ | ⟨p,rfl,⟨s,t,rfl,q,r⟩,-,-⟩
  ·omega
  have N:=q.one;have O:=r.one;obtain ⟨c,i⟩:∃ c,c=((H2.up 7).put (H.next+14) (.cells [.int .i64 0,.nilSl,.nilSl] aj true)).put (H.next+14) (.cells [.int .i64 (n:Int),s,t] aj true):=⟨_,rfl⟩
  have g:Sub H2 c:=by rw [i]; exact ((Sub.bump H2 7).put o _).put o _
  have j:Kp H c:=by rw [i]; exact zK
  have J:=j.le;have Q:=j.wf;refine zW (aW hl l @nt d0) ?_;rw [<- i];refine AnsH.eq (CW C zF ⟨w,y,rfl,(hc.mono k2.sub).mono g,(hg.mono k2.sub).mono g⟩ ⟨s,t,rfl,q.mono g,r.mono g⟩ zO smK zO smG) fun z A=>?_;have B:Kp H z:=j.trans A;have L:=B.le;rw [decide_eq_true ⟨rfl,rfl,rfl⟩];refine zW (aw hl l) ?_;exact zK
 ·have q2:(G.length:Int)<=60:=by rcases a.few with h | h <;> omega
  refine zW (fE hl l (ki E F) hc.lenV q1 hg.lenV q2) ?_;refine AnsH.use (vZ C (n:=n) (m:=e) (m2:=f) (m3:=e) zF (hg.mono (zG H)) a.dim zO a.own.valid a.kinds a.bG e3 (by rw [k]; exact a.bK) f3 (by rw [k,u]; exact a.bG) e3 (by rw [k]; exact .inl I)) ?_;rintro v H2 ⟨hm,d⟩;obtain ⟨k2,_,P⟩:=zT H zK d;have M:H.next+21<=H2.next:=d.le
  have d0:H2.get H.next=some (.cells [.int .i64 (n:Int),w,y] aj true):=d.get (cy)
  have o:H2.get (H.next+18)=none:=d.free (show H.next+18<H.next+21 by omega) (by rw [aB zO]; exact D.fresh (b:=H.next+18) zO);unfold Km qC at hm;rw [k,u,k] at hm;rcases hm with ⟨-,hm⟩ | ⟨-,hm⟩ | ⟨p,rfl,⟨s,t,rfl,q,r⟩,-,-⟩
  ·omega
  ·omega
  have N:=q.one;have O:=r.one;obtain ⟨c,i⟩:∃ c,c=((H2.up 7).put (H.next+18) (.cells [.int .i64 0,.nilSl,.nilSl] aj true)).put (H.next+18) (.cells [.int .i64 (n:Int),s,t] aj true):=⟨_,rfl⟩
  have g:Sub H2 c:=by rw [i]; exact ((Sub.bump H2 7).put o _).put o _
  have j:Kp H c:=by rw [i]; exact zK
  have J:=j.le;have Q:=j.wf;refine zW (aW hl l @nt d0) ?_;rw [<- i];refine AnsH.eq (CW C zF ⟨w,y,rfl,(hc.mono k2.sub).mono g,(hg.mono k2.sub).mono g⟩ ⟨s,t,rfl,q.mono g,r.mono g⟩ zO smK zO smG) fun z A=>?_;have B:Kp H z:=j.trans A;have L:=B.le;rw [decide_eq_true ⟨rfl,rfl,rfl⟩];refine zW (aw hl l) ?_;exact zK
end
abbrev Uf:=Nat × List (List Int × Bool) × List (Nat × List Int)
def Ri:fF Uf where
 sz:=3
 tys:=(t_api_Con :: conE.tys)++(ai :: genE.tys)
 R H cs x:=∃ c d,cs=[.int .i64 (x.1:Int),c,d]/\SlV conE t_api_Con H c x.2.1/\SlV genE ai H d x.2.2
 pos:=zO
 len:=by rintro H cs x ⟨v,w,rfl,h,h'⟩; exact ⟨rfl,by simp [h.one.2,h'.one.2]; rfl⟩
 mono:=by
  rintro H H' cs x hs ⟨v,w,rfl,h,h'⟩;exact ⟨v,w,rfl,h.monoT fun b cs t r a=>hs b cs t r (Wg _ a),h'.monoT fun b cs t r a=>hs b cs t r (Wp _ a)⟩
section
variable {tab:Nat->Option az} {H:Heap} {s:AV}
def I5 {a a3 b c:AV} (h2:One a) (h3:One a3) (h5:One b) (e:One c) (x1 x2 x3 y1 y2 y3:AV) (k d:IntKind) (n n':Int):cZ [x1,x2,x3,y1,y2,y3] [((0,3),.agg [.int k n,a,a3]),((3,3),.agg [.int d n',b,c])]=some [.int k n,a,a3,.int d n',b,c]:=by
 simp [cZ,AV.cells,(aZ k n).2,(aZ d n').2,h2.2,h3.2,h5.2,e.2]
set_option maxHeartbeats 4000000 in
def pC (C:Code tab) (W:Wf H) {n:Nat} {l:List Uf} (hs:SlV Ri aj H s l) (V:l.length<1000) (h:∀ x∈l,x.1=n/\∃ e f,PolyOK n e f x.2.1 x.2.2) :
  Ans tab (.fn mY [s]) H fun x H'=>x=.int .i64 0/\Kp H H':=by
 refine cY C.q23 zU fun T hl i=>?_;refine zW (aE hl i hs.lenV) ?_;refine aq H [] (fun _ _ _=>True) (a:=0) (N:=l.length) rfl (by refine zW (aw hl i) ?_; rfl) (zV (aw hl i)) (Vk _) zO (by simp only [U4,hl]; rfl) rfl (fun _ _ _ _ h=>h) zK trivial ?_ ?_
 ·intro j T1 k _ hj b E v c _;have w1:=c.wf;have K:=c.le;have R:ad T1 8=s:=(v.at_ 8 zU).trans (zV (aw hl i));obtain ⟨_,⟨o,p,rfl,hc,hg⟩,-,-,L⟩:=(hs.mono c.sub).at (U7 hj);have L:bc k (some 3) (aA s (j*3))=some (.agg [.int .i64 (l[j].1:Int),o,p]):=L;have u:cd 3 s (.int .i64 (j:Int))=some (aA s (j*3)):=SlV.idx hs .i64 j hj;have M:=hc.one;have O:=hg.one;have t:=(Ldd.of w1 L).put;have r:=(Ldd.of w1 L).ld;obtain ⟨hn,e,f,ok⟩:=h _ (U9 hj);simp only [U4,hl] at b;refine zW (fE b R E u t r @nt) ?_;rw [hn];refine AnsH.eq (mN C zF ⟨o,p,rfl,hc.mono (zG k),hg.mono (zG k)⟩ ok) fun H2 d=>?_;obtain ⟨k2,_,_⟩:=zT H zK d;refine zW b ?_;exact zK
 ·intro T1 k b v c _;have w1:=c.wf;have K:=c.le;have t0:ad T1 0=s:=(v.at_ 0 zU).trans (zV (aw hl i));have J:=hs.mono c.sub;simp only [U4,hl] at b;refine zW (aE b t0 J.lenV) ?_;refine aq H [] (fun _ _ _=>True) (a:=0) (N:=l.length) rfl (by refine zW b ?_; rfl) (zV b) (Vk _) zO (by simp only [U4,b]; rfl) rfl (fun _ _ _ _ h=>h) zK trivial ?_ ?_
  ·intro j T2 H2 _ hj g F w d _;have q:=d.wf;have X:=d.le;have Q:ad T2 20=s:=(w.at_ 20 zU).trans (zV (aw b t0));have P:ad T2 0=s:=(w.at_ 0 zU).trans (zV (aw b t0));have y:=hs.mono d.sub;have h0:0<l.length:=zO;obtain ⟨_,⟨o,p,rfl,hc,hg⟩,-,-,L⟩:=y.at (U7 hj);have L:bc H2 (some 3) (aA s (j*3))=some (.agg [.int .i64 (l[j].1:Int),o,p]):=L;obtain ⟨_,⟨Y,Z,rfl,S,U⟩,-,m,-⟩:=y.at (U7 h0);have m:bc H2 none (aA s 0)=some (.int .i64 (l[0].1:Int)):=m 0 _ rfl;have u:cd 3 s (.int .i64 (j:Int))=some (aA s (j*3)):=SlV.idx hs .i64 j hj;have D:cd 3 s (.int .i64 0)=some (aA s 0):=SlV.idx hs .i64 0 h0;have B:Bb 0 (aA s 0)=some (aA s 0):=hs.fa h0 0 0;have M:=hc.one;have O:=hg.one;have t:=(Ldd.of q L).put;have r:=(Ldd.of q L).ld;have A:=(Ldd.of q m).put;have z:=(Ldd.of q m).ld;have hn:=(h _ (U9 hj)).1;have G:=(h _ (U9 h0)).1;have I:((l[j].1:Nat):Int)=(l[0].1:Int):=by rw [hn,G]
   simp only [U4,b] at g;refine zW (fE g Q F u t r @nt) ?_;refine aF ?_;refine zD (fE g P D B A z I) ?_;exact zK
  ·intro T2 H2 g w d _;simp only [U4,b] at g;refine zW g ?_;exact zK
def xz {H:Heap} {b:Nat} {c f d g:AV} {x y:Uf} {r:Bool} (h:H.get b=some (.cells [.int .i64 (x.1:Int),c,f,.int .i64 (y.1:Int),d,g] aj r)) (h1:SlV conE t_api_Con H c x.2.1) (h2:SlV genE ai H f x.2.2) (h3:SlV conE t_api_Con H d y.2.1) (j:SlV genE ai H g y.2.2):SlV Ri aj H (.own b 0 2 2 3 true) [x,y] :=
 ⟨_,Rd.own h rfl (Vc _),fun _ _ _ _ _ _ e=>by cases e; exact ⟨_,_,h⟩,rfl,fun i a hi=>by
  match i with
  | 0=>simp at hi; subst hi; exact ⟨c,f,rfl,h1,h2⟩
  | 1=>simp at hi; subst hi; exact ⟨d,g,rfl,h3,j⟩
  | i+2=>simp at hi⟩
def HG {n e f e' a:Nat} {K K':List (List Int × Bool)} {G G':List (Nat × List Int)} (b:PolyOK n e f K G) (c:PolyOK n e' a K' G'):∀ x∈[((n,K,G):Uf),(n,K',G')],x.1=n/\∃ e f,PolyOK n e f x.2.1 x.2.2:=fun x hx=>by
 rcases VF.1 hx with rfl | hx
 ·exact ⟨rfl,_,_,b⟩
 ·rcases VF.1 hx with rfl | hx
  ·exact ⟨rfl,_,_,c⟩
  ·cases hx
set_option maxHeartbeats 4000000 in
def Qr (C:Code tab) (B:Wf H) {v w:AV} {n e f e' i:Nat} {K K':List (List Int × Bool)} {G G':List (Nat × List Int)} (hp:PolyV H v n K G) (s:PolyV H w n K' G') (a:PolyOK n e f K G) (b:PolyOK n e' i K' G') :
  Ans tab (.fn xl [v,w]) H fun x H'=>x=.tup [.bool (Lin.inP G K'),.int .i64 0]/\Kp H H':=by
 obtain ⟨u,z,rfl,hc,hg⟩:=hp;obtain ⟨y,A,rfl,g,j⟩:=s;have k:=hc.one;have o:=hg.one;have m:=g.one;have p:=j.one;refine bk C.q7 zU fun T hl c d=>?_;refine zW (dx hl c d (ki k o) (ki m p) (I5 k o m p)) ?_;refine AnsH.eq (pC C (n:=n) (l:=[(n,K,G),(n,K',G')]) zF (xz (ap _ _ _) (hc.mono (zG H)) (hg.mono (zG H)) (g.mono (zG H)) (j.mono (zG H))) (by simp) (HG a b)) fun H2 h=>?_;obtain ⟨k2,_,E⟩:=zT H zK h;have d0:H2.get H.next=some (.cells [.int .i64 (n:Int),u,z] aj true):=h.get (cy)
 have d1:H2.get (H.next+1)=some (.cells [.int .i64 (n:Int),y,A] aj true):=h.get (cy);have e3:=a.e3;have f3:=b.f3;have hn:=a.dim;have l1:=a.many;have l2:=b.lenK;refine zW (bO hl c d d0 d1) ?_;refine AnsH.eq (AB C (n:=n) (e:=e) (f:=i) zF ((hg.mono k2.sub).mono (zG H2)) ((g.mono k2.sub).mono (zG H2)) a.rowG b.rowK zO zO zO zO) fun q r=>?_;have t:Kp H q:=k2.trans (Kp.trans zK r);have D:=t.le;refine zW (aE hl c d) ?_;exact zK
def Ha {H:Heap} {id sz bytes ty:Nat} {z:List AV} {m:Nat} (a:z.length=sz) (h0:0<m) (hb:m*bytes<=70368744177664) (hm:m<4611686018427387904) :
  Dk H id sz bytes ty z .nilSl (.int .i64 (m:Int))=some (.own id 0 m m sz false,H.put id (.cells ((List.replicate m z).flatten) ty true)):=by
 unfold Dk;rw [gq];simp only;rw [if_pos ⟨a,hb,hm⟩];simp only [cQ];rw [if_neg zO,if_pos ⟨hb,hm⟩]
def I4:AV->Option AV
 | .own _ _ _ c _ true=>some (.int .i64 c)
 | .nilSl=>some (.int .i64 0)
 | _=>none
def Li {ev:Src->AV} (x:Src):aS ev (.cap x)=I4 (ev x):=by
 simp only [aS]
 generalize ev x=a
 cases a <;> rfl
def Dr {ev:Src->AV} {H:Heap} {id:Nat} {Q:AV->Heap->Prop} (x:Src):mF tab ev H id (.cap x) Q=gV (I4 (ev x)) (fun v=>Q v H) ():=by
 rw [ck,eH tab ev H id Q (o:=.cap x) (v:=I4 (ev x)) (fun f a e=>by cases e) (Li x) rfl];rfl
def Ae {b m sz:Nat} {ex:Bool}:bQ sz (.own b 0 m m sz ex) none (some (.int .i64 0)) none=some (.own b 0 0 m sz ex):=by
 simp [bQ,bS,pq]
def Pp (C:Code tab) (k:Wf H) {m:Nat} (h0:0<m) (hm:m<=4000) :
  Ans tab (.fn bY [.nilSl,.int .i64 (m:Int)]) H fun v H'=>∃ b,v=.own b 0 0 m 2 false/\H'.get b=some (.cells ((List.replicate m [.nilSl,.bool false]).flatten) t_api_Con true)/\H.next<=b/\Kp H H':=by
 refine bk C.q51 zU fun T hl f g=>?_;have e0:¬ (m:Int)<0:=zO;have c:IntKind.i64.wrap ((m:Int)-0)=(m:Int):=by rw [wrap_i64] <;> omega
 have d:(0:Int)<(m:Int):=zO;have a:I4 .nilSl=some (.int .i64 0):=rfl;have z0:IntKind.i64.wrap 0=0:=by rw [wrap_i64] <;> omega
 have i:bQ 2 .nilSl none (some (.int .i64 0)) none=some .nilSl:=rfl;have h:lenV .nilSl=some (.int .i64 0):=rfl;have e:=Ha (H:=H.up 23) (id:=H.next+18) (sz:=2) (bytes:=32) (ty:=t_api_Con) (z:=[.nilSl,.bool false]) (m:=m) rfl h0 zO zO;have j:bQ 2 (.own (H.next+18) 0 m m 2 false) none (some (.int .i64 0)) none=some (.own (H.next+18) 0 0 m 2 false):=Ae;simp -dsimp (maxSteps:=1000000) (disch:=(first | omega | assumption | exact aI _ | exact aZ _ _ | exact bD | exact cH _ _ _ | exact bN _ _ | exact bC _ _ _ _ _ _ | exact cR _ _ | exact bR _)) only [↓uV,uU,Nat.reduceLT,Nat.reduceEqDiff,Nat.reduceAdd,reduceIte,reduceCtorEq,Nat.reduceBEq,Int.reduceEq,Int.reduceLT,Int.reduceLE,Int.reduceAdd,Int.reduceSub,hl,f,g,e0,c,d,↓Dr,h,a,z0,i,↓Dt,e,j];exact ⟨_,rfl,ap _ _ _,zO,zK⟩
def MD (C:Code tab) (e:Wf H) :
  Ans tab (.fn bY [.nilSl,.int .i64 0]) H fun v H'=>v=.nilSl/\Kp H H':=by
 refine bk C.q51 zU fun T hl b c=>?_;have d:lenV .nilSl=some (.int .i64 0):=rfl;have a:I4 .nilSl=some (.int .i64 0):=rfl;have z0:IntKind.i64.wrap 0=0:=by rw [wrap_i64] <;> omega
 simp -dsimp (maxSteps:=1000000) (disch:=(first | omega | assumption | exact aI _ | exact aZ _ _ | exact bD | exact cH _ _ _ | exact bN _ _ | exact bC _ _ _ _ _ _ | exact cR _ _ | exact bR _)) only [↓uV,uU,Nat.reduceLT,Nat.reduceEqDiff,Nat.reduceAdd,reduceIte,reduceCtorEq,Nat.reduceBEq,Int.reduceEq,Int.reduceLT,Int.reduceLE,Int.reduceAdd,Int.reduceSub,hl,b,c,↓Dr,d,a,z0];exact zK
def sX {α:Type} {E:fF α} {ty ty2 bytes id g k m N:Nat} {H:Heap} {w:AV} {cells:List AV} {l1 l2:List α} (hg:H.get g=some (.cells cells ty true)) (v:ty ∉ E.tys) (hp:Cells E H (cells.take (k*E.sz)) l1) (hy:SlV E ty2 H w l2) (hm:l2.length=m) (hcl:cells.length=N*E.sz) (d:k+m<=N) (hb:N*bytes<=70368744177664) (x:N<4611686018427387904) :
  ∃ c H',cC H id E.sz bytes ty (.own g 0 k N E.sz false) w=some (.own g 0 (k+m) N E.sz false,H')/\H'.get g=some (.cells c ty true)/\c.length=N*E.sz/\Cells E H' (c.take ((k+m)*E.sz)) (l1++l2)/\(H'=H\/∃ e,H'=H.put g e):=by
 obtain ⟨a,hr,-,hc⟩:=hy;obtain ⟨m',l,h⟩:=hr.length;obtain ⟨-,-,m2,n,q⟩:=hr;rw [l] at n; cases n;have u:m'=m:=WW E.pos (by rw [<- h,hc.1,hm]);subst u;have p:(k+m')*bytes<=70368744177664:=Vn (Vj _ d) hb;have ones:=hc.ones;have s:(k+m')*E.sz<=N*E.sz:=Vj _ d;rw [Wa] at s;have e:cC H id E.sz bytes ty (.own g 0 k N E.sz false) w=if m'=0 then some (.own g 0 k N E.sz false,H) else some (.own g 0 (k+m') N E.sz false,H.put g (.cells (cells.take (0+k*E.sz)++a++cells.drop (0+k*E.sz+m'*E.sz)) ty true)):=by
  unfold cC;rw [l];simp only;rw [q];simp only [cQ,hg];rw [if_pos ⟨trivial,p,zO,trivial,zO⟩,if_pos d];by_cases h0:m'=0
  ·rw [if_pos h0,if_pos h0]
  ·rw [if_neg h0,if_neg h0,if_pos ⟨trivial,ones⟩]
 by_cases h0:m'=0
 ·subst h0;have hn:l2=[]:=VB hm;subst hn;refine ⟨cells,H,by rw [e,if_pos rfl]; rfl,hg,hcl,?_,.inl rfl⟩;rw [WH]; exact hp
 ·have o:SubT E.tys H (H.put g (.cells (cells.take (0+k*E.sz)++a++cells.drop (0+k*E.sz+m'*E.sz)) ty true)):=fun b cs t r i f=>by
   by_cases j:b=g
   ·subst j;rw [hg] at f; cases f;exact absurd i v
   ·rw [aB j]; exact f
  refine ⟨_,_,by rw [e,if_neg h0],ap _ _ _,?_,?_,.inr ⟨_,rfl⟩⟩
  ·simp only [Vr,Vx,Wq,hcl,h];omega
  ·have i:((cells.take (0+k*E.sz)++a++cells.drop (0+k*E.sz+m'*E.sz)).take ((k+m')*E.sz))=cells.take (k*E.sz)++a:=by
    rw [VN,XM (by rw [Vr,Vx,h,Wa]; omega)]
   rw [i];exact (hp.mono o).append (hc.mono o)
def Jg (C:Code tab) (hw:Wf H) {b:Nat} {va Z:AV} {l m:List (List Int × Bool)} {x:Bool} {ty:Nat} (hb:H.get b=some (.cells [va,Z] ty x)) (ha:SlV conE t_api_Con H va l) (Q:SlV conE t_api_Con H Z m) (ap:l.length<=2000) (V:m.length<=2000) :
  Ans tab (.fn cM [.own b 0 2 2 1 true]) H fun v H'=>SlV conE t_api_Con H' v (l++m)/\Kp H H':=by
 refine cY C.q33 zU fun T hl w=>?_;have l2:lenV (.own b 0 2 2 1 true)=some (.int .i64 ((2:Nat):Int)):=rfl;have ao:=hw _ _ hb;refine zW (aE hl w l2) ?_;refine aq H [3] (fun j vs _=>vs=[.int .i64 (((if j=0 then 0 else if j=1 then l.length else l.length+m.length:Nat)):Int)]) (a:=0) (N:=2) rfl (by refine zW (aw hl w) ?_ <;> rfl) (zV (aw hl w)) (Vk _) zO (by simp only [U4,hl]; rfl) rfl (fun _ _ _ _ h=>h) zK (by refine zW (aw hl w) ?_ <;> rfl) ?_ ?_
 ·intro j T1 H1 _ hj d ab W t i;simp only [Vb,Vf,Vd,and_true] at i;have w1:=t.wf;have am:=t.le;have t9:ad T1 9=.own b 0 2 2 1 true:=(W.at_ 9 zU).trans (zV (aw hl w));have R:=t.get hb;simp only [U4,hl] at d;by_cases h0:j=0
  ·subst h0;have p:cd 1 (.own b 0 2 2 1 true) (.int .i64 ((0:Nat):Int))=some (.ptr b 0):=rfl;have L:IntKind.i64.wrap (0+(l.length:Int))=(l.length:Int):=by rw [wrap_i64] <;> omega
   have u:¬ (l.length:Int)<0:=zO;have i:ad T1 3=.int .i64 0:=i;refine zW (jB d t9 ab p R ha.lenV i L u) ?_;exact zK
  ·have h1:j=1:=zO;subst h1;have p:cd 1 (.own b 0 2 2 1 true) (.int .i64 ((1:Nat):Int))=some (.ptr b 1):=rfl;have L:IntKind.i64.wrap ((l.length:Int)+(m.length:Int))=(l.length:Int)+(m.length:Int):=by rw [wrap_i64] <;> omega
   have u:¬ (l.length:Int)+(m.length:Int)<0:=zO;have i:ad T1 3=.int .i64 (l.length:Int):=i;refine zW (jB d t9 ab p R Q.lenV i L u) ?_;exact ⟨zK,by simp⟩
 ·intro T1 H1 d W t i;simp only [Vb,Vf,Vd,and_true] at i;have w1:=t.wf;have am:=t.le;have t0:ad T1 0=.own b 0 2 2 1 true:=(W.at_ 0 zU).trans (zV (aw hl w));have i:ad T1 3=.int .i64 (((l.length+m.length:Nat)):Int):=i;simp only [U4,hl] at d;have R:=t.get hb;by_cases h0:l.length+m.length=0
  ·have i:ad T1 3=.int .i64 0:=by rw [i,h0]; rfl
   have el:l=[]:=VB zO;have em:m=[]:=VB zO;refine zW (aw d i) ?_;refine AnsH.use (MD C zF) ?_;rintro _ H2 ⟨rfl,U⟩;obtain ⟨k2,_,w2⟩:=zT H zK U;have ag:=k2.get hb;refine zW (aE d t0 l2) ?_;refine aq H [6] (fun j vs _=>vs=[.nilSl]) (a:=0) (N:=2) rfl (by refine zW d ?_ <;> rfl) (zV d) (Vk _) zO (by simp only [U4,d]; rfl) rfl (fun _ _ _ _ h=>h) zK (zV d) ?_ ?_
   ·intro j T2 c _ hj n F G f o;simp only [Vb,Vf,Vd,and_true] at o;have w3:=f.wf;have af:=f.le;have t25:ad T2 25=.own b 0 2 2 1 true:=(G.at_ 25 zU).trans (zV (aw d t0));have B:=f.get hb;simp only [U4,d] at n;have na:∀ {K:List (List Int × Bool)} {v:AV} (H':Heap) (id:Nat),K=[]->SlV conE t_api_Con H' v K->cC H' id 2 32 t_api_Con .nilSl v=some (.nilSl,H'):=fun H' id e hs=>by
     subst e;obtain ⟨av,hr,-,hc⟩:=hs;obtain ⟨m',V,ah⟩:=hr.length;obtain ⟨-,-,m2,ae,hf⟩:=hr;rw [V] at ae; cases ae;have ai:m'=0:=by
      have:=hc.1
      rw [ah] at this;have u:conE.sz=2:=rfl;rw [u] at this;simp at this;omega
     subst ai;unfold cC;rw [V];simp only;have u:conE.sz=2:=rfl;rw [u] at hf;rw [hf];rfl
    by_cases h0:j=0
    ·subst h0;have p:cd 1 (.own b 0 2 2 1 true) (.int .i64 ((0:Nat):Int))=some (.ptr b 0):=rfl;have M:=na (c.up 7) (c.next+5) el ((ha.mono f.sub).mono (Sub.bump c 7));refine zW (fE n t25 F p B o M) ?_;exact zK
    ·have h1:j=1:=zO;subst h1;have p:cd 1 (.own b 0 2 2 1 true) (.int .i64 ((1:Nat):Int))=some (.ptr b 1):=rfl;have M:=na (c.up 7) (c.next+5) em ((Q.mono f.sub).mono (Sub.bump c 7));refine zW (fE n t25 F p B o M) ?_;exact zK
   ·intro T2 c n G f o;simp only [Vb,Vf,Vd,and_true] at o;simp only [U4,d] at n;refine zW (aw n o) ?_;exact ⟨by rw [el,em]; exact SlV.nil _ _ _,zK⟩
  ·obtain ⟨N,hN⟩:∃ N,N=l.length+m.length:=⟨_,rfl⟩
   rw [<- hN] at i h0;refine zW (aw d i) ?_;refine AnsH.use (Pp C (m:=N) zF zO zO) ?_;rintro _ H2 ⟨g,rfl,hg,S,U⟩;obtain ⟨k2,_,w2⟩:=zT H zK U;have S:H.next<=g:=by
    have:=t.le
    have:H1.next+3<=g:=S
    omega
   have ag:=k2.get hb;have l0:=w2 _ _ hg;obtain ⟨z,Y⟩:∃ z,z=(List.replicate N [AV.nilSl,.bool false]).flatten:=⟨_,rfl⟩
   have zl:z.length=N*2:=by rw [Y]; simp
   rw [<- Y] at hg;clear Y;refine zW (aE d t0 l2) ?_;refine aq H [6] (fun j vs H'=>∃ k cells,k=(if j=0 then 0 else if j=1 then l.length else N)/\vs=[.own g 0 k N 2 false]/\H'.get g=some (.cells cells t_api_Con true)/\cells.length=N*2/\Cells conE H' (cells.take (k*2)) ((l++m).take k)) (a:=0) (N:=2) rfl (by refine zW d ?_ <;> rfl) (zV d) (Vk _) zO (by simp only [U4,d]; rfl) rfl (fun _ _ _ _ h=>h) zK ⟨0,z,rfl,by exact zV d,by exact zV hg,zl,Cells.nil _ _⟩ ?_ ?_
   ·rintro j T2 c _ hj n F G f ⟨k,cells,q,o,y,hcl,D⟩;simp only [Vb,Vf,Vd,and_true] at o;have w3:=f.wf;have af:=f.le;have ar:=w3 _ _ y;have t25:ad T2 25=.own b 0 2 2 1 true:=(G.at_ 25 zU).trans (zV (aw d t0));have B:=f.get hb;simp only [U4,d] at n;have aa:∀ r,(r=c.up 7\/∃ e,r=(c.up 7).put g e)->Kp H r:=fun r h=>by
     rcases h with rfl | ⟨e,rfl⟩
     ·exact zK
     ·exact (f.up 7).put S (by show g<c.next+7; omega)
    by_cases h0:j=0
    ·subst h0;have p:cd 1 (.own b 0 2 2 1 true) (.int .i64 ((0:Nat):Int))=some (.ptr b 0):=rfl;have q:k=0:=q;subst q;obtain ⟨J,r,s,O,I,A,P⟩:=sX (E:=conE) (bytes:=32) (id:=c.next+5) (k:=0) (l1:=[]) (H:=c.up 7) y zU (Cells.nil _ _) ((ha.mono f.sub).mono (Sub.bump c 7)) rfl hcl zO zO zO;have s:cC (c.up 7) (c.next+5) 2 32 t_api_Con (.own g 0 0 N 2 false) va=some (.own g 0 (0+l.length) N 2 false,r):=s;refine zW (fE n t25 F p B o s) ?_;refine ⟨aa _ P,l.length,J,by simp,by simp,O,I,?_⟩;rw [XM rfl];rw [VN] at A;exact A
    ·have h1:j=1:=zO;subst h1;have p:cd 1 (.own b 0 2 2 1 true) (.int .i64 ((1:Nat):Int))=some (.ptr b 1):=rfl;have q:k=l.length:=q;subst q;rw [XM rfl] at D;obtain ⟨J,r,s,O,I,A,P⟩:=sX (E:=conE) (bytes:=32) (id:=c.next+5) (k:=l.length) (l1:=l) (H:=c.up 7) y zU (D.mono ((Sub.bump c 7).t _)) ((Q.mono f.sub).mono (Sub.bump c 7)) rfl hcl zO zO zO;have s:cC (c.up 7) (c.next+5) 2 32 t_api_Con (.own g 0 l.length N 2 false) Z=some (.own g 0 (l.length+m.length) N 2 false,r):=s;rw [<- hN] at s A;refine zW (fE n t25 F p B o s) ?_;refine ⟨aa _ P,N,J,by simp,by simp,O,I,?_⟩;have X:(l++m).take N=l++m:=Vt (by rw [Vr]; omega);rw [X];exact A
   ·rintro T2 c n G f ⟨k,cells,q,o,y,hcl,D⟩;simp only [Vb,Vf,Vd,and_true] at o;have q:k=N:=q;subst q;have X:(l++m).take k=l++m:=Vt (by rw [Vr]; omega);have al:cells.take (k*2)=cells:=Vt zO;rw [X,al] at D;have w3:=f.wf;have af:=f.le;simp only [U4,d] at n;refine zW (aw n o) ?_;have aj:SlV conE t_api_Con c (.own g 0 k k 2 false) (l++m):=⟨cells,Rd.own y hcl zO,fun _ _ _ _ _ _ e=>by cases e; exact ⟨_,_,y⟩,D⟩
    exact ⟨aj.mono (Sub.bump c _),zK⟩
def Po (C:Code tab) (k:Wf H) {m:Nat} (h0:0<m) (hm:m<=4000) :
  Ans tab (.fn bX [.nilSl,.int .i64 (m:Int)]) H fun v H'=>∃ b,v=.own b 0 0 m 2 false/\H'.get b=some (.cells ((List.replicate m [.int .u8 0,.nilSl]).flatten) ai true)/\H.next<=b/\Kp H H':=by
 refine bk C.q50 zU fun T hl f g=>?_;have e0:¬ (m:Int)<0:=zO;have c:IntKind.i64.wrap ((m:Int)-0)=(m:Int):=by rw [wrap_i64] <;> omega
 have d:(0:Int)<(m:Int):=zO;have a:I4 .nilSl=some (.int .i64 0):=rfl;have z0:IntKind.i64.wrap 0=0:=by rw [wrap_i64] <;> omega
 have i:bQ 2 .nilSl none (some (.int .i64 0)) none=some .nilSl:=rfl;have h:lenV .nilSl=some (.int .i64 0):=rfl;have e:=Ha (H:=H.up 23) (id:=H.next+18) (sz:=2) (bytes:=32) (ty:=ai) (z:=[.int .u8 0,.nilSl]) (m:=m) rfl h0 zO zO;have j:bQ 2 (.own (H.next+18) 0 m m 2 false) none (some (.int .i64 0)) none=some (.own (H.next+18) 0 0 m 2 false):=Ae;simp -dsimp (maxSteps:=1000000) (disch:=(first | omega | assumption | exact aI _ | exact aZ _ _ | exact bD | exact cH _ _ _ | exact bN _ _ | exact bC _ _ _ _ _ _ | exact cR _ _ | exact bR _)) only [↓uV,uU,Nat.reduceLT,Nat.reduceEqDiff,Nat.reduceAdd,reduceIte,reduceCtorEq,Nat.reduceBEq,Int.reduceEq,Int.reduceLT,Int.reduceLE,Int.reduceAdd,Int.reduceSub,hl,f,g,e0,c,d,↓Dr,h,a,z0,i,↓Dt,e,j];exact ⟨_,rfl,ap _ _ _,zO,zK⟩
def MC (C:Code tab) (e:Wf H) :
  Ans tab (.fn bX [.nilSl,.int .i64 0]) H fun v H'=>v=.nilSl/\Kp H H':=by
 refine bk C.q50 zU fun T hl b c=>?_;have d:lenV .nilSl=some (.int .i64 0):=rfl;have a:I4 .nilSl=some (.int .i64 0):=rfl;have z0:IntKind.i64.wrap 0=0:=by rw [wrap_i64] <;> omega
 simp -dsimp (maxSteps:=1000000) (disch:=(first | omega | assumption | exact aI _ | exact aZ _ _ | exact bD | exact cH _ _ _ | exact bN _ _ | exact bC _ _ _ _ _ _ | exact cR _ _ | exact bR _)) only [↓uV,uU,Nat.reduceLT,Nat.reduceEqDiff,Nat.reduceAdd,reduceIte,reduceCtorEq,Nat.reduceBEq,Int.reduceEq,Int.reduceLT,Int.reduceLE,Int.reduceAdd,Int.reduceSub,hl,b,c,↓Dr,d,a,z0];exact zK
def Jf (C:Code tab) (hw:Wf H) {b:Nat} {va Z:AV} {l m:List (Nat × List Int)} {x:Bool} {ty:Nat} (hb:H.get b=some (.cells [va,Z] ty x)) (ha:SlV genE ai H va l) (Q:SlV genE ai H Z m) (ar:l.length<=2000) (V:m.length<=2000) :
  Ans tab (.fn cL [.own b 0 2 2 1 true]) H fun v H'=>SlV genE ai H' v (l++m)/\Kp H H':=by
 refine cY C.q31 zU fun T hl w=>?_;have l2:lenV (.own b 0 2 2 1 true)=some (.int .i64 ((2:Nat):Int)):=rfl;have ap:=hw _ _ hb;refine zW (aE hl w l2) ?_;refine aq H [3] (fun j vs _=>vs=[.int .i64 (((if j=0 then 0 else if j=1 then l.length else l.length+m.length:Nat)):Int)]) (a:=0) (N:=2) rfl (by refine zW (aw hl w) ?_ <;> rfl) (zV (aw hl w)) (Vk _) zO (by simp only [U4,hl]; rfl) rfl (fun _ _ _ _ h=>h) zK (by refine zW (aw hl w) ?_ <;> rfl) ?_ ?_
 ·intro j T1 H1 _ hj d ab W t i;simp only [Vb,Vf,Vd,and_true] at i;have w1:=t.wf;have ao:=t.le;have t9:ad T1 9=.own b 0 2 2 1 true:=(W.at_ 9 zU).trans (zV (aw hl w));have R:=t.get hb;simp only [U4,hl] at d;by_cases h0:j=0
  ·subst h0;have p:cd 1 (.own b 0 2 2 1 true) (.int .i64 ((0:Nat):Int))=some (.ptr b 0):=rfl;have L:IntKind.i64.wrap (0+(l.length:Int))=(l.length:Int):=by rw [wrap_i64] <;> omega
   have u:¬ (l.length:Int)<0:=zO;have i:ad T1 3=.int .i64 0:=i;refine zW (jB d t9 ab p R ha.lenV i L u) ?_;exact zK
  ·have h1:j=1:=zO;subst h1;have p:cd 1 (.own b 0 2 2 1 true) (.int .i64 ((1:Nat):Int))=some (.ptr b 1):=rfl;have L:IntKind.i64.wrap ((l.length:Int)+(m.length:Int))=(l.length:Int)+(m.length:Int):=by rw [wrap_i64] <;> omega
   have u:¬ (l.length:Int)+(m.length:Int)<0:=zO;have i:ad T1 3=.int .i64 (l.length:Int):=i;refine zW (jB d t9 ab p R Q.lenV i L u) ?_;exact ⟨zK,by simp⟩
 ·intro T1 H1 d W t i;simp only [Vb,Vf,Vd,and_true] at i;have w1:=t.wf;have ao:=t.le;have t0:ad T1 0=.own b 0 2 2 1 true:=(W.at_ 0 zU).trans (zV (aw hl w));have i:ad T1 3=.int .i64 (((l.length+m.length:Nat)):Int):=i;simp only [U4,hl] at d;have R:=t.get hb;by_cases h0:l.length+m.length=0
  ·have i:ad T1 3=.int .i64 0:=by rw [i,h0]; rfl
   have el:l=[]:=VB zO;have em:m=[]:=VB zO;refine zW (aw d i) ?_;refine AnsH.use (MC C zF) ?_;rintro _ H2 ⟨rfl,U⟩;obtain ⟨k2,_,w2⟩:=zT H zK U;have ag:=k2.get hb;refine zW (aE d t0 l2) ?_;refine aq H [6] (fun j vs _=>vs=[.nilSl]) (a:=0) (N:=2) rfl (by refine zW d ?_ <;> rfl) (zV d) (Vk _) zO (by simp only [U4,d]; rfl) rfl (fun _ _ _ _ h=>h) zK (zV d) ?_ ?_
   ·intro j T2 c _ hj n F G f o;simp only [Vb,Vf,Vd,and_true] at o;have w3:=f.wf;have af:=f.le;have t25:ad T2 25=.own b 0 2 2 1 true:=(G.at_ 25 zU).trans (zV (aw d t0));have B:=f.get hb;simp only [U4,d] at n;have na:∀ {K:List (Nat × List Int)} {v:AV} (H':Heap) (id:Nat),K=[]->SlV genE ai H' v K->cC H' id 2 32 ai .nilSl v=some (.nilSl,H'):=fun H' id e hs=>by
     subst e;obtain ⟨ax,hr,-,hc⟩:=hs;obtain ⟨m',V,ah⟩:=hr.length;obtain ⟨-,-,m2,ae,hf⟩:=hr;rw [V] at ae; cases ae;have aj:m'=0:=by
      have:=hc.1
      rw [ah] at this;have u:genE.sz=2:=rfl;rw [u] at this;simp at this;omega
     subst aj;unfold cC;rw [V];simp only;have u:genE.sz=2:=rfl;rw [u] at hf;rw [hf];rfl
    by_cases h0:j=0
    ·subst h0;have p:cd 1 (.own b 0 2 2 1 true) (.int .i64 ((0:Nat):Int))=some (.ptr b 0):=rfl;have M:=na (c.up 7) (c.next+5) el ((ha.mono f.sub).mono (Sub.bump c 7));refine zW (fE n t25 F p B o M) ?_;exact zK
    ·have h1:j=1:=zO;subst h1;have p:cd 1 (.own b 0 2 2 1 true) (.int .i64 ((1:Nat):Int))=some (.ptr b 1):=rfl;have M:=na (c.up 7) (c.next+5) em ((Q.mono f.sub).mono (Sub.bump c 7));refine zW (fE n t25 F p B o M) ?_;exact zK
   ·intro T2 c n G f o;simp only [Vb,Vf,Vd,and_true] at o;simp only [U4,d] at n;refine zW (aw n o) ?_;exact ⟨by rw [el,em]; exact SlV.nil _ _ _,zK⟩
  ·obtain ⟨N,hN⟩:∃ N,N=l.length+m.length:=⟨_,rfl⟩
   rw [<- hN] at i h0;refine zW (aw d i) ?_;refine AnsH.use (Po C (m:=N) zF zO zO) ?_;rintro _ H2 ⟨g,rfl,hg,S,U⟩;obtain ⟨k2,_,w2⟩:=zT H zK U;have S:H.next<=g:=by
    have:=t.le
    have:H1.next+3<=g:=S
    omega
   have ag:=k2.get hb;have l0:=w2 _ _ hg;obtain ⟨z,Y⟩:∃ z,z=(List.replicate N [AV.int .u8 0,.nilSl]).flatten:=⟨_,rfl⟩
   have zl:z.length=N*2:=by rw [Y]; simp
   rw [<- Y] at hg;clear Y;refine zW (aE d t0 l2) ?_;refine aq H [6] (fun j vs H'=>∃ k cells,k=(if j=0 then 0 else if j=1 then l.length else N)/\vs=[.own g 0 k N 2 false]/\H'.get g=some (.cells cells ai true)/\cells.length=N*2/\Cells genE H' (cells.take (k*2)) ((l++m).take k)) (a:=0) (N:=2) rfl (by refine zW d ?_ <;> rfl) (zV d) (Vk _) zO (by simp only [U4,d]; rfl) rfl (fun _ _ _ _ h=>h) zK ⟨0,z,rfl,by exact zV d,by exact zV hg,zl,Cells.nil _ _⟩ ?_ ?_
   ·rintro j T2 c _ hj n F G f ⟨k,cells,q,o,y,hcl,D⟩;simp only [Vb,Vf,Vd,and_true] at o;have w3:=f.wf;have af:=f.le;have av:=w3 _ _ y;have t25:ad T2 25=.own b 0 2 2 1 true:=(G.at_ 25 zU).trans (zV (aw d t0));have B:=f.get hb;simp only [U4,d] at n;have aa:∀ r,(r=c.up 7\/∃ e,r=(c.up 7).put g e)->Kp H r:=fun r h=>by
     rcases h with rfl | ⟨e,rfl⟩
     ·exact zK
     ·exact (f.up 7).put S (by show g<c.next+7; omega)
    by_cases h0:j=0
    ·subst h0;have p:cd 1 (.own b 0 2 2 1 true) (.int .i64 ((0:Nat):Int))=some (.ptr b 0):=rfl;have q:k=0:=q;subst q;obtain ⟨J,r,s,O,I,A,P⟩:=sX (E:=genE) (bytes:=32) (id:=c.next+5) (k:=0) (l1:=[]) (H:=c.up 7) y zU (Cells.nil _ _) ((ha.mono f.sub).mono (Sub.bump c 7)) rfl hcl zO zO zO;have s:cC (c.up 7) (c.next+5) 2 32 ai (.own g 0 0 N 2 false) va=some (.own g 0 (0+l.length) N 2 false,r):=s;refine zW (fE n t25 F p B o s) ?_;refine ⟨aa _ P,l.length,J,by simp,by simp,O,I,?_⟩;rw [XM rfl];rw [VN] at A;exact A
    ·have h1:j=1:=zO;subst h1;have p:cd 1 (.own b 0 2 2 1 true) (.int .i64 ((1:Nat):Int))=some (.ptr b 1):=rfl;have q:k=l.length:=q;subst q;rw [XM rfl] at D;obtain ⟨J,r,s,O,I,A,P⟩:=sX (E:=genE) (bytes:=32) (id:=c.next+5) (k:=l.length) (l1:=l) (H:=c.up 7) y zU (D.mono ((Sub.bump c 7).t _)) ((Q.mono f.sub).mono (Sub.bump c 7)) rfl hcl zO zO zO;have s:cC (c.up 7) (c.next+5) 2 32 ai (.own g 0 l.length N 2 false) Z=some (.own g 0 (l.length+m.length) N 2 false,r):=s;rw [<- hN] at s A;refine zW (fE n t25 F p B o s) ?_;refine ⟨aa _ P,N,J,by simp,by simp,O,I,?_⟩;have X:(l++m).take N=l++m:=Vt (by rw [Vr]; omega);rw [X];exact A
   ·rintro T2 c n G f ⟨k,cells,q,o,y,hcl,D⟩;simp only [Vb,Vf,Vd,and_true] at o;have q:k=N:=q;subst q;have X:(l++m).take k=l++m:=Vt (by rw [Vr]; omega);have am:cells.take (k*2)=cells:=Vt zO;rw [X,am] at D;have w3:=f.wf;have af:=f.le;simp only [U4,d] at n;refine zW (aw n o) ?_;have al:SlV genE ai c (.own g 0 k k 2 false) (l++m):=⟨cells,Rd.own y hcl zO,fun _ _ _ _ _ _ e=>by cases e; exact ⟨_,_,y⟩,D⟩
    exact ⟨al.mono (Sub.bump c _),zK⟩
def GW {a b:Nat} {x:List Int} (h:Lin.Bd (2^a) x) (c:a<=b):Lin.Bd (2^b) x:=fun i=>Vn (h i) (VI zU c)
set_option maxHeartbeats 4000000 in
def Lo (C:Code tab) (hw:Wf H) {v w:AV} {n e f e' u m m2:Nat} {K K':List (List Int × Bool)} {G G':List (Nat × List Int)} (hp:PolyV H v n K G) (S:PolyV H w n K' G') (i:PolyOK n e f K G) (r:PolyOK n e' u K' G') (ab:K.length+K'.length<=60) (hm:f<=m) (P:u<=m) (R:m<=300000) (M:∀ x∈Lin.gensP n (K++K'),Lin.Bd (2^m2) x.2) (Q:m2<=300000) :
  Ans tab (.fn rm [v,w]) H fun x H'=>qC H' x n (Lin.gensP n (K++K'))/\Kp H H':=by
 obtain ⟨V,Y,rfl,hc,hg⟩:=hp;obtain ⟨W,Z,rfl,o,z⟩:=S;have F:=hc.one;have J:=hg.one;have I:=o.one;have L:=z.one;refine bk C.q14 zU fun T hl a b=>?_;refine zW (dx hl a b (ki F J) (ki I L) (I5 F J I L)) ?_;refine AnsH.eq (pC C (n:=n) (l:=[(n,K,G),(n,K',G')]) zF (xz (ap _ _ _) (hc.mono (zG H)) (hg.mono (zG H)) (o.mono (zG H)) (z.mono (zG H))) (by simp) (HG i r)) fun H2 g=>?_;obtain ⟨k2,_,w2⟩:=zT H zK g;have d0:H2.get H.next=some (.cells [.int .i64 (n:Int),V,Y] aj true):=g.get (cy)
 have d1:H2.get (H.next+1)=some (.cells [.int .i64 (n:Int),W,Z] aj true):=g.get (cy);have d2:H2.get (H.next+2)=some (.cells [.int .i64 0,.nilSl,.nilSl] aj true):=g.get (cy);have af:=w2 _ _ d2;refine zW (aW hl a b @am) ?_;refine aF ?_;refine zD (dx hl a b d0 d1 d2) ?_;refine AnsH.use (Jg C zF (ap _ _ _) ((hc.mono k2.sub).mono (zG H2)) ((o.mono k2.sub).mono (zG H2)) zO zO) ?_;rintro v3 j ⟨U,N⟩;obtain ⟨k23,_,_⟩:=zT H2 zK N;have s:Kp H j:=k2.trans k23;have ad:=s.le;have w3:=s.wf;refine zD (dx hl a b d0 d1 d2) ?_;refine AnsH.use (kU C (n:=n) (m:=m) (m2:=m2) zF (U.mono (zG j)) i.dim (by rw [Vr]; omega) (fun c hc=>(Vq.1 hc).elim (fun h=>⟨(i.rowK c h).1,GW (i.rowK c h).2 hm⟩) fun h=>⟨(r.rowK c h).1,GW (r.rowK c h).2 P⟩) R M Q) ?_;rintro v4 k ⟨q,O⟩;obtain ⟨B,_,_⟩:=zT j zK O;have D:Kp H k:=s.trans B;have ae:=D.le;have w4:=D.wf;have d:=B.get (k23.get d2);have t:=k23.get d0;have ag:=w4 _ _ d;rcases q with ⟨rfl,q⟩ | ⟨p,rfl,⟨X,aa,rfl,y,A⟩,h1,h2⟩
 ·refine zD (jC hl a b d0 d1 t d @nt) ?_;exact ⟨.inl ⟨rfl,q⟩,zK⟩
 ·have ah:=y.one;have al:=A.one;refine zD (jC hl a b d0 d1 t d @nt) ?_;refine ⟨.inr ⟨_,rfl,⟨X,aa,rfl,?_,?_⟩,h1,h2⟩,zK⟩
  ·have m3:NoTy (t_api_Con :: conE.tys) k (H.next+2):=NoTy.ty d zU;exact SlV.monoT (E:=conE) zS y
  ·have m3:NoTy (ai :: genE.tys) k (H.next+2):=NoTy.ty d zU;exact SlV.monoT (E:=genE) zS A
set_option maxHeartbeats 4000000 in
def Ln (C:Code tab) (hw:Wf H) {v w:AV} {n e f e' L m m2 m3:Nat} {K K':List (List Int × Bool)} {G G':List (Nat × List Int)} (hp:PolyV H v n K G) (W:PolyV H w n K' G') (i:PolyOK n e f K G) (k:PolyOK n e' L K' G') (ae:G.length+G'.length<=60) (hm:e<=m) (R:e'<=m) (V:m<=300000) (M:∀ c∈Lin.consP n (G++G'),Lin.Bd (2^m2) c.1) (S:m2<=300000) (N:∀ x∈Lin.gensP n (Lin.consP n (G++G')),Lin.Bd (2^m3) x.2) (U:m3<=300000) (Q:(Lin.consP n (G++G')).length<=1022\/1024<=(Lin.consP n (G++G')).length) :
  Ans tab (.fn rl [v,w]) H fun x H'=>Km H' x n (G++G')/\Kp H H':=by
 obtain ⟨Y,vg,rfl,hc,hg⟩:=hp;obtain ⟨Z,ab,rfl,u,s⟩:=W;have D:=hc.one;have I:=hg.one;have F:=u.one;have J:=s.one;refine bk C.q13 zU fun T hl a b=>?_;refine zW (dx hl a b (ki D I) (ki F J) (I5 D I F J)) ?_;refine AnsH.eq (pC C (n:=n) (l:=[(n,K,G),(n,K',G')]) zF (xz (ap _ _ _) (hc.mono (zG H)) (hg.mono (zG H)) (u.mono (zG H)) (s.mono (zG H))) (by simp) (HG i k)) fun H2 j=>?_;obtain ⟨k2,_,w2⟩:=zT H zK j;have d0:H2.get H.next=some (.cells [.int .i64 (n:Int),Y,vg] aj true):=j.get (cy)
 have d1:H2.get (H.next+1)=some (.cells [.int .i64 (n:Int),Z,ab] aj true):=j.get (cy);have d2:H2.get (H.next+2)=some (.cells [.int .i64 0,.nilSl,.nilSl] aj true):=j.get (cy);have ah:=w2 _ _ d2;refine zW (aW hl a b @am) ?_;refine aF ?_;refine zD (dx hl a b d0 d1 d2) ?_;refine AnsH.use (Jf C zF (ap _ _ _) ((hg.mono k2.sub).mono (zG H2)) ((s.mono k2.sub).mono (zG H2)) zO zO) ?_;rintro v3 o ⟨X,O⟩;obtain ⟨k23,_,_⟩:=zT H2 zK O;have t:Kp H o:=k2.trans k23;have af:=t.le;have w3:=t.wf;refine zD (dx hl a b d0 d1 d2) ?_;refine AnsH.use (vZ C (n:=n) (m:=m) (m2:=m2) (m3:=m3) zF (X.mono (zG o)) i.dim (by rw [Vr]; omega) (Lin.validG_app i.own.valid k.own.valid) (fun x hx=>(Vq.1 hx).elim (i.kinds x) (k.kinds x)) (fun c hc=>(Vq.1 hc).elim (fun h=>GW (i.bG c h) hm) fun h=>GW (k.bG c h) R) V M S N U Q) ?_;rintro v4 q ⟨g,P⟩;obtain ⟨A,_,_⟩:=zT o zK P;have B:Kp H q:=t.trans A;have ag:=B.le;have w4:=B.wf;have d:=A.get (k23.get d2);have r:=k23.get d0;have al:=w4 _ _ d;rcases g with ⟨rfl,g⟩ | ⟨rfl,g⟩ | ⟨p,rfl,⟨aa,ad,rfl,y,z⟩,h1,h2⟩
 ·refine zD (jC hl a b d0 d1 r d @nt) ?_;exact ⟨.inl ⟨rfl,g⟩,zK⟩
 ·refine zD (jC hl a b d0 d1 r d @nt) ?_;exact ⟨.inr (.inl ⟨rfl,g⟩),zK⟩
 ·have ao:=y.one;have aq:=z.one;refine zD (jC hl a b d0 d1 r d @nt) ?_;refine ⟨.inr (.inr ⟨_,rfl,⟨aa,ad,rfl,?_,?_⟩,h1,h2⟩),zK⟩
  ·have m3:NoTy (t_api_Con :: conE.tys) q (H.next+2):=NoTy.ty d zU;exact SlV.monoT (E:=conE) zS y
  ·have m3:NoTy (ai :: genE.tys) q (H.next+2):=NoTy.ty d zU;exact SlV.monoT (E:=genE) zS z
end
end Go.Proofs.YteaefaohjlmjdaaGreat.Ev
namespace Go.Proofs.YteaefaohjlmjdaaGreat.Lin
def g13:gensP 1 [([-1,1],false),([3,-1],false)]=[(3,[1,1]),(3,[1,3])]:=by
 have r:(gensU 2 [] [[1,0],[-1,1],[3,-1]]).rays.map (restF (gensL 2 [] [[1,0],[-1,1],[3,-1]]))=[[1,1],[1,3]]:=by decide +kernel
 have e:gensL 2 [] [[1,0],[-1,1],[3,-1]]=[]:=by decide +kernel
 have g:gensR 2 [] [[1,0],[-1,1],[3,-1]]=[[1,1],[1,3]]:=by
  unfold gensR;rw [r]; simp [List.mergeSort,List.MergeSort.Internal.splitInTwo,cmpV]
 have h1:eqsOf ([([-1,1],false),([3,-1],false)]:List (V × Bool))=[]:=rfl;have h2:ineqsOf 1 ([([-1,1],false),([3,-1],false)]:List (V × Bool))=[[1,0],[-1,1],[3,-1]]:=rfl;unfold gensP;rw [h1,h2,e,g];rfl
def g23:gensP 1 [([-2,1],false),([3,-1],false)]=[(3,[1,2]),(3,[1,3])]:=by
 have r:(gensU 2 [] [[1,0],[-2,1],[3,-1]]).rays.map (restF (gensL 2 [] [[1,0],[-2,1],[3,-1]]))=[[1,2],[1,3]]:=by decide +kernel
 have e:gensL 2 [] [[1,0],[-2,1],[3,-1]]=[]:=by decide +kernel
 have g:gensR 2 [] [[1,0],[-2,1],[3,-1]]=[[1,2],[1,3]]:=by
  unfold gensR;rw [r]; simp [List.mergeSort,List.MergeSort.Internal.splitInTwo,cmpV]
 have h1:eqsOf ([([-2,1],false),([3,-1],false)]:List (V × Bool))=[]:=rfl;have h2:ineqsOf 1 ([([-2,1],false),([3,-1],false)]:List (V × Bool))=[[1,0],[-2,1],[3,-1]]:=rfl;unfold gensP;rw [h1,h2,e,g];rfl
def g55:gensP 1 [([-5,1],false),([5,-1],false)]=[(3,[1,5])]:=by
 have r:(gensU 2 [] [[1,0],[-5,1],[5,-1]]).rays.map (restF (gensL 2 [] [[1,0],[-5,1],[5,-1]]))=[[1,5]]:=by decide +kernel
 have e:gensL 2 [] [[1,0],[-5,1],[5,-1]]=[]:=by decide +kernel
 have g:gensR 2 [] [[1,0],[-5,1],[5,-1]]=[[1,5]]:=by
  unfold gensR;rw [r]; simp [List.mergeSort,List.MergeSort.Internal.splitInTwo,cmpV]
 have h1:eqsOf ([([-5,1],false),([5,-1],false)]:List (V × Bool))=[]:=rfl;have h2:ineqsOf 1 ([([-5,1],false),([5,-1],false)]:List (V × Bool))=[[1,0],[-5,1],[5,-1]]:=rfl;unfold gensP;rw [h1,h2,e,g];rfl
def g15:gensP 1 [([-1,1],false),([5,-1],false)]=[(3,[1,1]),(3,[1,5])]:=by
 have r:(gensU 2 [] [[1,0],[-1,1],[5,-1]]).rays.map (restF (gensL 2 [] [[1,0],[-1,1],[5,-1]]))=[[1,1],[1,5]]:=by decide +kernel
 have e:gensL 2 [] [[1,0],[-1,1],[5,-1]]=[]:=by decide +kernel
 have g:gensR 2 [] [[1,0],[-1,1],[5,-1]]=[[1,1],[1,5]]:=by
  unfold gensR;rw [r]; simp [List.mergeSort,List.MergeSort.Internal.splitInTwo,cmpV]
 have h1:eqsOf ([([-1,1],false),([5,-1],false)]:List (V × Bool))=[]:=rfl;have h2:ineqsOf 1 ([([-1,1],false),([5,-1],false)]:List (V × Bool))=[[1,0],[-1,1],[5,-1]]:=rfl;unfold gensP;rw [h1,h2,e,g];rfl
def g49:gensP 1 [([-4,1],false),([9,-1],false)]=[(3,[1,4]),(3,[1,9])]:=by
 have r:(gensU 2 [] [[1,0],[-4,1],[9,-1]]).rays.map (restF (gensL 2 [] [[1,0],[-4,1],[9,-1]]))=[[1,4],[1,9]]:=by decide +kernel
 have e:gensL 2 [] [[1,0],[-4,1],[9,-1]]=[]:=by decide +kernel
 have g:gensR 2 [] [[1,0],[-4,1],[9,-1]]=[[1,4],[1,9]]:=by
  unfold gensR;rw [r]; simp [List.mergeSort,List.MergeSort.Internal.splitInTwo,cmpV]
 have h1:eqsOf ([([-4,1],false),([9,-1],false)]:List (V × Bool))=[]:=rfl;have h2:ineqsOf 1 ([([-4,1],false),([9,-1],false)]:List (V × Bool))=[[1,0],[-4,1],[9,-1]]:=rfl;unfold gensP;rw [h1,h2,e,g];rfl
def k13:consP 1 [(3,[1,1]),(3,[1,3])]=[([-1,1],false),([3,-1],false)]:=by
 have r:(gensU 2 [] [[1,1],[1,3]]).rays.map (restF (gensL 2 [] [[1,1],[1,3]]))=[[3,-1],[-1,1]]:=by decide +kernel
 have e:gensL 2 [] [[1,1],[1,3]]=[]:=by decide +kernel
 have g:gensR 2 [] [[1,1],[1,3]]=[[-1,1],[3,-1]]:=by
  unfold gensR;rw [r]; simp [List.mergeSort,List.MergeSort.Internal.splitInTwo,cmpV]
 have h1:linesOf ([(3,[1,1]),(3,[1,3])]:List (Nat × V))=[]:=rfl;have h2:raysOf ([(3,[1,1]),(3,[1,3])]:List (Nat × V))=[[1,1],[1,3]]:=rfl;unfold consP;rw [h1,h2,e,g];decide
def k49:consP 1 [(3,[1,4]),(3,[1,9])]=[([-4,1],false),([9,-1],false)]:=by
 have r:(gensU 2 [] [[1,4],[1,9]]).rays.map (restF (gensL 2 [] [[1,4],[1,9]]))=[[9,-1],[-4,1]]:=by decide +kernel
 have e:gensL 2 [] [[1,4],[1,9]]=[]:=by decide +kernel
 have g:gensR 2 [] [[1,4],[1,9]]=[[-4,1],[9,-1]]:=by
  unfold gensR;rw [r]; simp [List.mergeSort,List.MergeSort.Internal.splitInTwo,cmpV]
 have h1:linesOf ([(3,[1,4]),(3,[1,9])]:List (Nat × V))=[]:=rfl;have h2:raysOf ([(3,[1,4]),(3,[1,9])]:List (Nat × V))=[[1,4],[1,9]]:=rfl;unfold consP;rw [h1,h2,e,g];decide
def kh:consP 1 [(3,[1,1]),(3,[1,3]),(3,[1,5])]=[([-1,1],false),([5,-1],false)]:=by
 have r:(gensU 2 [] [[1,1],[1,3],[1,5]]).rays.map (restF (gensL 2 [] [[1,1],[1,3],[1,5]]))=[[-1,1],[5,-1]]:=by decide +kernel
 have e:gensL 2 [] [[1,1],[1,3],[1,5]]=[]:=by decide +kernel
 have g:gensR 2 [] [[1,1],[1,3],[1,5]]=[[-1,1],[5,-1]]:=by
  unfold gensR;rw [r]; simp [List.mergeSort,List.MergeSort.Internal.splitInTwo,cmpV]
 have h1:linesOf ([(3,[1,1]),(3,[1,3]),(3,[1,5])]:List (Nat × V))=[]:=rfl;have h2:raysOf ([(3,[1,1]),(3,[1,3]),(3,[1,5])]:List (Nat × V))=[[1,1],[1,3],[1,5]]:=rfl;unfold consP;rw [h1,h2,e,g];decide
def m23:gensP 1 [([-1,1],false),([3,-1],false),([-2,1],false)]=[(3,[1,2]),(3,[1,3])]:=by
 have r:(gensU 2 [] [[1,0],[-1,1],[3,-1],[-2,1]]).rays.map (restF (gensL 2 [] [[1,0],[-1,1],[3,-1],[-2,1]]))=[[1,3],[1,2]]:=by decide +kernel
 have e:gensL 2 [] [[1,0],[-1,1],[3,-1],[-2,1]]=[]:=by decide +kernel
 have g:gensR 2 [] [[1,0],[-1,1],[3,-1],[-2,1]]=[[1,2],[1,3]]:=by
  unfold gensR;rw [r]; simp [List.mergeSort,List.MergeSort.Internal.splitInTwo,cmpV]
 have h1:eqsOf ([([-1,1],false),([3,-1],false),([-2,1],false)]:List (V × Bool))=[]:=rfl;have h2:ineqsOf 1 ([([-1,1],false),([3,-1],false),([-2,1],false)]:List (V × Bool))=[[1,0],[-1,1],[3,-1],[-2,1]]:=rfl;unfold gensP;rw [h1,h2,e,g];rfl
def b0:gensP 1 [([-1,1],false),([3,-1],false),([-4,1],false),([9,-1],false)]=[]:=by
 have r:(gensU 2 [] [[1,0],[-1,1],[3,-1],[-4,1],[9,-1]]).rays.map (restF (gensL 2 [] [[1,0],[-1,1],[3,-1],[-4,1],[9,-1]]))=[]:=by decide +kernel
 have e:gensL 2 [] [[1,0],[-1,1],[3,-1],[-4,1],[9,-1]]=[]:=by decide +kernel
 have g:gensR 2 [] [[1,0],[-1,1],[3,-1],[-4,1],[9,-1]]=[]:=by
  unfold gensR;rw [r]; simp
 have h1:eqsOf ([([-1,1],false),([3,-1],false),([-4,1],false),([9,-1],false)]:List (V × Bool))=[]:=rfl;have h2:ineqsOf 1 ([([-1,1],false),([3,-1],false),([-4,1],false),([9,-1],false)]:List (V × Bool))=[[1,0],[-1,1],[3,-1],[-4,1],[9,-1]]:=rfl;unfold gensP;rw [h1,h2,e,g];rfl
def k23:consP 1 [(3,[1,2]),(3,[1,3])]=[([-2,1],false),([3,-1],false)]:=by
 have r:(gensU 2 [] [[1,2],[1,3]]).rays.map (restF (gensL 2 [] [[1,2],[1,3]]))=[[3,-1],[-2,1]]:=by decide +kernel
 have e:gensL 2 [] [[1,2],[1,3]]=[]:=by decide +kernel
 have g:gensR 2 [] [[1,2],[1,3]]=[[-2,1],[3,-1]]:=by
  unfold gensR;rw [r]; simp [List.mergeSort,List.MergeSort.Internal.splitInTwo,cmpV]
 have h1:linesOf ([(3,[1,2]),(3,[1,3])]:List (Nat × V))=[]:=rfl;have h2:raysOf ([(3,[1,2]),(3,[1,3])]:List (Nat × V))=[[1,2],[1,3]]:=rfl;unfold consP;rw [h1,h2,e,g];decide
def k15:consP 1 [(3,[1,1]),(3,[1,5])]=[([-1,1],false),([5,-1],false)]:=by
 have r:(gensU 2 [] [[1,1],[1,5]]).rays.map (restF (gensL 2 [] [[1,1],[1,5]]))=[[5,-1],[-1,1]]:=by decide +kernel
 have e:gensL 2 [] [[1,1],[1,5]]=[]:=by decide +kernel
 have g:gensR 2 [] [[1,1],[1,5]]=[[-1,1],[5,-1]]:=by
  unfold gensR;rw [r]; simp [List.mergeSort,List.MergeSort.Internal.splitInTwo,cmpV]
 have h1:linesOf ([(3,[1,1]),(3,[1,5])]:List (Nat × V))=[]:=rfl;have h2:raysOf ([(3,[1,1]),(3,[1,5])]:List (Nat × V))=[[1,1],[1,5]]:=rfl;unfold consP;rw [h1,h2,e,g];decide
def k55:consP 1 [(3,[1,5])]=[([-5,1],true)]:=by
 have r:(gensU 2 [] [[1,5]]).rays.map (restF (gensL 2 [] [[1,5]]))=[[1,0]]:=by decide +kernel
 have e:gensL 2 [] [[1,5]]=[[-5,1]]:=by decide +kernel
 have g:gensR 2 [] [[1,5]]=[[1,0]]:=by
  unfold gensR;rw [r]; simp
 have h1:linesOf ([(3,[1,5])]:List (Nat × V))=[]:=rfl;have h2:raysOf ([(3,[1,5])]:List (Nat × V))=[[1,5]]:=rfl;unfold consP;rw [h1,h2,e,g];decide
def g55b:gensP 1 [([-5,1],true)]=[(3,[1,5])]:=by
 have r:(gensU 2 [[-5,1]] [[1,0]]).rays.map (restF (gensL 2 [[-5,1]] [[1,0]]))=[[1,5]]:=by decide +kernel
 have e:gensL 2 [[-5,1]] [[1,0]]=[]:=by decide +kernel
 have g:gensR 2 [[-5,1]] [[1,0]]=[[1,5]]:=by
  unfold gensR;rw [r]; simp
 have h1:eqsOf ([([-5,1],true)]:List (V × Bool))=[[-5,1]]:=rfl;have h2:ineqsOf 1 ([([-5,1],true)]:List (V × Bool))=[[1,0]]:=rfl;unfold gensP;rw [h1,h2,e,g];rfl
def bd_small4 {x:V} (h:x.all (fun a=>decide (a.natAbs<=16))=true):Bd (2^4) x:=fun i=>by
 by_cases hi:i<x.length
 ·have:at_ x i=x[i]:=by simp [at_,hi]
  rw [this]
  simpa using VA.1 h _ (U9 hi)
 ·have:at_ x i=0:=by simp [at_,hi]
  rw [this]; simp
end Go.Proofs.YteaefaohjlmjdaaGreat.Lin
namespace Go.Proofs.YteaefaohjlmjdaaGreat.Ev
open Go Nn
section
variable {tab:Nat->Option az} {H:Heap} {s:AV}
def qS (C:Code tab) (l:Wf H) {v:AV} {n:Nat} {c:List (List Int × Bool)} {g:List (Nat × List Int)} (hp:PolyV H v n c g) :
  Ans tab (.fn fN [v]) H fun x H'=>x=.bool (lW c g || decide (4<n))/\Kp H H':=by
 obtain ⟨f,h,rfl,hc,hg⟩:=hp;have i:=hc.one;have j:=hg.one;refine cY C.q6 zU fun T hl a=>?_;refine zW (aE hl a (ki i j)) ?_;refine AnsH.eq (FI C (n:=n) (c:=c) (g:=g) zF ⟨f,h,rfl,hc.mono (zG H),hg.mono (zG H)⟩) fun H2 d=>?_;obtain ⟨k2,_,_⟩:=zT H zK d;have d0:=d.get (b:=H.next) (e:=.cells [.int .i64 (n:Int),f,h] aj true) (cy);have e:decide ((4:Int)<(n:Int))=decide (4<n):=by rw [Wi]; simp; omega
 cases k:lW c g with
 | true =>
  refine zW (aw hl a) ?_;exact ⟨by simp,zK⟩
 | false =>
  refine zW (aE hl a d0) ?_;exact ⟨by simp [e],zK⟩
def As (C:Code tab) (A:Wf H) {v f:AV} {n n':Nat} {c c':List (List Int × Bool)} {g g':List (Nat × List Int)} (hp:PolyV H v n c g) (m:PolyV H f n' c' g') (h:c.length<1099511627776) (i:∀ r∈c,r.1.length<1099511627776/\∀ z∈r.1,fq z) (j:g.length<1099511627776) (k:∀ r∈g,r.2.length<1099511627776/\∀ z∈r.2,fq z) :
  Ans tab (.fn gC [v,f]) H fun x H'=>x=.bool (decide (n=n'/\c=c'/\g=g'))/\Kp H H':=by
 obtain ⟨t,w,rfl,hc,hg⟩:=hp;obtain ⟨u,y,rfl,d,e⟩:=m;have o:=hc.one;have q:=hg.one;have p:=d.one;have s:=e.one;refine bk C.q9 zU fun T hl a b=>?_;refine zW (bO hl a b (ki o q) (ki p s)) ?_;refine AnsH.eq (HV C (n:=n) (n':=n') zF ⟨t,w,rfl,hc.mono (zG H),hg.mono (zG H)⟩ ⟨u,y,rfl,d.mono (zG H),e.mono (zG H)⟩ h i j k) fun H2 l=>?_;obtain ⟨k2,_,_⟩:=zT H zK l;refine zW (aE hl a b) ?_;exact zK
def rC (n:Nat) (c:List (List Int × Bool)) (g:List (Nat × List Int)) (n':Nat) (c':List (List Int × Bool)) (g':List (Nat × List Int)):Bool :=
 (lW c g || decide (4<n)) || (lW c' g' || decide (4<n')) || decide (8<c.length+c'.length) || decide (8<g.length+g'.length)
set_option maxHeartbeats 2000000 in
def Gc (C:Code tab) (J:Wf H) {v q:AV} {n n':Nat} {c c':List (List Int × Bool)} {g g':List (Nat × List Int)} (hp:PolyV H v n c g) (A:PolyV H q n' c' g') (h1:c.length<1099511627776) (h2:c'.length<1099511627776) (h3:g.length<1099511627776) (I:g'.length<1099511627776) :
  Ans tab (.fn fU [v,q]) H fun x H'=>x=.bool (rC n c g n' c' g')/\Kp H H':=by
 obtain ⟨r,t,rfl,hc,hg⟩:=hp;obtain ⟨s,u,rfl,f,i⟩:=A;have D:=hc.one;have F:=hg.one;have E:=f.one;have G:=i.one;refine bk C.q18 zU fun T hl a d=>?_;refine zW (bO hl a d (ki D F) (ki E G)) ?_;refine AnsH.eq (qS C (n:=n) (c:=c) (g:=g) zF ⟨r,t,rfl,hc.mono (zG H),hg.mono (zG H)⟩) fun H2 j=>?_;obtain ⟨k2,_,L⟩:=zT H zK j;have d0:=j.get (b:=H.next) (e:=.cells [.int .i64 (n:Int),r,t] aj true) (cy);have d1:=j.get (b:=H.next+1) (e:=.cells [.int .i64 (n':Int),s,u] aj true) (cy);cases h:lW c g || decide (4<n) with
 | true =>
  refine zW (aE hl a d) ?_;exact ⟨by unfold rC; rw [h]; simp,zK⟩
 | false =>
  refine zW (aW hl a d d1) ?_;refine AnsH.eq (qS C (n:=n') (c:=c') (g:=g') zF ⟨s,u,rfl,(f.mono k2.sub).mono (zG H2),(i.mono k2.sub).mono (zG H2)⟩) fun w z=>?_;obtain ⟨k23,_,_⟩:=zT H2 zK z;have B:Kp H w:=k2.trans k23;have K:=B.le;have m:=k23.get d0;have o:=k23.get d1;cases k:lW c' g' || decide (4<n') with
  | true =>
   refine zW (aE hl a d) ?_;exact ⟨by unfold rC; rw [h,k]; simp,zK⟩
  | false =>
   have p:IntKind.i64.wrap ((c.length:Int)+(c'.length:Int))=(c.length:Int)+(c'.length:Int):=by rw [wrap_i64] <;> omega
   have y:IntKind.i64.wrap ((g.length:Int)+(g'.length:Int))=(g.length:Int)+(g'.length:Int):=by rw [wrap_i64] <;> omega
   by_cases q1:(8:Int)<(c.length:Int)+(c'.length:Int)
   ·have l:8<c.length+c'.length:=zO;refine zW (jB hl a d m o hc.lenV f.lenV p q1) ?_;exact ⟨by unfold rC; rw [h,k]; simp [l],zK⟩
   ·have l:¬ 8<c.length+c'.length:=zO;refine zW (zx hl a d m o hc.lenV f.lenV p q1 hg.lenV i.lenV y) ?_;refine ⟨?_,zK⟩;unfold rC;rw [h,k];congr 1;rw [Wi];simp [l];omega
def G7 {α:Type} {E:fF α} {ty ty2 bytes id b:Nat} {H:Heap} {w:AV} {cs:List AV} (hb:H.get b=some (.cells cs ty true)) (hy:SlV E ty2 H w []):cC H id E.sz bytes ty (.own b 0 0 0 E.sz true) w=some (.own b 0 0 0 E.sz true,H):=by
 obtain ⟨g,hr,-,hc⟩:=hy;obtain ⟨m',a,e⟩:=hr.length;obtain ⟨-,-,m2,c,d⟩:=hr;rw [a] at c; cases c;have f:m'=0:=WW E.pos (by rw [<- e,hc.1]; rfl);subst f;unfold cC;rw [a];simp only;rw [d];simp only [cQ,hb]
 simp
def Bq.weak {α:Type} {E:fF α} {ty:Nat} {H0 a H:Heap} {v:AV} {l:List α} (h:Bq E ty H0 H v l) (hn:a.next<=H0.next):Bq E ty a H v l:=by
 rcases h with h | ⟨b,ex,cells,h1,h2,h3,c⟩
 ·exact .inl h
 ·exact .inr ⟨b,ex,cells,h1,h2,h3,Vn hn c⟩
def Do (C:Code tab) (k:Wf H) {l:List (List Int × Bool)} (hs:SlV conE t_api_Con H s l) (n:l.length<1099511627776):Ans tab (.fn cT [s]) H fun v H'=>Kp H H'/\Bq conE t_api_Con H H' v l:=by
 refine cY C.q21 zU fun T hl a=>?_;rcases hs.nilcase with ⟨rfl,rfl⟩ | hne
 ·have e:bu .eql .sl .nilSl .nilSl=some (.bool true):=rfl;refine zW (aE hl a e) ?_;exact ⟨zK,Bq.nil⟩
 ·have g:cZ ([]:List AV) []=some []:=rfl;refine zW (aW hl a hne g) ?_;have k1:Kp H ((H.up 7).put (H.next+3) (.cells [] t_api_Con true)):=zK;have q:=k1.le;have d:Own conE t_api_Con H ((H.up 7).put (H.next+3) (.cells [] t_api_Con true)) (H.next+3) true (.own (H.next+3) 0 0 0 2 true) ([]:List (List Int × Bool)):=⟨_,rfl,ap _ _ _,Cells.nil _ _,zO⟩
  by_cases h0:0<l.length
  ·obtain ⟨m,H2,f,h2,h,o,p,j⟩:=SlV.app (l:=[]) (id:=H.next+5) (bytes:=32) d.sl k1 (hs.mono k1.sub) zO (by show _<H.next+7; omega) (by rw [aB zO]; exact k.fresh (b:=H.next+5) zO) (by simp; omega) (by simp; omega);have c:cC ((H.up 7).put (H.next+3) (.cells [] t_api_Con true)) (H.next+5) 2 32 t_api_Con (.own (H.next+3) 0 0 0 2 true) s=some (m,H2):=f;refine zW (aE hl a c) ?_;exact ⟨h,.inr ⟨_,_,j h0⟩⟩
  ·have i:l=[]:=VB zO;subst i;have c:cC ((H.up 7).put (H.next+3) (.cells [] t_api_Con true)) (H.next+5) 2 32 t_api_Con (.own (H.next+3) 0 0 0 2 true) s=some (.own (H.next+3) 0 0 0 2 true,(H.up 7).put (H.next+3) (.cells [] t_api_Con true)):=G7 (E:=conE) (ap _ _ _) (hs.mono k1.sub);refine zW (aE hl a c) ?_;exact ⟨k1,.inr ⟨_,_,d⟩⟩
set_option maxHeartbeats 4000000 in
def CE (C:Code tab) (hw:Wf H) {v w:AV} {n e f m m2:Nat} {K:List (List Int × Bool)} {G:List (Nat × List Int)} {a:List Int} {b:Bool} (hp:PolyV H v n K G) (r:PolyOK n e f K G) (ha:RowV H w a) (X:a.length=n+1) (W:Lin.Bd (2^m) a) (Z:K.length+1<=60) (hm:f<=m) (ab:m<=300000) (V:∀ x∈Lin.gensP n (K++[(a,b)]),Lin.Bd (2^m2) x.2) (aa:m2<=300000) :
  Ans tab (.fn nC [v,.agg [w,.bool b]]) H fun x H'=>qC H' x n (Lin.gensP n (K++[(a,b)]))/\Kp H H':=by
 obtain ⟨R,S,rfl,hc,hg⟩:=hp;have oc:=hc.one;have og:=hg.one;have oa:=ha.one;refine bk C.q5 zU fun T hl g i=>?_;refine zW (bO hl g i (ki oc og) (wJ oa)) ?_;refine AnsH.eq (mN C (n:=n) (K:=K) (G:=G) zF ⟨R,S,rfl,hc.mono (zG H),hg.mono (zG H)⟩ r) fun H2 o=>?_;obtain ⟨k2,_,J⟩:=zT H zK o;have d0:H2.get H.next=some (.cells [.int .i64 (n:Int),R,S] aj true):=o.get (cy)
 have d1:H2.get (H.next+1)=some (.cells [w,.bool b] t_api_Con true):=o.get (cy);have d2:H2.get (H.next+2)=some (.cells [.int .i64 0,.nilSl,.nilSl] aj true):=o.get (cy);have ao:=J _ _ d2;refine zW (aW hl g i @am) ?_;refine aF ?_;refine zD (dx hl g i d0 d1 d2) ?_;refine AnsH.use (Do C zF ((hc.mono k2.sub).mono (zG H2)) zO) ?_;rintro v3 d ⟨q,ad⟩;obtain ⟨k23,_,_⟩:=zT H2 zK q;have F:Kp H d:=k2.trans k23;have ag:=F.le;have w3:=F.wf;have t:=k23.get d0;have u:=k23.get d1;have y:=k23.get d2;have n3:H2.next+15<=d.next:=q.le
 have f6:d.get (H2.next+8)=none:=q.free (show H2.next+8<H2.next+15 by omega) (J.fresh (b:=H2.next+8) zO);have U:d.get (H2.next+9)=none:=q.free (show H2.next+9<H2.next+15 by omega) (J.fresh (b:=H2.next+9) zO);have q3:Bq conE t_api_Con H2 d v3 K:=ad.weak (by show H2.next<=H2.next+15; omega);obtain ⟨N,k,A,q4,D,n4,-,-⟩:=Bq.push (ty2:=t_api_Con) (bytes:=32) (id:=H2.next+9) (id2:=H2.next+8) (cs:=[w,.bool b]) (a:=(a,b)) q3 zU k23 ⟨w,rfl,ha.mono F.sub⟩ zO zO U zO zO f6 zO zO zO;have A:cC (d.put (H2.next+8) (.cells [w,.bool b] t_api_Con true)) (H2.next+9) 2 32 t_api_Con v3 (.own (H2.next+8) 0 1 1 2 true)=some (.own (H2.next+9) 0 N N 2 false,k):=A;have I:Kp H k:=k2.trans D;have ah:=I.le;have w4:=I.wf;have L:=D.get d0;have z:=D.get d2;refine zD (np hl g i d0 d1 d2 t u y A) ?_;refine AnsH.use (kU C (n:=n) (m:=m) (m2:=m2) (l:=K++[(a,b)]) zF (q4.sl.mono (zG k)) r.dim (by rw [Vr]; exact Z) (fun c hc=>(Vq.1 hc).elim (fun h=>⟨(r.rowK c h).1,GW (r.rowK c h).2 hm⟩) fun h=>by rw [Vp] at h; subst h; exact ⟨X,W⟩) ab V aa) ?_;rintro v5 s ⟨B,Y⟩;obtain ⟨P,_,_⟩:=zT k zK Y;have Q:Kp H s:=I.trans P;have al:=Q.le;have w5:=Q.wf;have j:=P.get z;have ap:=w5 _ _ j;rcases B with ⟨rfl,B⟩ | ⟨p,rfl,⟨ae,af,rfl,M,O⟩,h1,h2⟩
 ·refine zD (yZ hl g i d0 d1 d2 t u y L z j @nt) ?_;exact ⟨.inl ⟨rfl,B⟩,zK⟩
 ·have aq:=M.one;have ar:=O.one;refine zD (yZ hl g i d0 d1 d2 t u y L z j @nt) ?_;refine ⟨.inr ⟨_,rfl,⟨ae,af,rfl,?_,?_⟩,h1,h2⟩,zK⟩
  ·have m3:NoTy (t_api_Con :: conE.tys) s (H.next+2):=NoTy.ty j zU;exact SlV.monoT (E:=conE) zS M
  ·have m3:NoTy (ai :: genE.tys) s (H.next+2):=NoTy.ty j zU;exact SlV.monoT (E:=genE) zS O
def xA (C:Code tab) (h:Wf H) {l:List Int} {ty:Nat} (hs:y8 (Iz .i64) ty H s l) (d:l.length<=64) (f:∀ z∈l,-9223372036854775808<=z/\z<9223372036854775808) :
  Ans tab (.fn hZ [s]) H fun v H'=>∃ w,v=.agg [w,.bool false]/\RowV H' w l/\Kp H H':=by
 refine cY C.q12 zU fun T hl a=>?_;refine zW (aw hl a) ?_;refine AnsH.use (RZ C zF (hs.mono (zG H)) d f) ?_;rintro v H2 ⟨hr,c⟩;obtain ⟨k2,_,g⟩:=zT H zK c;have d0:=c.get (b:=H.next) (e:=.cells [.nilSl,.bool false] t_api_Con true) (cy);have i:=g _ _ d0;have ov:=hr.one;have m3:NoTy (aa :: intE.tys) H2 H.next:=NoTy.ty d0 zU
 refine zW (aW hl a d0 (zr ov)) ?_;exact ⟨v,rfl,SlV.monoT (E:=intE) zS hr,zK⟩
def KW {a b:Int} (ha:a.natAbs<=9) (hb:b.natAbs<=9):∀ c∈[(([-a,1]:List Int),false),([b,-1],false)],c.1.length=1+1/\Lin.Bd (2^4) c.1:=fun c hc=>by
 have key:∀ x y:Int,x.natAbs<=9->y.natAbs<=9->Lin.Bd (2^4) [x,y]:=fun x y hx hy i=>by
  match i with
  | 0=>show x.natAbs<=16; omega
  | 1=>show y.natAbs<=16; omega
  | i+2=>simp [Lin.at_]
 rcases VF.1 hc with rfl | hc
 ·exact ⟨rfl,key _ _ zO zO⟩
 ·rw [Vp] at hc; subst hc;exact ⟨rfl,key _ _ hb zO⟩
set_option maxHeartbeats 2000000 in
def iY (C:Code tab) (U:Wf H) {a b:Int} (ha:a.natAbs<=9) (hb:b.natAbs<=9) {g:List (Nat × List Int)} {K:List (List Int × Bool)} (R:Lin.gensP 1 [([-a,1],false),([b,-1],false)]=g) (S:Lin.consP 1 g=K) (lg:g.length<1024) (X:K.length<1024) :
  Ans tab (.fn fj [.int .i64 a,.int .i64 b]) H fun v H'=>PolyV H' v 1 K g/\Kp H H':=by
 refine bk C.q11 zU fun T hl i j=>?_;have P:IntKind.i64.wrap (0-a) = -a:=by rw [wrap_i64] <;> omega
 refine zW (aW hl i j P) ?_;have e0:Emp (H.up 16) H.next (H.next+16):=Emp.start U
 refine AnsH.use (xA C (l:=[-a,1]) zF (AT (by refine wO ?_; rfl)) (by simp) (by simp; omega)) ?_;rintro _ H2 ⟨v3,rfl,r3,q⟩;obtain ⟨k2,_,w2⟩:=zT H zK q;have d0:H2.get H.next=some (.cells [.int .i64 0,.nilSl,.nilSl] aj true):=q.get (cy)
 have o:Emp H2 (H.next+4) (H.next+16):=(((e0.put (p:=H.next) (a':=H.next+1) zO zO).put zO zO).keep q)
 have n2:=o.1;have o3:=r3.one;refine zW (aE hl i j) ?_;refine AnsH.use (xA C (l:=[b,-1]) zF (AT (by refine wO ?_; rfl)) (by simp) (by simp; omega)) ?_;rintro _ h ⟨v5,rfl,F,r⟩;obtain ⟨W,_,w3⟩:=zT H zK r;have e3:Emp h (H.next+7) (H.next+16):=(o.put zO zO).keep r;have n3:=e3.1;have I:Sub H2 h:=(o.sub (p:=H.next+6) zO zO).trans r.sub;have o5:=F.one;have N:=I.get _ _ d0;refine zW (aE hl i j) ?_;obtain ⟨G3,e⟩:∃ G,G=h.put (H.next+8) (.cells [v3,.bool false,v5,.bool false] t_api_Con true):=⟨_,rfl⟩
 rw [<- e];have y:Emp G3 (H.next+9) (H.next+16):=by rw [e]; exact e3.put zO zO
 have s3:Sub h G3:=by rw [e]; exact e3.sub zO zO
 have B:Kp H G3:=by rw [e]; exact zK
 have ab:=B.wf;have aa:=y.1;have O:=s3.get _ _ N;have M:SlV conE t_api_Con G3 (.own (H.next+8) 0 2 2 2 true) [([-a,1],false),([b,-1],false)]:=TC (by rw [e]; exact ap _ _ _) (r3.mono (I.trans s3)) (F.mono s3);have sb:=KW ha hb;have Q:=vU (n:=1) zO sb;refine AnsH.use (kU C (n:=1) (m:=4) (m2:=64*(4+4)) zF M zO (by simp) sb zO (fun x hx=>(Q x hx).2) zO) ?_;rintro v4 d ⟨f,s⟩;have D:Kp H d:=B.trans s;have Y:=D.le;have w4:=D.wf;have z:Emp d (H.next+9) (H.next+16):=y.keep s;have n4:=z.1;have u:=s.get O;rw [R] at f;unfold qC at f;rw [S] at f;rcases f with ⟨-,f⟩ | ⟨p,rfl,⟨J,L,rfl,hc,hg⟩,-,-⟩
 ·omega
 have oc:=hc.one;have og:=hg.one;obtain ⟨c,k⟩:∃ c,c=((d.up 2).put (H.next+13) (.cells [.int .i64 0,.nilSl,.nilSl] aj true)).put (H.next+13) (.cells [.int .i64 ((1:Nat):Int),J,L] aj true):=⟨_,rfl⟩
 have A:=z.2 (H.next+13) zO zO;have t:Sub d c:=by rw [k]; exact ((Sub.bump d 2).put A _).put A _
 have w:=t.get _ _ u;have V:Kp H c:=by rw [k]; exact zK
 have Z:=V.le;have n5:c.next=d.next+2:=by rw [k]; rfl
 refine zW (bO hl i j @nt u) ?_;rw [<- k];refine ⟨⟨J,L,rfl,?_,?_⟩,zK⟩
 ·have m3:NoTy (t_api_Con :: conE.tys) c H.next:=NoTy.ty w zU
  exact SlV.monoT (E:=conE) zS (hc.mono t)
 ·have m3:NoTy (ai :: genE.tys) c H.next:=NoTy.ty w zU
  exact SlV.monoT (E:=genE) zS (hg.mono t)
def AX (C:Code tab) (B:Wf H) {v h:AV} {n n':Nat} {c c':List (List Int × Bool)} {g g':List (Nat × List Int)} (hp:PolyV H v n c g) (o:PolyV H h n' c' g') (i:c.length<1099511627776) (j:∀ r∈c,r.1.length<1099511627776/\∀ z∈r.1,fq z) (k:g.length<1099511627776) (l:∀ r∈g,r.2.length<1099511627776/\∀ z∈r.2,fq z) :
  Ans tab (.fn iQ [v,.int .i64 0,h]) H fun x H'=>x=.bool (decide (n=n'/\c=c'/\g=g'))/\Kp H H':=by
 obtain ⟨u,y,rfl,hc,hg⟩:=hp;obtain ⟨w,A,rfl,e,f⟩:=o;have p:=hc.one;have s:=hg.one;have q:=e.one;have t:=f.one;refine ni C.q16 zU fun T hl a b d=>?_;refine zW (dx hl a b d (ki p s) (ki q t)) ?_;refine AnsH.eq (As C (n:=n) (n':=n') zF ⟨u,y,rfl,hc.mono (zG H),hg.mono (zG H)⟩ ⟨w,A,rfl,e.mono (zG H),f.mono (zG H)⟩ i j k l) fun H2 m=>?_;obtain ⟨k2,_,_⟩:=zT H zK m;refine zW (aW hl a b d) ?_;exact zK
set_option maxHeartbeats 2000000 in
def FR (C:Code tab) (W:Wf H) :
  Ans tab (.fn pK [.int .i64 1]) H fun x H'=>∃ p,x=.tup [p,.int .i64 0]/\PolyV H' p 1 [([-1,0],false)] []/\Kp H H':=by
 have L:∀ H':Heap,Io H' (H.next+10) aa 2 32 [.bool false,.nilSl] (.int .i64 2) (.int .i64 2)=some (.own (H.next+10) 0 2 2 2 true,H'.put (H.next+10) (.cells [.bool false,.nilSl,.bool false,.nilSl] aa true)):=fun H'=>jg H' (H.next+10) aa 2 32 [.bool false,.nilSl] .i64 .i64 2 zU zU rfl;have B:IntKind.i64.wrap (1+1)=2:=by rw [wrap_i64] <;> omega
 have D:IntKind.i64.wrap 2=2:=by rw [wrap_i64] <;> omega
 refine cY C.q15 zU fun T hl k=>?_;refine zW (bO hl k B D L) ?_;refine AnsH.use (oN C (n:=-1) zF zO zO) ?_;rintro v H2 ⟨⟨w,rfl,r⟩,g⟩;obtain ⟨k2,_,S⟩:=zT H zK g;have P:=r.one;have n2:H.next+16<=H2.next:=g.le
 have d0:H2.get H.next=some (.cells [.int .i64 0,.nilSl,.nilSl] aj true):=g.get (cy)
 have l:=g.get (b:=H.next+10) (e:=.cells [.bool false,.nilSl,.bool false,.nilSl] aa true) (cy);have A:decide ((-1:Int)<0)=true:=by decide
 have M:Fs (some (.cells [.bool false,.nilSl,.bool false,.nilSl] aa true)) 2 0 (.agg [.bool true,w])=some (.cells [.bool true,w,.bool false,.nilSl] aa true):=jF (Gn (aI _) P) zU;have K:cd 2 (.own (H.next+10) 0 2 2 2 true) (.int .i64 0)=some (.ptr (H.next+10) 0):=nK (j:=0) zO;have J:fm [.nilSl,.bool false] [((0,1),.own (H.next+10) 0 2 2 2 true)]=some (.agg [.own (H.next+10) 0 2 2 2 true,.bool false]):=zr (bC _ _ _ _ _ _) _ _;have Y:=S _ _ l;refine zW (fE hl A K l M k J) ?_;obtain ⟨G,a⟩:∃ G,G=((H2.up 9).put (H.next+10) (.cells [.bool true,w,.bool false,.nilSl] aa true)).put (H2.next+3) (.cells [.own (H.next+10) 0 2 2 2 true,.bool false] t_api_Con true):=⟨_,rfl⟩
 have t:Kp H G:=by rw [a]; exact zK
 have V:=t.wf;have m3:NoTy [ae] H2 (H.next+10):=NoTy.ty l zU;have N:bA G w 1:=by rw [a]; exact SlV.monoT (E:=bz bp) zS r
 have F:G.get (H.next+10)=some (.cells [.bool (decide ((-1:Int)<0)),w,.bool (decide ((0:Int)<0)),.nilSl] aa true):=by rw [a,aB zO,ap]; rfl
 have Q:RowV G (.own (H.next+10) 0 2 2 2 true) [-1,0]:=F7 (x:=-1) (y:=0) (H:=G) N (dM G) (Kp.refl V).sub F;have I:SlV conE t_api_Con G (.own (H2.next+3) 0 1 1 2 true) [([-1,0],false)]:=TD (by rw [a]; exact ap _ _ _) Q;rw [<- a];have nG:H2.next+9<=G.next:=by rw [a]; exact Vc _
 have z:G.get H.next=some (.cells [.int .i64 0,.nilSl,.nilSl] aj true):=by rw [a,aB zO,aB zO]; exact d0
 have o:Lin.gensP 1 [([-1,0],false)]=[]:=Lin.none_empty (n:=1);refine AnsH.use (kU C (n:=1) (m:=4) (m2:=4) zF I zO (by simp) (fun c hc=>by
  rw [Vp] at hc; subst hc;exact ⟨rfl,fun i=>by
   match i with
   | 0=>decide
   | 1=>decide
   | i+2=>simp [Lin.at_]⟩) zO (by rw [o]; intro x hx; cases hx) zO) ?_
 rintro v4 d ⟨h,q⟩;have s:Kp H d:=t.trans q;have X:=s.le;have U:=s.wf;have f:=q.get z;have Z:=U _ _ f;rw [o] at h;rcases h with ⟨-,h⟩ | ⟨p,rfl,⟨u,R,rfl,hc,hg⟩,-,-⟩
 ·have:(Lin.consP 1 []).length=1:=rfl
  simp only [Xs] at h;omega
 have hc:SlV conE t_api_Con d u [([-1,0],false)]:=hc;have oc:=hc.one;have og:=hg.one;refine zW (aW hl k @nt f) ?_;refine ⟨_,rfl,⟨u,R,rfl,?_,?_⟩,zK⟩
 ·have O:NoTy (t_api_Con :: conE.tys) d H.next:=NoTy.ty f zU
  exact SlV.monoT (E:=conE) zS hc
 ·have O:NoTy (ai :: genE.tys) d H.next:=NoTy.ty f zU
  exact SlV.monoT (E:=genE) zS hg
end
open Go
def Ph {tab:Nat->Option az} {rd:Bool} {c:ACode} {T:Tm} {H:Heap} {K:Ex->Tm->Heap->Prop} (p:Tm->Prop) (hp:p T) (h:∀ T',p T'->WC tab rd c T' H K):WC tab rd c T H K:=h T hp
def qk {tab:Nat->Option az} {rd:Bool} {c:ACode} {T:Tm} {H:Heap} {K:Ex->Tm->Heap->Prop} (p:Tm->Prop) (hp:p T) (h:∀ T',p T'->WB tab rd c T' H K):WB tab rd c T H K:=h T hp
section
variable {tab:Nat->Option az} {H:Heap} {s:AV}
def ok1 {K:List (List Int × Bool)} {G:List (Nat × List Int)} (h1:Lin.gensP 1 K=G) (h2:Lin.consP 1 G=K) (h:(K.all (fun x=>decide (x.1.length=2) && x.1.all (fun a=>decide (a.natAbs<=16))) && G.all (fun x=>x.2.all (fun a=>decide (a.natAbs<=16))) && decide (K.length<=60) && decide (G.length<60))=true):PolyOK 1 4 4 K G:=by
 simp only [VH,VA,decide_eq_true_eq] at h;obtain ⟨⟨⟨h3,b⟩,h5⟩,d⟩:=h;exact ⟨⟨fun c hc=>(h3 c hc).1,h1,h2⟩,zO,.inl h5,zO,fun c hc=>Lin.bd_small4 (VA.2 fun a ha=>decide_eq_true ((h3 c hc).2 a ha)),fun x hx=>Lin.bd_small4 (VA.2 fun a ha=>decide_eq_true (b x hx a ha)),zO,zO⟩
def Sv:PolyOK 1 4 4 [([-1,1],false),([3,-1],false)] [(3,[1,1]),(3,[1,3])]:=ok1 Lin.g13 Lin.k13 zU
def ok23:PolyOK 1 4 4 [([-2,1],false),([3,-1],false)] [(3,[1,2]),(3,[1,3])]:=ok1 Lin.g23 Lin.k23 zU
def Uk:PolyOK 1 4 4 [([-5,1],true)] [(3,[1,5])]:=ok1 Lin.g55b Lin.k55 zU
def ok15:PolyOK 1 4 4 [([-1,1],false),([5,-1],false)] [(3,[1,1]),(3,[1,5])]:=ok1 Lin.g15 Lin.k15 zU
def Ul:PolyOK 1 4 4 [([-4,1],false),([9,-1],false)] [(3,[1,4]),(3,[1,9])]:=ok1 Lin.g49 Lin.k49 zU
def ok00:PolyOK 1 4 4 [([-1,0],false)] []:=ok1 (Lin.none_empty (n:=1)) rfl zU
def Oh {H:Heap} {x:AV} {K:List (List Int × Bool)} {G:List (Nat × List Int)} (h:qC H x 1 G) (ok:PolyOK 1 4 4 K G):∃ a b,x=.tup [.agg [.int .i64 1,a,b],.int .i64 0]/\SlV conE t_api_Con H a K/\SlV genE ai H b G:=by
 have e:=ok.own.cons;have h1:=ok.many;have h2:=ok.lenK;unfold qC at h;rw [e] at h;rcases h with ⟨-,h⟩ | ⟨p,rfl,⟨a,b,rfl,hc,hg⟩,-,-⟩
 ·omega
 ·exact ⟨a,b,rfl,hc,hg⟩
set_option maxHeartbeats 1000000 in
def Gd (C:Code tab) (hw:Wf H):Ans tab (.fn fV []) H fun v H'=>v=.bool true/\Kp H H':=by
 refine Ut C.q1 fun T hl=>?_;refine zW hl ?_;refine AnsH.use (iY C (a:=1) (b:=3) zF zU zU Lin.g13 Lin.k13 zU zU) ?_;rintro _ H2 ⟨⟨vc,L,rfl,hc,hg⟩,aA⟩;obtain ⟨k2,_,w2⟩:=zT H zK aA;have oc:=hc.one;have og:=hg.one;have n2:H.next+4<=H2.next:=aA.le
 have f2:H2.get (H.next+2)=none:=aA.free (show H.next+2<H.next+4 by omega) (hw.fresh (b:=H.next+2) zO);obtain ⟨G2,Z⟩:∃ G2,G2=(H2.put (H.next+2) (.cells [.int .i64 0,.nilSl,.nilSl] aj true)).put (H.next+2) (.cells [.int .i64 ((1:Nat):Int),vc,L] aj true):=⟨_,rfl⟩
 have s2:Sub H2 G2:=by rw [Z]; exact (aV f2).put f2 _
 have aD:Kp H G2:=by rw [Z]; exact zK
 have bf:=aD.wf;have q:G2.get (H.next+2)=some (.cells [.int .i64 ((1:Nat):Int),vc,L] aj true):=by rw [Z]; exact ap _ _ _
 have aQ:=hc.mono s2;have a0:=hg.mono s2;obtain ⟨P,hP⟩:∃ P,P=H.next+2:=⟨_,rfl⟩
 have b5:=bf _ _ q;refine zW (aE hl @nt @am) ?_;rw [<- Z,<- hP];rw [<- hP] at q b5;refine aF ?_;refine zD (aw hl q) ?_;refine AnsH.use (xA C (l:=[-2,1]) zF (AT (by refine wO ?_; rfl)) (by simp) (by simp)) ?_;rintro _ Q ⟨v3,rfl,r3,a5⟩;obtain ⟨k3,_,w3⟩:=zT G2 zK a5;have e3:Emp Q (G2.next+2) (G2.next+10):=((Emp.start bf (k:=10)).put (p:=G2.next+1) zO zO).keep a5;have o3:=r3.one;have aJ:=k3.get q;refine zD (aE hl q aJ) ?_;refine AnsH.use (CE C (n:=1) (m:=4) (m2:=4) (a:=[-2,1]) (b:=false) zF ⟨vc,L,rfl,(aQ.mono k3.sub).mono (zG Q),(a0.mono k3.sub).mono (zG Q)⟩ Sv (r3.mono (zG Q)) rfl (Lin.bd_small4 zU) zU zO zO (by intro x hx; exact ok23.bG x (by rw [<- Lin.m23]; exact hx)) zO) ?_;rintro x4 R ⟨aq,bT⟩;have aq:qC R x4 1 [(3,[1,2]),(3,[1,3])]:=by rw [<- Lin.m23]; exact aq
 obtain ⟨va,vb,rfl,ha,hb⟩:=Oh aq ok23;obtain ⟨a9,_,_⟩:=zT Q zK bT;have k4:Kp G2 R:=k3.trans a9;have cq:=k4.le;have w4:=k4.wf;have e4:Emp R (G2.next+2) (G2.next+10):=e3.keep a9;have n4:=e4.1;have oa:=ha.one;have ob:=hb.one;have f4:=e4.2 (G2.next+7) zO zO;obtain ⟨G4,aa⟩:∃ G4,G4=(R.put (G2.next+7) (.cells [.int .i64 0,.nilSl,.nilSl] aj true)).put (G2.next+7) (.cells [.int .i64 1,va,vb] aj true):=⟨_,rfl⟩
 have s4:Sub R G4:=by rw [aa]; exact (aV f4).put f4 _
 have ax:Kp G2 G4:=by rw [aa]; exact zK
 have bg:=ax.wf;have dA:G4.get (G2.next+7)=some (.cells [.int .i64 1,va,vb] aj true):=by rw [aa]; exact ap _ _ _
 obtain ⟨A,hA⟩:∃ A,A=G2.next+7:=⟨_,rfl⟩
 have b2:=bg _ _ dA;have W:=ax.get q;refine zD (bO hl q aJ @nt @am) ?_;rw [<- aa,<- hA];rw [<- hA] at dA b2;clear aq;have aS:=(aQ.mono k4.sub).mono s4;have a1:=(a0.mono k4.sub).mono s4;have br:=ha.mono s4;have bv:=hb.mono s4;refine aF ?_;refine zD (aw hl W) ?_;refine AnsH.use (iY C (a:=5) (b:=5) zF zU zU Lin.g55 Lin.k55 zU zU) ?_;rintro _ t ⟨⟨cb,cd,rfl,aT,a2⟩,a6⟩;obtain ⟨k5,_,w5⟩:=zT G4 zK a6;have e5:Emp t G4.next (G4.next+9):=(Emp.start bg (k:=9)).keep a6
 have cu:=aT.one;have cw:=a2.one;have aK:=k5.get W;refine zD (aE hl W aK) ?_;have ao:Lin.consP 1 ([(3,[1,1]),(3,[1,3])]++[(3,[1,5])])=[([-1,1],false),([5,-1],false)]:=Lin.kh;refine AnsH.use (Ln C (n:=1) (m:=4) (m2:=4) (m3:=4) zF ⟨vc,L,rfl,(aS.mono k5.sub).mono (zG t),(a1.mono k5.sub).mono (zG t)⟩ ⟨cb,cd,rfl,aT.mono (zG t),a2.mono (zG t)⟩ Sv Uk zU zO zO zO (by rw [ao]; exact ok15.bK) zO (by rw [ao,Lin.g15]; exact ok15.bG) zO (by rw [ao]; decide)) ?_;rintro x6 S ⟨y,bU⟩;have y:qC S x6 1 [(3,[1,1]),(3,[1,5])]:=by
  unfold Km at y;rw [ao,Lin.g15] at y;rcases y with ⟨-,h⟩ | h
  ·simp at h
  ·exact h
 obtain ⟨vd,ve,rfl,hd,he⟩:=Oh y ok15;clear y;obtain ⟨ba,_,_⟩:=zT t zK bU;have B:Kp G4 S:=k5.trans ba;have cr:=B.le;have w6:=B.wf;have e6:Emp S G4.next (G4.next+9):=e5.keep ba
 have n6:=e6.1;have od:=hd.one;have oe:=he.one;have f6:=e6.2 (G4.next+6) zO zO;obtain ⟨c,ab⟩:∃ c,c=(S.put (G4.next+6) (.cells [.int .i64 0,.nilSl,.nilSl] aj true)).put (G4.next+6) (.cells [.int .i64 1,vd,ve] aj true):=⟨_,rfl⟩
 have F:Sub S c:=by rw [ab]; exact (aV f6).put f6 _
 have af:Kp G4 c:=by rw [ab]; exact zK
 have bh:=af.wf;have dD:c.get (G4.next+6)=some (.cells [.int .i64 1,vd,ve] aj true):=by rw [ab]; exact ap _ _ _
 obtain ⟨D,hD⟩:∃ D,D=G4.next+6:=⟨_,rfl⟩
 have b3:=bh _ _ dD;have Y:=af.get W;have bk:=af.get dA;refine zD (bO hl W aK @nt @am) ?_;rw [<- ab,<- hD];rw [<- hD] at dD b3;have aU:=(aS.mono B.sub).mono F;have a3:=(a1.mono B.sub).mono F;have bs:=(br.mono B.sub).mono F;have bw:=(bv.mono B.sub).mono F;have bB:=hd.mono F;have bG:=he.mono F;refine aF ?_;refine zD (aw hl Y) ?_;refine AnsH.use (iY C (a:=4) (b:=9) zF zU zU Lin.g49 Lin.k49 zU zU) ?_;rintro _ u ⟨⟨cc,ce,rfl,aW,a4⟩,a7⟩;obtain ⟨k7,_,w7⟩:=zT c zK a7;have e7:Emp u c.next (c.next+9):=(Emp.start bh (k:=9)).keep a7
 have cv:=aW.one;have cx:=a4.one;have aL:=k7.get Y;refine zD (aE hl Y aL) ?_;have aN:Lin.gensP 1 ([([-1,1],false),([3,-1],false)]++[([-4,1],false),([9,-1],false)])=[]:=Lin.b0;refine AnsH.use (Lo C (n:=1) (m:=4) (m2:=4) zF ⟨vc,L,rfl,(aU.mono k7.sub).mono (zG u),(a3.mono k7.sub).mono (zG u)⟩ ⟨cc,ce,rfl,aW.mono (zG u),a4.mono (zG u)⟩ Sv Ul zU zO zO zO (by rw [aN]; exact ok00.bG) zO) ?_;rintro x8 d ⟨aC,bV⟩;rw [aN] at aC;obtain ⟨vx,vy,rfl,hx,hy⟩:=Oh aC ok00;clear aC;obtain ⟨bb,_,_⟩:=zT u zK bV;have i:Kp c d:=k7.trans bb;have cs:=i.le;have w8:=i.wf;have e8:Emp d c.next (c.next+9):=e7.keep bb
 have n8:=e8.1;have ox:=hx.one;have oy:=hy.one;have f8:=e8.2 (c.next+6) zO zO;obtain ⟨g,s⟩:∃ g,g=((d.up 7).put (c.next+6) (.cells [.int .i64 0,.nilSl,.nilSl] aj true)).put (c.next+6) (.cells [.int .i64 1,vx,vy] aj true):=⟨_,rfl⟩
 have j:Sub d g:=by rw [s]; exact ((Sub.bump d 7).put f8 _).put f8 _
 have ct:g.next=d.next+7:=by rw [s]; rfl
 have ag:Kp c g:=by rw [s]; exact zK
 have cf:=ag.wf;have dX:g.get (c.next+6)=some (.cells [.int .i64 1,vx,vy] aj true):=by rw [s]; exact ap _ _ _
 obtain ⟨X,hX⟩:∃ X,X=c.next+6:=⟨_,rfl⟩
 have b6:=cf _ _ dX;have bo:=ag.get Y;have bl:=ag.get bk;have bm:=ag.get dD;refine zD (bO hl Y aL @nt @am) ?_;rw [<- s,<- hX];rw [<- hX] at dX b6;have bA:=(aU.mono i.sub).mono j;have bJ:=(a3.mono i.sub).mono j;have bt:=(bs.mono i.sub).mono j;have bx:=(bw.mono i.sub).mono j;have bE:=(bB.mono i.sub).mono j;have bH:=(bG.mono i.sub).mono j;have bX:=hx.mono j;have bZ:=hy.mono j;have bq:g.get (d.next+4)=none:=by rw [s,aB zO,aB zO]; exact w8.fresh (b:=d.next+4) zO
 clear s ab aa Z;refine AnsH.use (FR C zF) ?_;rintro _ H9 ⟨p,rfl,⟨vn,vm,rfl,hn,hm⟩,w⟩;have w9:=w.wf;have cl:=w.le;have on:=hn.one;have om:=hm.one;have f9:H9.get (d.next+4)=none:=w.free (show d.next+4<g.next by omega) bq;obtain ⟨e,al⟩:∃ e,e=(H9.put (d.next+4) (.cells [.int .i64 0,.nilSl,.nilSl] aj true)).put (d.next+4) (.cells [.int .i64 ((1:Nat):Int),vn,vm] aj true):=⟨_,rfl⟩
 have ci:=w.le;have s9:Sub H9 e:=by rw [al]; exact (aV f9).put f9 _
 have dN:e.get (d.next+4)=some (.cells [.int .i64 ((1:Nat):Int),vn,vm] aj true):=by rw [al]; exact ap _ _ _
 have bc:Kp H g:=((aD.trans ax).trans af).trans ag;have ck:=bc.le;have cj:=(aD.trans (ax.trans af)).le;have bd:Kp H e:=by rw [al]; exact (((bc.trans w).put zO zO).put zO (by rw [next_put]; omega))
 have cg:Wf e:=bd.wf;obtain ⟨N,hN⟩:∃ N,N=d.next+4:=⟨_,rfl⟩
 have b4:=cg _ _ dN;have f:Sub g e:=w.sub.trans s9;have r:=f.get _ _ bo;have o:=f.get _ _ bl;have aG:=f.get _ _ bm;have bp:=f.get _ _ dX;refine zD (aE hl @nt @am) ?_;rw [<- al,<- hN];rw [<- hN] at dN b4;have ch:=bA.mono f;have bK:=bJ.mono f;have bu:=bt.mono f;have bz:=bx.mono f;have bF:=bE.mono f;have bI:=bH.mono f;have bY:=bX.mono f;have b0:=bZ.mono f;have a8:=hn.mono s9;have bW:=hm.mono s9;have E:lenV L=some (.int .i64 2):=bK.lenV;have b1:lenV vn=some (.int .i64 1):=a8.lenV;refine Ph (fun T'=>T'.length=66/\ad T' 1=.ptr P 0/\ad T' 2=.ptr A 0/\ad T' 3=.int .i64 0/\ad T' 4=.ptr D 0/\ad T' 5=.int .i64 0/\ad T' 6=.ptr X 0/\ad T' 7=.int .i64 0/\ad T' 8=.ptr N 0/\ad T' 9=.int .i64 0) (zE hl) ?_;clear hl;rintro T' ⟨hl,t1,G,t3,t4,t5,I,J,K,t9⟩;refine aF ?_;refine zX (E5 hl @aR t1 G t3 t4 t5 I J K t9 r E o) ?_;refine AnsH.use (iY C (a:=2) (b:=3) zF zU zU Lin.g23 Lin.k23 zU zU) ?_;rintro _ ah ⟨⟨b9,b7,rfl,aO,aX⟩,bL⟩;obtain ⟨ae,_,cD⟩:=zT e zK bL;have cB:=aO.one;have cz:=aX.one;have U:=ae.get o;have V:=ae.get r;refine zX (Tg hl @aR t1 G t3 t4 t5 I J K t9 r E U V o) ?_;refine AnsH.eq (AX C (n:=1) (n':=1) zF ⟨va,vb,rfl,(bu.mono ae.sub).mono (zG ah),(bz.mono ae.sub).mono (zG ah)⟩ ⟨b9,b7,rfl,aO.mono (zG ah),aX.mono (zG ah)⟩ zU ok23.smK zU ok23.smG) fun bi bM=>?_;rw [decide_eq_true ⟨rfl,rfl,rfl⟩];have ar:Kp e bi:=ae.trans (Kp.trans zK bM);have cm:=ar.le;have cE:=ar.wf;have ai:=ar.get aG;refine zX (Hp hl @aR t1 G t3 t4 t5 I J K t9 r E U V o ai) ?_;refine AnsH.use (iY C (a:=1) (b:=5) zF zU zU Lin.g15 Lin.k15 zU zU) ?_;rintro _ M ⟨⟨ca,b8,rfl,aP,aY⟩,bP⟩;have z:Kp e M:=ar.trans (Kp.trans zK bP);have cn:=z.le;have cF:=z.wf;have cC:=aP.one;have cA:=aY.one;have ay:=z.get aG;refine zX (Ho hl @aR t1 G t3 t4 t5 I J K t9 r E U V o ai ay) ?_;refine AnsH.eq (AX C (n:=1) (n':=1) zF ⟨vd,ve,rfl,(bF.mono z.sub).mono (zG M),(bI.mono z.sub).mono (zG M)⟩ ⟨ca,b8,rfl,aP.mono (zG M),aY.mono (zG M)⟩ zU ok15.smK zU ok15.smG) fun O bQ=>?_;rw [decide_eq_true ⟨rfl,rfl,rfl⟩];have k13:Kp e O:=z.trans (Kp.trans zK bQ);have co:=k13.le;have cG:=k13.wf;have aM:=k13.get bp;have aH:=k13.get dN;refine zX (Tf hl @aR t1 G t3 t4 t5 I J K t9 r E U V o ai ay aM aH) ?_;refine AnsH.eq (AX C (n:=1) (n':=1) zF ⟨vx,vy,rfl,(bY.mono k13.sub).mono (zG O),(b0.mono k13.sub).mono (zG O)⟩ ⟨vn,vm,rfl,(a8.mono k13.sub).mono (zG O),(bW.mono k13.sub).mono (zG O)⟩ zU ok00.smK zU ok00.smG) fun bj bS=>?_;rw [decide_eq_true ⟨rfl,rfl,rfl⟩];have av:Kp e bj:=k13.trans (Kp.trans zK bS);have cp:=av.le;have cI:=av.wf;have bn:=av.get dN;refine zX (PB hl @aR t1 G t3 t4 t5 I J K t9 r E U V o ai ay aM aH bn b1) ?_;exact bd.trans av
def Ua (a:AV):Prop:=∃ x u w,a=.agg [.int .i64 x,u,w]/\One u/\One w
def qU:Ua AF:=⟨0,.nilSl,.nilSl,rfl,bD,bD⟩
def TellP (H:Heap) (d:Int) (p:AV) (K:List (List Int × Bool)) (G:List (Nat × List Int)):Prop :=
 ∃ n:Nat,d=(n:Int)/\n<=3/\PolyV H p n K G/\Lin.Own n K G/\K.length<1024/\G.length<1024
def TellP.mono {H H':Heap} {d:Int} {p:AV} {K:List (List Int × Bool)} {G:List (Nat × List Int)} (h:TellP H d p K G) (hs:Sub H H'):TellP H' d p K G:=by
 obtain ⟨n,h1,h2,h3,a⟩:=h;exact ⟨n,h1,h2,h3.mono hs,a⟩
def TellP.pag {H:Heap} {d:Int} {p:AV} {K:List (List Int × Bool)} {G:List (Nat × List Int)} (h:TellP H d p K G):Ua p:=by
 obtain ⟨n,h1,h2,⟨b,c,rfl,hc,hg⟩,a⟩:=h;exact ⟨_,_,_,rfl,hc.one,hg.one⟩
def Gb (C:Code tab) (i:Wf H) {d:Int} {l:List tu} (hs:SlV conQE t_api_Con H s l) (gl:∀ r∈l,eI r.1) (hg:dG 6 l=false) (h3:¬ 3<d) :
  Ans tab (.fn pa [.int .i64 d,s]) H fun v H'=>Kp H H'/\∃ p f,v=.tup [p,.int .i64 f]/\Ua p/\(f=0->∃ K G,TellP H' d p K G):=by
 rcases Mh (d:=d) (n:=6) hs gl hg zO zO with g | ⟨n,rfl,o,k,ll,b⟩
 ·refine (yo C i hs (A5 hg) (by have:=(jQ hg).1; omega) g).mono ?_;rintro v H2 ⟨rfl,a⟩;exact ⟨a,_,_,rfl,qU,fun e=>absurd e g⟩
 ·have j:=vU zO b;refine (kU C (n:=n) (m:=64) (m2:=64*(64+4)) i k zO (by rw [Vh]; omega) b zO (fun x hx=>(j x hx).2) zO).mono ?_;rintro v H2 ⟨hm,a⟩;rcases hm with ⟨rfl,-⟩ | ⟨p,rfl,hp,h1,h2⟩
  ·exact ⟨a,_,_,rfl,qU,fun e=>by cases e⟩
  ·have h:TellP H2 (n:Int) p _ _:=⟨n,rfl,zO,hp,Lin.own_of fun c hc=>(b c hc).1,h2,h1⟩
   exact ⟨a,p,0,rfl,h.pag,fun _=>⟨_,_,h⟩⟩
def Rx (H:Heap) (v:AV) (d:Int):Prop :=
 (∃ a b,v=.tup [a,b,.bool false]/\Ua a/\Ua b) \/
 ∃ (n:Nat) (p q:AV) (K:List (List Int × Bool)) (G:List (Nat × List Int)) (K':List (List Int × Bool)) (G':List (Nat × List Int)),d=(n:Int)/\n<=3/\v=.tup [p,q,.bool true]/\PolyV H p n K G/\PolyV H q n K' G'/\PolyOK n 64 64 K G/\PolyOK n 64 64 K' G'/\K.length+K'.length<=8/\G.length+G'.length<=8
def Eu {n:Nat} {K K':List (List Int × Bool)} {G G':List (Nat × List Int)} (h:rC n K G n K' G'=false) (e:Lin.Own n K G) (f:Lin.Own n K' G') (hn:n<=3):PolyOK n 64 64 K G/\PolyOK n 64 64 K' G'/\K.length+K'.length<=8/\G.length+G'.length<=8:=by
 unfold rC at h;simp only [WX,decide_eq_false_iff_not] at h;obtain ⟨⟨⟨⟨h1,-⟩,h2,-⟩,h3⟩,k⟩:=h;obtain ⟨⟨g,a⟩,a3,a4⟩:=pZ h1;obtain ⟨⟨i,b⟩,j,d⟩:=pZ h2;exact ⟨⟨e,zO,.inl zO,zO,fun c hc=>(a c hc).2,fun x hx=>(a4 x hx).2,zO,zO⟩,⟨f,zO,.inl zO,zO,fun c hc=>(b c hc).2,fun x hx=>(d x hx).2,zO,zO⟩,zO,zO⟩
section
open Lin
end
section
variable {n:Nat} {K K':List (List Int × Bool)} {G G':List (Nat × List Int)}
end
set_option maxHeartbeats 4000000 in
def Ix (C:Code tab) (hw:Wf H) {s1 s2:AV} {d:Int} {l m:List tu} (hs:SlV conQE t_api_Con H s1 l) (gl:∀ r∈l,eI r.1) (aw:SlV conQE t_api_Con H s2 m) (gm:∀ r∈m,eI r.1) :
  Ans tab (.fn gL [.int .i64 d,s1,s2]) H fun v H'=>Rx H' v d/\Kp H H':=by
 refine ni C.q2 zU fun T hl e f g=>?_;refine zW (aW hl e f g) ?_;refine AnsH.eq (jf C (n:=6) zF (hs.mono (zG H)) zO) fun H2 W=>?_;obtain ⟨k2,_,w2⟩:=zT H zK W;have d0:H2.get H.next=some (.cells [.int .i64 0,.nilSl,.nilSl] aj true):=W.get (cy)
 have d1:H2.get (H.next+1)=some (.cells [.int .i64 0,.nilSl,.nilSl] aj true):=W.get (cy);have a0:=w2 _ _ d1;cases q1:dG 6 l with
 | true =>
  refine zW (fE hl e f g d0 d1 @nt) ?_;exact ⟨.inl ⟨_,_,rfl,qU,qU⟩,zK⟩
 | false =>
 refine zW (aW hl e f g) ?_;refine AnsH.eq (jf C (n:=6) zF ((aw.mono k2.sub).mono (zG H2)) zO) fun a aE=>?_;obtain ⟨k23,_,_⟩:=zT H2 zK aE;have z:Kp H a:=k2.trans k23;have aU:=z.le;have w3:=z.wf;have S:=k23.get d0;have N:=k23.get d1;have a1:=w3 _ _ N;cases q2:dG 6 m with
 | true =>
  refine zW (fE hl e f g S N @nt) ?_;exact ⟨.inl ⟨_,_,rfl,qU,qU⟩,zK⟩
 | false =>
 by_cases q3:3<d
 ·refine zW (jC hl e f g S N q3 @nt) ?_;exact ⟨.inl ⟨_,_,rfl,qU,qU⟩,zK⟩
 refine zW (bO hl e f g q3) ?_;refine AnsH.use (Gb C zF ((hs.mono z.sub).mono (zG a)) gl q1 q3) ?_;rintro v c ⟨X,p,ae,rfl,⟨x,u,w,rfl,ou,ow⟩,ht⟩;obtain ⟨aM,_,_⟩:=zT a zK X;have k4:Kp H c:=z.trans aM;have aX:=k4.le;have w4:=k4.wf;have n4:a.next+9<=c.next:=X.le
 have f4:c.get (a.next+6)=none:=X.free (show a.next+6<a.next+9 by omega) (w3.fresh (b:=a.next+6) zO);obtain ⟨G4,t⟩:∃ G4,G4=((c.up 9).put (a.next+6) (.cells [.int .i64 0,.nilSl,.nilSl] aj true)).put (a.next+6) (.cells [.int .i64 x,u,w] aj true):=⟨_,rfl⟩
 have s4:Sub c G4:=by rw [t]; exact ((Sub.bump c 9).put f4 _).put f4 _
 have Z:Kp a G4:=by rw [t]; exact zK
 have a9:=Z.wf;have a6:G4.next=c.next+9:=by rw [t]; rfl
 have dp:G4.get (a.next+6)=some (.cells [.int .i64 x,u,w] aj true):=by rw [t]; exact ap _ _ _
 have aD:G4.get (c.next+6)=none:=by rw [t,aB zO,aB zO]; exact w4.fresh (b:=c.next+6) zO
 refine zW (bO hl e f g @nt) ?_;rw [<- t];refine AnsH.use (Gb C zF ((aw.mono z.sub).mono Z.sub) gm q2 q3) ?_;rintro v M ⟨y,p2,af,rfl,⟨x2,P,Q,rfl,ax,ay⟩,aL⟩;have Y:Kp a M:=Z.trans y;have aY:=Y.le;have w5:=Y.wf;have aT:=y.le;have f5:M.get (c.next+6)=none:=y.free zO aD;have aC:=y.get dp;obtain ⟨h,O⟩:∃ h,h=(M.put (c.next+6) (.cells [.int .i64 0,.nilSl,.nilSl] aj true)).put (c.next+6) (.cells [.int .i64 x2,P,Q] aj true):=⟨_,rfl⟩
 have B:Sub M h:=by rw [O]; exact (aV f5).put f5 _
 have A:Kp a h:=by rw [O]; exact (Y.put zO zO).put zO (by rw [next_put]; omega)
 have aA:=A.wf;have q:h.get (c.next+6)=some (.cells [.int .i64 x2,P,Q] aj true):=by rw [O]; exact ap _ _ _
 have o:=B.get _ _ aC;have R:=A.get S;have U:=A.get N;have kA:Kp H h:=z.trans A;refine zW (dx hl e f g @nt @am) ?_;rw [<- O];refine Ph (fun T'=>T'.length=51/\ad T' 6=.ptr H.next 0/\ad T' 7=.ptr (H.next+1) 0/\ad T' 9=.ptr (a.next+6) 0/\ad T' 10=.int .i64 ae/\ad T' 11=.ptr (c.next+6) 0/\ad T' 12=.int .i64 af) (zV (aW hl e f g)) ?_;clear hl;rintro T' ⟨hl,J,L,t9,D,F,I⟩;have aS:=A.le;have a4:=aA _ _ q;have a3:=aA _ _ o;refine aF ?_;by_cases V:ae=0
 ·by_cases e2:af=0
  ·subst V;subst e2;obtain ⟨K,G,n,rfl,n3,⟨vc,vg,aJ,hc,hg⟩,ho,lK,lG⟩:=ht rfl;obtain ⟨K',G',n',av,a5,⟨a7,a8,aK,ag,ao⟩,aH,aQ,aP⟩:=aL rfl;have av:n'=n:=zO;subst av;cases aJ;cases aK;have ah:SlV conE t_api_Con h u K:=hc.mono (s4.trans (y.sub.trans B));have aq:SlV genE ai h w G:=hg.mono (s4.trans (y.sub.trans B));have al:=ag.mono B;have ar:=ao.mono B;refine zX (yZ hl e f g J L t9 D F I o q @aR) ?_;refine AnsH.eq (Gc C (n:=n') (n':=n') zF ⟨u,w,rfl,ah.mono (zG h),aq.mono (zG h)⟩ ⟨P,Q,rfl,al.mono (zG h),ar.mono (zG h)⟩ zO zO zO zO) fun i aG=>?_;obtain ⟨j,_,w6⟩:=zT h zK aG;have s:=j.get R;have k:=j.get U;have aa:=j.get o;have ab:=j.get q;have oc:=hc.one;have og:=hg.one;have aN:=ag.one;have aO:=ao.one;have kB:Kp H i:=kA.trans j;have a2:=w6 _ _ k;cases hL:rC n' K G n' K' G' with
   | true =>
    refine zX (Ho hl e f g J L t9 D F I o q s k aa ab @aR @nt) ?_;exact ⟨.inl ⟨_,_,rfl,⟨_,_,_,rfl,oc,og⟩,⟨_,_,_,rfl,aN,aO⟩⟩,zK⟩
   | false =>
    obtain ⟨p1,p2,p3,p4⟩:=Eu hL ho aH n3;refine zX (Ho hl e f g J L t9 D F I o q s k aa ab @aR @nt) ?_;refine ⟨.inr ⟨n',_,_,K,G,K',G',rfl,n3,rfl,⟨u,w,rfl,?_,?_⟩,⟨P,Q,rfl,?_,?_⟩,p1,p2,p3,p4⟩,zK⟩
    ·have m3:NoTy (t_api_Con :: conE.tys) i H.next:=NoTy.ty s zU
     have m4:NoTy (t_api_Con :: conE.tys) i (H.next+1):=NoTy.ty k zU;exact SlV.monoT (E:=conE) zS (ah.mono j.sub)
    ·have m3:NoTy (ai :: genE.tys) i H.next:=NoTy.ty s zU
     have m4:NoTy (ai :: genE.tys) i (H.next+1):=NoTy.ty k zU;exact SlV.monoT (E:=genE) zS (aq.mono j.sub)
    ·have m3:NoTy (t_api_Con :: conE.tys) i H.next:=NoTy.ty s zU
     have m4:NoTy (t_api_Con :: conE.tys) i (H.next+1):=NoTy.ty k zU;exact SlV.monoT (E:=conE) zS (al.mono j.sub)
    ·have m3:NoTy (ai :: genE.tys) i H.next:=NoTy.ty s zU
     have m4:NoTy (ai :: genE.tys) i (H.next+1):=NoTy.ty k zU;exact SlV.monoT (E:=genE) zS (ar.mono j.sub)
  ·subst V;refine zX (Hp hl e f g J L t9 D F I o q R U @aR e2 @nt) ?_;exact ⟨.inl ⟨_,_,rfl,⟨_,_,_,rfl,ou,ow⟩,⟨_,_,_,rfl,ax,ay⟩⟩,zK⟩
 ·refine zX (Hp hl e f g J L t9 D F I o q R U @aR V @nt) ?_;exact ⟨.inl ⟨_,_,rfl,⟨_,_,_,rfl,ou,ow⟩,⟨_,_,_,rfl,ax,ay⟩⟩,zK⟩
end
section
variable {tab:Nat->Option az} {H:Heap} {s1 s2 s3:AV}
def Og {H:Heap} {v:AV} {d:Int} (h:Rx H v d):∃ x u w f e w' b,v=.tup [.agg [.int .i64 x,u,w],.agg [.int .i64 f,e,w'],.bool b]/\One u/\One w/\One e/\One w':=by
 rcases h with ⟨a,b,rfl,⟨x,u,w,rfl,h1,h2⟩,⟨f,e,w',rfl,h3,c⟩⟩ | ⟨n,p,q,K,G,K',G',-,-,rfl,⟨g,j,rfl,h1,h2⟩,⟨i,k,rfl,h3,c⟩,-⟩
 ·exact ⟨_,_,_,_,_,_,_,rfl,h1,h2,h3,c⟩
 ·exact ⟨_,_,_,_,_,_,_,rfl,h1.one,h2.one,h3.one,c.one⟩
end
structure Kx (b:Nat) (H H':Heap):Prop where
 wf0:Wf H
 wf:Wf H'
 le:H.next<=H'.next
 same:∀ c,c<H.next->c≠b->H'.get c=H.get c
section
variable {b:Nat} {H0 H H' H'':Heap}
def Kx.of (h:Kp H H'):Kx b H H':=⟨h.wf0,h.wf,h.le,fun c hc _=>h.same c hc⟩
def Kx.trans (h:Kx b H H') (h':Kx b H' H''):Kx b H H'':=⟨h.wf0,h'.wf,Vn h.le h'.le,fun c hc hb=>(h'.same c (Vu hc h.le) hb).trans (h.same c hc hb)⟩
def Kx.put (h:Kx b H H') (hb:b<H'.next) (e:Ent):Kx b H (H'.put b e):=⟨h.wf0,h.wf.put hb e,h.le,fun c hc hne=>by rw [aB hne]; exact h.same c hc hne⟩
def Kx.up (h:Kx b H H') (k:Nat):Kx b H (H'.up k):=⟨h.wf0,h.wf.bump k,Vn h.le (VL _ _),h.same⟩
def Kx.kp (h:Kx b H H') (a:Kp H0 H) (hb:H0.next<=b):Kp H0 H':=⟨a.wf0,h.wf,Vn a.le h.le,fun c hc=>(h.same c (Vu hc a.le) zO).trans (a.same c hc)⟩
def Kx.get (h:Kx b H H') {c:Nat} {e:Ent} (hc:H.get c=some e) (hb:c≠b):H'.get c=some e:=(h.same c (h.wf0 _ _ hc) hb).trans hc
def Kx.subT (h:Kx b H H') {tys:List Nat} {cs:List AV} {ty:Nat} {r:Bool} (hb:H.get b=some (.cells cs ty r)) (a:ty ∉ tys):SubT tys H H':=fun c ds t d hm hc=>h.get hc fun e=>by
 subst e; rw [hb] at hc; cases hc; exact a hm
end
section
variable {tab:Nat->Option az} {H:Heap}
def PlcV (H:Heap) (v:AV) (be x:Int):Prop:=∃ p,v=.agg [.int .i64 be,.bool (decide (x<0)),p]/\bA H p x.natAbs
def ItvV (H:Heap) (v:AV) (n:Bool) (x:Int) (n':Bool) (y:Int):Prop:=∃ p q,v=.agg [.bool n,.bool (decide (x<0)),p,.bool n',.bool (decide (y<0)),q]/\bA H p x.natAbs/\bA H q y.natAbs
def ItvV.mono {H H':Heap} (hs:Sub H H') {v:AV} {n n':Bool} {x y:Int} (h:ItvV H v n x n' y):ItvV H' v n x n' y:=by
 obtain ⟨p,q,rfl,h1,h2⟩:=h;exact ⟨p,q,rfl,h1.mono hs,h2.mono hs⟩
def PlcV.mono {H H':Heap} (hs:Sub H H') {v:AV} {be x:Int} (h:PlcV H v be x):PlcV H' v be x:=by
 obtain ⟨p,rfl,h1⟩:=h;exact ⟨p,rfl,h1.mono hs⟩
end
end Go.Proofs.YteaefaohjlmjdaaGreat.Ev
namespace Go.Proofs.YteaefaohjlmjdaaGreat.Lin
section
variable {n x:Nat} {a:V}
end
end Go.Proofs.YteaefaohjlmjdaaGreat.Lin
namespace Go.Proofs.YteaefaohjlmjdaaGreat.Ev
open Go Nn
section
variable {tab:Nat->Option az} {H:Heap} {s:AV}
end
section
variable {tab:Nat->Option az} {H:Heap}
end
section
open Lin
variable {n m:Nat}
def Jx {d m:Nat} (hd:d<=4):(2*d*2^m)^2^d<=2^(16*(m+4)):=by
 have h1:2*d*2^m<=2^(m+4):=by
  rw [V4,Vw (2^m)];exact Vj _ zO
 have h2:2^d<=2^4:=VI (by decide) hd;have h3:2^d*(m+4)<=16*(m+4):=Vj _ h2
 calc (2*d*2^m)^2^d<=(2^(m+4))^2^d:=Xf h1 _
  _=2^((m+4)*2^d):=(Xl ..).symm
  _<=2^(16*(m+4)):=VI (by decide) (by rw [Vw]; exact h3)
def Ru {a b:Nat} {x:V} (h:Bd a x) (c:a<=b):Bd b x:=fun i=>Vn (h i) c
def Nz {d:Nat} {E I:List V} (g:0<d) (hd:d<=4) (b:∀ a∈E,a.length=d/\Bd (2^m) a) (c:∀ a∈I,a.length=d/\Bd (2^m) a) :
  (∀ l∈gensL d E I,Bd (2^(16*(m+4))) l)/\(∀ r∈gensR d E I,Bd (2^(16*(m+4))) r):=by
 have t:=gens_told (d:=d) (fun a ha=>(b a ha).1) (fun a ha=>(c a ha).1);obtain ⟨e,f⟩:=told_bd g (VY (by decide)) t b c;exact ⟨fun l hl=>Ru (e l hl) (Jx hd),fun r hr=>Ru (f r hr) (Jx hd)⟩
def LT {l:List (V × Bool)} (hn:n<=3) (h:∀ c∈l,c.1.length=n+1/\Bd (2^m) c.1):∀ x∈gensP n l,x.2.length=n+1/\Bd (2^(16*(m+4))) x.2:=fun x hx=>by
 have f:∀ a∈eqsOf l,a.length=n+1/\Bd (2^m) a:=fun a ha=>h _ (mem_eqs.1 ha);have g:∀ a∈ineqsOf n l,a.length=n+1/\Bd (2^m) a:=fun a ha=>by
  rcases mem_ineqs.1 ha with rfl | ha
  ·exact ⟨unitC_len n 1,DG n m⟩
  ·exact h _ ha
 refine ⟨sO (fun c hc=>(h c hc).1) x hx,?_⟩;obtain ⟨b,e⟩:=Nz (d:=n+1) (m:=m) zO zO f g;unfold gensP at hx;split at hx
 ·rcases Vq.1 hx with hx | hx
  ·obtain ⟨r,hr,rfl⟩:=Va.1 hx;exact b r hr
  ·obtain ⟨r,hr,rfl⟩:=Va.1 hx;exact e r hr
 ·cases hx
end
section
variable {tab:Nat->Option az} {H:Heap}
end
structure PutS (P:Nat->Prop) (H0 D:Heap) (b:Nat) (H:Heap) (l:List (Nat × List Int)):Prop where
 le:D.next<=H.next
 keep:∀ c e,P c->D.get c=some e->H.get c=some e
 own:∃ v,H.get b=some (.cells [v] DN true)/\Bl genE ai H0 H v l/\∀ c,kb v=some c->¬ P c
section
variable {P:Nat->Prop} {H0 D H H':Heap} {b:Nat} {l:List (Nat × List Int)}
def PutS.mono (h:PutS P H0 D b H l) (a:Sub H H'):PutS P H0 D b H' l:=by
 obtain ⟨v,h1,h2,h3⟩:=h.own;exact ⟨Vn h.le a.1,fun c e hp hc=>a.get _ _ (h.keep c e hp hc),v,a.get _ _ h1,h2.mono a,h3⟩
def PutS.put (h:PutS P H0 D b H l) {c:Nat} {e:Ent} (hc:¬ P c) (hb:c≠b) (he:∀ cs r,H.get c≠some (.cells cs ai r)) (g:SubT genE.tys H (H.put c e)):PutS P H0 D b (H.put c e) l:=by
 obtain ⟨v,h1,h2,h3⟩:=h.own;refine ⟨h.le,fun d e' hp hd=>by rw [aB (show d≠c from fun q=>hc (by rw [<- q]; exact hp))]; exact h.keep d e' hp hd,v,by rw [aB (fun q=>hb q.symm)]; exact h1,h2.put (fun n a=>?_) g,h3⟩;rcases h2 with ⟨rfl,-⟩ | ⟨b',cells,rfl,f,-⟩
 ·cases a
 ·cases a; exact he _ _ f
variable {tab:Nat->Option az}
end
section
open Lin
variable {n x:Nat} {a:List Int} {rn rn':Bool} {lo hi:Int} {G:List (Nat × List Int)}
end
section
variable {tab:Nat->Option az} {H:Heap}
def PutS.kill {P:Nat->Prop} {H0 D:Heap} {b:Nat} {l:List (Nat × List Int)} (h:PutS P H0 D b H l) {c:Nat} (hc:¬ P c) (hb:c≠b) (he:∀ cs t r,H.get c≠some (.cells cs t r)):PutS P H0 D b (H.kill c) l:=by
 obtain ⟨v,h1,h2,h3⟩:=h.own;refine ⟨h.le,fun d e' hp hd=>by rw [cP (show d≠c from fun q=>hc (by rw [<- q]; exact hp))]; exact h.keep d e' hp hd,v,by rw [cP (fun q=>hb q.symm)]; exact h1,h2.kill (fun n a=>?_) ((SubT.refl _ _).kills fun cs t r _ h=>he cs t r h),h3⟩;rcases h2 with ⟨rfl,-⟩ | ⟨b',cells,rfl,e,-⟩
 ·cases a
 ·cases a; exact he _ _ _ e
def PutS.back {P d:Nat->Prop} {H0 D a:Heap} {b:Nat} {l:List (Nat × List Int)} (h:PutS d H0 a b H l) (hn:D.next<=a.next) (hp:∀ c,P c->d c) (f:∀ c e,P c->D.get c=some e->a.get c=some e):PutS P H0 D b H l:=by
 obtain ⟨v,h1,h2,h3⟩:=h.own;exact ⟨Vn hn h.le,fun c e q hc=>h.keep c e (hp c q) (f c e q hc),v,h1,h2,fun c q hc=>h3 c q (hp c hc)⟩
end
section
variable {tab:Nat->Option az} {H:Heap} {s:AV}
end
section
variable {tab:Nat->Option az} {H:Heap}
end
section
variable {tab:Nat->Option az} {H:Heap} {s:AV}
def Cd (C:Code tab) (h:Wf H) {n:Int} {l:List tt} (hs:SlV genQE ai H s l) (d:∀ c∈l,qG c.2) (e:∀ c∈l,∀ z∈c.2,Lim z.2/\z.2.length<=1048576) (g:l.length<4611686018427387904) (hc:bI n l≠0) :
  Ans tab (.fn nE [.int .i64 n,s]) H fun v H'=>v=.tup [.nilSl,.int .i64 (bI n l)]/\Kp H H':=by
 refine bk C.q29 zU fun T hl a b=>?_;refine zW (aE hl a b) ?_;refine AnsH.eq (kT C zF (hs.mono (zG H)) d e g) fun H2 f=>?_;obtain ⟨k2,_,_⟩:=zT H zK f;have hc:¬ bI n l=0:=hc;refine zW (aW hl a b hc) ?_;exact zK
def EJ (C:Code tab) (u:Wf H) {n m:Nat} {g:List (Nat × List Int)} (hs:SlV genE ai H s g) (hn:n<=4) (r:g.length<=60) (h:Lin.ValidG n g) (o:∀ x∈g,x.1=1\/x.1=2\/x.1=3) (d:∀ c∈g,Lin.Bd (2^m) c.2) (hm:m<=300000) :
  Ans tab (.fn nE [.int .i64 (n:Int),s]) H fun v H'=>(∃ w,v=.tup [w,.int .i64 0]/\SlV conE t_api_Con H' w (Lin.consP n g))/\Kp H H':=by
 have f:∀ c∈g,c.2.length=n+1/\Lin.Bd (2^m) c.2:=fun c hc=>⟨(h c hc).1,d c hc⟩
 have l:∀ c∈g.map fun c=>(c.1,c.2.map dU),∀ z∈c.2,Lim z.2/\z.2.length<=1048576:=fun c hc z e=>by
  obtain ⟨x,hx,rfl⟩:=Va.1 hc;obtain ⟨y,hy,rfl⟩:=Va.1 e;have hb:=ir (d x hx) y hy;exact ⟨aL _,vL (n:=y.natAbs) (k:=1048576) (m:=m+1) hb zO⟩
 refine bk C.q29 zU fun T hl a b=>?_;refine zW (aE hl a b) ?_;refine AnsH.eq (kT C zF ((A6 hs).mono (zG H)) (Ki (n:=n) zO fun c hc=>⟨(f c hc).1,fun z e=>(ir (d c hc) z e).sm zO⟩) l (by rw [Vh]; omega)) fun H2 p=>?_;rw [yw zO r h o];obtain ⟨k2,_,B⟩:=zT H zK p;refine zW (aE hl a b) ?_;refine AnsH.use (xH C zF ((hs.mono k2.sub).mono (zG H2)) hn zO (Ib zO hn) f zO) ?_;rintro v i ⟨j,q⟩;have t:Kp H i:=k2.trans (Kp.trans zK q);have A:=t.le;refine zW (aE hl a b) ?_;exact ⟨⟨v,rfl,j⟩,zK⟩
def FQ (C:Code tab) (E:Wf H) {v w:AV} {n e f e' k:Nat} {K:List (List Int × Bool)} {G:List (Nat × List Int)} {r:List Int} (hp:PolyV H v n K G) (b:PolyOK n e f K G) (hr:RowV H w r) (p:Lin.ValidG n [(k,r)]) (t:k=1\/k=2\/k=3) (hb:Lin.Bd (2^e') r) (he:e'<=300000) :
  Ans tab (.fn mZ [v,.agg [.int .u8 (k:Int),w]]) H fun x H'=>x=.tup [.bool (Lin.inP [(k,r)] K),.int .i64 0]/\Kp H H':=by
 have D:=hp;obtain ⟨i,j,rfl,hc,hg⟩:=hp;have A:=hc.one;have B:=hg.one;have q:=hr.one;have l:fm [.int .u8 0,.nilSl] [((0,2),.agg [.int .u8 (k:Int),w])]=some (.agg [.int .u8 (k:Int),w]):=by simp [fm,cZ,AV.cells,q.2,(aZ .u8 (k:Int)).2]
 refine bk C.q10 zU fun T hl d g=>?_;refine zW (dx hl d g (ki A B) (wI q) @nt) ?_;refine AnsH.eq (mN C zF ⟨i,j,rfl,hc.mono (zG H),hg.mono (zG H)⟩ b) fun H2 h=>?_;obtain ⟨k2,_,L⟩:=zT H zK h;have d0:H2.get H.next=some (.cells [.int .i64 (n:Int),i,j] aj true):=h.get (cy)
 have d1:H2.get (H.next+1)=some (.cells [.int .u8 (k:Int),w] ai true):=h.get (cy);refine zW (dx hl d g d0 d1 l) ?_;refine AnsH.use (EJ C (n:=n) (m:=e') zF (Rk (ap _ _ _) ((hr.mono k2.sub).mono (zG H2))) b.dim (by simp) p (fun x hx=>by rw [Vp] at hx; subst hx; exact t) (fun x hx=>by rw [Vp] at hx; subst hx; exact hb) he) ?_;rintro x a ⟨⟨u,rfl,-⟩,o⟩;obtain ⟨k23,_,_⟩:=zT H2 zK o;have c:Kp H a:=k2.trans k23;have F:=c.le;have M:=c.wf;have J:H2.next+12<=a.next:=o.le
 have d0:a.get H.next=some (.cells [.int .i64 (n:Int),i,j] aj true):=k23.get d0
 have d1:a.get (H.next+1)=some (.cells [.int .u8 (k:Int),w] ai true):=k23.get d1;have l2:=b.lenK;have f3:=b.f3;have hn:=b.dim;refine zW (dx hl d g d0 d1 l) ?_;refine AnsH.eq (AB C (n:=n) (e:=e') (f:=f) zF (Rk (ap _ _ _) ((hr.mono c.sub).mono (zG a))) ((hc.mono c.sub).mono (zG a)) (fun x hx=>by rw [Vp] at hx; subst hx; exact ⟨(p _ (Vp.2 rfl)).1,hb⟩) b.rowK zO (by simp) zO zO) fun s y=>?_;have z:Kp H s:=c.trans (Kp.trans zK y);have I:=z.le;refine zW (aE hl d g) ?_;exact zK
def Ea (C:Code tab) (D:Wf H) {v w:AV} {n e f:Nat} {K:List (List Int × Bool)} {G:List (Nat × List Int)} {r:tt} (hp:PolyV H v n K G) (A:PolyOK n e f K G) (hr:SlV rawE aa H w r.2) (t:qG r.2) (u:∀ z∈r.2,Lim z.2/\z.2.length<=1048576) (hc:bI n [r]≠0) :
  Ans tab (.fn mZ [v,.agg [.int .u8 (r.1:Int),w]]) H fun x H'=>x=.tup [.bool false,.int .i64 (bI n [r])]/\Kp H H':=by
 obtain ⟨o,p,rfl,k,hg⟩:=hp;have F:=k.one;have I:=hg.one;have m:=hr.one;have s:fm [.int .u8 0,.nilSl] [((0,2),.agg [.int .u8 (r.1:Int),w])]=some (.agg [.int .u8 (r.1:Int),w]):=by simp [fm,cZ,AV.cells,m.2,(aZ .u8 (r.1:Int)).2]
 refine bk C.q10 zU fun T hl d g=>?_;refine zW (dx hl d g (ki F I) (wI m) @nt) ?_;refine AnsH.eq (mN C zF ⟨o,p,rfl,k.mono (zG H),hg.mono (zG H)⟩ A) fun H2 j=>?_;obtain ⟨k2,_,L⟩:=zT H zK j;have d0:H2.get H.next=some (.cells [.int .i64 (n:Int),o,p] aj true):=j.get (cy)
 have d1:H2.get (H.next+1)=some (.cells [.int .u8 (r.1:Int),w] ai true):=j.get (cy);refine zW (dx hl d g d0 d1 s) ?_;have B:Sub H ((H2.up 12).put (H2.next+5) (.cells [.int .u8 (r.1:Int),w] ai true)):=((k2.sub.trans (Sub.bump H2 12)).put (D.fresh (b:=H2.next+5) (by have:=k2.le; omega)) _)
 refine AnsH.eq (Cd C (n:=(n:Int)) (l:=[r]) zF ⟨_,Rd.own (ap _ _ _) rfl (Vc _),fun _ _ _ _ _ _ e=>by cases e; exact ⟨_,_,ap _ _ _⟩,rfl,fun i a hi=>by
  match i with
  | 0=>simp at hi; subst hi; exact ⟨w,rfl,hr.mono B⟩
  | i+1=>simp at hi⟩ (fun c h=>by rw [Vp] at h; subst h; exact t) (fun c h=>by rw [Vp] at h; subst h; exact u) (by simp) hc) fun q y=>?_
 have E:Kp H q:=k2.trans (Kp.trans zK y);have J:=E.le;have hc:¬ bI n [r]=0:=hc;refine zW (aW hl d g hc) ?_;exact zK
end
section
variable {tab:Nat->Option az} {H:Heap}
end
end Go.Proofs.YteaefaohjlmjdaaGreat.Ev
namespace Go.Proofs.YteaefaohjlmjdaaGreat.Lin
end Go.Proofs.YteaefaohjlmjdaaGreat.Lin
namespace Go.Proofs.YteaefaohjlmjdaaGreat.Ev
open Go Nn
section
variable {tab:Nat->Option az} {H:Heap}
end
section
variable {tab:Nat->Option az} {H:Heap} {n x:Nat} {a:List Int} {K:List (List Int × Bool)} {G:List (Nat × List Int)}
end
end Go.Proofs.YteaefaohjlmjdaaGreat.Ev
namespace Go.Proofs.YteaefaohjlmjdaaGreat.Lin
section
variable {n x:Nat} {a r:V} {K:List (V × Bool)} {G:List (Nat × V)}
def LL {c:V × Bool} {y:Nat × V} (h:keepsP c y=true):(c.2=true->dot c.1 y.2=0)/\0<=dot c.1 y.2:=by
 rw [nI] at h;split at h
 ·exact ⟨fun _=>h,zO⟩
 ·rename_i q;exact ⟨fun e=>absurd (.inl e) q,h⟩
def KK {c:V × Bool} {k:Nat} (a:k≠1) (h:(c.2=true->dot c.1 r=0)/\0<=dot c.1 r):keepsP c (k,r)=true:=by
 rw [nI];split
 ·rename_i q;rcases q with q | q
  ·exact h.1 q
  ·exact absurd q a
 ·exact h.2
def Jw {l:List (V × Bool)} (hr:r.length=n+1) (h0:0<hd1 r):inP [(3,r)] l=true ↔ jc n l r:=by
 rw [inP_iff,keepP_iff];constructor
 ·intro h;refine ⟨hr,zO,fun c hc=>?_⟩
  have:=LL (h (3,r) (Vp.2 rfl) c hc)
  exact ⟨this.1,fun _=>this.2⟩
 ·rintro ⟨-,-,h⟩ y hy c hc;rw [Vp] at hy; subst hy;refine KK (by decide) ⟨(h c hc).1,?_⟩;cases hb:c.2 with
  | false=>exact (h c hc).2 hb
  | true=>have:=(h c hc).1 hb; omega
def Ss {l:List (V × Bool)} (hl:∀ c∈l,c.1.length=n+1) (hr:r.length=n+1) (h0:0<hd1 r):inP [(3,r)] (consP n (gensP n l))=inP [(3,r)] l:=by
 rw [Wi,Jw hr h0,Jw hr h0];by_cases he:gensP n l=[]
 ·constructor
  ·intro h;rw [he] at h
   have:=((keepP_iff.1 h).2.2 (unitC n (-1),false) (Vp.2 rfl)).2 rfl
   rw [kW] at this;omega
  ·intro h;exact absurd he ((xC hl).2 ⟨r,h,h0⟩)
 ·exact AC hl (xO he) r
def Own.pt (o:Own n K G) {d:V × Bool} (a:G≠[]) (b:∀ g∈G,keepsP d g=true) (hr:jc n K r):(d.2=true->dot d.1 r=0)/\0<=dot d.1 r :=
 (HD o.rows (by rw [o.gens]; exact a)).1 (fun g hg=>by rw [o.gens] at hg; exact b g hg) r hr
def Own.ne (o:Own n K G) (hr:jc n K r) (h0:0<hd1 r):G≠[]:=by
 have:=(xC o.rows).2 ⟨r,hr,h0⟩
 rw [o.gens] at this; exact this
end
end Go.Proofs.YteaefaohjlmjdaaGreat.Lin
namespace Go.Proofs.YteaefaohjlmjdaaGreat.Ev
open Go Nn
def JW {n:Nat} {x:tt} (c:eI x.2) (hg:ij 1 [x]=false) (hn:n<=4) :
  bI n [x]≠0\/(Lin.ValidG n [Rp x]/\(x.1=1\/x.1=2\/x.1=3)/\Lin.Bd (2^64) (Rp x).2/\∀ z∈x.2,qi z=false/\Lim z.2):=by
 by_cases hc:bI n [x]=0
 ·refine .inr ?_;obtain ⟨-,h2⟩:=jP hg;unfold bI at hc;split at hc
  ·omega
  split at hc
  ·omega
  split at hc
  ·omega
  split at hc
  ·omega
  rename_i q1 q2 q3 q4;have q3:Ca x=false:=by
   cases d:Ca x with
   | false=>rfl
   | true=>exact absurd (VQ.2 ⟨x,Vp.2 rfl,d⟩) q3
  have hl:(x.2.length:Int)=n+1:=by
   apply V8
   intro hn;exact q4 (VQ.2 ⟨x,Vp.2 rfl,by simpa using hn⟩)
  unfold Ca at q3;rw [WX] at q3;have ok:vE x.2=true:=by simpa using q3.1
  have a:=q3.2;unfold FX at a;refine ⟨fun y hy=>?_,?_,HS fun z b=>⟨(c.1 z b).1,(h2 x (Vp.2 rfl)).2 z b⟩,fun z b=>⟨Ed ok z b,(c.1 z b).1⟩⟩
  ·rw [Vp] at hy;subst hy;refine ⟨by show (x.2.map cB).length=_; rw [Vh]; omega,fun e=>?_,fun e=>?_⟩
   ·have e:x.1=3:=e;rw [if_neg (by simp only; omega),if_pos e] at a
    have:=of_decide_eq_false a
    show 0<Lin.hd1 (x.2.map cB);simp only at this;omega
   ·have e:x.1≠3:=e;split at a
    ·have:=of_decide_eq_false a
     show Lin.hd1 (x.2.map cB)=0;simp only at this;omega
    ·cases a
  ·split at a
   ·rename_i h; simp only at h; omega
   ·split at a
    ·rename_i h; simp only at h; omega
    ·cases a
 ·exact .inl hc
def Qg {l:List (Bool × List Nat)} (b:eI l) (hg:iS 5 1 l=false) (c:vE l=true):Lin.Bd (2^64) (l.map cB)/\∀ z∈l,qi z=false/\Lim z.2 :=
 ⟨HS fun z a=>⟨(b.1 z a).1,(pW hg).2 z a⟩,fun z a=>⟨Ed c z a,(b.1 z a).1⟩⟩
def IG {l:List (Bool × List Nat)} {b:Bool} (h:dG 1 [(l,b)]=false):iS 5 1 l=false:=by
 unfold dG at h;rw [WX,Ww] at h
 simpa using h.2 _ (Vp.2 rfl)
def SF {H:Heap} {b:Nat} {v:AV} {l:List (Bool × List Nat)} {e r:Bool} (h:H.get b=some (.cells [v,.bool e] t_api_Con r)) (c:SlV rawE aa H v l):SlV conQE t_api_Con H (.own b 0 1 1 2 true) [(l,e)] :=
 ⟨_,Rd.own h rfl (Vc _),fun _ _ _ _ _ _ e=>by cases e; exact ⟨_,_,h⟩,rfl,fun i a hi=>by
  match i with
  | 0=>simp at hi; subst hi; exact ⟨v,rfl,c⟩
  | i+1=>simp at hi⟩
def SE {H:Heap} {b:Nat} {v:AV} {g:tt} {r:Bool} (h:H.get b=some (.cells [.int .u8 (g.1:Int),v] ai r)) (c:SlV rawE aa H v g.2):SlV genQE ai H (.own b 0 1 1 2 true) [g] :=
 ⟨_,Rd.own h rfl (Vc _),fun _ _ _ _ _ _ e=>by cases e; exact ⟨_,_,h⟩,rfl,fun i a hi=>by
  match i with
  | 0=>simp at hi; subst hi; exact ⟨v,rfl,c⟩
  | i+1=>simp at hi⟩
section
variable {tab:Nat->Option az} {H:Heap}
def CF (C:Code tab) (d:Wf H) {v w:AV} {n e f:Nat} {K:List (List Int × Bool)} {G:List (Nat × List Int)} {r:tt} (hp:PolyV H v n K G) (b:PolyOK n e f K G) (hr:SlV rawE aa H w r.2) (c:eI r.2) (hg:ij 1 [r]=false) :
  Ans tab (.fn mZ [v,.agg [.int .u8 (r.1:Int),w]]) H fun x H'=>x=.tup [.bool (decide (bI n [r]=0) && Lin.inP [(r.1,r.2.map cB)] K),.int .i64 (bI n [r])]/\Kp H H':=by
 have hn:=b.dim;by_cases hc:bI n [r]=0
 ·rcases JW (n:=n) c hg hn with h | ⟨i,g,hb,a⟩
  ·exact absurd hc h
  refine (FQ C d hp b (SlV.int hr a) i g hb zO).mono ?_;rintro x H' ⟨rfl,k⟩;exact ⟨by rw [hc]; simp,k⟩
 ·refine (Ea C d hp b hr (II hg _ (Vp.2 rfl)) (fun z a=>⟨(c.1 z a).1,by have:=((jP hg).2 r (Vp.2 rfl)).2 z a; omega⟩) hc).mono ?_;rintro x H' ⟨rfl,k⟩;exact ⟨by simp [hc],k⟩
section
variable {n x:Nat} {a:List Int} {K:List (List Int × Bool)} {G:List (Nat × List Int)}
end
end
end Go.Proofs.YteaefaohjlmjdaaGreat.Ev
namespace Go.Proofs.YteaefaohjlmjdaaGreat.Nn
def GV (l:List Nat) (i:Nat):Nat:=l.getD (i / 64) 0 / 2^(i % 64) % 2
def bv:List Nat->Nat
 | []=>0
 | b :: l=>b+2*bv l
def Dg:∀ (l m:List Nat),bv (l++m)=bv l+2^l.length*bv m
 | [],m=>by simp [bv]
 | b :: l,m=>by
  rw [WV,bv,bv,Dg l m,VP,VG]
  grind
def zq (l:List Nat) (b:Nat):bv (l++[b])=bv l+2^l.length*b:=by
 rw [Dg]; simp [bv]
def O3:∀ {l:List Nat},(∀ b∈l,b<=1)->bv l<2^l.length
 | [],_=>by simp [bv]
 | b :: l,h=>by
  have:=O3 (l:=l) fun x hx=>h x (Vi _ hx)
  have:=h b (Vm ..)
  rw [bv,VP,VG];omega
def Dp:B=2^64:=by decide
def xY:∀ (l:List Nat) (k:Nat),Lim l->val l / B^k=val (l.drop k)
 | l,0,_=>by simp
 | [],k+1,_=>by simp [val]
 | a :: l,k+1,h=>by
  rw [VG,Vw,<- V2];have h1:val (a :: l) / B=val l:=by
   rw [val,YX _ _ (by decide),WG h.head,VN]
  rw [h1,xY l k h.tail,Z4]
def KJ {l:List Nat} (h:Lim l):val l % B=l.getD 0 0:=by
 cases l with
 | nil=>simp [val]
 | cons a l =>
  have:=h.head
  rw [val]
  simp
  omega
def Nf {l:List Nat} (h:Lim l) (k:Nat):val l / B^k % B=l.getD k 0:=by
 rw [xY l k h,KJ (h.drop k)];simp [U5]
def O8 {l:List Nat} (h:Lim l) (i:Nat):GV l i=val l / 2^i % 2:=by
 unfold GV;rw [<- Nf h];have e:2^i=B^(i / 64)*2^(i % 64):=by
  rw [Dp,<- Xl,<- V4,Wh]
 rw [e,<- V2]
 generalize val l / B^(i / 64)=m
 have hr:i % 64<64:=VS _ (by decide)
 generalize i % 64=r at hr
 have a:B=2^r*(2*2^(63-r)):=by
  rw [Dp,<- Nat.pow_succ',<- V4];congr 1; omega
 rw [a,Nat.mod_mul_right_div_self,Nat.mod_mul_right_mod]
def zh (n i:Nat):n % 2^(i+1)=n % 2^i+2^i*(n / 2^i % 2):=by
 rw [VG,Nat.mod_mul]
def zo (n i:Nat):n / 2^i=2*(n / 2^(i+1))+n / 2^i % 2:=by
 rw [VG,<- V2];omega
def EQ {l:List Nat} {i:Nat} (hi:i<l.length):bv (l.take (i+1))=bv (l.take i)+2^i*l[i]:=by
 rw [Ve hi,zq,Vx,VZ zO]
def GU {l:List Nat} {n:Nat} (h:∀ i,n<=i->∀ (hi:i<l.length),l[i]=0):bv (l.take n)=bv l:=by
 by_cases hn:l.length<=n
 ·rw [Vt hn]
 have key:∀ k,n+k<=l.length->bv (l.take (n+k))=bv (l.take n):=by
  intro k
  induction k with
  | zero=>intro _; rfl
  | succ k a =>
   intro b;rw [show n+(k+1)=(n+k)+1 by omega,EQ zO,h (n+k) zO zO,a zO];omega
 have:=key (l.length-n) zO
 rw [show n+(l.length-n)=l.length by omega,VC] at this;exact this.symm
def Ff {l:List Nat} {k r:Nat} (b:k<l.length):val (l.set k (l.getD k 0+2^r))=val l+B^k*2^r:=by
 induction l generalizing k with
 | nil=>simp at b
 | cons a l c =>
  cases k with
  | zero=>simp [val]; omega
  | succ k =>
   have:=c (k:=k) (by simpa using b)
   simp only [Zg,WE,val] at this ⊢;rw [this,VG]
   grind
end Go.Proofs.YteaefaohjlmjdaaGreat.Nn
namespace Go.Proofs.YteaefaohjlmjdaaGreat.Ev
open Go Nn
def uL (x y:Nat):Int:=if x<y then -1 else if x=y then 0 else 1
def mA {x:Nat} (h:(ag x).length<=1):(ag x).getD 0 0=x/\x<B:=by
 have e:=bB x;have hl:=aL x
 match hm:ag x,h with
 | [],_=>rw [hm] at e; simp [val] at e; subst e; exact ⟨rfl,by decide⟩
 | [a],_ =>
  rw [hm] at e hl;simp [val] at e;subst e;exact ⟨rfl,hl.head⟩
def sI {x m:Nat} (h:(ag x).length<=m):x<2^(64*m):=by
 have h1:=ii x;have h2:B^(ag x).length<=B^m:=VI zU h;have h3:B^m=2^(64*m):=by rw [Dp,<- Xl]
 omega
def fJ (x i:Nat):GV (ag x) i=x / 2^i % 2:=by rw [O8 (aL x),bB]
section
variable {tab:Nat->Option az} {H:Heap} {a b:AV}
def lv (C:Code tab) (t:Wf H) {l:List Nat} {i:Nat} (ha:Lb H a l) (p:Lim l) (hi:i<4611686018427387904) :
  Ans tab (.fn iP [a,.int .i64 (i:Int)]) H fun v H'=>v=.int .i64 (GV l i:Int)/\Kp H H':=by
 refine bk C.q100 zU fun T hl f g=>?_;have d:bu .quo .int (.int .i64 (i:Int)) (.int .i64 64)=some (.int .i64 ((i / 64:Nat):Int)):=CD (c:=64) zO hi;have hr:bu .rem .int (.int .i64 (i:Int)) (.int .i64 64)=some (.int .i64 ((i % 64:Nat):Int)):=CC (c:=64) zO;obtain ⟨q,eq⟩:∃ q,q=i / 64:=⟨_,rfl⟩
 obtain ⟨r,e⟩:∃ r,r=i % 64:=⟨_,rfl⟩
 have n:GV l i=l.getD q 0 / 2^r % 2:=by rw [eq,e]; rfl
 rw [<- eq] at d;rw [<- e] at hr;rw [n];by_cases h:l.length<=q
 ·have h':((l.length:Nat):Int)<=(q:Int):=zO;have e0:l.getD q 0=0:=by rw [U5,VM h]; rfl
  refine zW (fE hl f g d ha.lenV h h') ?_;exact ⟨by rw [e0]; simp,zK⟩
 ·have hlt:q<l.length:=zO;have h':¬ ((l.length:Nat):Int)<=(q:Int):=zO;have o:=SlV.idx1 ha .i64 q hlt;have m:=cW ha hlt;have hb:=p.at q;obtain ⟨x,hx⟩:∃ x,x=l.getD q 0:=⟨_,rfl⟩
  rw [<- hx] at m hb ⊢;have hb:x<18446744073709551616:=hb;have s:x / 2^r<=x:=Xv _ _;have hs:=uO (a:=x) (b:=r) zO (k:=.i64);have j:bu .and .int (.int .u64 ((x / 2^r:Nat):Int)) (.int .u64 1)=some (.int .u64 ((x / 2^r % 2:Nat):Int)):=by
   have:=Dj (a:=x / 2^r) (b:=1) zO zO
   rw [Nat.and_one_is_mod] at this;exact this
  obtain ⟨y,hy⟩:∃ y,y=x / 2^r % 2:=⟨_,rfl⟩
  rw [<- hy] at j ⊢;have hc:IntKind.i64.wrap (y:Int)=(y:Int):=by rw [wrap_i64] <;> omega
  refine zW (yZ hl f g d hr ha.lenV h h' o m hs j hc) ?_;exact zK
def qT (C:Code tab) (f:Wf H) {l m:List Nat} (ha:Lb H a l) (hb:Lb H b m) :
  Ans tab (.fn fT [a,b]) H fun v H'=>v=.bool (decide (l.length<=1) && decide (m.length<=1))/\Kp H H':=by
 refine bk C.q96 zU fun T hl c d=>?_;by_cases h:l.length<=1
 ·have h':(l.length:Int)<=1:=zO;by_cases h2:m.length<=1
  ·have e:(m.length:Int)<=1:=zO;refine zW (jB hl c d ha.lenV hb.lenV h h' h2 e) ?_;exact zK
  ·have e:¬ (m.length:Int)<=1:=zO;refine zW (jB hl c d ha.lenV hb.lenV h h' h2 e) ?_;exact zK
 ·have h':¬ (l.length:Int)<=1:=zO;refine zW (fE hl c d ha.lenV hb.lenV h h') ?_;exact zK
def gA (C:Code tab) (f:Wf H) {l:List Nat} (ha:Lb H a l) :
  Ans tab (.fn gZ [a]) H fun v H'=>v=.int .u64 (l.getD 0 0:Int)/\Kp H H':=by
 refine cY C.q97 zU fun T hl b=>?_;by_cases h:l.length=0
 ·have h':(l.length:Int)=0:=zO;have e:l=[]:=VB h;refine zW (aW hl b ha.lenV h') ?_;exact ⟨by rw [e]; rfl,zK⟩
 ·have h':¬ (l.length:Int)=0:=zO;have c:cd 1 a (.int .i64 0)=some (aA a 0):=SlV.idx1 ha .i64 0 zO;have d:=cW ha (i:=0) zO;refine zW (dx hl b ha.lenV h' c d) ?_;exact zK
def ur (C:Code tab) (i:Wf H) {l m:List Nat} (ha:Lb H a l) (hb:Lb H b m) (h1:l.length<=16777216) (h2:m.length<=16777216) :
  Ans tab (.fn gH [a,b]) H fun v H'=>v=.int .i64 ((64*max l.length m.length:Nat):Int)/\Kp H H':=by
 refine bk C.q99 zU fun T hl e f=>?_;have g:(if (l.length:Int)<(m.length:Int) then (m.length:Int) else (l.length:Int))=((max l.length m.length:Nat):Int):=by split <;> omega
 have c:IntKind.i64.wrap (64*((max l.length m.length:Nat):Int))=((64*max l.length m.length:Nat):Int):=by rw [wrap_i64] <;> omega
 by_cases h:l.length<m.length
 ·have d:max l.length m.length=m.length:=zO;rw [d] at c ⊢;have h':(l.length:Int)<(m.length:Int):=zO;refine zW (jB hl e f ha.lenV hb.lenV (fun (a b:Int)=>@gt_iff_lt Int _ a b) h h' c) ?_;exact zK
 ·have d:max l.length m.length=l.length:=zO;rw [d] at c ⊢;have h':¬ (l.length:Int)<(m.length:Int):=zO;refine zW (jB hl e f ha.lenV hb.lenV (fun (a b:Int)=>@gt_iff_lt Int _ a b) h h' c) ?_;exact zK
def OW {x y k:Nat} (h:x / 2^(k+1)=y / 2^(k+1)) (hb:x / 2^k % 2≠y / 2^k % 2):((x / 2^k % 2:Nat):Int)-((y / 2^k % 2:Nat):Int)=uL x y:=by
 have h1:=zo x k;have h2:=zo y k;have h3:x / 2^k % 2<2:=VS _ zU;have b:y / 2^k % 2<2:=VS _ zU;unfold uL;rcases Xp (x / 2^k) (y / 2^k) with q | q | q
 ·have:x<y:=YR fun a=>by have:=XT (c:=2^k) a; omega
  rw [if_pos this]; omega
 ·omega
 ·have:y<x:=YR fun a=>by have:=XT (c:=2^k) a; omega
  rw [if_neg zO,if_neg zO]; omega
set_option maxHeartbeats 1000000 in
def Ay (C:Code tab) (hw:Wf H) {x y:Nat} (ha:bA H a x) (hb:bA H b y) (h1:(ag x).length<=16777216) (h2:(ag y).length<=16777216) :
  Ans tab (.fn eR [a,b]) H fun v H'=>v=.int .i64 (uL x y)/\Kp H H':=by
 have t:c_facetroomref01_Compared.results=[(4,none)]:=rfl;refine ts C.q70 rfl rfl zU fun T hl g=>?_;have hl:T.length=43:=hl;have m:ad T 0=a:=g 0 (by simp);have n:ad T 1=b:=g 1 (by simp);clear g;refine aG ?_;refine zW (aw hl @am) ?_;refine bP (fun _ H'=>Kp H H') rfl ?_ ?_
 ·refine zW (aE hl m n) ?_;refine AnsH.eq (qT C zF (ha.mono (zG H)) (hb.mono (zG H))) fun H2 D=>?_;obtain ⟨k2,_,w2⟩:=zT H zK D;cases f:(decide ((ag x).length<=1) && decide ((ag y).length<=1)) with
  | false =>
   refine zW (aE hl @aC @bF) ?_;exact zK
  | true =>
   rw [VH,decide_eq_true_eq,decide_eq_true_eq] at f;obtain ⟨ex,-⟩:=mA f.1;obtain ⟨N,-⟩:=mA f.2;refine zW (aE hl m n) ?_;refine AnsH.eq (gA C zF ((ha.mono k2.sub).mono (zG H2))) fun r o=>?_;rw [ex];have w:Kp H r:=k2.trans (Kp.trans zK o);have ai:=w.le;have w3:=w.wf;refine zW (aE hl m n) ?_;refine AnsH.eq (gA C zF ((hb.mono w.sub).mono (zG r))) fun p E=>?_;rw [N];have d:Kp H p:=w.trans (Kp.trans zK E);have Z:=d.le;have w4:=d.wf;by_cases O:x=y
   ·have L:(x:Int)=(y:Int):=zO;refine zW (aW hl L @aC @bF) ?_;exact zK
   ·have L:¬ (x:Int)=(y:Int):=zO;refine zW (bO hl O L m n) ?_;refine AnsH.eq (gA C zF ((ha.mono d.sub).mono (zG p))) fun q F=>?_;rw [ex];have e:Kp H q:=d.trans (Kp.trans zK F);have aa:=e.le;have w5:=e.wf;refine zW (aE hl m n) ?_;refine AnsH.eq (gA C zF ((hb.mono e.sub).mono (zG q))) fun s I=>?_;rw [N];have l:Kp H s:=e.trans (Kp.trans zK I);have ab:=l.le;have w6:=l.wf;by_cases hlt:x<y
    ·have J:(x:Int)<(y:Int):=zO;refine zW (dx hl hlt J @aC @bF t) ?_;exact ⟨by unfold uL; rw [if_pos hlt],zK⟩
    ·have J:¬ (x:Int)<(y:Int):=zO;refine zW (dx hl hlt J @aC @bF t) ?_;exact ⟨by unfold uL; rw [if_neg hlt,if_neg O],zK⟩
 intro T1 G hs z;have wG:=z.wf;have t0:ad T1 0=a:=(hs.at_ 0 zU).trans (zV (aw hl m));have t1:ad T1 1=b:=(hs.at_ 1 zU).trans (zV (aw hl n));have i:T1.length=43:=hs.len.trans (zV hl);obtain ⟨M,B⟩:∃ M,M=64*max (ag x).length (ag y).length:=⟨_,rfl⟩
 refine bP (fun _ H'=>x=y/\Kp H H') rfl ?_ ?_
 ·refine zW (aE i t0 t1) ?_;refine AnsH.eq (ur C zF ((ha.mono z.sub).mono (zG G)) ((hb.mono z.sub).mono (zG G)) h1 h2) fun H2 D=>?_;rw [<- B];have k2:Kp H H2:=z.trans (Kp.trans zK D);have ah:=k2.le;have w2:=k2.wf;have V:IntKind.i64.wrap ((M:Int)-1)=(M:Int)-1:=by rw [wrap_i64] <;> omega
  refine zW (aw i V) ?_;refine aP H [5] (fun k vs _=>vs=[.int .i64 ((k:Int)-1)]/\k<=M/\x / 2^k=y / 2^k) M (by simp only [U4]; exact i) rfl zK ⟨by exact zV i,Vc _,?_⟩ ?_
  ·rw [WG,WG]
   ·rw [B]; exact sI zO
   ·rw [B]; exact sI zO
  rintro k T2 r c u o ⟨h,ae,hd⟩;have w3:=o.wf;have af:=o.le;simp only [Vb,Vf,Vd,and_true] at h;have A:ad T2 0=a:=(u.at_ 0 zU).trans (zV (aw i t0));have u1:ad T2 1=b:=(u.at_ 1 zU).trans (zV (aw i t1));by_cases X:k=0
  ·have hi:¬ (0:Int)<=(k:Int)-1:=zO;refine zW (bO c h hi @aC @bF) ?_;refine ⟨?_,zK⟩;rw [X] at hd; simpa using hd
  ·obtain ⟨j,rfl⟩:∃ j,k=j+1:=⟨k-1,zO⟩
   have U:((j+1:Nat):Int)-1=(j:Int):=zO;rw [U] at h;have hi:(0:Int)<=(j:Int):=zO;have W:IntKind.i64.wrap ((j:Int)-1)=(j:Int)-1:=by rw [wrap_i64] <;> omega
   refine zW (bO c h hi A u1) ?_;refine AnsH.eq (lv C zF ((ha.mono o.sub).mono (zG r)) (aL x) zO) fun p E=>?_;rw [fJ];have d:Kp H p:=o.trans (Kp.trans zK E);have Z:=d.le;have w4:=d.wf;refine zW (aW c h A u1) ?_;refine AnsH.eq (lv C zF ((hb.mono d.sub).mono (zG p)) (aL y) zO) fun q F=>?_;rw [fJ];have e:Kp H q:=d.trans (Kp.trans zK F);have aa:=e.le;have w5:=e.wf;by_cases f:x / 2^j % 2=y / 2^j % 2
   ·have K:((x / 2^j % 2:Nat):Int)=((y / 2^j % 2:Nat):Int):=zO;refine zW (bO c h K f W) ?_;refine ⟨zK,j,zO,rfl,zO,?_⟩;rw [zo x j,zo y j,hd,f]
   ·have K:¬ ((x / 2^j % 2:Nat):Int)=((y / 2^j % 2:Nat):Int):=zO;have R:=OW hd f;refine zW (dx c h K f A u1) ?_;refine AnsH.eq (lv C zF ((ha.mono e.sub).mono (zG q)) (aL x) zO) fun s I=>?_;rw [fJ];have l:Kp H s:=e.trans (Kp.trans zK I);have ab:=l.le;have w6:=l.wf;refine zW (aW c h A u1) ?_;refine AnsH.eq (lv C zF ((hb.mono l.sub).mono (zG s)) (aL y) zO) fun Q Y=>?_;rw [fJ];have P:Kp H Q:=l.trans (Kp.trans zK Y);have aj:=P.le;have w7:=P.wf;have S:IntKind.i64.wrap (uL x y)=uL x y:=by unfold uL; split <;> (try split) <;> (rw [wrap_i64] <;> omega)
    refine zW (dx c R S @aC @bF t) ?_;exact zK
 rintro T2 G2 u ⟨rfl,k2⟩;have c:T2.length=43:=u.len.trans (zV i);refine WC.wb ?_;refine zW (aw c t) ?_;exact ⟨by unfold uL; simp,zK⟩
end
end Go.Proofs.YteaefaohjlmjdaaGreat.Ev
