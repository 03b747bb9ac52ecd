/- A part. -/
import Derived.Test.YteaefaohjlmjdaaGreatA0
import Derived.Test.YteaefaohjlmjdaaGreatArgs
import Derived.Test.YteaefaohjlmjdaaGreatN8
import Derived.Test.YteaefaohjlmjdaaGreatSize2
set_option linter.all false
namespace Go.Proofs.YteaefaohjlmjdaaGreat.Ev
open Go Nn
section
variable {tab:Nat->Option aA} {H:Heap} {s:AV}
theorem GI {v:AV} (ov:One v) (b:Bool):fJ (.agg [v,.bool b])=some [v,.bool b]:=by simp [fJ,AV.cells,ov.2]; rfl
theorem BL {v:AV} (ov:One v) (k:Int):fJ (.agg [.int .u8 k,v])=some [.int .u8 k,v]:=by simp [fJ,AV.cells,ov.2]; rfl
def EA (C:Code tab) (hw:Wf H) {cs cs':List AV} {x y:List Int × Bool} (hx:conE.R H cs x) (hy:conE.R H cs' y) (hl':x.1.length<1099511627776) (hz:∀ z∈x.1,dJ z) :
  Ans tab (.fn gu [.agg cs,.agg cs']) H fun v H'=>v=.bool (decide (x=y))/\Kp H H':=by
 obtain ⟨v,rfl,hv⟩:=hx;obtain ⟨w,rfl,hw'⟩:=hy;have ov:=hv.one;have ow:=hw'.one;obtain ⟨a,p⟩:=x;obtain ⟨b,q⟩:=y;have hv:RowV H v a:=hv;have hw':RowV H w b:=hw';refine bB C.q100 zU fun T hl g0 g1=>?_;by_cases hb:p=q
 ·subst hb;refine zW (dL hl g0 g1 (GI ov) (GI ow) (beq_self_eq_true (α:=Bool))) ?_;refine AnsH.eq (zB C zF (hv.mono (zG H)) (hw'.mono (zG H)) hl' hz) fun H2 hk2=>?_;obtain ⟨k2,_,_⟩:=zT H zK hk2;refine zW (aE hl g0 g1) ?_;exact ⟨by simp,zK⟩
 ·have hxb:(p == q)=false:=by simpa using hb
  refine zW (dL hl g0 g1 (GI ov) (GI ow) hxb) ?_;exact ⟨by simp [hb],zK⟩
def Ez (C:Code tab) (hw:Wf H) {cs cs':List AV} {x y:Nat × List Int} (hx:genE.R H cs x) (hy:genE.R H cs' y) (hl':x.2.length<1099511627776) (hz:∀ z∈x.2,dJ z) :
  Ans tab (.fn gt [.agg cs,.agg cs']) H fun v H'=>v=.bool (decide (x=y))/\Kp H H':=by
 obtain ⟨v,rfl,hv⟩:=hx;obtain ⟨w,rfl,hw'⟩:=hy;have ov:=hv.one;have ow:=hw'.one;obtain ⟨p,a⟩:=x;obtain ⟨q,b⟩:=y;have hv:RowV H v a:=hv;have hw':RowV H w b:=hw';refine bB C.q101 zU fun T hl g0 g1=>?_;by_cases hb:p=q
 ·subst hb;refine zW (bA hl g0 g1 (BL ov) (BL ow)) ?_;refine AnsH.eq (zB C zF (hv.mono (zG H)) (hw'.mono (zG H)) hl' hz) fun H2 hk2=>?_;obtain ⟨k2,_,_⟩:=zT H zK hk2;refine zW (aE hl g0 g1) ?_;exact ⟨by simp,zK⟩
 ·have hxb:¬ (p:Int)=(q:Int):=zO;refine zW (dL hl g0 g1 (BL ov) (BL ow) hxb) ?_;exact ⟨by simp [hb],zK⟩
def Cc (C:Code tab) (hw:Wf H) {a b:AV} {l m:List (List Int × Bool)} (ha:SlV conE t_api_Con H a l) (hb:SlV conE t_api_Con H b m) (hbig:l.length<1099511627776) (hz:∀ r∈l,r.1.length<1099511627776/\∀ z∈r.1,dJ z) :
  Ans tab (.fn aV [a,b,.fn (.func gu) [] []]) H fun v H'=>v=.bool (decide (l=m))/\Kp H H':=by
 refine kS C.q102 zU fun T hl g0 g1 g2=>?_;by_cases he:l.length=m.length
 ·have lb:lenV b=some (.int .i64 (l.length:Int)):=by rw [hb.lenV,he]
  refine zW (dL hl g0 g1 g2 ha.lenV lb) ?_;refine aq H [] (fun j _ _=>∀ q (h:q<l.length) (h':q<m.length),q<j->l[q]=m[q]) (a:=0) (N:=l.length) rfl (by refine zW (aQ hl g0 g1 g2) ?_; rfl) (zV (aQ hl g0 g1 g2)) (Vj _) zO (by simp only [U4,hl]; rfl) rfl (fun _ _ _ _ h=>h) zK (fun q _ _ h=>by omega) ?_ ?_
  ·intro j T1 H1 _ hj hl1 hi1 hs1 hk1 hP;have w1:=hk1.wf;have le_hk1:=hk1.le;have hj2:j<m.length:=zO;have t15:ad T1 15=a:=(hs1.at_ 15 zU).trans (zV (aD hl g0));have t1:ad T1 1=b:=(hs1.at_ 1 zU).trans (zV (bA hl g0 g1 g2 g1));have t2:ad T1 2=.fn (.func gu) [] []:=(hs1.at_ 2 zU).trans (zV (bA hl g0 g1 g2 g2));obtain ⟨_,⟨v,rfl,hr⟩,-,-,L⟩:=(ha.mono hk1.sub).at (U7 hj);obtain ⟨_,⟨w,rfl,hr'⟩,-,-,L'⟩:=(hb.mono hk1.sub).at (U7 hj2);have L:aX H1 (some 2) (au a (j*2))=some (.agg [v,.bool l[j].2]):=L;have L':aX H1 (some 2) (au b (j*2))=some (.agg [w,.bool m[j].2]):=L';have hix:cI 2 a (.int .i64 (j:Int))=some (au a (j*2)):=SlV.idx ha .i64 j hj;have hiy:cI 2 b (.int .i64 (j:Int))=some (au b (j*2)):=SlV.idx hb .i64 j hj2;have ov:=hr.one;have ow:=hr'.one;have Lp0:=(Ldd.of w1 L).put;have Ll0:=(Ldd.of w1 L).ld;have Lp:=(Ldd.of w1 L').put;have Ll:=(Ldd.of w1 L').ld;simp only [U4,hl] at hl1;refine zW (iO hl1 t15 t1 t2 hi1 hix hiy Lp0 Ll0 Lp Ll) ?_;refine AnsH.eq (EA C (x:=l[j]) (y:=m[j]) zF ⟨v,rfl,hr.mono (zG H1)⟩ ⟨w,rfl,hr'.mono (zG H1)⟩ (hz _ (U9 hj)).1 (hz _ (U9 hj)).2) fun H2 hk2=>?_;obtain ⟨k2,_,_⟩:=zT H zK hk2;cases hq:decide (l[j]=m[j]) with
   | true =>
    have hq:=of_decide_eq_true hq;refine zW hl1 ?_;refine ⟨zK,fun q h h' hqi=>?_⟩;by_cases e:q=j
    ·subst e; exact hq
    ·exact hP q h h' zO
   | false =>
    have hq:=of_decide_eq_false hq;refine zW hl1 ?_;refine ⟨?_,zK⟩;rw [decide_eq_false];intro e; subst e; exact hq rfl
  ·intro T1 H1 hl1 hs1 hk1 hP;simp only [U4,hl] at hl1;refine zW hl1 ?_;exact ⟨by rw [decide_eq_true (iL he fun q h h'=>hP q h h' h)],zK⟩
 ·have he':¬ (l.length:Int)=(m.length:Int):=zO;refine zW (iy hl g0 g1 g2 ha.lenV hb.lenV he' he) ?_;refine ⟨?_,zK⟩;rw [decide_eq_false];intro e; subst e; exact he rfl
def Cb (C:Code tab) (hw:Wf H) {a b:AV} {l m:List (Nat × List Int)} (ha:SlV genE ai H a l) (hb:SlV genE ai H b m) (hbig:l.length<1099511627776) (hz:∀ r∈l,r.2.length<1099511627776/\∀ z∈r.2,dJ z) :
  Ans tab (.fn aU [a,b,.fn (.func gt) [] []]) H fun v H'=>v=.bool (decide (l=m))/\Kp H H':=by
 refine kS C.q103 zU fun T hl g0 g1 g2=>?_;by_cases he:l.length=m.length
 ·have lb:lenV b=some (.int .i64 (l.length:Int)):=by rw [hb.lenV,he]
  refine zW (dL hl g0 g1 g2 ha.lenV lb) ?_;refine aq H [] (fun j _ _=>∀ q (h:q<l.length) (h':q<m.length),q<j->l[q]=m[q]) (a:=0) (N:=l.length) rfl (by refine zW (aQ hl g0 g1 g2) ?_; rfl) (zV (aQ hl g0 g1 g2)) (Vj _) zO (by simp only [U4,hl]; rfl) rfl (fun _ _ _ _ h=>h) zK (fun q _ _ h=>by omega) ?_ ?_
  ·intro j T1 H1 _ hj hl1 hi1 hs1 hk1 hP;have w1:=hk1.wf;have le_hk1:=hk1.le;have hj2:j<m.length:=zO;have t15:ad T1 15=a:=(hs1.at_ 15 zU).trans (zV (aD hl g0));have t1:ad T1 1=b:=(hs1.at_ 1 zU).trans (zV (bA hl g0 g1 g2 g1));have t2:ad T1 2=.fn (.func gt) [] []:=(hs1.at_ 2 zU).trans (zV (bA hl g0 g1 g2 g2));obtain ⟨_,⟨v,rfl,hr⟩,-,-,L⟩:=(ha.mono hk1.sub).at (U7 hj);obtain ⟨_,⟨w,rfl,hr'⟩,-,-,L'⟩:=(hb.mono hk1.sub).at (U7 hj2);have L:aX H1 (some 2) (au a (j*2))=some (.agg [.int .u8 (l[j].1:Int),v]):=L;have L':aX H1 (some 2) (au b (j*2))=some (.agg [.int .u8 (m[j].1:Int),w]):=L';have hix:cI 2 a (.int .i64 (j:Int))=some (au a (j*2)):=SlV.idx ha .i64 j hj;have hiy:cI 2 b (.int .i64 (j:Int))=some (au b (j*2)):=SlV.idx hb .i64 j hj2;have ov:=hr.one;have ow:=hr'.one;have Lp0:=(Ldd.of w1 L).put;have Ll0:=(Ldd.of w1 L).ld;have Lp:=(Ldd.of w1 L').put;have Ll:=(Ldd.of w1 L').ld;simp only [U4,hl] at hl1;refine zW (iO hl1 t15 t1 t2 hi1 hix hiy Lp0 Ll0 Lp Ll) ?_;refine AnsH.eq (Ez C (x:=l[j]) (y:=m[j]) zF ⟨v,rfl,hr.mono (zG H1)⟩ ⟨w,rfl,hr'.mono (zG H1)⟩ (hz _ (U9 hj)).1 (hz _ (U9 hj)).2) fun H2 hk2=>?_;obtain ⟨k2,_,_⟩:=zT H zK hk2;cases hq:decide (l[j]=m[j]) with
   | true =>
    have hq:=of_decide_eq_true hq;refine zW hl1 ?_;refine ⟨zK,fun q h h' hqi=>?_⟩;by_cases e:q=j
    ·subst e; exact hq
    ·exact hP q h h' zO
   | false =>
    have hq:=of_decide_eq_false hq;refine zW hl1 ?_;refine ⟨?_,zK⟩;rw [decide_eq_false];intro e; subst e; exact hq rfl
  ·intro T1 H1 hl1 hs1 hk1 hP;simp only [U4,hl] at hl1;refine zW hl1 ?_;exact ⟨by rw [decide_eq_true (iL he fun q h h'=>hP q h h' h)],zK⟩
 ·have he':¬ (l.length:Int)=(m.length:Int):=zO;refine zW (iy hl g0 g1 g2 ha.lenV hb.lenV he' he) ?_;refine ⟨?_,zK⟩;rw [decide_eq_false];intro e; subst e; exact he rfl
def CN (C:Code tab) (hw:Wf H) {v v':AV} {n n':Nat} {c c':List (List Int × Bool)} {g g':List (Nat × List Int)} (hp:PolyV H v n c g) (hp':PolyV H v' n' c' g') (hc1:c.length<1099511627776) (hc2:∀ r∈c,r.1.length<1099511627776/\∀ z∈r.1,dJ z) (hg1:g.length<1099511627776) (hg2:∀ r∈g,r.2.length<1099511627776/\∀ z∈r.2,dJ z) :
  Ans tab (.fn rp [v,v']) H fun x H'=>x=.bool (decide (n=n'/\c=c'/\g=g'))/\Kp H H':=by
 obtain ⟨vc,vg,rfl,hc,hg⟩:=hp;obtain ⟨vc',vg',rfl,hc',hg'⟩:=hp';have oc:=hc.one;have og:=hg.one;have oc':=hc'.one;have og':=hg'.one;refine bB C.q71 zU fun T hl g0 g1=>?_;by_cases hn:n=n'
 ·subst hn;refine zW (bA hl g0 g1 (kU oc og) (kU oc' og')) ?_;refine AnsH.eq (Cc C zF (hc.mono (zG H)) (hc'.mono (zG H)) hc1 hc2) fun H2 hk2=>?_;obtain ⟨k2,_,w2⟩:=zT H zK hk2;have d0:=hk2.get (b:=H.next) (e:=.cells [.int .i64 (n:Int),vc,vg] ak true) (cH);have d1:=hk2.get (b:=H.next+1) (e:=.cells [.int .i64 (n:Int),vc',vg'] ak true) (cH);by_cases hcc:c=c'
  ·rw [decide_eq_true hcc];refine zW (bA hl g0 g1 d0 d1) ?_;refine AnsH.eq (Cb C zF ((hg.mono k2.sub).mono (zG H2)) ((hg'.mono k2.sub).mono (zG H2)) hg1 hg2) fun H3 hk3=>?_;have k3:Kp H H3:=k2.trans (Kp.trans zK hk3);have le_k3:=k3.le;refine zW (aE hl g0 g1) ?_;exact ⟨by simp [hcc],zK⟩
  ·rw [decide_eq_false hcc];refine zW (aE hl g0 g1) ?_;exact ⟨by simp [hcc],zK⟩
 ·have hn':¬ (n:Int)=(n':Int):=zO;refine zW (dL hl g0 g1 (kU oc og) (kU oc' og') hn') ?_;exact ⟨by simp [hn],zK⟩
def K8 (C:Code tab) (hw:Wf H) {v w:AV} {a r:List Int} {e f:Nat} (ha:RowV H v a) (hr:RowV H w r) (har:a.length=r.length) (h64:a.length<=64) (hae:∀ z∈a,Bt e z) (hrf:∀ z∈r,Bt f z) (hbt:e+f+7<=8796093022208) :
  Ans tab (.fn re [v,w]) H fun x H'=>x=.int .i64 (ik (Lin.dot a r))/\Kp H H':=by
 refine bB C.q60 zU fun T hl g0 g1=>?_;refine zW (aE hl g0 g1) ?_;refine AnsH.use (pi C zF (ha.mono (zG H)) (hr.mono (zG H)) har h64 hae hrf hbt) ?_;rintro x H2 ⟨q,rfl,⟨p,rfl,hp⟩,hk2⟩;obtain ⟨k2,_,w2⟩:=zT H zK hk2;have op:=hp.one;have n2:H.next+10<=H2.next:=hk2.le
 have fr:H2.get (H.next+7)=none:=hk2.free (show H.next+7<H.next+10 by omega) (hw.fresh (b:=H.next+7) zO);obtain ⟨G,hG⟩:∃ G,G=((H2.up 7).put (H.next+7) (.cells [.bool false,.nilSl] aa true)).put (H.next+7) (.cells [.bool (decide (Lin.dot a r<0)),p] aa true):=⟨_,rfl⟩
 have kG:Kp H G:=by rw [hG]; exact zK
 have hpG:bJ G p (Lin.dot a r).natAbs:=by
  rw [hG];exact hp.mono (((Sub.bump H2 7).put fr _).put fr _)
 refine zW (aE hl g0 g1) ?_;rw [<- hG];refine AnsH.eq (pg C (x:=Lin.dot a r) kG.wf ⟨p,rfl,hpG⟩ ((oy hae hrf har h64).sm hbt)) fun H3 hk3=>?_;have k3:Kp H H3:=kG.trans hk3;have le_k3:=k3.le;refine zW (aE hl g0 g1) ?_;exact zK
def poly_keeps (C:Code tab) (hw:Wf H) {v w:AV} {b:Bool} {k:Nat} {a r:List Int} {e f:Nat} (ha:RowV H v a) (hr:RowV H w r) (har:a.length=r.length) (h64:a.length<=64) (hae:∀ z∈a,Bt e z) (hrf:∀ z∈r,Bt f z) (hbt:e+f+7<=8796093022208) :
  Ans tab (.fn gN [.agg [.int .u8 (k:Int),w],.agg [v,.bool b]]) H fun x H'=>x=.bool (Lin.keepsP (a,b) (k,r))/\Kp H H':=by
 have ov:=ha.one;have ow:=hr.one;refine bB C.q32 zU fun T hl g0 g1=>?_;refine zW (bA hl g0 g1 (GI ov) (BL ow)) ?_;refine AnsH.eq (K8 C (e:=f) (f:=e) zF (hr.mono (zG H)) (ha.mono (zG H)) har.symm zO hrf hae zO) fun H2 hk2=>?_;obtain ⟨k2,_,w2⟩:=zT H zK hk2;have d1:H2.get H.next=some (.cells [.int .u8 (k:Int),w] ai true):=hk2.get (cH)
 have d2:H2.get (H.next+1)=some (.cells [v,.bool b] t_api_Con true):=hk2.get (cH);have hd:=Lin.dot_comm r a;cases b with
 | true =>
  refine zW (bA hl g0 g1 d1 d2) ?_;refine ⟨?_,zK⟩;congr 1;rw [Wz];simp [Lin.keepsP,il,hd]
 | false =>
  by_cases hk1:k=1
  ·subst hk1;have d1:H2.get H.next=some (.cells [.int .u8 1,w] ai true):=d1
   refine zW (bA hl g0 g1 d1 d2) ?_;refine ⟨?_,zK⟩;congr 1;rw [Wz];simp [Lin.keepsP,il,hd]
  ·have hk2':¬ (k:Int)=1:=zO;refine zW (dL hl g0 g1 d1 d2 hk2') ?_;refine ⟨?_,zK⟩;congr 1;rw [Wz];simp [Lin.keepsP,Hu,hd,hk1]
def GO {α:Type} {p:α->Bool} {l:List α} {j:Nat} (hj:j<l.length):(l.take (j+1)).all p=((l.take j).all p && p l[j]):=by
 rw [Zl,U7 hj,List.all_append]; simp
def HQ (C:Code tab) (hw:Wf H) {a b:AV} {n e f:Nat} {G:List (Nat × List Int)} {K:List (List Int × Bool)} (ha:SlV genE ai H a G) (hb:SlV conE t_api_Con H b K) (hG:∀ x∈G,x.2.length=n+1/\Lin.Bd (2^e) x.2) (hK:∀ c∈K,c.1.length=n+1/\Lin.Bd (2^f) c.1) (hn:n<=60) (hlG:G.length<1099511627776) (hlK:K.length<1099511627776) (hef:e+f<=4398046511104) :
  Ans tab (.fn pG [a,b,.fn (.func gN) [] []]) H fun v H'=>v=.bool (Lin.inP G K)/\Kp H H':=by
 refine kS C.q31 zU fun T hl g0 g1 g2=>?_;refine zW (bA hl g0 g1 g2 ha.lenV) ?_;refine aq H [] (fun j _ _=>Lin.inP (G.take j) K=true) (a:=0) (N:=G.length) rfl (by refine zW (aQ hl g0 g1 g2) ?_; rfl) (zV (aQ hl g0 g1 g2)) (Vj _) zO (by simp only [U4,hl]; rfl) rfl (fun _ _ _ _ h=>h) zK rfl ?_ ?_
 ·intro j T1 H1 _ hj hl1 hi1 hs1 hk1 hP;have w1:=hk1.wf;have le_hk1:=hk1.le;have t11:ad T1 11=a:=(hs1.at_ 11 zU).trans (zV (aD hl g0));have t1:ad T1 1=b:=(hs1.at_ 1 zU).trans (zV (bA hl g0 g1 g2 g1));have t2:ad T1 2=.fn (.func gN) [] []:=(hs1.at_ 2 zU).trans (zV (bA hl g0 g1 g2 g2));obtain ⟨_,⟨v,rfl,hr⟩,-,-,L⟩:=(ha.mono hk1.sub).at (U7 hj);have L:aX H1 (some 2) (au a (j*2))=some (.agg [.int .u8 (G[j].1:Int),v]):=L;have hix:cI 2 a (.int .i64 (j:Int))=some (au a (j*2)):=SlV.idx ha .i64 j hj;have hr:RowV H1 v G[j].2:=hr;have ov:=hr.one;have Lp0:=(Ldd.of w1 L).put;have Ll0:=(Ldd.of w1 L).ld;have mG:=U9 hj;simp only [U4,hl] at hl1;refine zW (iy hl1 t11 t1 hi1 hix Lp0 Ll0 hb.lenV) ?_;obtain ⟨H2,hH2⟩:∃ H2,H2=((H1.up 7).put (H1.next+2) (.cells [.int .u8 0,.nilSl] ai true)).put (H1.next+2) (.cells [.int .u8 (G[j].1:Int),v] ai true):=⟨_,rfl⟩
  have k12:Kp H1 H2:=by rw [hH2]; exact zK
  have le_k12:=k12.le;have k2:Kp H H2:=hk1.trans k12;have le_k2:=k2.le;have w2:=k2.wf;have d8:H2.get (H1.next+2)=some (.cells [.int .u8 (G[j].1:Int),v] ai true):=by rw [hH2]; exact ap _ _ _
  rw [<- hH2];refine aq H2 [] (fun i _ _=>(K.take i).all (fun c=>Lin.keepsP c G[j])=true) (a:=0) (N:=K.length) rfl (by refine zW hl1 ?_; rfl) (zV hl1) (Vj _) zO (by simp only [U4,hl1]; rfl) rfl (fun _ _ _ _ h=>h) zK rfl ?_ ?_
  ·intro i T2 H3 _ hi hl2 hi2 hs2 hk3 hP2;have w3:=hk3.wf;have le_hk3:=hk3.le;have t17:ad T2 17=b:=(hs2.at_ 17 zU).trans (zV (aD hl1 t1));have t2b:ad T2 2=.fn (.func gN) [] []:=(hs2.at_ 2 zU).trans (zV (aD hl1 t2));have t8:ad T2 8=.ptr (H1.next+2) 0:=(hs2.at_ 8 zU).trans (zV hl1);have d8':=hk3.get d8;have lt8:=w3 _ _ d8';have s13:Sub H1 H3:=k12.sub.trans hk3.sub;obtain ⟨_,⟨w,rfl,hc⟩,-,-,L'⟩:=((hb.mono hk1.sub).mono s13).at (U7 hi);have L':aX H3 (some 2) (au b (i*2))=some (.agg [w,.bool K[i].2]):=L';have hiy:cI 2 b (.int .i64 (i:Int))=some (au b (i*2)):=SlV.idx hb .i64 i hi;have hc:RowV H3 w K[i].1:=hc;have ow:=hc.one;have Lp:=(Ldd.of w3 L').put;have Ll:=(Ldd.of w3 L').ld;have mK:=U9 hi;have hr3:=hr.mono s13;simp only [U4,hl1] at hl2;refine zW (jW hl2 t17 t2b t8 hi2 hiy Lp Ll d8') ?_;refine AnsH.eq (poly_keeps C (e:=f+1) (f:=e+1) (b:=K[i].2) (k:=G[j].1) (a:=K[i].1) (r:=G[j].2) zF (hc.mono (zG H3)) (hr3.mono (zG H3)) ((hK _ mK).1.trans (hG _ mG).1.symm) (by rw [(hK _ mK).1]; omega) (fun z hz=>gZ (hK _ mK).2 z hz) (fun z hz=>gZ (hG _ mG).2 z hz) zO) fun H4 hk4=>?_;obtain ⟨k4,_,_⟩:=zT H2 zK hk4;have k4':Kp H H4:=k2.trans k4;cases hq:Lin.keepsP (K[i].1,K[i].2) (G[j].1,G[j].2) with
   | true =>
    refine zW hl2 ?_;refine ⟨zK,?_⟩;rw [GO hi,hP2];exact hq
   | false =>
    refine zW hl2 ?_;refine ⟨?_,zK⟩
    have:Lin.inP G K=false:=by
     cases h:Lin.inP G K with
     | false=>rfl
     | true =>
      have:=Lin.inP_iff.1 h _ mG _ mK
      exact absurd (this.symm.trans hq) zU
    rw [this]
  ·intro T2 H3 hl2 hs2 hk3 hP2;rw [VD] at hP2;simp only [U4,hl1] at hl2;have k3:Kp H H3:=k2.trans hk3;have le_k3:=k3.le;refine zW hl2 ?_;refine ⟨zK,?_⟩;unfold Lin.inP at hP ⊢;rw [GO hj,hP];exact hP2
 ·intro T1 H1 hl1 hs1 hk1 hP;simp only [U4,hl] at hl1;rw [VD] at hP;refine zW hl1 ?_;exact ⟨by rw [hP],zK⟩
end
section
open Lin
def Cp {r:V} (h:∀ z∈r.map cC,z.2.length<=1):Bd (2^64) r:=fun i=>by
 unfold at_;rw [U5];cases hi:r[i]? with
 | none=>simp
 | some z =>
  have h1:=h (cC z) (Va.2 ⟨z,Vo hi,rfl⟩);have h2:z.natAbs<B^1:=xz (n:=z.natAbs) h1;have h3:B^1=2^64:=by decide
  simp only [WJ];omega
def pT {c:List (V × Bool)} {g:List (Nat × V)} (h:jT c g=false):(c.length<=9/\∀ x∈c,x.1.length<=5/\Bd (2^64) x.1)/\g.length<=9/\∀ x∈g,x.2.length<=5/\Bd (2^64) x.2:=by
 unfold jT at h;rw [WR] at h;obtain ⟨h1,h2⟩:=jf h.1;obtain ⟨h3,h4⟩:=A0 h.2;rw [Vc] at h1 h3;refine ⟨⟨h1,fun x hx=>?_⟩,h3,fun x hx=>?_⟩
 ·obtain ⟨q1,q2⟩:=h2 _ (Va.2 ⟨x,hx,rfl⟩);simp only [Vc] at q1;exact ⟨q1,Cp q2⟩
 ·obtain ⟨q1,q2⟩:=h4 _ (Va.2 ⟨x,hx,rfl⟩);simp only [Vc] at q1;exact ⟨q1,Cp q2⟩
def LF {n:Nat} {l:List (V × Bool)}:∀ x∈gensP n l,x.1=1\/x.1=2\/x.1=3:=fun x hx=>by
 unfold gensP at hx;split at hx
 ·rcases Vu.1 hx with hx | hx
  ·obtain ⟨r,hr,rfl⟩:=Va.1 hx;exact .inl rfl
  ·obtain ⟨r,hr,rfl⟩:=Va.1 hx;show kindOf r=1\/kindOf r=2\/kindOf r=3;unfold kindOf;split <;> simp
 ·cases hx
end
section
variable {tab:Nat->Option aA} {H:Heap} {s:AV}
structure PolyOK (n e f:Nat) (K:List (List Int × Bool)) (G:List (Nat × List Int)):Prop where
 own:Lin.Own n K G
 dim:n<=4
 few:K.length<=60\/K.length<=1022/\G.length<=60
 many:G.length<1024
 bK:∀ c∈K,Lin.Bd (2^f) c.1
 bG:∀ x∈G,Lin.Bd (2^e) x.2
 e3:e<=300000
 f3:f<=300000
section
variable {n e f:Nat} {K:List (List Int × Bool)} {G:List (Nat × List Int)}
def PolyOK.rowK (h:PolyOK n e f K G):∀ c∈K,c.1.length=n+1/\Lin.Bd (2^f) c.1:=fun c hc=>⟨h.own.rows c hc,h.bK c hc⟩
def PolyOK.rowG (h:PolyOK n e f K G):∀ x∈G,x.2.length=n+1/\Lin.Bd (2^e) x.2:=fun x hx=>⟨(h.own.valid x hx).1,h.bG x hx⟩
def PolyOK.kinds (h:PolyOK n e f K G):∀ x∈G,x.1=1\/x.1=2\/x.1=3:=fun x hx=>LF (n:=n) (l:=K) x (by rw [h.own.gens]; exact hx)
def PolyOK.smK (h:PolyOK n e f K G):∀ r∈K,r.1.length<1099511627776/\∀ z∈r.1,dJ z:=fun r hr=>⟨by rw [(h.rowK r hr).1]; have:=h.dim; omega,fun z hz=>(gZ (h.rowK r hr).2 z hz).sm (by have:=h.f3; omega)⟩
def PolyOK.smG (h:PolyOK n e f K G):∀ r∈G,r.2.length<1099511627776/\∀ z∈r.2,dJ z:=fun r hr=>⟨by rw [(h.rowG r hr).1]; have:=h.dim; omega,fun z hz=>(gZ (h.rowG r hr).2 z hz).sm (by have:=h.e3; omega)⟩
def PolyOK.lenK (h:PolyOK n e f K G):K.length<=1022:=by rcases h.few with h | h <;> omega
end
set_option maxHeartbeats 4000000 in
def Av (C:Code tab) (hw:Wf H) {v:AV} {n e f:Nat} {K:List (List Int × Bool)} {G:List (Nat × List Int)} (hp:PolyV H v n K G) (ho:PolyOK n e f K G) :
  Ans tab (.fn pH [v]) H fun x H'=>x=.int .i64 0/\Kp H H':=by
 obtain ⟨vc,vg,rfl,hc,hg⟩:=hp;have oc:=hc.one;have og:=hg.one;have lK:=ho.lenK;have lG:=ho.many;have eG:Lin.gensP n K=G:=ho.own.gens;have eK:Lin.consP n G=K:=ho.own.cons;have e3:=ho.e3;have f3:=ho.f3;have smK:=ho.smK;have smG:=ho.smG;refine cR C.q40 zU fun T hl g0=>?_;by_cases q1:(K.length:Int)<=60
 ·refine zW (bA hl g0 (kU oc og) hc.lenV q1) ?_;refine AnsH.use (pU C (n:=n) (m:=f) (m2:=e) zF (hc.mono (zG H)) ho.dim zO ho.rowK f3 (by rw [eG]; exact ho.bG) e3) ?_;rintro v H2 ⟨hm,hk2⟩;obtain ⟨k2,_,w2⟩:=zT H zK hk2;have n2:H.next+17<=H2.next:=hk2.le
  have d0:H2.get H.next=some (.cells [.int .i64 (n:Int),vc,vg] ak true):=hk2.get (cH)
  have f2:H2.get (H.next+14)=none:=hk2.free (show H.next+14<H.next+17 by omega) (by rw [az zO]; exact hw.fresh (b:=H.next+14) zO);rw [eG] at hm;unfold qx at hm;rw [eK] at hm;rcases hm with ⟨-,hm⟩ | ⟨p,rfl,⟨vc2,vg2,rfl,hc2,hg2⟩,-,-⟩
  ·omega
  have oc2:=hc2.one;have og2:=hg2.one;obtain ⟨H3,hH3⟩:∃ H3,H3=((H2.up 7).put (H.next+14) (.cells [.int .i64 0,.nilSl,.nilSl] ak true)).put (H.next+14) (.cells [.int .i64 (n:Int),vc2,vg2] ak true):=⟨_,rfl⟩
  have s23:Sub H2 H3:=by rw [hH3]; exact ((Sub.bump H2 7).put f2 _).put f2 _
  have k3:Kp H H3:=by rw [hH3]; exact zK
  have le_k3:=k3.le;have w3:=k3.wf;refine zW (aQ hl g0 @mY d0) ?_;rw [<- hH3];refine AnsH.eq (CN C zF ⟨vc,vg,rfl,(hc.mono k2.sub).mono s23,(hg.mono k2.sub).mono s23⟩ ⟨vc2,vg2,rfl,hc2.mono s23,hg2.mono s23⟩ zO smK zO smG) fun H4 hk4=>?_;have k4:Kp H H4:=k3.trans hk4;have le_k4:=k4.le;rw [decide_eq_true ⟨rfl,rfl,rfl⟩];refine zW (aD hl g0) ?_;exact zK
 ·have q2:(G.length:Int)<=60:=by rcases ho.few with h | h <;> omega
  refine zW (fy hl g0 (kU oc og) hc.lenV q1 hg.lenV q2) ?_;refine AnsH.use (vN C (n:=n) (m:=e) (m2:=f) (m3:=e) zF (hg.mono (zG H)) ho.dim zO ho.own.valid ho.kinds ho.bG e3 (by rw [eK]; exact ho.bK) f3 (by rw [eK,eG]; exact ho.bG) e3 (by rw [eK]; exact .inl lK)) ?_;rintro v H2 ⟨hm,hk2⟩;obtain ⟨k2,_,w2⟩:=zT H zK hk2;have n2:H.next+21<=H2.next:=hk2.le
  have d0:H2.get H.next=some (.cells [.int .i64 (n:Int),vc,vg] ak true):=hk2.get (cH)
  have f2:H2.get (H.next+18)=none:=hk2.free (show H.next+18<H.next+21 by omega) (by rw [az zO]; exact hw.fresh (b:=H.next+18) zO);unfold Df qx at hm;rw [eK,eG,eK] at hm;rcases hm with ⟨-,hm⟩ | ⟨-,hm⟩ | ⟨p,rfl,⟨vc2,vg2,rfl,hc2,hg2⟩,-,-⟩
  ·omega
  ·omega
  have oc2:=hc2.one;have og2:=hg2.one;obtain ⟨H3,hH3⟩:∃ H3,H3=((H2.up 7).put (H.next+18) (.cells [.int .i64 0,.nilSl,.nilSl] ak true)).put (H.next+18) (.cells [.int .i64 (n:Int),vc2,vg2] ak true):=⟨_,rfl⟩
  have s23:Sub H2 H3:=by rw [hH3]; exact ((Sub.bump H2 7).put f2 _).put f2 _
  have k3:Kp H H3:=by rw [hH3]; exact zK
  have le_k3:=k3.le;have w3:=k3.wf;refine zW (aQ hl g0 @mY d0) ?_;rw [<- hH3];refine AnsH.eq (CN C zF ⟨vc,vg,rfl,(hc.mono k2.sub).mono s23,(hg.mono k2.sub).mono s23⟩ ⟨vc2,vg2,rfl,hc2.mono s23,hg2.mono s23⟩ zO smK zO smG) fun H4 hk4=>?_;have k4:Kp H H4:=k3.trans hk4;have le_k4:=k4.le;rw [decide_eq_true ⟨rfl,rfl,rfl⟩];refine zW (aD hl g0) ?_;exact zK
end
abbrev TZ:=Nat × List (List Int × Bool) × List (Nat × List Int)
def Rb:fw TZ where
 sz:=3
 tys:=(t_api_Con :: conE.tys)++(ai :: genE.tys)
 R H cs x:=∃ vc vg,cs=[.int .i64 (x.1:Int),vc,vg]/\SlV conE t_api_Con H vc x.2.1/\SlV genE ai H vg x.2.2
 pos:=zO
 len:=by rintro H cs x ⟨v,w,rfl,h,h'⟩; exact ⟨rfl,by simp [h.one.2,h'.one.2]; rfl⟩
 mono:=by
  rintro H H' cs x hs ⟨v,w,rfl,h,h'⟩;exact ⟨v,w,rfl,h.monoT fun b cs t r ht=>hs b cs t r (WF _ ht),h'.monoT fun b cs t r ht=>hs b cs t r (WO _ ht)⟩
section
variable {tab:Nat->Option aA} {H:Heap} {s:AV}
def SN {a2 a3 b2 b3:AV} (h2:One a2) (h3:One a3) (h5:One b2) (h6:One b3) (x1 x2 x3 y1 y2 y3:AV) (k k':IntKind) (n n':Int):cG [x1,x2,x3,y1,y2,y3] [((0,3),.agg [.int k n,a2,a3]),((3,3),.agg [.int k' n',b2,b3])]=some [.int k n,a2,a3,.int k' n',b2,b3]:=by
 simp [cG,AV.cells,(bp k n).2,(bp k' n').2,h2.2,h3.2,h5.2,h6.2]
set_option maxHeartbeats 4000000 in
def DT (C:Code tab) (hw:Wf H) {n:Nat} {l:List TZ} (hs:SlV Rb ak H s l) (hl':l.length<1000) (h:∀ x∈l,x.1=n/\∃ e f,PolyOK n e f x.2.1 x.2.2) :
  Ans tab (.fn mA [s]) H fun x H'=>x=.int .i64 0/\Kp H H':=by
 refine cR C.q30 zU fun T hl g0=>?_;refine zW (aE hl g0 hs.lenV) ?_;refine aq H [] (fun _ _ _=>True) (a:=0) (N:=l.length) rfl (by refine zW (aD hl g0) ?_; rfl) (zV (aD hl g0)) (Vj _) zO (by simp only [U4,hl]; rfl) rfl (fun _ _ _ _ h=>h) zK trivial ?_ ?_
 ·intro j T1 H1 _ hj hl1 hi1 hs1 hk1 _;have w1:=hk1.wf;have le_hk1:=hk1.le;have t8:ad T1 8=s:=(hs1.at_ 8 zU).trans (zV (aD hl g0));obtain ⟨_,⟨vc,vg,rfl,hc,hg⟩,-,-,L⟩:=(hs.mono hk1.sub).at (U7 hj);have L:aX H1 (some 3) (au s (j*3))=some (.agg [.int .i64 (l[j].1:Int),vc,vg]):=L;have hix:cI 3 s (.int .i64 (j:Int))=some (au s (j*3)):=SlV.idx hs .i64 j hj;have oc:=hc.one;have og:=hg.one;have Lp:=(Ldd.of w1 L).put;have Ll:=(Ldd.of w1 L).ld;obtain ⟨hn,e,f,ok⟩:=h _ (U9 hj);simp only [U4,hl] at hl1;refine zW (fy hl1 t8 hi1 hix Lp Ll @mY) ?_;rw [hn];refine AnsH.eq (Av C zF ⟨vc,vg,rfl,hc.mono (zG H1),hg.mono (zG H1)⟩ ok) fun H2 hk2=>?_;obtain ⟨k2,_,_⟩:=zT H zK hk2;refine zW hl1 ?_;exact zK
 ·intro T1 H1 hl1 hs1 hk1 _;have w1:=hk1.wf;have le_hk1:=hk1.le;have t0:ad T1 0=s:=(hs1.at_ 0 zU).trans (zV (aD hl g0));have hsb:=hs.mono hk1.sub;simp only [U4,hl] at hl1;refine zW (aE hl1 t0 hsb.lenV) ?_;refine aq H [] (fun _ _ _=>True) (a:=0) (N:=l.length) rfl (by refine zW hl1 ?_; rfl) (zV hl1) (Vj _) zO (by simp only [U4,hl1]; rfl) rfl (fun _ _ _ _ h=>h) zK trivial ?_ ?_
  ·intro j T2 H2 _ hj hl2 hi2 hs2 hk2 _;have w2:=hk2.wf;have le_hk2:=hk2.le;have t20:ad T2 20=s:=(hs2.at_ 20 zU).trans (zV (aD hl1 t0));have t0':ad T2 0=s:=(hs2.at_ 0 zU).trans (zV (aD hl1 t0));have hs3:=hs.mono hk2.sub;have h0:0<l.length:=zO;obtain ⟨_,⟨vc,vg,rfl,hc,hg⟩,-,-,L⟩:=hs3.at (U7 hj);have L:aX H2 (some 3) (au s (j*3))=some (.agg [.int .i64 (l[j].1:Int),vc,vg]):=L;obtain ⟨_,⟨vc',vg',rfl,hc',hg'⟩,-,L1,-⟩:=hs3.at (U7 h0);have L1:aX H2 none (au s 0)=some (.int .i64 (l[0].1:Int)):=L1 0 _ rfl;have hix:cI 3 s (.int .i64 (j:Int))=some (au s (j*3)):=SlV.idx hs .i64 j hj;have hi0:cI 3 s (.int .i64 0)=some (au s 0):=SlV.idx hs .i64 0 h0;have fa0:A5 0 (au s 0)=some (au s 0):=hs.fa h0 0 0;have oc:=hc.one;have og:=hg.one;have Lp:=(Ldd.of w2 L).put;have Ll:=(Ldd.of w2 L).ld;have Lp1:=(Ldd.of w2 L1).put;have Ll1:=(Ldd.of w2 L1).ld;have hn:=(h _ (U9 hj)).1;have hn0:=(h _ (U9 h0)).1;have hnn:((l[j].1:Nat):Int)=(l[0].1:Int):=by rw [hn,hn0]
   simp only [U4,hl1] at hl2;refine zW (fy hl2 t20 hi2 hix Lp Ll @mY) ?_;refine aF ?_;refine zD (fy hl2 t0' hi0 fa0 Lp1 Ll1 hnn) ?_;exact zK
  ·intro T2 H2 hl2 hs2 hk2 _;simp only [U4,hl1] at hl2;refine zW hl2 ?_;exact zK
def Lu {H:Heap} {b:Nat} {vc vg vc' vg':AV} {x y:TZ} {r:Bool} (h:H.get b=some (.cells [.int .i64 (x.1:Int),vc,vg,.int .i64 (y.1:Int),vc',vg'] ak r)) (h1:SlV conE t_api_Con H vc x.2.1) (h2:SlV genE ai H vg x.2.2) (h3:SlV conE t_api_Con H vc' y.2.1) (h4:SlV genE ai H vg' y.2.2):SlV Rb ak H (.own b 0 2 2 3 true) [x,y] :=
 ⟨_,Rd.own h rfl (Vb _),fun _ _ _ _ _ _ e=>by cases e; exact ⟨_,_,h⟩,rfl,fun i a hi=>by
  match i with
  | 0=>simp at hi; subst hi; exact ⟨vc,vg,rfl,h1,h2⟩
  | 1=>simp at hi; subst hi; exact ⟨vc',vg',rfl,h3,h4⟩
  | i+2=>simp at hi⟩
def RY {n e f e' f':Nat} {K K':List (List Int × Bool)} {G G':List (Nat × List Int)} (ho:PolyOK n e f K G) (ho':PolyOK n e' f' K' G'):∀ x∈[((n,K,G):TZ),(n,K',G')],x.1=n/\∃ e f,PolyOK n e f x.2.1 x.2.2:=fun x hx=>by
 rcases VA.1 hx with rfl | hx
 ·exact ⟨rfl,_,_,ho⟩
 ·rcases VA.1 hx with rfl | hx
  ·exact ⟨rfl,_,_,ho'⟩
  ·cases hx
set_option maxHeartbeats 4000000 in
def Jj (C:Code tab) (hw:Wf H) {v w:AV} {n e f e' f':Nat} {K K':List (List Int × Bool)} {G G':List (Nat × List Int)} (hp:PolyV H v n K G) (hq:PolyV H w n K' G') (ho:PolyOK n e f K G) (ho':PolyOK n e' f' K' G') :
  Ans tab (.fn xf [v,w]) H fun x H'=>x=.tup [.bool (Lin.inP G K'),.int .i64 0]/\Kp H H':=by
 obtain ⟨vc,vg,rfl,hc,hg⟩:=hp;obtain ⟨vc',vg',rfl,hc',hg'⟩:=hq;have oc:=hc.one;have og:=hg.one;have oc':=hc'.one;have og':=hg'.one;refine bB C.q8 zU fun T hl g0 g1=>?_;refine zW (dL hl g0 g1 (kU oc og) (kU oc' og') (SN oc og oc' og')) ?_;refine AnsH.eq (DT C (n:=n) (l:=[(n,K,G),(n,K',G')]) zF (Lu (ap _ _ _) (hc.mono (zG H)) (hg.mono (zG H)) (hc'.mono (zG H)) (hg'.mono (zG H))) (by simp) (RY ho ho')) fun H2 hk2=>?_;obtain ⟨k2,_,w2⟩:=zT H zK hk2;have d0:H2.get H.next=some (.cells [.int .i64 (n:Int),vc,vg] ak true):=hk2.get (cH)
 have d1:H2.get (H.next+1)=some (.cells [.int .i64 (n:Int),vc',vg'] ak true):=hk2.get (cH);have e3:=ho.e3;have f3:=ho'.f3;have hn:=ho.dim;have l1:=ho.many;have l2:=ho'.lenK;refine zW (bA hl g0 g1 d0 d1) ?_;refine AnsH.eq (HQ C (n:=n) (e:=e) (f:=f') zF ((hg.mono k2.sub).mono (zG H2)) ((hc'.mono k2.sub).mono (zG H2)) ho.rowG ho'.rowK zO zO zO zO) fun H3 hk3=>?_;have k3:Kp H H3:=k2.trans (Kp.trans zK hk3);have le_k3:=k3.le;refine zW (aE hl g0 g1) ?_;exact zK
end
end Go.Proofs.YteaefaohjlmjdaaGreat.Ev
namespace Go.Proofs.YteaefaohjlmjdaaGreat.Lin
def g13:gensP 1 [([-1,1],false),([3,-1],false)]=[(3,[1,1]),(3,[1,3])]:=by
 have r:(gensU 2 [] [[1,0],[-1,1],[3,-1]]).rays.map (restF (gensL 2 [] [[1,0],[-1,1],[3,-1]]))=[[1,1],[1,3]]:=by decide +kernel
 have e:gensL 2 [] [[1,0],[-1,1],[3,-1]]=[]:=by decide +kernel
 have g:gensR 2 [] [[1,0],[-1,1],[3,-1]]=[[1,1],[1,3]]:=by
  unfold gensR;rw [r]; simp [List.mergeSort,List.MergeSort.Internal.splitInTwo,cmpV]
 have h1:eqsOf ([([-1,1],false),([3,-1],false)]:List (V × Bool))=[]:=rfl;have h2:ineqsOf 1 ([([-1,1],false),([3,-1],false)]:List (V × Bool))=[[1,0],[-1,1],[3,-1]]:=rfl;unfold gensP;rw [h1,h2,e,g];rfl
def k13:consP 1 [(3,[1,1]),(3,[1,3])]=[([-1,1],false),([3,-1],false)]:=by
 have r:(gensU 2 [] [[1,1],[1,3]]).rays.map (restF (gensL 2 [] [[1,1],[1,3]]))=[[3,-1],[-1,1]]:=by decide +kernel
 have e:gensL 2 [] [[1,1],[1,3]]=[]:=by decide +kernel
 have g:gensR 2 [] [[1,1],[1,3]]=[[-1,1],[3,-1]]:=by
  unfold gensR;rw [r]; simp [List.mergeSort,List.MergeSort.Internal.splitInTwo,cmpV]
 have h1:linesOf ([(3,[1,1]),(3,[1,3])]:List (Nat × V))=[]:=rfl;have h2:raysOf ([(3,[1,1]),(3,[1,3])]:List (Nat × V))=[[1,1],[1,3]]:=rfl;unfold consP;rw [h1,h2,e,g];decide
def b0:gensP 1 [([-1,1],false),([3,-1],false),([-4,1],false),([9,-1],false)]=[]:=by
 have r:(gensU 2 [] [[1,0],[-1,1],[3,-1],[-4,1],[9,-1]]).rays.map (restF (gensL 2 [] [[1,0],[-1,1],[3,-1],[-4,1],[9,-1]]))=[]:=by decide +kernel
 have e:gensL 2 [] [[1,0],[-1,1],[3,-1],[-4,1],[9,-1]]=[]:=by decide +kernel
 have g:gensR 2 [] [[1,0],[-1,1],[3,-1],[-4,1],[9,-1]]=[]:=by
  unfold gensR;rw [r]; simp
 have h1:eqsOf ([([-1,1],false),([3,-1],false),([-4,1],false),([9,-1],false)]:List (V × Bool))=[]:=rfl;have h2:ineqsOf 1 ([([-1,1],false),([3,-1],false),([-4,1],false),([9,-1],false)]:List (V × Bool))=[[1,0],[-1,1],[3,-1],[-4,1],[9,-1]]:=rfl;unfold gensP;rw [h1,h2,e,g];rfl
def k23:consP 1 [(3,[1,2]),(3,[1,3])]=[([-2,1],false),([3,-1],false)]:=by
 have r:(gensU 2 [] [[1,2],[1,3]]).rays.map (restF (gensL 2 [] [[1,2],[1,3]]))=[[3,-1],[-2,1]]:=by decide +kernel
 have e:gensL 2 [] [[1,2],[1,3]]=[]:=by decide +kernel
 have g:gensR 2 [] [[1,2],[1,3]]=[[-2,1],[3,-1]]:=by
  unfold gensR;rw [r]; simp [List.mergeSort,List.MergeSort.Internal.splitInTwo,cmpV]
 have h1:linesOf ([(3,[1,2]),(3,[1,3])]:List (Nat × V))=[]:=rfl;have h2:raysOf ([(3,[1,2]),(3,[1,3])]:List (Nat × V))=[[1,2],[1,3]]:=rfl;unfold consP;rw [h1,h2,e,g];decide
def bd_small4 {x:V} (h:x.all (fun a=>decide (a.natAbs<=16))=true):Bd (2^4) x:=fun i=>by
 by_cases hi:i<x.length
 ·have:at_ x i=x[i]:=by simp [at_,hi]
  rw [this]
  simpa using Vy.1 h _ (U9 hi)
 ·have:at_ x i=0:=by simp [at_,hi]
  rw [this]; simp
end Go.Proofs.YteaefaohjlmjdaaGreat.Lin
namespace Go.Proofs.YteaefaohjlmjdaaGreat.Ev
open Go Nn
section
variable {tab:Nat->Option aA} {H:Heap} {s:AV}
def m6 (C:Code tab) (hw:Wf H) {v:AV} {n:Nat} {c:List (List Int × Bool)} {g:List (Nat × List Int)} (hp:PolyV H v n c g) :
  Ans tab (.fn fd [v]) H fun x H'=>x=.bool (jT c g || decide (4<n))/\Kp H H':=by
 obtain ⟨vc,vg,rfl,hc,hg⟩:=hp;have oc:=hc.one;have og:=hg.one;refine cR C.q6 zU fun T hl g0=>?_;refine zW (aE hl g0 (kU oc og)) ?_;refine AnsH.eq (Ft C (n:=n) (c:=c) (g:=g) zF ⟨vc,vg,rfl,hc.mono (zG H),hg.mono (zG H)⟩) fun H2 hk2=>?_;obtain ⟨k2,_,_⟩:=zT H zK hk2;have d0:=hk2.get (b:=H.next) (e:=.cells [.int .i64 (n:Int),vc,vg] ak true) (cH);have e:decide ((4:Int)<(n:Int))=decide (4<n):=by rw [Wz]; simp; omega
 cases hq:jT c g with
 | true =>
  refine zW (aD hl g0) ?_;exact ⟨by simp,zK⟩
 | false =>
  refine zW (aE hl g0 d0) ?_;exact ⟨by simp [e],zK⟩
def HH (C:Code tab) (hw:Wf H) {v v':AV} {n n':Nat} {c c':List (List Int × Bool)} {g g':List (Nat × List Int)} (hp:PolyV H v n c g) (hp':PolyV H v' n' c' g') (hc1:c.length<1099511627776) (hc2:∀ r∈c,r.1.length<1099511627776/\∀ z∈r.1,dJ z) (hg1:g.length<1099511627776) (hg2:∀ r∈g,r.2.length<1099511627776/\∀ z∈r.2,dJ z) :
  Ans tab (.fn fO [v,v']) H fun x H'=>x=.bool (decide (n=n'/\c=c'/\g=g'))/\Kp H H':=by
 obtain ⟨vc,vg,rfl,hc,hg⟩:=hp;obtain ⟨vc',vg',rfl,hc',hg'⟩:=hp';have oc:=hc.one;have og:=hg.one;have oc':=hc'.one;have og':=hg'.one;refine bB C.q33 zU fun T hl g0 g1=>?_;refine zW (bA hl g0 g1 (kU oc og) (kU oc' og')) ?_;refine AnsH.eq (HI C (n:=n) (n':=n') zF ⟨vc,vg,rfl,hc.mono (zG H),hg.mono (zG H)⟩ ⟨vc',vg',rfl,hc'.mono (zG H),hg'.mono (zG H)⟩ hc1 hc2 hg1 hg2) fun H2 hk2=>?_;obtain ⟨k2,_,_⟩:=zT H zK hk2;refine zW (aE hl g0 g1) ?_;exact zK
end
open Go
def SX {tab:Nat->Option aA} {rd:Bool} {c:ACode} {T:Tm} {H:Heap} {K:Ex->Tm->Heap->Prop} (p:Tm->Prop) (hp:p T) (h:∀ T',p T'->WC tab rd c T' H K):WC tab rd c T H K:=h T hp
def jw {tab:Nat->Option aA} {rd:Bool} {c:ACode} {T:Tm} {H:Heap} {K:Ex->Tm->Heap->Prop} (p:Tm->Prop) (hp:p T) (h:∀ T',p T'->WB tab rd c T' H K):WB tab rd c T H K:=h T hp
structure Kx (b:Nat) (H H':Heap):Prop where
 wf0:Wf H
 wf:Wf H'
 le:H.next<=H'.next
 same:∀ c,c<H.next->c≠b->H'.get c=H.get c
section
variable {b:Nat} {H0 H H' H'':Heap}
def Kx.of (h:Kp H H'):Kx b H H':=⟨h.wf0,h.wf,h.le,fun c hc _=>h.same c hc⟩
def Kx.trans (h:Kx b H H') (h':Kx b H' H''):Kx b H H'':=⟨h.wf0,h'.wf,Vn h.le h'.le,fun c hc hb=>(h'.same c (Vq hc h.le) hb).trans (h.same c hc hb)⟩
def Kx.put (h:Kx b H H') (hb:b<H'.next) (e:Ent):Kx b H (H'.put b e):=⟨h.wf0,h.wf.put hb e,h.le,fun c hc hne=>by rw [az hne]; exact h.same c hc hne⟩
def Kx.up (h:Kx b H H') (k:Nat):Kx b H (H'.up k):=⟨h.wf0,h.wf.bump k,Vn h.le (VH _ _),h.same⟩
def Kx.kp (h:Kx b H H') (hk:Kp H0 H) (hb:H0.next<=b):Kp H0 H':=⟨hk.wf0,h.wf,Vn hk.le h.le,fun c hc=>(h.same c (Vq hc hk.le) zO).trans (hk.same c hc)⟩
def Kx.get (h:Kx b H H') {c:Nat} {e:Ent} (hc:H.get c=some e) (hb:c≠b):H'.get c=some e:=(h.same c (h.wf0 _ _ hc) hb).trans hc
def Kx.subT (h:Kx b H H') {tys:List Nat} {cs:List AV} {ty:Nat} {r:Bool} (hb:H.get b=some (.cells cs ty r)) (ht:ty ∉ tys):SubT tys H H':=fun c ds t r' hm hc=>h.get hc fun e=>by
 subst e; rw [hb] at hc; cases hc; exact ht hm
end
theorem Ud (a b c d:AV) (l:List AV):aY (a :: b :: c :: d :: l) 3 none=some d:=rfl
theorem UA (a b c d e f:AV) (l:List AV):aY (a :: b :: c :: d :: e :: f :: l) 5 none=some f:=rfl
def Nu (z:Int):(0<ik z) ↔ 0<z:=by unfold ik; split <;> (try split) <;> omega
def AW {H:Heap} {z:Bool × List Nat} {w:AV} (hb:mP z=false) (hl:Lim z.2) (h:Lb H w z.2):IntV H (.agg [.bool z.1,w]) (ct z):=by
 have e:=Ct hb hl;have e1:decide (ct z<0)=z.1:=congrArg Prod.fst e;have e2:ag (ct z).natAbs=z.2:=congrArg Prod.snd e;refine ⟨w,by rw [e1],?_⟩;show Lb H w (ag (ct z).natAbs);rw [e2]; exact h
def xy (n:Bool) (z:Bool × List Nat):Bool:=if n then !z.1 && decide (z.2.length=0) else !mP z
def mE (n:Bool) (z:Bool × List Nat) (n':Bool) (z':Bool × List Nat):Bool:=xy n z && xy n' z' && (n || n' || decide (ct z<=ct z'))
def TQ {a b c:AV} (ha:One a) (hb:One b) (hc:One c):fJ (.agg [a,b,c])=some [a,b,c]:=Rl ha hb hc
def OZ {a b c d e f:AV} (ha:One a) (hb:One b) (hc:One c) (hd:One d) (he:One e) (hf:One f):fJ (.agg [a,b,c,d,e,f])=some [a,b,c,d,e,f]:=by
 simp [fJ,AV.cells,ha.2,hb.2,hc.2,hd.2,he.2,hf.2]
def Fa (a b c:AV) (l:List AV):aY (a :: b :: c :: l) 0 (some 3)=some (.agg [a,b,c]):=by simp [aY]
theorem wO (a b c d e f:AV):aY [a,b,c,d,e,f] 3 (some 3)=some (.agg [d,e,f]):=rfl
theorem E9 (a b c d e f:AV):aY [a,b,c,d,e,f] 0 (some 6)=some (.agg [a,b,c,d,e,f]):=rfl
def BX (a b c:AV) (l:List AV):aY (a :: b :: c :: l) 1 (some 2)=some (.agg [b,c]):=by simp [aY]
theorem Uc (a b c d e f:AV):aY [a,b,c,d,e,f] 4 (some 2)=some (.agg [e,f]):=rfl
section
variable {tab:Nat->Option aA} {H:Heap}
def JL (C:Code tab) (hw:Wf H) {n:Bool} {z:Bool × List Nat} {w:AV} (hz:Lb H w z.2) (hbig:z.2.length<4611686018427387904) :
  Ans tab (.fn xo [.agg [.bool n,.bool z.1,w]]) H fun v H'=>v=.bool (xy n z)/\Kp H H':=by
 obtain ⟨b,l⟩:=z;have ow:=hz.one;have bx:=TQ (am n) (am b) ow;refine cR C.q50 zU fun T hl g0=>?_;cases n with
 | true =>
  have q:((l.length:Int)=0) ↔ l.length=0:=zO;cases b with
  | true =>
   refine zW (aQ hl g0 bx @BX) ?_;exact ⟨by simp [xy],zK⟩
  | false =>
   refine zW (bA hl g0 bx @BX hz.lenV) ?_;exact ⟨by simp [xy,q],zK⟩
 | false =>
  refine zW (aQ hl g0 bx @BX) ?_;refine AnsH.eq (xZ C zF (hz.mono (zG H)) hbig) fun H2 hk2=>?_;obtain ⟨k2,_,_⟩:=zT H zK hk2;cases hb:mP (b,l) with
  | true =>
   have e:(if true=true then (8:Int) else 0)=8:=rfl;refine zW (aE hl g0 e) ?_;exact ⟨by simp [xy,hb],zK⟩
  | false =>
   have e:(if false=true then (8:Int) else 0)=0:=rfl;refine zW (aE hl g0 e) ?_;exact ⟨by simp [xy,hb],zK⟩
set_option maxHeartbeats 1000000 in
def LA (C:Code tab) (hw:Wf H) {n n':Bool} {z z':Bool × List Nat} {w w':AV} (hz:Lb H w z.2) (hz':Lb H w' z'.2) (hl1:Lim z.2) (hl2:Lim z'.2) (hb1:z.2.length<=1048576) (hb2:z'.2.length<=1048576) :
  Ans tab (.fn ri [.agg [.bool n,.bool z.1,w,.bool n',.bool z'.1,w']]) H fun v H'=>v=.int .i64 (if mE n z n' z' then 0 else 8)/\Kp H H':=by
 have ow:=hz.one;have ow':=hz'.one;have bx:=OZ (am n) (am z.1) ow (am n') (am z'.1) ow';refine cR C.q24 zU fun T hl g0=>?_;refine zW (aQ hl g0 bx @Fa) ?_;refine AnsH.eq (JL C zF (hz.mono (zG H)) zO) fun H2 hk2=>?_;obtain ⟨k2,_,w2⟩:=zT H zK hk2;have d2:H2.get H.next=some (.cells [.bool n,.bool z.1,w,.bool n',.bool z'.1,w'] br true):=hk2.get (cH)
 cases hm:xy n z with
 | false =>
  refine zW (aQ hl g0 d2 @wO) ?_;exact ⟨by simp [mE,hm],zK⟩
 | true =>
 refine zW (aQ hl g0 d2 @wO) ?_;refine AnsH.eq (JL C zF ((hz'.mono k2.sub).mono (zG H2)) zO) fun H3 hk3=>?_;obtain ⟨k3,_,w3⟩:=zT H zK hk3;have d3:H3.get H.next=some (.cells [.bool n,.bool z.1,w,.bool n',.bool z'.1,w'] br true):=hk3.get d2
 cases hm':xy n' z' with
 | false =>
  refine zW (aD hl g0) ?_;exact ⟨by simp [mE,hm,hm'],zK⟩
 | true =>
 cases n with
 | true =>
  refine zW (aQ hl g0 d3 @Ud) ?_;exact ⟨by simp [mE,hm,hm'],zK⟩
 | false =>
 cases n' with
 | true =>
  refine zW (aQ hl g0 d3 @Ud) ?_;exact ⟨by simp [mE,hm,hm'],zK⟩
 | false =>
 have hg1:mP z=false:=by simpa [xy] using hm
 have hg2:mP z'=false:=by simpa [xy] using hm'
 have i1:=AW hg1 hl1 hz;have i2:=AW hg2 hl2 hz';have s1:dJ (ct z):=(Dw hl1 hb1).sm zO;have s2:dJ (ct z'):=(Dw hl2 hb2).sm zO;refine zW (dL hl g0 d3 @Ud @BX @Uc) ?_;refine AnsH.eq (Ch C zF ((i1.mono k3.sub).mono (zG H3)) ((i2.mono k3.sub).mono (zG H3)) s1 s2) fun H4 hk4=>?_;have k4:Kp H H4:=k3.trans (Kp.trans zK hk4);have le_k4:=k4.le;by_cases hq:0<ik (ct z-ct z')
 ·refine zW (aE hl g0 hq) ?_;refine ⟨?_,zK⟩;rw [Nu] at hq;rw [if_neg];simp [mE]; omega
 ·refine zW (aE hl g0 hq) ?_;refine ⟨?_,zK⟩;rw [Nu] at hq;rw [if_pos];simp [mE,hm,hm']; omega
def PlcV (H:Heap) (v:AV) (be x:Int):Prop:=∃ p,v=.agg [.int .i64 be,.bool (decide (x<0)),p]/\bJ H p x.natAbs
def ItvV (H:Heap) (v:AV) (n:Bool) (x:Int) (n':Bool) (y:Int):Prop:=∃ p q,v=.agg [.bool n,.bool (decide (x<0)),p,.bool n',.bool (decide (y<0)),q]/\bJ H p x.natAbs/\bJ H q y.natAbs
def ItvV.mono {H H':Heap} (hs:Sub H H') {v:AV} {n n':Bool} {x y:Int} (h:ItvV H v n x n' y):ItvV H' v n x n' y:=by
 obtain ⟨p,q,rfl,h1,h2⟩:=h;exact ⟨p,q,rfl,h1.mono hs,h2.mono hs⟩
def PlcV.mono {H H':Heap} (hs:Sub H H') {v:AV} {be x:Int} (h:PlcV H v be x):PlcV H' v be x:=by
 obtain ⟨p,rfl,h1⟩:=h;exact ⟨p,rfl,h1.mono hs⟩
def Jt (H:Heap):bJ H .nilSl 0:=by
 show Lb H .nilSl (ag 0);rw [V6 (l:=ag 0) (by have:=bI 0; omega)];exact SlV.nil _ _ _
end
end Go.Proofs.YteaefaohjlmjdaaGreat.Ev
namespace Go.Proofs.YteaefaohjlmjdaaGreat.Lin
def mvR (x:Nat) (a:V) (z:Int) (r:V):V:=r.set (x+1) (dot a r+hd1 r*z)
def mvG (x:Nat) (a:V) (z:Int) (g:Nat × V):Nat × V:=(g.1,mvR x a z g.2)
def bkC (x:Nat) (a:V) (c:V × Bool):V × Bool:=(mix 1 (c.1.set (x+1) 0) (c.1.getD (x+1) 0) a,c.2)
def JX:∀ (c r:V) (i:Nat) (z:Int),c.length=r.length->i<c.length->dot c (r.set i z)=dot (c.set i 0) r+c.getD i 0*z
 | [],_,i,z,_,h=>by simp at h
 | c :: cs,[],i,z,h,_=>by simp at h
 | c :: cs,r :: rs,0,z,h,_=>by simp [dot]; omega
 | c :: cs,r :: rs,i+1,z,h,hi=>by
  have:=JX cs rs i z (by simpa using h) (by simpa using hi)
  simp only [Z8,dot,WI,this];omega
theorem Ot (r:V) (x:Nat) (z:Int):hd1 (r.set (x+1) z)=hd1 r:=by cases r <;> rfl
def Jw (x:Nat) (a:V) (z:Int) (r:V):(mvR x a z r).length=r.length:=by simp [mvR]
def D7 (x:Nat) (a:V) (z:Int) (r:V):hd1 (mvR x a z r)=hd1 r:=Ot _ _ _
section
variable {n x:Nat} {a:V}
def ST {c r:V} {b:Bool} (hc:c.length=n+1) (hr:r.length=n+1) (ha:a.length=n+1) (hx:x<n):dot (bkC x a (c,b)).1 r=dot c (mvR x a 0 r):=by
 unfold bkC mvR;rw [JX c r _ _ zO zO];simp only;rw [dot_comm,aT _ _ _ (by rw [U4,hc,ha]),dot_comm r,dot_comm r a,Int.one_mul,Y6,Int.add_zero]
def FS {c:V × Bool} {g:Nat × V} (hc:c.1.length=n+1) (hr:g.2.length=n+1) (ha:a.length=n+1) (hx:x<n):keepsP (bkC x a c) g=keepsP c (mvG x a 0 g):=by
 obtain ⟨c,b⟩:=c
 have:=ST (b:=b) hc hr ha hx
 unfold keepsP;rw [this]; rfl
def bk_len {c:V × Bool} (hc:c.1.length=n+1) (ha:a.length=n+1):(bkC x a c).1.length=n+1:=mix_length (by rw [U4,hc]) ha
def bk_rows {K:List (V × Bool)} (hK:∀ c∈K,c.1.length=n+1) (ha:a.length=n+1):∀ c∈K.map (bkC x a),c.1.length=n+1:=fun c hc=>by
 obtain ⟨d,hd,rfl⟩:=Va.1 hc;exact bk_len (hK d hd) ha
def mv_valid {G:List (Nat × V)} {z:Int} (h:ValidG n G):ValidG n (G.map (mvG x a z)):=fun y hy=>by
 obtain ⟨g,hg,rfl⟩:=Va.1 hy;obtain ⟨h1,h2,h3⟩:=h g hg;exact ⟨by show (mvR x a z g.2).length=_; rw [Jw,h1],fun e=>by show 0<hd1 (mvR x a z g.2); rw [D7]; exact h2 e,fun e=>by show hd1 (mvR x a z g.2)=0; rw [D7]; exact h3 e⟩
def N5 (G:List (Nat × V)) (z:Int):(G.map (mvG x a z)).any (fun y=>y.1 == 3)=G.any fun y=>y.1 == 3:=by
 rw [List.any_map]; rfl
def N4 {G:List (Nat × V)} {z:Int} (h:G=[]\/G.any (fun y=>y.1 == 3)=true):G.map (mvG x a z)=[]\/(G.map (mvG x a z)).any (fun y=>y.1 == 3)=true:=by
 rcases h with h | h
 ·exact .inl (by rw [h]; rfl)
 ·exact .inr (by rw [N5]; exact h)
def KK {g:List (Nat × V)} (hg:ValidG n g) (h3:g.any (fun y=>y.1 == 3)=true) {y:Nat × V} (hy:y∈g) {c:V × Bool} (hc:c∈consP n g):keepsP c y=true :=
 jd (se hc) (lO hg h3 hy).1 (lO hg h3 hy).2
def back_in1 {K:List (V × Bool)} (hK:∀ c∈K,c.1.length=n+1) (ha:a.length=n+1) (hx:x<n) :
  inP (gensP n (consP n ((gensP n (K.map (bkC x a))).map (mvG x a 0)))) K=true:=by
 have hB:=bk_rows (x:=x) hK ha;have hv:=yo hB;have hp:gensP n (K.map (bkC x a))=[]\/(gensP n (K.map (bkC x a))).any (fun y=>y.1 == 3)=true:=by
  by_cases e:gensP n (K.map (bkC x a))=[]
  ·exact .inl e
  ·exact .inr (Au e)
 rw [P7 (mv_valid hv) (N4 hp) hK,inP_iff];intro y hy c hc;obtain ⟨g,hg,rfl⟩:=Va.1 hy;rw [<- FS (hK c hc) (hv g hg).1 ha hx];exact poly_keeps hB hg (.inl (Va.2 ⟨c,hc,rfl⟩))
def back_in2 {K:List (V × Bool)} {G:List (Nat × V)} (o:Own n K G) (ha:a.length=n+1) (hx:x<n) :
  inP G (consP n (gensP n ((consP n (G.map (mvG x a 0))).map (bkC x a))))=true:=by
 have hv:=o.valid;have hq:=mv_valid (x:=x) (a:=a) (z:=0) hv;have hQ:=jh (n:=n) fun y hy=>(hq y hy).1;have hR:=bk_rows (x:=x) hQ ha;have e:=Lin.in_iff (n:=n) (l:=K) o.rows hR;rw [o.gens] at e;rw [e];by_cases hG:G=[]
 ·exact .inl hG
 refine .inr fun y hy=>?_;have h3:=o.point hG;refine vC hy fun c hc=>?_;obtain ⟨d,hd,rfl⟩:=Va.1 hc;refine (pk o.rows (by rw [o.gens]; exact hG)).1 fun g hg=>?_;rw [o.gens] at hg;rw [FS (hQ d hd) (hv g hg).1 ha hx];exact KK hq (by rw [N5]; exact h3) (Va.2 ⟨g,hg,rfl⟩) hd
end
end Go.Proofs.YteaefaohjlmjdaaGreat.Lin
namespace Go.Proofs.YteaefaohjlmjdaaGreat.Ev
open Go Nn
def j8 (n:Nat) (x:Int):Int:=if x<0\/(n:Int)<=x then 2 else 0
def jY (n:Nat) (l:List (Bool × List Nat)):Int:=if wW l then (if l.length≠n+1 then 70 else 0) else 8
section
variable {tab:Nat->Option aA} {H:Heap} {s:AV}
def Dg (C:Code tab) (hw:Wf H) {l:List Int} (hs:RowV H s l) (h0:0<l.length) (hbig:l.length<1099511627776):Ans tab (.fn cP [s]) H fun v H'=>Kp H H'/\∃ b,Own intE aa H H' b false v l:=by
 refine cR C.q19 zU fun T hl g0=>?_;rcases hs.nilcase with ⟨rfl,rfl⟩ | hne
 ·simp at h0
 ·have ef:cG ([]:List AV) []=some []:=rfl;refine zW (aQ hl g0 hne ef) ?_;have k1:Kp H ((H.up 7).put (H.next+3) (.cells [] aa true)):=zK;have le_k1:=k1.le;have hO:Own intE aa H ((H.up 7).put (H.next+3) (.cells [] aa true)) (H.next+3) true (.own (H.next+3) 0 0 0 2 true) ([]:List Int):=⟨_,rfl,ap _ _ _,Cells.nil _ _,zO⟩
  obtain ⟨v',H2,e1,h2,hk2,hn2,hs2,ho⟩:=SlV.app (l:=[]) (id:=H.next+5) (bytes:=32) hO.sl k1 (hs.mono k1.sub) zO (by show _<H.next+7; omega) (by rw [az zO]; exact hw.fresh (b:=H.next+5) zO) (by simp; omega) (by simp; omega);have e1':dI ((H.up 7).put (H.next+3) (.cells [] aa true)) (H.next+5) 2 32 aa (.own (H.next+3) 0 0 0 2 true) s=some (v',H2):=e1;refine zW (aE hl g0 e1') ?_;exact ⟨hk2,_,ho h0⟩
def oo (C:Code tab) (hw:Wf H) {v:AV} {n e f:Nat} {K:List (List Int × Bool)} {G:List (Nat × List Int)} {x:Int} (hp:PolyV H v n K G) (ho:PolyOK n e f K G) :
  Ans tab (.fn kQ [v,.int .i64 x]) H fun r H'=>r=.int .i64 (j8 n x)/\Kp H H':=by
 obtain ⟨vc,vg,rfl,hC,hg⟩:=hp;have oc:=hC.one;have og:=hg.one;refine bB C.q17 zU fun T hl g0 g1=>?_;refine zW (aQ hl g0 g1 (kU oc og)) ?_;refine AnsH.eq (Av C zF ⟨vc,vg,rfl,hC.mono (zG H),hg.mono (zG H)⟩ ho) fun H2 hk2=>?_;obtain ⟨k2,_,_⟩:=zT H zK hk2;have d0:H2.get H.next=some (.cells [.int .i64 (n:Int),vc,vg] ak true):=hk2.get (cH)
 unfold j8;by_cases h1:x<0
 ·rw [if_pos (.inl h1)];refine zW (dL hl g0 g1 g1 d0 h1) ?_;exact zK
 ·by_cases h2:(n:Int)<=x
  ·rw [if_pos (.inr h2)];refine zW (fy hl g0 g1 g1 d0 h1 h2) ?_;exact zK
  ·rw [if_neg zO];refine zW (fy hl g0 g1 g1 d0 h1 h2) ?_;exact zK
def ry (C:Code tab) (hw:Wf H) {v w:AV} {n:Nat} {K:List (List Int × Bool)} {G:List (Nat × List Int)} {l:List (Bool × List Nat)} (hp:PolyV H v n K G) (hn:n<=60) (hs:SlV rawE aa H w l) (hbig:rV l) :
  Ans tab (.fn nW [v,w]) H fun r H'=>r=.int .i64 (jY n l)/\Kp H H':=by
 obtain ⟨vc,vg,rfl,hC,hg⟩:=hp;have oc:=hC.one;have og:=hg.one;refine bB C.q18 zU fun T hl g0 g1=>?_;refine zW (aQ hl g0 g1 (kU oc og)) ?_;refine AnsH.eq (oD C zF (hs.mono (zG H)) hbig) fun H2 hk2=>?_;obtain ⟨k2,_,_⟩:=zT H zK hk2;have d0:H2.get H.next=some (.cells [.int .i64 (n:Int),vc,vg] ak true):=hk2.get (cH)
 have ew:IntKind.i64.wrap ((n:Int)+1)=((n+1:Nat):Int):=by rw [wrap_i64] <;> omega
 unfold jY;cases hk:wW l with
 | false =>
  have e:(if false=true then (0:Int) else 8)=8:=rfl;simp only [V3,if_false];refine zW (aE hl g0 g1) ?_;exact zK
 | true =>
  simp only [if_true];by_cases hlen:l.length≠n+1
  ·have q:¬ ((l.length:Int)=((n+1:Nat):Int)):=zO;rw [if_pos hlen];refine zW (iy hl g0 g1 g1 d0 hs.lenV ew q) ?_;exact zK
  ·have q:((l.length:Int)=((n+1:Nat):Int)):=zO;rw [if_neg hlen];refine zW (iy hl g0 g1 g1 d0 hs.lenV ew q) ?_;exact zK
def mf (n x:Nat) (k:Int):List Int:=(List.replicate (n+1) 0).set (x+1) k
def ux (C:Code tab) (hw:Wf H) {n x:Nat} {p k:Int} (hn:n<=60) (hx:x<n) (hk1 : -9223372036854775808<=k) (hk2:k<9223372036854775808) :
  Ans tab (.fn gO [.int .i64 (n:Int),.int .i64 (x:Int),.int .u8 p,.int .i64 k]) H fun v H'=>(∃ w,v=.agg [.int .u8 p,w]/\RowV H' w (mf n x k))/\Kp H H':=by
 obtain ⟨cells,hcells⟩:∃ cells,cells=(List.replicate (n+1) [AV.bool false,AV.nilSl]).flatten:=⟨_,rfl⟩
 have hmk:∀ H':Heap,Jy H' (H.next+3) aa 2 32 [.bool false,.nilSl] (.int .i64 ((n+1:Nat):Int)) (.int .i64 ((n+1:Nat):Int))=some (.own (H.next+3) 0 (n+1) (n+1) 2 true,H'.put (H.next+3) (.cells cells aa true)):=fun H'=>by rw [hcells]; exact jc _ _ _ _ _ _ _ _ _ zO zO rfl
 have ej:IntKind.i64.wrap ((n:Int)+1)=((n+1:Nat):Int):=by rw [wrap_i64] <;> omega
 have ex:IntKind.i64.wrap ((x:Int)+1)=((x+1:Nat):Int):=by rw [wrap_i64] <;> omega
 refine LJ C.q28 zU fun T hl g0 g1 g2 g3=>?_;refine zW (iy hl g0 g1 g2 g3 ej ex hmk) ?_;refine AnsH.use (iP C (n:=k) zF hk1 hk2) ?_;rintro v H2 ⟨⟨w,rfl,hn2⟩,hk2⟩;obtain ⟨k2,_,w2⟩:=zT H zK hk2;have ow:=hn2.one;have hb2:=hk2.get (b:=H.next+3) (e:=.cells cells aa true) (cH);have d2:H2.get H.next=some (.cells [.int .u8 0,.nilSl] ai true):=hk2.get (cH)
 have lt2:=w2 _ _ hb2;have hclen:cells.length=(n+1)*2:=by rw [hcells]; simp
 have hst:BY (some (.cells cells aa true)) 2 ((x+1)*2) (.agg [.bool (decide (k<0)),w])=some (.cells (cells.take ((x+1)*2)++[.bool (decide (k<0)),w]++cells.drop ((x+1)*2+2)) aa true):=gh (A4 (am _) ow) zO;have hio:cI 2 (.own (H.next+3) 0 (n+1) (n+1) 2 true) (.int .i64 ((x+1:Nat):Int))=some (.ptr (H.next+3) ((x+1)*2)):=by
  have:=ke (b:=H.next+3) (off:=0) (n:=n+1) (c:=n+1) (sz:=2) (x:=true) (k:=.i64) (j:=x+1) zO
  simpa using this
 obtain ⟨cells2,hc2⟩:∃ c,c=cells.take ((x+1)*2)++[.bool (decide (k<0)),w]++cells.drop ((x+1)*2+2):=⟨_,rfl⟩
 rw [<- hc2] at hst;have hz:intE.R H2 [.bool false,.nilSl] 0:=⟨.nilSl,by simp,eN H2⟩
 have hcl:Cells intE H2 cells (List.replicate (n+1) 0):=by rw [hcells]; exact oK hz _
 have hcl2:Cells intE H2 cells2 (mf n x k):=by rw [hc2]; exact hcl.set (i:=x+1) (by simp; omega) ⟨w,rfl,hn2⟩
 refine zW (qz hl g0 g1 g2 g3 hio hb2 hst d2 g2) ?_;have m3:NoTy [ae] H2 (H.next+3):=NoTy.ty hb2 zU;have m0:NoTy [ae] H2 H.next:=NoTy.ty d2 zU
 obtain ⟨Hx,hHx⟩:∃ Hx,Hx=((H2.up 4).put (H.next+3) (.cells cells2 aa true)).put H.next (.cells [.int .u8 p,.own (H.next+3) 0 (n+1) (n+1) 2 true] ai true):=⟨_,rfl⟩
 have hclx:Cells intE Hx cells2 (mf n x k):=by rw [hHx]; exact Cells.mono (E:=intE) zS hcl2
 have kx:Kp H Hx:=by rw [hHx]; exact zK
 have hlen:(mf n x k).length=n+1:=by unfold mf; simp
 have:Own intE aa H Hx (H.next+3) true (.own (H.next+3) 0 (n+1) (n+1) 2 true) (mf n x k):=⟨cells2,by rw [hlen]; rfl,by rw [hHx,az zO]; exact ap _ _ _,hclx,zO⟩
 rw [<- hHx];exact ⟨⟨_,rfl,this.sl⟩,kx⟩
end
section
variable {tab:Nat->Option aA} {H:Heap}
set_option maxHeartbeats 2000000 in
def yn (C:Code tab) (hw:Wf H) {va w vb:AV} {k n x e f m:Nat} {a r:List Int} {z:Int} (ha:RowV H va a) (hr:RowV H w r) (hz:IntV H vb z) (hal:a.length=n+1) (hrl:r.length=n+1) (hx:x<n) (hn:n<=60) (hae:∀ z∈a,Bt e z) (hrf:∀ z∈r,Bt f z) (hzm:Bt m z) (hbt:e+f+7<=100000000) (hbm:f+m<=100000000) :
  Ans tab (.fn io [.agg [.int .u8 (k:Int),w],.int .i64 (x:Int),va,vb]) H fun v H'=>(∃ w',v=.agg [.int .u8 (k:Int),w']/\RowV H' w' (Lin.mvR x a z r))/\Kp H H':=by
 obtain ⟨pz,rfl,hpz⟩:=hz;have oz:=hpz.one;have oa:=ha.one;have ow:=hr.one;refine BP C.q26 rfl rfl zU fun T hl g=>?_;have hl:T.length=47:=hl;have hrs:c_image_moved.results=[(8,some (some 2))]:=rfl;have g0:ad T 0=.agg [.int .u8 (k:Int),w]:=g 0 (by simp);have g1:ad T 1=.int .i64 (x:Int):=g 1 (by simp);have g2:ad T 2=va:=g 2 (by simp);have g3:ad T 3=.agg [.bool (decide (z<0)),pz]:=g 3 (by simp);clear g;refine aS ?_;refine zW (dL hl g0 g3 (BL ow) (OY (am (decide (z<0))) oz) @aC) ?_;obtain ⟨H1,hH1⟩:∃ X,X=(((H.up 3).put H.next (.cells [.int .u8 (k:Int),w] ai true)).put (H.next+1) (.cells [.bool (decide (z<0)),pz] aa true)).put (H.next+2) (.cells [.int .u8 0,.nilSl] ai true):=⟨_,rfl⟩
 have k1:Kp H H1:=by rw [hH1]; exact zK
 have le_k1:=k1.le;have w1:=k1.wf;have b0:H1.get H.next=some (.cells [.int .u8 (k:Int),w] ai true):=by rw [hH1,az zO,az zO,ap]
 have b1:H1.get (H.next+1)=some (.cells [.bool (decide (z<0)),pz] aa true):=by rw [hH1,az zO,ap]
 have b2:H1.get (H.next+2)=some (.cells [.int .u8 0,.nilSl] ai true):=by rw [hH1,ap]
 have n1:H1.next=H.next+3:=by rw [hH1]; rfl
 rw [<- hH1];clear hH1;refine jw (fun T'=>T'.length=47/\ad T' 1=.int .i64 (x:Int)/\ad T' 2=va/\ad T' 4=.ptr H.next 0/\ad T' 7=.ptr (H.next+1) 0/\ad T' 8=.ptr (H.next+2) 0) (zV (aE hl g1 g2)) ?_;clear hl g0 g1 g2 g3;rintro T ⟨hl,g1,g2,g4,g7,g8⟩;have hlen:a.length=r.length:=zO;have hdb:=oy hae hrf hlen zO;refine aS ?_;refine zW (aQ hl g2 g4 @b0) ?_;refine AnsH.use (pi C zF ((ha.mono k1.sub).mono (zG H1)) ((hr.mono k1.sub).mono (zG H1)) hlen zO hae hrf zO) ?_;rintro _ H2 ⟨_,rfl,⟨pn,rfl,hpn⟩,hk2⟩;obtain ⟨k2,_,w2⟩:=zT H1 zK hk2;have on:=hpn.one;have n2:H1.next+10<=H2.next:=hk2.le
 have f2:H2.get (H1.next+7)=none:=hk2.free (show H1.next+7<H1.next+10 by omega) (w1.fresh (b:=H1.next+7) zO);obtain ⟨D,hD⟩:∃ D,D=Lin.dot a r:=⟨_,rfl⟩
 rw [<- hD] at hpn hdb ⊢;obtain ⟨X2,hX2⟩:∃ X,X=(H2.put (H1.next+7) (.cells [.bool false,.nilSl] aa true)).put (H1.next+7) (.cells [.bool (decide (D<0)),pn] aa true):=⟨_,rfl⟩
 have sX2:Sub H2 X2:=by rw [hX2]; exact (aJ f2).put f2 _
 have kX2:Kp H1 X2:=by rw [hX2]; exact zK
 have e2:X2.get (H1.next+7)=some (.cells [.bool (decide (D<0)),pn] aa true):=by rw [hX2,ap]
 have hpn2:=hpn.mono sX2;have c0:=kX2.get b0;have c1:=kX2.get b1;have c2:=kX2.get b2;have hr2:=hr.mono (k1.trans kX2).sub;have hpz2:=hpz.mono (k1.trans kX2).sub;have wX2:=kX2.wf;refine zW (aD hl @aC) ?_;rw [<- hX2];refine jw (fun T'=>T'.length=47/\ad T' 1=.int .i64 (x:Int)/\ad T' 4=.ptr H.next 0/\ad T' 7=.ptr (H.next+1) 0/\ad T' 8=.ptr (H.next+2) 0/\ad T' 9=.ptr (H1.next+7) 0) (zV (bA hl g1 g4 g7 g8)) ?_;clear hl g1 g2 g4 g7 g8 hX2 f2 hk2 hpn;rintro T ⟨hl,g1,g4,g7,g8,g9⟩;have hpos:0<r.length:=zO;have er0:r[0]=Lin.hd1 r:=by
  cases r with
  | nil=>simp at hpos
  | cons _ _=>rfl
 have ix0:cI 2 w (.int .i64 0)=some (au w (0*2)):=SlV.idx hr2 .i64 0 hpos;obtain ⟨w0,hw0,ld0,-⟩:=je hr2 hpos;rw [er0] at hw0 ld0;have bt0:Bt f (Lin.hd1 r):=by rw [<- er0]; exact hrf _ (U9 hpos)
 refine aS ?_;refine aF ?_;refine zD (fy hl g4 g7 c0 @c1 ix0 ld0) ?_;refine AnsH.use (Cg C (x:=Lin.hd1 r) (y:=z) zF ⟨w0,rfl,hw0.mono (zG X2)⟩ ⟨pz,rfl,hpz2.mono (zG X2)⟩ (bt0.len zO) (hzm.len zO)) ?_;rintro _ H3 ⟨_,rfl,⟨pm,rfl,hpm⟩,hk3⟩;obtain ⟨M,hM⟩:∃ q,q=Lin.hd1 r*z:=⟨_,rfl⟩
 have hMb:Bt (f+m) M:=by rw [hM]; exact bt0.mul hzm
 rw [<- hM] at hpm ⊢;obtain ⟨k3,_,w3⟩:=zT X2 zK hk3;have om:=hpm.one;have n3:X2.next+12<=H3.next:=hk3.le
 have f3:H3.get (X2.next+9)=none:=hk3.free (show X2.next+9<X2.next+12 by omega) (wX2.fresh (b:=X2.next+9) zO);obtain ⟨X3,hX3⟩:∃ X,X=(H3.put (X2.next+9) (.cells [.bool false,.nilSl] aa true)).put (X2.next+9) (.cells [.bool (decide (M<0)),pm] aa true):=⟨_,rfl⟩
 have sX3:Sub H3 X3:=by rw [hX3]; exact (aJ f3).put f3 _
 have kX3:Kp X2 X3:=by rw [hX3]; exact zK
 have m3:X3.get (X2.next+9)=some (.cells [.bool (decide (M<0)),pm] aa true):=by rw [hX3,ap]
 have hpm3:=hpm.mono sX3;have wX3:=kX3.wf;have d0:=kX3.get c0;have d2:=kX3.get c2;have e3:=kX3.get e2;have hpn3:=hpn2.mono kX3.sub;have hr3:=hr2.mono kX3.sub;have c0':=k3.get c0;have c1':=k3.get c1;have ld0':=bE k3.sub ld0;refine zD (iO hl g4 g7 c0 @c1 c0' c1' ix0 ld0 ld0' @aC) ?_;rw [<- hX3];refine jw (fun T'=>T'.length=47/\ad T' 1=.int .i64 (x:Int)/\ad T' 4=.ptr H.next 0/\ad T' 8=.ptr (H.next+2) 0/\ad T' 9=.ptr (H1.next+7) 0/\ad T' 11=.ptr (X2.next+9) 0) (zE (bA hl g1 g4 g8 g9)) ?_;clear hl g1 g4 g7 g8 g9 hX3 f3 hk3 hpm c0' c1' ld0';rintro T ⟨hl,g1,g4,g8,g9,g11⟩;refine aS ?_;refine zW (aE hl g4 d0) ?_;refine AnsH.use (Dg C zF (hr3.mono (zG X3)) hpos zO) ?_;rintro v4 H4 ⟨hk4,b4,cells,rfl,hb4,hcl4,hge4⟩;obtain ⟨k4,_,w4⟩:=zT X3 zK hk4;have i0:=k4.get d0;have i2:=k4.get d2;have i9:=k4.get e3;have i11:=k4.get m3;have hpn4:=hpn3.mono k4.sub;have hpm4:=hpm3.mono k4.sub;have hge:X3.next<=b4:=by have:X3.next+4<=b4:=hge4; omega
 refine zW (aD hl @aC) ?_;refine jw (fun T'=>T'.length=47/\ad T' 1=.int .i64 (x:Int)/\ad T' 4=.ptr H.next 0/\ad T' 8=.ptr (H.next+2) 0/\ad T' 9=.ptr (H1.next+7) 0/\ad T' 11=.ptr (X2.next+9) 0/\ad T' 13=.own b4 0 r.length r.length 2 false) (by refine zW (dL hl g1 g4 g8 g9 g11) ?_; rfl) ?_;clear hl g1 g4 g8 g9 g11;rintro T ⟨hl,g1,g4,g8,g9,g11,g13⟩;have ex:IntKind.i64.wrap ((x:Int)+1)=((x+1:Nat):Int):=by rw [wrap_i64] <;> omega
 have hio:cI 2 (.own b4 0 r.length r.length 2 false) (.int .i64 ((x+1:Nat):Int))=some (.ptr b4 ((x+1)*2)):=by
  have:=ke (b:=b4) (off:=0) (n:=r.length) (c:=r.length) (sz:=2) (x:=false) (k:=.i64) (j:=x+1) zO
  simpa using this
 have hclen:cells.length=r.length*2:=hcl4.1;refine aS ?_;refine zW (iy hl g1 g9 g11 @g13 ex i9 i11) ?_;refine AnsH.use (Ci C (x:=D) (y:=M) zF ⟨pn,rfl,hpn4.mono (zG H4)⟩ ⟨pm,rfl,hpm4.mono (zG H4)⟩ (hdb.sm zO) (hMb.sm zO)) ?_;rintro _ H5 ⟨_,rfl,⟨ps,rfl,hps⟩,hk5⟩;obtain ⟨S,hS⟩:∃ q,q=D+M:=⟨_,rfl⟩
 rw [<- hS] at hps ⊢;obtain ⟨k5,_,w5⟩:=zT H4 zK hk5;have os:=hps.one;have hb5:=k5.get hb4;have j0:=k5.get i0;have j2:=k5.get i2;have lt5:=w5 _ _ hb5;have hst:BY (some (.cells cells aa true)) 2 ((x+1)*2) (.agg [.bool (decide (S<0)),ps])=some (.cells (cells.take ((x+1)*2)++[.bool (decide (S<0)),ps]++cells.drop ((x+1)*2+2)) aa true):=gh (A4 (am _) os) zO;obtain ⟨cells2,hc2⟩:∃ c,c=cells.take ((x+1)*2)++[.bool (decide (S<0)),ps]++cells.drop ((x+1)*2+2):=⟨_,rfl⟩
 rw [<- hc2] at hst;have hcl2:Cells intE H5 cells2 (r.set (x+1) S):=by rw [hc2]; exact (Cells.mono (E:=intE) (k5.sub.t _) hcl4).set (i:=x+1) zO ⟨ps,rfl,hps⟩
 have kk5:Kp H H5:=k1.trans (kX2.trans (kX3.trans (k4.trans k5)));have lX3:H.next+3<=X3.next:=by have:=kX2.le; have:=kX3.le; omega
 refine zW (dL hl @g13 hio hb5 hst @aC) ?_;refine aS ?_;refine zW (fy hl g4 g8 @g13 j0 j2 @aC) ?_;refine WC.wb ?_;refine zW (aE hl g8 hrs) ?_;have m4:NoTy [ae] H5 b4:=NoTy.ty hb5 zU;have m2:NoTy [ae] H5 (H.next+2):=NoTy.ty j2 zU;obtain ⟨Hx,hHx⟩:∃ Hx,Hx=((H5.up 5).put b4 (.cells cells2 aa true)).put (H.next+2) (.cells [.int .u8 (k:Int),.own b4 0 r.length r.length 2 false] ai true):=⟨_,rfl⟩
 have er:Lin.mvR x a z r=r.set (x+1) S:=by unfold Lin.mvR; rw [hS,hM,<- hD]
 have hclx:Cells intE Hx cells2 (r.set (x+1) S):=by rw [hHx]; exact Cells.mono (E:=intE) zS hcl2
 have lt2:=w5 _ _ j2;have kx:Kp H Hx:=by rw [hHx]; exact zK
 have:Own intE aa H Hx b4 false (.own b4 0 r.length r.length 2 false) (r.set (x+1) S):=⟨cells2,by rw [U4]; rfl,by rw [hHx,az zO]; exact ap _ _ _,hclx,zO⟩
 rw [<- hHx,er];exact ⟨⟨_,rfl,this.sl⟩,kx⟩
end
def fG (n:Bool) (lo:Int) (n':Bool) (hi:Int):List Int:=if n && n' then [0] else if n then [hi] else if n' || decide (lo=hi) then [lo] else [lo,hi]
section
variable {tab:Nat->Option aA} {H:Heap}
def Ir (C:Code tab) (hw:Wf H) {a b c d e f:AV} (ha:One a) (hb:One b) (hc:One c) (hd:One d) (he:One e) (hf:One f) :
  Ans tab (.fn pL [.agg [a,b,c,d,e,f]]) H fun v H'=>v=.fn (.func fD) [] [.ptr H.next 0]/\H'.get H.next=some (.cells [a,b,c,d,e,f] br true)/\H.next+1<=H'.next/\Kp H H':=by
 refine cR C.q27 zU fun T hl g0=>?_;refine zW (aE hl g0 (OZ ha hb hc hd he hf)) ?_;exact ⟨zO,zK⟩
set_option maxHeartbeats 1000000 in
def OC (C:Code tab) {H0:Heap} {lb ba:Nat} {n n':Bool} {lo hi:Int} {pl ph:AV} (J:Nat->Heap->Prop) (hk:Kp H0 H) (h0:J 0 H) (hmono:∀ k H H',Kp H H'->J k H->J k H')
  (hA:H.get ba=some (.cells [.bool n,.bool (decide (lo<0)),pl,.bool n',.bool (decide (hi<0)),ph] br true)) (hpl:bJ H pl lo.natAbs) (hph:bJ H ph hi.natAbs) (slo:dJ lo)
  (hr:∀ i z H p,(fG n lo n' hi)[i]? = some z->Kp H0 H->J i H->bJ H p z.natAbs->Ans tab (.round lb [.agg [.bool (decide (z<0)),p]]) H fun v H'=>v=.bool true/\Kp H0 H'/\J (i+1) H'/\SubT [bj,ae] H H') :
  Ans tab (.ent fD [.loopv lb,.ptr ba 0]) H fun _ H'=>Kp H0 H'/\J (fG n lo n' hi).length H':=by
 have hw:=hk.wf;have opl:=hpl.one;have oph:=hph.one;have hlt:=hw _ _ hA;have f4:H.get (H.next+4)=none:=hw.fresh zO;have f5:H.get (H.next+5)=none:=hw.fresh zO;have sX:∀ k,Sub H (((((H.up (k+8)).put (H.next+4) (.cells [.bool false,.bool false,.nilSl] bj true)).put (H.next+5) (.cells [.bool false,.bool false,.nilSl] bj true)).put (H.next+4) (.cells [.bool n,.bool (decide (lo<0)),pl] bj true)).put (H.next+5) (.cells [.bool n',.bool (decide (hi<0)),ph] bj true)):=fun k=>((((Sub.bump H (k+8)).put f4 _).put f5 _).put f4 _).put f5 _;have kX:∀ k,Kp H (((((H.up (k+8)).put (H.next+4) (.cells [.bool false,.bool false,.nilSl] bj true)).put (H.next+5) (.cells [.bool false,.bool false,.nilSl] bj true)).put (H.next+4) (.cells [.bool n,.bool (decide (lo<0)),pl] bj true)).put (H.next+5) (.cells [.bool n',.bool (decide (hi<0)),ph] bj true)):=fun k=>by
  have n4:H.next+8<=(H.up (k+8)).next:=by show _<=H.next+(k+8); omega
  refine (((((Kp.refl hw).up (k+8)).put ?_ ?_).put ?_ ?_).put ?_ ?_).put ?_ ?_
  all_goals (first | omega | (simp only [next_put]; omega))
 have hX0:∀ k,J 0 (((((H.up (k+8)).put (H.next+4) (.cells [.bool false,.bool false,.nilSl] bj true)).put (H.next+5) (.cells [.bool false,.bool false,.nilSl] bj true)).put (H.next+4) (.cells [.bool n,.bool (decide (lo<0)),pl] bj true)).put (H.next+5) (.cells [.bool n',.bool (decide (hi<0)),ph] bj true)):=fun k=>hmono _ _ _ (kX k) h0;have z0:decide ((0:Int)<0)=false:=rfl;refine SI C.q55 zU fun T hl g0 g1=>?_;refine uH ?_;refine aF ?_;cases n with
 | true =>
  cases n' with
  | true =>
   refine zD (fy hl g0 g1 hA @Fa @wO @mY) ?_;refine AnsH.eq (hr 0 0 _ .nilSl (by simp [fG]) (hk.trans (kX _)) (hX0 _) (Jt _)) fun H2 h2=>?_;refine zD (aE hl g0 g1) ?_;exact ⟨h2.1,h2.2.1⟩
  | false =>
   refine zD (iy hl g0 g1 hA @Fa @wO @mY @BX) ?_;refine AnsH.eq (hr 0 hi _ ph (by simp [fG]) (hk.trans (kX _)) (hX0 _) (hph.mono (sX _))) fun H2 h2=>?_;refine zD (aE hl g0 g1) ?_;exact ⟨h2.1,h2.2.1⟩
 | false =>
  cases n' with
  | true =>
   refine zD (iy hl g0 g1 hA @Fa @wO @mY @BX) ?_;refine AnsH.eq (hr 0 lo _ pl (by simp [fG]) (hk.trans (kX _)) (hX0 _) (hpl.mono (sX _))) fun H2 h2=>?_;refine zD (aE hl g0 g1) ?_;exact ⟨h2.1,h2.2.1⟩
  | false =>
   refine zD (iy hl g0 g1 hA @Fa @wO @mY @BX) ?_;refine AnsH.eq (zw C (x:=lo) (y:=hi) (kX _).wf ⟨pl,rfl,hpl.mono (sX _)⟩ ⟨ph,rfl,hph.mono (sX _)⟩ slo) fun H2 hk2=>?_;have k2:Kp H H2:=(kX _).trans hk2;have le_k2:=k2.le;have b3:H2.get (H.next+4)=some (.cells [.bool false,.bool (decide (lo<0)),pl] bj true):=hk2.get (cH);have b4:H2.get (H.next+5)=some (.cells [.bool false,.bool (decide (hi<0)),ph] bj true):=hk2.get (cH);have hpl2:∀ k,bJ (H2.up k) pl lo.natAbs:=fun k=>(hpl.mono k2.sub).mono (Sub.bump H2 k);have hph2:=hph.mono k2.sub;cases ed:decide (lo=hi) with
   | true =>
    refine zD (bA hl g0 b3 @b4 @BX) ?_;refine AnsH.eq (hr 0 lo _ pl (by unfold fG; rw [ed]; rfl) (hk.trans (k2.up _)) (hmono _ _ _ (k2.up _) h0) (hpl2 _)) fun H3 h3=>?_;have el:(fG false lo false hi).length=1:=by unfold fG; rw [ed]; rfl
    rw [el];refine zD (aE hl g0 g1) ?_;exact ⟨h3.1,h3.2.1⟩
   | false =>
    refine zD (bA hl g0 b3 @b4 @BX) ?_;refine AnsH.eq (hr 0 lo _ pl (by unfold fG; rw [ed]; rfl) (hk.trans (k2.up _)) (hmono _ _ _ (k2.up _) h0) (hpl2 _)) fun H3 h3=>?_;have w3:=h3.1.wf;have c4:=h3.2.2 _ _ _ _ (by simp) (show (H2.up 10).get (H.next+5)=_ from b4);have hph3:bJ H3 ph hi.natAbs:=SlV.monoT (E:=bS cj) (fun b cs t r ht hb=>h3.2.2 b cs t r (by rcases VA.1 ht with rfl | h; exact Vd _ (V7.2 rfl); cases h) hb) (hph2.mono (Sub.bump H2 10));refine zD (aQ hl g0 c4 @BX) ?_;refine AnsH.eq (hr 1 hi _ ph (by unfold fG; rw [ed]; rfl) h3.1 h3.2.1 hph3) fun H4 h4=>?_;have el:(fG false lo false hi).length=2:=by unfold fG; rw [ed]; rfl
    rw [el];refine zD (aE hl g0 g1) ?_;exact ⟨h4.1,h4.2.1⟩
def Em (C:Code tab) (hw:Wf H) {H0:Heap} {b k:Nat} {v w:AV} {l:List (Nat × List Int)} {r:List Int} (hk:Kp H0 H) (hb0:H0.next<=b) (hb:H.get b=some (.cells [v] fc true)) (hbl:Bl genE ai H0 H v l) (hr:RowV H w r) (hlen:l.length<1000) :
  Ans tab (.fn eP [.agg [.int .u8 (k:Int),w],.ptr b 0]) H fun _ H'=>(∃ v',H'.get b=some (.cells [v'] fc true)/\Bl genE ai H0 H' v' (l++[(k,r)])/\∀ c,gY v'=some c->H.next<=c)/\Kp H0 H'/\(∀ c e,H.get c=some e->c≠b->gY v≠some c->H'.get c=some e)/\H.next<=H'.next:=by
 have ow:=hr.one;have ov:=hbl.sl.one;have hlt:=hw _ _ hb;refine bB C.q25 zU fun T hl g0 g1=>?_;obtain ⟨Hb,hHb⟩:∃ X,X=(H.up 1).put H.next (.cells [.int .u8 (k:Int),w] ai true):=⟨_,rfl⟩
 have kHb:Kp H Hb:=by rw [hHb]; exact zK
 have nHb:Hb.next=H.next+1:=by rw [hHb]; rfl
 obtain ⟨n,H2,e1,bl2,k2,n2,f2,-⟩:=Bl.push1 (id:=H.next+4) (id2:=H.next+3) (k:=5) (bytes:=32) (ty2:=ai) (hbl.mono kHb.sub) zU (hk.trans kHb) (show genE.R Hb [.int .u8 (k:Int),w] (k,r) from ⟨w,rfl,hr.mono kHb.sub⟩) zO zO zO zO zO zO zO;have e1:dI (((H.up 6).put H.next (.cells [.int .u8 (k:Int),w] ai true)).put (H.next+3) (.cells [.int .u8 (k:Int),w] ai true)) (H.next+4) 2 32 ai v (.own (H.next+3) 0 1 1 2 true)=some (.own (H.next+4) 0 n n 2 false,H2):=by
  have:=e1
  rw [hHb] at this;exact this
 have b2:H2.get b=some (.cells [v] fc true):=f2 b _ (kHb.get hb) (by
  intro e;rcases hbl with ⟨rfl,-⟩ | ⟨b',cells,rfl,hb',-,-⟩
  ·cases e
  ·cases e; rw [hb] at hb'; cases hb')
 have w2:=k2.wf;have hfgx:=Oy (p:=.int .u8 0) (q:=.nilSl) (bp .u8 (k:Int)) ow;refine zW (jW hl g0 g1 (BL ow) hb hfgx e1 b2 @bP) ?_;have lt2:=w2 _ _ b2;refine ⟨⟨_,rfl,bl2.put (fun m e=>by cases e; omega) (SubT.put_ty b2 zU),fun c e=>by cases e; omega⟩,k2.put hb0 lt2,fun c e hc h1 h2=>?_,zO⟩;rw [az h1];exact f2 c e (kHb.get hc) h2
end
section
open Lin
variable {n m:Nat}
def Ji {d m:Nat} (hd:d<=4):(2*d*2^m)^2^d<=2^(16*(m+4)):=by
 have h1:2*d*2^m<=2^(m+4):=by
  rw [VZ,Vt (2^m)];exact Vl _ zO
 have h2:2^d<=2^4:=Vx (by decide) hd;have h3:2^d*(m+4)<=16*(m+4):=Vl _ h2
 calc (2*d*2^m)^2^d<=(2^(m+4))^2^d:=WX h1 _
  _=2^((m+4)*2^d):=(Ym ..).symm
  _<=2^(16*(m+4)):=Vx (by decide) (by rw [Vt]; exact h3)
def Ro {a b:Nat} {x:V} (h:Bd a x) (hab:a<=b):Bd b x:=fun i=>Vn (h i) hab
def E6 {d:Nat} {E I:List V} (hd0:0<d) (hd:d<=4) (hE:∀ a∈E,a.length=d/\Bd (2^m) a) (hI:∀ a∈I,a.length=d/\Bd (2^m) a) :
  (∀ l∈gensL d E I,Bd (2^(16*(m+4))) l)/\(∀ r∈gensR d E I,Bd (2^(16*(m+4))) r):=by
 have t:=gens_told (d:=d) (fun a ha=>(hE a ha).1) (fun a ha=>(hI a ha).1);obtain ⟨c1,c2⟩:=told_bd hd0 (VK (by decide)) t hE hI;exact ⟨fun l hl=>Ro (c1 l hl) (Ji hd),fun r hr=>Ro (c2 r hr) (Ji hd)⟩
def sL {l:List (V × Bool)} (hn:n<=3) (h:∀ c∈l,c.1.length=n+1/\Bd (2^m) c.1):∀ x∈gensP n l,x.2.length=n+1/\Bd (2^(16*(m+4))) x.2:=fun x hx=>by
 have hE:∀ a∈eqsOf l,a.length=n+1/\Bd (2^m) a:=fun a ha=>h _ (mem_eqs.1 ha);have hI:∀ a∈ineqsOf n l,a.length=n+1/\Bd (2^m) a:=fun a ha=>by
  rcases mem_ineqs.1 ha with rfl | ha
  ·exact ⟨unitC_len n 1,Dx n m⟩
  ·exact h _ ha
 refine ⟨sK (fun c hc=>(h c hc).1) x hx,?_⟩;obtain ⟨c1,c2⟩:=E6 (d:=n+1) (m:=m) zO zO hE hI;unfold gensP at hx;split at hx
 ·rcases Vu.1 hx with hx | hx
  ·obtain ⟨r,hr,rfl⟩:=Va.1 hx;exact c1 r hr
  ·obtain ⟨r,hr,rfl⟩:=Va.1 hx;exact c2 r hr
 ·cases hx
def xI {g:List (Nat × V)} (hn:n<=3) (h:∀ x∈g,x.2.length=n+1/\Bd (2^m) x.2):∀ c∈consP n g,c.1.length=n+1/\Bd (2^(16*(m+4))) c.1:=fun x hx=>by
 refine ⟨jh (fun y hy=>(h y hy).1) x hx,?_⟩;have hb:=(Gi (m:=m) zO h x hx).2;have hE:∀ a∈linesOf g,a.length=n+1/\Bd (2^m) a:=fun a ha=>h _ (mem_lines.1 ha);have hI:∀ a∈raysOf g,a.length=n+1/\Bd (2^m) a:=fun a ha=>by
  obtain ⟨y,hy,rfl⟩:=xx ha;exact h _ hy
 obtain ⟨c1,c2⟩:=E6 (d:=n+1) (m:=m) zO zO hE hI;unfold consP at hx;split at hx
 ·rcases Vu.1 hx with hx | hx
  ·obtain ⟨r,hr,rfl⟩:=Va.1 hx;exact c1 r hr
  ·obtain ⟨r,hr,rfl⟩:=Va.1 hx;exact c2 r (Vp.1 hr).1
 ·rw [V7] at hx;subst hx;intro i
  have:∀ i,(at_ (unitC n (-1)) i).natAbs<=1:=fun i=>by
   unfold at_ unitC;cases i with
   | zero=>simp
   | succ i=>simp [U5,V9]; split <;> simp
  exact Vn (this i) (Nat.one_le_two_pow)
end
def Jn {l:List Int} (h:l.length<=64):wW (l.map cC)=true:=by
 unfold wW;rw [VG];refine ⟨by rw [Vc]; exact decide_eq_true h,?_⟩;rw [V8,Wt];intro z hz;obtain ⟨y,-,rfl⟩:=Va.1 hz;rw [wG]; simp
def GK {l:List Int} (h:l.length<=64) (hz:∀ z∈l,dJ z):rV (l.map cC):=⟨by rw [Vc]; omega,fun z hz'=>by
 obtain ⟨y,hy,rfl⟩:=Va.1 hz'
 have:=hz y hy
 unfold dJ Sm at this;show (ag y.natAbs).length<_;omega⟩
def Rm {n x f ea:Nat} {a:List Int} {c:List Int × Bool} (hc:c.1.length=n+1) (ha:a.length=n+1) (hb:Lin.Bd (2^f) c.1) (hab:Lin.Bd (2^ea) a):Lin.Bd (2^(f+ea+1)) (Lin.bkC x a c).1:=fun i=>by
 unfold Lin.bkC;simp only;rw [Lin.at_mix (by rw [U4,hc,ha])];have h1:(Lin.at_ (c.1.set (x+1) 0) i).natAbs<=2^f:=by
  unfold Lin.at_;rw [U5,W9];split
  ·split
   ·simp
   ·simp
  ·have:=hb i
   unfold Lin.at_ at this
   rwa [U5] at this
 have h2:(c.1.getD (x+1) 0).natAbs<=2^f:=hb (x+1);have h3:=hab i;have h4:(c.1.getD (x+1) 0*Lin.at_ a i).natAbs<=2^f*2^ea:=by rw [X0]; exact Wq h2 h3
 have h5:=XQ (1*Lin.at_ (c.1.set (x+1) 0) i) (c.1.getD (x+1) 0*Lin.at_ a i);rw [Int.one_mul] at h5 ⊢;have h6:2^f<=2^f*2^ea:=Yv _ (VK zU);rw [VJ,VZ];omega
section
variable {tab:Nat->Option aA} {H:Heap}
set_option maxHeartbeats 2000000 in
def ts (C:Code tab) (hw:Wf H) {v w:AV} {n e f ea x:Nat} {K:List (List Int × Bool)} {G:List (Nat × List Int)} {a:List Int} (hp:PolyV H v n K G) (ho:PolyOK n e f K G) (ha:RowV H w a) (hal:a.length=n+1) (hab:Lin.Bd (2^ea) a) (hx:x<n) (hn3:n<=3) (hK:K.length<=60) (hsz:f+ea<=10000) :
  Ans tab (.fn lz [v,.int .i64 (x:Int),w]) H fun r H'=>qx H' r n (Lin.gensP n (K.map (Lin.bkC x a)))/\Kp H H':=by
 obtain ⟨vc,vg,rfl,hC,hg⟩:=hp;have oc:=hC.one;have og:=hg.one;have oa:=ha.one;have hbt:=gZ hab;have asm:∀ z∈a,dJ z:=fun z hz=>(hbt z hz).sm zO;have pc:j8 n (x:Int)=0:=by unfold j8; rw [if_neg zO]
 have rc:jY n (a.map cC)=0:=by unfold jY; rw [Jn zO,if_pos rfl,if_neg (by rw [Vc]; omega)]
 refine kS C.q5 zU fun T hl g0 g1 g2=>?_;refine zW (bA hl g0 g1 g2 (kU oc og)) ?_;refine AnsH.eq (oo C (n:=n) (x:=(x:Int)) zF ⟨vc,vg,rfl,hC.mono (zG H),hg.mono (zG H)⟩ ho) fun H2 hk2=>?_;rw [pc];obtain ⟨k2,_,w2⟩:=zT H zK hk2;have d0:H2.get H.next=some (.cells [.int .i64 (n:Int),vc,vg] ak true):=hk2.get (cH)
 have d1:H2.get (H.next+1)=some (.cells [.int .i64 0,.nilSl,.nilSl] ak true):=hk2.get (cH);refine zW (dL hl g0 g1 g2 g2 d0) ?_;refine AnsH.eq (ry C (n:=n) zF ⟨vc,vg,rfl,(hC.mono k2.sub).mono (zG H2),(hg.mono k2.sub).mono (zG H2)⟩ zO ((ha.raw.mono k2.sub).mono (zG H2)) (GK zO asm)) fun H3 hk3=>?_;rw [rc];obtain ⟨k23,_,_⟩:=zT H2 zK hk3;have k3:Kp H H3:=k2.trans k23;have le_k3:=k3.le;have w3:=k3.wf;have c0:=k23.get d0;have c1:=k23.get d1;refine zW (dL hl g0 g1 g2 c0 hC.lenV) ?_;obtain ⟨G3,hG3⟩:∃ X,X=H3.up 7:=⟨_,rfl⟩
 rw [<- hG3];have s3:Sub H3 G3:=by rw [hG3]; exact Sub.bump _ 7
 have kG3:Kp H G3:=by rw [hG3]; exact k3.up _
 have w3':=kG3.wf;clear hG3;have c0:=s3.get _ _ c0;have c1:=s3.get _ _ c1;have hC3:=hC.mono kG3.sub;have ha3:=ha.mono kG3.sub;have ex:IntKind.i64.wrap ((x:Int)+1)=((x+1:Nat):Int):=by rw [wrap_i64] <;> omega
 refine aq G3 [10] (fun j vs H'=>∃ vo,vs=[vo]/\Bq conE t_api_Con G3 H' vo ((K.take j).map (Lin.bkC x a))) (a:=0) (N:=K.length) (by simp only [U4]; exact hl) (by refine zW (aQ hl g0 g1 g2) ?_; rfl) (zV (aQ hl g0 g1 g2)) (Vj _) zO rfl rfl (fun _ _ _ m h=>by obtain ⟨vo,h1,h2⟩:=h; exact ⟨vo,h1,h2.mono (Sub.bump _ m)⟩) (Kp.refl w3') ⟨.nilSl,by exact zV (aQ hl g0 g1 g2),Bq.nil⟩ ?_ ?_
 ·rintro j T1 H1-hj hl1 hi1 hs1 hk1 ⟨vo,hvo,hbq⟩;have w1:=hk1.wf;have le_hk1:=hk1.le;simp only [Ve,Vk,Vg,and_true] at hvo;have t1:ad T1 1=.int .i64 (x:Int):=(hs1.at_ 1 zU).trans (zV (bA hl g0 g1 g2 g1));have t2:ad T1 2=w:=(hs1.at_ 2 zU).trans (zV (bA hl g0 g1 g2 g2));have t32:ad T1 32=vc:=(hs1.at_ 32 zU).trans (zV (aQ hl g0 g1 g2));obtain ⟨_,⟨u,rfl,hr⟩,-,-,L⟩:=(hC3.mono hk1.sub).at (U7 hj);have L:aX H1 (some 2) (au vc (j*2))=some (.agg [u,.bool K[j].2]):=L;have hix:cI 2 vc (.int .i64 (j:Int))=some (au vc (j*2)):=SlV.idx hC3 .i64 j hj;have hr:RowV H1 u K[j].1:=hr;have ou:=hr.one;have hrow:=ho.rowK _ (U9 hj);obtain ⟨c,hc⟩:∃ c,c=K[j]:=⟨_,rfl⟩
  rw [<- hc] at L hr hrow;have hxl:x+1<c.1.length:=by have:=hrow.1; omega
  obtain ⟨p,hp,ldp,-⟩:=je hr hxl;have hiu:cI 2 u (.int .i64 ((x+1:Nat):Int))=some (au u ((x+1)*2)):=SlV.idx hr .i64 (x+1) hxl;have op:=hp.one;have cbt:=gZ hrow.2;have Lp:=(Ldd.of w1 ldp).put;have Ll:=(Ldd.of w1 ldp).ld;refine zW (zq hl1 t1 t2 t32 hi1 hvo hix L hiu Lp Ll ex) ?_;obtain ⟨X1,hX1⟩:∃ X,X=((((H1.up 16).put (H1.next+2) (.cells [.nilSl,.bool false] t_api_Con true)).put (H1.next+2) (.cells [u,.bool c.2] t_api_Con true)).put (H1.next+10) (.cells [.bool false,.nilSl] aa true)).put (H1.next+10) (.cells [.bool (decide (c.1[x+1]<0)),p] aa true):=⟨_,rfl⟩
  have q2:H1.get (H1.next+2)=none:=w1.fresh zO;have q10:H1.get (H1.next+10)=none:=w1.fresh zO;have sX1:Sub H1 X1:=by rw [hX1]; exact ((((Sub.bump H1 16).put q2 _).put q2 _).put q10 _).put q10 _
  have nX1:X1.next=H1.next+16:=by rw [hX1]; rfl
  have kX1:Kp H1 X1:=by rw [hX1]; exact zK
  have wX1:=kX1.wf;have e12:X1.get (H1.next+2)=some (.cells [u,.bool c.2] t_api_Con true):=by rw [hX1,az zO,az zO,ap]
  have e13:X1.get (H1.next+10)=some (.cells [.bool (decide (c.1[x+1]<0)),p] aa true):=by rw [hX1,ap]
  rw [<- hX1];clear hX1;refine AnsH.use (Dg C wX1 (hr.mono sX1) zO zO) ?_;rintro v4 H4 ⟨hk4,b4,cells,rfl,hb4,hcl4,hge4⟩;have w4:=hk4.wf;have le_hk4:=hk4.le;have s14:=sX1.trans hk4.sub;have f12:=hk4.get e12;have f13:=hk4.get e13;have hclen:cells.length=c.1.length*2:=hcl4.1;have lt4:=w4 _ _ hb4;have hst:BY (some (.cells cells aa true)) 2 ((x+1)*2) (.agg [.bool false,.nilSl])=some (.cells (cells.take ((x+1)*2)++[.bool false,.nilSl]++cells.drop ((x+1)*2+2)) aa true):=gh (A4 (am _) bF) zO;obtain ⟨cells2,hc2⟩:∃ q,q=cells.take ((x+1)*2)++[.bool false,.nilSl]++cells.drop ((x+1)*2+2):=⟨_,rfl⟩
  rw [<- hc2] at hst;have hcl2:Cells intE H4 cells2 (c.1.set (x+1) 0):=by rw [hc2]; exact hcl4.set (i:=x+1) zO ⟨.nilSl,by simp,eN H4⟩
  have hio:cI 2 (.own b4 0 c.1.length c.1.length 2 false) (.int .i64 ((x+1:Nat):Int))=some (.ptr b4 ((x+1)*2)):=by
   have:=ke (b:=b4) (off:=0) (n:=c.1.length) (c:=c.1.length) (sz:=2) (x:=false) (k:=.i64) (j:=x+1) zO
   simpa using this
  have hsz:intE.sz=2:=rfl;refine zW (jW hl1 t1 t2 hvo ex hsz hio hb4 hst) ?_;obtain ⟨X4,hX4⟩:∃ X,X=(H4.up 6).put b4 (.cells cells2 aa true):=⟨_,rfl⟩
  have g4:X1.next<=b4:=hge4
  have m4:NoTy [ae] H4 b4:=NoTy.ty hb4 zU;have kX4:Kp X1 X4:=by rw [hX4]; exact zK
  have hclx:Cells intE X4 cells2 (c.1.set (x+1) 0):=by rw [hX4]; exact Cells.mono (E:=intE) zS hcl2
  have hrow4:RowV X4 (.own b4 0 c.1.length c.1.length 2 false) (c.1.set (x+1) 0):=(show Own intE aa X1 X4 b4 false _ _ from ⟨cells2,by rw [U4]; rfl,by rw [hX4,ap],hclx,g4⟩).sl;have g12:X4.get (H1.next+2)=some (.cells [u,.bool c.2] t_api_Con true):=kX4.get e12;have g13:X4.get (H1.next+10)=some (.cells [.bool (decide (c.1[x+1]<0)),p] aa true):=kX4.get e13;have wX4:=kX4.wf;have sX4:Sub H1 X4:=sX1.trans kX4.sub;have k14:Kp H1 X4:=kX1.trans kX4;have le_k14:=k14.le;rw [<- hX4];clear hX4 hst hcl2 hclx hb4 hcl4;refine aF ?_;refine zD (aD hl1 t2) ?_;refine AnsH.use (iP C (n:=1) zF zO zO) ?_;rintro vm H5 ⟨hvm,hk5⟩;obtain ⟨k5,_,w5⟩:=zT X4 zK hk5;have h12:=k5.get g12;have h13:=k5.get g13;have cxb:Bt (f+1) c.1[x+1]:=cbt _ (U9 hxl);have hset:∀ z∈c.1.set (x+1) 0,Bt (f+1) z:=fun z hz=>by
   rcases Xu hz with h | h
   ·exact cbt z h
   ·rw [h]; exact Bt.zero _
  refine zD (bA hl1 t2 @g13 h13 @al) ?_;have x1:IntV (H5) vm 1:=hvm;have x2:IntV H5 (.agg [.bool (decide (c.1[x+1]<0)),p]) c.1[x+1]:=⟨p,rfl,hp.mono (sX4.trans k5.sub)⟩
  have x3:=hrow4.mono k5.sub;have x4:=ha3.mono (hk1.sub.trans (sX4.trans k5.sub));have x5:(c.1.set (x+1) 0).length=a.length:=by rw [U4,hrow.1,hal]
  have x6:(c.1.set (x+1) 0).length<=64:=by rw [U4,hrow.1]; omega
  have b1:Bt 1 (1:Int):=by unfold Bt; decide
  have x7:MuI (1:Int):=b1.len zO;have x8:MuI c.1[x+1]:=cxb.len zO;have x9:∀ z∈c.1.set (x+1) 0,MuI z/\dJ (1*z):=fun z hz=>⟨(hset z hz).len zO,by rw [Int.one_mul]; exact (hset z hz).sm zO⟩
  have x10:∀ z∈a,MuI z/\dJ (c.1[x+1]*z):=fun z hz=>⟨(hbt z hz).len zO,(cxb.mul (hbt z hz)).sm zO⟩
  refine AnsH.use (Dt C w5 x1 x2 x3 x4 x5 x6 x7 x8 x9 x10) ?_;rintro _ H6 ⟨q,rfl,hq,hk6⟩;obtain ⟨k6,_,w6⟩:=zT H5 zK hk6;have i12:=k6.get h12;have i13:=k6.get h13;have oq:=hq.one;have ebk:(Lin.mix 1 (c.1.set (x+1) 0) c.1[x+1] a,c.2)=Lin.bkC x a c:=by
   unfold Lin.bkC;rw [U5,U7 hxl]; rfl
  have k46:Kp H1 H6:=k14.trans (k5.trans k6);have le_k46:=k46.le;have len6:=k46.le;have lG:=hk1.le;obtain ⟨m,H7,a7,bl7,k7,n7,f7,-⟩:=Bq.push (H:=H6.up 8) (id:=H6.next+6) (id2:=H6.next+5) (bytes:=32) (ty2:=t_api_Con) (cs:=[q,.bool c.2]) (a:=Lin.bkC x a c) (hbq.mono (k46.sub.trans (Sub.bump H6 8))) zU ((hk1.trans k46).up 8) (by rw [<- ebk]; exact ⟨q,rfl,hq.mono (Sub.bump H6 8)⟩) zO (by show _<H6.next+8; omega) (w6.fresh (b:=H6.next+6) zO) zO (by show _<H6.next+8; omega) (w6.fresh (b:=H6.next+5) zO) zO (by rw [Vc,VC]; omega) (by rw [Vc,VC]; omega);have a7:dI ((H6.up 8).put (H6.next+5) (.cells [q,.bool c.2] t_api_Con true)) (H6.next+6) 2 32 t_api_Con vo (.own (H6.next+5) 0 1 1 2 true)=some (.own (H6.next+6) 0 m m 2 false,H7):=a7;refine zD (jW hl1 t2 hvo @g13 h13 i13 i12 @a7 @al) ?_;exact ⟨k7,_,rfl,by rw [Zl,U7 hj,VW,<- hc]; exact bl7⟩
 ·rintro T1 H1 hl1 hs1 hk1 ⟨vo,hvo,hbq⟩;have w1:=hk1.wf;have le_hk1:=hk1.le;have kH1:=kG3.trans hk1;simp only [Ve,Vk,Vg,and_true] at hvo;rw [VD] at hbq;have j3:ad T1 3=.ptr H.next 0:=(hs1.at_ 3 zU).trans (zV (aQ hl g0 g1 g2))
  have j6:ad T1 6=.ptr (H.next+1) 0:=(hs1.at_ 6 zU).trans (zV (aQ hl g0 g1 g2));have d0:=hk1.get c0;have d1:=hk1.get c1;have hrow:∀ c∈K.map (Lin.bkC x a),c.1.length=n+1/\Lin.Bd (2^(f+ea+1)) c.1:=fun c hc=>by
   obtain ⟨q,hq,rfl⟩:=Va.1 hc;exact ⟨Lin.bk_len (ho.own.rows q hq) hal,Rm (ho.own.rows q hq) hal (ho.rowK q hq).2 hab⟩
  have gb:=sL hn3 hrow;refine zW (aQ hl1 j3 hvo d0) ?_;refine AnsH.use (pU C (n:=n) (m:=f+ea+1) (m2:=16*(f+ea+1+4)) zF (hbq.sl.mono (zG H1)) zO (by rw [Vc]; exact hK) hrow zO (fun y hy=>(gb y hy).2) zO) ?_;rintro v2 H2 ⟨hm,hk2⟩;obtain ⟨k2,_,w2⟩:=zT H1 zK hk2;have e1:=k2.get d1;have lt1:=w2 _ _ e1;have kH2:=kH1.trans k2;rcases hm with ⟨rfl,hm⟩ | ⟨p,rfl,⟨vc2,vg2,rfl,hc2,hg2⟩,h1,h2⟩
  ·refine zW (aQ hl1 j6 e1 @mY) ?_;exact ⟨.inl ⟨rfl,hm⟩,zK⟩
  ·have oc2:=hc2.one;have og2:=hg2.one;refine zW (aQ hl1 j6 e1 @mY) ?_;refine ⟨.inr ⟨_,rfl,⟨vc2,vg2,rfl,?_,?_⟩,h1,h2⟩,zK⟩
   ·have m3:NoTy (t_api_Con :: conE.tys) H2 (H.next+1):=NoTy.ty e1 zU;exact SlV.monoT (E:=conE) zS hc2
   ·have m3:NoTy (ai :: genE.tys) H2 (H.next+1):=NoTy.ty e1 zU;exact SlV.monoT (E:=genE) zS hg2
end
structure PutS (P:Nat->Prop) (H0 D:Heap) (b:Nat) (H:Heap) (l:List (Nat × List Int)):Prop where
 le:D.next<=H.next
 keep:∀ c e,P c->D.get c=some e->H.get c=some e
 own:∃ v,H.get b=some (.cells [v] fc true)/\Bl genE ai H0 H v l/\∀ c,gY v=some c->¬ P c
section
variable {P:Nat->Prop} {H0 D H H':Heap} {b:Nat} {l:List (Nat × List Int)}
def PutS.mono (h:PutS P H0 D b H l) (hk:Sub H H'):PutS P H0 D b H' l:=by
 obtain ⟨v,h1,h2,h3⟩:=h.own;exact ⟨Vn h.le hk.1,fun c e hp hc=>hk.get _ _ (h.keep c e hp hc),v,hk.get _ _ h1,h2.mono hk,h3⟩
def PutS.put (h:PutS P H0 D b H l) {c:Nat} {e:Ent} (hc:¬ P c) (hb:c≠b) (he:∀ cs r,H.get c≠some (.cells cs ai r)) (ht:SubT genE.tys H (H.put c e)):PutS P H0 D b (H.put c e) l:=by
 obtain ⟨v,h1,h2,h3⟩:=h.own;refine ⟨h.le,fun d e' hp hd=>by rw [az (show d≠c from fun q=>hc (by rw [<- q]; exact hp))]; exact h.keep d e' hp hd,v,by rw [az (fun q=>hb q.symm)]; exact h1,h2.put (fun n hv=>?_) ht,h3⟩;rcases h2 with ⟨rfl,-⟩ | ⟨b',cells,rfl,hb',-⟩
 ·cases hv
 ·cases hv; exact he _ _ hb'
variable {tab:Nat->Option aA}
def qP (C:Code tab) {k:Nat} {w:AV} {r:List Int} (hk:Kp H0 H) (h0:H0.next<=b) (hP:∀ c,P c->c<D.next/\c≠b) (hs:PutS P H0 D b H l) (hr:RowV H w r) (hlen:l.length<1000) :
  Ans tab (.fn eP [.agg [.int .u8 (k:Int),w],.ptr b 0]) H fun _ H'=>PutS P H0 D b H' (l++[(k,r)])/\Kp H0 H'/\∀ c e,H.get c=some e->(∀ cs r,e ≠ .cells cs ai r)->(∀ cs r,e ≠ .cells cs fc r)->H'.get c=some e:=by
 obtain ⟨v,h1,h2,h3⟩:=hs.own;refine (Em C hk.wf hk h0 h1 h2 hr hlen).mono ?_;rintro _ H' ⟨⟨v',g1,g2,g3⟩,k',fr,le⟩;refine ⟨⟨Vn hs.le le,fun c e hp hc=>fr c e (hs.keep c e hp hc) (hP c hp).2 (fun q=>h3 c q hp),v',g1,g2,fun c hc hp=>?_⟩,k',fun c e hc e1 e2=>fr c e hc (fun q=>?_) fun q=>?_⟩
 ·have:=g3 c hc; have:=(hP c hp).1; have:=hs.le; omega
 ·subst q; rw [h1] at hc; cases hc; exact e2 _ _ rfl
 ·rcases h2 with ⟨rfl,-⟩ | ⟨b',cells,rfl,hb',-⟩
  ·cases q
  ·cases q; rw [hb'] at hc; cases hc; exact e1 _ _ rfl
end
def dm (x:Nat) (a:List Int) (n:Bool) (lo:Int) (n':Bool) (hi:Int) (g:Nat × List Int):List (Nat × List Int):=if g.1=3 then (fG n lo n' hi).map fun z=>Lin.mvG x a z g else [Lin.mvG x a 0 g]
def nd (d x:Nat) (n n':Bool):List (Nat × List Int):=if n && n' then [(1,mf d x 1)] else if n then [(2,mf d x (-1))] else if n' then [(2,mf d x 1)] else []
def nK (d x:Nat) (a:List Int) (n:Bool) (lo:Int) (n':Bool) (hi:Int) (G:List (Nat × List Int)):List (Nat × List Int) :=
 G.flatMap (dm x a n lo n' hi)++(if G=[] then [] else nd d x n n')
def CJ (n:Bool) (lo:Int) (n':Bool) (hi:Int):1<=(fG n lo n' hi).length/\(fG n lo n' hi).length<=2:=by
 unfold fG;cases n <;> cases n' <;> simp;by_cases h:lo=hi <;> simp [h]
def HO (x:Nat) (a:List Int) (n:Bool) (lo:Int) (n':Bool) (hi:Int) (g:Nat × List Int):1<=(dm x a n lo n' hi g).length/\(dm x a n lo n' hi g).length<=2:=by
 unfold dm;split
 ·rw [Vc]; exact CJ n lo n' hi
 ·simp
def su (x:Nat) (a:List Int) (n:Bool) (lo:Int) (n':Bool) (hi:Int):∀ G:List (Nat × List Int),G.length<=(G.flatMap (dm x a n lo n' hi)).length/\(G.flatMap (dm x a n lo n' hi)).length<=2*G.length
 | []=>by simp
 | g :: G=>by
  have h1:=HO x a n lo n' hi g;have h2:=su x a n lo n' hi G;rw [YF,Vr,VT];omega
def As {x:Nat} {a:List Int} {n:Bool} {lo:Int} {n':Bool} {hi:Int} {G:List (Nat × List Int)} {j:Nat} (hj:j<G.length):(G.take (j+1)).flatMap (dm x a n lo n' hi)=(G.take j).flatMap (dm x a n lo n' hi)++dm x a n lo n' hi G[j]:=by
 rw [Zl,U7 hj,Y2]
 simp
section
open Lin
variable {n x:Nat} {a:List Int} {rn rn':Bool} {lo hi:Int} {G:List (Nat × List Int)}
def F9 {n n':Bool} {lo hi z:Int} {e:Nat} (h1:Bt e lo) (h2:Bt e hi) (hz:z∈fG n lo n' hi):Bt e z:=by
 unfold fG at hz;cases n <;> cases n'
 ·by_cases h:lo=hi
  ·simp [h] at hz; subst hz; exact h2
  ·simp [h] at hz; rcases hz with rfl | rfl
   ·exact h1
   ·exact h2
 ·simp at hz; subst hz; exact h1
 ·simp at hz; subst hz; exact h2
 ·simp at hz; subst hz; exact Bt.zero e
def Np {y:Nat × List Int} (h:y∈nd n x rn rn'):∃ k:Int,(k=1\/k = -1)/\y.2=mf n x k/\(y.1=1\/y.1=2):=by
 unfold nd at h;cases rn <;> cases rn' <;> simp at h
 ·subst h; exact ⟨1,.inl rfl,rfl,.inr rfl⟩
 ·subst h; exact ⟨-1,.inr rfl,rfl,.inr rfl⟩
 ·subst h; exact ⟨1,.inl rfl,rfl,.inl rfl⟩
def KB (n x:Nat) (k:Int):(mf n x k).length=n+1:=by simp [mf]
def Na (n x:Nat) (k:Int):hd1 (mf n x k)=0:=by
 unfold mf; rw [Ot]; rfl
def Ar {y:Nat × List Int} (h:y∈nK n x a rn lo rn' hi G):(∃ g∈G,∃ z,(z=0\/z∈fG rn lo rn' hi)/\y=mvG x a z g)\/∃ k:Int,(k=1\/k = -1)/\y.2=mf n x k/\(y.1=1\/y.1=2):=by
 unfold nK at h;rcases Vu.1 h with h | h
 ·obtain ⟨g,hg,h⟩:=ZB.1 h;unfold dm at h;split at h
  ·obtain ⟨z,hz,rfl⟩:=Va.1 h;exact .inl ⟨g,hg,z,.inr hz,rfl⟩
  ·rw [V7] at h;exact .inl ⟨g,hg,0,.inl rfl,h⟩
 ·split at h
  ·cases h
  ·exact .inr (Np h)
def HP (hG:ValidG n G):ValidG n (nK n x a rn lo rn' hi G):=fun y hy=>by
 rcases Ar hy with ⟨g,hg,z,-,rfl⟩ | ⟨k,-,h2,h3⟩
 ·refine ⟨by rw [mvG,Jw]; exact (hG g hg).1,fun h=>?_,fun h=>?_⟩
  ·rw [mvG,D7]; exact (hG g hg).2.1 h
  ·rw [mvG,D7]; exact (hG g hg).2.2 h
 ·rw [h2];exact ⟨KB _ _ _,fun h=>by omega,fun _=>Na _ _ _⟩
def K5 (hG:∀ g∈G,g.1=1\/g.1=2\/g.1=3):∀ y∈nK n x a rn lo rn' hi G,y.1=1\/y.1=2\/y.1=3:=fun y hy=>by
 rcases Ar hy with ⟨g,hg,z,-,rfl⟩ | ⟨k,-,h2,h3⟩
 ·exact hG g hg
 ·omega
def Da {M:Nat} {r:List Int} (h:∀ z∈r,z.natAbs<=M):Bd M r:=fun i=>by
 unfold at_;rw [U5];cases h1:r[i]? with
 | none=>exact Vj _
 | some z=>exact h z (Vo h1)
def So {e ea ez:Nat} {z:Int} {r:List Int} (hn:n<=3) (hal:a.length=n+1) (ha:Bd (2^ea) a) (hr:Bd (2^e) r) (hz:z.natAbs<=2^ez):Bd (2^(e+ea+ez+3)) (mvR x a z r):=Da fun y hy=>by
 have p1:2^e<=2^(e+ea+ez+3):=Vx (by decide) zO;rcases Xu hy with h | rfl
 ·exact Vn (hr.mem y h) p1
 ·have h1:=IW hal ha hr;have h2:(hd1 r).natAbs<=2^e:=by
   have:=hr 0
   cases r with
   | nil=>exact Vj _
   | cons b r=>exact this
  have h3:(hd1 r*z).natAbs<=2^e*2^ez:=by rw [X0]; exact Wq h2 hz
  have h4:(n+1)*(2^ea*2^e)<=4*(2^ea*2^e):=Vl _ zO;have h5:2^ea*2^e<=2^(e+ea+ez):=by rw [<- VZ]; exact Vx (by decide) zO
  have h6:2^e*2^ez<=2^(e+ea+ez):=by rw [<- VZ]; exact Vx (by decide) zO
  have h7:2^(e+ea+ez+3)=2^(e+ea+ez)*8:=by rw [VZ]
  have h8:=XQ (dot a r) (hd1 r*z);rw [h7];omega
def Jh {e ea ez:Nat} (hn:n<=3) (hal:a.length=n+1) (ha:Bd (2^ea) a) (hG:∀ g∈G,Bd (2^e) g.2) (b1:Bt ez lo) (b2:Bt ez hi):∀ y∈nK n x a rn lo rn' hi G,Bd (2^(e+ea+ez+3)) y.2:=fun y hy=>by
 rcases Ar hy with ⟨g,hg,z,hz,rfl⟩ | ⟨k,h1,h2,h3⟩
 ·refine So hn hal ha (hG g hg) ?_;rcases hz with rfl | hz
  ·exact Vj _
  ·exact W0 (F9 b1 b2 hz)
 ·rw [h2];refine Da fun z hz=>?_;have p1:1<=2^(e+ea+ez+3):=VK (by decide);rcases Xu hz with h | rfl
  ·have:=XS h
   subst this; exact Vj _
  ·omega
def NN (hG:G.length<=20):(nK n x a rn lo rn' hi G).length<=41:=by
 have h1:=su x a rn lo rn' hi G;have h2:(nd n x rn rn').length<=1:=by unfold nd; cases rn <;> cases rn' <;> simp
 unfold nK;rw [Vr];split
 ·simp only [Xq]; omega
 ·omega
end
section
variable {tab:Nat->Option aA} {H:Heap}
def PutS.kill {P:Nat->Prop} {H0 D:Heap} {b:Nat} {l:List (Nat × List Int)} (h:PutS P H0 D b H l) {c:Nat} (hc:¬ P c) (hb:c≠b) (he:∀ cs t r,H.get c≠some (.cells cs t r)):PutS P H0 D b (H.kill c) l:=by
 obtain ⟨v,h1,h2,h3⟩:=h.own;refine ⟨h.le,fun d e' hp hd=>by rw [cD (show d≠c from fun q=>hc (by rw [<- q]; exact hp))]; exact h.keep d e' hp hd,v,by rw [cD (fun q=>hb q.symm)]; exact h1,h2.kill (fun n hv=>?_) ((SubT.refl _ _).kills fun cs t r _ h=>he cs t r h),h3⟩;rcases h2 with ⟨rfl,-⟩ | ⟨b',cells,rfl,hb',-⟩
 ·cases hv
 ·cases hv; exact he _ _ _ hb'
def PutS.back {P P':Nat->Prop} {H0 D D':Heap} {b:Nat} {l:List (Nat × List Int)} (h:PutS P' H0 D' b H l) (hn:D.next<=D'.next) (hp:∀ c,P c->P' c) (hk:∀ c e,P c->D.get c=some e->D'.get c=some e):PutS P H0 D b H l:=by
 obtain ⟨v,h1,h2,h3⟩:=h.own;exact ⟨Vn hn h.le,fun c e q hc=>h.keep c e (hp c q) (hk c e q hc),v,h1,h2,fun c q hc=>h3 c q (hp c hc)⟩
theorem P3 (a b c d e f:AV):aY [a,b,c,d,e,f] 3 none=some d:=rfl
set_option maxHeartbeats 4000000 in
def vG (C:Code tab) (hw:Wf H) {v w vi:AV} {n e f ea ez x:Nat} {K:List (List Int × Bool)} {G:List (Nat × List Int)} {a:List Int} {rn rn':Bool} {lo hi:Int} (hp:PolyV H v n K G) (ho:PolyOK n e f K G) (ha:RowV H w a) (hal:a.length=n+1) (hab:Lin.Bd (2^ea) a) (hi':ItvV H vi rn lo rn' hi) (hmay:mE rn (cC lo) rn' (cC hi)=true) (blo:Bt ez lo) (bhi:Bt ez hi) (hx:x<n) (hn3:n<=3) (hG:G.length<=20) (hsz:e+ea+ez<=1000) (hkG:∀ g∈G,g.1=1\/g.1=2\/g.1=3) (hlc:(Lin.consP n (nK n x a rn lo rn' hi G)).length<=1022\/1024<=(Lin.consP n (nK n x a rn lo rn' hi G)).length) :
  Ans tab (.fn ko [v,.int .i64 (x:Int),w,vi]) H fun r H'=>Df H' r n (nK n x a rn lo rn' hi G)/\Kp H H':=by
 obtain ⟨vc,vg,rfl,hC,hg⟩:=hp;have hii:=hi';obtain ⟨pl,ph,rfl,hpl,hph⟩:=hi';have oc:=hC.one;have og:=hg.one;have oa:=ha.one;have opl:=hpl.one;have oph:=hph.one;have hbt:=gZ hab;have asm:∀ z∈a,dJ z:=fun z hz=>(hbt z hz).sm zO;have pc:j8 n (x:Int)=0:=by unfold j8; rw [if_neg zO]
 have rc:jY n (a.map cC)=0:=by unfold jY; rw [Jn zO,if_pos rfl,if_neg (by rw [Vc]; omega)]
 have bx:=OZ (am rn) (am (decide (lo<0))) opl (am rn') (am (decide (hi<0))) oph;have ll:(ag lo.natAbs).length<=1048576:=ru (m:=ez) blo zO;have lh:(ag hi.natAbs).length<=1048576:=ru (m:=ez) bhi zO;refine LJ C.q7 (by decide) fun T hl g0 g1 g2 g3=>?_;refine zW (iy hl g0 g1 g2 g3 (kU oc og) bx (GH oa)) ?_;refine AnsH.eq (oo C (n:=n) (x:=(x:Int)) zF ⟨vc,vg,rfl,hC.mono (Kp.sub (H:=H) zK),hg.mono (Kp.sub (H:=H) zK)⟩ ho) fun H2 hk2=>?_;rw [pc];obtain ⟨k2,_,w2⟩:=zT H zK hk2;have d0:H2.get H.next=some (.cells [.int .i64 (n:Int),vc,vg] ak true):=hk2.get (cH)
 have d1:H2.get (H.next+1)=some (.cells [.int .i64 (x:Int)] fz true):=hk2.get (cH);have d2:H2.get (H.next+2)=some (.cells [w] af true):=hk2.get (cH);have d3:H2.get (H.next+3)=some (.cells [.bool rn,.bool (decide (lo<0)),pl,.bool rn',.bool (decide (hi<0)),ph] br true):=hk2.get (cH);have d4:H2.get (H.next+4)=some (.cells [.int .i64 0,.nilSl,.nilSl] ak true):=hk2.get (cH);refine zW (dL hl g0 g1 g2 g3 d2) ?_;refine AnsH.eq (pj C zF ((ha.mono k2.sub).mono (Kp.sub (H:=H2) zK)) zO asm) fun H3 hk3=>?_;obtain ⟨k23,_,_⟩:=zT H2 zK hk3;have k3:Kp H H3:=k2.trans k23;have le_k3:=k3.le;have w3:=k3.wf;have e3:=k23.get d3;refine zW (fy hl g0 g1 g2 g3 e3 @E9) ?_;refine AnsH.eq (LA C (n:=rn) (n':=rn') (z:=cC lo) (z':=cC hi) zF ((hpl.mono k3.sub).mono (Kp.sub (H:=H3) zK)) ((hph.mono k3.sub).mono (Kp.sub (H:=H3) zK)) (bo _) (bo _) ll lh) fun H4 hk4=>?_;rw [hmay];have z0:(if true=true then (0:Int) else 8)=0:=rfl;obtain ⟨k34,_,_⟩:=zT H3 zK hk4;have k24:=k23.trans k34;have k4:Kp H H4:=k2.trans k24;have le_k4:=k4.le;have w4:=k4.wf;have e0:=k24.get d0;have e2:=k24.get d2;refine zW (iy hl g0 g1 g2 g3 z0 e0 e2) ?_;refine AnsH.eq (ry C (n:=n) zF ⟨vc,vg,rfl,(hC.mono k4.sub).mono (Kp.sub (H:=H4) zK),(hg.mono k4.sub).mono (Kp.sub (H:=H4) zK)⟩ zO ((ha.raw.mono k4.sub).mono (Kp.sub (H:=H4) zK)) (GK zO asm)) fun H5 hk5=>?_;rw [rc];obtain ⟨k45,_,_⟩:=zT H4 zK hk5;have k25:=k24.trans k45;have k5:Kp H H5:=k2.trans k25;have le_k5:=k5.le;have w5:=k5.wf;have f0:=k25.get d0;have f1:=k25.get d1;have f2:=k25.get d2;have f3:=k25.get d3;have f4:=k25.get d4;clear d0 d1 d2 d3 d4 e0 e2 e3 hk2 hk3 hk4 hk5 k23 k34 k45 k24;refine zW (fy hl g0 g1 g2 g3 f0 hg.lenV) ?_;obtain ⟨D,hD⟩:∃ X,X=(((H5.up 10).put (H5.next+2) (.cells [.nilSl] fc true)).put (H5.next+4) (.cells [.nilFn] mg true)).put (H5.next+4) (.cells [.fn (.func eP) [] [.ptr (H5.next+2) 0]] mg true):=⟨_,rfl⟩
 rw [<- hD];have q2:H5.get (H5.next+2)=none:=w5.fresh zO;have q4:H5.get (H5.next+4)=none:=w5.fresh zO;have sD:Sub H5 D:=by rw [hD]; exact (((Sub.bump H5 10).put q2 _).put q4 _).put q4 _
 have kD:Kp H D:=by rw [hD]; exact zK
 have nD:D.next=H5.next+10:=by rw [hD]; rfl
 have wD:=kD.wf;have b12:D.get (H5.next+2)=some (.cells [.nilSl] fc true):=by rw [hD,az zO,az zO,ap]
 have b13:D.get (H5.next+4)=some (.cells [.fn (.func eP) [] [.ptr (H5.next+2) 0]] mg true):=by rw [hD,ap]
 clear hD;have D0:=sD.get _ _ f0;have D1:=sD.get _ _ f1;have D2:=sD.get _ _ f2;have D3:=sD.get _ _ f3;have D4:=sD.get _ _ f4;have lH5:=k5.le;have l4:=w5 _ _ f4;obtain ⟨P,hP⟩:∃ P:Nat->Prop,P=fun c=>c<D.next/\c≠H5.next+2:=⟨_,rfl⟩
 have hPd:∀ c,P c->c<D.next/\c≠H5.next+2:=fun c h=>by rw [hP] at h; exact h
 have hPi:∀ c,c<D.next->c≠H5.next+2->P c:=fun c h1 h2=>by rw [hP]; exact ⟨h1,h2⟩
 have s0:PutS P H D (H5.next+2) D ((G.take 0).flatMap (dm x a rn lo rn' hi)):=⟨Vb _,fun _ _ _ h=>h,.nilSl,b12,Bl.nil,fun c h=>by cases h⟩
 refine aq H [] (fun j _ H'=>PutS P H D (H5.next+2) H' ((G.take j).flatMap (dm x a rn lo rn' hi))) (a:=0) (N:=G.length) (by simp only [U4]; exact hl) (by refine zW (bA hl g0 g1 g2 g3) ?_; rfl) (zV (bA hl g0 g1 g2 g3)) (Vj _) zO rfl rfl (fun _ _ _ m h=>h.mono (Sub.bump _ m)) kD s0 ?_ ?_
 ·intro j T1 H1 _ hj hl1 hi1 hs1 hk1 hS;have w1:=hk1.wf;have le_hk1:=hk1.le;have t4:ad T1 4=.ptr H.next 0:=(hs1.at_ 4 (by decide)).trans (zV (bA hl g0 g1 g2 g3))
  have t5:ad T1 5=.ptr (H.next+1) 0:=(hs1.at_ 5 (by decide)).trans (zV (bA hl g0 g1 g2 g3));have t6:ad T1 6=.ptr (H.next+2) 0:=(hs1.at_ 6 (by decide)).trans (zV (bA hl g0 g1 g2 g3));have t7:ad T1 7=.ptr (H.next+3) 0:=(hs1.at_ 7 (by decide)).trans (zV (bA hl g0 g1 g2 g3));have t13:ad T1 13=.ptr (H5.next+4) 0:=(hs1.at_ 13 (by decide)).trans (zV (bA hl g0 g1 g2 g3));have t42:ad T1 42=vg:=(hs1.at_ 42 (by decide)).trans (zV (bA hl g0 g1 g2 g3));obtain ⟨_,⟨u,rfl,hr⟩,-,-,L⟩:=hg.at (U7 hj);have L:aX H1 (some 2) (au vg (j*2))=some (.agg [.int .u8 (G[j].1:Int),u]):=bE hk1.sub L;have hix:cI 2 vg (.int .i64 (j:Int))=some (au vg (j*2)):=SlV.idx hg .i64 j hj;have hr:RowV H u G[j].2:=hr;have ou:=hr.one;have hrow:=ho.rowG _ (U9 hj);have gbt:=gZ hrow.2;have glen:=su x a rn lo rn' hi (G.take j);have hlt:(G.take j).length<=20:=by rw [VC]; omega
  have E1:=hS.keep _ _ (hPi _ zO zO) D1;have E2:=hS.keep _ _ (hPi _ zO zO) D2;have E3:=hS.keep _ _ (hPi _ zO zO) D3;have E13:=hS.keep _ _ (hPi _ zO zO) b13;have r2:H1.get (H1.next+2)=none:=w1.fresh zO;have lD1:=hS.le;obtain ⟨g,hgd⟩:∃ g,g=G[j]:=⟨_,rfl⟩
  rw [<- hgd] at L hr hrow gbt;have hlen:a.length=g.2.length:=by rw [hal,hrow.1]
  by_cases h3:(g.1:Int)=3
  ·obtain ⟨v0,o1,o2,o3⟩:=hS.own;obtain ⟨Y,hY⟩:∃ X,X=((H1.up 9).put (H1.next+2) (.cells [.int .u8 0,.nilSl] ai true)).put (H1.next+2) (.cells [.int .u8 3,u] ai true):=⟨_,rfl⟩
   have sY:Sub H1 Y:=by rw [hY]; exact ((Sub.bump H1 9).put r2 _).put r2 _
   have kY1:Kp H1 Y:=by rw [hY]; exact zK
   have kY:=hk1.trans kY1;have E15:Y.get (H1.next+2)=some (.cells [.int .u8 3,u] ai true):=by rw [hY,ap]
   have nY:Y.next=H1.next+9:=by rw [hY]; rfl
   have F1:=sY.get _ _ E1;have F2:=sY.get _ _ E2;have F13:=sY.get _ _ E13;have wY:=kY1.wf;refine zW (jW hl1 t7 t42 hi1 hix L h3 E3 @E9) ?_;rw [<- hY];clear hY;refine AnsH.use (Ir C wY (am rn) (am (decide (lo<0))) opl (am rn') (am (decide (hi<0))) oph) ?_;rintro _ H6 ⟨rfl,be,le6,hk6⟩;have w6:=hk6.wf;have le_hk6:=hk6.le;have G1:=hk6.get F1;have G2:=hk6.get F2;have G13:=hk6.get F13;have G15:=hk6.get E15;have k6:=kY.trans hk6;have s16:=sY.trans hk6.sub;refine zW hl1 ?_;refine pw (fi:=fD) (args:=[.loopv H6.next,.ptr Y.next 0]) (by refine zW hl1 ?_; rfl) ?_
   generalize he:Ent.loop _ _ _ _ _ _=e0
   obtain ⟨D',hD'⟩:∃ X,X=(H6.up 1).put H6.next e0:=⟨_,rfl⟩
   rw [<- hD'];have f6:H6.get H6.next=none:=w6.fresh (Vb _)
   have s6:Sub H6 D':=by rw [hD']; exact (Sub.bump H6 1).put f6 _
   have kD':Kp H D':=by rw [hD']; exact zK
   have lb0:D'.get H6.next=some e0:=by rw [hD',ap]
   have nD':D'.next=H6.next+1:=by rw [hD']; rfl
   have wD':=kD'.wf;clear hD';have s1D:=s16.trans s6;obtain ⟨P',hP'⟩:∃ P:Nat->Prop,P=fun c=>c<D'.next/\c≠H5.next+2/\gY v0≠some c/\c≠H6.next:=⟨_,rfl⟩
   have hPd':∀ c,P' c->c<D'.next/\c≠H5.next+2:=fun c h=>by rw [hP'] at h; exact ⟨h.1,h.2.1⟩
   have hPi':∀ c e',D'.get c=some e'->c≠H5.next+2->c≠H6.next->(∀ cs,e' ≠ .cells cs ai true)->P' c:=fun c e' h1 h2 h3 h4=>by
    rw [hP'];refine ⟨wD' _ _ h1,h2,fun q=>?_,h3⟩;rcases o2 with ⟨rfl,-⟩ | ⟨b',cells,rfl,hb',-⟩
    ·cases q
    ·cases q;rw [s1D.get _ _ hb'] at h1; cases h1; exact h4 _ rfl
   have lY:=hk6.le;refine (OC C (H0:=H) (lo:=lo) (hi:=hi) (n:=rn) (n':=rn') (pl:=pl) (ph:=ph) (fun k H'=>H'.get H6.next=some e0/\PutS P' H D' (H5.next+2) H' ((G.take j).flatMap (dm x a rn lo rn' hi)++((fG rn lo rn' hi).take k).map fun z=>Lin.mvG x a z g)) kD' ⟨lb0,Vb _,fun _ _ _ h=>h,v0,s1D.get _ _ o1,by simpa using o2.mono s1D,fun c hc hp=>by rw [hP'] at hp; exact hp.2.2.1 hc⟩ (fun k A B q h=>⟨q.get h.1,h.2.mono q.sub⟩) (s6.get _ _ be) (hpl.mono kD'.sub) (hph.mono kD'.sub) (blo.sm zO) ?_).mono ?_
   ·rintro i z A p hz hkA ⟨jlb,hSA⟩ hpz;rw [<- he] at jlb;have wA:=hkA.wf;have ltA:=wA _ _ jlb;refine qc jlb rfl ?_;have oz:=hpz.one;refine zW (aD hl1 jlb) ?_
    generalize he2:Ent.loop _ _ _ _ LoopState.busy none=e2
    obtain ⟨X,hX⟩:∃ X',X'=(((A.up 2).put A.next (.cells [.bool false,.nilSl] aa true)).put A.next (.cells [.bool (decide (z<0)),p] aa true)):=⟨_,rfl⟩
    rw [<- hX];have fA:A.get A.next=none:=wA.fresh (Vb _)
    have sX:Sub A X:=by rw [hX]; exact ((Sub.bump A 2).put fA _).put fA _
    have kX:Kp H X:=by rw [hX]; exact zK
    have x16:X.get A.next=some (.cells [.bool (decide (z<0)),p] aa true):=by rw [hX,ap]
    have nX:X.next=A.next+2:=by rw [hX]; rfl
    clear hX;have lX:=sX.get _ _ jlb;obtain ⟨Z,hZ⟩:∃ X',X'=X.put H6.next e2:=⟨_,rfl⟩
    rw [<- hZ];have kZ:Kp H Z:=by rw [hZ]; exact zK
    have np:¬ P' H6.next:=fun h=>by rw [hP'] at h; exact h.2.2.2 rfl
    have hSZ:=(hSA.mono sX).put (c:=H6.next) (e:=e2) np zO (fun cs r h=>by rw [lX] at h; cases h) (SubT.put fun cs t r _ h=>by rw [lX] at h; cases h);rw [<- hZ] at hSZ;have zb:Z.get H6.next=some e2:=by rw [hZ,ap]
    have z16:Z.get A.next=some (.cells [.bool (decide (z<0)),p] aa true):=by rw [hZ,az zO]; exact x16
    have nZ:Z.next=A.next+2:=by rw [hZ]; exact nX
    have sAZ:SubT [bj,ae] A Z:=by rw [hZ]; exact (sX.t _).trans (SubT.put fun cs t r _ h=>by rw [lX] at h; cases h)
    have wZ:=kZ.wf;clear hZ;have z1:=hSZ.keep _ _ (hPi' _ _ (s6.get _ _ G1) zO zO (fun cs h=>by injection h with _ h2; exact absurd h2 (by decide))) (s6.get _ _ G1);have z2:=hSZ.keep _ _ (hPi' _ _ (s6.get _ _ G2) zO zO (fun cs h=>by injection h with _ h2; exact absurd h2 (by decide))) (s6.get _ _ G2);have z13:=hSZ.keep _ _ (hPi' _ _ (s6.get _ _ G13) zO zO (fun cs h=>by injection h with _ h2; exact absurd h2 (by decide))) (s6.get _ _ G13);have p15:P' (H1.next+2):=by
     rw [hP'];refine ⟨zO,zO,fun q=>?_,zO⟩;rcases o2 with ⟨rfl,-⟩ | ⟨b',cells,rfl,hb',-⟩
     ·cases q
     ·cases q
      have:=w1 _ _ hb'
      omega
    have z15:=hSZ.keep _ _ p15 (s6.get _ _ G15);have bz:=F9 blo bhi (Vo hz);refine aF ?_;refine zD (qz hl1 t5 t6 t13 z1 z2 z13 z15 z16 @al) ?_;have sZ7:Sub H (Z.up 7):=kZ.sub.trans (Sub.bump Z 7);have hsl:(((fG rn lo rn' hi).take i).map fun z=>Lin.mvG x a z g).length<=2:=by
     have:=(CJ rn lo rn' hi).2
     rw [Vc,VC]; omega
    have x1:Ans tab (.fn io [.agg [.int .u8 (3:Int),u],.int .i64 (x:Int),w,.agg [.bool (decide (z<0)),p]]) (Z.up 7) _:=yn C (H:=Z.up 7) (n:=n) (x:=x) (k:=3) (z:=z) (m:=ez) (e:=ea+1) (f:=e+1) zF (ha.mono sZ7) (hr.mono sZ7) (IntV.monoT (SubT.of (SubT.upR (m:=7) sAZ) (by simp)) ⟨p,rfl,hpz⟩) hal hrow.1 hx zO hbt gbt bz zO zO;refine AnsH.use x1 ?_;rintro _ H7 ⟨⟨w',rfl,hw'⟩,hk7⟩;obtain ⟨k7,_,w7⟩:=zT Z zK hk7;have y1:=k7.get z1;have y2:=k7.get z2;have y13:=k7.get z13;have y15:=k7.get z15;have y16:=k7.get z16;have yb:=k7.get zb;refine zD (ME hl1 t5 t6 t13 z1 z2 z13 z15 z16 y1 y2 y13 y15 y16 @al) ?_;refine AnsH.use (qP C (k:=3) (kZ.trans k7) zO hPd' (hSZ.mono k7.sub) hw' (by rw [Vr]; omega)) ?_;rintro _ H8 ⟨hS8,k8,fr8⟩;have w8:=k8.wf;have b8:H8.get H6.next=some e2:=fr8 _ _ yb (fun cs r h=>by rw [<- he2] at h; cases h) (fun cs r h=>by rw [<- he2] at h; cases h)
    refine zD (ME hl1 t5 t6 t13 z1 z2 z13 z15 z16 y1 y2 y13 y15 y16 @al) ?_;rw [uQ,he2,he];have e1:((fG rn lo rn' hi).take (i+1)).map (fun z=>Lin.mvG x a z g)=((fG rn lo rn' hi).take i).map (fun z=>Lin.mvG x a z g)++[(3,Lin.mvR x a z g.2)]:=by
     have h4:g.1=3:=zO;rw [Zl,hz,VW,<- h4]; rfl
    have sA8:SubT [bj,ae] A H8:=sAZ.trans ((k7.sub.t _).trans fun c cs t r ht h=>fr8 _ _ h (fun cs' r' q=>by cases q; revert ht; decide) (fun cs' r' q=>by cases q; revert ht; decide));refine ⟨b8,rfl,k8.put zO (w8 _ _ b8),⟨by rw [ap],?_⟩,sA8.trans (SubT.put fun cs t r _ h=>by rw [b8,<- he2] at h; cases h)⟩;rw [e1,<- WZ];exact hS8.put np zO (fun cs r h=>by rw [b8,<- he2] at h; cases h) (SubT.put fun cs t r _ h=>by rw [b8,<- he2] at h; cases h)
   ·rintro _ A ⟨hkA,jlb,hSA⟩;have wA:=hkA.wf;have ltA:=wA _ _ jlb;refine .inl ⟨jlb,?_⟩;have np:¬ P' H6.next:=fun h=>by rw [hP'] at h; exact h.2.2.2 rfl
    have e1:dm x a rn lo rn' hi g=(fG rn lo rn' hi).map fun z=>Lin.mvG x a z g:=by unfold dm; rw [if_pos zO]
    have hSB:=hSA.kill (c:=H6.next) np zO (fun cs t r h=>by rw [jlb,<- he] at h; cases h);rw [VD,<- e1,hgd,<- As hj] at hSB;have pp:∀ c,P c->P' c:=fun c h=>by
     have q1:=(hPd c h).1;have q2:=(hPd c h).2;rw [hP'];exact ⟨zO,q2,fun q=>o3 c q h,zO⟩
    have hSC:PutS P H D (H5.next+2) _ _:=hSB.back zO pp fun c e q hd=>s1D.get _ _ (hS.keep c e q hd);refine uH ?_;exact ⟨zK,hSC⟩
  ·obtain ⟨Y,hY⟩:∃ X,X=((H1.up 7).put (H1.next+2) (.cells [.int .u8 0,.nilSl] ai true)).put (H1.next+2) (.cells [.int .u8 (g.1:Int),u] ai true):=⟨_,rfl⟩
   have sY:Sub H1 Y:=by rw [hY]; exact ((Sub.bump H1 7).put r2 _).put r2 _
   have kY1:Kp H1 Y:=by rw [hY]; exact zK
   have kY:=hk1.trans kY1;have E15:Y.get (H1.next+2)=some (.cells [.int .u8 (g.1:Int),u] ai true):=by rw [hY,ap]
   have F1:=sY.get _ _ E1;have F2:=sY.get _ _ E2;have F13:=sY.get _ _ E13;have wY:=kY1.wf;refine zW (dL hl1 t42 hi1 hix L h3) ?_;rw [<- hY];clear hY;refine aF ?_;refine zD (jW hl1 t5 t6 t13 F1 F2 F13 E15 @al) ?_;have x1:Ans tab (.fn io [.agg [.int .u8 (g.1:Int),u],.int .i64 (x:Int),w,.agg [.bool false,.nilSl]]) (Y.up 7) _:=yn C (H:=Y.up 7) (n:=n) (x:=x) (k:=g.1) (z:=0) (m:=0) (e:=ea+1) (f:=e+1) zF (ha.mono (hk1.sub.trans (sY.trans (Sub.bump Y 7)))) (hr.mono (hk1.sub.trans (sY.trans (Sub.bump Y 7)))) ⟨.nilSl,rfl,Jt _⟩ hal hrow.1 hx zO hbt gbt (Bt.zero 0) zO zO;refine AnsH.use x1 ?_;rintro _ H6 ⟨⟨w',rfl,hw'⟩,hk6⟩;obtain ⟨k6,_,w6⟩:=zT Y zK hk6;have G13:=k6.get F13;have G1:=k6.get F1;have G2:=k6.get F2;have G15:=k6.get E15;have hS6:=hS.mono (sY.trans k6.sub);refine zD (Kn hl1 t5 t6 t13 F1 F2 F13 E15 G13 G1 G2 G15 @al) ?_;refine AnsH.use (qP C (k:=g.1) (kY.trans k6) zO hPd hS6 hw' zO) ?_;rintro _ H7 ⟨hS7,k7,-⟩;have w7:=k7.wf;refine zD (Kn hl1 t5 t6 t13 F1 F2 F13 E15 G13 G1 G2 G15 @al) ?_;have e1:dm x a rn lo rn' hi g=[(g.1,Lin.mvR x a 0 g.2)]:=by unfold dm; rw [if_neg zO]; rfl
   exact ⟨zK,by rw [As hj,<- hgd,e1]; exact hS7⟩
 ·intro T1 H1 hl1 hs1 hk1 hS;have t4:ad T1 4=.ptr H.next 0:=(hs1.at_ 4 (by decide)).trans (zV (bA hl g0 g1 g2 g3))
  have t5:ad T1 5=.ptr (H.next+1) 0:=(hs1.at_ 5 (by decide)).trans (zV (bA hl g0 g1 g2 g3));have t7:ad T1 7=.ptr (H.next+3) 0:=(hs1.at_ 7 (by decide)).trans (zV (bA hl g0 g1 g2 g3));have t8:ad T1 8=.ptr (H.next+4) 0:=(hs1.at_ 8 (by decide)).trans (zV (bA hl g0 g1 g2 g3));have t12:ad T1 12=.ptr (H5.next+2) 0:=(hs1.at_ 12 (by decide)).trans (zV (bA hl g0 g1 g2 g3));have t13:ad T1 13=.ptr (H5.next+4) 0:=(hs1.at_ 13 (by decide)).trans (zV (bA hl g0 g1 g2 g3));rw [VD] at hS;clear hs1 hl g0 g1 g2 g3
  generalize hR:ACode.seq (ACode.region [_,_,_,_,_,_,_,_]) ACode.ret=R
  have fin:∀ (T9:Tm) (H9:Heap),T9.length=114->ad T9 4=.ptr H.next 0->ad T9 8=.ptr (H.next+4) 0->ad T9 12=.ptr (H5.next+2) 0->Kp H H9->PutS P H D (H5.next+2) H9 (nK n x a rn lo rn' hi G)->WC tab false R T9 H9 (uR [(8,some (some 3)),(9,none)] fun r H'=>Df H' r n (nK n x a rn lo rn' hi G)/\Kp H H'):=by
   intro T9 H9 l9 g4 g8 g12 k9 hS9;rw [<- hR];have w9:=k9.wf;have d0:=hS9.keep _ _ (hPi _ zO zO) D0;have d4:=hS9.keep _ _ (hPi _ zO zO) D4;obtain ⟨v9,o1,o2,-⟩:=hS9.own;have vb:=Jh (x:=x) (rn:=rn) (rn':=rn') hn3 hal hab (fun y hy=>(ho.rowG y hy).2) blo bhi;have vv:=HP (x:=x) (a:=a) (rn:=rn) (rn':=rn') (lo:=lo) (hi:=hi) ho.own.valid;have cb:=xI hn3 (fun y hy=>⟨(vv y hy).1,vb y hy⟩);have gb:=sL hn3 cb;have os:=o2.sl.one;refine zW (bA l9 g4 g12 d0 o1) ?_;refine AnsH.use (vN C (n:=n) (m:=e+ea+ez+3) (m2:=16*(e+ea+ez+3+4)) (m3:=16*(16*(e+ea+ez+3+4)+4)) zF (o2.sl.mono (Kp.sub (H:=H9) zK)) zO (by have:=NN (n:=n) (x:=x) (a:=a) (rn:=rn) (rn':=rn') (lo:=lo) (hi:=hi) hG; omega) vv (K5 hkG) vb zO (fun y hy=>(cb y hy).2) zO (fun y hy=>(gb y hy).2) zO hlc) ?_;rintro v2 HA ⟨hm,hkA⟩;have kA:Kp H9 HA:=Kp.trans zK hkA;have wA:=kA.wf;have d8:=kA.get d4;have ltA:=wA _ _ d8;have kHA:=k9.trans kA;rcases hm with ⟨rfl,hm⟩ | ⟨rfl,hm⟩ | ⟨p,rfl,⟨vc2,vg2,rfl,hc2,hg2⟩,h1,h2⟩
   ·refine zW (aQ l9 g8 d8 @mY) ?_;exact ⟨.inl ⟨rfl,hm⟩,zK⟩
   ·refine zW (aQ l9 g8 d8 @mY) ?_;exact ⟨.inr (.inl ⟨rfl,hm⟩),zK⟩
   ·have oc2:=hc2.one;have og2:=hg2.one;refine zW (aQ l9 g8 d8 @mY) ?_;refine ⟨.inr (.inr ⟨_,rfl,⟨vc2,vg2,rfl,?_,?_⟩,h1,h2⟩),zK⟩
    ·have m3:NoTy (t_api_Con :: conE.tys) HA (H.next+4):=NoTy.ty d8 (by decide);exact SlV.monoT (E:=conE) zS hc2
    ·have m3:NoTy (ai :: genE.tys) HA (H.next+4):=NoTy.ty d8 (by decide);exact SlV.monoT (E:=genE) zS hg2
  clear hR;obtain ⟨v0,o1,o2,o3⟩:=hS.own;have ov:=o2.sl.one;have E0:=hS.keep _ _ (hPi _ zO zO) D0;have E1:=hS.keep _ _ (hPi _ zO zO) D1;have E3:=hS.keep _ _ (hPi _ zO zO) D3;have E13:=hS.keep _ _ (hPi _ zO zO) b13;have gl:=su x a rn lo rn' hi G;have w1:=hk1.wf;have le_hk1:=hk1.le;have lD1:=hS.le;by_cases hG0:G=[]
  ·have e1:nK n x a rn lo rn' hi G=G.flatMap (dm x a rn lo rn' hi):=by unfold nK; rw [if_pos hG0,Wy]
   have e2:((G.flatMap (dm x a rn lo rn' hi)).length:Int)=0:=by rw [hG0]; rfl
   refine zW (bA hl1 t12 o1 o2.sl.lenV e2) ?_;refine fin _ _ (zV hl1) (zV (aD hl1 t4)) (zV (aD hl1 t8)) (zV (aD hl1 t12)) zK ?_;rw [e1];exact hS.mono (Sub.bump _ _)
  ·have e0:nK n x a rn lo rn' hi G=G.flatMap (dm x a rn lo rn' hi)++nd n x rn rn':=by unfold nK; rw [if_neg hG0]
   have e2:¬ ((G.flatMap (dm x a rn lo rn' hi)).length:Int)=0:=by
    have:0<G.length:=Z0.2 hG0
    omega
   cases rn
   ·cases rn'
    ·refine zW (iy hl1 t12 o1 o2.sl.lenV e2 t7 E3 @P3) ?_;refine fin _ _ (zV hl1) (zV (aD hl1 t4)) (zV (aD hl1 t8)) (zV (aD hl1 t12)) zK ?_;rw [e0,show nd n x false false=[] from rfl,Wy];exact hS.mono (Sub.bump _ _)
    ·refine zW (iy hl1 t12 o1 o2.sl.lenV e2 t7 E3 @P3) ?_;refine aF ?_;refine zD (iy hl1 t4 t5 t13 E0 E1 E13 @al) ?_;have x1:Ans tab (.fn gO [.int .i64 (n:Int),.int .i64 (x:Int),.int .u8 2,.int .i64 (1)]) (H1.up 27) _:=ux C (n:=n) (x:=x) zF zO hx (by decide) (by decide);refine AnsH.use x1 ?_;rintro _ H6 ⟨⟨w',rfl,hw'⟩,hk6⟩;obtain ⟨k6,_,w6⟩:=zT H1 zK hk6;have G0:=k6.get E0;have G1:=k6.get E1;have G13:=k6.get E13;refine zD (iO hl1 t4 t5 t13 E0 E1 E13 G0 G1 G13 @al) ?_;refine AnsH.use (qP C (k:=2) (hk1.trans k6) zO hPd (hS.mono k6.sub) hw' zO) ?_;rintro _ H7 ⟨hS7,k7,-⟩;have w7:=k7.wf;refine zD (iO hl1 t4 t5 t13 E0 E1 E13 G0 G1 G13 @al) ?_;refine fin _ _ (zV hl1) (zV (aD hl1 t4)) (zV (aD hl1 t8)) (zV (aD hl1 t12)) zK ?_;rw [e0];exact hS7
   ·cases rn'
    ·refine zW (iy hl1 t12 o1 o2.sl.lenV e2 t7 E3 @P3) ?_;refine aF ?_;refine zD (iy hl1 t4 t5 t13 E0 E1 E13 @al) ?_;have x1:Ans tab (.fn gO [.int .i64 (n:Int),.int .i64 (x:Int),.int .u8 2,.int .i64 (-1)]) (H1.up 23) _:=ux C (n:=n) (x:=x) zF zO hx (by decide) (by decide);refine AnsH.use x1 ?_;rintro _ H6 ⟨⟨w',rfl,hw'⟩,hk6⟩;obtain ⟨k6,_,w6⟩:=zT H1 zK hk6;have G0:=k6.get E0;have G1:=k6.get E1;have G13:=k6.get E13;refine zD (iO hl1 t4 t5 t13 E0 E1 E13 G0 G1 G13 @al) ?_;refine AnsH.use (qP C (k:=2) (hk1.trans k6) zO hPd (hS.mono k6.sub) hw' zO) ?_;rintro _ H7 ⟨hS7,k7,-⟩;have w7:=k7.wf;refine zD (iO hl1 t4 t5 t13 E0 E1 E13 G0 G1 G13 @al) ?_;refine fin _ _ (zV hl1) (zV (aD hl1 t4)) (zV (aD hl1 t8)) (zV (aD hl1 t12)) zK ?_;rw [e0];exact hS7
    ·refine zW (iy hl1 t12 o1 o2.sl.lenV e2 t7 E3 @P3) ?_;refine aF ?_;refine zD (iy hl1 t4 t5 t13 E0 E1 E13 @al) ?_;have x1:Ans tab (.fn gO [.int .i64 (n:Int),.int .i64 (x:Int),.int .u8 1,.int .i64 (1)]) (H1.up 19) _:=ux C (n:=n) (x:=x) zF zO hx (by decide) (by decide);refine AnsH.use x1 ?_;rintro _ H6 ⟨⟨w',rfl,hw'⟩,hk6⟩;obtain ⟨k6,_,w6⟩:=zT H1 zK hk6;have G0:=k6.get E0;have G1:=k6.get E1;have G13:=k6.get E13;refine zD (iO hl1 t4 t5 t13 E0 E1 E13 G0 G1 G13 @al) ?_;refine AnsH.use (qP C (k:=1) (hk1.trans k6) zO hPd (hS.mono k6.sub) hw' zO) ?_;rintro _ H7 ⟨hS7,k7,-⟩;have w7:=k7.wf;refine zD (iO hl1 t4 t5 t13 E0 E1 E13 G0 G1 G13 @al) ?_;refine fin _ _ (zV hl1) (zV (aD hl1 t4)) (zV (aD hl1 t8)) (zV (aD hl1 t12)) zK ?_;rw [e0];exact hS7
set_option maxHeartbeats 1000000 in
def AZ (C:Code tab) (hw:Wf H) {v w:AV} {n e f:Nat} {x:Int} {K:List (List Int × Bool)} {G:List (Nat × List Int)} {l:List (Bool × List Nat)} (hp:PolyV H v n K G) (ho:PolyOK n e f K G) (hs:SlV rawE aa H w l) (hbig:rV l) (hbad:j8 n x≠0\/jY n l≠0) :
  Ans tab (.fn lz [v,.int .i64 x,w]) H fun r H'=>(∃ c:Int,c≠0/\r=.tup [Ay,.int .i64 c])/\Kp H H':=by
 obtain ⟨vc,vg,rfl,hC,hg⟩:=hp;have oc:=hC.one;have og:=hg.one;have ow:=hs.one;have hdim:=ho.dim;refine kS C.q5 (by decide) fun T hl g0 g1 g2=>?_;refine zW (bA hl g0 g1 g2 (kU oc og)) ?_;refine AnsH.eq (oo C (n:=n) (x:=x) zF ⟨vc,vg,rfl,hC.mono (Kp.sub (H:=H) zK),hg.mono (Kp.sub (H:=H) zK)⟩ ho) fun H2 hk2=>?_;obtain ⟨k2,_,w2⟩:=zT H zK hk2;have d0:H2.get H.next=some (.cells [.int .i64 (n:Int),vc,vg] ak true):=hk2.get (cH)
 have d1:H2.get (H.next+1)=some (.cells [.int .i64 0,.nilSl,.nilSl] ak true):=hk2.get (cH);by_cases hp0:j8 n x=0
 ·have hr0:¬ jY n l=0:=by
   rcases hbad with h | h
   ·exact absurd hp0 h
   ·exact h
  refine zW (fy hl g0 g1 g2 hp0 g2 d0) ?_;refine AnsH.eq (ry C (n:=n) zF ⟨vc,vg,rfl,(hC.mono k2.sub).mono (Kp.sub (H:=H2) zK),(hg.mono k2.sub).mono (Kp.sub (H:=H2) zK)⟩ zO ((hs.mono k2.sub).mono (Kp.sub (H:=H2) zK)) hbig) fun H3 hk3=>?_;obtain ⟨k23,_,_⟩:=zT H2 zK hk3;have k3:Kp H H3:=k2.trans k23;have le_k3:=k3.le;have w3:=k3.wf;have c1:=k23.get d1;refine zW (iy hl g0 g1 g2 hr0 @c1 @mY @kU) ?_;exact ⟨⟨_,hr0,rfl⟩,zK⟩
 ·refine zW (fy hl g0 g1 g2 hp0 d1 @mY) ?_;exact ⟨⟨_,hp0,rfl⟩,zK⟩
def Fu (C:Code tab) (hw:Wf H) {v:AV} {n n':Bool} {lo hi:Int} {m:Nat} (hi':ItvV H v n lo n' hi) :
  Ans tab (.fn fg [v,.int .i64 (m:Int)]) H fun x H'=>x=.bool (decide (m<(ag lo.natAbs).length) || decide (m<(ag hi.natAbs).length))/\Kp H H':=by
 obtain ⟨pl,ph,rfl,hpl,hph⟩:=hi';have opl:=hpl.one;have oph:=hph.one;have bx:=OZ (am n) (am (decide (lo<0))) opl (am n') (am (decide (hi<0))) oph;refine bB C.q16 (by decide) fun T hl g0 g1=>?_;have UB:aY [AV.bool n,.bool (decide (lo<0)),pl,.bool n',.bool (decide (hi<0)),ph] 2 none=some pl:=rfl;have UA:aY [AV.bool n,.bool (decide (lo<0)),pl,.bool n',.bool (decide (hi<0)),ph] 5 none=some ph:=rfl;by_cases h1:m<(ag lo.natAbs).length
 ·refine zW (dL hl g0 g1 bx hpl.lenV h1) ?_;exact ⟨rfl,zK⟩
 ·refine zW (iy hl g0 g1 bx @UA hpl.lenV hph.lenV h1) ?_;exact ⟨by simp,zK⟩
set_option maxHeartbeats 1000000 in
def FO (C:Code tab) (hw:Wf H) {v w vi:AV} {n:Nat} {c:List (List Int × Bool)} {g:List (Nat × List Int)} {l:List (Bool × List Nat)} {rn rn':Bool} {lo hi:Int} (hp:PolyV H v n c g) (hs:SlV rawE aa H w l) (hi':ItvV H vi rn lo rn' hi) :
  Ans tab (.fn fj [v,w,vi]) H fun x H'=>x=.bool (jT c g || decide (4<n) || decide (6<c.length) || decide (4<g.length) || fW 5 1 l || (decide (1<(ag lo.natAbs).length) || decide (1<(ag hi.natAbs).length)))/\Kp H H':=by
 obtain ⟨vc,vg,rfl,hc,hg⟩:=hp;have hii:=hi';obtain ⟨pl,ph,rfl,hpl,hph⟩:=hi';have oc:=hc.one;have og:=hg.one;have ow:=hs.one;have opl:=hpl.one;have oph:=hph.one;have bx:=OZ (am rn) (am (decide (lo<0))) opl (am rn') (am (decide (hi<0))) oph;refine kS C.q4 (by decide) fun T hl g0 g1 g2=>?_;refine zW (dL hl g0 g1 g2 (kU oc og) bx) ?_;refine AnsH.eq (m6 C (n:=n) (c:=c) (g:=g) zF ⟨vc,vg,rfl,hc.mono (Kp.sub (H:=H) zK),hg.mono (Kp.sub (H:=H) zK)⟩) fun H2 hk2=>?_;obtain ⟨k2,_,w2⟩:=zT H zK hk2;have d0:H2.get H.next=some (.cells [.int .i64 (n:Int),vc,vg] ak true):=hk2.get (cH)
 have d1:H2.get (H.next+1)=some (.cells [.bool rn,.bool (decide (lo<0)),pl,.bool rn',.bool (decide (hi<0)),ph] br true):=hk2.get (cH)
 generalize hq1:(jT c g || decide (4<n))=q1
 cases q1 with
 | true =>
  refine zW (aQ hl g0 g1 g2) ?_;exact ⟨by simp,zK⟩
 | false =>
 by_cases h2:6<c.length
 ·have h2':(6:Int)<(c.length:Int):=zO;refine zW (fy hl g0 g1 g2 d0 hc.lenV h2') ?_;exact ⟨by simp [h2],zK⟩
 have h2':¬ (6:Int)<(c.length:Int):=zO;by_cases h3:4<g.length
 ·have h3':(4:Int)<(g.length:Int):=zO;refine zW (jW hl g0 g1 g2 d0 hc.lenV h2' hg.lenV h3') ?_;exact ⟨by simp [h3],zK⟩
 have h3':¬ (4:Int)<(g.length:Int):=zO;refine zW (qz hl g0 g1 g2 d0 hc.lenV h2' hg.lenV h3' g1) ?_;refine AnsH.eq (qO C (many:=5) (lim:=1) zF ((hs.mono k2.sub).mono (Kp.sub (H:=H2) zK)) zO) fun H3 hk3=>?_;obtain ⟨k23,_,_⟩:=zT H2 zK hk3;have k3:Kp H H3:=k2.trans k23;have le_k3:=k3.le;have w3:=k3.wf;have e1:=k23.get d1;cases q4:fW 5 1 l with
 | true =>
  refine zW (aQ hl g0 g1 g2) ?_;exact ⟨by simp,zK⟩
 | false =>
 refine zW (dL hl g0 g1 g2 e1 @E9) ?_;refine AnsH.eq (Fu C (m:=1) zF ((hii.mono k3.sub).mono (Kp.sub (H:=H3) zK))) fun H4 hk4=>?_;obtain ⟨k4,_,w4⟩:=zT H3 zK hk4;have kH4:=k3.trans k4;refine zW (aQ hl g0 g1 g2) ?_;exact ⟨by simp [h2,h3],zK⟩
def Ti {a b c d e f x1 x2 x3 x4 x5 x6:AV} {ty:Nat} (h1:One x1) (h2:One x2) (h3:One x3) (h4:One x4) (h5:One x5) (h6:One x6):BY (some (.cells [a,b,c,d,e,f] ty true)) 6 0 (.agg [x1,x2,x3,x4,x5,x6])=some (.cells [x1,x2,x3,x4,x5,x6] ty true):=by
 simp [BY,AV.cells,h1.2,h2.2,h3.2,h4.2,h5.2,h6.2]
def TK {a b:AV} (ha:One a) (hb:One b):cG [.bool false,.bool false,.nilSl] [((1,2),.agg [a,b])]=some [.bool false,a,b]:=by simp [cG,ha.1,ha.2,hb.1,hb.2,AV.cells]
def Us {a b:AV} (ha:One a) (hb:One b):fu [.bool false,.bool false,.nilSl] [((1,2),.agg [a,b])]=some (.agg [.bool false,a,b]):=by
 have:=TK ha hb
 simp [fu,this]
def Oo (C:Code tab) (hw:Wf H) {v:AV} {z:Int} (hz:IntV H v z) (hbig:(ag z.natAbs).length<1099511627776) :
  Ans tab (.fn AH [v]) H fun r H'=>(∃ p,r=.agg [.bool false,.bool (decide (z<0)),p]/\bJ H' p z.natAbs)/\Kp H H':=by
 obtain ⟨p,rfl,hp⟩:=hz;have op:=hp.one;have bx:=OY (am (decide (z<0))) op;refine cR C.q39 (by decide) fun T hl g0=>?_;refine zW (aE hl g0 bx) ?_;obtain ⟨X,hX⟩:∃ X',X'=(((H.up 2).put H.next (.cells [.bool (decide (z<0)),p] aa true)).put (H.next+1) (.cells [.bool false,.bool false,.nilSl] bj true)):=⟨_,rfl⟩
 rw [<- hX];have f0:H.get H.next=none:=hw.fresh zO
 have f1:H.get (H.next+1)=none:=hw.fresh zO;have sX:Sub H X:=by rw [hX]; exact ((Sub.bump H 2).put f0 _).put f1 _
 have kX:Kp H X:=by rw [hX]; exact zK
 have d0:X.get H.next=some (.cells [.bool (decide (z<0)),p] aa true):=by rw [hX,az zO,ap]
 have d1:X.get (H.next+1)=some (.cells [.bool false,.bool false,.nilSl] bj true):=by rw [hX,ap]
 clear hX;have wX:=kX.wf;refine aF ?_;refine zD (aQ hl g0 d0 @al) ?_;refine AnsH.use (gJ C zF (hp.mono (sX.trans (Sub.bump X 8))) hbig) ?_;rintro q H2 ⟨hq,hk2⟩;obtain ⟨k2,_,w2⟩:=zT X zK hk2;have e0:=k2.get d0;have e1:=k2.get d1;have oq:=hq.one;have lt1:=w2 _ _ e1;have kH2:=kX.trans k2;have f2:=Rh (x:=.bool false) (y:=.nilSl) (am (decide (z<0))) oq;have f3:=Us (am (decide (z<0))) oq;refine zD (jW hl g0 d0 e0 e1 f2 f3 @mY @al) ?_;exact ⟨⟨q,rfl,hq.monoT (SubT.put_ty e1 (by decide))⟩,zK⟩
def Ur {a b c d e f:AV} (ha:One a) (hb:One b) (hc:One c) (hd:One d) (he:One e) (hf:One f):fu [.bool false,.bool false,.nilSl,.bool false,.bool false,.nilSl] [((0,3),.agg [a,b,c]),((3,3),.agg [d,e,f])]=some (.agg [a,b,c,d,e,f]):=by
 have:cG [.bool false,.bool false,.nilSl,.bool false,.bool false,.nilSl] [((0,3),.agg [a,b,c]),((3,3),.agg [d,e,f])]=some [a,b,c,d,e,f]:=by simp [cG,ha.1,ha.2,hb.1,hb.2,hc.1,hc.2,hd.1,hd.2,he.1,he.2,hf.1,hf.2,AV.cells]
 simp [fu,this]
set_option maxHeartbeats 1000000 in
def SA (C:Code tab) (hw:Wf H) {a b:Int} (h1 : -9223372036854775808<=a) (h2:b<9223372036854775808) (hab:a<=b) :
  Ans tab (.fn AI [.int .i64 a,.int .i64 b]) H fun r H'=>(∃ v,r=.tup [v,.int .i64 0]/\ItvV H' v false a false b)/\Kp H H':=by
 refine bB C.q14 (by decide) fun T hl g0 g1=>?_;have hn:¬ b<a:=zO;refine zW (aQ hl g0 g1 hn) ?_;refine AnsH.use (iP C (n:=a) zF zO zO) ?_;rintro v1 H2 ⟨i1,hk2⟩;obtain ⟨k2,_,w2⟩:=zT H zK hk2;have d0:H2.get H.next=some (.cells [.bool false,.bool false,.nilSl,.bool false,.bool false,.nilSl] br true):=hk2.get (cH)
 refine zW (aE hl g0 g1) ?_;have ba:(ag a.natAbs).length<1099511627776:=by
  have:=ru (n:=a.natAbs) (m:=64) (k:=1) (show a.natAbs<2^64 by omega) zO
  omega
 have bb:(ag b.natAbs).length<1099511627776:=by
  have:=ru (n:=b.natAbs) (m:=64) (k:=1) (show b.natAbs<2^64 by omega) zO
  omega
 refine AnsH.use (Oo C zF i1 ba) ?_;rintro _ H3 ⟨⟨p,rfl,hp⟩,hk3⟩;have k23:Kp H2 H3:=hk3;have le_k23:=k23.le;have k3:=k2.trans k23;have w3:=k3.wf;have d0b:=k23.get d0;have op:=hp.one;refine zW (aQ hl g0 g1 g1) ?_;refine AnsH.use (iP C (n:=b) zF zO zO) ?_;rintro v2 H4 ⟨i2,hk4⟩;have k34:Kp H3 H4:=hk4;have le_k34:=k34.le;have k4:=k3.trans k34;have w4:=k4.wf;have d0c:=k34.get d0b;refine zW (aE hl g0 g1) ?_;refine AnsH.use (Oo C zF i2 bb) ?_;rintro _ H5 ⟨⟨q,rfl,hq⟩,hk5⟩;have k45:Kp H4 H5:=hk5;have le_k45:=k45.le;have k5:=k4.trans k45;have w5:=k5.wf;have d0d:=k45.get d0c;have oq:=hq.one;have lt5:=w5 _ _ d0d;have fb:=Ur (am false) (am (decide (a<0))) op (am false) (am (decide (b<0))) oq;have s6:=Ti (a:=.bool false) (b:=.bool false) (c:=.nilSl) (d:=.bool false) (e:=.bool false) (f:=.nilSl) (ty:=br) (am false) (am (decide (a<0))) op (am false) (am (decide (b<0))) oq;refine zW (fy hl g0 g1 fb d0d s6 @E9) ?_;exact ⟨⟨_,rfl,p,q,rfl,(hp.mono (k34.sub.trans k45.sub)).monoT (SubT.put_ty d0d (by decide)),hq.monoT (SubT.put_ty d0d (by decide))⟩,zK⟩
set_option maxHeartbeats 1000000 in
def rv (C:Code tab) (hw:Wf H) {a b:Int} (h1 : -9223372036854775808<=a) (h2:b<9223372036854775808) (hab:a<=b) :
  Ans tab (.fn ib [.int .i64 a,.int .i64 b]) H fun v H'=>ItvV H' v false a false b/\Kp H H':=by
 refine bB C.q3 (by decide) fun T hl g0 g1=>?_;refine zW (aE hl g0 g1) ?_;refine AnsH.use (SA C (a:=a) (b:=b) zF h1 h2 hab) ?_;rintro _ H2 ⟨⟨_,rfl,p,q,rfl,hp,hq⟩,hk2⟩;obtain ⟨k2,_,w2⟩:=zT H zK hk2;have le2:H.next+10<=H2.next:=hk2.le
 have d0:H2.get H.next=some (.cells [.bool false,.bool false,.nilSl,.bool false,.bool false,.nilSl] br true):=hk2.get (cH)
 have f7:H2.get (H.next+7)=none:=hk2.free (show H.next+7<H.next+10 by omega) (by rw [az zO]; exact hw.fresh (b:=H.next+7) zO);have op:=hp.one;have oq:=hq.one;have s6:=Ti (a:=.bool false) (b:=.bool false) (c:=.nilSl) (d:=.bool false) (e:=.bool false) (f:=.nilSl) (ty:=br) (am false) (am (decide (a<0))) op (am false) (am (decide (b<0))) oq;obtain ⟨H5,hH5⟩:∃ H5,H5=((H2.up 2).put (H.next+7) (.cells [.bool false,.bool false,.nilSl,.bool false,.bool false,.nilSl] br true)).put (H.next+7) (.cells [.bool false,.bool (decide (a<0)),p,.bool false,.bool (decide (b<0)),q] br true):=⟨_,rfl⟩
 have s45:Sub H2 H5:=by rw [hH5]; exact ((Sub.bump H2 2).put f7 _).put f7 _
 have d0e:=s45.get _ _ d0;have d7:H5.get (H.next+7)=some (.cells [.bool false,.bool (decide (a<0)),p,.bool false,.bool (decide (b<0)),q] br true):=by rw [hH5,ap]
 have k5:Kp H H5:=by rw [hH5]; exact zK
 have le_k5:=k5.le;have n5:H5.next=H2.next+2:=by rw [hH5]; rfl
 refine zW (dL hl g0 g1 s6 d0 @E9) ?_;rw [<- hH5];refine ⟨⟨p,q,rfl,(hp.mono s45).monoT (SubT.put_ty d0e (by decide)),(hq.mono s45).monoT (SubT.put_ty d0e (by decide))⟩,zK⟩
def FP (C:Code tab) (hw:Wf H) {v v':AV} {n n':Nat} {c c':List (List Int × Bool)} {g g':List (Nat × List Int)} (hp:PolyV H v n c g) (hp':PolyV H v' n' c' g') (hc1:c.length<1099511627776) (hc2:∀ r∈c,r.1.length<1099511627776/\∀ z∈r.1,dJ z) (hg1:g.length<1099511627776) (hg2:∀ r∈g,r.2.length<1099511627776/\∀ z∈r.2,dJ z) :
  Ans tab (.fn ic [v,.int .i64 0,v']) H fun x H'=>x=.bool (decide (n=n'/\c=c'/\g=g'))/\Kp H H':=by
 obtain ⟨vc,vg,rfl,hc,hg⟩:=hp;obtain ⟨vc',vg',rfl,hc',hg'⟩:=hp';have oc:=hc.one;have og:=hg.one;have oc':=hc'.one;have og':=hg'.one;refine kS C.q11 (by decide) fun T hl g0 g1 g2=>?_;refine zW (dL hl g0 g1 g2 (kU oc og) (kU oc' og')) ?_;refine AnsH.eq (HH C (n:=n) (n':=n') zF ⟨vc,vg,rfl,hc.mono (Kp.sub (H:=H) zK),hg.mono (Kp.sub (H:=H) zK)⟩ ⟨vc',vg',rfl,hc'.mono (Kp.sub (H:=H) zK),hg'.mono (Kp.sub (H:=H) zK)⟩ hc1 hc2 hg1 hg2) fun H2 hk2=>?_;obtain ⟨k2,_,_⟩:=zT H zK hk2;refine zW (aQ hl g0 g1 g2) ?_;exact zK
end
section
variable {tab:Nat->Option aA} {H:Heap} {s:AV}
def KN {a b:Int} (ha:a.natAbs<=9) (hb:b.natAbs<=9):∀ c∈[(([-a,1]:List Int),false),([b,-1],false)],c.1.length=1+1/\Lin.Bd (2^4) c.1:=fun c hc=>by
 have key:∀ x y:Int,x.natAbs<=9->y.natAbs<=9->Lin.Bd (2^4) [x,y]:=fun x y hx hy i=>by
  match i with
  | 0=>show x.natAbs<=16; omega
  | 1=>show y.natAbs<=16; omega
  | i+2=>simp [Lin.at_]
 rcases VA.1 hc with rfl | hc
 ·exact ⟨rfl,key _ _ zO zO⟩
 ·rw [V7] at hc; subst hc;exact ⟨rfl,key _ _ hb zO⟩
end
section
variable {tab:Nat->Option aA} {H:Heap}
set_option maxHeartbeats 2000000 in
def ol (C:Code tab) (hw:Wf H) {a b:Int} (ha:a.natAbs<=9) (hb:b.natAbs<=9) {g:List (Nat × List Int)} {K:List (List Int × Bool)} (hG:Lin.gensP 1 [([-a,1],false),([b,-1],false)]=g) (hK:Lin.consP 1 g=K) (lg:g.length<1024) (lK:K.length<1024) :
  Ans tab (.fn eB [.int .i64 a,.int .i64 b]) H fun v H'=>PolyV H' v 1 K g/\Kp H H':=by
 refine bB C.q9 zU fun T hl g0 g1=>?_;have ea:IntKind.i64.wrap (0-a) = -a:=by rw [wrap_i64] <;> omega
 refine zW (aQ hl g0 g1 ea) ?_;have e0:Emp (H.up 18) H.next (H.next+18):=Emp.start hw
 refine AnsH.use (Dr C (l:=[-a,1]) zF (vz (by refine uH ?_; rfl)) (by simp) (by simp; omega)) ?_;rintro v3 H2 ⟨r3,hk2⟩;obtain ⟨k2,_,w2⟩:=zT H zK hk2;have d0:H2.get H.next=some (.cells [.int .i64 0,.nilSl,.nilSl] ak true):=hk2.get (cH)
 have e2:Emp H2 (H.next+4) (H.next+18):=(((e0.put (p:=H.next) (a':=H.next+1) zO zO).put zO zO).keep hk2)
 have n2:=e2.1;have o3:=r3.one;refine zW (aQ hl g0 g1 (zm o3)) ?_;refine AnsH.use (Dr C (l:=[b,-1]) zF (vz (by refine uH ?_; rfl)) (by simp) (by simp; omega)) ?_;rintro v5 H3 ⟨r5,hk3⟩;obtain ⟨k3,_,w3⟩:=zT H zK hk3;have e3:Emp H3 (H.next+8) (H.next+18):=(e2.put zO zO).keep hk3;have n3:=e3.1;have s23:Sub H2 H3:=(e2.sub (p:=H.next+7) zO zO).trans hk3.sub;have o5:=r5.one;have d0b:=s23.get _ _ d0;refine zW (aQ hl g0 g1 (zm o5)) ?_;obtain ⟨G3,hG3⟩:∃ G,G=H3.put (H.next+10) (.cells [v3,.bool false,v5,.bool false] t_api_Con true):=⟨_,rfl⟩
 rw [<- hG3];have e3':Emp G3 (H.next+11) (H.next+18):=by rw [hG3]; exact e3.put zO zO
 have s3:Sub H3 G3:=by rw [hG3]; exact e3.sub zO zO
 have k3':Kp H G3:=by rw [hG3]; exact zK
 have w3':=k3'.wf;have n3':=e3'.1;have d0c:=s3.get _ _ d0b;have R1:SlV conE t_api_Con G3 (.own (H.next+10) 0 2 2 2 true) [([-a,1],false),([b,-1],false)]:=Tx (by rw [hG3]; exact ap _ _ _) (r3.mono (s23.trans s3)) (r5.mono s3);have sb:=KN ha hb;have gb:=vI (n:=1) zO sb;refine AnsH.use (pU C (n:=1) (m:=4) (m2:=64*(4+4)) zF R1 zO (by simp) sb zO (fun x hx=>(gb x hx).2) zO) ?_;rintro v4 H4 ⟨hm4,hk4⟩;have k4:Kp H H4:=k3'.trans hk4;have le_k4:=k4.le;have w4:=k4.wf;have e4:Emp H4 (H.next+11) (H.next+18):=e3'.keep hk4;have n4:=e4.1;have d0d:=hk4.get d0c;rw [hG] at hm4;unfold qx at hm4;rw [hK] at hm4;rcases hm4 with ⟨-,hm4⟩ | ⟨p,rfl,⟨vc,vg,rfl,hc,hg⟩,-,-⟩
 ·omega
 have oc:=hc.one;have og:=hg.one;obtain ⟨H5,hH5⟩:∃ H5,H5=((H4.up 2).put (H.next+15) (.cells [.int .i64 0,.nilSl,.nilSl] ak true)).put (H.next+15) (.cells [.int .i64 ((1:Nat):Int),vc,vg] ak true):=⟨_,rfl⟩
 have f13:=e4.2 (H.next+15) zO zO;have s45:Sub H4 H5:=by rw [hH5]; exact ((Sub.bump H4 2).put f13 _).put f13 _
 have d0e:=s45.get _ _ d0d;have k5:Kp H H5:=by rw [hH5]; exact zK
 have le_k5:=k5.le;have n5:H5.next=H4.next+2:=by rw [hH5]; rfl
 refine zW (bA hl g0 g1 @mY d0d) ?_;rw [<- hH5];refine ⟨⟨vc,vg,rfl,?_,?_⟩,zK⟩
 ·have m3:NoTy (t_api_Con :: conE.tys) H5 H.next:=NoTy.ty d0e zU
  exact SlV.monoT (E:=conE) zS (hc.mono s45)
 ·have m3:NoTy (ai :: genE.tys) H5 H.next:=NoTy.ty d0e zU
  exact SlV.monoT (E:=genE) zS (hg.mono s45)
end
section
variable {tab:Nat->Option aA} {H:Heap} {s:AV}
def ok1 {K:List (List Int × Bool)} {G:List (Nat × List Int)} (h1:Lin.gensP 1 K=G) (h2:Lin.consP 1 G=K) (h:(K.all (fun x=>decide (x.1.length=2) && x.1.all (fun a=>decide (a.natAbs<=16))) && G.all (fun x=>x.2.all (fun a=>decide (a.natAbs<=16))) && decide (K.length<=60) && decide (G.length<60))=true):PolyOK 1 4 4 K G:=by
 simp only [VG,Vy,decide_eq_true_eq] at h;obtain ⟨⟨⟨h3,h4⟩,h5⟩,h6⟩:=h;exact ⟨⟨fun c hc=>(h3 c hc).1,h1,h2⟩,zO,.inl h5,zO,fun c hc=>Lin.bd_small4 (Vy.2 fun a ha=>decide_eq_true ((h3 c hc).2 a ha)),fun x hx=>Lin.bd_small4 (Vy.2 fun a ha=>decide_eq_true (h4 x hx a ha)),zO,zO⟩
def Ui:PolyOK 1 4 4 [([-1,1],false),([3,-1],false)] [(3,[1,1]),(3,[1,3])]:=ok1 Lin.g13 Lin.k13 zU
def Tu {H:Heap} {x:AV} {K:List (List Int × Bool)} {G:List (Nat × List Int)} (h:qx H x 1 G) (ok:PolyOK 1 4 4 K G):∃ vc vg,x=.tup [.agg [.int .i64 1,vc,vg],.int .i64 0]/\SlV conE t_api_Con H vc K/\SlV genE ai H vg G:=by
 have e:=ok.own.cons;have h1:=ok.many;have h2:=ok.lenK;unfold qx at h;rw [e] at h;rcases h with ⟨-,h⟩ | ⟨p,rfl,⟨vc,vg,rfl,hc,hg⟩,-,-⟩
 ·omega
 ·exact ⟨vc,vg,rfl,hc,hg⟩
def T8 (a:AV):Prop:=∃ x u w,a=.agg [.int .i64 x,u,w]/\One u/\One w
def DU:T8 Ay:=⟨0,.nilSl,.nilSl,rfl,bF,bF⟩
def TellP (H:Heap) (d:Int) (p:AV) (K:List (List Int × Bool)) (G:List (Nat × List Int)):Prop :=
 ∃ n:Nat,d=(n:Int)/\n<=3/\PolyV H p n K G/\Lin.Own n K G/\K.length<1024/\G.length<1024
def TellP.mono {H H':Heap} {d:Int} {p:AV} {K:List (List Int × Bool)} {G:List (Nat × List Int)} (h:TellP H d p K G) (hs:Sub H H'):TellP H' d p K G:=by
 obtain ⟨n,h1,h2,h3,h4⟩:=h;exact ⟨n,h1,h2,h3.mono hs,h4⟩
def TellP.pag {H:Heap} {d:Int} {p:AV} {K:List (List Int × Bool)} {G:List (Nat × List Int)} (h:TellP H d p K G):T8 p:=by
 obtain ⟨n,h1,h2,⟨vc,vg,rfl,hc,hg⟩,h4⟩:=h;exact ⟨_,_,_,rfl,hc.one,hg.one⟩
def Ok (C:Code tab) (hw:Wf H) {d:Int} {l:List wI} (hs:SlV conQE t_api_Con H s l) (gl:∀ r∈l,iw r.1) (hg:fF 6 l=false) (h3:¬ 3<d) :
  Ans tab (.fn oR [.int .i64 d,s]) H fun v H'=>Kp H H'/\∃ p err,v=.tup [p,.int .i64 err]/\T8 p/\(err=0->∃ K G,TellP H' d p K G):=by
 rcases L5 (d:=d) (n:=6) hs gl hg zO zO with hbad | ⟨n,rfl,n4,hsl,ll,hrow⟩
 ·refine (Ga C hw hs (Ix hg) (by have:=(jf hg).1; omega) hbad).mono ?_;rintro v H2 ⟨rfl,hk⟩;exact ⟨hk,_,_,rfl,DU,fun e=>absurd e hbad⟩
 ·have gb:=vI zO hrow;refine (pU C (n:=n) (m:=64) (m2:=64*(64+4)) hw hsl zO (by rw [Vc]; omega) hrow zO (fun x hx=>(gb x hx).2) zO).mono ?_;rintro v H2 ⟨hm,hk⟩;rcases hm with ⟨rfl,-⟩ | ⟨p,rfl,hp,h1,h2⟩
  ·exact ⟨hk,_,_,rfl,DU,fun e=>by cases e⟩
  ·have ht:TellP H2 (n:Int) p _ _:=⟨n,rfl,zO,hp,Lin.own_of fun c hc=>(hrow c hc).1,h2,h1⟩
   exact ⟨hk,p,0,rfl,ht.pag,fun _=>⟨_,_,ht⟩⟩
section
open Lin
def L6 {n:Nat} {g:List (Nat × V)} (hg:ValidG n g):(consP n g).length<=2^g.length+n+1:=by
 have e1:∀ a∈linesOf g,a.length=n+1:=fun a ha=>(hg _ (mem_lines.1 ha)).1;have e2:∀ a∈raysOf g,a.length=n+1:=fun a ha=>by obtain ⟨k,-,h⟩:=mem_rays.1 ha; exact (hg _ h).1
 have t:=gens_told e1 e2;have h1:=t.dd.count;have h2:=Ev.ech_len t.form;have h3:2^(raysOf g).length<=2^g.length:=Vx zU (Ev.rays_le g);unfold consP;split
 ·rw [Vr,Vc,Vc]
  have:=Wn (fun r:V=>!decide (r=unitC n 1)) (gensR (n+1) (linesOf g) (raysOf g))
  omega
 ·show 1<=_;omega
end
section
variable {n:Nat} {K K':List (List Int × Bool)} {G G':List (Nat × List Int)}
def JD {H:Heap} {v:AV} {e f:Nat} (hm:qx H v n G) (h:PolyOK n e f K G):∃ vc vg,v=.tup [.agg [.int .i64 (n:Int),vc,vg],.int .i64 0]/\SlV conE t_api_Con H vc K/\SlV genE ai H vg G:=by
 have e1:=h.own.cons;have h1:=h.many;have h2:=h.lenK;unfold qx at hm;rw [e1] at hm;rcases hm with ⟨-,hm⟩ | ⟨p,rfl,⟨vc,vg,rfl,hc,hg⟩,-,-⟩
 ·omega
 ·exact ⟨vc,vg,rfl,hc,hg⟩
def P6 {H:Heap} {v:AV} {e f:Nat} {g:List (Nat × List Int)} (hm:Df H v n g) (h:PolyOK n e f (Lin.consP n g) (Lin.gensP n (Lin.consP n g))):∃ vc vg,v=.tup [.agg [.int .i64 (n:Int),vc,vg],.int .i64 0]/\SlV conE t_api_Con H vc (Lin.consP n g)/\SlV genE ai H vg (Lin.gensP n (Lin.consP n g)):=by
 have h2:=h.lenK;rcases hm with ⟨-,hm⟩ | hm
 ·omega
 ·exact JD hm h
end
end
section
variable {tab:Nat->Option aA} {H:Heap}
def Pf (H:Heap) (v:AV) (d:Int):Prop :=
 (∃ a,v=.tup [a,.bool false]/\T8 a) \/
 ∃ (n:Nat) (p:AV) (K:List (List Int × Bool)) (G:List (Nat × List Int)),d=(n:Int)/\n<=3/\v=.tup [p,.bool true]/\PolyV H p n K G/\PolyOK n 64 64 K G/\K.length<=9/\G.length<=9
set_option maxHeartbeats 4000000 in
def Ip (C:Code tab) (hw:Wf H) {s1:AV} {d:Int} {l:List wI} (hs:SlV conQE t_api_Con H s1 l) (gl:∀ r∈l,iw r.1) :
  Ans tab (.fn fT [.int .i64 d,s1]) H fun v H'=>Pf H' v d/\Kp H H':=by
 refine bB C.q2 zU fun T hl g0 g1=>?_;refine zW (aE hl g0 g1) ?_;refine AnsH.eq (qj C (n:=6) zF (hs.mono (zG H)) zO) fun H2 hk2=>?_;obtain ⟨k2,_,w2⟩:=zT H zK hk2;have d0:H2.get H.next=some (.cells [.int .i64 0,.nilSl,.nilSl] ak true):=hk2.get (cH)
 have lt1:=w2 _ _ d0;cases q1:fF 6 l with
 | true =>
  refine zW (bA hl g0 g1 d0 @mY) ?_;exact ⟨.inl ⟨_,rfl,DU⟩,zK⟩
 | false =>
 by_cases q3:3<d
 ·refine zW (dL hl g0 g1 d0 q3 @mY) ?_;exact ⟨.inl ⟨_,rfl,DU⟩,zK⟩
 refine zW (aQ hl g0 g1 q3) ?_;refine AnsH.use (Ok C zF ((hs.mono k2.sub).mono (zG H2)) gl q1 q3) ?_;rintro v H4 ⟨hk4,p,err,rfl,⟨x,u,w,rfl,ou,ow⟩,ht⟩;obtain ⟨k34,_,_⟩:=zT H2 zK hk4;have k4:Kp H H4:=k2.trans k34;have le_k4:=k4.le;have w4:=k4.wf;have n4:H2.next+9<=H4.next:=hk4.le
 have f4:H4.get (H2.next+6)=none:=hk4.free (show H2.next+6<H2.next+9 by omega) (w2.fresh (b:=H2.next+6) zO);refine zW (aQ hl g0 g1 @mY) ?_;obtain ⟨G4,hG4⟩:∃ G4,G4=(H4.put (H2.next+6) (.cells [.int .i64 0,.nilSl,.nilSl] ak true)).put (H2.next+6) (.cells [.int .i64 x,u,w] ak true):=⟨_,rfl⟩
 have s4:Sub H4 G4:=by rw [hG4]; exact (aJ f4).put f4 _
 have kG4:Kp H2 G4:=by rw [hG4]; exact (k34.put zO zO).put zO (by rw [next_put]; omega)
 have dp:G4.get (H2.next+6)=some (.cells [.int .i64 x,u,w] ak true):=by rw [hG4]; exact ap _ _ _
 rw [<- hG4];clear hG4;have wG4:=kG4.wf;have kA:Kp H G4:=k2.trans kG4;have d04:=kG4.get d0;refine SX (fun T'=>T'.length=29/\ad T' 4=.ptr H.next 0/\ad T' 6=.ptr (H2.next+6) 0/\ad T' 7=.int .i64 err) (zV (aE hl g0 g1)) ?_;clear hl;rintro T' ⟨hl,t4,t6,t7⟩;refine aF ?_;by_cases e1:err=0
 ·subst e1;obtain ⟨K,G,n,rfl,n3,⟨vc,vg,hpe,hc,hg⟩,ho,lK,lG⟩:=ht rfl;cases hpe;have hc4:=hc.mono s4;have hg4:=hg.mono s4;refine zX (iy hl g0 g1 t4 t6 t7 dp @al) ?_;refine AnsH.eq (m6 C (n:=n) zF ⟨u,w,rfl,hc4.mono (zG G4),hg4.mono (zG G4)⟩) fun H6 hk6=>?_;obtain ⟨k6,_,w6⟩:=zT G4 zK hk6;have d06:=k6.get d04;have dp6:=k6.get dp;have oc:=hc.one;have og:=hg.one;have kB:Kp H H6:=kA.trans k6;have lt6:=w6 _ _ d06;cases hL:(jT K G || decide (4<n)) with
  | true =>
   refine zX (iO hl g0 g1 t4 t6 t7 dp dp6 d06 @al @mY) ?_;exact ⟨.inl ⟨_,rfl,⟨_,_,_,rfl,oc,og⟩⟩,zK⟩
  | false =>
   rw [WR] at hL;obtain ⟨⟨a1,a2⟩,a3,a4⟩:=pT hL.1;have p1:PolyOK n 64 64 K G:=⟨ho,zO,.inl zO,zO,fun c hc=>(a2 c hc).2,fun x hx=>(a4 x hx).2,zO,zO⟩
   refine zX (iO hl g0 g1 t4 t6 t7 dp dp6 d06 @al @mY) ?_;refine ⟨.inr ⟨n,_,K,G,rfl,n3,rfl,⟨u,w,rfl,?_,?_⟩,p1,a1,a3⟩,zK⟩
   ·have m3:NoTy (t_api_Con :: conE.tys) H6 H.next:=NoTy.ty d06 zU
    exact SlV.monoT (E:=conE) zS (hc4.mono k6.sub)
   ·have m3:NoTy (ai :: genE.tys) H6 H.next:=NoTy.ty d06 zU
    exact SlV.monoT (E:=genE) zS (hg4.mono k6.sub)
 ·refine zX (iO hl g0 g1 t4 t6 t7 dp d04 e1 @al @mY) ?_;have lt4:=wG4 _ _ d04;exact ⟨.inl ⟨_,rfl,⟨_,_,_,rfl,ou,ow⟩⟩,zK⟩
end
end Go.Proofs.YteaefaohjlmjdaaGreat.Ev
namespace Go.Proofs.YteaefaohjlmjdaaGreat.Lin
def g37:gensP 1 [([-3,1],false),([7,-1],false)]=[(3,[1,3]),(3,[1,7])]:=by
 have r:(gensU 2 [] [[1,0],[-3,1],[7,-1]]).rays.map (restF (gensL 2 [] [[1,0],[-3,1],[7,-1]]))=[[1,3],[1,7]]:=by decide +kernel
 have e:gensL 2 [] [[1,0],[-3,1],[7,-1]]=[]:=by decide +kernel
 have g:gensR 2 [] [[1,0],[-3,1],[7,-1]]=[[1,3],[1,7]]:=by
  unfold gensR;rw [r]; simp [List.mergeSort,List.MergeSort.Internal.splitInTwo,cmpV]
 have h1:eqsOf ([([-3,1],false),([7,-1],false)]:List (V × Bool))=[]:=rfl;have h2:ineqsOf 1 ([([-3,1],false),([7,-1],false)]:List (V × Bool))=[[1,0],[-3,1],[7,-1]]:=rfl;unfold gensP;rw [h1,h2,e,g];rfl
def g38:gensP 1 [([-3,1],false),([8,-1],false)]=[(3,[1,3]),(3,[1,8])]:=by
 have r:(gensU 2 [] [[1,0],[-3,1],[8,-1]]).rays.map (restF (gensL 2 [] [[1,0],[-3,1],[8,-1]]))=[[1,3],[1,8]]:=by decide +kernel
 have e:gensL 2 [] [[1,0],[-3,1],[8,-1]]=[]:=by decide +kernel
 have g:gensR 2 [] [[1,0],[-3,1],[8,-1]]=[[1,3],[1,8]]:=by
  unfold gensR;rw [r]; simp [List.mergeSort,List.MergeSort.Internal.splitInTwo,cmpV]
 have h1:eqsOf ([([-3,1],false),([8,-1],false)]:List (V × Bool))=[]:=rfl;have h2:ineqsOf 1 ([([-3,1],false),([8,-1],false)]:List (V × Bool))=[[1,0],[-3,1],[8,-1]]:=rfl;unfold gensP;rw [h1,h2,e,g];rfl
def k37:consP 1 [(3,[1,3]),(3,[1,7])]=[([-3,1],false),([7,-1],false)]:=by
 have r:(gensU 2 [] [[1,3],[1,7]]).rays.map (restF (gensL 2 [] [[1,3],[1,7]]))=[[7,-1],[-3,1]]:=by decide +kernel
 have e:gensL 2 [] [[1,3],[1,7]]=[]:=by decide +kernel
 have g:gensR 2 [] [[1,3],[1,7]]=[[-3,1],[7,-1]]:=by
  unfold gensR;rw [r]; simp [List.mergeSort,List.MergeSort.Internal.splitInTwo,cmpV]
 have h1:linesOf ([(3,[1,3]),(3,[1,7])]:List (Nat × V))=[]:=rfl;have h2:raysOf ([(3,[1,3]),(3,[1,7])]:List (Nat × V))=[[1,3],[1,7]]:=rfl;unfold consP;rw [h1,h2,e,g];decide
def k38:consP 1 [(3,[1,3]),(3,[1,8])]=[([-3,1],false),([8,-1],false)]:=by
 have r:(gensU 2 [] [[1,3],[1,8]]).rays.map (restF (gensL 2 [] [[1,3],[1,8]]))=[[8,-1],[-3,1]]:=by decide +kernel
 have e:gensL 2 [] [[1,3],[1,8]]=[]:=by decide +kernel
 have g:gensR 2 [] [[1,3],[1,8]]=[[-3,1],[8,-1]]:=by
  unfold gensR;rw [r]; simp [List.mergeSort,List.MergeSort.Internal.splitInTwo,cmpV]
 have h1:linesOf ([(3,[1,3]),(3,[1,8])]:List (Nat × V))=[]:=rfl;have h2:raysOf ([(3,[1,3]),(3,[1,8])]:List (Nat × V))=[[1,3],[1,8]]:=rfl;unfold consP;rw [h1,h2,e,g];decide
def k3478:consP 1 [(3,[1,3]),(3,[1,4]),(3,[1,7]),(3,[1,8])]=[([-3,1],false),([8,-1],false)]:=by
 have r:(gensU 2 [] [[1,3],[1,4],[1,7],[1,8]]).rays.map (restF (gensL 2 [] [[1,3],[1,4],[1,7],[1,8]]))=[[-3,1],[8,-1]]:=by decide +kernel
 have e:gensL 2 [] [[1,3],[1,4],[1,7],[1,8]]=[]:=by decide +kernel
 have g:gensR 2 [] [[1,3],[1,4],[1,7],[1,8]]=[[-3,1],[8,-1]]:=by
  unfold gensR;rw [r]; simp [List.mergeSort,List.MergeSort.Internal.splitInTwo,cmpV]
 have h1:linesOf ([(3,[1,3]),(3,[1,4]),(3,[1,7]),(3,[1,8])]:List (Nat × V))=[]:=rfl;have h2:raysOf ([(3,[1,3]),(3,[1,4]),(3,[1,7]),(3,[1,8])]:List (Nat × V))=[[1,3],[1,4],[1,7],[1,8]]:=rfl;unfold consP;rw [h1,h2,e,g];decide
end Go.Proofs.YteaefaohjlmjdaaGreat.Lin
namespace Go.Proofs.YteaefaohjlmjdaaGreat.Ev
open Go Nn
def ok37:PolyOK 1 4 4 [([-3,1],false),([7,-1],false)] [(3,[1,3]),(3,[1,7])]:=ok1 Lin.g37 Lin.k37 (by decide)
def ok38:PolyOK 1 4 4 [([-3,1],false),([8,-1],false)] [(3,[1,3]),(3,[1,8])]:=ok1 Lin.g38 Lin.k38 (by decide)
def Tq:nK 1 0 [1,2] false 0 false 0 [(3,[1,1]),(3,[1,3])]=[(3,[1,3]),(3,[1,7])]:=by decide
def To:nK 1 0 [1,2] false 0 false 1 [(3,[1,1]),(3,[1,3])]=[(3,[1,3]),(3,[1,4]),(3,[1,7]),(3,[1,8])]:=by decide
section
variable {tab:Nat->Option aA} {H:Heap}
def Uy:Lin.Bd (2^2) ([1,2]:List Int):=fun i=>match i with
 | 0=>by decide
 | 1=>by decide
 | i+2=>Vj _
def JA {x y:Int} (h:x<=y):mE false (cC x) false (cC y)=true:=by
 have hb:∀ (w:Int),xy false (cC w)=true:=fun w=>by unfold xy; rw [wG]; rfl
 unfold mE;rw [hb x,hb y,uw,uw,decide_eq_true h]; rfl
def Cu (C:Code tab) (hw:Wf H) {v w vi:AV} {b:Int} {K':List (List Int × Bool)} {P G':List (Nat × List Int)} (hp:PolyV H v 1 [([-1,1],false),([3,-1],false)] [(3,[1,1]),(3,[1,3])]) (ha:RowV H w [1,2]) (hi':ItvV H vi false 0 false b) (hb:b=0\/b=1) (e1:nK 1 0 [1,2] false 0 false b [(3,[1,1]),(3,[1,3])]=P) (e2:Lin.consP 1 P=K') (ok:PolyOK 1 4 4 K' G') :
  Ans tab (.fn ko [v,.int .i64 0,w,vi]) H fun r H'=>(∃ vc vg,r=.tup [.agg [.int .i64 1,vc,vg],.int .i64 0]/\SlV conE t_api_Con H' vc K'/\SlV genE ai H' vg G')/\Kp H H':=by
 have bb:Bt 2 b:=by show b.natAbs<2^2; omega
 have hm:mE false (cC 0) false (cC b)=true:=JA zO;have l1:=ok.lenK;have h:=vG C (x:=0) (n:=1) (e:=4) (f:=4) (ea:=2) (ez:=2) hw hp Ui ha rfl Uy hi' hm (Bt.zero 2) bb zO zO (by decide) zO (by decide) (by rw [e1,e2]; exact .inl l1);rw [e1] at h;refine h.mono ?_;rintro r H' ⟨hs,hk⟩;have hm:qx H' r 1 G':=by
  unfold Df at hs;rw [e2,ok.own.gens] at hs;rcases hs with ⟨-,h⟩ | h
  ·omega
  ·exact h
 exact ⟨Tu hm ok,hk⟩
set_option maxHeartbeats 4000000 in
def FQ (C:Code tab) (hw:Wf H):Ans tab (.fn fk []) H fun v H'=>v=.bool true/\Kp H H':=by
 refine Uq C.q1 fun T hl=>?_;refine zW hl ?_;refine AnsH.use (ol C (a:=1) (b:=3) zF (by decide) (by decide) Lin.g13 Lin.k13 (by decide) (by decide)) ?_;rintro _ H2 ⟨⟨vc,vg,rfl,hc,hg⟩,hk2⟩;obtain ⟨k2,_,w2⟩:=zT H zK hk2;have oc:=hc.one;have og:=hg.one;have n2:H.next+4<=H2.next:=hk2.le
 have f2:H2.get (H.next+2)=none:=hk2.free (show H.next+2<H.next+4 by omega) (hw.fresh (b:=H.next+2) zO);obtain ⟨G2,hG2⟩:∃ G2,G2=(H2.put (H.next+2) (.cells [.int .i64 0,.nilSl,.nilSl] ak true)).put (H.next+2) (.cells [.int .i64 ((1:Nat):Int),vc,vg] ak true):=⟨_,rfl⟩
 have s2:Sub H2 G2:=by rw [hG2]; exact (aJ f2).put f2 _
 have kG2:Kp H G2:=by rw [hG2]; exact zK
 have wG2:=kG2.wf;have dP:G2.get (H.next+2)=some (.cells [.int .i64 ((1:Nat):Int),vc,vg] ak true):=by rw [hG2]; exact ap _ _ _
 have hc2:=hc.mono s2;have hg2:=hg.mono s2;obtain ⟨P,hP⟩:∃ P,P=H.next+2:=⟨_,rfl⟩
 have ltP:=wG2 _ _ dP;refine zW (aE hl @mY @aC) ?_;rw [<- hG2,<- hP];rw [<- hP] at dP ltP;refine aF ?_;refine zD (aE hl dP @al) ?_;have e0:Emp (G2.up 11) G2.next (G2.next+11):=Emp.start wG2
 refine AnsH.use (Dr C (l:=[1,2]) zF (vz (by refine uH ?_; rfl)) (by simp) (by simp)) ?_;rintro v3 H3 ⟨r3,hk3⟩;obtain ⟨k3,_,w3⟩:=zT G2 zK hk3;have e3:Emp H3 (G2.next+2) (G2.next+11):=(e0.put (p:=G2.next+1) zO zO).keep hk3;have o3:=r3.one;have dP3:=k3.get dP;refine zD (aQ hl dP dP3 @al) ?_;refine AnsH.use (rv C (a:=0) (b:=0) zF (by decide) (by decide) (by decide)) ?_;rintro vi H4 ⟨hi4,hk4⟩;obtain ⟨k34,_,_⟩:=zT H3 zK hk4;have k4:Kp G2 H4:=k3.trans k34;have le_k4:=k4.le;have w4:=k4.wf;have e4:Emp H4 (G2.next+2) (G2.next+11):=e3.keep k34;have dP4:=k4.get dP;obtain ⟨pl4,ph4,hvi4,hpl4,hph4⟩:=id hi4;refine zD (bA hl dP dP3 dP4 @al) ?_;refine AnsH.use (Cu C (b:=0) zF ⟨vc,vg,rfl,(hc2.mono k4.sub).mono (Kp.sub (H:=H4) zK),(hg2.mono k4.sub).mono (Kp.sub (H:=H4) zK)⟩ (r3.mono k34.sub) hi4 (.inl rfl) Tq Lin.k37 ok37) ?_;rintro _ H5 ⟨⟨va,vb,rfl,hca,hgb⟩,hk5⟩;obtain ⟨k45,_,_⟩:=zT H4 zK hk5;have k5:Kp G2 H5:=k4.trans k45;have le_k5:=k5.le;have w5:=k5.wf;have e5:Emp H5 (G2.next+2) (G2.next+11):=e4.keep k45;have n5:=e5.1;have oa:=hca.one;have ob:=hgb.one;have f5:=e5.2 (G2.next+8) zO zO;obtain ⟨G5,hG5⟩:∃ G5,G5=(H5.put (G2.next+8) (.cells [.int .i64 0,.nilSl,.nilSl] ak true)).put (G2.next+8) (.cells [.int .i64 1,va,vb] ak true):=⟨_,rfl⟩
 have s5:Sub H5 G5:=by rw [hG5]; exact (aJ f5).put f5 _
 have kG5:Kp G2 G5:=by rw [hG5]; exact zK
 have wG5:=kG5.wf;have dA:G5.get (G2.next+8)=some (.cells [.int .i64 1,va,vb] ak true):=by rw [hG5]; exact ap _ _ _
 obtain ⟨A,hA⟩:∃ A,A=G2.next+8:=⟨_,rfl⟩
 have ltA:=wG5 _ _ dA;have dP5:=kG5.get dP;refine zD (fy hl dP dP3 dP4 @mY @aC @al) ?_;rw [<- hG5,<- hA];rw [<- hA] at dA ltA;clear hG5 e5 e4 e3 f5 r3 hk3 hk4 hk5;have hc5:=hc2.mono kG5.sub;have hg5:=hg2.mono kG5.sub;have ha5:=hca.mono s5;have hb5:=hgb.mono s5;refine aF ?_;refine zD (aE hl dP5 @al) ?_;have e6:Emp (G5.up 11) G5.next (G5.next+11):=Emp.start wG5
 refine AnsH.use (Dr C (l:=[1,2]) zF (vz (by refine uH ?_; rfl)) (by simp) (by simp)) ?_;rintro v6 H6 ⟨r6,hk6⟩;obtain ⟨k6,_,w6⟩:=zT G5 zK hk6;have e6:Emp H6 (G5.next+2) (G5.next+11):=(e6.put (p:=G5.next+1) zO zO).keep hk6;have o6:=r6.one;have dP6:=k6.get dP5;refine zD (aQ hl dP5 dP6 @al) ?_;refine AnsH.use (rv C (a:=0) (b:=1) zF (by decide) (by decide) (by decide)) ?_;rintro vj H7 ⟨hi7,hk7⟩;obtain ⟨k67,_,_⟩:=zT H6 zK hk7;have k7:Kp G5 H7:=k6.trans k67;have le_k7:=k7.le;have w7:=k7.wf;have e7:Emp H7 (G5.next+2) (G5.next+11):=e6.keep k67;have dP7:=k7.get dP5;obtain ⟨pl7,ph7,hvi7,hpl7,hph7⟩:=id hi7;refine zD (bA hl dP5 dP6 dP7 @al) ?_;refine AnsH.use (Cu C (b:=1) zF ⟨vc,vg,rfl,(hc5.mono k7.sub).mono (Kp.sub (H:=H7) zK),(hg5.mono k7.sub).mono (Kp.sub (H:=H7) zK)⟩ (r6.mono k67.sub) hi7 (.inr rfl) To Lin.k3478 ok38) ?_;rintro _ H8 ⟨⟨vd,ve,rfl,hcd,hge⟩,hk8⟩;obtain ⟨k78,_,_⟩:=zT H7 zK hk8;have k8:Kp G5 H8:=k7.trans k78;have le_k8:=k8.le;have w8:=k8.wf;have e8:Emp H8 (G5.next+2) (G5.next+11):=e7.keep k78;have n8:=e8.1;have od:=hcd.one;have oe:=hge.one;have f8:=e8.2 (G5.next+8) zO zO;obtain ⟨G8,hG8⟩:∃ G8,G8=(H8.put (G5.next+8) (.cells [.int .i64 0,.nilSl,.nilSl] ak true)).put (G5.next+8) (.cells [.int .i64 1,vd,ve] ak true):=⟨_,rfl⟩
 have s8:Sub H8 G8:=by rw [hG8]; exact (aJ f8).put f8 _
 have kG8:Kp G5 G8:=by rw [hG8]; exact zK
 have wG8:=kG8.wf;have dB:G8.get (G5.next+8)=some (.cells [.int .i64 1,vd,ve] ak true):=by rw [hG8]; exact ap _ _ _
 obtain ⟨Bq',hB⟩:∃ A,A=G5.next+8:=⟨_,rfl⟩
 have ltB:=wG8 _ _ dB;have dP8:=kG8.get dP5;have dA8:=kG8.get dA;refine zD (fy hl dP5 dP6 dP7 @mY @aC @al) ?_;rw [<- hG8,<- hB];rw [<- hB] at dB ltB;clear hG8 e8 e7 e6 f8 r6 hk6 hk7 hk8;have hc8:=hc5.mono kG8.sub;have hg8:=hg5.mono kG8.sub;have ha8:=ha5.mono kG8.sub;have hb8:=hb5.mono kG8.sub;have hd8:=hcd.mono s8;have he8:=hge.mono s8;have kT:Kp H G8:=kG2.trans (kG5.trans kG8);have z2:((2:Nat):Int)=2:=rfl;refine aF ?_;refine zX (fy hl dP8 dA8 dB hg8.lenV z2 @al) ?_;refine AnsH.use (ol C (a:=3) (b:=7) zF (by decide) (by decide) Lin.g37 Lin.k37 (by decide) (by decide)) ?_;rintro _ H9 ⟨⟨v1,v2,rfl,hc9,hg9⟩,hk9⟩;obtain ⟨k9,_,w9⟩:=zT G8 zK hk9;have o1:=hc9.one;have o2:=hg9.one;have dP9:=k9.get dP8;have dA9:=k9.get dA8;have dB9:=k9.get dB;refine zX (qz hl dP8 dA8 dB dP9 dA9 dB9 hg8.lenV z2 @al) ?_;refine AnsH.eq (FP C (n:=1) (n':=1) zF ⟨va,vb,rfl,(ha8.mono k9.sub).mono (Kp.sub (H:=H9) zK),(hb8.mono k9.sub).mono (Kp.sub (H:=H9) zK)⟩ ⟨v1,v2,rfl,hc9.mono (Kp.sub (H:=H9) zK),hg9.mono (Kp.sub (H:=H9) zK)⟩ (by decide) ok37.smK (by decide) ok37.smG) fun HA hkA=>?_;rw [decide_eq_true ⟨rfl,rfl,rfl⟩];have kA:Kp G8 HA:=k9.trans (Kp.trans zK hkA);have wA:=kA.wf;have dBA:=kA.get dB;refine zX (iO hl dP8 dA8 dB dP9 dA9 dB9 dBA hg8.lenV z2 @al) ?_;refine AnsH.use (ol C (a:=3) (b:=8) zF (by decide) (by decide) Lin.g38 Lin.k38 (by decide) (by decide)) ?_;rintro _ HB ⟨⟨v4,v5,rfl,hcB,hgB⟩,hkB⟩;have kB:Kp G8 HB:=kA.trans (Kp.trans zK hkB);have wB:=kB.wf;have o4:=hcB.one;have o5:=hgB.one;have dBB:=kB.get dB;refine zX (zq hl dP8 dA8 dB dP9 dA9 dB9 dBA dBB hg8.lenV z2 @al) ?_;refine AnsH.eq (FP C (n:=1) (n':=1) zF ⟨vd,ve,rfl,(hd8.mono kB.sub).mono (Kp.sub (H:=HB) zK),(he8.mono kB.sub).mono (Kp.sub (H:=HB) zK)⟩ ⟨v4,v5,rfl,hcB.mono (Kp.sub (H:=HB) zK),hgB.mono (Kp.sub (H:=HB) zK)⟩ (by decide) ok38.smK (by decide) ok38.smG) fun HE hkE=>?_;rw [decide_eq_true ⟨rfl,rfl,rfl⟩];have kE:Kp G8 HE:=kB.trans (Kp.trans zK hkE);have wE:=kE.wf;refine zX (zq hl dP8 dA8 dB dP9 dA9 dB9 dBA dBB hg8.lenV z2 @al) ?_;exact kT.trans kE
end
def Qb {l:List (Bool × List Nat)} (gr:iw l) (hg:fW 5 1 l=false) (hk:wW l=true):Lin.Bd (2^64) (l.map ct)/\∀ z∈l,mP z=false/\Lim z.2 :=
 ⟨ND fun z hz=>⟨(gr.1 z hz).1,(lB hg).2 z hz⟩,fun z hz=>⟨Jo hk z hz,(gr.1 z hz).1⟩⟩
end Go.Proofs.YteaefaohjlmjdaaGreat.Ev
