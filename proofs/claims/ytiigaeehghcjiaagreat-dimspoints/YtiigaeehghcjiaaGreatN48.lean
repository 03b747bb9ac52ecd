/- A part. -/
import Derived.Test.YtiigaeehghcjiaaGreatA0
import Derived.Test.YtiigaeehghcjiaaGreatN38
import Derived.Test.YtiigaeehghcjiaaGreatGens
import Derived.ChangeArms
import Derived.DataReads
set_option linter.all false
namespace Go.Proofs.YtiigaeehghcjiaaGreat.Ev
open Go Nn
def jq {α:Type} {l m:List α} (he:l.length=m.length) (h:∀ q (h:q<l.length) (h':q<m.length),l[q]=m[q]):l=m :=
 X1 he fun q h1 h2=>h q h1 h2
def jN (many ah:Nat) (r:List (Bool × List Nat)):Bool:=decide (many<r.length) || r.any fun z=>decide (ah<z.2.length)
section
variable {tab:Nat->Option au} {H:Heap} {s:AV}
def HJ (C:Code tab) (I:Wf H) {a b:AV} {l m:List Nat} (ha:Lb H a l) (hb:Lb H b m) (F:l.length<4611686018427387904) :
  Ans tab (.fn gE [a,b]) H fun v H'=>v=.bool (decide (l=m))/\Kp H H':=by
 refine bE C.q159 zU fun T hl c d=>?_;by_cases he:l.length=m.length
 ·have B:lenV b=some (.int .i64 (l.length:Int)):=by rw [hb.lenV,he]
  refine zW (cn hl c d ha.lenV B) ?_;refine bk H [5] (fun k vs H'=>∃ i:Nat,vs=[.int .i64 (i:Int)]/\i+k=l.length/\∀ q (h:q<l.length) (h':q<m.length),q<i->l[q]=m[q]) l.length (by simp only [jL]; exact hl) rfl zK ⟨0,by refine zW (aC hl c d) ?_; rfl,zO,fun q _ _ h=>by omega⟩ ?_;rintro k T1 D j z g ⟨i,f,E,r⟩;have w1:=g.wf;have J:=g.le;simp only [SA,WF,Ud,and_true] at f;have t0:ad T1 0=a:=(z.at_ 0 zU).trans (zV (aB hl c));have t1:ad T1 1=b:=(z.at_ 1 zU).trans (zV (aZ hl c d d));by_cases hi:i<l.length
  ·have n:(i:Int)<(l.length:Int):=zO;have s:i<m.length:=zO;obtain ⟨w,hr,x⟩:=SlV.at1 (ha.mono g.sub) (zh hi);obtain ⟨w',p,y⟩:=SlV.at1 (hb.mono g.sub) (zh s);have hr:w=.int .u64 ((l[i]:Nat):Int):=hr;have p:w'=.int .u64 ((m[i]:Nat):Int):=p;subst hr; subst p;have t:=SlV.idx1 ha .i64 i hi;have u:=SlV.idx1 hb .i64 i s;have e:IntKind.i64.wrap ((i:Int)+1)=((i+1:Nat):Int):=by rw [wrap_i64] <;> omega
   refine zW (ip j f t0 t1 ha.lenV n hi) ?_;refine aJ ?_;by_cases hq:l[i]=m[i]
   ·have o:((l[i]:Nat):Int)=((m[i]:Nat):Int):=zO;refine zD (pD j f t0 t1 t x u y o e) ?_;refine ⟨zK,k-1,zO,i+1,rfl,zO,fun q h h' G=>?_⟩;by_cases eq:q=i
    ·subst eq; exact hq
    ·exact r q h h' zO
   ·have o:¬ ((l[i]:Nat):Int)=((m[i]:Nat):Int):=zO;refine zD (mo j f t0 t1 t x u y o hq e) ?_;refine ⟨?_,zK⟩;rw [decide_eq_false];intro e; subst e; exact hq rfl
  ·have n:¬ (i:Int)<(l.length:Int):=zO;refine zW (ip j f t0 t1 ha.lenV n hi) ?_;refine ⟨?_,zK⟩;rw [decide_eq_true (jq he fun q h h'=>r q h h' zO)]
 ·have A:¬ (l.length:Int)=(m.length:Int):=zO;refine zW (ip hl c d ha.lenV hb.lenV A he) ?_;refine ⟨?_,zK⟩;rw [decide_eq_false];intro e; subst e; exact he rfl
def Ct {x y:Nat} (h:ah x=ah y):x=y:=by
 have:=congrArg val h
 rwa [lA,lA] at this
def HI (C:Code tab) (g:Wf H) {a b:AV} {x y:Int} (ha:IntV H a x) (hb:IntV H b y) (hx:fm x) :
  Ans tab (.fn gD [a,b]) H fun v H'=>v=.bool (decide (x=y))/\Kp H H':=by
 obtain ⟨p,rfl,hp⟩:=ha;obtain ⟨q,rfl,hq⟩:=hb;have op:=hp.one;have i:=hq.one;unfold fm Sm at hx;refine bE C.q136 zU fun T hl c d=>?_;by_cases h:decide (x<0)=decide (y<0)
 ·have h':(decide (x<0) == decide (y<0))=true:=by rw [h]; simp
  refine zW (aZ hl c d h') ?_;refine AnsH.eq (HJ C zF (hp.mono (zG H)) (hq.mono (zG H)) zO) fun H2 f=>?_;obtain ⟨k2,_,_⟩:=zT H zK f;refine zW (aC hl c d) ?_;refine ⟨?_,zK⟩;by_cases e:x=y
  ·rw [decide_eq_true e,decide_eq_true (by rw [e])]
  ·rw [decide_eq_false e,decide_eq_false];intro h2
   have:=Ct h2
   have h3:(x<0) ↔ (y<0):=by simpa using h
   omega
 ·have h':(decide (x<0) == decide (y<0))=false:=by simpa using h
  refine zW (aZ hl c d h') ?_;refine ⟨?_,zK⟩;rw [decide_eq_false];intro e; subst e; exact h rfl
def Ak (C:Code tab) (M:Wf H) {a b:AV} {l m:List Int} (ha:RowV H a l) (hb:RowV H b m) (J:l.length<1099511627776) (E:∀ z∈l,fm z) :
  Ans tab (.fn gC [a,b]) H fun v H'=>v=.bool (decide (l=m))/\Kp H H':=by
 refine bE C.q115 zU fun T hl d f=>?_;by_cases he:l.length=m.length
 ·have G:lenV b=some (.int .i64 (l.length:Int)):=by rw [hb.lenV,he]
  refine zW (cn hl d f ha.lenV G) ?_;refine bk H [5] (fun k vs H'=>∃ i:Nat,vs=[.int .i64 (i:Int)]/\i+k=l.length/\∀ q (h:q<l.length) (h':q<m.length),q<i->l[q]=m[q]) l.length (by simp only [jL]; exact hl) rfl zK ⟨0,by refine zW (aC hl d f) ?_; rfl,zO,fun q _ _ h=>by omega⟩ ?_;rintro k T1 n j x g ⟨i,c,I,u⟩;have w1:=g.wf;have N:=g.le;simp only [SA,WF,Ud,and_true] at c;have t0:ad T1 0=a:=(x.at_ 0 zU).trans (zV (aB hl d));have t1:ad T1 1=b:=(x.at_ 1 zU).trans (zV (aZ hl d f f));by_cases hi:i<l.length
  ·have o:(i:Int)<(l.length:Int):=zO;have A:i<m.length:=zO;obtain ⟨w,hn,L,p⟩:=nQ w1 (ha.mono g.sub) hi;obtain ⟨w',D,L',r⟩:=nQ w1 (hb.mono g.sub) A;have s:=L.ld;have t:=L'.ld;have e:IntKind.i64.wrap ((i:Int)+1)=((i+1:Nat):Int):=by rw [wrap_i64] <;> omega
   refine zW (ip j c t0 t1 ha.lenV o hi) ?_;refine aJ ?_;refine zD (lp j c t0 t1 p s r t) ?_;refine AnsH.eq (HI C zF ⟨w,rfl,hn.mono (zG n)⟩ ⟨w',rfl,D.mono (zG n)⟩ (E _ (EL hi))) fun H2 B=>?_;obtain ⟨F,_,_⟩:=zT n zK B;have k2:Kp H H2:=Kp.trans g F;have O:=k2.le;cases hq:decide (l[i]=m[i]) with
   | true =>
    have hq:=of_decide_eq_true hq;refine zD (lh j c t0 t1 p s r t e) ?_;refine ⟨zK,k-1,zO,i+1,rfl,zO,fun q h h' K=>?_⟩;by_cases eq:q=i
    ·subst eq; exact hq
    ·exact u q h h' zO
   | false =>
    have hq:=of_decide_eq_false hq;refine zD (lh j c t0 t1 p s r t e) ?_;refine ⟨?_,zK⟩;rw [decide_eq_false];intro e; subst e; exact hq rfl
  ·have o:¬ (i:Int)<(l.length:Int):=zO;refine zW (ip j c t0 t1 ha.lenV o hi) ?_;refine ⟨?_,zK⟩;rw [decide_eq_true (jq he fun q h h'=>u q h h' zO)]
 ·have y:¬ (l.length:Int)=(m.length:Int):=zO;refine zW (ip hl d f ha.lenV hb.lenV y he) ?_;refine ⟨?_,zK⟩;rw [decide_eq_false];intro e; subst e; exact he rfl
def xY (C:Code tab) (E:Wf H) {a:AV} {r:List (Bool × List Nat)} {many lim:Nat} (ha:SlV rawE aa H a r) (hm:many<4611686018427387904) :
  Ans tab (.fn fO [a,.int .i64 (many:Int),.int .i64 (lim:Int)]) H fun v H'=>v=.bool (jN many lim r)/\Kp H H':=by
 refine mz C.q18 zU fun T hl b c d=>?_;by_cases he:many<r.length
 ·have j:(many:Int)<(r.length:Int):=zO;refine zW (fy hl b c ha.lenV j he) ?_;exact ⟨by unfold jN; rw [decide_eq_true he]; rfl,zK⟩
 ·have j:¬ (many:Int)<(r.length:Int):=zO;refine zW (ip hl b c d ha.lenV j he) ?_;refine bk H [7] (fun k vs H'=>∃ i:Nat,vs=[.int .i64 (i:Int)]/\i+k=r.length/\∀ q (h:q<r.length),q<i->¬ lim<(r[q]).2.length) r.length (by simp only [jL]; exact hl) rfl zK ⟨0,by refine zW (aZ hl b c d) ?_; rfl,zO,fun q _ h=>by omega⟩ ?_;rintro k T1 y m x l ⟨i,g,B,p⟩;have w1:=l.wf;have F:=l.le;simp only [SA,WF,Ud,and_true] at g;have t0:ad T1 0=a:=(x.at_ 0 zU).trans (zV (aB hl b));have o:ad T1 2=.int .i64 (lim:Int):=(x.at_ 2 zU).trans (zV (cn hl b c d d));by_cases hi:i<r.length
  ·have f:(i:Int)<(r.length:Int):=zO;obtain ⟨cs,⟨w,rfl,hn⟩,-,h2,-⟩:=(ha.mono l.sub).at (zh hi);have u:bc y none (az a (i*2+1))=some w:=h2 1 w rfl;have t:cG 2 a (.int .i64 (i:Int))=some (az a (i*2)):=SlV.idx ha .i64 i hi;have s:BI 1 (az a (i*2))=some (az a (i*2+1)):=ha.fa zO 1 (i*2);have e:IntKind.i64.wrap ((i:Int)+1)=((i+1:Nat):Int):=by rw [wrap_i64] <;> omega
   by_cases hq:lim<(r[i]).2.length
   ·have n:(lim:Int)<((r[i]).2.length:Int):=zO;refine zW (E0 m g t0 o ha.lenV f hi t s u hn.lenV n hq) ?_;refine ⟨?_,zK⟩;unfold jN;rw [W7.2 ⟨_,EL hi,by rw [decide_eq_true hq]⟩,Bool.or_true]
   ·have n:¬ (lim:Int)<((r[i]).2.length:Int):=zO;refine zW (Dd m g t0 o ha.lenV f hi t s u hn.lenV n hq e) ?_;refine ⟨zK,k-1,zO,i+1,rfl,zO,fun q h D=>?_⟩;by_cases eq:q=i
    ·subst eq; exact hq
    ·exact p q h zO
  ·have f:¬ (i:Int)<(r.length:Int):=zO;refine zW (ip m g t0 o ha.lenV f hi) ?_;refine ⟨?_,zK⟩;have e:(r.any fun z=>decide (lim<z.2.length))=false:=by
    rw [XV];intro z A;obtain ⟨q,hq,rfl⟩:=XH A
    simpa using p q hq zO
   unfold jN;rw [decide_eq_false he,Bool.false_or,e]
def Ho (C:Code tab) (S:Wf H) {l:List Int} {ty:Nat} (hs:pC (gK .i64) ty H s l) (Q:l.length<=64) (L:∀ z∈l,-9223372036854775808<=z/\z<9223372036854775808) :
  Ans tab (.fn vp [s]) H fun v H'=>(∃ b cs,H.next<=b/\v=.own b 0 l.length l.length 2 true/\H'.get b=some (.cells cs aa true)/\Cells intE H' cs l)/\Kp H H':=by
 refine cz C.q11 zU fun T hl g=>?_;obtain ⟨cells,p⟩:∃ cells,cells=(List.replicate l.length [AV.bool false,AV.nilSl]).flatten:=⟨_,rfl⟩
 have K:∀ H':Heap,Hb H' (H.next+3) aa 2 32 [.bool false,.nilSl] (.int .i64 (l.length:Int)) (.int .i64 (l.length:Int))=some (.own (H.next+3) 0 l.length l.length 2 true,H'.put (H.next+3) (.cells cells aa true)):=fun H'=>by rw [p]; exact iy _ _ _ _ _ _ _ _ _ zO zO rfl
 refine zW (aZ hl g hs.lenV K) ?_;have M:intE.R H [.bool false,.nilSl] 0:=⟨.nilSl,by simp,eM H⟩
 have D:Cells intE H cells (List.replicate l.length 0):=by rw [p]; exact mH M _
 refine aq H [3] (fun j vs H'=>vs=[.own (H.next+3) 0 l.length l.length 2 true]/\∃ cs,H'.get (H.next+3)=some (.cells cs aa true)/\Cells intE H' cs (l.take j++List.replicate (l.length-j) 0)) (a:=0) (N:=l.length) rfl (by refine zW (aB hl g) ?_; rfl) (zV (aB hl g)) (WG _) zO (by simp only [jL,hl]; rfl) rfl (fun j vs H' m ⟨h0,cs,h1,h2⟩=>⟨h0,cs,h1,Cells.mono (E:=intE) ((Sub.bump H' m).t _) h2⟩) zK ⟨by exact zV (aB hl g),cells,by exact cY,by
  have e:List.take 0 l++List.replicate (l.length-0) 0=List.replicate l.length 0:=by simp
  rw [e];exact Cells.mono (E:=intE) zS D⟩ ?_ ?_
 ·rintro j T1 k _ hj d F t c ⟨f,cs,n,h⟩;have w1:=c.wf;have O:=c.le;have V:=c.le;simp only [SA,WF,Ud,and_true] at f;have t9:ad T1 9=s:=(t.at_ 9 zU).trans (zV (aB hl g));obtain ⟨w,hr,J⟩:=SlV.at1 (hs.mono c.sub) (zh hj);have hr:w=.int .i64 l[j]:=hr;subst hr;have G:=SlV.idx1 hs .i64 j hj;have x:=L _ (EL hj);simp only [jL,hl] at d;refine zW (fy d t9 F G J f) ?_;refine AnsH.use (qN C zF x.1 x.2) ?_;rintro v H2 ⟨⟨w,rfl,hn⟩,I⟩;obtain ⟨k2,_,w2⟩:=zT k zK I;have P:=hn.one;have o:=k2.get n;have W:=w2 _ _ o;have R:cs.length=l.length*2:=by
   have:=h.1
   rw [WM,WU,Yu] at this;have e:intE.sz=2:=rfl;rw [e] at this;rw [this]; congr 1; omega
  have u:y5 (some (.cells cs aa true)) 2 (0+j*2) (.agg [.bool (decide (l[j]<0)),w])=some (.cells (cs.take (0+j*2)++[.bool (decide (l[j]<0)),w]++cs.drop (0+j*2+2)) aa true):=fY (yg (aF _) P) zO;have r:cG 2 (.own (H.next+3) 0 l.length l.length 2 true) (.int .i64 (j:Int))=some (.ptr (H.next+3) (0+j*2)):=iB hj;rw [Xg] at u r;have q:Cells intE H2 (cs.take (j*2)++[.bool (decide (l[j]<0)),w]++cs.drop (j*2+2)) ((l.take j++List.replicate (l.length-j) 0).set j l[j]):=(Cells.mono (E:=intE) (k2.sub.t _) h).set (i:=j) (by simp; omega) ⟨w,rfl,hn⟩;have B:(l.take j++List.replicate (l.length-j) 0).set j l[j]=l.take (j+1)++List.replicate (l.length-(j+1)) 0:=by
   have y:l.length-j=(l.length-(j+1))+1:=zO;have A:j-(List.take j l).length=0:=by simp; omega
   rw [y,Xt,List.set_append,if_neg (by simp; omega),A,List.set_cons_zero,TY hj,Yf];rfl
  rw [B] at q;have m3:NoTy [ae] H2 (H.next+3):=NoTy.ty o zU;refine zW (cn d f r o u) ?_;have U:Kp H H2:=c.trans k2;exact ⟨zK,_,rfl,Cells.mono (E:=intE) zS q⟩
 ·rintro T1 k d t c ⟨f,cs,n,h⟩;have w1:=c.wf;have O:=c.le;simp only [SA,WF,Ud,and_true] at f;simp only [jL,hl] at d;refine zW (aB d f) ?_;refine ⟨?_,zK⟩;have e:List.take l.length l++List.replicate (l.length-l.length) 0=l:=by simp
  rw [e] at h;exact ⟨H.next+3,cs,zO,rfl,n,Cells.mono (E:=intE) ((Sub.bump k _).t _) h⟩
def wH (C:Code tab) (d:Wf H) {l:List Int} {ty:Nat} (hs:pC (gK .i64) ty H s l) (a:l.length<=64) (e:∀ z∈l,-9223372036854775808<=z/\z<9223372036854775808) :
  Ans tab (.fn vp [s]) H fun v H'=>RowV H' v l/\Kp H H' :=
 (Ho C d hs a e).mono fun v H' ⟨⟨b,cs,h1,h2,h3,h4⟩,c⟩=>⟨by
  subst h2;exact (show Own intE aa H H' b true (.own b 0 l.length l.length 2 true) l from ⟨cs,rfl,h3,h4,h1⟩).sl,c⟩
end
def yb {β:Type} {P:Nat->β->Prop}:∀ n,(∀ i,i<n->∃ y,P i y)->∃ l:List β,l.length=n/\∀ i (h:i<l.length),P i l[i]
 | 0,_=>⟨[],rfl,fun i h=>by simp at h⟩
 | n+1,h=>by
  obtain ⟨l,h1,h2⟩:=yb n fun i hi=>h i zO;obtain ⟨y,hy⟩:=h n zO;refine ⟨l++[y],by simp [h1],fun i hi=>?_⟩;by_cases a:i<l.length
  ·rw [ZN a]; exact h2 i a
  ·have:i=n:=by rw [WM] at hi; simp at hi; omega
   subst this;rw [Y8 zO]
   simpa [h1] using hy
def JQ {β:Type} {sz:Nat} {f:β->List AV}:∀ (l:List β),(∀ y∈l,(f y).length=sz)->(l.flatMap f).length=l.length*sz/\∀ i (h:i<l.length) k,k<sz->(l.flatMap f)[i*sz+k]? = (f l[i])[k]?
 | [],_=>⟨by simp,fun i h=>by simp at h⟩
 | y :: l,h=>by
  obtain ⟨h1,h2⟩:=JQ l fun z b=>h z (SO _ b);have hy:=h y (WH ..);refine ⟨by rw [List.flatMap_cons,WM,h1,hy,W5,Yk]; omega,fun i hi k a=>?_⟩;rw [List.flatMap_cons];cases i with
  | zero=>rw [W4 zO]; simp
  | succ i =>
   rw [Xm (by rw [Yk]; omega),hy];have e:(i+1)*sz+k-sz=i*sz+k:=by rw [Yk]; omega
   rw [e,h2 i (by simpa using hi) k a]
   simp
def xx {HT:Type}:DataW HT->List (DataW HT)
 | .slice l _=>l
 | _=>[]
def St {HT:Type}:DataW HT->List (DataW HT)
 | .agg l=>l
 | _=>[]
def Ik {HT:Type} (y:DataW HT) (z:Bool × List Nat):Prop:=∃ a∈St y,z.2.length<=(xx a).length
section
variable {HT:Type} {enc:TypeId × Value->HT} {P:Program} {w:World} {base:Nat} {sp:Nat->Bool} {held:Bool} {μ:Mu} {F:Nat->Prop} {H:Heap} {α:Type}
def zB {E:gr α} {ty:Nat} {good:DataW HT->α->Prop} {t e:TypeId} (N:∀ c,c<w.heap.size->F c) (V:P.underlying t=some (.slice e)) (U:P.cellsOf e=E.sz)
  (Q:∀ A cs x,DataW.trod enc P w base sp held A e cs=some x->∃ q z,LR μ F w q cs/\E.R H q z/\good x.1 z)
  {A:Nat} {cs:List Value} {x:DataW HT × List MemPlace} (h:DataW.trod enc P w base sp held A t cs=some x) :
  ∃ v B zs,cs=[v]/\VR μ F w B v/\SlV E ty H B zs/\(∀ z∈zs,∃ y∈xx x.1,good y z)/\zs.length<=maxLen/\zs.length<=(xx x.1).length:=by
 rcases DataW.trod_slice V h with ⟨rfl,-⟩ | ⟨a,len,cap,C,rest,n,-,rfl,ex,hb,hl,hc,S,O,-⟩
 ·exact ⟨_,.nilSl,[],rfl,.nilSl,SlV.nil _ _ _,(fun z h=>by cases h),WG _,WG _⟩
 ·rcases YG len with h0 | h0
  ·subst h0;refine ⟨_,.sl [] 0,[],rfl,.sl0 a cap,⟨[],⟨trivial,(fun s h=>by cases h),0,rfl,by simp [aK]⟩,(fun _ _ _ _ _ _ e=>by cases e),by simp,fun i a h=>by simp at h⟩,fun z h=>(by cases h),WG _,WG _⟩
  ·have hp:=E.pos;obtain ⟨L,l,d⟩:=yb (P:=fun i (y:List AV × List Value × α)=>w.cells? base (a.add (i*E.sz)) E.sz=some y.2.1/\LR μ F w y.1 y.2.1/\E.R H y.1 y.2.2/\∃ h:i<C.length,good C[i].1 y.2.2) len fun i hi=>by
    have h1:=O i hi;rw [zh zO,U] at h1;obtain ⟨cs,h2,h3⟩:=eD.1 h1;obtain ⟨q,z,h4,h5,M⟩:=Q _ _ _ h3;exact ⟨(q,cs,z),h2,h4,h5,zO,M⟩
   have J:∀ y∈L,y.1.length=E.sz:=fun y hy=>by
    obtain ⟨i,hi,rfl⟩:=XH hy;exact (E.len (d i hi).2.2.1).1
   obtain ⟨o,I⟩:=JQ (f:=fun y:List AV × List Value × α=>y.1) L J;have G:∀ i (hi:i<L.length) k,k<E.sz->w.cell? (a.add (i*E.sz) |>.add k)=(L[i]).2.1[k]?:=fun i hi k b=>((World.cells?_some (d i hi).1).2.2 k b)
   obtain ⟨v0,p⟩:∃ v0,w.cell? a=some v0:=by
    have h1:=G 0 zO 0 hp;have h2:=(World.cells?_some (d 0 zO).1).2.1;rw [zh zO] at h1;simp [Addr.add] at h1;exact ⟨_,h1⟩
   obtain ⟨arr,g,fr,r,K⟩:∃ arr g fr,w.heap[a.block]? = some (.cells arr g fr)/\a.spot=none:=by
    unfold World.cell? at p;split at p
    ·rename_i c g fr hb;refine ⟨c,g,fr,hb,?_⟩;cases hs:a.spot with
     | none=>rfl
     | some s=>rw [hs] at p; simp at p
    ·cases p
   obtain ⟨blk,off,Z⟩:=a;simp only at K r hb;subst K;have D:∀ i (hi:i<L.length) k,k<E.sz->arr[off+(i*E.sz+k)]? = (L[i]).2.1[k]?:=fun i hi k b=>by
    rw [<- G i hi k b];have e:((⟨blk,off,none⟩:Addr).add (i*E.sz) |>.add k)=⟨blk,off+(i*E.sz+k),none⟩:=by
     unfold Addr.add;by_cases h1:i*E.sz=0
     ·by_cases h2:k=0
      ·simp [h1,h2]
      ·simp [h1,h2]
     ·by_cases h2:k=0
      ·simp [h1,h2]
      ·simp [h1,h2]; omega
    rw [e];simp [World.cell?,r]
   have X:∀ i (hi:i<L.length),(L[i]).2.1.length=E.sz:=fun i hi=>(World.cells?_some (d i hi).1).2.1;have T:off+(L.flatMap fun y=>y.1).length<=arr.size:=by
    have h1:=D (len-1) zO (E.sz-1) zO;rw [zh (by have:=X (len-1) zO; omega)] at h1;have h2:=(XB.1 h1).1;rw [o,l];have h3:len*E.sz=(len-1)*E.sz+E.sz:=by
     obtain ⟨m,rfl⟩:∃ m,len=m+1:=⟨len-1,zO⟩
     rw [Yk,YH]
    omega
   refine ⟨_,.sl (L.flatMap fun y=>y.1) len,L.map fun y=>y.2.2,rfl,.sl _ _ _ blk off arr g fr (N _ (XB.1 r).1) r hl T fun j c v hc W=>?_,⟨L.flatMap fun y=>y.1,⟨trivial,(fun s h=>by cases h),len,rfl,?_⟩,(fun _ _ _ _ _ _ e=>by cases e),?_,fun i z u=>?_⟩,fun z u=>?_,by rw [Nj,l]; omega,by rw [Nj,l,ex]; simp [xx,S]⟩
   ·have hj:=(WI.1 hc).1;rw [o] at hj;have hi:j / E.sz<L.length:=(WY hp).2 hj;have b:j % E.sz<E.sz:=Xp _ hp;have R:j / E.sz*E.sz+j % E.sz=j:=ZH j E.sz;have h1:=I _ hi _ b;have h2:=D _ hi _ b;rw [R] at h1 h2;rw [hc] at h1;rw [W] at h2;exact (d _ hi).2.1.2 _ _ _ h1.symm h2.symm
   ·simp only [aK];rw [if_pos ⟨Jv _,by rw [o,l]; exact Jv _⟩,WS (by rw [o,l]; exact Jv _)]
   ·rw [o,Nj]
   ·rw [Xq,WE] at u;obtain ⟨y,hy,rfl⟩:=u;obtain ⟨hi,rfl⟩:=WI.1 hy;have e:(((L.flatMap fun y=>y.1).drop (i*E.sz)).take E.sz)=L[i].1:=by
     apply Yg
     intro k;rw [WW];have Y:=J _ (EL hi);split
     ·rename_i b;rw [WX]; exact I i hi k b
     ·exact (Xa zO).symm
    rw [e];exact (d i hi).2.2.1
   ·obtain ⟨y,hy,rfl⟩:=DT.1 u;obtain ⟨i,hi,rfl⟩:=XH hy;obtain ⟨h1,h2⟩:=(d i hi).2.2.2;rw [ex];exact ⟨_,DT.2 ⟨_,EL h1,rfl⟩,h2⟩
def Jb {E:gr α} {ty:Nat} {good:α->Prop} {t e:TypeId} (f:∀ c,c<w.heap.size->F c) (j:P.underlying t=some (.slice e)) (i:P.cellsOf e=E.sz)
  (g:∀ b cs x,DataW.trod enc P w base sp held b e cs=some x->∃ d z,LR μ F w d cs/\E.R H d z/\good z)
  {b:Nat} {cs:List Value} {x:DataW HT × List MemPlace} (h:DataW.trod enc P w base sp held b t cs=some x) :
  ∃ v a zs,cs=[v]/\VR μ F w a v/\SlV E ty H a zs/\(∀ z∈zs,good z)/\zs.length<=maxLen:=by
 obtain ⟨v,a,zs,h1,h2,h3,h4,h5,-⟩:=zB (good:=fun _ z=>good z) f j i g h;exact ⟨v,a,zs,h1,h2,h3,fun z k=>(h4 z k).elim fun _ h=>h.2,h5⟩
def KE {t:TypeId} (d:P.underlying t=some (.int .u64)) {c:Nat} {cs:List Value} {x:DataW HT × List MemPlace} (h:DataW.trod enc P w base sp held c t cs=some x) :
  ∃ a z,LR μ F w a cs/\(bz cq).R H a z/\z<18446744073709551616:=by
 obtain ⟨n,rfl,-,b⟩:=DataW.trod_int d h;have hr:0<=n/\n<18446744073709551616:=by
  have h1:IntKind.u64.min=0:=by decide
  have h2:IntKind.u64.max=18446744073709551615:=by decide
  unfold Lit.wf at b;simp [h1,h2] at b;omega
 refine ⟨[.int .u64 n],n.toNat,LR.cons (.int _ _) LR.nil,⟨_,rfl,?_⟩,zO⟩;show AV.int .u64 n=.int .u64 (n.toNat:Int);rw [Int.toNat_of_nonneg hr.1]
def Ni {t e:TypeId} (d:∀ c,c<w.heap.size->F c) (g:P.underlying t=some (.slice e)) (he:P.underlying e=some (.int .u64)) (f:P.cellsOf e=1) {b:Nat} {cs:List Value} {x:DataW HT × List MemPlace} (h:DataW.trod enc P w base sp held b t cs=some x) :
  ∃ v a zs,cs=[v]/\VR μ F w a v/\SlV (bz cq) ae H a zs/\(∀ z∈zs,z<18446744073709551616)/\zs.length<=maxLen/\zs.length<=(xx x.1).length:=by
 obtain ⟨v,a,zs,h1,h2,h3,h4,h5⟩:=zB (E:=bz cq) (ty:=ae) (H:=H) (μ:=μ) (good:=fun _ z=>z<18446744073709551616) d g f (fun b cs x h=>KE he h) h;exact ⟨v,a,zs,h1,h2,h3,fun z i=>(h4 z i).elim fun _ h=>h.2,h5⟩
def Em (z:Bool × List Nat):Prop:=(∀ x∈z.2,x<18446744073709551616)/\z.2.length<=maxLen
def Nh {t e:TypeId} {g:Array Field} {f0 f1:Field} (y:∀ c,c<w.heap.size->F c) (E:P.underlying t=some (.struct g)) (D:g = #[f0,f1]) (h0:f0.offset=0) (h1:f1.offset=1) (hc:P.cellsOf t=2) (hb:P.underlying f0.type=some .bool) (A:P.cellsOf f0.type=1) (hn:P.underlying f1.type=some (.slice e)) (C:P.cellsOf f1.type=1) (he:P.underlying e=some (.int .u64)) (B:P.cellsOf e=1)
  {o:Nat} {cs:List Value} {x:DataW HT × List MemPlace} (h:DataW.trod enc P w base sp held o t cs=some x) :
  ∃ a z,LR μ F w a cs/\rawE.R H a z/\Em z/\Ik x.1 z:=by
 subst D;obtain ⟨xs,n,-,ex,hl,k,hx⟩:=DataW.trod_struct E h;have k:xs.length=2:=by simpa using k
 rw [hc] at hl
 match cs,hl with
 | [l,m],_ =>
  have e0:=hx 0 f0 rfl;have f:=hx 1 f1 rfl;rw [zh zO,h0,A] at e0;rw [zh zO,h1,C] at f;have G:xs[1]∈xs:=EL _;obtain ⟨b,i,-⟩:=DataW.trod_bool hb e0;obtain ⟨v,d,zs,j,p,q,r,s,u⟩:=Ni (H:=H) (μ:=μ) y hn he B f;have q0:l=.bool b:=by simpa using i
  have q1:m=v:=by simpa using j
  clear i j;subst q0; subst q1;exact ⟨[.bool b,d],(b,zs),LR.cons (.bool _) (LR.cons p LR.nil),⟨d,rfl,q⟩,⟨r,s⟩,by rw [ex]; exact ⟨_,DT.2 ⟨_,G,rfl⟩,u⟩⟩
structure RowTys (P:Program) (tvs tv ti te:TypeId):Prop where
 vs:P.underlying tvs=some (.slice tv)
 cv:P.cellsOf tv=1
 v:P.underlying tv=some (.slice ti)
 ci:P.cellsOf ti=2
 i:∃ f0 f1:Field,P.underlying ti=some (.struct #[f0,f1])/\f0.offset=0/\f1.offset=1/\P.underlying f0.type=some .bool/\P.cellsOf f0.type=1/\P.underlying f1.type=some (.slice te)/\P.cellsOf f1.type=1
 e:P.underlying te=some (.int .u64)
 ce:P.cellsOf te=1
abbrev Ux (H:Heap) (v:AV) (l:List (Bool × List Nat)):Prop:=SlV rawE aa H v l
def my (l:List (Bool × List Nat)):Prop:=(∀ z∈l,Em z)/\l.length<=maxLen
def Ng {tvs tv ti te:TypeId} (a:RowTys P tvs tv ti te) (g:∀ c,c<w.heap.size->F c) {e:Nat} {cs:List Value} {x:DataW HT × List MemPlace} (h:DataW.trod enc P w base sp held e tv cs=some x) :
  ∃ v b l,cs=[v]/\VR μ F w b v/\Ux H b l/\my l/\∀ z∈l,∃ y∈xx x.1,Ik y z:=by
 obtain ⟨f0,f1,n,o,p,q,r,s,t⟩:=a.i;obtain ⟨v,b,l,i,j,k,f,m,-⟩:=zB (E:=rawE) (ty:=aa) (H:=H) (μ:=μ) (good:=fun y z=>Em z/\Ik y z) g a.v a.ci (fun e cs x h=>Nh g n rfl o p a.ci q r s t a.e a.ce h) h;exact ⟨v,b,l,i,j,k,⟨fun z d=>(f z d).elim fun _ h=>h.2.1,m⟩,fun z d=>(f z d).imp fun y h=>⟨h.1,h.2.2⟩⟩
end
def fV (z:Bool × List Nat):Int:=if z.1=true then -(val z.2:Int) else (val z.2:Int)
def KX:∀ {z:Bool × List Nat},r8 z=false->Lim z.2->fd (fV z)=z
 | (b,l),hb,hl=>by
  simp only [r8,Yz,decide_eq_false_iff_not,Bool.and_eq_false_iff] at hb;obtain ⟨h1,h2⟩:=hb;have hn:My l:=h1;have a:=xp hl hn;cases b with
  | false =>
   have e:fV (false,l)=(val l:Int):=rfl;rw [e];unfold fd;rw [decide_eq_false zO,YW,a]
  | true =>
   have e:fV (true,l) = -(val l:Int):=rfl;have hne:l≠[]:=fun e=>by subst e; simp at h2
   have hp:0<B^(l.length-1):=Xh (by decide);have hq:=zb hn hne;rw [e];unfold fd;rw [decide_eq_true zO,Zz,YW,a]
def SlV.int {ty:Nat} {H:Heap} {v:AV} {l:List (Bool × List Nat)} (h:SlV rawE ty H v l) (hb:∀ z∈l,r8 z=false/\Lim z.2):SlV intE ty H v (l.map fV):=by
 obtain ⟨cells,hr,f,hc,ha⟩:=h;refine ⟨cells,hr,f,by rw [hc,Nj]; rfl,fun i a hi=>?_⟩;rw [Xq,WE] at hi;obtain ⟨z,b,rfl⟩:=hi;obtain ⟨w,h1,h2⟩:=ha i z b;have hm:=hb z (WN b);have e:=KX hm.1 hm.2;have c:decide (fV z<0)=z.1:=congrArg Prod.fst e;have d:ah (fV z).natAbs=z.2:=congrArg Prod.snd e;refine ⟨w,by rw [c]; exact h1,?_⟩;show Lb H w (ah (fV z).natAbs);rw [d]; exact h2
section
open Go.ChangeShapes Go.WideShapes
variable {HT:Type} {enc:TypeId × Value->HT} {P:Program} {w:World} {base base':Nat} {sp:Nat->Bool} {held:Bool} {μ:Mu} {F:Nat->Prop} {H:Heap}
end
def int_range {n:Int} (h:(Lit.int .i64 n).wf=true) : -9223372036854775808<=n/\n<9223372036854775808:=by
 have h1:IntKind.i64.min = -9223372036854775808:=by decide
 have h2:IntKind.i64.max=9223372036854775807:=by decide
 unfold Lit.wf at h;simp [h1,h2] at h;omega
def Wg {n:Int} (h:(Lit.int .u8 n).wf=true):0<=n/\n<256:=by
 have h1:IntKind.u8.min=0:=by decide
 have h2:IntKind.u8.max=255:=by decide
 unfold Lit.wf at h;simp [h1,h2] at h;omega
def wf_nil:Wf (Heap.nil 0):=fun b e h=>by rw [Tr.nil_get] at h; cases h
def M2 {z:Bool × List Nat} {n:Nat} (hl:Lim z.2) (hn:z.2.length<=n):Bt (64*n) (fV z):=by
 have h1:=wI hl;have h2:B^z.2.length<=B^n:=W8 (by decide) hn;have h3:B^n=2^(64*n):=by
  have:B=2^64:=by decide
  rw [this,<- ZC]
 unfold Bt fV;split
 ·rw [Zz,YW]; omega
 ·rw [YW]; omega
def Rq {α:Type} (E:gr α) (ty:Nat):gr (List α × Bool) where
 sz:=2
 tys:=ty :: E.tys
 R H cs z:=∃ v,cs=[v,.bool z.2]/\SlV E ty H v z.1
 pos:=zO
 len:=by rintro H cs z ⟨v,rfl,h⟩; exact ⟨rfl,by simp [h.one.2]; rfl⟩
 mono:=by rintro H H' cs z hs ⟨v,rfl,h⟩; exact ⟨v,rfl,h.monoT hs⟩
def Rm {α:Type} (E:gr α) (ty:Nat):gr (Nat × List α) where
 sz:=2
 tys:=ty :: E.tys
 R H cs z:=∃ v,cs=[.int .u8 (z.1:Int),v]/\SlV E ty H v z.2
 pos:=zO
 len:=by rintro H cs z ⟨v,rfl,h⟩; exact ⟨rfl,by simp [h.one.2]; rfl⟩
 mono:=by rintro H H' cs z hs ⟨v,rfl,h⟩; exact ⟨v,rfl,h.monoT hs⟩
abbrev conE:gr (List Int × Bool):=Rq intE aa
abbrev conQE:gr (List (Bool × List Nat) × Bool):=Rq rawE aa
abbrev genE:gr (Nat × List Int):=Rm intE aa
abbrev genQE:gr (Nat × List (Bool × List Nat)):=Rm rawE aa
section
variable {HT:Type} {enc:TypeId × Value->HT} {P:Program} {w:World} {base:Nat} {sp:Nat->Bool} {held:Bool} {μ:Mu} {F:Nat->Prop} {H:Heap}
structure ConTys (P:Program) (tcs tc tv:TypeId):Prop where
 cs:P.underlying tcs=some (.slice tc)
 cc:P.cellsOf tc=2
 c:∃ f0 f1:Field,P.underlying tc=some (.struct #[f0,f1])/\f0.offset=0/\f1.offset=1/\f0.type=tv/\P.underlying f1.type=some .bool/\P.cellsOf f1.type=1
structure GenTys (P:Program) (tgs tg tv:TypeId):Prop where
 gs:P.underlying tgs=some (.slice tg)
 cg:P.cellsOf tg=2
 g:∃ f0 f1:Field,P.underlying tg=some (.struct #[f0,f1])/\f0.offset=0/\f1.offset=1/\f1.type=tv/\P.underlying f0.type=some (.int .u8)/\P.cellsOf f0.type=1
def Nk {tcs tc tvs tv ti te:TypeId} (i:ConTys P tcs tc tv) (j:RowTys P tvs tv ti te) (t:∀ c,c<w.heap.size->F c) {p:Nat} {cs:List Value} {x:DataW HT × List MemPlace} (h:DataW.trod enc P w base sp held p tc cs=some x) :
  ∃ a z,LR μ F w a cs/\conQE.R H a z/\my z.1:=by
 obtain ⟨f0,f1,u,y,A,B,C,D⟩:=i.c;obtain ⟨xs,n,-,ex,hl,k,hx⟩:=DataW.trod_struct u h;have k:xs.length=2:=by simpa using k
 rw [i.cc] at hl
 match cs,hl with
 | [m,o],_ =>
  have e0:=hx 0 f0 rfl;have e:=hx 1 f1 rfl;rw [zh zO,y,B,j.cv] at e0;rw [zh zO,A,D] at e;obtain ⟨b,f,-⟩:=DataW.trod_bool C e;obtain ⟨v,d,l,g,q,r,s,-⟩:=Ng (H:=H) (μ:=μ) j t e0;have q0:o=.bool b:=by simpa using f
  have q1:m=v:=by simpa using g
  clear f g;subst q0; subst q1;exact ⟨[d,.bool b],(l,b),LR.cons q (LR.cons (.bool _) LR.nil),⟨d,rfl,r⟩,s⟩
def KF {tcs tc tvs tv ti te:TypeId} (a:ConTys P tcs tc tv) (f:RowTys P tvs tv ti te) (e:∀ c,c<w.heap.size->F c) {d:Nat} {cs:List Value} {x:DataW HT × List MemPlace} (h:DataW.trod enc P w base sp held d tcs cs=some x) (ty:Nat) :
  ∃ v b l,cs=[v]/\VR μ F w b v/\SlV conQE ty H b l/\(∀ r∈l,my r.1)/\l.length<=maxLen :=
 Jb (E:=conQE) (good:=fun z=>my z.1) e a.cs a.cc (fun d cs x h=>Nk a f e h) h
def Wh {tgs tg tvs tv ti te:TypeId} (g:GenTys P tgs tg tv) (i:RowTys P tvs tv ti te) (u:∀ c,c<w.heap.size->F c) {q:Nat} {cs:List Value} {x:DataW HT × List MemPlace} (h:DataW.trod enc P w base sp held q tg cs=some x) :
  ∃ a z,LR μ F w a cs/\genQE.R H a z/\my z.2/\z.1<256:=by
 obtain ⟨f0,f1,A,B,C,D,E,G⟩:=g.g;obtain ⟨xs,n,-,ex,hl,j,hx⟩:=DataW.trod_struct A h;have j:xs.length=2:=by simpa using j
 rw [g.cg] at hl
 match cs,hl with
 | [o,p],_ =>
  have e0:=hx 0 f0 rfl;have d:=hx 1 f1 rfl;rw [zh zO,B,G] at e0;rw [zh zO,C,D,i.cv] at d;obtain ⟨k,e,-,y⟩:=DataW.trod_int E e0;have hr:=Wg y;obtain ⟨v,b,l,f,r,s,t,-⟩:=Ng (H:=H) (μ:=μ) i u d;have q0:o=.int .u8 k:=by simpa using e
  have q1:p=v:=by simpa using f
  clear e f;subst q0; subst q1;obtain ⟨m,rfl⟩:∃ m:Nat,k=(m:Int):=⟨k.toNat,zO⟩
  exact ⟨[.int .u8 (m:Int),b],(m,l),LR.cons (.int _ _) (LR.cons r LR.nil),⟨b,rfl,s⟩,t,by show m<256; omega⟩
end
section
open Go.ChangeShapes Go.WideShapes
variable {HT:Type} {enc:TypeId × Value->HT} {P:Program} {w:World} {base base':Nat} {sp:Nat->Bool} {held:Bool} {μ:Mu} {F:Nat->Prop} {H:Heap}
def open_cons {tcs tc tvs tv ti te:TypeId} (f:ConTys P tcs tc tv) (j:RowTys P tvs tv ti te) (i:∀ c,c<w.heap.size->F c) {r:Reach} {v:Value} {d:DataW HT} {ps:List MemPlace} (hval:Value.okWide P w r base' tcs v) (hd:DataW.Trod enc P w base sp held tcs v d ps) (ty:Nat) :
  ∃ b l,VR μ F w b v/\SlV conQE ty H b l/\(∀ r∈l,my r.1)/\l.length<=maxLen:=by
 obtain ⟨a,n,c,rfl⟩:=okWide_slice f.cs hval;obtain ⟨m,h⟩:=hd;obtain ⟨k,b,l,e,g⟩:=KF (H:=H) (μ:=μ) f j i h ty;have e:k=.slice a n c:=by simpa [Value.cells] using e.symm
 subst e;exact ⟨b,l,g⟩
end
def OV {ty:Nat} {H:Heap} {v:AV} {l:List (List (Bool × List Nat) × Bool)} (h:SlV conQE ty H v l) (hb:∀ r∈l,∀ z∈r.1,r8 z=false/\Lim z.2):SlV conE ty H v (l.map fun r=>(r.1.map fV,r.2)):=by
 obtain ⟨cells,hr,c,hc,ha⟩:=h;refine ⟨cells,hr,c,by rw [hc,Nj]; rfl,fun i a hi=>?_⟩;rw [Xq,WE] at hi;obtain ⟨z,b,rfl⟩:=hi;obtain ⟨w,h1,h2⟩:=ha i z b;exact ⟨w,h1,SlV.int h2 (hb z (WN b))⟩
end Go.Proofs.YtiigaeehghcjiaaGreat.Ev
namespace Go.Proofs.YtiigaeehghcjiaaGreat.Lin
def zM (d:Nat):List V->V
 | []=>lZ d
 | a :: l=>mix 1 a 1 (zM d l)
def uO {d:Nat}:∀ {l:List V},(∀ a∈l,a.length=d)->(zM d l).length=d
 | [],_=>by simp [zM,lZ]
 | a :: l,h=>mix_length (h a (WH ..)) (uO fun b hb=>h b (SO _ hb))
def sA {d:Nat} {x:V}:∀ {l:List V},(∀ a∈l,a.length=d)->(∀ a∈l,dot x a=0)->dot x (zM d l)=0
 | [],_,_=>lc x d
 | a :: l,hl,h=>by
  have h1:=sA (x:=x) (l:=l) (fun b hb=>hl b (SO _ hb)) fun b hb=>h b (SO _ hb);have h2:=h a (WH ..);have e:=uO (d:=d) (l:=l) fun b hb=>hl b (SO _ hb);rw [zM,aW _ _ _ ((hl a (WH ..)).trans e.symm)];omega
def xV {d:Nat} {x:V}:∀ {l:List V},(∀ a∈l,a.length=d)->(∀ a∈l,0<=dot x a)->0<=dot x (zM d l)/\((∃ a∈l,dot x a≠0)->1<=dot x (zM d l))
 | [],_,_=>⟨by rw [zM,lc]; exact Yy _,fun ⟨a,ha,_⟩=>by cases ha⟩
 | a :: l,hl,h=>by
  obtain ⟨h1,h3⟩:=xV (x:=x) (l:=l) (fun b hb=>hl b (SO _ hb)) fun b hb=>h b (SO _ hb);have h2:=h a (WH ..);have e:=uO (d:=d) (l:=l) fun b hb=>hl b (SO _ hb);rw [zM,aW _ _ _ ((hl a (WH ..)).trans e.symm)];refine ⟨zO,?_⟩;rintro ⟨b,hb,hn⟩;rcases WV.1 hb with rfl | hb
  ·omega
  ·have:=h3 ⟨b,hb,hn⟩
   omega
def Hv {d:Nat} {E I:V->Prop} {L R:List V} (h:yV d E I L R) {r s:V} (hr:r∈R) (hs:s∈R) (hne:s≠r):∃ i,I i/\dot i r=0/\dot i s≠0:=by
 apply W0
 intro n;have c:=h.dd.keep r hr;have o:=h.dd.keep s hs;have e:=h.dd.lenR s hs;obtain ⟨k1,g,k,q,f⟩:=h.dd.ext r hr s o fun i hi p=>W0 fun hn=>n ⟨i,hi,p,hn⟩;have t:g≠0:=fun e0=>by
  subst e0;obtain ⟨b,j,m⟩:=h.dd.off s hs
  have:=Con.dot_zero (a:=b) h.dd.lenL (fun r h=>h.elim) (fun l hl=>h.dd.lineI l hl b j) (fun r h=>h.elim) f
  rw [aW _ _ _ (e.trans c.len.symm)] at this;rcases W2.1 (show k1*dot b s=0 by omega) with h1 | h1
  ·omega
  ·exact m h1
 have:s=r:=xW h.form e c.len (fun l hl=>h.rest s hs l hl) (fun l hl=>h.rest r hr l hl) (h.cont s hs) (h.cont r hr) k zO f
 exact hne this
def zR (f:V->Int):∀ S:List V,∃ N:Int,0<=N/\∀ s∈S,f s<=N
 | []=>⟨0,Yy _,fun s h=>by cases h⟩
 | a :: S=>by
  obtain ⟨N,h0,b⟩:=zR f S;refine ⟨N+(f a).natAbs,zO,fun s hs=>?_⟩;rcases WV.1 hs with rfl | hs
  ·omega
  ·have:=b s hs; omega
def unitC (n:Nat) (k:Int):V:=k :: List.replicate n 0
def hd1 (r:V):Int:=r.headD 0
def eqsOf (l:List (V × Bool)):List V:=(l.filter fun c=>c.2).map fun c=>c.1
def ineqsOf (n:Nat) (l:List (V × Bool)):List V:=unitC n 1 :: (l.filter fun c=>!c.2).map fun c=>c.1
def kindOf (r:V):Nat:=if 0<hd1 r then 3 else 2
def gensP (n:Nat) (l:List (V × Bool)):List (Nat × V) :=
 if (gensR (n+1) (eqsOf l) (ineqsOf n l)).any (fun r=>decide (0<hd1 r)) then
  (gensL (n+1) (eqsOf l) (ineqsOf n l)).map (fun r=>(1,r))++(gensR (n+1) (eqsOf l) (ineqsOf n l)).map fun r=>(kindOf r,r)
 else []
def linesOf (g:List (Nat × V)):List V:=(g.filter fun x=>x.1 == 1).map fun x=>x.2
def raysOf (g:List (Nat × V)):List V:=(g.filter fun x=>!(x.1 == 1)).map fun x=>x.2
def consP (n:Nat) (g:List (Nat × V)):List (V × Bool) :=
 if g.any (fun x=>x.1 == 3) then
  (gensL (n+1) (linesOf g) (raysOf g)).map (fun r=>(r,true))++((gensR (n+1) (linesOf g) (raysOf g)).filter fun r=>!decide (r=unitC n 1)).map fun r=>(r,false)
 else [(unitC n (-1),false)]
def keepsP (c:V × Bool) (g:Nat × V):Bool:=if c.2 || g.1 == 1 then decide (dot c.1 g.2=0) else decide (0<=dot c.1 g.2)
def unitC_len (n:Nat) (k:Int):(unitC n k).length=n+1:=by simp [unitC]
def sR:∀ (n:Nat) (x:V),dot (List.replicate n 0) x=0
 | 0,x=>by simp [dot]
 | n+1,[]=>by simp [dot]
 | n+1,a :: x=>by
  have:=sR n x
  rw [Xt];simp [dot] at this ⊢;exact this
def iC {n:Nat} {k:Int} {x:V}:dot (unitC n k) x=k*hd1 x:=by
 cases x with
 | nil=>simp [unitC,dot,hd1]
 | cons a x =>
  have:=sR n x
  simp [unitC,dot,hd1,this]
section
variable {n:Nat} {l:List (V × Bool)}
def eqs_len (h:∀ c∈l,c.1.length=n+1):∀ a∈eqsOf l,a.length=n+1:=fun a ha=>by
 obtain ⟨c,hc,rfl⟩:=DT.1 ha;exact h c (WO.1 hc).1
def ineqs_len (h:∀ c∈l,c.1.length=n+1):∀ a∈ineqsOf n l,a.length=n+1:=fun a ha=>by
 rcases WV.1 ha with rfl | ha
 ·exact unitC_len n 1
 ·obtain ⟨c,hc,rfl⟩:=DT.1 ha;exact h c (WO.1 hc).1
def mem_eqs {a:V}:a∈eqsOf l ↔ (a,true)∈l:=by
 constructor
 ·intro h;obtain ⟨⟨r,b⟩,hc,rfl⟩:=DT.1 h;obtain ⟨h1,h2⟩:=WO.1 hc;simp only at h2;subst h2;exact h1
 ·intro h;exact DT.2 ⟨(a,true),WO.2 ⟨h,rfl⟩,rfl⟩
def mem_ineqs {a:V}:a∈ineqsOf n l ↔ a=unitC n 1\/(a,false)∈l:=by
 unfold ineqsOf;rw [WV];refine or_congr ZZ ?_;constructor
 ·intro h;obtain ⟨⟨r,b⟩,hc,rfl⟩:=DT.1 h;obtain ⟨h1,h2⟩:=WO.1 hc;cases b with
  | false=>exact h1
  | true=>simp at h2
 ·intro h;exact DT.2 ⟨(a,false),WO.2 ⟨h,rfl⟩,rfl⟩
abbrev de (n:Nat) (l:List (V × Bool)) (x:V):Prop:=Keep (n+1) (· ∈ eqsOf l) (· ∈ ineqsOf n l) x
def keepP_iff {x:V}:de n l x ↔ x.length=n+1/\0<=hd1 x/\∀ c∈l,(c.2=true->dot c.1 x=0)/\(c.2=false->0<=dot c.1 x):=by
 constructor
 ·intro h;have h1:=h.ge (unitC n 1) (mem_ineqs.2 (.inl rfl));rw [iC] at h1;refine ⟨h.len,zO,fun ⟨r,b⟩ hc=>⟨fun hb=>?_,fun hb=>?_⟩⟩
  ·simp only at hb; subst hb; exact h.eq r (mem_eqs.2 hc)
  ·simp only at hb; subst hb; exact h.ge r (mem_ineqs.2 (.inr hc))
 ·rintro ⟨h1,h2,h3⟩;refine ⟨h1,fun a ha=>(h3 _ (mem_eqs.1 ha)).1 rfl,fun a ha=>?_⟩;rcases mem_ineqs.1 ha with rfl | ha
  ·rw [iC]; omega
  ·exact (h3 _ ha).2 rfl
def AO {l':List (V × Bool)} (h:∀ c∈l,c.1.length=n+1) (h':∀ c∈l',c.1.length=n+1) (hs:∀ x,de n l x ↔ de n l' x):gensP n l=gensP n l':=by
 obtain ⟨a,b⟩:=qQ (gens_told (eqs_len h) (ineqs_len h)) (gens_told (eqs_len h') (ineqs_len h')) hs;unfold gensP;rw [a,b]
def Oh (h:∀ c∈l,c.1.length=n+1) {r:V} (hr:r∈gensL (n+1) (eqsOf l) (ineqsOf n l)):de n l r/\de n l (scl (-1) r):=by
 have t:=gens_told (eqs_len h) (ineqs_len h);refine ⟨⟨t.dd.lenL r hr,fun e he=>t.dd.lineE r hr e he,fun i hi=>by rw [t.dd.lineI r hr i hi]; exact Yy _⟩,⟨ag (t.dd.lenL r hr),fun e he=>by rw [dot_scl,t.dd.lineE r hr e he]; rfl,fun i hi=>by rw [dot_scl,t.dd.lineI r hr i hi]; exact Yy _⟩⟩
def NK (h:∀ c∈l,c.1.length=n+1) {r:V} (hr:r∈gensR (n+1) (eqsOf l) (ineqsOf n l)):de n l r:=(gens_told (eqs_len h) (ineqs_len h)).dd.keep r hr
def mm (n:Nat) (l:List (V × Bool)) (c:V × Bool):Prop:=∀ x,de n l x->(c.2=true->dot c.1 x=0)/\0<=dot c.1 x
def Ce {c:V × Bool} (hc:c∈l):mm n l c:=fun x hx=>by
 have h1:=(keepP_iff.1 hx).2.2 c hc;refine ⟨h1.1,?_⟩;cases hb:c.2 with
 | false=>exact h1.2 hb
 | true=>rw [h1.1 hb]; exact Yy _
def p8 {c:V × Bool} {g:Nat × V} (hc:mm n l c) (hg:de n l g.2) (hl:g.1=1->de n l (scl (-1) g.2)):keepsP c g=true:=by
 have h1:=hc _ hg;unfold keepsP;cases hb:c.2 with
 | true=>simp [h1.1 hb]
 | false =>
  by_cases a:g.1=1
  ·have h2:=(hc _ (hl a)).2;rw [dot_scl] at h2;simp [a]; omega
  ·simp [a]; exact h1.2
def Ve (h:∀ c∈l,c.1.length=n+1) {g:Nat × V} (hg:g∈gensP n l):de n l g.2/\(g.1=1->de n l (scl (-1) g.2)):=by
 unfold gensP at hg;split at hg
 ·rcases WQ.1 hg with hg | hg
  ·obtain ⟨r,hr,rfl⟩:=DT.1 hg;exact ⟨(Oh h hr).1,fun _=>(Oh h hr).2⟩
  ·obtain ⟨r,hr,rfl⟩:=DT.1 hg;refine ⟨NK h hr,fun e=>?_⟩;have e:kindOf r=1:=e;unfold kindOf at e;split at e <;> omega
 ·cases hg
theorem JG (r:V):(kindOf r == 1)=false:=by unfold kindOf; split <;> rfl
def nw (hs:(gensR (n+1) (eqsOf l) (ineqsOf n l)).any (fun r=>decide (0<hd1 r))=true) :
  linesOf (gensP n l)=gensL (n+1) (eqsOf l) (ineqsOf n l)/\raysOf (gensP n l)=gensR (n+1) (eqsOf l) (ineqsOf n l)/\(gensP n l).any (fun x=>x.1 == 3)=true:=by
 unfold gensP;rw [if_pos hs];refine ⟨?_,?_,?_⟩
 ·unfold linesOf;rw [XQ,List.filter_eq_self.2,List.filter_eq_nil_iff.2,Xx,Yw]
  ·exact Zq _
  ·intro x hx;obtain ⟨r,-,rfl⟩:=DT.1 hx;simp [JG]
  ·intro x hx;obtain ⟨r,-,rfl⟩:=DT.1 hx;rfl
 ·unfold raysOf;rw [XQ,List.filter_eq_nil_iff.2,List.filter_eq_self.2,XS,Yw]
  ·exact Zq _
  ·intro x hx;obtain ⟨r,-,rfl⟩:=DT.1 hx;simp [JG]
  ·intro x hx;obtain ⟨r,-,rfl⟩:=DT.1 hx
   simp
 ·rw [W7] at hs ⊢;obtain ⟨r,hr,h0⟩:=hs;refine ⟨(kindOf r,r),Yb _ (DT.2 ⟨r,hr,rfl⟩),?_⟩;have h0:0<hd1 r:=of_decide_eq_true h0;simp [kindOf,h0]
def mO {g:List (Nat × V)} (h3:g.any (fun x=>x.1 == 3)=true) (x:V):de n (consP n g) x ↔ 0<=hd1 x/\Keep (n+1) (· ∈ gensL (n+1) (linesOf g) (raysOf g)) (· ∈ gensR (n+1) (linesOf g) (raysOf g)) x:=by
 rw [keepP_iff];unfold consP;rw [if_pos h3];constructor
 ·rintro ⟨q1,q2,q3⟩;refine ⟨q2,q1,fun a ha=>(q3 (a,true) (XK _ (DT.2 ⟨a,ha,rfl⟩))).1 rfl,fun b hb=>?_⟩;by_cases f:b=unitC n 1
  ·rw [f,iC]; omega
  ·exact (q3 (b,false) (Yb _ (DT.2 ⟨b,WO.2 ⟨hb,by simp [f]⟩,rfl⟩))).2 rfl
 ·rintro ⟨q2,d⟩;refine ⟨d.len,q2,fun c hc=>?_⟩;rcases WQ.1 hc with hc | hc
  ·obtain ⟨a,ha,rfl⟩:=DT.1 hc;exact ⟨fun _=>d.eq a ha,fun e=>by cases e⟩
  ·obtain ⟨b,hb,rfl⟩:=DT.1 hc;exact ⟨(fun e=>by cases e),fun _=>d.ge b (WO.1 hb).1⟩
def lD {g:List (Nat × V)} (hg:∀ x∈g,x.2.length=n+1):∀ c∈consP n g,c.1.length=n+1:=by
 have d:∀ a∈linesOf g,a.length=n+1:=fun a ha=>by obtain ⟨x,hx,rfl⟩:=DT.1 ha; exact hg x (WO.1 hx).1
 have e:∀ a∈raysOf g,a.length=n+1:=fun a ha=>by obtain ⟨x,hx,rfl⟩:=DT.1 ha; exact hg x (WO.1 hx).1
 intro c hc;unfold consP at hc;split at hc
 ·rcases WQ.1 hc with hc | hc
  ·obtain ⟨a,ha,rfl⟩:=DT.1 hc;exact LF d e a ha
  ·obtain ⟨b,hb,rfl⟩:=DT.1 hc;exact LE d e b (WO.1 hb).1
 ·rw [WL] at hc;subst hc;exact unitC_len n (-1)
def sO (h:∀ c∈l,c.1.length=n+1):∀ x∈gensP n l,x.2.length=n+1:=fun x hx=>(Ve h hx).1.len
def FJ (h:∀ c∈l,c.1.length=n+1) (hs:(gensR (n+1) (eqsOf l) (ineqsOf n l)).any (fun r=>decide (0<hd1 r))=true) (x:V):de n (consP n (gensP n l)) x ↔ de n l x:=by
 obtain ⟨p1,p2,p3⟩:=nw hs;rw [mO p3,p1,p2];have t1:=gens_told (eqs_len h) (ineqs_len h);have b:=gens_told t1.dd.lenL t1.dd.lenR;have hd:=CF (eqs_len h) (ineqs_len h) t1.dd b.dd x;constructor
 ·rintro ⟨-,a⟩; exact hd.2 a
 ·intro a; exact ⟨(keepP_iff.1 a).2.1,hd.1 a⟩
def pK:gensP n [(unitC n (-1),false)]=[]:=by
 have hl:∀ c∈[(unitC n (-1),false)],c.1.length=n+1:=fun c hc=>by rw [WL] at hc; subst hc; exact unitC_len n (-1)
 unfold gensP;rw [if_neg];intro hs;rw [W7] at hs;obtain ⟨r,hr,h0⟩:=hs;have h0:0<hd1 r:=of_decide_eq_true h0
 have:=((keepP_iff.1 (NK hl hr)).2.2 _ (WL.2 rfl)).2 rfl
 rw [iC] at this;omega
def K3 (h:∀ c∈l,c.1.length=n+1):gensP n (consP n (gensP n l))=gensP n l:=by
 by_cases hs:(gensR (n+1) (eqsOf l) (ineqsOf n l)).any (fun r=>decide (0<hd1 r))=true
 ·exact AO (lD (sO h)) h (FJ h hs)
 ·have e:gensP n l=[]:=by unfold gensP; rw [if_neg hs]
  rw [e];exact pK
def poly_keeps (h:∀ c∈l,c.1.length=n+1) {g:Nat × V} (hg:g∈gensP n l) {c:V × Bool} (hc:c∈l\/c∈consP n (gensP n l)):keepsP c g=true:=by
 obtain ⟨k1,k2⟩:=Ve h hg;refine p8 (l:=l) ?_ k1 k2;rcases hc with hc | hc
 ·exact Ce hc
 ·have hs:(gensR (n+1) (eqsOf l) (ineqsOf n l)).any (fun r=>decide (0<hd1 r))=true:=by
   cases hs:(gensR (n+1) (eqsOf l) (ineqsOf n l)).any (fun r=>decide (0<hd1 r)) with
   | true=>rfl
   | false =>
    unfold gensP at hg;rw [if_neg (by rw [hs]; decide)] at hg;cases hg
  exact fun x hx=>Ce hc x ((FJ h hs x).2 hx)
def HN (hne:gensP n l≠[]):(gensP n l).any (fun x=>x.1 == 3)=true:=by
 cases hs:(gensR (n+1) (eqsOf l) (ineqsOf n l)).any (fun r=>decide (0<hd1 r)) with
 | true=>exact (nw hs).2.2
 | false=>exact absurd (by unfold gensP; rw [if_neg (by rw [hs]; decide)]) hne
def ValidG (n:Nat) (g:List (Nat × V)):Prop:=∀ x∈g,x.2.length=n+1/\(x.1=3->0<hd1 x.2)/\(x.1≠3->hd1 x.2=0)
def mem_lines {g:List (Nat × V)} {r:V}:r∈linesOf g ↔ (1,r)∈g:=by
 constructor
 ·intro h;obtain ⟨⟨k,a⟩,hc,rfl⟩:=DT.1 h;obtain ⟨h1,h2⟩:=WO.1 hc;have h2:k=1:=by simpa using h2
  subst h2;exact h1
 ·intro h;exact DT.2 ⟨(1,r),WO.2 ⟨h,rfl⟩,rfl⟩
def mem_rays {g:List (Nat × V)} {r:V}:r∈raysOf g ↔ ∃ k,k≠1/\(k,r)∈g:=by
 constructor
 ·intro h;obtain ⟨⟨k,a⟩,hc,rfl⟩:=DT.1 h;obtain ⟨h1,h2⟩:=WO.1 hc;exact ⟨k,by simpa using h2,h1⟩
 ·rintro ⟨k,b,h⟩;exact DT.2 ⟨(k,r),WO.2 ⟨h,by simpa using b⟩,rfl⟩
def sC {g:List (Nat × V)} (hg:ValidG n g) (h3:g.any (fun x=>x.1 == 3)=true) {x:Nat × V} (hx:x∈g):de n (consP n g) x.2/\(x.1=1->de n (consP n g) (scl (-1) x.2)):=by
 have d:∀ a∈linesOf g,a.length=n+1:=fun a ha=>(hg _ (mem_lines.1 ha)).1;have f:∀ a∈raysOf g,a.length=n+1:=fun a ha=>by obtain ⟨k,-,h⟩:=mem_rays.1 ha; exact (hg _ h).1
 have t:=gens_told d f;obtain ⟨h1,h2,h4⟩:=hg x hx;rw [mO h3,mO h3];obtain ⟨k,r⟩:=x;by_cases c:k=1
 ·subst c;have hm:=mem_lines.2 hx;have h5:hd1 r=0:=h4 (show ¬ (1:Nat)=3 by omega);have i:hd1 (scl (-1) r)=0:=by
   cases r with
   | nil=>rfl
   | cons a r=>simp [scl,hd1] at h5 ⊢; exact h5
  refine ⟨⟨by rw [h5]; exact Yy _,⟨h1,fun a ha=>?_,fun b hb=>?_⟩⟩,fun _=>⟨by rw [i]; exact Yy _,⟨ag h1,fun a ha=>?_,fun b hb=>?_⟩⟩⟩
  ·rw [dot_comm]; exact t.dd.lineE a ha r hm
  ·rw [dot_comm,(t.dd.keep b hb).eq r hm]; exact Yy _
  ·rw [dot_scl,dot_comm,t.dd.lineE a ha r hm]; rfl
  ·rw [dot_scl,dot_comm,(t.dd.keep b hb).eq r hm]; exact Yy _
 ·have hm:=mem_rays.2 ⟨k,c,hx⟩;refine ⟨⟨?_,⟨h1,fun a ha=>?_,fun b hb=>?_⟩⟩,fun e=>absurd e c⟩
  ·by_cases h:k=3
   ·have:0<hd1 r:=h2 h
    show 0<=hd1 r;omega
   ·have:hd1 r=0:=h4 h
    show 0<=hd1 r;omega
  ·rw [dot_comm]; exact t.dd.lineI a ha r hm
  ·rw [dot_comm]; exact (t.dd.keep b hb).ge r hm
def Gd (h:∀ c∈l,c.1.length=n+1):ValidG n (gensP n l):=fun x hx=>by
 refine ⟨sO h x hx,fun e=>?_,fun e=>?_⟩
 ·unfold gensP at hx;split at hx
  ·rcases WQ.1 hx with hx | hx
   ·obtain ⟨r,-,rfl⟩:=DT.1 hx;cases e
   ·obtain ⟨r,-,rfl⟩:=DT.1 hx;have e:kindOf r=3:=e;unfold kindOf at e;split at e
    ·assumption
    ·omega
  ·cases hx
 ·obtain ⟨k1,k2⟩:=Ve h hx;have p1:=(keepP_iff.1 k1).2.1;unfold gensP at hx;split at hx
  ·rcases WQ.1 hx with hx | hx
   ·obtain ⟨r,-,rfl⟩:=DT.1 hx;have p2:=(keepP_iff.1 (k2 rfl)).2.1;cases r with
    | nil=>rfl
    | cons a r=>simp [scl,hd1] at p1 p2 ⊢; omega
   ·obtain ⟨r,-,rfl⟩:=DT.1 hx;have e:¬ kindOf r=3:=e;unfold kindOf at e;split at e
    ·omega
    ·have p1:0<=hd1 r:=p1;show hd1 r=0;omega
  ·cases hx
end
end Go.Proofs.YtiigaeehghcjiaaGreat.Lin
namespace Go.Proofs.YtiigaeehghcjiaaGreat.Ev
open Go Nn
section
variable {tab:Nat->Option au} {H:Heap} {s:AV}
def B5 (C:Code tab) (z:Wf H) {α:Type} {E:gr α} {ty fi:Nat} {first caps:List AV} {l:List α} (q:E.sz=2) (hs:SlV E ty H s l) (w:l.length<4611686018427387904) (p:α->Bool)
  (r:∀ a∈l,∀ H' cs,Kp H H'->E.R H' cs a->Ans tab (.fn fi (first++[.agg cs]++caps)) H' fun v H2=>v=.bool (p a)/\Kp H' H2) :
  Ans tab (.fn lS [s,.fn (.func fi) first caps]) H fun v H'=>v=.int .i64 (nR p l)/\Kp H H':=by
 refine bE C.q85 zU fun T hl c d=>?_;refine zW (aZ hl c d hs.lenV) ?_;refine aq H [] (fun j _ _=>∀ k (h:k<l.length),k<j->p l[k]=false) (a:=0) (N:=l.length) rfl (by refine zW (aC hl c d) ?_; rfl) (zV (aC hl c d)) (WG _) zO (by simp only [jL,hl]; rfl) rfl (fun _ _ _ _ h=>h) zK (fun k _ h=>by omega) ?_ ?_
 ·intro j T1 m _ hj b t i g f;have w1:=g.wf;have A:=g.le;have t0:ad T1 0=s:=(i.at_ 0 zU).trans (zV (aB hl c));have t1:ad T1 1=.fn (.func fi) first caps:=(i.at_ 1 zU).trans (zV (aZ hl c d d))
  obtain ⟨cs,hr,y,-,o⟩:=(hs.mono g.sub).at (zh hj);have n:=SlV.idx hs .i64 j hj;rw [q] at o n;simp only [jL,hl] at b;refine zW (fy b t0 t1 t n o) ?_;refine AnsH.eq (r _ (EL hj) _ cs zK (E.mono ((zG m).t _) hr)) fun H2 u=>?_;obtain ⟨k2,_,_⟩:=zT H zK u;cases hp:p l[j] with
  | true =>
   refine zW b ?_;exact ⟨by rw [sM hj f hp],zK⟩
  | false =>
   refine zW b ?_;refine ⟨zK,fun k h x=>?_⟩;by_cases e:k=j
   ·subst e; exact hp
   ·exact f k h zO
 ·intro T1 m b i g f;simp only [jL,hl] at b;refine zW b ?_;exact ⟨by rw [p9 fun k h=>f k h h],zK⟩
def pB (C:Code tab) (i:Wf H) {α:Type} {E:gr α} {ty fi:Nat} {first caps:List AV} {l:List α} (d:E.sz=2) (hs:SlV E ty H s l) (e:l.length<4611686018427387904) (p:α->Bool)
  (f:∀ a∈l,∀ H' cs,Kp H H'->E.R H' cs a->Ans tab (.fn fi (first++[.agg cs]++caps)) H' fun v H2=>v=.bool (p a)/\Kp H' H2) :
  Ans tab (.fn bQ [s,.fn (.func fi) first caps]) H fun v H'=>v=.bool (l.any p)/\Kp H H':=by
 refine bE C.q59 zU fun T hl b c=>?_;refine zW (aC hl b c) ?_;refine AnsH.eq (B5 C zF d (hs.mono (zG H)) e p fun a ha H' cs g hr=>f a ha H' cs (Kp.trans (H:=H) zK g) hr) fun H2 h=>?_;obtain ⟨k2,_,_⟩:=zT H zK h;refine zW (aC hl b c) ?_;exact ⟨by rw [sN],zK⟩
def B4 (C:Code tab) (z:Wf H) {α:Type} {E:gr α} {ty fi:Nat} {first caps:List AV} {l:List α} (q:E.sz=2) (hs:SlV E ty H s l) (w:l.length<4611686018427387904) (p:α->Bool)
  (r:∀ a∈l,∀ H' cs,Kp H H'->E.R H' cs a->Ans tab (.fn fi (first++[.agg cs]++caps)) H' fun v H2=>v=.bool (p a)/\Kp H' H2) :
  Ans tab (.fn cd [s,.fn (.func fi) first caps]) H fun v H'=>v=.int .i64 (nR p l)/\Kp H H':=by
 refine bE C.q95 zU fun T hl c d=>?_;refine zW (aZ hl c d hs.lenV) ?_;refine aq H [] (fun j _ _=>∀ k (h:k<l.length),k<j->p l[k]=false) (a:=0) (N:=l.length) rfl (by refine zW (aC hl c d) ?_; rfl) (zV (aC hl c d)) (WG _) zO (by simp only [jL,hl]; rfl) rfl (fun _ _ _ _ h=>h) zK (fun k _ h=>by omega) ?_ ?_
 ·intro j T1 m _ hj b t i g f;have w1:=g.wf;have A:=g.le;have t0:ad T1 0=s:=(i.at_ 0 zU).trans (zV (aB hl c));have t1:ad T1 1=.fn (.func fi) first caps:=(i.at_ 1 zU).trans (zV (aZ hl c d d))
  obtain ⟨cs,hr,y,-,o⟩:=(hs.mono g.sub).at (zh hj);have n:=SlV.idx hs .i64 j hj;rw [q] at o n;simp only [jL,hl] at b;refine zW (fy b t0 t1 t n o) ?_;refine AnsH.eq (r _ (EL hj) _ cs zK (E.mono ((zG m).t _) hr)) fun H2 u=>?_;obtain ⟨k2,_,_⟩:=zT H zK u;cases hp:p l[j] with
  | true =>
   refine zW b ?_;exact ⟨by rw [sM hj f hp],zK⟩
  | false =>
   refine zW b ?_;refine ⟨zK,fun k h x=>?_⟩;by_cases e:k=j
   ·subst e; exact hp
   ·exact f k h zO
 ·intro T1 m b i g f;simp only [jL,hl] at b;refine zW b ?_;exact ⟨by rw [p9 fun k h=>f k h h],zK⟩
def pA (C:Code tab) (i:Wf H) {α:Type} {E:gr α} {ty fi:Nat} {first caps:List AV} {l:List α} (d:E.sz=2) (hs:SlV E ty H s l) (e:l.length<4611686018427387904) (p:α->Bool)
  (f:∀ a∈l,∀ H' cs,Kp H H'->E.R H' cs a->Ans tab (.fn fi (first++[.agg cs]++caps)) H' fun v H2=>v=.bool (p a)/\Kp H' H2) :
  Ans tab (.fn bP [s,.fn (.func fi) first caps]) H fun v H'=>v=.bool (l.any p)/\Kp H H':=by
 refine bE C.q72 zU fun T hl b c=>?_;refine zW (aC hl b c) ?_;refine AnsH.eq (B4 C zF d (hs.mono (zG H)) e p fun a ha H' cs g hr=>f a ha H' cs (Kp.trans (H:=H) zK g) hr) fun H2 h=>?_;obtain ⟨k2,_,_⟩:=zT H zK h;refine zW (aC hl b c) ?_;exact ⟨by rw [sN],zK⟩
def ny (C:Code tab) (h:Wf H) {l:List Int} (hs:RowV H s l) (g:∀ z∈l,fm z):Ans tab (.fn pV [s]) H fun v H'=>v=.int .i64 (jx (Lin.hd1 l))/\Kp H H':=by
 refine cz C.q65 zU fun T hl b=>?_;cases l with
 | nil =>
  have ls:lenV s=some (.int .i64 0):=hs.lenV;refine zW (aC hl b ls) ?_;exact ⟨rfl,zK⟩
 | cons a l =>
  have ls:lenV s=some (.int .i64 ((l.length+1:Nat):Int)):=hs.lenV;have hne:¬ ((l.length+1:Nat):Int)=0:=zO;have d:0<(a :: l).length:=by simp
  obtain ⟨w,hn,c,-,-⟩:=jM hs d;have e:cG 2 s (.int .i64 0)=some (az s 0):=SlV.idx hs .i64 0 d;have c:bc H (some 2) (az s 0)=some (.agg [.bool (decide (a<0)),w]):=c;have hn:cm H w a.natAbs:=hn;refine zW (fy hl b ls hne e c) ?_;refine AnsH.eq (tW C (x:=a) zF ⟨w,rfl,hn.mono (zG H)⟩ (g a (by simp))) fun H2 f=>?_;obtain ⟨k2,_,_⟩:=zT H zK f;refine zW (aB hl b) ?_;exact ⟨rfl,zK⟩
def yj (C:Code tab) (d:Wf H) {v:AV} {b:Bool} (ov:One v):Ans tab (.fn e9 [.agg [v,.bool b]]) H fun x H'=>x=v/\Kp H H':=by
 have c:io (.agg [v,.bool b])=some [v,.bool b]:=by simp [io,AV.cells,ov.2]; rfl
 refine cz C.q38 zU fun T hl a=>?_;refine zW (aC hl a c) ?_;exact zK
def yi (C:Code tab) (c:Wf H) {v:AV} {k:Int} (ov:One v):Ans tab (.fn eZ [.agg [.int .u8 k,v]]) H fun x H'=>x=v/\Kp H H':=by
 have b:io (.agg [.int .u8 k,v])=some [.int .u8 k,v]:=by simp [io,AV.cells,ov.2]; rfl
 refine cz C.q45 zU fun T hl a=>?_;refine zW (aC hl a b) ?_;exact zK
def LP (C:Code tab) (d:Wf H) {v:AV} {b:Bool} (ov:One v):Ans tab (.fn ly [.agg [v,.bool b]]) H fun x H'=>x=.bool false/\Kp H H':=by
 have c:io (.agg [v,.bool b])=some [v,.bool b]:=by simp [io,AV.cells,ov.2]; rfl
 refine cz C.q39 zU fun T hl a=>?_;refine zW (aC hl a c) ?_;exact zK
def V2 (x:Int):0<=jx x ↔ 0<=x:=by unfold jx; split <;> (try split) <;> omega
def xy (C:Code tab) (F:Wf H) {n:Nat} {k:Int} (hn:n<=60) (y : -9223372036854775808<=k) (f:k<9223372036854775808) :
  Ans tab (.fn rt [.int .i64 (n:Int),.int .i64 k]) H fun v H'=>RowV H' v (Lin.unitC n k)/\Kp H H':=by
 obtain ⟨cells,l⟩:∃ cells,cells=(List.replicate (n+1) [AV.bool false,AV.nilSl]).flatten:=⟨_,rfl⟩
 have z:∀ H':Heap,Hb H' (H.next+3) aa 2 32 [.bool false,.nilSl] (.int .i64 ((n+1:Nat):Int)) (.int .i64 ((n+1:Nat):Int))=some (.own (H.next+3) 0 (n+1) (n+1) 2 true,H'.put (H.next+3) (.cells cells aa true)):=fun H'=>by rw [l]; exact iy _ _ _ _ _ _ _ _ _ zO zO rfl
 have t:IntKind.i64.wrap ((n:Int)+1)=((n+1:Nat):Int):=by rw [wrap_i64] <;> omega
 refine bE C.q61 zU fun T hl m o=>?_;refine zW (cn hl m o t z) ?_;refine AnsH.use (qN C (n:=k) zF y f) ?_;rintro v H2 ⟨⟨w,rfl,r⟩,f⟩;obtain ⟨k2,_,w2⟩:=zT H zK f;have B:=r.one;have h:=f.get (b:=H.next+3) (e:=.cells cells aa true) (cY);have G:=w2 _ _ h;have D:cells.length=(n+1)*2:=by rw [l]; simp
 have s:y5 (some (.cells cells aa true)) 2 0 (.agg [.bool (decide (k<0)),w])=some (.cells (cells.take 0++[.bool (decide (k<0)),w]++cells.drop (0+2)) aa true):=fY (yg (aF _) B) zO;have x:cG 2 (.own (H.next+3) 0 (n+1) (n+1) 2 true) (.int .i64 0)=some (.ptr (H.next+3) 0):=iB (j:=0) zO;obtain ⟨d,p⟩:∃ c,c=cells.take 0++[.bool (decide (k<0)),w]++cells.drop (0+2):=⟨_,rfl⟩
 rw [<- p] at s;have A:intE.R H2 [.bool false,.nilSl] 0:=⟨.nilSl,by simp,eM H2⟩
 have hcl:Cells intE H2 cells (List.replicate (n+1) 0):=by rw [l]; exact mH A _
 have q:Cells intE H2 d ((List.replicate (n+1) 0).set 0 k):=by rw [p]; exact hcl.set (i:=0) (by simp) ⟨w,rfl,r⟩
 have m3:NoTy [ae] H2 (H.next+3):=NoTy.ty h zU;refine zW (fy hl m o x h s) ?_;refine ⟨?_,zK⟩;have e:(List.replicate (n+1) (0:Int)).set 0 k=Lin.unitC n k:=by rw [Xt]; rfl
 rw [e] at q;obtain ⟨a,g⟩:∃ a,a=(H2.up 2).put (H.next+3) (.cells d aa true):=⟨_,rfl⟩
 have u:Cells intE a d (Lin.unitC n k):=by rw [g]; exact Cells.mono (E:=intE) zS q
 have:Own intE aa H a (H.next+3) true (.own (H.next+3) 0 (n+1) (n+1) 2 true) (Lin.unitC n k):=⟨d,by rw [Lin.unitC_len]; rfl,by rw [g]; exact am _ _ _,u,zO⟩
 rw [<- g];exact this.sl
abbrev wA:=List (Bool × List Nat) × Bool
abbrev GY:=Nat × List (Bool × List Nat)
def Ba (C:Code tab) (l:Wf H) {cs:List AV} {c:wA} {g h:Nat} {r1 r2:Bool} (hc:conQE.R H cs c) (n:xI c.1)
  (h1:H.get g=some (.cells [.fn (.func e9) [] []] fL r1)) (h2:H.get h=some (.cells [.fn (.func ly) [] []] tf r2)) :
  Ans tab (.fn eI [.agg cs,.ptr g 0,.ptr h 0]) H fun v H'=>v=.bool (!BH c.1)/\Kp H H':=by
 obtain ⟨v,rfl,k⟩:=hc;have ov:=k.one;have w:=l _ _ h1;have x:=l _ _ h2;have o:io (.agg [v,.bool c.2])=some [v,.bool c.2]:=by simp [io,AV.cells,ov.2]; rfl
 refine mz C.q58 zU fun T hl d f a=>?_;refine zW (ip hl d f a o h1 h2) ?_;refine AnsH.eq (yj C zF ov) fun H2 i=>?_;obtain ⟨k2,_,w2⟩:=zT H zK i;have d0:=i.get (b:=H.next) (e:=.cells [v,.bool c.2] t_api_Con true) (cY);refine zW (aZ hl d f a) ?_;refine AnsH.eq (su C zF (k.mono (zG H)) n) fun r j=>?_;obtain ⟨q,_,y⟩:=zT H zK j;have d3:=j.get d0;have m:=q.get h2;cases t:BH c.1 with
 | false =>
  refine zW (aZ hl d f a) ?_;exact zK
 | true =>
  refine zW (ip hl d f a d3 m a) ?_;refine AnsH.eq (LP C zF ov) fun s p=>?_;obtain ⟨u,_,_⟩:=zT H zK p;refine zW (aZ hl d f a) ?_;exact zK
def A9 (C:Code tab) (h:Wf H) {cs:List AV} {c:wA} {n:Int} {e f:Nat} {r1 r2:Bool} (hc:conQE.R H cs c) (hn:0<=n/\n<=1000)
  (h1:H.get e=some (.cells [.fn (.func e9) [] []] fL r1)) (h2:H.get f=some (.cells [.int .i64 n] aL r2)) :
  Ans tab (.fn eH [.agg cs,.ptr e 0,.ptr f 0]) H fun v H'=>v=.bool (decide ((c.1.length:Int)≠n+1))/\Kp H H':=by
 obtain ⟨v,rfl,g⟩:=hc;have ov:=g.one;have m:=h _ _ h1;have o:=h _ _ h2;have k:io (.agg [v,.bool c.2])=some [v,.bool c.2]:=by simp [io,AV.cells,ov.2]; rfl
 have j:IntKind.i64.wrap (n+1)=n+1:=by rw [wrap_i64] <;> omega
 refine mz C.q60 zU fun T hl a b d=>?_;refine zW (ip hl a b d k h1 h2) ?_;refine aJ ?_;refine zD (fy hl a b d h1 h2) ?_;refine AnsH.eq (yj C zF ov) fun H2 l=>?_;obtain ⟨k2,_,w2⟩:=zT H zK l;have i:=k2.get h2;refine zD (lh hl a b d h1 h2 i g.lenV j) ?_;exact ⟨by simp,zK⟩
def dV (n:Int) (l:List wA):Int :=
 if n<0\/8<n then 2 else if 60<l.length then 4 else if l.any (fun c=>!BH c.1) then 8 else if l.any (fun c=>decide ((c.1.length:Int)≠n+1)) then 70 else 0
def pq (C:Code tab) (u:Wf H) {n:Int} {l:List wA} (hs:SlV conQE t_api_Con H s l) (q:∀ c∈l,xI c.1) (p:l.length<4611686018427387904) :
  Ans tab (.fn fS [.int .i64 n,s,.fn (.func e9) [] [],.fn (.func ly) [] []]) H fun v H'=>v=.int .i64 (dV n l)/\Kp H H':=by
 refine Ox C.q37 zU fun T hl d f g i=>?_;by_cases q1:n<0
 ·refine zW (fy hl d f g i q1) ?_;exact ⟨by rw [dV,if_pos (.inl q1)],zK⟩
 by_cases q2:8<n
 ·refine zW (ip hl d f g i q1 q2) ?_;exact ⟨by rw [dV,if_pos (.inr q2)],zK⟩
 have k:¬ (n<0\/8<n):=fun h=>h.elim q1 q2;by_cases q3:(60:Int)<(l.length:Int)
 ·refine zW (lh hl d f g i q1 q2 q3 hs.lenV) ?_;exact ⟨by rw [dV,if_neg k,if_pos zO],zK⟩
 have m:¬ 60<l.length:=zO;refine zW (lh hl d f g i q1 q2 q3 hs.lenV) ?_;refine AnsH.eq (pB C zF (first:=[]) rfl (hs.mono (zG H)) p (fun c=>!BH c.1) fun a ha H' cs j hr=>Ba C j.wf hr (q a ha) (j.get (by refine yY ?_; rfl)) (j.get (by refine yY ?_; rfl))) fun H2 o=>?_;obtain ⟨k2,_,w2⟩:=zT H zK o;cases q4:l.any (fun c=>!BH c.1) with
 | true =>
  refine zW (cn hl d f g i) ?_;exact ⟨by rw [dV,if_neg k,if_neg m,if_pos q4],zK⟩
 | false =>
 have d0:=o.get (b:=H.next) (e:=.cells [.int .i64 n] aL true) (cY);have d1:=o.get (b:=H.next+1) (e:=.cells [.fn (.func e9) [] []] fL true) (cY);refine zW (aC hl d f) ?_;refine AnsH.eq (pB C zF (first:=[]) rfl (hs.mono (zG H)) p (fun c=>decide ((c.1.length:Int)≠n+1)) fun a ha H' cs j hr=>A9 C j.wf hr ⟨zO,zO⟩ (j.get (b:=H.next+1) (by first | exact d1 | (refine yY ?_; exact d1))) (j.get (b:=H.next) (by first | exact d0 | (refine yY ?_; exact d0)))) fun t r=>?_;obtain ⟨w,_,_⟩:=zT H zK r;cases q5:l.any (fun c=>decide ((c.1.length:Int)≠n+1)) with
 | true =>
  refine zW (cn hl d f g i) ?_;exact ⟨by rw [dV,if_neg k,if_neg m,if_neg (by rw [q4]; decide),if_pos q5],zK⟩
 | false =>
  refine zW (cn hl d f g i) ?_;exact ⟨by rw [dV,if_neg k,if_neg m,if_neg (by rw [q4]; decide),if_neg (by rw [q5]; decide)],zK⟩
def HU (g:Nat × List Int):Bool :=
 if g.1=1\/g.1=2 then decide (Lin.hd1 g.2≠0) else if g.1=3 then decide (Lin.hd1 g.2<=0) else true
def y6 (x:Int):0<jx x ↔ 0<x:=by unfold jx; split <;> (try split) <;> omega
def Si (x:Int):jx x<=0 ↔ x<=0:=by unfold jx; split <;> (try split) <;> omega
def OF (C:Code tab) (g:Wf H) {v:AV} {k:Nat} {l:List Int} (d:RowV H v l) (e:∀ z∈l,fm z):Ans tab (.fn ni [.agg [.int .u8 (k:Int),v]]) H fun x H'=>x=.bool (HU (k,l))/\Kp H H':=by
 have ov:=d.one;have c:io (.agg [.int .u8 (k:Int),v])=some [.int .u8 (k:Int),v]:=by simp [io,AV.cells,ov.2]; rfl
 refine cz C.q46 zU fun T hl a=>?_;by_cases q1:(k:Int)=1
 ·refine zW (aZ hl a c q1) ?_;refine AnsH.eq (ny C zF (d.mono (zG H)) e) fun H2 b=>?_;obtain ⟨k2,_,_⟩:=zT H zK b;refine zW (aB hl a) ?_;refine ⟨?_,zK⟩;congr 1;rw [HU,if_pos (.inl zO),Xo];simp [lq]
 by_cases q2:(k:Int)=2
 ·refine zW (cn hl a c q1 q2) ?_;refine AnsH.eq (ny C zF (d.mono (zG H)) e) fun H2 b=>?_;obtain ⟨k2,_,_⟩:=zT H zK b;refine zW (aB hl a) ?_;refine ⟨?_,zK⟩;congr 1;rw [HU,if_pos (.inr zO),Xo];simp [lq]
 have q12:¬ (k=1\/k=2):=zO;by_cases q3:(k:Int)=3
 ·refine zW (fy hl a c q1 q2 q3) ?_;refine AnsH.eq (ny C zF (d.mono (zG H)) e) fun H2 b=>?_;obtain ⟨k2,_,_⟩:=zT H zK b;refine zW (aB hl a) ?_;refine ⟨?_,zK⟩;congr 1;have f:k=3:=zO;rw [HU,if_neg q12,if_pos f,Xo];simp [Si]
 ·refine zW (fy hl a c q1 q2 q3) ?_;refine ⟨?_,zK⟩;have f:¬ k=3:=zO;rw [HU,if_neg q12,if_neg f]
def HS (g:GY):Bool:=!BH g.2 || HU (g.1,g.2.map fV)
def A8 (C:Code tab) (p:Wf H) {cs:List AV} {c:GY} {k m:Nat} {r1 r2:Bool} (hc:genQE.R H cs c) (r:xI c.2) (i:∀ z∈c.2,Lim z.2/\z.2.length<=1048576)
  (h1:H.get k=some (.cells [.fn (.func eZ) [] []] fK r1)) (h2:H.get m=some (.cells [.fn (.func ni) [] []] td r2)) :
  Ans tab (.fn eF [.agg cs,.ptr k 0,.ptr m 0]) H fun v H'=>v=.bool (HS c)/\Kp H H':=by
 obtain ⟨v,rfl,j⟩:=hc;have ov:=j.one;have B:=p _ _ h1;have D:=p _ _ h2;have s:io (.agg [.int .u8 (c.1:Int),v])=some [.int .u8 (c.1:Int),v]:=by simp [io,AV.cells,ov.2]; rfl
 refine mz C.q71 zU fun T hl d f a=>?_;refine zW (ip hl d f a s h1 h2) ?_;refine AnsH.eq (yi C zF ov) fun H2 n=>?_;obtain ⟨k2,_,w2⟩:=zT H zK n;have d0:=n.get (b:=H.next) (e:=.cells [.int .u8 (c.1:Int),v] al true) (cY);refine zW (aZ hl d f a) ?_;refine AnsH.eq (su C zF (j.mono (zG H)) r) fun w o=>?_;obtain ⟨u,_,E⟩:=zT H zK o;have d3:=o.get d0;have q:=u.get h2;cases g:BH c.2 with
 | false =>
  refine zW (aZ hl d f a) ?_;exact ⟨by simp [HS,g],zK⟩
 | true =>
  have hb:∀ z∈c.2,r8 z=false:=by
   simp only [BH,W6,XA,XV,Bool.not_eq_true] at g;exact g.2
  refine zW (ip hl d f a d3 q a) ?_;refine AnsH.eq (OF C (l:=c.2.map fV) zF ((SlV.int j fun z h=>⟨hb z h,(i z h).1⟩).mono (zG H)) fun z h=>?_) fun y t=>?_
  ·obtain ⟨x,hx,rfl⟩:=DT.1 h;exact (M2 (i x hx).1 (i x hx).2).sm zO
  obtain ⟨A,_,_⟩:=zT H zK t;refine zW (aZ hl d f a) ?_;exact ⟨by simp [HS,g],zK⟩
def A7 (C:Code tab) (h:Wf H) {cs:List AV} {c:GY} {n:Int} {e f:Nat} {r1 r2:Bool} (hc:genQE.R H cs c) (hn:0<=n/\n<=1000)
  (h1:H.get e=some (.cells [.fn (.func eZ) [] []] fK r1)) (h2:H.get f=some (.cells [.int .i64 n] aL r2)) :
  Ans tab (.fn eE [.agg cs,.ptr e 0,.ptr f 0]) H fun v H'=>v=.bool (decide ((c.2.length:Int)≠n+1))/\Kp H H':=by
 obtain ⟨v,rfl,g⟩:=hc;have ov:=g.one;have m:=h _ _ h1;have o:=h _ _ h2;have k:io (.agg [.int .u8 (c.1:Int),v])=some [.int .u8 (c.1:Int),v]:=by simp [io,AV.cells,ov.2]; rfl
 have j:IntKind.i64.wrap (n+1)=n+1:=by rw [wrap_i64] <;> omega
 refine mz C.q73 zU fun T hl a b d=>?_;refine zW (ip hl a b d k h1 h2) ?_;refine aJ ?_;refine zD (fy hl a b d h1 h2) ?_;refine AnsH.eq (yi C zF ov) fun H2 l=>?_;obtain ⟨k2,_,w2⟩:=zT H zK l;have i:=k2.get h2;refine zD (lh hl a b d h1 h2 i g.lenV j) ?_;exact ⟨by simp,zK⟩
def jQ (n:Int) (l:List GY):Int :=
 if n<0\/8<n then 2 else if 60<l.length then 4 else if l.any HS then 8 else if l.any (fun c=>decide ((c.2.length:Int)≠n+1)) then 70 else 0
def xz (C:Code tab) (w:Wf H) {n:Int} {l:List GY} (hs:SlV genQE al H s l) (q:∀ c∈l,xI c.2) (r:∀ c∈l,∀ z∈c.2,Lim z.2/\z.2.length<=1048576) (p:l.length<4611686018427387904) :
  Ans tab (.fn fR [.int .i64 n,s,.fn (.func eZ) [] [],.fn (.func ni) [] []]) H fun v H'=>v=.int .i64 (jQ n l)/\Kp H H':=by
 refine Ox C.q44 zU fun T hl d f g i=>?_;by_cases q1:n<0
 ·refine zW (fy hl d f g i q1) ?_;exact ⟨by rw [jQ,if_pos (.inl q1)],zK⟩
 by_cases q2:8<n
 ·refine zW (ip hl d f g i q1 q2) ?_;exact ⟨by rw [jQ,if_pos (.inr q2)],zK⟩
 have k:¬ (n<0\/8<n):=fun h=>h.elim q1 q2;by_cases q3:(60:Int)<(l.length:Int)
 ·refine zW (lh hl d f g i q1 q2 q3 hs.lenV) ?_;exact ⟨by rw [jQ,if_neg k,if_pos zO],zK⟩
 have m:¬ 60<l.length:=zO;refine zW (lh hl d f g i q1 q2 q3 hs.lenV) ?_;refine AnsH.eq (pA C zF (first:=[]) rfl (hs.mono (zG H)) p HS fun a ha H' cs j hr=>A8 C j.wf hr (q a ha) (r a ha) (j.get (by refine yY ?_; rfl)) (j.get (by refine yY ?_; rfl))) fun H2 o=>?_;obtain ⟨k2,_,w2⟩:=zT H zK o;cases q4:l.any HS with
 | true =>
  refine zW (cn hl d f g i) ?_;exact ⟨by rw [jQ,if_neg k,if_neg m,if_pos q4],zK⟩
 | false =>
 have d0:=o.get (b:=H.next) (e:=.cells [.int .i64 n] aL true) (cY);have d1:=o.get (b:=H.next+1) (e:=.cells [.fn (.func eZ) [] []] fK true) (cY);refine zW (aC hl d f) ?_;refine AnsH.eq (pA C zF (first:=[]) rfl (hs.mono (zG H)) p (fun c=>decide ((c.2.length:Int)≠n+1)) fun a ha H' cs j hr=>A7 C j.wf hr ⟨zO,zO⟩ (j.get (b:=H.next+1) (by first | exact d1 | (refine yY ?_; exact d1))) (j.get (b:=H.next) (by first | exact d0 | (refine yY ?_; exact d0)))) fun u t=>?_;obtain ⟨x,_,_⟩:=zT H zK t;cases q5:l.any (fun c=>decide ((c.2.length:Int)≠n+1)) with
 | true =>
  refine zW (cn hl d f g i) ?_;exact ⟨by rw [jQ,if_neg k,if_neg m,if_neg (by rw [q4]; decide),if_pos q5],zK⟩
 | false =>
  refine zW (cn hl d f g i) ?_;exact ⟨by rw [jQ,if_neg k,if_neg m,if_neg (by rw [q4]; decide),if_neg (by rw [q5]; decide)],zK⟩
def wB (C:Code tab) (h:Wf H) {fi:Nat} {first caps:List AV} {l:List (List Int)} (hs:d9 H s l) (c:l.length<4611686018427387904) (p:List Int->Bool)
  (d:∀ r∈l,∀ H' w,Kp H H'->RowV H' w r->Ans tab (.fn fi (first++[w]++caps)) H' fun v H2=>v=.bool (p r)/\Kp H' H2) :
  Ans tab (.fn bO [s,.fn (.func fi) first caps]) H fun v H'=>v=.bool (l.any p)/\Kp H H':=by
 refine bE C.q63 zU fun T hl a b=>?_;refine zW (aC hl a b) ?_;refine AnsH.eq (sn C zF (hs.mono (zG H)) c p fun r hr H' w e g=>d r hr H' w (Kp.trans (H:=H) zK e) g) fun H2 f=>?_;obtain ⟨k2,_,_⟩:=zT H zK f;refine zW (aC hl a b) ?_;exact ⟨by rw [sN],zK⟩
end
def Bq {α:Type} (E:gr α) (ty:Nat) (H0 H:Heap) (v:AV) (l:List α):Prop:=(v=.nilSl/\l=[])\/∃ b ex,Own E ty H0 H b ex v l
section
variable {α β:Type} {E:gr α} {E':gr β} {ty:Nat} {H0 H H':Heap} {v w:AV} {l:List α} {m:List β}
def Bq.nil:Bq E ty H0 H .nilSl []:=.inl ⟨rfl,rfl⟩
def Bq.of (h:Bl E ty H0 H v l):Bq E ty H0 H v l:=by
 rcases h with h | ⟨b,h⟩
 ·exact .inl h
 ·exact .inr ⟨b,false,h⟩
def Bq.sl (h:Bq E ty H0 H v l):SlV E ty H v l:=by
 rcases h with ⟨rfl,rfl⟩ | ⟨b,ex,h⟩
 ·exact SlV.nil E ty H
 ·exact h.sl
def Bq.mono (hs:Sub H H') (h:Bq E ty H0 H v l):Bq E ty H0 H' v l:=by
 rcases h with h | ⟨b,ex,h⟩
 ·exact .inl h
 ·exact .inr ⟨b,ex,h.mono hs⟩
def Bq.lt (a:Wf H) (h:Bq E ty H0 H v l) {b:Nat} (hb:jZ v=some b):b<H.next:=by
 rcases h with ⟨rfl,-⟩ | ⟨b',ex,cells,rfl,hg,-⟩
 ·cases hb
 ·cases hb;exact a _ _ hg
def Frm.subTq {tys:List Nat} (a:Frm v H H') (h:Bq E ty H0 H v l) (hn:ty ∉ tys):SubT tys H H':=fun c cs t r d hc=>a c _ hc fun e=>by
 rcases h with ⟨rfl,-⟩ | ⟨b,ex,cells,rfl,hb,-⟩
 ·cases e
 ·cases e;rw [hb] at hc; cases hc;exact hn d
def Frm.bq (c:Frm v H H') (h:Bq E ty H0 H v l) (a:Bq E' ty H0 H w m) (hs:Sep v w) (d:ty ∉ E'.tys):Bq E' ty H0 H' w m:=by
 rcases a with a | ⟨b,ex,cells,rfl,hb,hc,h0⟩
 ·exact .inl a
 ·exact .inr ⟨b,ex,cells,rfl,c b _ hb fun e=>hs b e rfl,hc.mono (c.subTq h d),h0⟩
def Bq.push {ty2 bytes id id2:Nat} {cs:List AV} {a:α} (h:Bq E ty H0 H v l) (F:ty ∉ E.tys) (r:Kp H0 H) (hr:E.R H cs a) (o:H0.next<=id) (p:id<H.next) (k:H.get id=none) (g:H0.next<=id2) (q:id2<H.next) (m:H.get id2=none) (hne:id≠id2)
  (hb:(l.length+1)*bytes<=70368744177664) (hl:l.length+1<4611686018427387904) :
  ∃ n H',dq (H.put id2 (.cells cs ty2 true)) id E.sz bytes ty v (.own id2 0 1 1 E.sz true)=some (.own id 0 n n E.sz false,H')/\Bq E ty H0 H' (.own id 0 n n E.sz false) (l++[a])/\Kp H0 H'/\H'.next=H.next/\Frm v H H'/\(∀ c,c≠id->c≠id2->H.get c=none->H'.get c=none):=by
 have f:Bl E ty H0 H v l\/∃ b,Own E ty H0 H b true v l:=by
  rcases h with h | ⟨b,ex,h⟩
  ·exact .inl (.inl h)
  ·cases ex with
   | false=>exact .inl (.inr ⟨b,h⟩)
   | true=>exact .inr ⟨b,h⟩
 rcases f with f | ⟨b,D⟩
 ·obtain ⟨n,H',d,j,e3⟩:=Bl.push2 (ty2:=ty2) (bytes:=bytes) f F r hr o p k g q m hne hb hl;exact ⟨n,H',d,.of j,e3⟩
 ·have i:Sub H (H.put id2 (.cells cs ty2 true)):=aH m;have C:Kp H0 (H.put id2 (.cells cs ty2 true)):=r.put g q;have hy:SlV E ty2 (H.put id2 (.cells cs ty2 true)) (.own id2 0 1 1 E.sz true) [a] :=
   (show Own E ty2 H0 _ id2 true (.own id2 0 1 1 E.sz true) [a] from ⟨cs,rfl,am _ _ _,Cells.one (E.mono (i.t _) hr),g⟩).sl
  have s:=D.mono i;have hs:=s.sl;obtain ⟨cells,t,hg,-,-⟩:=s;rw [t] at hs;obtain ⟨I,H',d,j,e3,e4,w,x⟩:=SlV.app (bytes:=bytes) (id:=id) hs C hy o p (by rw [aw hne]; exact k) hb hl;obtain ⟨u,G,B,A,y⟩:=x (by simp);rw [G] at d;refine ⟨_,H',by rw [t]; exact d,.inr ⟨id,false,u,rfl,B,A,y⟩,e3,e4,fun b e z _=>w.get _ _ (i.get _ _ z),fun c h1 h2 h3=>C8 d h1 (by rw [aw h2]; exact h3)⟩
end
def ww {a:AV} (ha:One a) (x y:AV):im [x,y] [((0,1),a)]=some (.agg [a,y]):=by
 simp [im,cP,ha.1,ha.2]
section
open Lin
variable {n:Nat} {l:List (V × Bool)}
def OC {j:Nat} (hj:j<l.length):eqsOf (l.take (j+1))=if l[j].2=true then eqsOf (l.take j)++[l[j].1] else eqsOf (l.take j):=by
 rw [TY hj];unfold eqsOf;rw [XQ,Xd];cases h:l[j].2 <;> simp [h]
def Io {j:Nat} (hj:j<l.length):ineqsOf n (l.take (j+1))=if l[j].2=true then ineqsOf n (l.take j) else ineqsOf n (l.take j)++[l[j].1]:=by
 rw [TY hj];unfold ineqsOf;rw [XQ,Xd];cases h:l[j].2 <;> simp [h]
def OD (l:List (V × Bool)):(eqsOf l).length<=l.length:=by
 unfold eqsOf;rw [Nj];exact XO _ _
def vH (l:List (V × Bool)):(ineqsOf n l).length<=l.length+1:=by
 unfold ineqsOf;rw [W5,Nj]
 have:=XO (fun c:V × Bool=>!c.2) l
 omega
def Dp (n m:Nat):Bd (2^m) (unitC n 1):=fun i=>by
 have h1:1<=2^m:=Xh zU;unfold unitC at_;cases i with
 | zero=>simpa using h1
 | succ i =>
  rw [Yl,qf,Xv];split <;> simp
end
section
variable {tab:Nat->Option au} {H:Heap} {s:AV}
def AU (C:Code tab) (d:Wf H) {l:List Int} (hs:RowV H s l) (c:∀ z∈l,fm z):Ans tab (.fn kO [s]) H fun v H'=>v=.bool (decide (0<Lin.hd1 l))/\Kp H H':=by
 refine cz C.q64 zU fun T hl a=>?_;refine zW (aB hl a) ?_;refine AnsH.eq (ny C zF (hs.mono (zG H)) c) fun H2 b=>?_;obtain ⟨k2,_,_⟩:=zT H zK b;have e:decide (jx (Lin.hd1 l) > 0)=decide (0<Lin.hd1 l):=by
  rw [Xo];simp [y6]
 refine zW (aB hl a) ?_;exact ⟨by simp [y6],zK⟩
set_option maxHeartbeats 4000000 in
def yh (C:Code tab) (hw:Wf H) {n m:Nat} {l:List (List Int × Bool)} (hs:SlV conE t_api_Con H s l) (hn:n<=4) (bh:l.length<=1023) (aX:(l.length+1)^n<1099000000000) (aJ:∀ c∈l,c.1.length=n+1/\Lin.Bd (2^m) c.1) (hm:m<=300000) :
  Ans tab (.fn oL [.int .i64 (n:Int),s]) H fun v H'=>SlV genE al H' v (Lin.gensP n l)/\Kp H H':=by
 refine B0 C.q40 rfl rfl zU fun T hl g=>?_;have hl:T.length=79:=hl;have aK:c_dual_points.results=[(4,none)]:=rfl;have g0:ad T 0=.int .i64 (n:Int):=g 0 (by simp);have g1:ad T 1=s:=g 1 (by simp);refine bf ?_;refine zW (aB hl @aD) ?_;refine bf ?_;refine zW (aB hl @aD) ?_;refine cZ (fun T' H'=>∃ o,ad T' 6=o/\Kp H H'/\Bq rowsE af H H' o [Lin.unitC n 1]) rfl ?_ ?_
 ·refine zW (aB hl g0) ?_;refine AnsH.use (xy C (n:=n) (k:=1) zF zO zO zO) ?_;rintro v H2 ⟨hr,A⟩;obtain ⟨k2,_,w2⟩:=zT H zK A;have ov:=hr.one;have n2:H.next+6<=H2.next:=A.le
  have f2:H2.get (H.next+4)=none:=A.free (show H.next+4<H.next+6 by omega) (hw.fresh (b:=H.next+4) zO);refine zW (aB hl @aV) ?_;refine ⟨_,rfl,zK,.inr ⟨H.next+4,true,[v],rfl,am _ _ _,?_,zO⟩⟩;exact Cells.one (E:=rowsE) ⟨v,rfl,hr.mono (aH f2)⟩
 rintro T1 H1 ah ⟨o,t6,k1,b1⟩;have w1:=k1.wf;have bl:=k1.le;have t0:ad T1 0=.int .i64 (n:Int):=(ah.at_ 0 zU).trans (zV (aB hl g0));have t1:ad T1 1=s:=(ah.at_ 1 zU).trans (zV (aB hl g1));have t4:ad T1 4=.nilSl:=(ah.at_ 4 zU).trans (zV hl);have t5:ad T1 5=.nilSl:=(ah.at_ 5 zU).trans (zV hl);have I:T1.length=79:=ah.len.trans (by simp only [jL]; exact hl);have bk:=hs.mono k1.sub;refine cZ (fun T' H'=>∃ u x,ad T' 5=u/\ad T' 6=x/\Kp H H'/\d9 H' u (Lin.eqsOf l)/\d9 H' x (Lin.ineqsOf n l)) rfl ?_ ?_
 ·refine zW (aC I t1 hs.lenV) ?_;refine aq H [5,6] (fun j vs H'=>∃ u x,vs=[u,x]/\Bq rowsE af H H' u (Lin.eqsOf (l.take j))/\Bq rowsE af H H' x (Lin.ineqsOf n (l.take j))/\Sep u x) (a:=0) (N:=l.length) rfl (by refine zW I ?_; rfl) (zV I) (WG _) zO (by simp only [jL,I]; rfl) rfl (fun j vs H' m ⟨u,x,q1,q2,q3,q4⟩=>⟨u,x,q1,q2.mono (Sub.bump H' m),q3.mono (Sub.bump H' m),q4⟩) zK ⟨.nilSl,o,by exact zV (aC I t5 t6),Bq.nil,b1.mono (Sub.bump H1 _),fun b h=>by cases h⟩ ?_ ?_
  ·rintro j T2 H2 _ hj G aI aa A ⟨u,x,f,Q,S,ay⟩;have w2:=A.wf;have bp:=A.le;have a6:=A.le;simp only [SA,WF,Ud,and_true] at f;obtain ⟨v5,v6⟩:=f;have aQ:ad T2 20=s:=(aa.at_ 20 zU).trans (zV (aB I t1));obtain ⟨cs,⟨w,rfl,hr⟩,bj,-,D⟩:=(hs.mono A.sub).at (zh hj);have Z:cG 2 s (.int .i64 (j:Int))=some (az s (j*2)):=SlV.idx hs .i64 j hj;have D:bc H2 (some 2) (az s (j*2))=some (.agg [w,.bool l[j].2]):=D;have ow:=hr.one;simp only [jL,I] at G;have he:=OC (l:=l) hj;have hi:=Io (n:=n) (l:=l) hj;have l5:=OD (l.take j);have l6:=vH (n:=n) (l.take j);rw [WU] at l5 l6;obtain ⟨P,V⟩:∃ P,P=((H2.up 12).put (H2.next+2) (.cells [.nilSl,.bool false] t_api_Con true)).put (H2.next+2) (.cells [w,.bool l[j].2] t_api_Con true):=⟨_,rfl⟩
   have M:Kp H2 P:=by rw [V]; exact zK
   have aN:Kp H P:=A.trans M;have nx:P.next=H2.next+12:=by rw [V]; rfl
   have fx:∀ c,H2.next<=c->c≠H2.next+2->P.get c=none:=fun c h1 h2=>by rw [V,aw h2,aw h2]; exact w2.fresh h1
   have aL:rowsE.R P [w] l[j].1:=⟨w,rfl,hr.mono M.sub⟩
   cases hb:l[j].2 with
   | true =>
    rw [hb] at D V he hi;obtain ⟨O,B,U,b6,k6,aO,f6,-⟩:=Bq.push (ty2:=af) (bytes:=24) (id:=H2.next+10) (id2:=H2.next+9) (Q.mono M.sub) zU aN aL zO zO (fx _ zO zO) zO zO (fx _ zO zO) zO zO zO;have ae:dq ((((H2.up 12).put (H2.next+2) (.cells [.nilSl,.bool false] t_api_Con true)).put (H2.next+2) (.cells [w,.bool true] t_api_Con true)).put (H2.next+9) (.cells [w] af true)) (H2.next+10) 1 24 af u (.own (H2.next+9) 0 1 1 1 true)=some (.own (H2.next+10) 0 O O 1 false,B):=by rw [V] at U; exact U
    refine zW (lp G aQ aI Z D v5 v6 ae) ?_;refine ⟨k6,_,_,rfl,?_,?_,?_⟩
    ·rw [he,if_pos rfl]; exact b6
    ·rw [hi,if_pos rfl]; exact f6.bq (Q.mono M.sub) (S.mono M.sub) ay zU
    ·intro b h1 h2
     have:=S.lt w2 h2
     cases h1;omega
   | false =>
    rw [hb] at D V he hi;obtain ⟨O,B,U,b6,k6,aO,f6,-⟩:=Bq.push (ty2:=af) (bytes:=24) (id:=H2.next+10) (id2:=H2.next+9) (S.mono M.sub) zU aN aL zO zO (fx _ zO zO) zO zO (fx _ zO zO) zO zO zO;have ae:dq ((((H2.up 12).put (H2.next+2) (.cells [.nilSl,.bool false] t_api_Con true)).put (H2.next+2) (.cells [w,.bool false] t_api_Con true)).put (H2.next+9) (.cells [w] af true)) (H2.next+10) 1 24 af x (.own (H2.next+9) 0 1 1 1 true)=some (.own (H2.next+10) 0 O O 1 false,B):=by rw [V] at U; exact U
    refine zW (lp G aQ aI Z D v5 v6 ae) ?_;refine ⟨k6,_,_,rfl,?_,?_,?_⟩
    ·rw [he,if_neg zU]; exact f6.bq (S.mono M.sub) (Q.mono M.sub) ay.symm zU
    ·rw [hi,if_neg zU]; exact b6
    ·intro b h1 h2
     have:=Q.lt w2 h1
     cases h2;omega
  ·rintro T2 H2 G aa A ⟨u,x,f,Q,S,ay⟩;simp only [SA,WF,Ud,and_true] at f;rw [WZ] at Q S;refine zW (aB G @aV) ?_;exact ⟨u,x,f.1,f.2,A,Q.sl,S.sl⟩
 rintro T2 H2 aa ⟨u,x,v5,v6,k2,r5,r6⟩;have w2:=k2.wf;have a6:=k2.le;have u0:ad T2 0=.int .i64 (n:Int):=(aa.at_ 0 zU).trans t0;have u4:ad T2 4=.nilSl:=(aa.at_ 4 zU).trans t4;have G:T2.length=79:=aa.len.trans I;have hE:∀ a∈Lin.eqsOf l,a.length=n+1/\Lin.Bd (2^m) a:=fun a ha=>aJ _ (Lin.mem_eqs.1 ha);have hI:∀ a∈Lin.ineqsOf n l,a.length=n+1/\Lin.Bd (2^m) a:=fun a ha=>by
  rcases Lin.mem_ineqs.1 ha with rfl | ha
  ·exact ⟨Lin.unitC_len n 1,Dp n m⟩
  ·exact aJ _ ha
 have lE:=OD l;have lI:=vH (n:=n) l;obtain ⟨c1,c2⟩:=uN (d:=n+1) (m:=m) zO zO hE hI;have hT:=Lin.gens_told (d:=n+1) (fun a ha=>(hE a ha).1) (fun a ha=>(hI a ha).1);have lL:=ech_len hT.form;have aW:(Lin.ineqsOf n l).length^n<1099000000000:=XD (YC lI n) aX;have lR:(Lin.gensR (n+1) (Lin.eqsOf l) (Lin.ineqsOf n l)).length<=1099000000000:=by
  have:=hT.dd.count3 (fun a ha=>(hI a ha).1)
  simp only [YH] at this;omega
 obtain ⟨L,hL⟩:∃ L,L=Lin.gensL (n+1) (Lin.eqsOf l) (Lin.ineqsOf n l):=⟨_,rfl⟩
 obtain ⟨R,hR⟩:∃ R,R=Lin.gensR (n+1) (Lin.eqsOf l) (Lin.ineqsOf n l):=⟨_,rfl⟩
 have aP:∀ r∈R,∀ z∈r,fm z:=fun r hr z hz=>by
  rw [hR] at hr;exact (ml (c2 r hr).2 z hz).sm zO
 have ej:IntKind.i64.wrap ((n:Int)+1)=((n+1:Nat):Int):=by rw [wrap_i64] <;> omega
 refine cZ (fun T' H'=>∃ p q,ad T' 9=p/\ad T' 10=q/\Kp H H'/\d9 H' p L/\d9 H' q R) rfl ?_ ?_
 ·refine zW (cn G u0 v5 v6 ej) ?_;refine AnsH.use (A4 C (d:=n+1) (m:=m) zF (r5.mono (zG H2)) (r6.mono (zG H2)) zO zO zO zO (by simpa using aW) hE hI hm) ?_;rintro v H3 ⟨p,q,rfl,hp,hq,ag⟩;obtain ⟨k23,_,_⟩:=zT H2 zK ag;have k3:Kp H H3:=k2.trans k23;have bs:=k3.le;refine zW (aB G @aV) ?_;rw [hL,hR];exact ⟨p,q,rfl,rfl,zK,hp,hq⟩
 rintro T3 H3 aM ⟨p,q,v9,aR,k3,hp,hq⟩;have w3:=k3.wf;have bm:=k3.le;have x4:ad T3 4=.nilSl:=(aM.at_ 4 zU).trans u4;have ak:T3.length=79:=aM.len.trans G;rw [<- hL] at lL;rw [<- hR] at lR;have aG:R.any (fun r=>decide (0<Lin.hd1 r))=(Lin.gensR (n+1) (Lin.eqsOf l) (Lin.ineqsOf n l)).any (fun r=>decide (0<Lin.hd1 r)):=by rw [hR]
 refine cZ (fun T' H'=>Kp H3 H'/\ad T' 4=.nilSl/\R.any (fun r=>decide (0<Lin.hd1 r))=true) rfl ?_ ?_
 ·refine zW (aB ak aR) ?_;refine AnsH.eq (wB C zF (first:=[]) (hq.mono (zG H3)) zO (fun r=>decide (0<Lin.hd1 r)) fun a ha H' w hk hr=>AU C hk.wf hr (aP a ha)) fun y a1=>?_;obtain ⟨Y,_,_⟩:=zT H3 zK a1;have k4:Kp H y:=k3.trans Y;have a8:=k4.le;cases hc:R.any (fun r=>decide (0<Lin.hd1 r)) with
  | true =>
   refine zW (aC ak @aV x4) ?_;exact zK
  | false =>
   refine zW (aC ak @pt aK) ?_;refine ⟨?_,zK⟩;unfold Lin.gensP;rw [<- aG,hc];exact SlV.nil _ _ _
 rintro T4 y ax ⟨Y,y4,a3⟩;have w4:=Y.wf;have bn:=Y.le;have k4:Kp H y:=k3.trans Y;have a8:=k4.le;have y9:ad T4 9=p:=(ax.at_ 9 zU).trans v9;have bg:ad T4 10=q:=(ax.at_ 10 zU).trans aR;have J:T4.length=79:=ax.len.trans ak;refine cZ (fun T' H'=>∃ o,ad T' 4=o/\Kp y H'/\Bq genE al y H' o (L.map fun r=>(1,r))) rfl ?_ ?_
 ·refine zW (aC J y9 hp.lenV) ?_;refine aq y [4] (fun j vs H'=>∃ o,vs=[o]/\Bq genE al y H' o ((L.take j).map fun r=>(1,r))) (a:=0) (N:=L.length) rfl (by refine zW J ?_; rfl) (zV J) (WG _) zO (by simp only [jL,J]; rfl) rfl (fun j vs H' m ⟨o,q1,q2⟩=>⟨o,q1,q2.mono (Sub.bump H' m)⟩) (Kp.up (Kp.refl w4) _) ⟨.nilSl,by exact zV (aB J y4),Bq.nil⟩ ?_ ?_
  ·rintro j T5 i _ hj t aY aj W ⟨o,f,F⟩;have w5:=W.wf;have bq:=W.le;have a7:=W.le;simp only [SA,WF,Ud,and_true] at f;have bb:ad T5 51=p:=(aj.at_ 51 zU).trans (zV (aB J y9));obtain ⟨w,hr,D⟩:=dE ((hp.mono Y.sub).mono W.sub) hj;have Z:=SlV.idx1 hp .i64 j hj;have ow:=hr.one;simp only [jL,J] at t;obtain ⟨O,B,U,b6,k6,aO,f6,-⟩:=Bq.push (ty2:=al) (bytes:=32) (id:=i.next+7) (id2:=i.next+6) (H:=i.up 9) (cs:=[.int .u8 1,w]) (a:=(1,L[j])) (F.mono (Sub.bump i 9)) zU (W.up 9) ⟨w,rfl,hr.mono (Sub.bump i 9)⟩ zO (by rw [bL]; omega) (w5.fresh zO) zO (by rw [bL]; omega) (w5.fresh zO) zO (by simp; omega) (by simp; omega);have ae:dq ((i.up 9).put (i.next+6) (.cells [.int .u8 1,w] al true)) (i.next+7) 2 32 al o (.own (i.next+6) 0 1 1 2 true)=some (.own (i.next+7) 0 O O 2 false,B):=U;refine zW (ip t bb aY Z D f ae) ?_;refine ⟨k6,_,rfl,?_⟩;rw [TY hj,Xd];exact b6
  ·rintro T5 i t aj W ⟨o,f,F⟩;simp only [SA,WF,Ud,and_true] at f;rw [WZ] at F;refine zW (aB t @aV) ?_;exact ⟨o,f,W,F⟩
 rintro T5 i aj ⟨ba,z4,aA,aT⟩;have w5:=aA.wf;have a7:=aA.le;have aS:ad T5 10=q:=(aj.at_ 10 zU).trans bg;have t:T5.length=79:=aj.len.trans J;refine cZ (fun T' H'=>∃ o,ad T' 4=o/\Kp y H'/\Bq genE al y H' o ((L.map fun r=>(1,r))++R.map fun r=>(Lin.kindOf r,r))) rfl ?_ ?_
 ·refine zW (aC t aS hq.lenV) ?_;refine aq y [4] (fun j vs H'=>∃ o,vs=[o]/\Bq genE al y H' o ((L.map fun r=>(1,r))++(R.take j).map fun r=>(Lin.kindOf r,r))) (a:=0) (N:=R.length) rfl (by refine zW t ?_; rfl) (zV t) (WG _) zO (by simp only [jL,t]; rfl) rfl (fun j vs H' m ⟨o,q1,q2⟩=>⟨o,q1,q2.mono (Sub.bump H' m)⟩) (aA.up _) ⟨ba,by exact zV (aB t z4),by rw [Y6,WF,Xx]; exact aT.mono (Sub.bump i _)⟩ ?_ ?_
  ·rintro j T6 B _ hj K a0 ao X ⟨o,f,F⟩;have w6:=X.wf;have br:=X.le;have bo:=X.le;simp only [SA,WF,Ud,and_true] at f;have bd:ad T6 63=q:=(ao.at_ 63 zU).trans (zV (aB t aS));obtain ⟨w,hr,D⟩:=dE ((hq.mono Y.sub).mono X.sub) hj;have Z:=SlV.idx1 hq .i64 j hj;have ow:=hr.one;simp only [jL,t] at K;have hm:=EL hj;refine zW (cn K bd a0 Z D) ?_;refine AnsH.eq (ny C zF (hr.mono (zG B)) (aP _ hm)) fun e a2=>?_;obtain ⟨ab,_,_⟩:=zT B zK a2;have aE:Kp y e:=X.trans ab;have bt:=aE.le;have w7:=ab.wf;by_cases h0:0<Lin.hd1 R[j]
   ·have ag:Lin.kindOf R[j]=3:=by unfold Lin.kindOf; rw [if_pos h0]
    have av:(0:Int)<jx (Lin.hd1 R[j]):=(y6 _).2 h0;obtain ⟨n8,H8,e8,b8,k8,a9,f8,-⟩:=Bq.push (ty2:=al) (bytes:=32) (id:=e.next+6) (id2:=e.next+5) (H:=e.up 8) (cs:=[.int .u8 3,w]) (a:=(3,R[j])) ((F.mono ab.sub).mono (Sub.bump e 8)) zU (aE.up 8) ⟨w,rfl,(hr.mono ab.sub).mono (Sub.bump e 8)⟩ zO (by rw [bL]; omega) (w7.fresh zO) zO (by rw [bL]; omega) (w7.fresh zO) zO (by simp; omega) (by simp; omega);have ar:dq ((e.up 8).put (e.next+5) (.cells [.int .u8 3,w] al true)) (e.next+6) 2 32 al o (.own (e.next+5) 0 1 1 2 true)=some (.own (e.next+6) 0 n8 n8 2 false,H8):=e8;refine zW (aZ K av f ar) ?_;refine ⟨k8,_,rfl,?_⟩;rw [TY hj,Xd,<- Yf];simp only [SA,WF,ag];exact b8
   ·have ag:Lin.kindOf R[j]=2:=by unfold Lin.kindOf; rw [if_neg h0]
    have av:¬ (0:Int)<jx (Lin.hd1 R[j]):=fun h=>h0 ((y6 _).1 h);obtain ⟨n8,H8,e8,b8,k8,a9,f8,-⟩:=Bq.push (ty2:=al) (bytes:=32) (id:=e.next+5) (id2:=e.next+4) (H:=e.up 7) (cs:=[.int .u8 2,w]) (a:=(2,R[j])) ((F.mono ab.sub).mono (Sub.bump e 7)) zU (aE.up 7) ⟨w,rfl,(hr.mono ab.sub).mono (Sub.bump e 7)⟩ zO (by rw [bL]; omega) (w7.fresh zO) zO (by rw [bL]; omega) (w7.fresh zO) zO (by simp; omega) (by simp; omega);have ar:dq ((e.up 7).put (e.next+4) (.cells [.int .u8 2,w] al true)) (e.next+5) 2 32 al o (.own (e.next+4) 0 1 1 2 true)=some (.own (e.next+5) 0 n8 n8 2 false,H8):=e8;refine zW (aZ K av f ar) ?_;refine ⟨k8,_,rfl,?_⟩;rw [TY hj,Xd,<- Yf];simp only [SA,WF,ag];exact b8
  ·rintro T6 B K ao X ⟨o,f,F⟩;simp only [SA,WF,Ud,and_true] at f;rw [WZ] at F;refine zW (aB K @aV) ?_;exact ⟨o,f,X,F⟩
 rintro T6 B ao ⟨bu,a4,a5,aU⟩;have K:T6.length=79:=ao.len.trans t;refine WC.wb ?_;refine zW (aC K @a4 aK) ?_;have hG:Lin.gensP n l=(L.map fun r=>(1,r))++R.map fun r=>(Lin.kindOf r,r):=by
  unfold Lin.gensP;rw [<- aG,a3,<- hL,<- hR];rfl
 rw [hG];exact ⟨aU.sl,k4.trans a5⟩
def wM (C:Code tab) (F:Wf H) {a b:AV} {l m:List Nat} (ha:Lb H a l) (hb:Lb H b m) (D:l.length<4611686018427387904) :
  Ans tab (.fn dl [a,b]) H fun v H'=>v=.bool (decide (l=m))/\Kp H H':=by
 refine bE C.q126 zU fun T hl d f=>?_;by_cases he:l.length=m.length
 ·have B:lenV b=some (.int .i64 (l.length:Int)):=by rw [hb.lenV,he]
  refine zW (cn hl d f ha.lenV B) ?_;refine aq H [] (fun j _ _=>∀ q (h:q<l.length) (h':q<m.length),q<j->l[q]=m[q]) (a:=0) (N:=l.length) rfl (by refine zW (aC hl d f) ?_; rfl) (zV (aC hl d f)) (WG _) zO (by simp only [jL,hl]; rfl) rfl (fun _ _ _ _ h=>h) zK (fun q _ _ h=>by omega) ?_ ?_
  ·intro i T1 y _ hi c A p g k;have w1:=g.wf;have G:=g.le;have t0:ad T1 0=a:=(p.at_ 0 zU).trans (zV (aB hl d));have t1:ad T1 1=b:=(p.at_ 1 zU).trans (zV (aZ hl d f f));have r:i<m.length:=zO;obtain ⟨w,hr,u⟩:=SlV.at1 (ha.mono g.sub) (zh hi);obtain ⟨w',o,x⟩:=SlV.at1 (hb.mono g.sub) (zh r);have hr:w=.int .u64 ((l[i]:Nat):Int):=hr;have o:w'=.int .u64 ((m[i]:Nat):Int):=o;subst hr; subst o;have s:=SlV.idx1 ha .i64 i hi;have t:=SlV.idx1 hb .i64 i r;simp only [jL,hl] at c;refine zW (aZ c t0 t1 A) ?_;refine aJ ?_;by_cases hq:l[i]=m[i]
   ·have n:((l[i]:Nat):Int)=((m[i]:Nat):Int):=zO;refine zD (lp c t0 t1 s u t x n) ?_;refine ⟨zK,fun q h h' E=>?_⟩;by_cases eq:q=i
    ·subst eq; exact hq
    ·exact k q h h' zO
   ·have n:¬ ((l[i]:Nat):Int)=((m[i]:Nat):Int):=zO;refine zD (lh c t0 t1 s u t x n hq) ?_;refine ⟨?_,zK⟩;rw [decide_eq_false];intro e; subst e; exact hq rfl
  ·intro T1 y c p g k;simp only [jL,hl] at c;refine zW c ?_;exact ⟨by rw [decide_eq_true (jq he fun q h h'=>k q h h' h)],zK⟩
 ·have z:¬ (l.length:Int)=(m.length:Int):=zO;refine zW (ip hl d f ha.lenV hb.lenV z he) ?_;refine ⟨?_,zK⟩;rw [decide_eq_false];intro e; subst e; exact he rfl
def Hl (C:Code tab) (g:Wf H) {a b:AV} {x y:Int} (ha:IntV H a x) (hb:IntV H b y) (hx:fm x) :
  Ans tab (.fn jD [a,b]) H fun v H'=>v=.bool (decide (x=y))/\Kp H H':=by
 obtain ⟨p,rfl,hp⟩:=ha;obtain ⟨q,rfl,hq⟩:=hb;have op:=hp.one;have i:=hq.one;unfold fm Sm at hx;refine bE C.q97 zU fun T hl c d=>?_;by_cases h:decide (x<0)=decide (y<0)
 ·have h':(decide (x<0) == decide (y<0))=true:=by rw [h]; simp
  refine zW (aZ hl c d h') ?_;refine AnsH.eq (wM C zF (hp.mono (zG H)) (hq.mono (zG H)) zO) fun H2 f=>?_;obtain ⟨k2,_,_⟩:=zT H zK f;refine zW (aC hl c d) ?_;refine ⟨?_,zK⟩;by_cases e:x=y
  ·rw [decide_eq_true e,decide_eq_true (by rw [e])]
  ·rw [decide_eq_false e,decide_eq_false];intro h2
   have:=Ct h2
   have h3:(x<0) ↔ (y<0):=by simpa using h
   omega
 ·have h':(decide (x<0) == decide (y<0))=false:=by simpa using h
  refine zW (aZ hl c d h') ?_;refine ⟨?_,zK⟩;rw [decide_eq_false];intro e; subst e; exact h rfl
def zw (C:Code tab) (J:Wf H) {a b:AV} {l m:List Int} (ha:RowV H a l) (hb:RowV H b m) (Q:l.length<1099511627776) (K:∀ z∈l,fm z) :
  Ans tab (.fn uo [a,b]) H fun v H'=>v=.bool (decide (l=m))/\Kp H H':=by
 have key:∀ {H:Heap},Wf H->RowV H a l->RowV H b m->Ans tab (.fn bp [a,b,.fn (.func jD) [] []]) H fun v H'=>v=.bool (decide (l=m))/\Kp H H':=by
  intro H J ha hb;refine mz C.q96 zU fun T hl c d f=>?_;by_cases he:l.length=m.length
  ·have M:lenV b=some (.int .i64 (l.length:Int)):=by rw [hb.lenV,he]
   refine zW (fy hl c d f ha.lenV M) ?_;refine aq H [] (fun j _ _=>∀ q (h:q<l.length) (h':q<m.length),q<j->l[q]=m[q]) (a:=0) (N:=l.length) rfl (by refine zW (aZ hl c d f) ?_; rfl) (zV (aZ hl c d f)) (WG _) zO (by simp only [jL,hl]; rfl) rfl (fun _ _ _ _ h=>h) zK (fun q _ _ h=>by omega) ?_ ?_
   ·intro j T1 n _ hj g E k i o;have w1:=i.wf;have S:=i.le;have I:j<m.length:=zO;have O:ad T1 15=a:=(k.at_ 15 zU).trans (zV (aB hl c));have t1:ad T1 1=b:=(k.at_ 1 zU).trans (zV (cn hl c d f d));have P:ad T1 2=.fn (.func jD) [] []:=(k.at_ 2 zU).trans (zV (cn hl c d f f));obtain ⟨w,hn,L0,F⟩:=nQ w1 (ha.mono i.sub) hj;obtain ⟨u,r,L,G⟩:=nQ w1 (hb.mono i.sub) I;have V:=hn.one;have U:=r.one;have B:=L0.put;have t:=L0.ld;have A:=L.put;have s:=L.ld;simp only [jL,hl] at g;refine zW (mo g O t1 P E F B t G A s) ?_;refine AnsH.eq (Hl C (x:=l[j]) (y:=m[j]) zF ⟨w,rfl,hn.mono (zG n)⟩ ⟨u,rfl,r.mono (zG n)⟩ (K _ (EL hj))) fun H2 p=>?_;obtain ⟨k2,_,_⟩:=zT H zK p;cases hq:decide (l[j]=m[j]) with
    | true =>
     have hq:=of_decide_eq_true hq;refine zW g ?_;refine ⟨zK,fun q h h' R=>?_⟩;by_cases e:q=j
     ·subst e; exact hq
     ·exact o q h h' zO
    | false =>
     have hq:=of_decide_eq_false hq;refine zW g ?_;refine ⟨?_,zK⟩;rw [decide_eq_false];intro e; subst e; exact hq rfl
   ·intro T1 n g k i o;simp only [jL,hl] at g;refine zW g ?_;exact ⟨by rw [decide_eq_true (jq he fun q h h'=>o q h h' h)],zK⟩
  ·have D:¬ (l.length:Int)=(m.length:Int):=zO;refine zW (lp hl c d f ha.lenV hb.lenV D he) ?_;refine ⟨?_,zK⟩;rw [decide_eq_false];intro e; subst e; exact he rfl
 refine bE C.q74 zU fun T hl c d=>?_;refine zW (aC hl c d) ?_;refine AnsH.eq (key zF (ha.mono (zG H)) (hb.mono (zG H))) fun H2 p=>?_;obtain ⟨k2,_,_⟩:=zT H zK p;refine zW (aC hl c d) ?_;exact zK
end
section
open Lin
variable {n:Nat} {g:List (Nat × V)}
def Ij {j:Nat} (hj:j<g.length):linesOf (g.take (j+1))=if g[j].1=1 then linesOf (g.take j)++[g[j].2] else linesOf (g.take j):=by
 rw [TY hj];unfold linesOf;rw [XQ,Xd];by_cases h:g[j].1=1 <;> simp [h]
def KW {j:Nat} (hj:j<g.length):raysOf (g.take (j+1))=if g[j].1=1 then raysOf (g.take j) else raysOf (g.take j)++[g[j].2]:=by
 rw [TY hj];unfold raysOf;rw [XQ,Xd];by_cases h:g[j].1=1 <;> simp [h]
def KI {j:Nat} (hj:j<g.length):(g.take (j+1)).any (fun x=>x.1 == 3)=((g.take j).any (fun x=>x.1 == 3) || g[j].1 == 3):=by
 rw [TY hj,List.any_append]
 simp
def FW (g:List (Nat × V)):(linesOf g).length<=g.length:=by
 unfold linesOf;rw [Nj];exact XO _ _
def DJ (g:List (Nat × V)):(raysOf g).length<=g.length:=by
 unfold raysOf;rw [Nj];exact XO _ _
def VC {x:V} (h:x∈raysOf g):∃ y∈g,y.2=x:=by
 obtain ⟨k,-,h⟩:=mem_rays.1 h;exact ⟨_,h,rfl⟩
end
section
variable {tab:Nat->Option au} {H:Heap} {s:AV}
set_option maxHeartbeats 4000000 in
def CG (C:Code tab) (hw:Wf H) {n m:Nat} {g:List (Nat × List Int)} (hs:SlV genE al H s g) (hn:n<=4) (bt:g.length<=1023) (a7:g.length^n<1099000000000) (aT:∀ x∈g,x.2.length=n+1/\Lin.Bd (2^m) x.2) (hm:m<=300000) :
  Ans tab (.fn rv [.int .i64 (n:Int),s]) H fun v H'=>SlV conE t_api_Con H' v (Lin.consP n g)/\Kp H H':=by
 refine B0 C.q47 rfl rfl zU fun T hl g'=>?_;have hl:T.length=84:=hl;have aU:c_dual_cons.results=[(4,none)]:=rfl;have g0:ad T 0=.int .i64 (n:Int):=g' 0 (by simp);have g1:ad T 1=s:=g' 1 (by simp);refine bf ?_;refine zW (aB hl @aD) ?_;refine bf ?_;refine zW (aB hl @aD) ?_;refine bf ?_;refine zW (aB hl @aD) ?_;refine cZ (fun T' H'=>∃ t u,ad T' 5=t/\ad T' 6=u/\ad T' 7=.bool (g.any fun x=>x.1 == 3)/\Kp H H'/\d9 H' t (Lin.linesOf g)/\d9 H' u (Lin.raysOf g)) rfl ?_ ?_
 ·refine zW (aC hl g1 hs.lenV) ?_;refine aq H [5,6,7] (fun j vs H'=>∃ t u,vs=[t,u,.bool ((g.take j).any fun x=>x.1 == 3)]/\Bq rowsE af H H' t (Lin.linesOf (g.take j))/\Bq rowsE af H H' u (Lin.raysOf (g.take j))/\Sep t u) (a:=0) (N:=g.length) rfl (by refine zW hl ?_; rfl) (zV hl) (WG _) zO (by simp only [jL,hl]; rfl) rfl (fun j vs H' m ⟨t,u,q1,q2,q3,q4⟩=>⟨t,u,q1,q2.mono (Sub.bump H' m),q3.mono (Sub.bump H' m),q4⟩) zK ⟨.nilSl,.nilSl,by refine zW hl ?_; rfl,Bq.nil,Bq.nil,fun b h=>by cases h⟩ ?_ ?_
  ·rintro j T2 H2 _ hj M aK aj X ⟨t,u,f,U,V,aA⟩;have w2:=X.wf;have bz:=X.le;have bk:=X.le;simp only [SA,WF,Ud,and_true] at f;obtain ⟨v5,v6,v7⟩:=f;have aS:ad T2 17=s:=(aj.at_ 17 zU).trans (zV (aB hl g1));obtain ⟨cs,⟨w,rfl,hr⟩,bu,-,O⟩:=(hs.mono X.sub).at (zh hj);have ae:cG 2 s (.int .i64 (j:Int))=some (az s (j*2)):=SlV.idx hs .i64 j hj;have O:bc H2 (some 2) (az s (j*2))=some (.agg [.int .u8 (g[j].1:Int),w]):=O;have ow:=hr.one;simp only [jL,hl] at M;have he:=Ij (g:=g) hj;have hi:=KW (g:=g) hj;have aO:=KI (g:=g) hj;have l5:=FW (g.take j);have l6:=DJ (g.take j);rw [WU] at l5 l6;have aQ:∀ K:Nat,6<=K->∃ I,I=((H2.up K).put (H2.next+2) (.cells [.int .u8 0,.nilSl] al true)).put (H2.next+2) (.cells [.int .u8 (g[j].1:Int),w] al true)/\Kp H2 I/\I.next=H2.next+K/\(∀ c,H2.next<=c->c≠H2.next+2->I.get c=none):=fun K hK=>by
    refine ⟨_,rfl,zK,rfl,fun c h1 h2=>?_⟩;rw [aw h2,aw h2]; exact w2.fresh h1
   by_cases W:g[j].1=1
   ·have ar:(g[j].1:Int)=1:=zO;rw [ar] at O;obtain ⟨I,J,i,nx,Z⟩:=aQ 14 zO;rw [ar] at J;obtain ⟨l,F,Q,b6,k6,aR,f6,-⟩:=Bq.push (ty2:=af) (bytes:=24) (id:=H2.next+12) (id2:=H2.next+11) (cs:=[w]) (a:=g[j].2) (U.mono i.sub) zU (X.trans i) ⟨w,rfl,hr.mono i.sub⟩ zO zO (Z _ zO zO) zO zO (Z _ zO zO) zO zO zO;have ab:dq ((((H2.up 14).put (H2.next+2) (.cells [.int .u8 0,.nilSl] al true)).put (H2.next+2) (.cells [.int .u8 1,w] al true)).put (H2.next+11) (.cells [w] af true)) (H2.next+12) 1 24 af t (.own (H2.next+11) 0 1 1 1 true)=some (.own (H2.next+12) 0 l l 1 false,F):=by rw [J] at Q; exact Q
    refine zW (lh M aS aK ae O v5 v6 v7 ab) ?_;have aJ:(g[j].1 == 3)=false:=by rw [W]; rfl
    rw [aO,aJ,Bool.or_false];refine ⟨k6,.own (H2.next+12) 0 l l 1 false,u,rfl,?_,?_,?_⟩
    ·rw [he,if_pos W]; exact b6
    ·rw [hi,if_pos W]; exact f6.bq (U.mono i.sub) (V.mono i.sub) aA zU
    ·intro b h1 h2
     have:=V.lt w2 h2
     cases h1;omega
   have ar:¬ (g[j].1:Int)=1:=zO;have bs:(g[j].1 == 1)=false:=by simpa using W
   by_cases c3:g[j].1=3
   ·have av:(g[j].1:Int)=3:=zO;rw [av] at O;obtain ⟨I,J,i,nx,Z⟩:=aQ 17 zO;rw [av] at J;obtain ⟨l,F,Q,b6,k6,aR,f6,-⟩:=Bq.push (ty2:=af) (bytes:=24) (id:=H2.next+15) (id2:=H2.next+14) (cs:=[w]) (a:=g[j].2) (V.mono i.sub) zU (X.trans i) ⟨w,rfl,hr.mono i.sub⟩ zO zO (Z _ zO zO) zO zO (Z _ zO zO) zO zO zO;have ab:dq ((((H2.up 17).put (H2.next+2) (.cells [.int .u8 0,.nilSl] al true)).put (H2.next+2) (.cells [.int .u8 3,w] al true)).put (H2.next+14) (.cells [w] af true)) (H2.next+15) 1 24 af u (.own (H2.next+14) 0 1 1 1 true)=some (.own (H2.next+15) 0 l l 1 false,F):=by rw [J] at Q; exact Q
    refine zW (lh M aS aK ae O v5 v6 v7 ab) ?_;have aJ:(g[j].1 == 3)=true:=by rw [c3]; rfl
    rw [aO,aJ,Bool.or_true];refine ⟨k6,t,.own (H2.next+15) 0 l l 1 false,rfl,?_,?_,?_⟩
    ·rw [he,if_neg W]; exact f6.bq (V.mono i.sub) (U.mono i.sub) aA.symm zU
    ·rw [hi,if_neg W]; exact b6
    ·intro b h1 h2
     have:=U.lt w2 h1
     cases h2;omega
   ·have av:¬ (g[j].1:Int)=3:=zO;have a3:(g[j].1 == 3)=false:=by simpa using c3
    obtain ⟨I,J,i,nx,Z⟩:=aQ 16 zO;obtain ⟨l,F,Q,b6,k6,aR,f6,-⟩:=Bq.push (ty2:=af) (bytes:=24) (id:=H2.next+14) (id2:=H2.next+13) (cs:=[w]) (a:=g[j].2) (V.mono i.sub) zU (X.trans i) ⟨w,rfl,hr.mono i.sub⟩ zO zO (Z _ zO zO) zO zO (Z _ zO zO) zO zO zO;have ab:dq ((((H2.up 16).put (H2.next+2) (.cells [.int .u8 0,.nilSl] al true)).put (H2.next+2) (.cells [.int .u8 (g[j].1:Int),w] al true)).put (H2.next+13) (.cells [w] af true)) (H2.next+14) 1 24 af u (.own (H2.next+13) 0 1 1 1 true)=some (.own (H2.next+14) 0 l l 1 false,F):=by rw [J] at Q; exact Q
    refine zW (mo M aS aK ae O v5 v6 v7 ab ar av) ?_;rw [aO,a3,Bool.or_false];refine ⟨k6,t,.own (H2.next+14) 0 l l 1 false,rfl,?_,?_,?_⟩
    ·rw [he,if_neg W]; exact f6.bq (V.mono i.sub) (U.mono i.sub) aA.symm zU
    ·rw [hi,if_neg W]; exact b6
    ·intro b h1 h2
     have:=U.lt w2 h1
     cases h2;omega
  ·rintro T2 H2 M aj X ⟨t,u,f,U,V,aA⟩;simp only [SA,WF,Ud,and_true] at f;rw [WZ] at U V f;refine zW (aB M @aV) ?_;exact ⟨t,u,f.1,f.2.1,f.2.2,X,U.sl,V.sl⟩
 rintro T2 H2 aj ⟨t,u,v5,v6,v7,k2,r5,r6⟩;have w2:=k2.wf;have bk:=k2.le;have u0:ad T2 0=.int .i64 (n:Int):=(aj.at_ 0 zU).trans (zV (aB hl g0));have u4:ad T2 4=.nilSl:=(aj.at_ 4 zU).trans (zV hl);have M:T2.length=84:=aj.len.trans (by simp only [jL]; exact hl);refine cZ (fun T' H'=>Kp H2 H'/\ad T' 4=.nilSl/\(g.any fun x=>x.1 == 3)=true) rfl ?_ ?_
 ·cases hc:g.any fun x=>x.1 == 3 with
  | true =>
   rw [hc] at v7;refine zW (aZ M v7 u4 @aV) ?_;exact zK
  | false =>
   rw [hc] at v7;refine zW (aC M v7 u0) ?_;refine AnsH.use (xy C (n:=n) (k:=-1) zF zO zO zO) ?_;rintro v P ⟨hr,aL⟩;obtain ⟨k23,_,_⟩:=zT H2 zK aL;have k3:Kp H P:=k2.trans k23;have bm:=k3.le;have w3:=k3.wf;have ov:=hr.one;have n3:H2.next+7<=P.next:=aL.le
   have f3:P.get (H2.next+5)=none:=aL.free (show H2.next+5<H2.next+7 by omega) (w2.fresh (b:=H2.next+5) zO);refine zW (aZ M (ww ov) @pt aU) ?_;refine ⟨?_,zK⟩;have e:Lin.consP n g=[(Lin.unitC n (-1),false)]:=by unfold Lin.consP; rw [if_neg (by rw [hc]; decide)]
   rw [e];obtain ⟨I,J⟩:∃ I,I=P.put (H2.next+5) (.cells [v,.bool false] t_api_Con true):=⟨_,rfl⟩
   have sx:Sub P I:=by rw [J]; exact aH f3
   have:Own conE t_api_Con H I (H2.next+5) true (.own (H2.next+5) 0 1 1 2 true) [(Lin.unitC n (-1),false)]:=⟨[v,.bool false],rfl,by rw [J]; exact am _ _ _,Cells.one (E:=conE) ⟨v,rfl,hr.mono sx⟩,zO⟩
   rw [<- J];exact this.sl
 rintro T3 P ay ⟨k23,x4,bg⟩;have k3:Kp H P:=k2.trans k23;have bm:=k3.le;have w3:=k3.wf;have bv:=k3.le;have x0:ad T3 0=.int .i64 (n:Int):=(ay.at_ 0 zU).trans u0;have x5:ad T3 5=t:=(ay.at_ 5 zU).trans v5;have x6:ad T3 6=u:=(ay.at_ 6 zU).trans v6;have aM:T3.length=84:=ay.len.trans M;have hE:∀ a∈Lin.linesOf g,a.length=n+1/\Lin.Bd (2^m) a:=fun a ha=>aT _ (Lin.mem_lines.1 ha);have hI:∀ a∈Lin.raysOf g,a.length=n+1/\Lin.Bd (2^m) a:=fun a ha=>by
  obtain ⟨y,hy,rfl⟩:=VC ha;exact aT _ hy
 have lE:=FW g;have lI:=DJ g;obtain ⟨W,c2⟩:=uN (d:=n+1) (m:=m) zO zO hE hI;have hT:=Lin.gens_told (d:=n+1) (fun a ha=>(hE a ha).1) (fun a ha=>(hI a ha).1);have lL:=ech_len hT.form;have a6:(Lin.raysOf g).length^n<1099000000000:=XD (YC lI n) a7;have lR:(Lin.gensR (n+1) (Lin.linesOf g) (Lin.raysOf g)).length<=1099000000000:=by
  have:=hT.dd.count3 (fun a ha=>(hI a ha).1)
  simp only [YH] at this;omega
 obtain ⟨L,hL⟩:∃ L,L=Lin.gensL (n+1) (Lin.linesOf g) (Lin.raysOf g):=⟨_,rfl⟩
 obtain ⟨R,hR⟩:∃ R,R=Lin.gensR (n+1) (Lin.linesOf g) (Lin.raysOf g):=⟨_,rfl⟩
 have bn:∀ r∈R,r.length=n+1:=fun r hr=>by rw [hR] at hr; exact (c2 r hr).1
 have bp:∀ r∈R,∀ z∈r,fm z:=fun r hr z hz=>by
  rw [hR] at hr;exact (ml (c2 r hr).2 z hz).sm zO
 have ej:IntKind.i64.wrap ((n:Int)+1)=((n+1:Nat):Int):=by rw [wrap_i64] <;> omega
 refine cZ (fun T' H'=>∃ p q,ad T' 10=p/\ad T' 11=q/\Kp H H'/\d9 H' p L/\d9 H' q R) rfl ?_ ?_
 ·refine zW (cn aM x0 x5 x6 ej) ?_;refine AnsH.use (A4 C (d:=n+1) (m:=m) zF ((r5.mono k23.sub).mono (zG P)) ((r6.mono k23.sub).mono (zG P)) zO zO zO zO (by simpa using a6) hE hI hm) ?_;rintro v D ⟨p,q,rfl,hp,hq,ba⟩;obtain ⟨bh,_,_⟩:=zT P zK ba;have k4:Kp H D:=k3.trans bh;have bD:=k4.le;refine zW (aB aM @aV) ?_;rw [hL,hR];exact ⟨p,q,rfl,rfl,zK,hp,hq⟩
 rintro T4 D aN ⟨p,q,aY,br,k4,hp,hq⟩;have w4:=k4.wf;have bw:=k4.le;have y0:ad T4 0=.int .i64 (n:Int):=(aN.at_ 0 zU).trans x0;have y4:ad T4 4=.nilSl:=(aN.at_ 4 zU).trans x4;have aa:T4.length=84:=aN.len.trans aM;rw [<- hL] at lL;rw [<- hR] at lR;refine cZ (fun T' H'=>∃ o,ad T' 4=o/\Kp D H'/\Bq conE t_api_Con D H' o (L.map fun r=>(r,true))) rfl ?_ ?_
 ·refine zW (aC aa aY hp.lenV) ?_;refine aq D [4] (fun j vs H'=>∃ o,vs=[o]/\Bq conE t_api_Con D H' o ((L.take j).map fun r=>(r,true))) (a:=0) (N:=L.length) rfl (by refine zW aa ?_; rfl) (zV aa) (WG _) zO (by simp only [jL,aa]; rfl) rfl (fun j vs H' m ⟨o,q1,q2⟩=>⟨o,q1,q2.mono (Sub.bump H' m)⟩) (Kp.up (Kp.refl w4) _) ⟨.nilSl,by exact zV (aB aa y4),Bq.nil⟩ ?_ ?_
  ·rintro j T5 B _ hj A a8 ak ag ⟨o,f,S⟩;have w5:=ag.wf;have bA:=ag.le;have bl:=ag.le;simp only [SA,WF,Ud,and_true] at f;have t55:ad T5 55=p:=(ak.at_ 55 zU).trans (zV (aB aa aY));obtain ⟨w,hr,O⟩:=dE (hp.mono ag.sub) hj;have ae:=SlV.idx1 hp .i64 j hj;have ow:=hr.one;simp only [jL,aa] at A;obtain ⟨l,F,Q,b6,k6,aR,f6,-⟩:=Bq.push (ty2:=t_api_Con) (bytes:=32) (id:=B.next+7) (id2:=B.next+6) (H:=B.up 9) (cs:=[w,.bool true]) (a:=(L[j],true)) (S.mono (Sub.bump B 9)) zU (ag.up 9) ⟨w,rfl,hr.mono (Sub.bump B 9)⟩ zO (by rw [bL]; omega) (w5.fresh zO) zO (by rw [bL]; omega) (w5.fresh zO) zO (by simp; omega) (by simp; omega);have ab:dq ((B.up 9).put (B.next+6) (.cells [w,.bool true] t_api_Con true)) (B.next+7) 2 32 t_api_Con o (.own (B.next+6) 0 1 1 2 true)=some (.own (B.next+7) 0 l l 2 false,F):=Q;refine zW (ip A t55 a8 ae O f ab) ?_;refine ⟨k6,_,rfl,?_⟩;rw [TY hj,Xd];exact b6
  ·rintro T5 B A ak ag ⟨o,f,S⟩;simp only [SA,WF,Ud,and_true] at f;rw [WZ] at S;refine zW (aB A @aV) ?_;exact ⟨o,f,ag,S⟩
 rintro T5 B ak ⟨bo,z4,aP,a1⟩;have w5:=aP.wf;have bl:=aP.le;have z0:ad T5 0=.int .i64 (n:Int):=(ak.at_ 0 zU).trans y0;have a0:ad T5 11=q:=(ak.at_ 11 zU).trans br;have A:T5.length=84:=ak.len.trans aa;refine cZ (fun T' H'=>∃ o,ad T' 4=o/\Kp D H'/\Bq conE t_api_Con D H' o ((L.map fun r=>(r,true))++(R.filter fun r=>!decide (r=Lin.unitC n 1)).map fun r=>(r,false))) rfl ?_ ?_
 ·refine zW (aC A a0 hq.lenV) ?_;refine aq D [4] (fun j vs H'=>∃ o,vs=[o]/\Bq conE t_api_Con D H' o ((L.map fun r=>(r,true))++((R.take j).filter fun r=>!decide (r=Lin.unitC n 1)).map fun r=>(r,false))) (a:=0) (N:=R.length) rfl (by refine zW A ?_; rfl) (zV A) (WG _) zO (by simp only [jL,A]; rfl) rfl (fun j vs H' m ⟨o,q1,q2⟩=>⟨o,q1,q2.mono (Sub.bump H' m)⟩) (aP.up _) ⟨bo,by exact zV (aB A z4),by rw [Y6,Zu,WF,Xx]; exact a1.mono (Sub.bump B _)⟩ ?_ ?_
  ·rintro j T6 F _ hj Y a9 ao ah ⟨o,f,S⟩;have w6:=ah.wf;have bC:=ah.le;have bx:=ah.le;simp only [SA,WF,Ud,and_true] at f;have t0:ad T6 0=.int .i64 (n:Int):=(ao.at_ 0 zU).trans (zV (aB A z0));have bq:ad T6 67=q:=(ao.at_ 67 zU).trans (zV (aB A a0));obtain ⟨w,hr,O⟩:=dE (hq.mono ah.sub) hj;have ae:=SlV.idx1 hq .i64 j hj;have ow:=hr.one;simp only [jL,A] at Y;have hm:=EL hj;refine zW (fy Y t0 bq a9 ae O) ?_;refine AnsH.use (xy C (n:=n) (k:=1) zF zO zO zO) ?_;rintro v H7 ⟨hu,bb⟩;obtain ⟨aG,_,_⟩:=zT F zK bb;have aW:Kp D H7:=ah.trans aG;have bE:=aW.le;have w7:=aG.wf;refine zW Y ?_;refine AnsH.eq (zw C zF ((hr.mono aG.sub).mono (zG H7)) (hu.mono (zG H7)) (by rw [bn _ hm]; omega) (bp _ hm)) fun G bd=>?_;obtain ⟨aX,_,_⟩:=zT H7 zK bd;have aE:Kp D G:=aW.trans aX;have bF:=aE.le;have aI:Kp F G:=aG.trans aX;have bG:=aI.le;have w8:=aE.wf;by_cases ax:R[j]=Lin.unitC n 1
   ·refine zW (aC Y f ax) ?_;refine ⟨aE,_,rfl,?_⟩;rw [TY hj,XQ];simp only [ax,YI,Zu,decide_true,ZJ,Xs,if_false,Xx];exact S.mono aI.sub
   ·have lf:((R.take j).filter fun r=>!decide (r=Lin.unitC n 1)).length<=R.length:=WK (XO _ _) (by rw [WU]; omega);obtain ⟨n8,H9,e8,b8,k8,bH,f8,-⟩:=Bq.push (ty2:=t_api_Con) (bytes:=32) (id:=G.next+4) (id2:=G.next+3) (H:=G.up 6) (cs:=[w,.bool false]) (a:=(R[j],false)) ((S.mono aI.sub).mono (Sub.bump G 6)) zU (aE.up 6) ⟨w,rfl,(hr.mono aI.sub).mono (Sub.bump G 6)⟩ zO (by rw [bL]; omega) (w8.fresh zO) zO (by rw [bL]; omega) (w8.fresh zO) zO (by rw [WM,Nj,Nj]; omega) (by rw [WM,Nj,Nj]; omega);have a5:dq ((G.up 6).put (G.next+3) (.cells [w,.bool false] t_api_Con true)) (G.next+4) 2 32 t_api_Con o (.own (G.next+3) 0 1 1 2 true)=some (.own (G.next+4) 0 n8 n8 2 false,H9):=e8;refine zW (cn Y f ax a5 (ww ow)) ?_;refine ⟨k8,_,rfl,?_⟩;rw [TY hj,XQ];simp only [YI,Zu,ax,decide_false,Bool.not_false,if_true,Xd,SA,WF,<- Yf];exact b8
  ·rintro T6 F Y ao ah ⟨o,f,S⟩;simp only [SA,WF,Ud,and_true] at f;rw [WZ] at S;refine zW (aB Y @aV) ?_;exact ⟨o,f,ah,S⟩
 rintro T6 F ao ⟨bI,a4,bj,a2⟩;have Y:T6.length=84:=ao.len.trans A;refine WC.wb ?_;refine zW (aC Y @a4 aU) ?_;have hG:Lin.consP n g=(L.map fun r=>(r,true))++(R.filter fun r=>!decide (r=Lin.unitC n 1)).map fun r=>(r,false):=by
  unfold Lin.consP;rw [if_pos bg,<- hL,<- hR]
 rw [hG];exact ⟨a2.sl,k4.trans bj⟩
end
def oQ {x y z a b c:AV} {ty:Nat} (ha:One a) (hb:One b) (hc:One c):y5 (some (.cells [x,y,z] ty true)) 3 0 (.agg [a,b,c])=some (.cells [a,b,c] ty true):=by
 simpa using fY (cs:=[x,y,z]) (vs:=[a,b,c]) (ty:=ty) (n:=3) (o:=0) (v:=.agg [a,b,c]) ⟨rfl,rfl,by simp [ha.2,hb.2,hc.2]⟩ (by simp)
def SY {x y z a b c:AV} (ha:One a) (hb:One b) (hc:One c):im [x,y,z] [((0,1),a),((1,1),b),((2,1),c)]=some (.agg [a,b,c]):=by
 simp [im,cP,ha.1,ha.2,hb.1,hb.2,hc.1,hc.2]
section
variable {H:Heap} {s:AV}
def Gu {ty:Nat} {l:List (List Int × Bool)} (h:SlV conE ty H s l):SlV conQE ty H s (l.map fun c=>(c.1.map fd,c.2)):=by
 obtain ⟨cells,hr,b,hc,ha⟩:=h;refine ⟨cells,hr,b,by rw [hc,Nj]; rfl,fun i a hi=>?_⟩;rw [Xq,WE] at hi;obtain ⟨z,d,rfl⟩:=hi;obtain ⟨w,h1,h2⟩:=ha i z d;exact ⟨w,h1,h2.raw⟩
def Ga {ty:Nat} {l:List (Nat × List Int)} (h:SlV genE ty H s l):SlV genQE ty H s (l.map fun c=>(c.1,c.2.map fd)):=by
 obtain ⟨cells,hr,b,hc,ha⟩:=h;refine ⟨cells,hr,b,by rw [hc,Nj]; rfl,fun i a hi=>?_⟩;rw [Xq,WE] at hi;obtain ⟨z,d,rfl⟩:=hi;obtain ⟨w,h1,h2⟩:=ha i z d;exact ⟨w,h1,h2.raw⟩
end
def In (z:Int):fV (fd z)=z:=by
 unfold fV fd;simp only [lA];by_cases h:z<0
 ·simp [h]; omega
 ·simp [h]; omega
def Or (l:List Int):(l.map fd).map fV=l:=by
 rw [Yw]
 conv=>rhs; rw [<- Zq l]
 exact X0 fun z _=>In z
section
open Lin
variable {n m:Nat}
def Vh {l:List (V × Bool)} (hn:n<=5) (h:∀ c∈l,c.1.length=n+1/\Bd (2^m) c.1):∀ x∈gensP n l,x.2.length=n+1/\Bd (2^(64*(m+4))) x.2:=fun x hx=>by
 have f:∀ a∈eqsOf l,a.length=n+1/\Bd (2^m) a:=fun a ha=>h _ (mem_eqs.1 ha);have g:∀ a∈ineqsOf n l,a.length=n+1/\Bd (2^m) a:=fun a ha=>by
  rcases mem_ineqs.1 ha with rfl | ha
  ·exact ⟨unitC_len n 1,Dp n m⟩
  ·exact h _ ha
 obtain ⟨b,e⟩:=uN (d:=n+1) (m:=m) zO zO f g;unfold gensP at hx;split at hx
 ·rcases WQ.1 hx with hx | hx
  ·obtain ⟨r,hr,rfl⟩:=DT.1 hx;exact b r hr
  ·obtain ⟨r,hr,rfl⟩:=DT.1 hx;exact e r hr
 ·cases hx
def M8 (n m:Nat):Bd (2^m) (unitC n (-1)):=fun i=>by
 have h1:1<=2^m:=Xh zU;unfold unitC at_;cases i with
 | zero=>simpa using h1
 | succ i =>
  rw [Yl,qf,Xv];split <;> simp
def A2 {g:List (Nat × V)} (hn:n<=5) (h:∀ x∈g,x.2.length=n+1/\Bd (2^m) x.2):∀ c∈consP n g,c.1.length=n+1/\Bd (2^(64*(m+4))) c.1:=fun x hx=>by
 have f:∀ a∈linesOf g,a.length=n+1/\Bd (2^m) a:=fun a ha=>h _ (mem_lines.1 ha);have i:∀ a∈raysOf g,a.length=n+1/\Bd (2^m) a:=fun a ha=>by
  obtain ⟨y,hy,rfl⟩:=VC ha;exact h _ hy
 obtain ⟨b,e⟩:=uN (d:=n+1) (m:=m) zO zO f i;unfold consP at hx;split at hx
 ·rcases WQ.1 hx with hx | hx
  ·obtain ⟨r,hr,rfl⟩:=DT.1 hx;exact b r hr
  ·obtain ⟨r,hr,rfl⟩:=DT.1 hx;exact e r (WO.1 hr).1
 ·rw [WL] at hx;subst hx;exact ⟨unitC_len n (-1),M8 n _⟩
def K2 {k n:Nat} (a:k<=1023) (hn:n<=4):k^n<1099000000000:=by
 have h1:k^n<=1023^n:=YC a n;have h2:1023^n<=1023^4:=W8 zU hn;have h3:(1023:Nat)^4=1095222947841:=by decide
 omega
end
abbrev wT:AV:=.agg [.int .i64 0,.nilSl,.nilSl]
def PolyV (H:Heap) (v:AV) (n:Nat) (c:List (List Int × Bool)) (g:List (Nat × List Int)):Prop:=∃ a b,v=.agg [.int .i64 (n:Int),a,b]/\SlV conE t_api_Con H a c/\SlV genE al H b g
def PolyV.mono {H H':Heap} (hs:Sub H H') {v:AV} {n:Nat} {c:List (List Int × Bool)} {g:List (Nat × List Int)} (h:PolyV H v n c g):PolyV H' v n c g:=by
 obtain ⟨a,b,e,h1,h2⟩:=h;exact ⟨a,b,e,h1.mono hs,h2.mono hs⟩
def sj (H:Heap) (v:AV) (n:Nat) (g:List (Nat × List Int)):Prop :=
 (v=.tup [wT,.int .i64 4]/\(1024<=g.length\/1024<=(Lin.consP n g).length))\/∃ p,v=.tup [p,.int .i64 0]/\PolyV H p n (Lin.consP n g) g/\g.length<1024/\(Lin.consP n g).length<1024
section
variable {tab:Nat->Option au} {H:Heap} {s:AV}
def CE (C:Code tab) (i:Wf H) {n m:Nat} {g:List (Nat × List Int)} (hs:SlV genE al H s g) (h:g.length<1099511627776) (hn:n<=4) (f:∀ x∈g,x.2.length=n+1/\Lin.Bd (2^m) x.2) (hm:m<=300000) :
  Ans tab (.fn ru [.int .i64 (n:Int),s]) H fun v H'=>sj H' v n g/\Kp H H':=by
 have os:=hs.one;refine bE C.q41 zU fun T hl a c=>?_;by_cases q1:(1024:Int)<=(g.length:Int)
 ·refine zW (fy hl a c hs.lenV q1 @oQ) ?_;exact ⟨.inl ⟨rfl,.inl zO⟩,zK⟩
 refine zW (cn hl a c hs.lenV q1) ?_;refine AnsH.use (CG C zF (hs.mono (zG H)) hn zO (K2 zO hn) f hm) ?_;rintro v H2 ⟨hc,d⟩;obtain ⟨k2,_,w2⟩:=zT H zK d;have ov:=hc.one;have d0:=d.get (b:=H.next) (e:=.cells [.int .i64 0,.nilSl,.nilSl] aj true) (cY);have j:=w2 _ _ d0;by_cases q2:(1024:Int)<=((Lin.consP n g).length:Int)
 ·refine zW (ip hl a c hc.lenV q2 d0 @oQ) ?_;exact ⟨.inl ⟨rfl,.inr zO⟩,zK⟩
 have st:NoTy [t_api_Con,aa,ae,al] H2 H.next:=NoTy.ty d0 zU
 refine zW (lp hl hc.lenV q2 d0 a c @SY @oQ) ?_;refine ⟨.inr ⟨_,rfl,⟨v,s,rfl,?_,?_⟩,zO,zO⟩,zK⟩
 ·have m3:NoTy (t_api_Con :: conE.tys) H2 H.next:=NoTy.ty d0 zU
  exact SlV.monoT (E:=conE) zS hc
 ·have m3:NoTy (al :: genE.tys) H2 H.next:=NoTy.ty d0 zU
  exact SlV.monoT (E:=genE) zS (hs.mono k2.sub)
end
section
open Lin
variable {n:Nat}
def GE {l:List (V × Bool)} (hn:n<=8) (hl:l.length<=60) (h:∀ c∈l,c.1.length=n+1):dV n (l.map fun c=>(c.1.map fd,c.2))=0:=by
 unfold dV;rw [if_neg zO,if_neg (by rw [Nj]; omega),if_neg,if_neg]
 ·rw [W7];rintro ⟨c,hc,h1⟩;obtain ⟨x,hx,rfl⟩:=DT.1 hc;have h1:=of_decide_eq_true h1
  have:=h x hx
  simp only [Nj] at h1;omega
 ·rw [W7];rintro ⟨c,hc,h1⟩;obtain ⟨x,hx,rfl⟩:=DT.1 hc
  have:=h x hx
  rw [XA,DK zO] at h1;cases h1
def Q8 {l:List (V × Bool)} (hn:n<=60) (h:∀ c∈l,c.1.length=n+1/\∀ z∈c.1,fm z):∀ c∈l.map fun c=>(c.1.map fd,c.2),xI c.1:=fun c hc=>by
 obtain ⟨x,hx,rfl⟩:=DT.1 hc;exact uX (by rw [(h x hx).1]; omega) (h x hx).2
def GD {g:List (Nat × V)} (hn:n<=8) (hl:g.length<=60) (h:ValidG n g) (a:∀ x∈g,x.1=1\/x.1=2\/x.1=3):jQ n (g.map fun c=>(c.1,c.2.map fd))=0:=by
 unfold jQ;rw [if_neg zO,if_neg (by rw [Nj]; omega),if_neg,if_neg]
 ·rw [W7];rintro ⟨c,hc,h1⟩;obtain ⟨x,hx,rfl⟩:=DT.1 hc;have h1:=of_decide_eq_true h1
  have:=(h x hx).1
  simp only [Nj] at h1;omega
 ·rw [W7];rintro ⟨c,hc,h1⟩;obtain ⟨x,hx,rfl⟩:=DT.1 hc;obtain ⟨h2,h3,h4⟩:=h x hx;simp only [HS,Or,Yq,XA,DK (r:=x.2) zO,HU] at h1;rcases h1 with h1 | h1
  ·cases h1
  ·rcases a x hx with e | e | e
   ·rw [if_pos (.inl e)] at h1;exact absurd (h4 zO) (of_decide_eq_true h1)
   ·rw [if_pos (.inr e)] at h1;exact absurd (h4 zO) (of_decide_eq_true h1)
   ·rw [if_neg zO,if_pos e] at h1
    have:=h3 e
    have:=of_decide_eq_true h1
    omega
def Q7 {g:List (Nat × V)} (hn:n<=60) (h:∀ c∈g,c.2.length=n+1/\∀ z∈c.2,fm z):∀ c∈g.map fun c=>(c.1,c.2.map fd),xI c.2:=fun c hc=>by
 obtain ⟨x,hx,rfl⟩:=DT.1 hc;exact uX (by rw [(h x hx).1]; omega) (h x hx).2
end
section
variable {tab:Nat->Option au} {H:Heap} {s:AV}
def Gl (C:Code tab) (i:Wf H) {n:Int} {l:List wA} (hs:SlV conQE t_api_Con H s l) (g:∀ c∈l,xI c.1) (h:l.length<4611686018427387904) (hc:dV n l≠0) :
  Ans tab (.fn ph [.int .i64 n,s]) H fun v H'=>v=.tup [wT,.int .i64 (dV n l)]/\Kp H H':=by
 refine bE C.q16 zU fun T hl a d=>?_;refine zW (aC hl a d) ?_;refine AnsH.eq (pq C zF (hs.mono (zG H)) g h) fun H2 f=>?_;obtain ⟨k2,_,w2⟩:=zT H zK f;have d0:=f.get (b:=H.next) (e:=.cells [.int .i64 0,.nilSl,.nilSl] aj true) (cY);have j:=w2 _ _ d0;have hc:¬ dV n l=0:=hc;refine zW (fy hl a d hc d0 @oQ) ?_;exact zK
def kT (C:Code tab) (J:Wf H) {n m m2:Nat} {l:List (List Int × Bool)} (hs:SlV conE t_api_Con H s l) (hn:n<=4) (B:l.length<=60) (a:∀ c∈l,c.1.length=n+1/\Lin.Bd (2^m) c.1) (hm:m<=300000) (A:∀ x∈Lin.gensP n l,Lin.Bd (2^m2) x.2) (D:m2<=300000) :
  Ans tab (.fn ph [.int .i64 (n:Int),s]) H fun v H'=>sj H' v n (Lin.gensP n l)/\Kp H H':=by
 refine bE C.q16 zU fun T hl f g=>?_;refine zW (aC hl f g) ?_;refine AnsH.eq (pq C zF ((Gu hs).mono (zG H)) (Q8 (n:=n) zO fun c hc=>⟨(a c hc).1,fun z F=>(ml (a c hc).2 z F).sm zO⟩) (by rw [Nj]; omega)) fun H2 t=>?_;rw [GE zO B fun c hc=>(a c hc).1];obtain ⟨k2,_,w2⟩:=zT H zK t;refine zW (aC hl f g) ?_;refine AnsH.use (yh C zF ((hs.mono k2.sub).mono (zG H2)) hn zO (K2 zO hn) a hm) ?_;rintro v q ⟨hg,u⟩;obtain ⟨k23,_,_⟩:=zT H2 zK u;have j:Kp H q:=k2.trans k23;have K:=j.le;have P:=j.wf;refine zW (aC hl f g) ?_;refine AnsH.use (CE C zF (hg.mono (zG q)) ?_ hn (fun x hx=>⟨(Vh zO a x hx).1,A x hx⟩) D) ?_
 ·have hT:=Lin.gens_told (d:=n+1) (Lin.eqs_len (l:=l) fun c hc=>(a c hc).1) (Lin.ineqs_len (l:=l) fun c hc=>(a c hc).1);have h1:=hT.dd.count3 (Lin.ineqs_len (l:=l) fun c hc=>(a c hc).1);have h2:=ech_len hT.form;have h3:(Lin.ineqsOf n l).length^n<1099000000000:=K2 (WK (vH l) zO) hn;simp only [YH] at h1;unfold Lin.gensP;split
  ·rw [WM,Nj,Nj]; omega
  ·simp
 rintro v2 h ⟨i,w⟩;have y:Kp H h:=j.trans (Kp.trans zK w);have L:=y.le;have G:=y.wf;have d0:=w.get (u.get (t.get (b:=H.next) (e:=.cells [.int .i64 0,.nilSl,.nilSl] aj true) (cY)));have M:=G _ _ d0;rcases i with ⟨rfl,i⟩ | ⟨p,rfl,⟨k,o,rfl,hc,r⟩,h1,h2⟩
 ·refine zW (cn hl f g d0 @oQ) ?_;exact ⟨.inl ⟨rfl,i⟩,zK⟩
 ·have N:=hc.one;have O:=r.one;have I:Gf 0 (.tup [.agg [.int .i64 (n:Int),k,o],.int .i64 0])=some (.agg [.int .i64 (n:Int),k,o]):=rfl;refine zW (cn hl f g d0 @oQ) ?_;refine ⟨.inr ⟨_,rfl,⟨k,o,rfl,?_,?_⟩,h1,h2⟩,zK⟩
  ·have m3:NoTy (t_api_Con :: conE.tys) h H.next:=NoTy.ty d0 zU
   exact SlV.monoT (E:=conE) zS hc
  ·have m3:NoTy (al :: genE.tys) h H.next:=NoTy.ty d0 zU
   exact SlV.monoT (E:=genE) zS r
def Oi {n k m:Nat} (h:n<2^m) (hm:m<=64*k):(ah n).length<=k:=bu (by
 have e:B^k=2^(64*k):=by
  have:B=2^64:=by decide
  rw [this,<- ZC]
 rw [e];exact WP h (W8 zU hm))
def Db (H:Heap) (v:AV) (n:Nat) (g:List (Nat × List Int)):Prop :=
 (v=.tup [wT,.int .i64 4]/\1024<=(Lin.consP n g).length)\/sj H v n (Lin.gensP n (Lin.consP n g))
def vO (C:Code tab) (hw:Wf H) {n m m2 m3:Nat} {g:List (Nat × List Int)} (hs:SlV genE al H s g) (hn:n<=4) (R:g.length<=60) (K:Lin.ValidG n g) (Q:∀ x∈g,x.1=1\/x.1=2\/x.1=3) (r:∀ c∈g,Lin.Bd (2^m) c.2) (hm:m<=300000) (M:∀ c∈Lin.consP n g,Lin.Bd (2^m2) c.1) (S:m2<=300000) (N:∀ x∈Lin.gensP n (Lin.consP n g),Lin.Bd (2^m3) x.2) (U:m3<=300000)
  (aa:(Lin.consP n g).length<=1022\/1024<=(Lin.consP n g).length) :
  Ans tab (.fn rx [.int .i64 (n:Int),s]) H fun v H'=>Db H' v n g/\Kp H H':=by
 have t:∀ c∈g,c.2.length=n+1/\Lin.Bd (2^m) c.2:=fun c hc=>⟨(K c hc).1,r c hc⟩
 have P:∀ c∈g.map fun c=>(c.1,c.2.map fd),∀ z∈c.2,Lim z.2/\z.2.length<=1048576:=fun c hc z u=>by
  obtain ⟨x,hx,rfl⟩:=DT.1 hc;obtain ⟨y,hy,rfl⟩:=DT.1 u;have hb:=ml (r x hx) y hy;exact ⟨bI _,Oi (n:=y.natAbs) (k:=1048576) (m:=m+1) hb zO⟩
 refine bE C.q29 zU fun T hl a f=>?_;refine zW (aC hl a f) ?_;refine AnsH.eq (xz C zF ((Ga hs).mono (zG H)) (Q7 (n:=n) zO fun c hc=>⟨(t c hc).1,fun z u=>(ml (r c hc) z u).sm zO⟩) P (by rw [Nj]; omega)) fun H2 F=>?_;rw [GD zO R K Q];obtain ⟨k2,_,w2⟩:=zT H zK F;refine zW (aC hl a f) ?_;refine AnsH.use (CG C zF ((hs.mono k2.sub).mono (zG H2)) hn zO (K2 zO hn) t zO) ?_;rintro v i ⟨o,G⟩;obtain ⟨k23,_,_⟩:=zT H2 zK G;have w:Kp H i:=k2.trans k23;have ab:=w.le;have Y:=w.wf;have d3:=G.get (F.get (b:=H.next) (e:=.cells [.int .i64 0,.nilSl,.nilSl] aj true) (cY));have ag:=Y _ _ d3;by_cases q1:(1024:Int)<=((Lin.consP n g).length:Int)
 ·refine zW (ip hl a f o.lenV q1 d3 @oQ) ?_;exact ⟨.inl ⟨rfl,zO⟩,zK⟩
 have h:∀ c∈Lin.consP n g,c.1.length=n+1/\Lin.Bd (2^m2) c.1:=fun c hc=>⟨(A2 zO t c hc).1,M c hc⟩
 refine zW (aZ hl o.lenV q1 a) ?_;refine AnsH.use (yh C zF (o.mono (zG i)) hn zO (K2 zO hn) h S) ?_;rintro v4 B ⟨O,I⟩;obtain ⟨V,_,_⟩:=zT i zK I;have A:Kp H B:=w.trans V;have ad:=A.le;have w4:=A.wf;refine zW (aB hl a) ?_;refine AnsH.use (CE C zF (O.mono (zG B)) ?_ hn (fun x hx=>⟨(Vh zO h x hx).1,N x hx⟩) U) ?_
 ·have hT:=Lin.gens_told (d:=n+1) (Lin.eqs_len (l:=Lin.consP n g) fun c hc=>(h c hc).1) (Lin.ineqs_len (l:=Lin.consP n g) fun c hc=>(h c hc).1);have h1:=hT.dd.count3 (Lin.ineqs_len (l:=Lin.consP n g) fun c hc=>(h c hc).1);have h2:=ech_len hT.form;have h3:(Lin.ineqsOf n (Lin.consP n g)).length^n<1099000000000:=K2 (WK (vH _) zO) hn;simp only [YH] at h1;unfold Lin.gensP;split
  ·rw [WM,Nj,Nj]; omega
  ·simp
 rintro v5 j ⟨q,J⟩;have L:Kp H j:=A.trans (Kp.trans zK J);have ae:=L.le;have Z:=L.wf;have d0:=J.get (I.get d3);have af:=Z _ _ d0;rcases q with ⟨rfl,q⟩ | ⟨p,rfl,⟨W,X,rfl,hc,D⟩,h1,h2⟩
 ·refine zW (cn hl a f d0 @oQ) ?_;exact ⟨.inr (.inl ⟨rfl,q⟩),zK⟩
 ·have oc:=hc.one;have og:=D.one;refine zW (cn hl a f d0 @oQ) ?_;refine ⟨.inr (.inr ⟨_,rfl,⟨W,X,rfl,?_,?_⟩,h1,h2⟩),zK⟩
  ·have m3:NoTy (t_api_Con :: conE.tys) j H.next:=NoTy.ty d0 zU
   exact SlV.monoT (E:=conE) zS hc
  ·have m3:NoTy (al :: genE.tys) j H.next:=NoTy.ty d0 zU
   exact SlV.monoT (E:=genE) zS D
end
section
variable {tab:Nat->Option au} {base i k:Nat} {T0:Tm} {dst:Option Nat} {op:AOp} {us:List (Nat × Option Nat)} {adds:List Nat} {r:List (Nat × List Nat)} {ds:List ke} {Vs:List AV} {Cs:List Heap} {Es:List (Option Ent)} {Q:DS->Prop} {t:Nat} {w:Bool}
end
section
variable {tab:Nat->Option au} {H:Heap} {s:AV}
def Aj (C:Code tab) (X:Wf H) {a b:AV} {l m:List (List Int × Bool)} (ha:SlV conE t_api_Con H a l) (hb:SlV conE t_api_Con H b m) (V:l.length<1099511627776) (I:∀ r∈l,r.1.length<1099511627776/\∀ z∈r.1,fm z) :
  Ans tab (.fn eC [a,b]) H fun v H'=>v=.bool (decide (l=m))/\Kp H H':=by
 refine bE C.q82 zU fun T hl g j=>?_;by_cases he:l.length=m.length
 ·have R:lenV b=some (.int .i64 (l.length:Int)):=by rw [hb.lenV,he]
  refine zW (cn hl g j ha.lenV R) ?_;refine bk H [5] (fun k vs H'=>∃ i:Nat,vs=[.int .i64 (i:Int)]/\i+k=l.length/\∀ q (h:q<l.length) (h':q<m.length),q<i->l[q]=m[q]) l.length (by simp only [jL]; exact hl) rfl zK ⟨0,by refine zW (aC hl g j) ?_; rfl,zO,fun q _ _ h=>by omega⟩ ?_;rintro k T1 c f G n ⟨i,d,U,E⟩;have w1:=n.wf;have Y:=n.le;simp only [SA,WF,Ud,and_true] at d;have t0:ad T1 0=a:=(G.at_ 0 zU).trans (zV (aB hl g));have t1:ad T1 1=b:=(G.at_ 1 zU).trans (zV (aZ hl g j j));by_cases hi:i<l.length
  ·have B:(i:Int)<(l.length:Int):=zO;have F:i<m.length:=zO;obtain ⟨cs,⟨w,rfl,hr⟩,-,h2,-⟩:=(ha.mono n.sub).at (zh hi);obtain ⟨S,⟨w',rfl,P⟩,-,D,-⟩:=(hb.mono n.sub).at (zh F);have p:bc c none (az a (i*2))=some w:=h2 0 _ rfl;have l1:bc c none (az a (i*2+1))=some (.bool l[i].2):=h2 1 _ rfl;have s:bc c none (az b (i*2))=some w':=D 0 _ rfl;have t:bc c none (az b (i*2+1))=some (.bool m[i].2):=D 1 _ rfl;have y:cG 2 a (.int .i64 (i:Int))=some (az a (i*2)):=SlV.idx ha .i64 i hi;have A:cG 2 b (.int .i64 (i:Int))=some (az b (i*2)):=SlV.idx hb .i64 i F;have f0:BI 0 (az a (i*2))=some (az a (i*2)):=ha.fa zO 0 (i*2);have f1:BI 1 (az a (i*2))=some (az a (i*2+1)):=ha.fa zO 1 (i*2);have u:BI 0 (az b (i*2))=some (az b (i*2)):=hb.fa zO 0 (i*2);have x:BI 1 (az b (i*2))=some (az b (i*2+1)):=hb.fa zO 1 (i*2);have e:IntKind.i64.wrap ((i:Int)+1)=((i+1:Nat):Int):=by rw [wrap_i64] <;> omega
   refine zW (ip f d t0 t1 ha.lenV B hi) ?_;by_cases hx:l[i].2=m[i].2
   ·skip
    refine aJ ?_;refine zX (Ug f d t0 t1 y A p l1 s t f0 f1 u x hx (beq_self_eq_true (α:=Bool))) ?_;refine AnsH.eq (Ak C zF (hr.mono (zG c)) (P.mono (zG c)) (I _ (EL hi)).1 (I _ (EL hi)).2) fun H2 O=>?_;obtain ⟨o,_,_⟩:=zT c zK O;have k2:Kp H H2:=Kp.trans n o;have Z:=k2.le;have J:=bV o.sub p;have L:=bV o.sub l1;have K:=bV o.sub s;have M:=bV o.sub t;cases hq:decide (l[i].1=m[i].1) with
    | true =>
     have hq:=of_decide_eq_true hq;refine zX (Te f d t0 t1 y A p l1 s t J L K M f0 f1 u x hx e (beq_self_eq_true (α:=Bool))) ?_;refine ⟨zK,k-1,zO,i+1,rfl,zO,fun q h h' W=>?_⟩;by_cases eq:q=i
     ·subst eq; exact Prod.ext hq hx
     ·exact E q h h' zO
    | false =>
     have hq:=of_decide_eq_false hq;refine zX (Te f d t0 t1 y A p l1 s t J L K M f0 f1 u x hx e (beq_self_eq_true (α:=Bool))) ?_;refine ⟨?_,zK⟩;rw [decide_eq_false];intro e; subst e; exact hq rfl
   ·have Q:(l[i].2 == m[i].2)=false:=by simpa using hx
    refine aJ ?_;refine zX (PA f d t0 t1 y A p l1 s t f0 f1 u x hx Q (beq_self_eq_true (α:=Bool))) ?_;refine ⟨?_,zK⟩;rw [decide_eq_false];intro e; subst e; exact hx rfl
  ·have B:¬ (i:Int)<(l.length:Int):=zO;refine zW (ip f d t0 t1 ha.lenV B hi) ?_;refine ⟨?_,zK⟩;rw [decide_eq_true (jq he fun q h h'=>E q h h' zO)]
 ·have N:¬ (l.length:Int)=(m.length:Int):=zO;refine zW (ip hl g j ha.lenV hb.lenV N he) ?_;refine ⟨?_,zK⟩;rw [decide_eq_false];intro e; subst e; exact he rfl
def Ai (C:Code tab) (Y:Wf H) {a b:AV} {l m:List (Nat × List Int)} (ha:SlV genE al H a l) (hb:SlV genE al H b m) (W:l.length<1099511627776) (J:∀ r∈l,r.2.length<1099511627776/\∀ z∈r.2,fm z) :
  Ans tab (.fn eB [a,b]) H fun v H'=>v=.bool (decide (l=m))/\Kp H H':=by
 refine bE C.q83 zU fun T hl j n=>?_;by_cases he:l.length=m.length
 ·have S:lenV b=some (.int .i64 (l.length:Int)):=by rw [hb.lenV,he]
  refine zW (cn hl j n ha.lenV S) ?_;refine bk H [5] (fun k vs H'=>∃ i:Nat,vs=[.int .i64 (i:Int)]/\i+k=l.length/\∀ q (h:q<l.length) (h':q<m.length),q<i->l[q]=m[q]) l.length (by simp only [jL]; exact hl) rfl zK ⟨0,by refine zW (aC hl j n) ?_; rfl,zO,fun q _ _ h=>by omega⟩ ?_;rintro k T1 c f I o ⟨i,d,V,F⟩;have w1:=o.wf;have Z:=o.le;simp only [SA,WF,Ud,and_true] at d;have t0:ad T1 0=a:=(I.at_ 0 zU).trans (zV (aB hl j));have t1:ad T1 1=b:=(I.at_ 1 zU).trans (zV (aZ hl j n n));by_cases hi:i<l.length
  ·have D:(i:Int)<(l.length:Int):=zO;have G:i<m.length:=zO;obtain ⟨cs,⟨w,rfl,hr⟩,-,h2,-⟩:=(ha.mono o.sub).at (zh hi);obtain ⟨U,⟨w',rfl,Q⟩,-,E,-⟩:=(hb.mono o.sub).at (zh G);have s:bc c none (az a (i*2))=some (.int .u8 (l[i].1:Int)):=h2 0 _ rfl;have l1:bc c none (az a (i*2+1))=some w:=h2 1 _ rfl;have t:bc c none (az b (i*2))=some (.int .u8 (m[i].1:Int)):=E 0 _ rfl;have u:bc c none (az b (i*2+1))=some w':=E 1 _ rfl;have A:cG 2 a (.int .i64 (i:Int))=some (az a (i*2)):=SlV.idx ha .i64 i hi;have B:cG 2 b (.int .i64 (i:Int))=some (az b (i*2)):=SlV.idx hb .i64 i G;have f0:BI 0 (az a (i*2))=some (az a (i*2)):=ha.fa zO 0 (i*2);have f1:BI 1 (az a (i*2))=some (az a (i*2+1)):=ha.fa zO 1 (i*2);have x:BI 0 (az b (i*2))=some (az b (i*2)):=hb.fa zO 0 (i*2);have y:BI 1 (az b (i*2))=some (az b (i*2+1)):=hb.fa zO 1 (i*2);have e:IntKind.i64.wrap ((i:Int)+1)=((i+1:Nat):Int):=by rw [wrap_i64] <;> omega
   refine zW (ip f d t0 t1 ha.lenV D hi) ?_;by_cases hx:l[i].1=m[i].1
   ·have g:(l[i].1:Int)=(m[i].1:Int):=zO;refine aJ ?_;refine zX (PA f d t0 t1 A B s l1 t u f0 f1 x y hx g (beq_self_eq_true (α:=Bool))) ?_;refine AnsH.eq (Ak C zF (hr.mono (zG c)) (Q.mono (zG c)) (J _ (EL hi)).1 (J _ (EL hi)).2) fun H2 P=>?_;obtain ⟨p,_,_⟩:=zT c zK P;have k2:Kp H H2:=Kp.trans o p;have aa:=k2.le;have K:=bV p.sub s;have M:=bV p.sub l1;have L:=bV p.sub t;have N:=bV p.sub u;cases hq:decide (l[i].2=m[i].2) with
    | true =>
     have hq:=of_decide_eq_true hq;refine zX (Td f d t0 t1 A B s l1 t u K M L N f0 f1 x y hx g e (beq_self_eq_true (α:=Bool))) ?_;refine ⟨zK,k-1,zO,i+1,rfl,zO,fun q h h' X=>?_⟩;by_cases eq:q=i
     ·subst eq; exact Prod.ext hx hq
     ·exact F q h h' zO
    | false =>
     have hq:=of_decide_eq_false hq;refine zX (Td f d t0 t1 A B s l1 t u K M L N f0 f1 x y hx g e (beq_self_eq_true (α:=Bool))) ?_;refine ⟨?_,zK⟩;rw [decide_eq_false];intro e; subst e; exact hq rfl
   ·have g:¬ (l[i].1:Int)=(m[i].1:Int):=zO;have R:=g;refine aJ ?_;refine zX (Pz f d t0 t1 A B s l1 t u f0 f1 x y hx g R (beq_self_eq_true (α:=Bool))) ?_;refine ⟨?_,zK⟩;rw [decide_eq_false];intro e; subst e; exact hx rfl
  ·have D:¬ (i:Int)<(l.length:Int):=zO;refine zW (ip f d t0 t1 ha.lenV D hi) ?_;refine ⟨?_,zK⟩;rw [decide_eq_true (jq he fun q h h'=>F q h h' zO)]
 ·have O:¬ (l.length:Int)=(m.length:Int):=zO;refine zW (ip hl j n ha.lenV hb.lenV O he) ?_;refine ⟨?_,zK⟩;rw [decide_eq_false];intro e; subst e; exact he rfl
def U2 (n:Nat) (l:List wA):Bool:=decide (n<l.length) || l.any fun c=>jN 5 1 c.1
def qB (C:Code tab) (E:Wf H) {a:AV} {ls:List wA} {n:Nat} (ha:SlV conQE t_api_Con H a ls) (hn:n<4611686018427387904) :
  Ans tab (.fn dR [a,.int .i64 (n:Int)]) H fun v H'=>v=.bool (U2 n ls)/\Kp H H':=by
 refine bE C.q15 zU fun T hl b l=>?_;by_cases he:n<ls.length
 ·have m:(n:Int)<(ls.length:Int):=zO;refine zW (fy hl b l ha.lenV m he) ?_;exact ⟨by unfold U2; rw [decide_eq_true he]; rfl,zK⟩
 ·have m:¬ (n:Int)<(ls.length:Int):=zO;refine zW (fy hl b l ha.lenV m he) ?_;refine bk H [5] (fun k vs H'=>∃ i:Nat,vs=[.int .i64 (i:Int)]/\i+k=ls.length/\∀ q (h:q<ls.length),q<i->jN 5 1 (ls[q]).1=false) ls.length (by simp only [jL]; exact hl) rfl zK ⟨0,by refine zW (aC hl b l) ?_; rfl,zO,fun q _ h=>by omega⟩ ?_;rintro k T1 j f x d ⟨i,g,B,p⟩;have w1:=d.wf;have F:=d.le;simp only [SA,WF,Ud,and_true] at g;have t0:ad T1 0=a:=(x.at_ 0 zU).trans (zV (aB hl b));by_cases hi:i<ls.length
  ·have o:(i:Int)<(ls.length:Int):=zO;obtain ⟨cs,⟨w,rfl,hr⟩,-,h2,-⟩:=(ha.mono d.sub).at (zh hi);have u:bc j none (az a (i*2))=some w:=h2 0 _ rfl;have s:cG 2 a (.int .i64 (i:Int))=some (az a (i*2)):=SlV.idx ha .i64 i hi;have r:BI 0 (az a (i*2))=some (az a (i*2)):=ha.fa zO 0 (i*2);have e:IntKind.i64.wrap ((i:Int)+1)=((i+1:Nat):Int):=by rw [wrap_i64] <;> omega
   refine zW (lh f g t0 ha.lenV o hi s r u) ?_;refine AnsH.eq (xY C (many:=5) (lim:=1) zF (hr.mono (zG j)) zO) fun H2 t=>?_;obtain ⟨A,_,_⟩:=zT j zK t;have k2:Kp H H2:=Kp.trans d A;have G:=k2.le;cases hq:jN 5 1 (ls[i]).1 with
   | true =>
    refine zW f ?_;refine ⟨?_,zK⟩;unfold U2;rw [W7.2 ⟨_,EL hi,hq⟩,Bool.or_true]
   | false =>
    refine zW (aC f g e) ?_;refine ⟨zK,k-1,zO,i+1,rfl,zO,fun q h D=>?_⟩;by_cases eq:q=i
    ·subst eq; exact hq
    ·exact p q h zO
  ·have o:¬ (i:Int)<(ls.length:Int):=zO;refine zW (fy f g t0 ha.lenV o hi) ?_;refine ⟨?_,zK⟩;have e:(ls.any fun c=>jN 5 1 c.1)=false:=by
    rw [XV];intro z y;obtain ⟨q,hq,rfl⟩:=XH y;rw [p q hq zO]; simp
   unfold U2;rw [decide_eq_false he,Bool.false_or,e]
def nu (n:Nat) (l:List GY):Bool:=decide (n<l.length) || l.any fun c=>jN 5 1 c.2
def yT (C:Code tab) (E:Wf H) {a:AV} {ls:List GY} {n:Nat} (ha:SlV genQE al H a ls) (hn:n<4611686018427387904) :
  Ans tab (.fn dQ [a,.int .i64 (n:Int)]) H fun v H'=>v=.bool (nu n ls)/\Kp H H':=by
 refine bE C.q3 zU fun T hl b l=>?_;by_cases he:n<ls.length
 ·have m:(n:Int)<(ls.length:Int):=zO;refine zW (fy hl b l ha.lenV m he) ?_;exact ⟨by unfold nu; rw [decide_eq_true he]; rfl,zK⟩
 ·have m:¬ (n:Int)<(ls.length:Int):=zO;refine zW (fy hl b l ha.lenV m he) ?_;refine bk H [5] (fun k vs H'=>∃ i:Nat,vs=[.int .i64 (i:Int)]/\i+k=ls.length/\∀ q (h:q<ls.length),q<i->jN 5 1 (ls[q]).2=false) ls.length (by simp only [jL]; exact hl) rfl zK ⟨0,by refine zW (aC hl b l) ?_; rfl,zO,fun q _ h=>by omega⟩ ?_;rintro k T1 j f x d ⟨i,g,B,p⟩;have w1:=d.wf;have F:=d.le;simp only [SA,WF,Ud,and_true] at g;have t0:ad T1 0=a:=(x.at_ 0 zU).trans (zV (aB hl b));by_cases hi:i<ls.length
  ·have o:(i:Int)<(ls.length:Int):=zO;obtain ⟨cs,⟨w,rfl,hr⟩,-,h2,-⟩:=(ha.mono d.sub).at (zh hi);have u:bc j none (az a (i*2+1))=some w:=h2 1 _ rfl;have s:cG 2 a (.int .i64 (i:Int))=some (az a (i*2)):=SlV.idx ha .i64 i hi;have r:BI 1 (az a (i*2))=some (az a (i*2+1)):=ha.fa zO 1 (i*2);have e:IntKind.i64.wrap ((i:Int)+1)=((i+1:Nat):Int):=by rw [wrap_i64] <;> omega
   refine zW (lh f g t0 ha.lenV o hi s r u) ?_;refine AnsH.eq (xY C (many:=5) (lim:=1) zF (hr.mono (zG j)) zO) fun H2 t=>?_;obtain ⟨A,_,_⟩:=zT j zK t;have k2:Kp H H2:=Kp.trans d A;have G:=k2.le;cases hq:jN 5 1 (ls[i]).2 with
   | true =>
    refine zW f ?_;refine ⟨?_,zK⟩;unfold nu;rw [W7.2 ⟨_,EL hi,hq⟩,Bool.or_true]
   | false =>
    refine zW (aC f g e) ?_;refine ⟨zK,k-1,zO,i+1,rfl,zO,fun q h D=>?_⟩;by_cases eq:q=i
    ·subst eq; exact hq
    ·exact p q h zO
  ·have o:¬ (i:Int)<(ls.length:Int):=zO;refine zW (fy f g t0 ha.lenV o hi) ?_;refine ⟨?_,zK⟩;have e:(ls.any fun c=>jN 5 1 c.2)=false:=by
    rw [XV];intro z y;obtain ⟨q,hq,rfl⟩:=XH y;rw [p q hq zO]; simp
   unfold nu;rw [decide_eq_false he,Bool.false_or,e]
end
def Emp (H:Heap) (a e:Nat):Prop:=e<=H.next/\∀ c,a<=c->c<e->H.get c=none
def Emp.start {H:Heap} (a:Wf H) {k:Nat}:Emp (H.up k) H.next (H.next+k):=⟨Jv _,fun c h _=>a.fresh h⟩
def Emp.next {G H2:Heap} {a e p a':Nat} {x:Ent} (b:Emp G a e) (d:Kp (G.put p x) H2) (hp:p<a') (ha:a<=a'):Emp H2 a' e :=
 ⟨WK b.1 d.le,fun c h1 h2=>d.free (by rw [next_put]; exact WP h2 b.1) (by rw [aw zO]; exact b.2 c zO h2)⟩
def Emp.keep {G H2:Heap} {a e:Nat} (b:Emp G a e) (d:Kp G H2):Emp H2 a e :=
 ⟨WK b.1 d.le,fun c h1 h2=>d.free (WP h2 b.1) (b.2 c h1 h2)⟩
def Emp.sub {G:Heap} {a e p:Nat} {x:Ent} (b:Emp G a e) (h1:a<=p) (h2:p<e):Sub G (G.put p x):=aH (b.2 p h1 h2)
section
variable {tab:Nat->Option au} {H:Heap} {s:AV}
end
end Go.Proofs.YtiigaeehghcjiaaGreat.Ev
namespace Go.Proofs.YtiigaeehghcjiaaGreat.Lin
def IA:gensL 2 [] [[1,1]]=[[-1,1]]/\gensR 2 [] [[1,1]]=[[1,0]]:=by
 have r:(gensU 2 [] [[1,1]]).rays.map (restF (gensL 2 [] [[1,1]]))=[[1,0]]:=by decide +kernel
 refine ⟨by decide +kernel,?_⟩;unfold gensR; rw [r]; simp
end Go.Proofs.YtiigaeehghcjiaaGreat.Lin
namespace Go.Proofs.YtiigaeehghcjiaaGreat.Ev
open Go Nn
def Emp.put {G:Heap} {a e p a':Nat} {x:Ent} (b:Emp G a e) (hp:p<a') (ha:a<=a'):Emp (G.put p x) a' e :=
 ⟨b.1,fun c h1 h2=>by rw [aw zO]; exact b.2 c zO h2⟩
section
variable {tab:Nat->Option au} {H:Heap} {s:AV}
end
end Go.Proofs.YtiigaeehghcjiaaGreat.Ev
namespace Go.Proofs.YtiigaeehghcjiaaGreat.Lin
end Go.Proofs.YtiigaeehghcjiaaGreat.Lin
namespace Go.Proofs.YtiigaeehghcjiaaGreat.Ev
open Go Nn
def TW {a b c:AV} (ha:One a) (hb:One b) (hc:One c):io (.agg [a,b,c])=some [a,b,c]:=by
 simp [io,AV.cells,ha.2,hb.2,hc.2]
def py {b c:AV} (hb:One b) (hc:One c) (k:IntKind) (n:Int):io (.agg [.int k n,b,c])=some [.int k n,b,c]:=TW (bi _ _) hb hc
section
variable {tab:Nat->Option au} {H:Heap} {s:AV}
def FE (C:Code tab) (b:Wf H) {n:Nat} (hn:n<B):Ans tab (.fn iO [.int .u64 (n:Int)]) H fun v H'=>cm H' v n/\Kp H H':=by
 refine cz C.q81 zU fun T hl a=>?_;by_cases h0:(n:Int)=0
 ·have e:n=0:=zO;subst e;refine zW (aC hl a h0) ?_;exact ⟨eM _,zK⟩
 ·refine zW (aC hl a h0) ?_;have e:ah n=[n]:=by
   have h0:¬ n=0:=zO;have hd:n / B=0:=Ys hn;rw [jr h0,hd,Xf hn,cD]
  refine ⟨?_,zK⟩;show Lb _ _ (ah n);rw [e];exact (show Own (bz cq) ae H _ _ true _ [n] from ⟨_,rfl,am _ _ _,Cells.one ⟨_,rfl,rfl⟩,zO⟩).sl
def NJ (C:Code tab) (g:Wf H) {n:Int} (h1 : -9223372036854775808<=n) (h2:n<9223372036854775808):Ans tab (.fn iN [.int .i64 n]) H fun v H'=>IntV H' v n/\Kp H H':=by
 refine cz C.q56 zU fun T hl c=>?_;by_cases h:n<0
 ·have e:IntKind.u64.wrap (0-IntKind.u64.wrap n)=((n.natAbs:Nat):Int):=by rw [gQ,gQ]; omega
  refine zW (cn hl c h e @EN) ?_;refine AnsH.use (FE C zF (n:=n.natAbs) (by unfold B; omega)) ?_;rintro v H2 ⟨hn,a⟩;obtain ⟨k2,_,w2⟩:=zT H zK a;have b0:=a.get (b:=H.next) (e:=.cells [.bool false,.nilSl] aa true) (cY);have f:=w2 _ _ b0;have ov:=hn.one;refine zW (aC hl c @b0) ?_;refine ⟨⟨v,by rw [decide_eq_true h],?_⟩,zK⟩;exact hn.monoT (SubT.put_ty b0 zU)
 ·have e:IntKind.u64.wrap n=((n.natAbs:Nat):Int):=by rw [gQ]; omega
  refine zW (aZ hl c h e) ?_;refine AnsH.use (FE C zF (n:=n.natAbs) (by unfold B; omega)) ?_;rintro v H2 ⟨hn,a⟩;obtain ⟨k2,_,w2⟩:=zT H zK a;have b0:=a.get (b:=H.next) (e:=.cells [.bool false,.nilSl] aa true) (cY);have f:=w2 _ _ b0;have ov:=hn.one;have d:im [.bool false,.nilSl] [((1,1),v)]=some (.agg [.bool false,v]):=J8 ov;refine zW (aZ hl c @b0 d) ?_;refine ⟨⟨v,by rw [decide_eq_false h],?_⟩,zK⟩;exact hn.monoT (SubT.put_ty b0 zU)
def xX (C:Code tab) (J:Wf H) {n:Nat} {k:Int} (hn:n<=60) (d : -9223372036854775808<=k) (f:k<9223372036854775808) :
  Ans tab (.fn gA [.int .i64 (n:Int),.int .i64 k]) H fun v H'=>Bq intE aa H H' v (Lin.unitC n k)/\Kp H H':=by
 refine bE C.q35 zU fun T hl g j=>?_;refine zW (aC hl g j) ?_;refine AnsH.use (NJ C (n:=k) zF d f) ?_;rintro v H2 ⟨⟨w,rfl,hr⟩,f⟩;obtain ⟨k2,_,w2⟩:=zT H zK f;have R:=hr.one;have P:H.next+5<=H2.next:=f.le
 have D:H2.get (H.next+3)=none:=f.free (show H.next+3<H.next+5 by omega) (J.fresh (b:=H.next+3) zO);refine zW (aC hl g j) ?_;obtain ⟨G,h⟩:∃ G,G=(H2.up 1).put (H.next+3) (.cells [.bool (decide (k<0)),w] aa true):=⟨_,rfl⟩
 have L:Sub H2 G:=by rw [h]; exact (Sub.bump H2 1).trans (aH D)
 have s:Kp H G:=by rw [h]; exact zK
 have bG:Bq intE aa H G (.own (H.next+3) 0 1 1 2 true) (Lin.unitC 0 k):=.inr ⟨H.next+3,true,[.bool (decide (k<0)),w],rfl,by rw [h]; exact am _ _ _,Cells.one (E:=intE) ⟨w,rfl,hr.mono L⟩,zO⟩;have S:=s.wf;rw [<- h];refine bk H [5,6] (fun r vs H'=>∃ (i:Nat) (o:AV),vs=[o,.int .i64 (i:Int)]/\i+r=n/\Bq intE aa H H' o (Lin.unitC i k)) n (by simp only [jL]; exact hl) rfl s ⟨0,_,by refine zW (aC hl g j) ?_; rfl,zO,bG⟩ ?_;rintro r T1 c p I d ⟨i,o,q,M,bq⟩;have w1:=d.wf;have O:=d.le;have N:=d.le;simp only [SA,WF,Ud,and_true] at q;obtain ⟨v5,u⟩:=q;have t0:ad T1 0=.int .i64 (n:Int):=(I.at_ 0 zU).trans (zV (aB hl g));by_cases hi:i<n
 ·have l:(i:Int)<(n:Int):=zO;have e:IntKind.i64.wrap ((i:Int)+1)=((i+1:Nat):Int):=by rw [wrap_i64] <;> omega
  have F:cP [AV.bool false,AV.nilSl] [((0,2),AV.agg [AV.bool false,AV.nilSl])]=some [.bool false,.nilSl]:=AR (aF _) bB;obtain ⟨t,m,y,x,K,Q,f6,-⟩:=Bq.push (ty2:=aa) (bytes:=32) (id:=c.next+6) (id2:=c.next+5) (H:=c.up 8) (cs:=[.bool false,.nilSl]) (a:=(0:Int)) (bq.mono (Sub.bump c 8)) zU (d.up 8) ⟨.nilSl,by simp,eM _⟩ zO (by rw [bL]; omega) (w1.fresh zO) zO (by rw [bL]; omega) (w1.fresh zO) zO (by rw [Lin.unitC_len]; omega) (by rw [Lin.unitC_len]; omega);have z:dq ((c.up 8).put (c.next+5) (.cells [.bool false,.nilSl] aa true)) (c.next+6) 2 32 aa o (.own (c.next+5) 0 1 1 2 true)=some (.own (c.next+6) 0 t t 2 false,m):=y;refine zW (lh p v5 u t0 l hi F z e) ?_;refine ⟨K.up _,r-1,zO,i+1,_,rfl,zO,?_⟩;have B:Lin.unitC (i+1) k=Lin.unitC i k++[0]:=by
   unfold Lin.unitC;rw [List.replicate_succ',Yn]
  rw [B];exact x.mono (Sub.bump m _)
 ·have l:¬ (i:Int)<(n:Int):=zO;have A:i=n:=zO;refine zW (fy p v5 u t0 l hi) ?_;refine ⟨?_,zK⟩;rw [<- A];exact bq.mono (Sub.bump c _)
def oN (c:List (List Int × Bool)) (g:List (Nat × List Int)):Bool:=U2 9 (c.map fun c=>(c.1.map fd,c.2)) || nu 9 (g.map fun c=>(c.1,c.2.map fd))
def FD (C:Code tab) (o:Wf H) {v:AV} {n:Nat} {c:List (List Int × Bool)} {g:List (Nat × List Int)} (hp:PolyV H v n c g) :
  Ans tab (.fn fN [v]) H fun x H'=>x=.bool (oN c g)/\Kp H H':=by
 obtain ⟨l,m,rfl,hc,hg⟩:=hp;have j:=hc.one;have k:=hg.one;refine cz C.q66 zU fun T hl a=>?_;refine zW (aC hl a (py j k)) ?_;refine AnsH.eq (qB C (n:=9) zF ((Gu hc).mono (zG H)) zO) fun H2 d=>?_;obtain ⟨k2,_,w2⟩:=zT H zK d;have d0:=d.get (b:=H.next) (e:=.cells [.int .i64 (n:Int),l,m] aj true) (cY);cases hq:U2 9 (c.map fun c=>(c.1.map fd,c.2)) with
 | true =>
  refine zW (aB hl a) ?_;exact ⟨by unfold oN; rw [hq,Bool.true_or],zK⟩
 | false =>
  refine zW (aC hl a d0) ?_;refine AnsH.eq (yT C (n:=9) zF ((Ga (hg.mono k2.sub)).mono (zG H2)) zO) fun f h=>?_;have i:Kp H f:=k2.trans (Kp.trans zK h);have p:=i.le;refine zW (aB hl a) ?_;exact ⟨by unfold oN; rw [hq,Bool.false_or],zK⟩
def HH (C:Code tab) (K:Wf H) {v q:AV} {n n':Nat} {c h:List (List Int × Bool)} {g g':List (Nat × List Int)} (hp:PolyV H v n c g) (D:PolyV H q n' h g') (t:c.length<1099511627776) (u:∀ r∈c,r.1.length<1099511627776/\∀ z∈r.1,fm z) (w:g.length<1099511627776) (y:∀ r∈g,r.2.length<1099511627776/\∀ z∈r.2,fm z) :
  Ans tab (.fn gB [v,q]) H fun x H'=>x=.bool (decide (n=n'/\c=h/\g=g'))/\Kp H H':=by
 obtain ⟨F,I,rfl,hc,hg⟩:=hp;obtain ⟨G,J,rfl,j,k⟩:=D;have l:=hc.one;have o:=hg.one;have m:=j.one;have p:=k.one;refine bE C.q57 zU fun T hl a d=>?_;by_cases hn:n=n'
 ·subst hn;refine zW (cn hl a d (py l o) (py m p)) ?_;refine AnsH.eq (Aj C zF (hc.mono (zG H)) (j.mono (zG H)) t u) fun H2 i=>?_;obtain ⟨k2,_,w2⟩:=zT H zK i;have d0:=i.get (b:=H.next) (e:=.cells [.int .i64 (n:Int),F,I] aj true) (cY);have d1:=i.get (b:=H.next+1) (e:=.cells [.int .i64 (n:Int),G,J] aj true) (cY);by_cases f:c=h
  ·rw [decide_eq_true f];refine zW (cn hl a d d0 d1) ?_;refine AnsH.eq (Ai C zF ((hg.mono k2.sub).mono (zG H2)) ((k.mono k2.sub).mono (zG H2)) w y) fun s A=>?_;have E:Kp H s:=k2.trans (Kp.trans zK A);have L:=E.le;refine zW (aC hl a d) ?_;exact ⟨by simp [f],zK⟩
  ·rw [decide_eq_false f];refine zW (aC hl a d) ?_;exact ⟨by simp [f],zK⟩
 ·have B:¬ (n:Int)=(n':Int):=zO;refine zW (fy hl a d (py l o) (py m p) B) ?_;exact ⟨by simp [hn],zK⟩
def TC {H:Heap} {b:Nat} {v w:AV} {x y:List Int} {p q r:Bool} (h:H.get b=some (.cells [v,.bool p,w,.bool q] t_api_Con r)) (a:RowV H v x) (c:RowV H w y):SlV conE t_api_Con H (.own b 0 2 2 2 true) [(x,p),(y,q)] :=
 ⟨[_,_,_,_],Rd.own h rfl (Jv _),fun _ _ _ _ _ _ e=>by cases e; exact ⟨_,_,h⟩,(Cells.one (E:=conE) ⟨v,rfl,a⟩).append (Cells.one (E:=conE) ⟨w,rfl,c⟩)⟩
def Wn {H:Heap} {b:Nat} {v:AV} {x:List Int} {p:Nat} {r:Bool} (h:H.get b=some (.cells [.int .u8 (p:Int),v] al r)) (a:RowV H v x):SlV genE al H (.own b 0 1 1 2 true) [(p,x)] :=
 ⟨[_,_],Rd.own h rfl (Jv _),fun _ _ _ _ _ _ e=>by cases e; exact ⟨_,_,h⟩,Cells.one (E:=genE) ⟨v,rfl,a⟩⟩
def vI {many lim:Nat} {r:List (Bool × List Nat)} (h:jN many lim r=false):r.length<=many/\∀ z∈r,z.2.length<=lim:=by
 unfold jN at h;rw [Yz,decide_eq_false_iff_not,XV] at h;refine ⟨zO,fun z a=>?_⟩
 have:=h.2 z a
 simp only [decide_eq_true_eq] at this;omega
def jO {n:Nat} {l:List wA} (h:U2 n l=false):l.length<=n/\∀ c∈l,c.1.length<=5/\∀ z∈c.1,z.2.length<=1:=by
 unfold U2 at h;rw [Yz,decide_eq_false_iff_not,XV] at h;exact ⟨zO,fun c hc=>vI (by simpa using h.2 c hc)⟩
def AN {n:Nat} {l:List GY} (h:nu n l=false):l.length<=n/\∀ c∈l,c.2.length<=5/\∀ z∈c.2,z.2.length<=1:=by
 unfold nu at h;rw [Yz,decide_eq_false_iff_not,XV] at h;exact ⟨zO,fun c hc=>vI (by simpa using h.2 c hc)⟩
def Iu {n:Nat} {l:List wA} (h:U2 n l=false):∀ c∈l,xI c.1:=fun c hc=>by
 obtain ⟨h1,h2⟩:=(jO h).2 c hc;exact ⟨zO,fun z a=>by have:=h2 z a; omega⟩
def V5 {n:Nat} {l:List GY} (h:nu n l=false):∀ c∈l,xI c.2:=fun c hc=>by
 obtain ⟨h1,h2⟩:=(AN h).2 c hc;exact ⟨zO,fun z a=>by have:=h2 z a; omega⟩
abbrev Rr (c:wA):List Int × Bool:=(c.1.map fV,c.2)
abbrev Wo (c:GY):Nat × List Int:=(c.1,c.2.map fV)
def So {r:List (Bool × List Nat)} (hl:∀ z∈r,Lim z.2/\z.2.length<=1):Lin.Bd (2^64) (r.map fV):=fun i=>by
 unfold Lin.at_;rw [qf];cases hi:(r.map fV)[i]? with
 | none=>simp
 | some z =>
  obtain ⟨x,hx,rfl⟩:=DT.1 (WN hi)
  have:=M2 (n:=1) (hl x hx).1 (hl x hx).2
  unfold Bt at this;simp only [XP] at this;simp only [XG];omega
def Qq {r:List (Bool × List Nat)} (h:BH r=true):∀ z∈r,r8 z=false:=by
 simp only [BH,W6,XA,XV,Bool.not_eq_true] at h;exact h.2
def LZ {d:Int} {n:Nat} {l:List wA} (hs:SlV conQE t_api_Con H s l) (gl:∀ r∈l,my r.1) (hg:U2 n l=false) (h4:¬ 4<d) (hn:n<=60) :
  dV d l≠0\/∃ k:Nat,d=(k:Int)/\k<=4/\SlV conE t_api_Con H s (l.map Rr)/\l.length<=n/\∀ c∈l.map Rr,c.1.length=k+1/\Lin.Bd (2^64) c.1:=by
 by_cases hc:dV d l=0
 ·refine .inr ?_;obtain ⟨h1,h2⟩:=jO hg;unfold dV at hc;split at hc
  ·omega
  split at hc
  ·omega
  split at hc
  ·omega
  split at hc
  ·omega
  rename_i q1 q2 q3 q4;have q3:∀ c∈l,BH c.1=true:=fun c hc=>by
   cases b:BH c.1 with
   | true=>rfl
   | false=>exact absurd (W7.2 ⟨c,hc,by rw [b]; rfl⟩) q3
  have q4:∀ c∈l,(c.1.length:Int)=d+1:=fun c hc=>by
   apply W0
   intro hn;exact q4 (W7.2 ⟨c,hc,by simpa using hn⟩)
  refine ⟨d.toNat,zO,zO,OV hs fun r hr z a=>⟨Qq (q3 r hr) z a,((gl r hr).1 z a).1⟩,h1,fun c hc=>?_⟩;obtain ⟨x,hx,rfl⟩:=DT.1 hc;refine ⟨?_,So fun z a=>⟨((gl x hx).1 z a).1,(h2 x hx).2 z a⟩⟩
  have:=q4 x hx
  show (x.1.map fV).length=_;rw [Nj];omega
 ·exact .inl hc
end
end Go.Proofs.YtiigaeehghcjiaaGreat.Ev
