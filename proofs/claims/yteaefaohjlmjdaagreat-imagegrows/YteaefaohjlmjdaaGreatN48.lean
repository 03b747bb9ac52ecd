/- A part. -/
import Derived.Test.YteaefaohjlmjdaaGreatA0
import Derived.Test.YteaefaohjlmjdaaGreatN38
import Derived.Test.YteaefaohjlmjdaaGreatGens
import Derived.ChangeArms
import Derived.DataReads
set_option linter.all false
namespace Go.Proofs.YteaefaohjlmjdaaGreat.Ev
open Go Nn
def jg {α:Type} {l m:List α} (he:l.length=m.length) (h:∀ q (h:q<l.length) (h':q<m.length),l[q]=m[q]):l=m :=
 YE he fun q h1 h2=>h q h1 h2
def fN (many ah:Nat) (r:List (Bool × List Nat)):Bool:=decide (many<r.length) || r.any fun z=>decide (ah<z.2.length)
section
variable {tab:Nat->Option aA} {H:Heap} {s:AV}
def IN (C:Code tab) (J:Wf H) {a b:AV} {l m:List Nat} (ha:Lb H a l) (hb:Lb H b m) (G:l.length<4611686018427387904) :
  Ans tab (.fn gw [a,b]) H fun v H'=>v=.bool (decide (l=m))/\Kp H H':=by
 refine bA C.q140 zU fun T hl c d=>?_;by_cases he:l.length=m.length
 ·have D:lenV b=some (.int .i64 (l.length:Int)):=by rw [hb.lenV,he]
  refine zW (bB hl c d ha.lenV D) ?_;refine cu H [5] (fun k vs H'=>∃ i:Nat,vs=[.int .i64 (i:Int)]/\i+k=l.length/\∀ q (h:q<l.length) (h':q<m.length),q<i->l[q]=m[q]) l.length (by simp only [dz]; exact hl) rfl zK ⟨0,by refine zW (aD hl c d) ?_; rfl,zO,fun q _ _ h=>by omega⟩ ?_;rintro k T1 E j A g ⟨i,f,F,s⟩;have w1:=g.wf;have K:=g.le;simp only [uz,B3,Ae,and_true] at f;have t0:ad T1 0=a:=(A.at_ 0 zU).trans (zV (aE hl c));have t1:ad T1 1=b:=(A.at_ 1 zU).trans (zV (aO hl c d d));by_cases hi:i<l.length
  ·have n:(i:Int)<(l.length:Int):=zO;have t:i<m.length:=zO;obtain ⟨w,hr,y⟩:=SlV.at1 (ha.mono g.sub) (eA hi);obtain ⟨w',r,z⟩:=SlV.at1 (hb.mono g.sub) (eA t);have hr:w=.int .u64 ((l[i]:Nat):Int):=hr;have r:w'=.int .u64 ((m[i]:Nat):Int):=r;subst hr; subst r;have u:=SlV.idx1 ha .i64 i hi;have x:=SlV.idx1 hb .i64 i t;have e:IntKind.i64.wrap ((i:Int)+1)=((i+1:Nat):Int):=by rw [wrap_i64] <;> omega
   refine zW (fo j f t0 t1 ha.lenV n hi) ?_;refine aF ?_;by_cases o:l[i]=m[i]
   ·have p:((l[i]:Nat):Int)=((m[i]:Nat):Int):=zO;refine zD (oK j f t0 t1 u y x z p e) ?_;refine ⟨zK,k-1,zO,i+1,rfl,zO,fun q h h' I=>?_⟩;by_cases eq:q=i
    ·subst eq; exact o
    ·exact s q h h' zO
   ·have p:¬ ((l[i]:Nat):Int)=((m[i]:Nat):Int):=zO;refine zD (ia j f t0 t1 u y x z p o e) ?_;refine ⟨?_,zK⟩;rw [decide_eq_false];intro e; subst e; exact o rfl
  ·have n:¬ (i:Int)<(l.length:Int):=zO;refine zW (fo j f t0 t1 ha.lenV n hi) ?_;refine ⟨?_,zK⟩;rw [decide_eq_true (jg he fun q h h'=>s q h h' zO)]
 ·have B:¬ (l.length:Int)=(m.length:Int):=zO;refine zW (fo hl c d ha.lenV hb.lenV B he) ?_;refine ⟨?_,zK⟩;rw [decide_eq_false];intro e; subst e; exact he rfl
def DA {x y:Nat} (h:ah x=ah y):x=y:=by
 have:=congrArg val h
 rwa [bM,bM] at this
def IM (C:Code tab) (i:Wf H) {a b:AV} {x y:Int} (ha:IntV H a x) (hb:IntV H b y) (hx:dD x) :
  Ans tab (.fn gu [a,b]) H fun v H'=>v=.bool (decide (x=y))/\Kp H H':=by
 obtain ⟨p,rfl,hp⟩:=ha;obtain ⟨q,rfl,f⟩:=hb;have op:=hp.one;have j:=f.one;unfold dD Sm at hx;refine bA C.q122 zU fun T hl c d=>?_;by_cases h:decide (x<0)=decide (y<0)
 ·have h':(decide (x<0) == decide (y<0))=true:=by rw [h]; simp
  refine zW (aO hl c d h') ?_;refine AnsH.eq (IN C zF (hp.mono (zG H)) (f.mono (zG H)) zO) fun H2 g=>?_;obtain ⟨k2,_,_⟩:=zT H zK g;refine zW (aD hl c d) ?_;refine ⟨?_,zK⟩;by_cases e:x=y
  ·rw [decide_eq_true e,decide_eq_true (by rw [e])]
  ·rw [decide_eq_false e,decide_eq_false];intro h2
   have:=DA h2
   have h3:(x<0) ↔ (y<0):=by simpa using h
   omega
 ·have h':(decide (x<0) == decide (y<0))=false:=by simpa using h
  refine zW (aO hl c d h') ?_;refine ⟨?_,zK⟩;rw [decide_eq_false];intro e; subst e; exact h rfl
def Bs (C:Code tab) (M:Wf H) {a b:AV} {l m:List Int} (ha:RowV H a l) (hb:RowV H b m) (J:l.length<1099511627776) (hz:∀ z∈l,dD z) :
  Ans tab (.fn gt [a,b]) H fun v H'=>v=.bool (decide (l=m))/\Kp H H':=by
 refine bA C.q102 zU fun T hl f g=>?_;by_cases he:l.length=m.length
 ·have G:lenV b=some (.int .i64 (l.length:Int)):=by rw [hb.lenV,he]
  refine zW (bB hl f g ha.lenV G) ?_;refine cu H [5] (fun k vs H'=>∃ i:Nat,vs=[.int .i64 (i:Int)]/\i+k=l.length/\∀ q (h:q<l.length) (h':q<m.length),q<i->l[q]=m[q]) l.length (by simp only [dz]; exact hl) rfl zK ⟨0,by refine zW (aD hl f g) ?_; rfl,zO,fun q _ _ h=>by omega⟩ ?_;rintro k T1 o n y j ⟨i,d,I,x⟩;have w1:=j.wf;have N:=j.le;simp only [uz,B3,Ae,and_true] at d;have t0:ad T1 0=a:=(y.at_ 0 zU).trans (zV (aE hl f));have t1:ad T1 1=b:=(y.at_ 1 zU).trans (zV (aO hl f g g));by_cases hi:i<l.length
  ·have p:(i:Int)<(l.length:Int):=zO;have B:i<m.length:=zO;obtain ⟨w,hn,L,r⟩:=nG w1 (ha.mono j.sub) hi;obtain ⟨w',E,L',s⟩:=nG w1 (hb.mono j.sub) B;have t:=L.ld;have u:=L'.ld;have e:IntKind.i64.wrap ((i:Int)+1)=((i+1:Nat):Int):=by rw [wrap_i64] <;> omega
   refine zW (fo n d t0 t1 ha.lenV p hi) ?_;refine aF ?_;refine zD (fX n d t0 t1 r t s u) ?_;refine AnsH.eq (IM C zF ⟨w,rfl,hn.mono (zG o)⟩ ⟨w',rfl,E.mono (zG o)⟩ (hz _ (mQ hi))) fun H2 D=>?_;obtain ⟨F,_,_⟩:=zT o zK D;have k2:Kp H H2:=Kp.trans j F;have O:=k2.le;cases c:decide (l[i]=m[i]) with
   | true =>
    have c:=of_decide_eq_true c;refine zD (jU n d t0 t1 r t s u e) ?_;refine ⟨zK,k-1,zO,i+1,rfl,zO,fun q h h' K=>?_⟩;by_cases eq:q=i
    ·subst eq; exact c
    ·exact x q h h' zO
   | false =>
    have c:=of_decide_eq_false c;refine zD (jU n d t0 t1 r t s u e) ?_;refine ⟨?_,zK⟩;rw [decide_eq_false];intro e; subst e; exact c rfl
  ·have p:¬ (i:Int)<(l.length:Int):=zO;refine zW (fo n d t0 t1 ha.lenV p hi) ?_;refine ⟨?_,zK⟩;rw [decide_eq_true (jg he fun q h h'=>x q h h' zO)]
 ·have A:¬ (l.length:Int)=(m.length:Int):=zO;refine zW (fo hl f g ha.lenV hb.lenV A he) ?_;refine ⟨?_,zK⟩;rw [decide_eq_false];intro e; subst e; exact he rfl
def rm (C:Code tab) (E:Wf H) {a:AV} {r:List (Bool × List Nat)} {many lim:Nat} (ha:SlV rawE aa H a r) (hm:many<4611686018427387904) :
  Ans tab (.fn fG [a,.int .i64 (many:Int),.int .i64 (lim:Int)]) H fun v H'=>v=.bool (fN many lim r)/\Kp H H':=by
 refine lC C.q18 zU fun T hl c d f=>?_;by_cases he:many<r.length
 ·have l:(many:Int)<(r.length:Int):=zO;refine zW (dj hl c d ha.lenV l he) ?_;exact ⟨by unfold fN; rw [decide_eq_true he]; rfl,zK⟩
 ·have l:¬ (many:Int)<(r.length:Int):=zO;refine zW (fo hl c d f ha.lenV l he) ?_;refine cu H [7] (fun k vs H'=>∃ i:Nat,vs=[.int .i64 (i:Int)]/\i+k=r.length/\∀ q (h:q<r.length),q<i->¬ lim<(r[q]).2.length) r.length (by simp only [dz]; exact hl) rfl zK ⟨0,by refine zW (aO hl c d f) ?_; rfl,zO,fun q _ h=>by omega⟩ ?_;rintro k T1 A n y m ⟨i,j,B,s⟩;have w1:=m.wf;have F:=m.le;simp only [uz,B3,Ae,and_true] at j;have t0:ad T1 0=a:=(y.at_ 0 zU).trans (zV (aE hl c));have p:ad T1 2=.int .i64 (lim:Int):=(y.at_ 2 zU).trans (zV (bB hl c d f f));by_cases hi:i<r.length
  ·have g:(i:Int)<(r.length:Int):=zO;obtain ⟨cs,⟨w,rfl,hn⟩,-,h2,-⟩:=(ha.mono m.sub).at (eA hi);have x:bk A none (aB a (i*2+1))=some w:=h2 1 w rfl;have u:cS 2 a (.int .i64 (i:Int))=some (aB a (i*2)):=SlV.idx ha .i64 i hi;have t:CT 1 (aB a (i*2))=some (aB a (i*2+1)):=ha.fa zO 1 (i*2);have e:IntKind.i64.wrap ((i:Int)+1)=((i+1:Nat):Int):=by rw [wrap_i64] <;> omega
   by_cases b:lim<(r[i]).2.length
   ·have o:(lim:Int)<((r[i]).2.length:Int):=zO;refine zW (Ih n j t0 p ha.lenV g hi u t x hn.lenV o b) ?_;refine ⟨?_,zK⟩;unfold fN;rw [OL.2 ⟨_,mQ hi,by rw [decide_eq_true b]⟩,Bool.or_true]
   ·have o:¬ (lim:Int)<((r[i]).2.length:Int):=zO;refine zW (Ln n j t0 p ha.lenV g hi u t x hn.lenV o b e) ?_;refine ⟨zK,k-1,zO,i+1,rfl,zO,fun q h D=>?_⟩;by_cases eq:q=i
    ·subst eq; exact b
    ·exact s q h zO
  ·have g:¬ (i:Int)<(r.length:Int):=zO;refine zW (fo n j t0 p ha.lenV g hi) ?_;refine ⟨?_,zK⟩;have e:(r.any fun z=>decide (lim<z.2.length))=false:=by
    rw [XW];intro z hz;obtain ⟨q,b,rfl⟩:=U0 hz
    simpa using s q b zO
   unfold fN;rw [decide_eq_false he,Bool.false_or,e]
def Wo (C:Code tab) (S:Wf H) {l:List Int} {ty:Nat} (hs:AD (Fo .i64) ty H s l) (Q:l.length<=64) (hz:∀ z∈l,-9223372036854775808<=z/\z<9223372036854775808) :
  Ans tab (.fn BG [s]) H fun v H'=>(∃ b cs,H.next<=b/\v=.own b 0 l.length l.length 2 true/\H'.get b=some (.cells cs aa true)/\Cells intE H' cs l)/\Kp H H':=by
 refine cT C.q10 zU fun T hl g=>?_;obtain ⟨cells,p⟩:∃ cells,cells=(List.replicate l.length [AV.bool false,AV.nilSl]).flatten:=⟨_,rfl⟩
 have K:∀ H':Heap,Ja H' (H.next+3) aa 2 32 [.bool false,.nilSl] (.int .i64 (l.length:Int)) (.int .i64 (l.length:Int))=some (.own (H.next+3) 0 l.length l.length 2 true,H'.put (H.next+3) (.cells cells aa true)):=fun H'=>by rw [p]; exact iS _ _ _ _ _ _ _ _ _ zO zO rfl
 refine zW (aO hl g hs.lenV K) ?_;have L:intE.R H [.bool false,.nilSl] 0:=⟨.nilSl,by simp,eO H⟩
 have D:Cells intE H cells (List.replicate l.length 0):=by rw [p]; exact mm L _
 refine aq H [3] (fun j vs H'=>vs=[.own (H.next+3) 0 l.length l.length 2 true]/\∃ cs,H'.get (H.next+3)=some (.cells cs aa true)/\Cells intE H' cs (l.take j++List.replicate (l.length-j) 0)) (a:=0) (N:=l.length) rfl (by refine zW (aE hl g) ?_; rfl) (zV (aE hl g)) (xq _) zO (by simp only [dz,hl]; rfl) rfl (fun j vs H' m ⟨h0,cs,h1,h2⟩=>⟨h0,cs,h1,Cells.mono (E:=intE) ((Sub.bump H' m).t _) h2⟩) zK ⟨by exact zV (aE hl g),cells,by exact cC,by
  have e:List.take 0 l++List.replicate (l.length-0) 0=List.replicate l.length 0:=by simp
  rw [e];exact Cells.mono (E:=intE) zS D⟩ ?_ ?_
 ·rintro j T1 k _ hj d F t c ⟨f,cs,n,h⟩;have w1:=c.wf;have M:=c.le;have V:=c.le;simp only [uz,B3,Ae,and_true] at f;have t9:ad T1 9=s:=(t.at_ 9 zU).trans (zV (aE hl g));obtain ⟨w,hr,J⟩:=SlV.at1 (hs.mono c.sub) (eA hj);have hr:w=.int .i64 l[j]:=hr;subst hr;have G:=SlV.idx1 hs .i64 j hj;have x:=hz _ (mQ hj);simp only [dz,hl] at d;refine zW (dj d t9 F G J f) ?_;refine AnsH.use (jk C zF x.1 x.2) ?_;rintro v H2 ⟨⟨w,rfl,hn⟩,I⟩;obtain ⟨k2,_,P⟩:=zT k zK I;have O:=hn.one;have o:=k2.get n;have W:=P _ _ o;have R:cs.length=l.length*2:=by
   have:=h.1
   rw [C5,L9,Ye] at this;have e:intE.sz=2:=rfl;rw [e] at this;rw [this]; congr 1; omega
  have u:CS (some (.cells cs aa true)) 2 (0+j*2) (.agg [.bool (decide (l[j]<0)),w])=some (.cells (cs.take (0+j*2)++[.bool (decide (l[j]<0)),w]++cs.drop (0+j*2+2)) aa true):=fR (zg (ai _) O) zO;have r:cS 2 (.own (H.next+3) 0 l.length l.length 2 true) (.int .i64 (j:Int))=some (.ptr (H.next+3) (0+j*2)):=jB hj;rw [RO] at u r;have q:Cells intE H2 (cs.take (j*2)++[.bool (decide (l[j]<0)),w]++cs.drop (j*2+2)) ((l.take j++List.replicate (l.length-j) 0).set j l[j]):=(Cells.mono (E:=intE) (k2.sub.t _) h).set (i:=j) (by simp; omega) ⟨w,rfl,hn⟩;have B:(l.take j++List.replicate (l.length-j) 0).set j l[j]=l.take (j+1)++List.replicate (l.length-(j+1)) 0:=by
   have y:l.length-j=(l.length-(j+1))+1:=zO;have A:j-(List.take j l).length=0:=by simp; omega
   rw [y,Ya,List.set_append,if_neg (by simp; omega),A,List.set_cons_zero,BU hj,YA];rfl
  rw [B] at q;have m3:NoTy [ae] H2 (H.next+3):=NoTy.ty o zU;refine zW (bB d f r o u) ?_;have U:Kp H H2:=c.trans k2;exact ⟨zK,_,rfl,Cells.mono (E:=intE) zS q⟩
 ·rintro T1 k d t c ⟨f,cs,n,h⟩;have w1:=c.wf;have M:=c.le;simp only [uz,B3,Ae,and_true] at f;simp only [dz,hl] at d;refine zW (aE d f) ?_;refine ⟨?_,zK⟩;have e:List.take l.length l++List.replicate (l.length-l.length) 0=l:=by simp
  rw [e] at h;exact ⟨H.next+3,cs,zO,rfl,n,Cells.mono (E:=intE) ((Sub.bump k _).t _) h⟩
def AN (C:Code tab) (d:Wf H) {l:List Int} {ty:Nat} (hs:AD (Fo .i64) ty H s l) (a:l.length<=64) (hz:∀ z∈l,-9223372036854775808<=z/\z<9223372036854775808) :
  Ans tab (.fn BG [s]) H fun v H'=>RowV H' v l/\Kp H H' :=
 (Wo C d hs a hz).mono fun v H' ⟨⟨b,cs,h1,h2,h3,h4⟩,c⟩=>⟨by
  subst h2;exact (show Own intE aa H H' b true (.own b 0 l.length l.length 2 true) l from ⟨cs,rfl,h3,h4,h1⟩).sl,c⟩
end
def yY {β:Type} {P:Nat->β->Prop}:∀ n,(∀ i,i<n->∃ y,P i y)->∃ l:List β,l.length=n/\∀ i (h:i<l.length),P i l[i]
 | 0,_=>⟨[],rfl,fun i h=>by simp at h⟩
 | n+1,h=>by
  obtain ⟨l,h1,h2⟩:=yY n fun i hi=>h i zO;obtain ⟨y,hy⟩:=h n zO;refine ⟨l++[y],by simp [h1],fun i hi=>?_⟩;by_cases a:i<l.length
  ·rw [List.getElem_append_left a]; exact h2 i a
  ·have:i=n:=by rw [C5] at hi; simp at hi; omega
   subst this;rw [List.getElem_append_right zO]
   simpa [h1] using hy
def KQ {β:Type} {sz:Nat} {f:β->List AV}:∀ (l:List β),(∀ y∈l,(f y).length=sz)->(l.flatMap f).length=l.length*sz/\∀ i (h:i<l.length) k,k<sz->(l.flatMap f)[i*sz+k]? = (f l[i])[k]?
 | [],_=>⟨by simp,fun i h=>by simp at h⟩
 | y :: l,h=>by
  obtain ⟨h1,h2⟩:=KQ l fun z hz=>h z (tZ _ hz);have hy:=h y (Al ..);refine ⟨by rw [List.flatMap_cons,C5,h1,hy,Sb,Yn]; omega,fun i hi k a=>?_⟩;rw [List.flatMap_cons];cases i with
  | zero=>rw [Ni zO]; simp
  | succ i =>
   rw [Xy (by rw [Yn]; omega),hy];have e:(i+1)*sz+k-sz=i*sz+k:=by rw [Yn]; omega
   rw [e,h2 i (by simpa using hi) k a]
   simp
def vw {HT:Type}:DataW HT->List (DataW HT)
 | .slice l _=>l
 | _=>[]
def Ti {HT:Type}:DataW HT->List (DataW HT)
 | .agg l=>l
 | _=>[]
def Fj {HT:Type} (y:DataW HT) (z:Bool × List Nat):Prop:=∃ y2∈Ti y,z.2.length<=(vw y2).length
section
variable {HT:Type} {enc:TypeId × Value->HT} {P:Program} {w:World} {base:Nat} {sp:Nat->Bool} {held:Bool} {μ:Mu} {F:Nat->Prop} {H:Heap} {α:Type}
def AR {E:fQ α} {ty:Nat} {good:DataW HT->α->Prop} {t e:TypeId} (K:∀ c,c<w.heap.size->F c) (T:P.underlying t=some (.slice e)) (S:P.cellsOf e=E.sz)
  (N:∀ u cs x,DataW.trod enc P w base sp held u e cs=some x->∃ q z,LR μ F w q cs/\E.R H q z/\good x.1 z)
  {u:Nat} {cs:List Value} {x:DataW HT × List MemPlace} (h:DataW.trod enc P w base sp held u t cs=some x) :
  ∃ v A zs,cs=[v]/\VR μ F w A v/\SlV E ty H A zs/\(∀ z∈zs,∃ y∈vw x.1,good y z)/\zs.length<=maxLen/\zs.length<=(vw x.1).length:=by
 rcases DataW.trod_slice T h with ⟨rfl,-⟩ | ⟨a,len,cap,B,rest,n,-,rfl,ex,hb,hl,hc,Q,M,-⟩
 ·exact ⟨_,.nilSl,[],rfl,.nilSl,SlV.nil _ _ _,(fun z h=>by cases h),xq _,xq _⟩
 ·rcases YO len with h0 | h0
  ·subst h0;refine ⟨_,.sl [] 0,[],rfl,.sl0 a cap,⟨[],⟨trivial,(fun s h=>by cases h),0,rfl,by simp [aP]⟩,(fun _ _ _ _ _ _ e=>by cases e),by simp,fun i a h=>by simp at h⟩,fun z h=>(by cases h),xq _,xq _⟩
  ·have hp:=E.pos;obtain ⟨L,l,d⟩:=yY (P:=fun i (y:List AV × List Value × α)=>w.cells? base (a.add (i*E.sz)) E.sz=some y.2.1/\LR μ F w y.1 y.2.1/\E.R H y.1 y.2.2/\∃ h:i<B.length,good B[i].1 y.2.2) len fun i hi=>by
    have h1:=M i hi;rw [eA zO,S] at h1;obtain ⟨cs,h2,h3⟩:=cO.1 h1;obtain ⟨q,z,h4,h5,h6⟩:=N _ _ _ h3;exact ⟨(q,cs,z),h2,h4,h5,zO,h6⟩
   have I:∀ y∈L,y.1.length=E.sz:=fun y hy=>by
    obtain ⟨i,hi,rfl⟩:=U0 hy;exact (E.len (d i hi).2.2.1).1
   obtain ⟨o,G⟩:=KQ (f:=fun y:List AV × List Value × α=>y.1) L I;have D:∀ i (hi:i<L.length) k,k<E.sz->w.cell? (a.add (i*E.sz) |>.add k)=(L[i]).2.1[k]?:=fun i hi k b=>((World.cells?_some (d i hi).1).2.2 k b)
   obtain ⟨v0,p⟩:∃ v0,w.cell? a=some v0:=by
    have h1:=D 0 zO 0 hp;have h2:=(World.cells?_some (d 0 zO).1).2.1;rw [eA zO] at h1;simp [Addr.add] at h1;exact ⟨_,h1⟩
   obtain ⟨arr,g,fr,r,J⟩:∃ arr g fr,w.heap[a.block]? = some (.cells arr g fr)/\a.spot=none:=by
    unfold World.cell? at p;split at p
    ·rename_i c g fr hb;refine ⟨c,g,fr,hb,?_⟩;cases hs:a.spot with
     | none=>rfl
     | some s=>rw [hs] at p; simp at p
    ·cases p
   obtain ⟨blk,off,X⟩:=a;simp only at J r hb;subst J;have C:∀ i (hi:i<L.length) k,k<E.sz->arr[off+(i*E.sz+k)]? = (L[i]).2.1[k]?:=fun i hi k b=>by
    rw [<- D i hi k b];have e:((⟨blk,off,none⟩:Addr).add (i*E.sz) |>.add k)=⟨blk,off+(i*E.sz+k),none⟩:=by
     unfold Addr.add;by_cases h1:i*E.sz=0
     ·by_cases h2:k=0
      ·simp [h1,h2]
      ·simp [h1,h2]
     ·by_cases h2:k=0
      ·simp [h1,h2]
      ·simp [h1,h2]; omega
    rw [e];simp [World.cell?,r]
   have V:∀ i (hi:i<L.length),(L[i]).2.1.length=E.sz:=fun i hi=>(World.cells?_some (d i hi).1).2.1;have R:off+(L.flatMap fun y=>y.1).length<=arr.size:=by
    have h1:=C (len-1) zO (E.sz-1) zO;rw [eA (by have:=V (len-1) zO; omega)] at h1;have h2:=(XJ.1 h1).1;rw [o,l];have h3:len*E.sz=(len-1)*E.sz+E.sz:=by
     obtain ⟨m,rfl⟩:∃ m,len=m+1:=⟨len-1,zO⟩
     rw [Yn,YP]
    omega
   refine ⟨_,.sl (L.flatMap fun y=>y.1) len,L.map fun y=>y.2.2,rfl,.sl _ _ _ blk off arr g fr (K _ (XJ.1 r).1) r hl R fun j c v hc U=>?_,⟨L.flatMap fun y=>y.1,⟨trivial,(fun s h=>by cases h),len,rfl,?_⟩,(fun _ _ _ _ _ _ e=>by cases e),?_,fun i z hz=>?_⟩,fun z hz=>?_,by rw [rR,l]; omega,by rw [rR,l,ex]; simp [vw,Q]⟩
   ·have hj:=(B4.1 hc).1;rw [o] at hj;have hi:j / E.sz<L.length:=(Jr hp).2 hj;have b:j % E.sz<E.sz:=XD _ hp;have O:j / E.sz*E.sz+j % E.sz=j:=ZT j E.sz;have h1:=G _ hi _ b;have h2:=C _ hi _ b;rw [O] at h1 h2;rw [hc] at h1;rw [U] at h2;exact (d _ hi).2.1.2 _ _ _ h1.symm h2.symm
   ·simp only [aP];rw [if_pos ⟨o0 _,by rw [o,l]; exact o0 _⟩,MU (by rw [o,l]; exact o0 _)]
   ·rw [o,rR]
   ·rw [XA,wI] at hz;obtain ⟨y,hy,rfl⟩:=hz;obtain ⟨hi,rfl⟩:=B4.1 hy;have e:(((L.flatMap fun y=>y.1).drop (i*E.sz)).take E.sz)=L[i].1:=by
     apply Yk
     intro k;rw [Gy];have W:=I _ (mQ hi);split
     ·rename_i b;rw [GQ]; exact G i hi k b
     ·exact (Pi zO).symm
    rw [e];exact (d i hi).2.2.1
   ·obtain ⟨y,hy,rfl⟩:=nC.1 hz;obtain ⟨i,hi,rfl⟩:=U0 hy;obtain ⟨h1,h2⟩:=(d i hi).2.2.2;rw [ex];exact ⟨_,nC.2 ⟨_,mQ h1,rfl⟩,h2⟩
def QP {E:fQ α} {ty:Nat} {good:α->Prop} {t e:TypeId} (f:∀ c,c<w.heap.size->F c) (j:P.underlying t=some (.slice e)) (i:P.cellsOf e=E.sz)
  (g:∀ b cs x,DataW.trod enc P w base sp held b e cs=some x->∃ d z,LR μ F w d cs/\E.R H d z/\good z)
  {b:Nat} {cs:List Value} {x:DataW HT × List MemPlace} (h:DataW.trod enc P w base sp held b t cs=some x) :
  ∃ v a zs,cs=[v]/\VR μ F w a v/\SlV E ty H a zs/\(∀ z∈zs,good z)/\zs.length<=maxLen:=by
 obtain ⟨v,a,zs,h1,h2,h3,h4,h5,-⟩:=AR (good:=fun _ z=>good z) f j i g h;exact ⟨v,a,zs,h1,h2,h3,fun z hz=>(h4 z hz).elim fun _ h=>h.2,h5⟩
def LE {t:TypeId} (d:P.underlying t=some (.int .u64)) {c:Nat} {cs:List Value} {x:DataW HT × List MemPlace} (h:DataW.trod enc P w base sp held c t cs=some x) :
  ∃ a z,LR μ F w a cs/\(bU gg).R H a z/\z<18446744073709551616:=by
 obtain ⟨n,rfl,-,b⟩:=DataW.trod_int d h;have hr:0<=n/\n<18446744073709551616:=by
  have h1:IntKind.u64.min=0:=by decide
  have h2:IntKind.u64.max=18446744073709551615:=by decide
  unfold Lit.wf at b;simp [h1,h2] at b;omega
 refine ⟨[.int .u64 n],n.toNat,LR.cons (.int _ _) LR.nil,⟨_,rfl,?_⟩,zO⟩;show AV.int .u64 n=.int .u64 (n.toNat:Int);rw [Int.toNat_of_nonneg hr.1]
def F0 {t e:TypeId} (d:∀ c,c<w.heap.size->F c) (g:P.underlying t=some (.slice e)) (he:P.underlying e=some (.int .u64)) (f:P.cellsOf e=1) {b:Nat} {cs:List Value} {x:DataW HT × List MemPlace} (h:DataW.trod enc P w base sp held b t cs=some x) :
  ∃ v a zs,cs=[v]/\VR μ F w a v/\SlV (bU gg) ae H a zs/\(∀ z∈zs,z<18446744073709551616)/\zs.length<=maxLen/\zs.length<=(vw x.1).length:=by
 obtain ⟨v,a,zs,h1,h2,h3,h4,h5⟩:=AR (E:=bU gg) (ty:=ae) (H:=H) (μ:=μ) (good:=fun _ z=>z<18446744073709551616) d g f (fun b cs x h=>LE he h) h;exact ⟨v,a,zs,h1,h2,h3,fun z hz=>(h4 z hz).elim fun _ h=>h.2,h5⟩
def jE (z:Bool × List Nat):Prop:=(∀ x∈z.2,x<18446744073709551616)/\z.2.length<=maxLen
def Oa {t e:TypeId} {g:Array Field} {f0 f1:Field} (y:∀ c,c<w.heap.size->F c) (E:P.underlying t=some (.struct g)) (D:g = #[f0,f1]) (h0:f0.offset=0) (h1:f1.offset=1) (hc:P.cellsOf t=2) (hb:P.underlying f0.type=some .bool) (A:P.cellsOf f0.type=1) (hn:P.underlying f1.type=some (.slice e)) (C:P.cellsOf f1.type=1) (he:P.underlying e=some (.int .u64)) (B:P.cellsOf e=1)
  {o:Nat} {cs:List Value} {x:DataW HT × List MemPlace} (h:DataW.trod enc P w base sp held o t cs=some x) :
  ∃ a z,LR μ F w a cs/\rawE.R H a z/\jE z/\Fj x.1 z:=by
 subst D;obtain ⟨xs,n,-,ex,hl,k,hx⟩:=DataW.trod_struct E h;have k:xs.length=2:=by simpa using k
 rw [hc] at hl
 match cs,hl with
 | [l,m],_ =>
  have e0:=hx 0 f0 rfl;have f:=hx 1 f1 rfl;rw [eA zO,h0,A] at e0;rw [eA zO,h1,C] at f;have G:xs[1]∈xs:=mQ _;obtain ⟨b,i,-⟩:=DataW.trod_bool hb e0;obtain ⟨v,d,zs,j,p,q,r,s,u⟩:=F0 (H:=H) (μ:=μ) y hn he B f;have q0:l=.bool b:=by simpa using i
  have q1:m=v:=by simpa using j
  clear i j;subst q0; subst q1;exact ⟨[.bool b,d],(b,zs),LR.cons (.bool _) (LR.cons p LR.nil),⟨d,rfl,q⟩,⟨r,s⟩,by rw [ex]; exact ⟨_,nC.2 ⟨_,G,rfl⟩,u⟩⟩
structure RowTys (P:Program) (tvs tv ti te:TypeId):Prop where
 vs:P.underlying tvs=some (.slice tv)
 cv:P.cellsOf tv=1
 v:P.underlying tv=some (.slice ti)
 ci:P.cellsOf ti=2
 i:∃ f0 f1:Field,P.underlying ti=some (.struct #[f0,f1])/\f0.offset=0/\f1.offset=1/\P.underlying f0.type=some .bool/\P.cellsOf f0.type=1/\P.underlying f1.type=some (.slice te)/\P.cellsOf f1.type=1
 e:P.underlying te=some (.int .u64)
 ce:P.cellsOf te=1
abbrev UW (H:Heap) (v:AV) (l:List (Bool × List Nat)):Prop:=SlV rawE aa H v l
def dZ (l:List (Bool × List Nat)):Prop:=(∀ z∈l,jE z)/\l.length<=maxLen
def AS {tvs tv ti te:TypeId} (a:RowTys P tvs tv ti te) (f:∀ c,c<w.heap.size->F c) {d:Nat} {cs:List Value} {x:DataW HT × List MemPlace} (h:DataW.trod enc P w base sp held d tv cs=some x) :
  ∃ v b l,cs=[v]/\VR μ F w b v/\UW H b l/\dZ l/\∀ z∈l,∃ y∈vw x.1,Fj y z:=by
 obtain ⟨f0,f1,m,n,o,p,q,r,s⟩:=a.i;obtain ⟨v,b,l,g,i,j,e,k,-⟩:=AR (E:=rawE) (ty:=aa) (H:=H) (μ:=μ) (good:=fun y z=>jE z/\Fj y z) f a.v a.ci (fun d cs x h=>Oa f m rfl n o a.ci p q r s a.e a.ce h) h;exact ⟨v,b,l,g,i,j,⟨fun z hz=>(e z hz).elim fun _ h=>h.2.1,k⟩,fun z hz=>(e z hz).imp fun y h=>⟨h.1,h.2.2⟩⟩
end
def aR (z:Bool × List Nat):Int:=if z.1=true then -(val z.2:Int) else (val z.2:Int)
def sS:∀ {z:Bool × List Nat},gG z=false->Lim z.2->bF (aR z)=z
 | (b,l),hb,hl=>by
  simp only [gG,Yq,decide_eq_false_iff_not,Bool.and_eq_false_iff] at hb;obtain ⟨h1,h2⟩:=hb;have hn:Np l:=h1;have a:=Wi hl hn;cases b with
  | false =>
   have e:aR (false,l)=(val l:Int):=rfl;rw [e];unfold bF;rw [decide_eq_false zO,Y7,a]
  | true =>
   have e:aR (true,l) = -(val l:Int):=rfl;have hne:l≠[]:=fun e=>by subst e; simp at h2
   have hp:0<B^(l.length-1):=Pm (by decide);have c:=At hn hne;rw [e];unfold bF;rw [decide_eq_true zO,ZN,Y7,a]
def SlV.int {ty:Nat} {H:Heap} {v:AV} {l:List (Bool × List Nat)} (h:SlV rawE ty H v l) (hb:∀ z∈l,gG z=false/\Lim z.2):SlV intE ty H v (l.map aR):=by
 obtain ⟨cells,hr,d,hc,ha⟩:=h;refine ⟨cells,hr,d,by rw [hc,rR]; rfl,fun i a hi=>?_⟩;rw [XA,wI] at hi;obtain ⟨z,hz,rfl⟩:=hi;obtain ⟨w,h1,h2⟩:=ha i z hz;have hm:=hb z (Cv hz);have e:=sS hm.1 hm.2;have b:decide (aR z<0)=z.1:=congrArg Prod.fst e;have c:ah (aR z).natAbs=z.2:=congrArg Prod.snd e;refine ⟨w,by rw [b]; exact h1,?_⟩;show Lb H w (ah (aR z).natAbs);rw [c]; exact h2
section
open Go.ChangeShapes Go.WideShapes
variable {HT:Type} {enc:TypeId × Value->HT} {P:Program} {w:World} {base base':Nat} {sp:Nat->Bool} {held:Bool} {μ:Mu} {F:Nat->Prop} {H:Heap}
def open_vec {tvs tv ti te:TypeId} (f:RowTys P tvs tv ti te) (i:∀ c,c<w.heap.size->F c) {r:Reach} {v:Value} {d:DataW HT} {ps:List MemPlace} (hval:Value.okWide P w r base' tv v) (hd:DataW.Trod enc P w base sp held tv v d ps) :
  ∃ b l,VR μ F w b v/\UW H b l/\dZ l/\∀ z∈l,∃ y∈vw d,Fj y z:=by
 obtain ⟨a,n,c,rfl⟩:=okWide_slice f.v hval;obtain ⟨k,h⟩:=hd;obtain ⟨j,b,l,e,g⟩:=AS (H:=H) (μ:=μ) f i h;have e:j=.slice a n c:=by simpa [Value.cells] using e.symm
 subst e;exact ⟨b,l,g⟩
end
def int_range {n:Int} (h:(Lit.int .i64 n).wf=true) : -9223372036854775808<=n/\n<9223372036854775808:=by
 have h1:IntKind.i64.min = -9223372036854775808:=by decide
 have h2:IntKind.i64.max=9223372036854775807:=by decide
 unfold Lit.wf at h;simp [h1,h2] at h;omega
def wf_nil:Wf (Heap.nil 0):=fun b e h=>by rw [Tr.nil_get] at h; cases h
def qX {z:Bool × List Nat} {n:Nat} (hl:Lim z.2) (hn:z.2.length<=n):Bt (64*n) (aR z):=by
 have h1:=xI hl;have h2:B^z.2.length<=B^n:=JR (by decide) hn;have h3:B^n=2^(64*n):=by
  have:B=2^64:=by decide
  rw [this,<- ZQ]
 unfold Bt aR;split
 ·rw [ZN,Y7]; omega
 ·rw [Y7]; omega
def Sh {α:Type} (E:fQ α) (ty:Nat):fQ (List α × Bool) where
 sz:=2
 tys:=ty :: E.tys
 R H cs z:=∃ v,cs=[v,.bool z.2]/\SlV E ty H v z.1
 pos:=zO
 len:=by rintro H cs z ⟨v,rfl,h⟩; exact ⟨rfl,by simp [h.one.2]; rfl⟩
 mono:=by rintro H H' cs z hs ⟨v,rfl,h⟩; exact ⟨v,rfl,h.monoT hs⟩
def Sd {α:Type} (E:fQ α) (ty:Nat):fQ (Nat × List α) where
 sz:=2
 tys:=ty :: E.tys
 R H cs z:=∃ v,cs=[.int .u8 (z.1:Int),v]/\SlV E ty H v z.2
 pos:=zO
 len:=by rintro H cs z ⟨v,rfl,h⟩; exact ⟨rfl,by simp [h.one.2]; rfl⟩
 mono:=by rintro H H' cs z hs ⟨v,rfl,h⟩; exact ⟨v,rfl,h.monoT hs⟩
abbrev conE:fQ (List Int × Bool):=Sh intE aa
abbrev conQE:fQ (List (Bool × List Nat) × Bool):=Sh rawE aa
abbrev genE:fQ (Nat × List Int):=Sd intE aa
abbrev genQE:fQ (Nat × List (Bool × List Nat)):=Sd rawE aa
section
variable {HT:Type} {enc:TypeId × Value->HT} {P:Program} {w:World} {base:Nat} {sp:Nat->Bool} {held:Bool} {μ:Mu} {F:Nat->Prop} {H:Heap}
structure ConTys (P:Program) (tcs tc tv:TypeId):Prop where
 cs:P.underlying tcs=some (.slice tc)
 cc:P.cellsOf tc=2
 c:∃ f0 f1:Field,P.underlying tc=some (.struct #[f0,f1])/\f0.offset=0/\f1.offset=1/\f0.type=tv/\P.underlying f1.type=some .bool/\P.cellsOf f1.type=1
def Oc {tcs tc tvs tv ti te:TypeId} (i:ConTys P tcs tc tv) (j:RowTys P tvs tv ti te) (t:∀ c,c<w.heap.size->F c) {p:Nat} {cs:List Value} {x:DataW HT × List MemPlace} (h:DataW.trod enc P w base sp held p tc cs=some x) :
  ∃ a z,LR μ F w a cs/\conQE.R H a z/\dZ z.1:=by
 obtain ⟨f0,f1,u,y,A,B,C,D⟩:=i.c;obtain ⟨xs,n,-,ex,hl,k,hx⟩:=DataW.trod_struct u h;have k:xs.length=2:=by simpa using k
 rw [i.cc] at hl
 match cs,hl with
 | [m,o],_ =>
  have e0:=hx 0 f0 rfl;have e:=hx 1 f1 rfl;rw [eA zO,y,B,j.cv] at e0;rw [eA zO,A,D] at e;obtain ⟨b,f,-⟩:=DataW.trod_bool C e;obtain ⟨v,d,l,g,q,r,s,-⟩:=AS (H:=H) (μ:=μ) j t e0;have q0:o=.bool b:=by simpa using f
  have q1:m=v:=by simpa using g
  clear f g;subst q0; subst q1;exact ⟨[d,.bool b],(l,b),LR.cons q (LR.cons (.bool _) LR.nil),⟨d,rfl,r⟩,s⟩
def LF {tcs tc tvs tv ti te:TypeId} (a:ConTys P tcs tc tv) (f:RowTys P tvs tv ti te) (e:∀ c,c<w.heap.size->F c) {d:Nat} {cs:List Value} {x:DataW HT × List MemPlace} (h:DataW.trod enc P w base sp held d tcs cs=some x) (ty:Nat) :
  ∃ v b l,cs=[v]/\VR μ F w b v/\SlV conQE ty H b l/\(∀ r∈l,dZ r.1)/\l.length<=maxLen :=
 QP (E:=conQE) (good:=fun z=>dZ z.1) e a.cs a.cc (fun d cs x h=>Oc a f e h) h
end
section
open Go.ChangeShapes Go.WideShapes
variable {HT:Type} {enc:TypeId × Value->HT} {P:Program} {w:World} {base base':Nat} {sp:Nat->Bool} {held:Bool} {μ:Mu} {F:Nat->Prop} {H:Heap}
def open_cons {tcs tc tvs tv ti te:TypeId} (f:ConTys P tcs tc tv) (j:RowTys P tvs tv ti te) (i:∀ c,c<w.heap.size->F c) {r:Reach} {v:Value} {d:DataW HT} {ps:List MemPlace} (hval:Value.okWide P w r base' tcs v) (hd:DataW.Trod enc P w base sp held tcs v d ps) (ty:Nat) :
  ∃ b l,VR μ F w b v/\SlV conQE ty H b l/\(∀ r∈l,dZ r.1)/\l.length<=maxLen:=by
 obtain ⟨a,n,c,rfl⟩:=okWide_slice f.cs hval;obtain ⟨m,h⟩:=hd;obtain ⟨k,b,l,e,g⟩:=LF (H:=H) (μ:=μ) f j i h ty;have e:k=.slice a n c:=by simpa [Value.cells] using e.symm
 subst e;exact ⟨b,l,g⟩
end
def PG {ty:Nat} {H:Heap} {v:AV} {l:List (List (Bool × List Nat) × Bool)} (h:SlV conQE ty H v l) (hb:∀ r∈l,∀ z∈r.1,gG z=false/\Lim z.2):SlV conE ty H v (l.map fun r=>(r.1.map aR,r.2)):=by
 obtain ⟨cells,hr,b,hc,ha⟩:=h;refine ⟨cells,hr,b,by rw [hc,rR]; rfl,fun i a hi=>?_⟩;rw [XA,wI] at hi;obtain ⟨z,hz,rfl⟩:=hi;obtain ⟨w,h1,h2⟩:=ha i z hz;exact ⟨w,h1,SlV.int h2 (hb z (Cv hz))⟩
end Go.Proofs.YteaefaohjlmjdaaGreat.Ev
namespace Go.Proofs.YteaefaohjlmjdaaGreat.Lin
def AZ (d:Nat):List V->V
 | []=>lJ d
 | a :: l=>mix 1 a 1 (AZ d l)
def We {d:Nat}:∀ {l:List V},(∀ a∈l,a.length=d)->(AZ d l).length=d
 | [],_=>by simp [AZ,lJ]
 | a :: l,h=>mix_length (h a (Al ..)) (We fun b hb=>h b (tZ _ hb))
def sP {d:Nat} {x:V}:∀ {l:List V},(∀ a∈l,a.length=d)->(∀ a∈l,dot x a=0)->dot x (AZ d l)=0
 | [],_,_=>kN x d
 | a :: l,hl,h=>by
  have h1:=sP (x:=x) (l:=l) (fun b hb=>hl b (tZ _ hb)) fun b hb=>h b (tZ _ hb);have h2:=h a (Al ..);have e:=We (d:=d) (l:=l) fun b hb=>hl b (tZ _ hb);rw [AZ,aU _ _ _ ((hl a (Al ..)).trans e.symm)];omega
def yS {d:Nat} {x:V}:∀ {l:List V},(∀ a∈l,a.length=d)->(∀ a∈l,0<=dot x a)->0<=dot x (AZ d l)/\((∃ a∈l,dot x a≠0)->1<=dot x (AZ d l))
 | [],_,_=>⟨by rw [AZ,kN]; exact Yx _,fun ⟨a,ha,_⟩=>by cases ha⟩
 | a :: l,hl,h=>by
  obtain ⟨h1,h3⟩:=yS (x:=x) (l:=l) (fun b hb=>hl b (tZ _ hb)) fun b hb=>h b (tZ _ hb);have h2:=h a (Al ..);have e:=We (d:=d) (l:=l) fun b hb=>hl b (tZ _ hb);rw [AZ,aU _ _ _ ((hl a (Al ..)).trans e.symm)];refine ⟨zO,?_⟩;rintro ⟨b,hb,hn⟩;rcases FC.1 hb with rfl | hb
  ·omega
  ·have:=h3 ⟨b,hb,hn⟩
   omega
def Iu {d:Nat} {E I:V->Prop} {L R:List V} (h:An d E I L R) {r s:V} (hr:r∈R) (hs:s∈R) (hne:s≠r):∃ i,I i/\dot i r=0/\dot i s≠0:=by
 apply Nw
 intro n;have c:=h.dd.keep r hr;have o:=h.dd.keep s hs;have e:=h.dd.lenR s hs;obtain ⟨k1,g,k,p,f⟩:=h.dd.ext r hr s o fun i hi hz=>Nw fun hn=>n ⟨i,hi,hz,hn⟩;have q:g≠0:=fun e0=>by
  subst e0;obtain ⟨b,j,m⟩:=h.dd.off s hs
  have:=Con.dot_zero (a:=b) h.dd.lenL (fun r h=>h.elim) (fun l hl=>h.dd.lineI l hl b j) (fun r h=>h.elim) f
  rw [aU _ _ _ (e.trans c.len.symm)] at this;rcases Jv.1 (show k1*dot b s=0 by omega) with h1 | h1
  ·omega
  ·exact m h1
 have:s=r:=yT h.form e c.len (fun l hl=>h.rest s hs l hl) (fun l hl=>h.rest r hr l hl) (h.cont s hs) (h.cont r hr) k zO f
 exact hne this
def Ba (f:V->Int):∀ S:List V,∃ N:Int,0<=N/\∀ s∈S,f s<=N
 | []=>⟨0,Yx _,fun s h=>by cases h⟩
 | a :: S=>by
  obtain ⟨N,h0,b⟩:=Ba f S;refine ⟨N+(f a).natAbs,zO,fun s hs=>?_⟩;rcases FC.1 hs with rfl | hs
  ·omega
  ·have:=b s hs; omega
def unitC (n:Nat) (k:Int):V:=k :: List.replicate n 0
def hd1 (r:V):Int:=r.headD 0
def eqsOf (l:List (V × Bool)):List V:=(l.filter fun c=>c.2).map fun c=>c.1
def ineqsOf (n:Nat) (l:List (V × Bool)):List V:=unitC n 1 :: (l.filter fun c=>!c.2).map fun c=>c.1
def kindOf (r:V):Nat:=if 0<hd1 r then 3 else 2
def gensP (n:Nat) (l:List (V × Bool)):List (Nat × V) :=
 if (gensR (n+1) (eqsOf l) (ineqsOf n l)).any (fun r=>decide (0<hd1 r)) then
  (gensL (n+1) (eqsOf l) (ineqsOf n l)).map (fun r=>(1,r))++(gensR (n+1) (eqsOf l) (ineqsOf n l)).map fun r=>(kindOf r,r)
 else []
def linesOf (g:List (Nat × V)):List V:=(g.filter fun x=>x.1 == 1).map fun x=>x.2
def raysOf (g:List (Nat × V)):List V:=(g.filter fun x=>!(x.1 == 1)).map fun x=>x.2
def consP (n:Nat) (g:List (Nat × V)):List (V × Bool) :=
 if g.any (fun x=>x.1 == 3) then
  (gensL (n+1) (linesOf g) (raysOf g)).map (fun r=>(r,true))++((gensR (n+1) (linesOf g) (raysOf g)).filter fun r=>!decide (r=unitC n 1)).map fun r=>(r,false)
 else [(unitC n (-1),false)]
def keepsP (c:V × Bool) (g:Nat × V):Bool:=if c.2 || g.1 == 1 then decide (dot c.1 g.2=0) else decide (0<=dot c.1 g.2)
def unitC_len (n:Nat) (k:Int):(unitC n k).length=n+1:=by simp [unitC]
def yu:∀ (n:Nat) (x:V),dot (List.replicate n 0) x=0
 | 0,x=>by simp [dot]
 | n+1,[]=>by simp [dot]
 | n+1,a :: x=>by
  have:=yu n x
  rw [Ya];simp [dot] at this ⊢;exact this
def fl {n:Nat} {k:Int} {x:V}:dot (unitC n k) x=k*hd1 x:=by
 cases x with
 | nil=>simp [unitC,dot,hd1]
 | cons a x =>
  have:=yu n x
  simp [unitC,dot,hd1,this]
section
variable {n:Nat} {l:List (V × Bool)}
def eqs_len (h:∀ c∈l,c.1.length=n+1):∀ a∈eqsOf l,a.length=n+1:=fun a ha=>by
 obtain ⟨c,hc,rfl⟩:=nC.1 ha;exact h c (C4.1 hc).1
def ineqs_len (h:∀ c∈l,c.1.length=n+1):∀ a∈ineqsOf n l,a.length=n+1:=fun a ha=>by
 rcases FC.1 ha with rfl | ha
 ·exact unitC_len n 1
 ·obtain ⟨c,hc,rfl⟩:=nC.1 ha;exact h c (C4.1 hc).1
def mem_eqs {a:V}:a∈eqsOf l ↔ (a,true)∈l:=by
 constructor
 ·intro h;obtain ⟨⟨r,b⟩,hc,rfl⟩:=nC.1 h;obtain ⟨h1,h2⟩:=C4.1 hc;simp only at h2;subst h2;exact h1
 ·intro h;exact nC.2 ⟨(a,true),C4.2 ⟨h,rfl⟩,rfl⟩
def mem_ineqs {a:V}:a∈ineqsOf n l ↔ a=unitC n 1\/(a,false)∈l:=by
 unfold ineqsOf;rw [FC];refine or_congr Z7 ?_;constructor
 ·intro h;obtain ⟨⟨r,b⟩,hc,rfl⟩:=nC.1 h;obtain ⟨h1,h2⟩:=C4.1 hc;cases b with
  | false=>exact h1
  | true=>simp at h2
 ·intro h;exact nC.2 ⟨(a,false),C4.2 ⟨h,rfl⟩,rfl⟩
abbrev qq (n:Nat) (l:List (V × Bool)) (x:V):Prop:=Keep (n+1) (· ∈ eqsOf l) (· ∈ ineqsOf n l) x
def keepP_iff {x:V}:qq n l x ↔ x.length=n+1/\0<=hd1 x/\∀ c∈l,(c.2=true->dot c.1 x=0)/\(c.2=false->0<=dot c.1 x):=by
 constructor
 ·intro h;have h1:=h.ge (unitC n 1) (mem_ineqs.2 (.inl rfl));rw [fl] at h1;refine ⟨h.len,zO,fun ⟨r,b⟩ hc=>⟨fun hb=>?_,fun hb=>?_⟩⟩
  ·simp only at hb; subst hb; exact h.eq r (mem_eqs.2 hc)
  ·simp only at hb; subst hb; exact h.ge r (mem_ineqs.2 (.inr hc))
 ·rintro ⟨h1,h2,h3⟩;refine ⟨h1,fun a ha=>(h3 _ (mem_eqs.1 ha)).1 rfl,fun a ha=>?_⟩;rcases mem_ineqs.1 ha with rfl | ha
  ·rw [fl]; omega
  ·exact (h3 _ ha).2 rfl
def Ju {a:List (V × Bool)} (h:∀ c∈l,c.1.length=n+1) (h':∀ c∈a,c.1.length=n+1) (hs:∀ x,qq n l x ↔ qq n a x):gensP n l=gensP n a:=by
 obtain ⟨b,d⟩:=qY (gens_told (eqs_len h) (ineqs_len h)) (gens_told (eqs_len h') (ineqs_len h')) hs;unfold gensP;rw [b,d]
def O8 (h:∀ c∈l,c.1.length=n+1) {r:V} (hr:r∈gensL (n+1) (eqsOf l) (ineqsOf n l)):qq n l r/\qq n l (scl (-1) r):=by
 have t:=gens_told (eqs_len h) (ineqs_len h);refine ⟨⟨t.dd.lenL r hr,fun e he=>t.dd.lineE r hr e he,fun i hi=>by rw [t.dd.lineI r hr i hi]; exact Yx _⟩,⟨aj (t.dd.lenL r hr),fun e he=>by rw [dot_scl,t.dd.lineE r hr e he]; rfl,fun i hi=>by rw [dot_scl,t.dd.lineI r hr i hi]; exact Yx _⟩⟩
def OC (h:∀ c∈l,c.1.length=n+1) {r:V} (hr:r∈gensR (n+1) (eqsOf l) (ineqsOf n l)):qq n l r:=(gens_told (eqs_len h) (ineqs_len h)).dd.keep r hr
def P2 (n:Nat) (l:List (V × Bool)) (c:V × Bool):Prop:=∀ x,qq n l x->(c.2=true->dot c.1 x=0)/\0<=dot c.1 x
def xH {c:V × Bool} (hc:c∈l):P2 n l c:=fun x hx=>by
 have h1:=(keepP_iff.1 hx).2.2 c hc;refine ⟨h1.1,?_⟩;cases hb:c.2 with
 | false=>exact h1.2 hb
 | true=>rw [h1.1 hb]; exact Yx _
def qc {c:V × Bool} {g:Nat × V} (hc:P2 n l c) (hg:qq n l g.2) (hl:g.1=1->qq n l (scl (-1) g.2)):keepsP c g=true:=by
 have h1:=hc _ hg;unfold keepsP;cases hb:c.2 with
 | true=>simp [h1.1 hb]
 | false =>
  by_cases a:g.1=1
  ·have h2:=(hc _ (hl a)).2;rw [dot_scl] at h2;simp [a]; omega
  ·simp [a]; exact h1.2
def qi (h:∀ c∈l,c.1.length=n+1) {g:Nat × V} (hg:g∈gensP n l):qq n l g.2/\(g.1=1->qq n l (scl (-1) g.2)):=by
 unfold gensP at hg;split at hg
 ·rcases Eu.1 hg with hg | hg
  ·obtain ⟨r,hr,rfl⟩:=nC.1 hg;exact ⟨(O8 h hr).1,fun _=>(O8 h hr).2⟩
  ·obtain ⟨r,hr,rfl⟩:=nC.1 hg;refine ⟨OC h hr,fun e=>?_⟩;have e:kindOf r=1:=e;unfold kindOf at e;split at e <;> omega
 ·cases hg
theorem KF (r:V):(kindOf r == 1)=false:=by unfold kindOf; split <;> rfl
def m6 (hs:(gensR (n+1) (eqsOf l) (ineqsOf n l)).any (fun r=>decide (0<hd1 r))=true) :
  linesOf (gensP n l)=gensL (n+1) (eqsOf l) (ineqsOf n l)/\raysOf (gensP n l)=gensR (n+1) (eqsOf l) (ineqsOf n l)/\(gensP n l).any (fun x=>x.1 == 3)=true:=by
 unfold gensP;rw [if_pos hs];refine ⟨?_,?_,?_⟩
 ·unfold linesOf;rw [XY,List.filter_eq_self.2,List.filter_eq_nil_iff.2,X5,YV]
  ·exact ZZ _
  ·intro x hx;obtain ⟨r,-,rfl⟩:=nC.1 hx;simp [KF]
  ·intro x hx;obtain ⟨r,-,rfl⟩:=nC.1 hx;rfl
 ·unfold raysOf;rw [XY,List.filter_eq_nil_iff.2,List.filter_eq_self.2,Y0,YV]
  ·exact ZZ _
  ·intro x hx;obtain ⟨r,-,rfl⟩:=nC.1 hx;simp [KF]
  ·intro x hx;obtain ⟨r,-,rfl⟩:=nC.1 hx
   simp
 ·rw [OL] at hs ⊢;obtain ⟨r,hr,h0⟩:=hs;refine ⟨(kindOf r,r),XV _ (nC.2 ⟨r,hr,rfl⟩),?_⟩;have h0:0<hd1 r:=of_decide_eq_true h0;simp [kindOf,h0]
def pk {g:List (Nat × V)} (h3:g.any (fun x=>x.1 == 3)=true) (x:V):qq n (consP n g) x ↔ 0<=hd1 x/\Keep (n+1) (· ∈ gensL (n+1) (linesOf g) (raysOf g)) (· ∈ gensR (n+1) (linesOf g) (raysOf g)) x:=by
 rw [keepP_iff];unfold consP;rw [if_pos h3];constructor
 ·rintro ⟨q1,q2,q3⟩;refine ⟨q2,q1,fun a ha=>(q3 (a,true) (XF _ (nC.2 ⟨a,ha,rfl⟩))).1 rfl,fun b hb=>?_⟩;by_cases f:b=unitC n 1
  ·rw [f,fl]; omega
  ·exact (q3 (b,false) (XV _ (nC.2 ⟨b,C4.2 ⟨hb,by simp [f]⟩,rfl⟩))).2 rfl
 ·rintro ⟨q2,d⟩;refine ⟨d.len,q2,fun c hc=>?_⟩;rcases Eu.1 hc with hc | hc
  ·obtain ⟨a,ha,rfl⟩:=nC.1 hc;exact ⟨fun _=>d.eq a ha,fun e=>by cases e⟩
  ·obtain ⟨b,hb,rfl⟩:=nC.1 hc;exact ⟨(fun e=>by cases e),fun _=>d.ge b (C4.1 hb).1⟩
def jG {g:List (Nat × V)} (hg:∀ x∈g,x.2.length=n+1):∀ c∈consP n g,c.1.length=n+1:=by
 have d:∀ a∈linesOf g,a.length=n+1:=fun a ha=>by obtain ⟨x,hx,rfl⟩:=nC.1 ha; exact hg x (C4.1 hx).1
 have e:∀ a∈raysOf g,a.length=n+1:=fun a ha=>by obtain ⟨x,hx,rfl⟩:=nC.1 ha; exact hg x (C4.1 hx).1
 intro c hc;unfold consP at hc;split at hc
 ·rcases Eu.1 hc with hc | hc
  ·obtain ⟨a,ha,rfl⟩:=nC.1 hc;exact MC d e a ha
  ·obtain ⟨b,hb,rfl⟩:=nC.1 hc;exact MB d e b (C4.1 hb).1
 ·rw [Ld] at hc;subst hc;exact unitC_len n (-1)
def ts (h:∀ c∈l,c.1.length=n+1):∀ x∈gensP n l,x.2.length=n+1:=fun x hx=>(qi h hx).1.len
def Bz (h:∀ c∈l,c.1.length=n+1) (hs:(gensR (n+1) (eqsOf l) (ineqsOf n l)).any (fun r=>decide (0<hd1 r))=true) (x:V):qq n (consP n (gensP n l)) x ↔ qq n l x:=by
 obtain ⟨p1,p2,p3⟩:=m6 hs;rw [pk p3,p1,p2];have t1:=gens_told (eqs_len h) (ineqs_len h);have b:=gens_told t1.dd.lenL t1.dd.lenR;have hd:=DL (eqs_len h) (ineqs_len h) t1.dd b.dd x;constructor
 ·rintro ⟨-,a⟩; exact hd.2 a
 ·intro a; exact ⟨(keepP_iff.1 a).2.1,hd.1 a⟩
def uL:gensP n [(unitC n (-1),false)]=[]:=by
 have hl:∀ c∈[(unitC n (-1),false)],c.1.length=n+1:=fun c hc=>by rw [Ld] at hc; subst hc; exact unitC_len n (-1)
 unfold gensP;rw [if_neg];intro hs;rw [OL] at hs;obtain ⟨r,hr,h0⟩:=hs;have h0:0<hd1 r:=of_decide_eq_true h0
 have:=((keepP_iff.1 (OC hl hr)).2.2 _ (Ld.2 rfl)).2 rfl
 rw [fl] at this;omega
def L8 (h:∀ c∈l,c.1.length=n+1):gensP n (consP n (gensP n l))=gensP n l:=by
 by_cases hs:(gensR (n+1) (eqsOf l) (ineqsOf n l)).any (fun r=>decide (0<hd1 r))=true
 ·exact Ju (jG (ts h)) h (Bz h hs)
 ·have e:gensP n l=[]:=by unfold gensP; rw [if_neg hs]
  rw [e];exact uL
def poly_keeps (h:∀ c∈l,c.1.length=n+1) {g:Nat × V} (hg:g∈gensP n l) {c:V × Bool} (hc:c∈l\/c∈consP n (gensP n l)):keepsP c g=true:=by
 obtain ⟨k1,k2⟩:=qi h hg;refine qc (l:=l) ?_ k1 k2;rcases hc with hc | hc
 ·exact xH hc
 ·have hs:(gensR (n+1) (eqsOf l) (ineqsOf n l)).any (fun r=>decide (0<hd1 r))=true:=by
   cases hs:(gensR (n+1) (eqsOf l) (ineqsOf n l)).any (fun r=>decide (0<hd1 r)) with
   | true=>rfl
   | false =>
    unfold gensP at hg;rw [if_neg (by rw [hs]; decide)] at hg;cases hg
  exact fun x hx=>xH hc x ((Bz h hs x).2 hx)
def IT (hne:gensP n l≠[]):(gensP n l).any (fun x=>x.1 == 3)=true:=by
 cases hs:(gensR (n+1) (eqsOf l) (ineqsOf n l)).any (fun r=>decide (0<hd1 r)) with
 | true=>exact (m6 hs).2.2
 | false=>exact absurd (by unfold gensP; rw [if_neg (by rw [hs]; decide)]) hne
def ValidG (n:Nat) (g:List (Nat × V)):Prop:=∀ x∈g,x.2.length=n+1/\(x.1=3->0<hd1 x.2)/\(x.1≠3->hd1 x.2=0)
def mem_lines {g:List (Nat × V)} {r:V}:r∈linesOf g ↔ (1,r)∈g:=by
 constructor
 ·intro h;obtain ⟨⟨k,a⟩,hc,rfl⟩:=nC.1 h;obtain ⟨h1,h2⟩:=C4.1 hc;have h2:k=1:=by simpa using h2
  subst h2;exact h1
 ·intro h;exact nC.2 ⟨(1,r),C4.2 ⟨h,rfl⟩,rfl⟩
def mem_rays {g:List (Nat × V)} {r:V}:r∈raysOf g ↔ ∃ k,k≠1/\(k,r)∈g:=by
 constructor
 ·intro h;obtain ⟨⟨k,a⟩,hc,rfl⟩:=nC.1 h;obtain ⟨h1,h2⟩:=C4.1 hc;exact ⟨k,by simpa using h2,h1⟩
 ·rintro ⟨k,b,h⟩;exact nC.2 ⟨(k,r),C4.2 ⟨h,by simpa using b⟩,rfl⟩
def oQ {g:List (Nat × V)} (hg:ValidG n g) (h3:g.any (fun x=>x.1 == 3)=true) {x:Nat × V} (hx:x∈g):qq n (consP n g) x.2/\(x.1=1->qq n (consP n g) (scl (-1) x.2)):=by
 have d:∀ a∈linesOf g,a.length=n+1:=fun a ha=>(hg _ (mem_lines.1 ha)).1;have f:∀ a∈raysOf g,a.length=n+1:=fun a ha=>by obtain ⟨k,-,h⟩:=mem_rays.1 ha; exact (hg _ h).1
 have t:=gens_told d f;obtain ⟨h1,h2,h4⟩:=hg x hx;rw [pk h3,pk h3];obtain ⟨k,r⟩:=x;by_cases c:k=1
 ·subst c;have hm:=mem_lines.2 hx;have h5:hd1 r=0:=h4 (show ¬ (1:Nat)=3 by omega);have h6:hd1 (scl (-1) r)=0:=by
   cases r with
   | nil=>rfl
   | cons a r=>simp [scl,hd1] at h5 ⊢; exact h5
  refine ⟨⟨by rw [h5]; exact Yx _,⟨h1,fun a ha=>?_,fun b hb=>?_⟩⟩,fun _=>⟨by rw [h6]; exact Yx _,⟨aj h1,fun a ha=>?_,fun b hb=>?_⟩⟩⟩
  ·rw [dot_comm]; exact t.dd.lineE a ha r hm
  ·rw [dot_comm,(t.dd.keep b hb).eq r hm]; exact Yx _
  ·rw [dot_scl,dot_comm,t.dd.lineE a ha r hm]; rfl
  ·rw [dot_scl,dot_comm,(t.dd.keep b hb).eq r hm]; exact Yx _
 ·have hm:=mem_rays.2 ⟨k,c,hx⟩;refine ⟨⟨?_,⟨h1,fun a ha=>?_,fun b hb=>?_⟩⟩,fun e=>absurd e c⟩
  ·by_cases h:k=3
   ·have:0<hd1 r:=h2 h
    show 0<=hd1 r;omega
   ·have:hd1 r=0:=h4 h
    show 0<=hd1 r;omega
  ·rw [dot_comm]; exact t.dd.lineI a ha r hm
  ·rw [dot_comm]; exact (t.dd.keep b hb).ge r hm
def GZ (h:∀ c∈l,c.1.length=n+1):ValidG n (gensP n l):=fun x hx=>by
 refine ⟨ts h x hx,fun e=>?_,fun e=>?_⟩
 ·unfold gensP at hx;split at hx
  ·rcases Eu.1 hx with hx | hx
   ·obtain ⟨r,-,rfl⟩:=nC.1 hx;cases e
   ·obtain ⟨r,-,rfl⟩:=nC.1 hx;have e:kindOf r=3:=e;unfold kindOf at e;split at e
    ·assumption
    ·omega
  ·cases hx
 ·obtain ⟨k1,k2⟩:=qi h hx;have p1:=(keepP_iff.1 k1).2.1;unfold gensP at hx;split at hx
  ·rcases Eu.1 hx with hx | hx
   ·obtain ⟨r,-,rfl⟩:=nC.1 hx;have p2:=(keepP_iff.1 (k2 rfl)).2.1;cases r with
    | nil=>rfl
    | cons a r=>simp [scl,hd1] at p1 p2 ⊢; omega
   ·obtain ⟨r,-,rfl⟩:=nC.1 hx;have e:¬ kindOf r=3:=e;unfold kindOf at e;split at e
    ·omega
    ·have p1:0<=hd1 r:=p1;show hd1 r=0;omega
  ·cases hx
end
end Go.Proofs.YteaefaohjlmjdaaGreat.Lin
namespace Go.Proofs.YteaefaohjlmjdaaGreat.Ev
open Go Nn
section
variable {tab:Nat->Option aA} {H:Heap} {s:AV}
def Dd (C:Code tab) (z:Wf H) {α:Type} {E:fQ α} {ty fi:Nat} {first caps:List AV} {l:List α} (q:E.sz=2) (hs:SlV E ty H s l) (w:l.length<4611686018427387904) (p:α->Bool)
  (r:∀ a∈l,∀ H' cs,Kp H H'->E.R H' cs a->Ans tab (.fn fi (first++[.agg cs]++caps)) H' fun v H2=>v=.bool (p a)/\Kp H' H2) :
  Ans tab (.fn ck [s,.fn (.func fi) first caps]) H fun v H'=>v=.int .i64 (nI p l)/\Kp H H':=by
 refine bA C.q103 zU fun T hl c d=>?_;refine zW (aO hl c d hs.lenV) ?_;refine aq H [] (fun j _ _=>∀ k (h:k<l.length),k<j->p l[k]=false) (a:=0) (N:=l.length) rfl (by refine zW (aD hl c d) ?_; rfl) (zV (aD hl c d)) (xq _) zO (by simp only [dz,hl]; rfl) rfl (fun _ _ _ _ h=>h) zK (fun k _ h=>by omega) ?_ ?_
 ·intro j T1 m _ hj b t i g f;have w1:=g.wf;have A:=g.le;have t0:ad T1 0=s:=(i.at_ 0 zU).trans (zV (aE hl c));have t1:ad T1 1=.fn (.func fi) first caps:=(i.at_ 1 zU).trans (zV (aO hl c d d))
  obtain ⟨cs,hr,y,-,o⟩:=(hs.mono g.sub).at (eA hj);have n:=SlV.idx hs .i64 j hj;rw [q] at o n;simp only [dz,hl] at b;refine zW (dj b t0 t1 t n o) ?_;refine AnsH.eq (r _ (mQ hj) _ cs zK (E.mono ((zG m).t _) hr)) fun H2 u=>?_;obtain ⟨k2,_,_⟩:=zT H zK u;cases hp:p l[j] with
  | true =>
   refine zW b ?_;exact ⟨by rw [tp hj f hp],zK⟩
  | false =>
   refine zW b ?_;refine ⟨zK,fun k h x=>?_⟩;by_cases e:k=j
   ·subst e; exact hp
   ·exact f k h zO
 ·intro T1 m b i g f;simp only [dz,hl] at b;refine zW b ?_;exact ⟨by rw [qg fun k h=>f k h h],zK⟩
def pC (C:Code tab) (i:Wf H) {α:Type} {E:fQ α} {ty fi:Nat} {first caps:List AV} {l:List α} (d:E.sz=2) (hs:SlV E ty H s l) (e:l.length<4611686018427387904) (p:α->Bool)
  (f:∀ a∈l,∀ H' cs,Kp H H'->E.R H' cs a->Ans tab (.fn fi (first++[.agg cs]++caps)) H' fun v H2=>v=.bool (p a)/\Kp H' H2) :
  Ans tab (.fn bR [s,.fn (.func fi) first caps]) H fun v H'=>v=.bool (l.any p)/\Kp H H':=by
 refine bA C.q68 zU fun T hl b c=>?_;refine zW (aD hl b c) ?_;refine AnsH.eq (Dd C zF d (hs.mono (zG H)) e p fun a ha H' cs g hr=>f a ha H' cs (Kp.trans (H:=H) zK g) hr) fun H2 h=>?_;obtain ⟨k2,_,_⟩:=zT H zK h;refine zW (aD hl b c) ?_;exact ⟨by rw [tq],zK⟩
def Dc (C:Code tab) (z:Wf H) {α:Type} {E:fQ α} {ty fi:Nat} {first caps:List AV} {l:List α} (q:E.sz=2) (hs:SlV E ty H s l) (w:l.length<4611686018427387904) (p:α->Bool)
  (r:∀ a∈l,∀ H' cs,Kp H H'->E.R H' cs a->Ans tab (.fn fi (first++[.agg cs]++caps)) H' fun v H2=>v=.bool (p a)/\Kp H' H2) :
  Ans tab (.fn cj [s,.fn (.func fi) first caps]) H fun v H'=>v=.int .i64 (nI p l)/\Kp H H':=by
 refine bA C.q119 zU fun T hl c d=>?_;refine zW (aO hl c d hs.lenV) ?_;refine aq H [] (fun j _ _=>∀ k (h:k<l.length),k<j->p l[k]=false) (a:=0) (N:=l.length) rfl (by refine zW (aD hl c d) ?_; rfl) (zV (aD hl c d)) (xq _) zO (by simp only [dz,hl]; rfl) rfl (fun _ _ _ _ h=>h) zK (fun k _ h=>by omega) ?_ ?_
 ·intro j T1 m _ hj b t i g f;have w1:=g.wf;have A:=g.le;have t0:ad T1 0=s:=(i.at_ 0 zU).trans (zV (aE hl c));have t1:ad T1 1=.fn (.func fi) first caps:=(i.at_ 1 zU).trans (zV (aO hl c d d))
  obtain ⟨cs,hr,y,-,o⟩:=(hs.mono g.sub).at (eA hj);have n:=SlV.idx hs .i64 j hj;rw [q] at o n;simp only [dz,hl] at b;refine zW (dj b t0 t1 t n o) ?_;refine AnsH.eq (r _ (mQ hj) _ cs zK (E.mono ((zG m).t _) hr)) fun H2 u=>?_;obtain ⟨k2,_,_⟩:=zT H zK u;cases hp:p l[j] with
  | true =>
   refine zW b ?_;exact ⟨by rw [tp hj f hp],zK⟩
  | false =>
   refine zW b ?_;refine ⟨zK,fun k h x=>?_⟩;by_cases e:k=j
   ·subst e; exact hp
   ·exact f k h zO
 ·intro T1 m b i g f;simp only [dz,hl] at b;refine zW b ?_;exact ⟨by rw [qg fun k h=>f k h h],zK⟩
def pB (C:Code tab) (i:Wf H) {α:Type} {E:fQ α} {ty fi:Nat} {first caps:List AV} {l:List α} (d:E.sz=2) (hs:SlV E ty H s l) (e:l.length<4611686018427387904) (p:α->Bool)
  (f:∀ a∈l,∀ H' cs,Kp H H'->E.R H' cs a->Ans tab (.fn fi (first++[.agg cs]++caps)) H' fun v H2=>v=.bool (p a)/\Kp H' H2) :
  Ans tab (.fn bQ [s,.fn (.func fi) first caps]) H fun v H'=>v=.bool (l.any p)/\Kp H H':=by
 refine bA C.q88 zU fun T hl b c=>?_;refine zW (aD hl b c) ?_;refine AnsH.eq (Dc C zF d (hs.mono (zG H)) e p fun a ha H' cs g hr=>f a ha H' cs (Kp.trans (H:=H) zK g) hr) fun H2 h=>?_;obtain ⟨k2,_,_⟩:=zT H zK h;refine zW (aD hl b c) ?_;exact ⟨by rw [tq],zK⟩
def nd (C:Code tab) (g:Wf H) {l:List Int} (hs:RowV H s l) (hz:∀ z∈l,dD z):Ans tab (.fn pX [s]) H fun v H'=>v=.int .i64 (gJ (Lin.hd1 l))/\Kp H H':=by
 refine cT C.q74 zU fun T hl b=>?_;cases l with
 | nil =>
  have ls:lenV s=some (.int .i64 0):=hs.lenV;refine zW (aD hl b ls) ?_;exact ⟨rfl,zK⟩
 | cons a l =>
  have ls:lenV s=some (.int .i64 ((l.length+1:Nat):Int)):=hs.lenV;have hne:¬ ((l.length+1:Nat):Int)=0:=zO;have d:0<(a :: l).length:=by simp
  obtain ⟨w,hn,c,-,-⟩:=iZ hs d;have e:cS 2 s (.int .i64 0)=some (aB s 0):=SlV.idx hs .i64 0 d;have c:bk H (some 2) (aB s 0)=some (.agg [.bool (decide (a<0)),w]):=c;have hn:bO H w a.natAbs:=hn;refine zW (dj hl b ls hne e c) ?_;refine AnsH.eq (pD C (x:=a) zF ⟨w,rfl,hn.mono (zG H)⟩ (hz a (by simp))) fun H2 f=>?_;obtain ⟨k2,_,_⟩:=zT H zK f;refine zW (aE hl b) ?_;exact ⟨rfl,zK⟩
def zm (C:Code tab) (d:Wf H) {v:AV} {b:Bool} (ov:One v):Ans tab (.fn e9 [.agg [v,.bool b]]) H fun x H'=>x=v/\Kp H H':=by
 have c:fW (.agg [v,.bool b])=some [v,.bool b]:=by simp [fW,AV.cells,ov.2]; rfl
 refine cT C.q40 zU fun T hl a=>?_;refine zW (aD hl a c) ?_;exact zK
def zk (C:Code tab) (c:Wf H) {v:AV} {k:Int} (ov:One v):Ans tab (.fn eZ [.agg [.int .u8 k,v]]) H fun x H'=>x=v/\Kp H H':=by
 have b:fW (.agg [.int .u8 k,v])=some [.int .u8 k,v]:=by simp [fW,AV.cells,ov.2]; rfl
 refine cT C.q55 zU fun T hl a=>?_;refine zW (aD hl a b) ?_;exact zK
def MM (C:Code tab) (d:Wf H) {v:AV} {b:Bool} (ov:One v):Ans tab (.fn kW [.agg [v,.bool b]]) H fun x H'=>x=.bool false/\Kp H H':=by
 have c:fW (.agg [v,.bool b])=some [v,.bool b]:=by simp [fW,AV.cells,ov.2]; rfl
 refine cT C.q41 zU fun T hl a=>?_;refine zW (aD hl a c) ?_;exact zK
def IB (x:Int):0<=gJ x ↔ 0<=x:=by unfold gJ; split <;> (try split) <;> omega
def yq (C:Code tab) (F:Wf H) {n:Nat} {k:Int} (hn:n<=60) (y : -9223372036854775808<=k) (f:k<9223372036854775808) :
  Ans tab (.fn rI [.int .i64 (n:Int),.int .i64 k]) H fun v H'=>RowV H' v (Lin.unitC n k)/\Kp H H':=by
 obtain ⟨cells,l⟩:∃ cells,cells=(List.replicate (n+1) [AV.bool false,AV.nilSl]).flatten:=⟨_,rfl⟩
 have z:∀ H':Heap,Ja H' (H.next+3) aa 2 32 [.bool false,.nilSl] (.int .i64 ((n+1:Nat):Int)) (.int .i64 ((n+1:Nat):Int))=some (.own (H.next+3) 0 (n+1) (n+1) 2 true,H'.put (H.next+3) (.cells cells aa true)):=fun H'=>by rw [l]; exact iS _ _ _ _ _ _ _ _ _ zO zO rfl
 have t:IntKind.i64.wrap ((n:Int)+1)=((n+1:Nat):Int):=by rw [wrap_i64] <;> omega
 refine bA C.q70 zU fun T hl m o=>?_;refine zW (bB hl m o t z) ?_;refine AnsH.use (jk C (n:=k) zF y f) ?_;rintro v H2 ⟨⟨w,rfl,r⟩,f⟩;obtain ⟨k2,_,B⟩:=zT H zK f;have A:=r.one;have h:=f.get (b:=H.next+3) (e:=.cells cells aa true) (cC);have G:=B _ _ h;have D:cells.length=(n+1)*2:=by rw [l]; simp
 have s:CS (some (.cells cells aa true)) 2 0 (.agg [.bool (decide (k<0)),w])=some (.cells (cells.take 0++[.bool (decide (k<0)),w]++cells.drop (0+2)) aa true):=fR (zg (ai _) A) zO;have x:cS 2 (.own (H.next+3) 0 (n+1) (n+1) 2 true) (.int .i64 0)=some (.ptr (H.next+3) 0):=jB (j:=0) zO;obtain ⟨d,p⟩:∃ c,c=cells.take 0++[.bool (decide (k<0)),w]++cells.drop (0+2):=⟨_,rfl⟩
 rw [<- p] at s;have hz:intE.R H2 [.bool false,.nilSl] 0:=⟨.nilSl,by simp,eO H2⟩
 have hcl:Cells intE H2 cells (List.replicate (n+1) 0):=by rw [l]; exact mm hz _
 have q:Cells intE H2 d ((List.replicate (n+1) 0).set 0 k):=by rw [p]; exact hcl.set (i:=0) (by simp) ⟨w,rfl,r⟩
 have m3:NoTy [ae] H2 (H.next+3):=NoTy.ty h zU;refine zW (dj hl m o x h s) ?_;refine ⟨?_,zK⟩;have e:(List.replicate (n+1) (0:Int)).set 0 k=Lin.unitC n k:=by rw [Ya]; rfl
 rw [e] at q;obtain ⟨a,g⟩:∃ a,a=(H2.up 2).put (H.next+3) (.cells d aa true):=⟨_,rfl⟩
 have u:Cells intE a d (Lin.unitC n k):=by rw [g]; exact Cells.mono (E:=intE) zS q
 have:Own intE aa H a (H.next+3) true (.own (H.next+3) 0 (n+1) (n+1) 2 true) (Lin.unitC n k):=⟨d,by rw [Lin.unitC_len]; rfl,by rw [g]; exact al _ _ _,u,zO⟩
 rw [<- g];exact this.sl
abbrev xA:=List (Bool × List Nat) × Bool
abbrev tP:=Nat × List (Bool × List Nat)
def Cn (C:Code tab) (l:Wf H) {cs:List AV} {c:xA} {g h:Nat} {r1 r2:Bool} (hc:conQE.R H cs c) (n:nr c.1)
  (h1:H.get g=some (.cells [.fn (.func e9) [] []] fz r1)) (h2:H.get h=some (.cells [.fn (.func kW) [] []] tK r2)) :
  Ans tab (.fn eJ [.agg cs,.ptr g 0,.ptr h 0]) H fun v H'=>v=.bool (!tW c.1)/\Kp H H':=by
 obtain ⟨v,rfl,k⟩:=hc;have ov:=k.one;have w:=l _ _ h1;have x:=l _ _ h2;have o:fW (.agg [v,.bool c.2])=some [v,.bool c.2]:=by simp [fW,AV.cells,ov.2]; rfl
 refine lC C.q67 zU fun T hl d f a=>?_;refine zW (fo hl d f a o h1 h2) ?_;refine AnsH.eq (zm C zF ov) fun H2 i=>?_;obtain ⟨k2,_,y⟩:=zT H zK i;have d0:=i.get (b:=H.next) (e:=.cells [v,.bool c.2] t_api_Con true) (cC);refine zW (aO hl d f a) ?_;refine AnsH.eq (mj C zF (k.mono (zG H)) n) fun r j=>?_;obtain ⟨q,_,w3⟩:=zT H zK j;have d3:=j.get d0;have m:=q.get h2;cases t:tW c.1 with
 | false =>
  refine zW (aO hl d f a) ?_;exact zK
 | true =>
  refine zW (fo hl d f a d3 m a) ?_;refine AnsH.eq (MM C zF ov) fun s p=>?_;obtain ⟨u,_,_⟩:=zT H zK p;refine zW (aO hl d f a) ?_;exact zK
def Cm (C:Code tab) (h:Wf H) {cs:List AV} {c:xA} {n:Int} {e f:Nat} {r1 r2:Bool} (hc:conQE.R H cs c) (hn:0<=n/\n<=1000)
  (h1:H.get e=some (.cells [.fn (.func e9) [] []] fz r1)) (h2:H.get f=some (.cells [.int .i64 n] d9 r2)) :
  Ans tab (.fn eI [.agg cs,.ptr e 0,.ptr f 0]) H fun v H'=>v=.bool (decide ((c.1.length:Int)≠n+1))/\Kp H H':=by
 obtain ⟨v,rfl,g⟩:=hc;have ov:=g.one;have m:=h _ _ h1;have o:=h _ _ h2;have k:fW (.agg [v,.bool c.2])=some [v,.bool c.2]:=by simp [fW,AV.cells,ov.2]; rfl
 have j:IntKind.i64.wrap (n+1)=n+1:=by rw [wrap_i64] <;> omega
 refine lC C.q69 zU fun T hl a b d=>?_;refine zW (fo hl a b d k h1 h2) ?_;refine aF ?_;refine zD (dj hl a b d h1 h2) ?_;refine AnsH.eq (zm C zF ov) fun H2 l=>?_;obtain ⟨k2,_,p⟩:=zT H zK l;have i:=k2.get h2;refine zD (jU hl a b d h1 h2 i g.lenV j) ?_;exact ⟨by simp,zK⟩
def dU (n:Int) (l:List xA):Int :=
 if n<0\/8<n then 2 else if 60<l.length then 4 else if l.any (fun c=>!tW c.1) then 8 else if l.any (fun c=>decide ((c.1.length:Int)≠n+1)) then 70 else 0
def pj (C:Code tab) (u:Wf H) {n:Int} {l:List xA} (hs:SlV conQE t_api_Con H s l) (q:∀ c∈l,nr c.1) (p:l.length<4611686018427387904) :
  Ans tab (.fn fK [.int .i64 n,s,.fn (.func e9) [] [],.fn (.func kW) [] []]) H fun v H'=>v=.int .i64 (dU n l)/\Kp H H':=by
 refine Jw C.q39 zU fun T hl d f g i=>?_;by_cases q1:n<0
 ·refine zW (dj hl d f g i q1) ?_;exact ⟨by rw [dU,if_pos (.inl q1)],zK⟩
 by_cases q2:8<n
 ·refine zW (fo hl d f g i q1 q2) ?_;exact ⟨by rw [dU,if_pos (.inr q2)],zK⟩
 have k:¬ (n<0\/8<n):=fun h=>h.elim q1 q2;by_cases q3:(60:Int)<(l.length:Int)
 ·refine zW (jU hl d f g i q1 q2 q3 hs.lenV) ?_;exact ⟨by rw [dU,if_neg k,if_pos zO],zK⟩
 have m:¬ 60<l.length:=zO;refine zW (jU hl d f g i q1 q2 q3 hs.lenV) ?_;refine AnsH.eq (pC C zF (first:=[]) rfl (hs.mono (zG H)) p (fun c=>!tW c.1) fun a ha H' cs j hr=>Cn C j.wf hr (q a ha) (j.get (by refine vH ?_; rfl)) (j.get (by refine vH ?_; rfl))) fun H2 o=>?_;obtain ⟨k2,_,x⟩:=zT H zK o;cases q4:l.any (fun c=>!tW c.1) with
 | true =>
  refine zW (bB hl d f g i) ?_;exact ⟨by rw [dU,if_neg k,if_neg m,if_pos q4],zK⟩
 | false =>
 have d0:=o.get (b:=H.next) (e:=.cells [.int .i64 n] d9 true) (cC);have d1:=o.get (b:=H.next+1) (e:=.cells [.fn (.func e9) [] []] fz true) (cC);refine zW (aD hl d f) ?_;refine AnsH.eq (pC C zF (first:=[]) rfl (hs.mono (zG H)) p (fun c=>decide ((c.1.length:Int)≠n+1)) fun a ha H' cs j hr=>Cm C j.wf hr ⟨zO,zO⟩ (j.get (b:=H.next+1) (by first | exact d1 | (refine vH ?_; exact d1))) (j.get (b:=H.next) (by first | exact d0 | (refine vH ?_; exact d0)))) fun t r=>?_;obtain ⟨w,_,_⟩:=zT H zK r;cases q5:l.any (fun c=>decide ((c.1.length:Int)≠n+1)) with
 | true =>
  refine zW (bB hl d f g i) ?_;exact ⟨by rw [dU,if_neg k,if_neg m,if_neg (by rw [q4]; decide),if_pos q5],zK⟩
 | false =>
  refine zW (bB hl d f g i) ?_;exact ⟨by rw [dU,if_neg k,if_neg m,if_neg (by rw [q4]; decide),if_neg (by rw [q5]; decide)],zK⟩
def Gz (g:Nat × List Int):Bool :=
 if g.1=1\/g.1=2 then decide (Lin.hd1 g.2≠0) else if g.1=3 then decide (Lin.hd1 g.2<=0) else true
def As (x:Int):0<gJ x ↔ 0<x:=by unfold gJ; split <;> (try split) <;> omega
def IC (x:Int):gJ x<=0 ↔ x<=0:=by unfold gJ; split <;> (try split) <;> omega
def Pv (C:Code tab) (f:Wf H) {v:AV} {k:Nat} {l:List Int} (d:RowV H v l) (hz:∀ z∈l,dD z):Ans tab (.fn mR [.agg [.int .u8 (k:Int),v]]) H fun x H'=>x=.bool (Gz (k,l))/\Kp H H':=by
 have ov:=d.one;have c:fW (.agg [.int .u8 (k:Int),v])=some [.int .u8 (k:Int),v]:=by simp [fW,AV.cells,ov.2]; rfl
 refine cT C.q56 zU fun T hl a=>?_;by_cases q1:(k:Int)=1
 ·refine zW (aO hl a c q1) ?_;refine AnsH.eq (nd C zF (d.mono (zG H)) hz) fun H2 b=>?_;obtain ⟨k2,_,_⟩:=zT H zK b;refine zW (aE hl a) ?_;refine ⟨?_,zK⟩;congr 1;rw [Gz,if_pos (.inl zO),XQ];simp [iK]
 by_cases q2:(k:Int)=2
 ·refine zW (bB hl a c q1 q2) ?_;refine AnsH.eq (nd C zF (d.mono (zG H)) hz) fun H2 b=>?_;obtain ⟨k2,_,_⟩:=zT H zK b;refine zW (aE hl a) ?_;refine ⟨?_,zK⟩;congr 1;rw [Gz,if_pos (.inr zO),XQ];simp [iK]
 have q12:¬ (k=1\/k=2):=zO;by_cases q3:(k:Int)=3
 ·refine zW (dj hl a c q1 q2 q3) ?_;refine AnsH.eq (nd C zF (d.mono (zG H)) hz) fun H2 b=>?_;obtain ⟨k2,_,_⟩:=zT H zK b;refine zW (aE hl a) ?_;refine ⟨?_,zK⟩;congr 1;have e:k=3:=zO;rw [Gz,if_neg q12,if_pos e,XQ];simp [IC]
 ·refine zW (dj hl a c q1 q2 q3) ?_;refine ⟨?_,zK⟩;have e:¬ k=3:=zO;rw [Gz,if_neg q12,if_neg e]
def CZ (g:tP):Bool:=!tW g.2 || Gz (g.1,g.2.map aR)
def Cl (C:Code tab) (o:Wf H) {cs:List AV} {c:tP} {j k:Nat} {r1 r2:Bool} (hc:genQE.R H cs c) (q:nr c.2) (h:∀ z∈c.2,Lim z.2/\z.2.length<=1048576)
  (h1:H.get j=some (.cells [.fn (.func eZ) [] []] fy r1)) (h2:H.get k=some (.cells [.fn (.func mR) [] []] tJ r2)) :
  Ans tab (.fn eH [.agg cs,.ptr j 0,.ptr k 0]) H fun v H'=>v=.bool (CZ c)/\Kp H H':=by
 obtain ⟨v,rfl,i⟩:=hc;have ov:=i.one;have A:=o _ _ h1;have B:=o _ _ h2;have r:fW (.agg [.int .u8 (c.1:Int),v])=some [.int .u8 (c.1:Int),v]:=by simp [fW,AV.cells,ov.2]; rfl
 refine lC C.q87 zU fun T hl d f a=>?_;refine zW (fo hl d f a r h1 h2) ?_;refine AnsH.eq (zk C zF ov) fun H2 m=>?_;obtain ⟨k2,_,D⟩:=zT H zK m;have d0:=m.get (b:=H.next) (e:=.cells [.int .u8 (c.1:Int),v] ag true) (cC);refine zW (aO hl d f a) ?_;refine AnsH.eq (mj C zF (i.mono (zG H)) q) fun u n=>?_;obtain ⟨t,_,w3⟩:=zT H zK n;have d3:=n.get d0;have p:=t.get h2;cases g:tW c.2 with
 | false =>
  refine zW (aO hl d f a) ?_;exact ⟨by simp [CZ,g],zK⟩
 | true =>
  have hb:∀ z∈c.2,gG z=false:=by
   simp only [tW,Ky,XE,XW,Bool.not_eq_true] at g;exact g.2
  refine zW (fo hl d f a d3 p a) ?_;refine AnsH.eq (Pv C (l:=c.2.map aR) zF ((SlV.int i fun z hz=>⟨hb z hz,(h z hz).1⟩).mono (zG H)) fun z hz=>?_) fun w s=>?_
  ·obtain ⟨x,hx,rfl⟩:=nC.1 hz;exact (qX (h x hx).1 (h x hx).2).sm zO
  obtain ⟨y,_,_⟩:=zT H zK s;refine zW (aO hl d f a) ?_;exact ⟨by simp [CZ,g],zK⟩
def Ck (C:Code tab) (h:Wf H) {cs:List AV} {c:tP} {n:Int} {e f:Nat} {r1 r2:Bool} (hc:genQE.R H cs c) (hn:0<=n/\n<=1000)
  (h1:H.get e=some (.cells [.fn (.func eZ) [] []] fy r1)) (h2:H.get f=some (.cells [.int .i64 n] d9 r2)) :
  Ans tab (.fn eF [.agg cs,.ptr e 0,.ptr f 0]) H fun v H'=>v=.bool (decide ((c.2.length:Int)≠n+1))/\Kp H H':=by
 obtain ⟨v,rfl,g⟩:=hc;have ov:=g.one;have m:=h _ _ h1;have o:=h _ _ h2;have k:fW (.agg [.int .u8 (c.1:Int),v])=some [.int .u8 (c.1:Int),v]:=by simp [fW,AV.cells,ov.2]; rfl
 have j:IntKind.i64.wrap (n+1)=n+1:=by rw [wrap_i64] <;> omega
 refine lC C.q89 zU fun T hl a b d=>?_;refine zW (fo hl a b d k h1 h2) ?_;refine aF ?_;refine zD (dj hl a b d h1 h2) ?_;refine AnsH.eq (zk C zF ov) fun H2 l=>?_;obtain ⟨k2,_,p⟩:=zT H zK l;have i:=k2.get h2;refine zD (jU hl a b d h1 h2 i g.lenV j) ?_;exact ⟨by simp,zK⟩
def bI (n:Int) (l:List tP):Int :=
 if n<0\/8<n then 2 else if 60<l.length then 4 else if l.any CZ then 8 else if l.any (fun c=>decide ((c.2.length:Int)≠n+1)) then 70 else 0
def kH (C:Code tab) (w:Wf H) {n:Int} {l:List tP} (hs:SlV genQE ag H s l) (q:∀ c∈l,nr c.2) (r:∀ c∈l,∀ z∈c.2,Lim z.2/\z.2.length<=1048576) (p:l.length<4611686018427387904) :
  Ans tab (.fn fJ [.int .i64 n,s,.fn (.func eZ) [] [],.fn (.func mR) [] []]) H fun v H'=>v=.int .i64 (bI n l)/\Kp H H':=by
 refine Jw C.q54 zU fun T hl d f g i=>?_;by_cases q1:n<0
 ·refine zW (dj hl d f g i q1) ?_;exact ⟨by rw [bI,if_pos (.inl q1)],zK⟩
 by_cases q2:8<n
 ·refine zW (fo hl d f g i q1 q2) ?_;exact ⟨by rw [bI,if_pos (.inr q2)],zK⟩
 have k:¬ (n<0\/8<n):=fun h=>h.elim q1 q2;by_cases q3:(60:Int)<(l.length:Int)
 ·refine zW (jU hl d f g i q1 q2 q3 hs.lenV) ?_;exact ⟨by rw [bI,if_neg k,if_pos zO],zK⟩
 have m:¬ 60<l.length:=zO;refine zW (jU hl d f g i q1 q2 q3 hs.lenV) ?_;refine AnsH.eq (pB C zF (first:=[]) rfl (hs.mono (zG H)) p CZ fun a ha H' cs j hr=>Cl C j.wf hr (q a ha) (r a ha) (j.get (by refine vH ?_; rfl)) (j.get (by refine vH ?_; rfl))) fun H2 o=>?_;obtain ⟨k2,_,y⟩:=zT H zK o;cases q4:l.any CZ with
 | true =>
  refine zW (bB hl d f g i) ?_;exact ⟨by rw [bI,if_neg k,if_neg m,if_pos q4],zK⟩
 | false =>
 have d0:=o.get (b:=H.next) (e:=.cells [.int .i64 n] d9 true) (cC);have d1:=o.get (b:=H.next+1) (e:=.cells [.fn (.func eZ) [] []] fy true) (cC);refine zW (aD hl d f) ?_;refine AnsH.eq (pB C zF (first:=[]) rfl (hs.mono (zG H)) p (fun c=>decide ((c.2.length:Int)≠n+1)) fun a ha H' cs j hr=>Ck C j.wf hr ⟨zO,zO⟩ (j.get (b:=H.next+1) (by first | exact d1 | (refine vH ?_; exact d1))) (j.get (b:=H.next) (by first | exact d0 | (refine vH ?_; exact d0)))) fun u t=>?_;obtain ⟨x,_,_⟩:=zT H zK t;cases q5:l.any (fun c=>decide ((c.2.length:Int)≠n+1)) with
 | true =>
  refine zW (bB hl d f g i) ?_;exact ⟨by rw [bI,if_neg k,if_neg m,if_neg (by rw [q4]; decide),if_pos q5],zK⟩
 | false =>
  refine zW (bB hl d f g i) ?_;exact ⟨by rw [bI,if_neg k,if_neg m,if_neg (by rw [q4]; decide),if_neg (by rw [q5]; decide)],zK⟩
def xB (C:Code tab) (h:Wf H) {fi:Nat} {first caps:List AV} {l:List (List Int)} (hs:pb H s l) (c:l.length<4611686018427387904) (p:List Int->Bool)
  (d:∀ r∈l,∀ H' w,Kp H H'->RowV H' w r->Ans tab (.fn fi (first++[w]++caps)) H' fun v H2=>v=.bool (p r)/\Kp H' H2) :
  Ans tab (.fn bP [s,.fn (.func fi) first caps]) H fun v H'=>v=.bool (l.any p)/\Kp H H':=by
 refine bA C.q72 zU fun T hl a b=>?_;refine zW (aD hl a b) ?_;refine AnsH.eq (sI C zF (hs.mono (zG H)) c p fun r hr H' w e g=>d r hr H' w (Kp.trans (H:=H) zK e) g) fun H2 f=>?_;obtain ⟨k2,_,_⟩:=zT H zK f;refine zW (aD hl a b) ?_;exact ⟨by rw [tq],zK⟩
end
def Bq {α:Type} (E:fQ α) (ty:Nat) (H0 H:Heap) (v:AV) (l:List α):Prop:=(v=.nilSl/\l=[])\/∃ b ex,Own E ty H0 H b ex v l
section
variable {α β:Type} {E:fQ α} {E':fQ β} {ty:Nat} {H0 H H':Heap} {v w:AV} {l:List α} {m:List β}
def Bq.nil:Bq E ty H0 H .nilSl []:=.inl ⟨rfl,rfl⟩
def Bq.of (h:Bl E ty H0 H v l):Bq E ty H0 H v l:=by
 rcases h with h | ⟨b,h⟩
 ·exact .inl h
 ·exact .inr ⟨b,false,h⟩
def Bq.sl (h:Bq E ty H0 H v l):SlV E ty H v l:=by
 rcases h with ⟨rfl,rfl⟩ | ⟨b,ex,h⟩
 ·exact SlV.nil E ty H
 ·exact h.sl
def Bq.mono (hs:Sub H H') (h:Bq E ty H0 H v l):Bq E ty H0 H' v l:=by
 rcases h with h | ⟨b,ex,h⟩
 ·exact .inl h
 ·exact .inr ⟨b,ex,h.mono hs⟩
def Bq.lt (a:Wf H) (h:Bq E ty H0 H v l) {b:Nat} (hb:iz v=some b):b<H.next:=by
 rcases h with ⟨rfl,-⟩ | ⟨b',ex,cells,rfl,hg,-⟩
 ·cases hb
 ·cases hb;exact a _ _ hg
def Frm.subTq {tys:List Nat} (a:Frm v H H') (h:Bq E ty H0 H v l) (hn:ty ∉ tys):SubT tys H H':=fun c cs t r d hc=>a c _ hc fun e=>by
 rcases h with ⟨rfl,-⟩ | ⟨b,ex,cells,rfl,hb,-⟩
 ·cases e
 ·cases e;rw [hb] at hc; cases hc;exact hn d
def Frm.bq (c:Frm v H H') (h:Bq E ty H0 H v l) (a:Bq E' ty H0 H w m) (hs:Sep v w) (d:ty ∉ E'.tys):Bq E' ty H0 H' w m:=by
 rcases a with a | ⟨b,ex,cells,rfl,hb,hc,h0⟩
 ·exact .inl a
 ·exact .inr ⟨b,ex,cells,rfl,c b _ hb fun e=>hs b e rfl,hc.mono (c.subTq h d),h0⟩
def Bq.push {ty2 bytes id id2:Nat} {cs:List AV} {a:α} (h:Bq E ty H0 H v l) (D:ty ∉ E.tys) (r:Kp H0 H) (hr:E.R H cs a) (o:H0.next<=id) (p:id<H.next) (k:H.get id=none) (g:H0.next<=id2) (q:id2<H.next) (m:H.get id2=none) (hne:id≠id2)
  (hb:(l.length+1)*bytes<=70368744177664) (hl:l.length+1<4611686018427387904) :
  ∃ n H',dr (H.put id2 (.cells cs ty2 true)) id E.sz bytes ty v (.own id2 0 1 1 E.sz true)=some (.own id 0 n n E.sz false,H')/\Bq E ty H0 H' (.own id 0 n n E.sz false) (l++[a])/\Kp H0 H'/\H'.next=H.next/\Frm v H H'/\(∀ c,c≠id->c≠id2->H.get c=none->H'.get c=none):=by
 have f:Bl E ty H0 H v l\/∃ b,Own E ty H0 H b true v l:=by
  rcases h with h | ⟨b,ex,h⟩
  ·exact .inl (.inl h)
  ·cases ex with
   | false=>exact .inl (.inr ⟨b,h⟩)
   | true=>exact .inr ⟨b,h⟩
 rcases f with f | ⟨b,C⟩
 ·obtain ⟨n,H',d,j,e3⟩:=Bl.push2 (ty2:=ty2) (bytes:=bytes) f D r hr o p k g q m hne hb hl;exact ⟨n,H',d,.of j,e3⟩
 ·have i:Sub H (H.put id2 (.cells cs ty2 true)):=aG m;have B:Kp H0 (H.put id2 (.cells cs ty2 true)):=r.put g q;have hy:SlV E ty2 (H.put id2 (.cells cs ty2 true)) (.own id2 0 1 1 E.sz true) [a] :=
   (show Own E ty2 H0 _ id2 true (.own id2 0 1 1 E.sz true) [a] from ⟨cs,rfl,al _ _ _,Cells.one (E.mono (i.t _) hr),g⟩).sl
  have s:=C.mono i;have hs:=s.sl;obtain ⟨cells,t,hg,-,-⟩:=s;rw [t] at hs;obtain ⟨G,H',d,j,e3,w,e5,e6⟩:=SlV.app (bytes:=bytes) (id:=id) hs B hy o p (by rw [au hne]; exact k) hb hl;obtain ⟨u,F,A,z,x⟩:=e6 (by simp);rw [F] at d;refine ⟨_,H',by rw [t]; exact d,.inr ⟨id,false,u,rfl,A,z,x⟩,e3,w,fun b e y _=>e5.get _ _ (i.get _ _ y),fun c h1 h2 h3=>Eh d h1 (by rw [au h2]; exact h3)⟩
end
def Az {a:AV} (ha:One a) (x y:AV):cE [x,y] [((0,1),a)]=some (.agg [a,y]):=by
 simp [cE,cB,ha.1,ha.2]
section
open Lin
variable {n:Nat} {l:List (V × Bool)}
def Ps {j:Nat} (hj:j<l.length):eqsOf (l.take (j+1))=if l[j].2=true then eqsOf (l.take j)++[l[j].1] else eqsOf (l.take j):=by
 rw [BU hj];unfold eqsOf;rw [XY,Xz];cases h:l[j].2 <;> simp [h]
def Jk {j:Nat} (hj:j<l.length):ineqsOf n (l.take (j+1))=if l[j].2=true then ineqsOf n (l.take j) else ineqsOf n (l.take j)++[l[j].1]:=by
 rw [BU hj];unfold ineqsOf;rw [XY,Xz];cases h:l[j].2 <;> simp [h]
def Pt (l:List (V × Bool)):(eqsOf l).length<=l.length:=by
 unfold eqsOf;rw [rR];exact Yf _ _
def rQ (l:List (V × Bool)):(ineqsOf n l).length<=l.length+1:=by
 unfold ineqsOf;rw [Sb,rR]
 have:=Yf (fun c:V × Bool=>!c.2) l
 omega
def EB (n m:Nat):Bd (2^m) (unitC n 1):=fun i=>by
 have h1:1<=2^m:=Pm zU;unfold unitC at_;cases i with
 | zero=>simpa using h1
 | succ i =>
  rw [Yh,iF,XG];split <;> simp
end
section
variable {tab:Nat->Option aA} {H:Heap} {s:AV}
def Cb (C:Code tab) (c:Wf H) {l:List Int} (hs:RowV H s l) (hz:∀ z∈l,dD z):Ans tab (.fn kw [s]) H fun v H'=>v=.bool (decide (0<Lin.hd1 l))/\Kp H H':=by
 refine cT C.q73 zU fun T hl a=>?_;refine zW (aE hl a) ?_;refine AnsH.eq (nd C zF (hs.mono (zG H)) hz) fun H2 b=>?_;obtain ⟨k2,_,_⟩:=zT H zK b;have e:decide (gJ (Lin.hd1 l) > 0)=decide (0<Lin.hd1 l):=by
  rw [XQ];simp [As]
 refine zW (aE hl a) ?_;exact ⟨by simp [As],zK⟩
set_option maxHeartbeats 4000000 in
def zj (C:Code tab) (hw:Wf H) {n m:Nat} {l:List (List Int × Bool)} (hs:SlV conE t_api_Con H s l) (hn:n<=4) (bg:l.length<=1023) (aY:(l.length+1)^n<1099000000000) (aK:∀ c∈l,c.1.length=n+1/\Lin.Bd (2^m) c.1) (hm:m<=300000) :
  Ans tab (.fn oF [.int .i64 (n:Int),s]) H fun v H'=>SlV genE ag H' v (Lin.gensP n l)/\Kp H H':=by
 refine Am C.q42 rfl rfl zU fun T hl g=>?_;have hl:T.length=79:=hl;have aL:c_dual_points.results=[(4,none)]:=rfl;have g0:ad T 0=.int .i64 (n:Int):=g 0 (by simp);have g1:ad T 1=s:=g 1 (by simp);refine aI ?_;refine zW (aE hl @aw) ?_;refine aI ?_;refine zW (aE hl @aw) ?_;refine dy (fun T' H'=>∃ o,ad T' 6=o/\Kp H H'/\Bq rowsE af H H' o [Lin.unitC n 1]) rfl ?_ ?_
 ·refine zW (aE hl g0) ?_;refine AnsH.use (yq C (n:=n) (k:=1) zF zO zO zO) ?_;rintro v H2 ⟨hr,A⟩;obtain ⟨k2,_,w2⟩:=zT H zK A;have ov:=hr.one;have n2:H.next+6<=H2.next:=A.le
  have f2:H2.get (H.next+4)=none:=A.free (show H.next+4<H.next+6 by omega) (hw.fresh (b:=H.next+4) zO);refine zW (aE hl @aZ) ?_;refine ⟨_,rfl,zK,.inr ⟨H.next+4,true,[v],rfl,al _ _ _,?_,zO⟩⟩;exact Cells.one (E:=rowsE) ⟨v,rfl,hr.mono (aG f2)⟩
 rintro T1 H1 aj ⟨o,t6,k1,b1⟩;have w1:=k1.wf;have bj:=k1.le;have t0:ad T1 0=.int .i64 (n:Int):=(aj.at_ 0 zU).trans (zV (aE hl g0));have t1:ad T1 1=s:=(aj.at_ 1 zU).trans (zV (aE hl g1));have t4:ad T1 4=.nilSl:=(aj.at_ 4 zU).trans (zV hl);have t5:ad T1 5=.nilSl:=(aj.at_ 5 zU).trans (zV hl);have I:T1.length=79:=aj.len.trans (by simp only [dz]; exact hl);have bi:=hs.mono k1.sub;refine dy (fun T' H'=>∃ u x,ad T' 5=u/\ad T' 6=x/\Kp H H'/\pb H' u (Lin.eqsOf l)/\pb H' x (Lin.ineqsOf n l)) rfl ?_ ?_
 ·refine zW (aD I t1 hs.lenV) ?_;refine aq H [5,6] (fun j vs H'=>∃ u x,vs=[u,x]/\Bq rowsE af H H' u (Lin.eqsOf (l.take j))/\Bq rowsE af H H' x (Lin.ineqsOf n (l.take j))/\Sep u x) (a:=0) (N:=l.length) rfl (by refine zW I ?_; rfl) (zV I) (xq _) zO (by simp only [dz,I]; rfl) rfl (fun j vs H' m ⟨u,x,q1,q2,q3,q4⟩=>⟨u,x,q1,q2.mono (Sub.bump H' m),q3.mono (Sub.bump H' m),q4⟩) zK ⟨.nilSl,o,by exact zV (aD I t5 t6),Bq.nil,b1.mono (Sub.bump H1 _),fun b h=>by cases h⟩ ?_ ?_
  ·rintro j T2 H2 _ hj G aJ aa A ⟨u,x,f,Q,S,ay⟩;have w2:=A.wf;have bp:=A.le;have a7:=A.le;simp only [uz,B3,Ae,and_true] at f;obtain ⟨v5,v6⟩:=f;have aS:ad T2 20=s:=(aa.at_ 20 zU).trans (zV (aE I t1));obtain ⟨cs,⟨w,rfl,hr⟩,bh,-,D⟩:=(hs.mono A.sub).at (eA hj);have Y:cS 2 s (.int .i64 (j:Int))=some (aB s (j*2)):=SlV.idx hs .i64 j hj;have D:bk H2 (some 2) (aB s (j*2))=some (.agg [w,.bool l[j].2]):=D;have ow:=hr.one;simp only [dz,I] at G;have he:=Ps (l:=l) hj;have hi:=Jk (n:=n) (l:=l) hj;have l5:=Pt (l.take j);have l6:=rQ (n:=n) (l.take j);rw [L9] at l5 l6;obtain ⟨P,U⟩:∃ P,P=((H2.up 12).put (H2.next+2) (.cells [.nilSl,.bool false] t_api_Con true)).put (H2.next+2) (.cells [w,.bool l[j].2] t_api_Con true):=⟨_,rfl⟩
   have M:Kp H2 P:=by rw [U]; exact zK
   have aP:Kp H P:=A.trans M;have nx:P.next=H2.next+12:=by rw [U]; rfl
   have fx:∀ c,H2.next<=c->c≠H2.next+2->P.get c=none:=fun c h1 h2=>by rw [U,au h2,au h2]; exact w2.fresh h1
   have aM:rowsE.R P [w] l[j].1:=⟨w,rfl,hr.mono M.sub⟩
   cases hb:l[j].2 with
   | true =>
    rw [hb] at D U he hi;obtain ⟨O,B,e6,b6,k6,aQ,f6,-⟩:=Bq.push (ty2:=af) (bytes:=24) (id:=H2.next+10) (id2:=H2.next+9) (Q.mono M.sub) zU aP aM zO zO (fx _ zO zO) zO zO (fx _ zO zO) zO zO zO;have ae:dr ((((H2.up 12).put (H2.next+2) (.cells [.nilSl,.bool false] t_api_Con true)).put (H2.next+2) (.cells [w,.bool true] t_api_Con true)).put (H2.next+9) (.cells [w] af true)) (H2.next+10) 1 24 af u (.own (H2.next+9) 0 1 1 1 true)=some (.own (H2.next+10) 0 O O 1 false,B):=by rw [U] at e6; exact e6
    refine zW (fX G aS aJ Y D v5 v6 ae) ?_;refine ⟨k6,_,_,rfl,?_,?_,?_⟩
    ·rw [he,if_pos rfl]; exact b6
    ·rw [hi,if_pos rfl]; exact f6.bq (Q.mono M.sub) (S.mono M.sub) ay zU
    ·intro b h1 h2
     have:=S.lt w2 h2
     cases h1;omega
   | false =>
    rw [hb] at D U he hi;obtain ⟨O,B,e6,b6,k6,aQ,f6,-⟩:=Bq.push (ty2:=af) (bytes:=24) (id:=H2.next+10) (id2:=H2.next+9) (S.mono M.sub) zU aP aM zO zO (fx _ zO zO) zO zO (fx _ zO zO) zO zO zO;have ae:dr ((((H2.up 12).put (H2.next+2) (.cells [.nilSl,.bool false] t_api_Con true)).put (H2.next+2) (.cells [w,.bool false] t_api_Con true)).put (H2.next+9) (.cells [w] af true)) (H2.next+10) 1 24 af x (.own (H2.next+9) 0 1 1 1 true)=some (.own (H2.next+10) 0 O O 1 false,B):=by rw [U] at e6; exact e6
    refine zW (fX G aS aJ Y D v5 v6 ae) ?_;refine ⟨k6,_,_,rfl,?_,?_,?_⟩
    ·rw [he,if_neg zU]; exact f6.bq (S.mono M.sub) (Q.mono M.sub) ay.symm zU
    ·rw [hi,if_neg zU]; exact b6
    ·intro b h1 h2
     have:=Q.lt w2 h1
     cases h2;omega
  ·rintro T2 H2 G aa A ⟨u,x,f,Q,S,ay⟩;simp only [uz,B3,Ae,and_true] at f;rw [KO] at Q S;refine zW (aE G @aZ) ?_;exact ⟨u,x,f.1,f.2,A,Q.sl,S.sl⟩
 rintro T2 H2 aa ⟨u,x,v5,v6,k2,r5,r6⟩;have w2:=k2.wf;have a7:=k2.le;have u0:ad T2 0=.int .i64 (n:Int):=(aa.at_ 0 zU).trans t0;have u4:ad T2 4=.nilSl:=(aa.at_ 4 zU).trans t4;have G:T2.length=79:=aa.len.trans I;have hE:∀ a∈Lin.eqsOf l,a.length=n+1/\Lin.Bd (2^m) a:=fun a ha=>aK _ (Lin.mem_eqs.1 ha);have hI:∀ a∈Lin.ineqsOf n l,a.length=n+1/\Lin.Bd (2^m) a:=fun a ha=>by
  rcases Lin.mem_ineqs.1 ha with rfl | ha
  ·exact ⟨Lin.unitC_len n 1,EB n m⟩
  ·exact aK _ ha
 have lE:=Pt l;have lI:=rQ (n:=n) l;obtain ⟨c1,c2⟩:=vL (d:=n+1) (m:=m) zO zO hE hI;have hT:=Lin.gens_told (d:=n+1) (fun a ha=>(hE a ha).1) (fun a ha=>(hI a ha).1);have lL:=ech_len hT.form;have aX:(Lin.ineqsOf n l).length^n<1099000000000:=XK (YI lI n) aY;have lR:(Lin.gensR (n+1) (Lin.eqsOf l) (Lin.ineqsOf n l)).length<=1099000000000:=by
  have:=hT.dd.count3 (fun a ha=>(hI a ha).1)
  simp only [YP] at this;omega
 obtain ⟨L,hL⟩:∃ L,L=Lin.gensL (n+1) (Lin.eqsOf l) (Lin.ineqsOf n l):=⟨_,rfl⟩
 obtain ⟨R,hR⟩:∃ R,R=Lin.gensR (n+1) (Lin.eqsOf l) (Lin.ineqsOf n l):=⟨_,rfl⟩
 have aR:∀ r∈R,∀ z∈r,dD z:=fun r hr z hz=>by
  rw [hR] at hr;exact (fu (c2 r hr).2 z hz).sm zO
 have ej:IntKind.i64.wrap ((n:Int)+1)=((n+1:Nat):Int):=by rw [wrap_i64] <;> omega
 refine dy (fun T' H'=>∃ p q,ad T' 9=p/\ad T' 10=q/\Kp H H'/\pb H' p L/\pb H' q R) rfl ?_ ?_
 ·refine zW (bB G u0 v5 v6 ej) ?_;refine AnsH.use (Ch C (d:=n+1) (m:=m) zF (r5.mono (zG H2)) (r6.mono (zG H2)) zO zO zO zO (by simpa using aX) hE hI hm) ?_;rintro v H3 ⟨p,q,rfl,hp,Z,ah⟩;obtain ⟨k23,_,_⟩:=zT H2 zK ah;have k3:Kp H H3:=k2.trans k23;have bs:=k3.le;refine zW (aE G @aZ) ?_;rw [hL,hR];exact ⟨p,q,rfl,rfl,zK,hp,Z⟩
 rintro T3 H3 aN ⟨p,q,v9,aT,k3,hp,Z⟩;have w3:=k3.wf;have bl:=k3.le;have x4:ad T3 4=.nilSl:=(aN.at_ 4 zU).trans u4;have ao:T3.length=79:=aN.len.trans G;rw [<- hL] at lL;rw [<- hR] at lR;have aH:R.any (fun r=>decide (0<Lin.hd1 r))=(Lin.gensR (n+1) (Lin.eqsOf l) (Lin.ineqsOf n l)).any (fun r=>decide (0<Lin.hd1 r)):=by rw [hR]
 refine dy (fun T' H'=>Kp H3 H'/\ad T' 4=.nilSl/\R.any (fun r=>decide (0<Lin.hd1 r))=true) rfl ?_ ?_
 ·refine zW (aE ao aT) ?_;refine AnsH.eq (xB C zF (first:=[]) (Z.mono (zG H3)) zO (fun r=>decide (0<Lin.hd1 r)) fun a ha H' w hk hr=>Cb C hk.wf hr (aR a ha)) fun y a2=>?_;obtain ⟨X,_,_⟩:=zT H3 zK a2;have k4:Kp H y:=k3.trans X;have a9:=k4.le;cases hc:R.any (fun r=>decide (0<Lin.hd1 r)) with
  | true =>
   refine zW (aD ao @aZ x4) ?_;exact zK
  | false =>
   refine zW (aD ao @wP aL) ?_;refine ⟨?_,zK⟩;unfold Lin.gensP;rw [<- aH,hc];exact SlV.nil _ _ _
 rintro T4 y ax ⟨X,y4,a5⟩;have w4:=X.wf;have bm:=X.le;have k4:Kp H y:=k3.trans X;have a9:=k4.le;have y9:ad T4 9=p:=(ax.at_ 9 zU).trans v9;have bf:ad T4 10=q:=(ax.at_ 10 zU).trans aT;have J:T4.length=79:=ax.len.trans ao;refine dy (fun T' H'=>∃ o,ad T' 4=o/\Kp y H'/\Bq genE ag y H' o (L.map fun r=>(1,r))) rfl ?_ ?_
 ·refine zW (aD J y9 hp.lenV) ?_;refine aq y [4] (fun j vs H'=>∃ o,vs=[o]/\Bq genE ag y H' o ((L.take j).map fun r=>(1,r))) (a:=0) (N:=L.length) rfl (by refine zW J ?_; rfl) (zV J) (xq _) zO (by simp only [dz,J]; rfl) rfl (fun j vs H' m ⟨o,q1,q2⟩=>⟨o,q1,q2.mono (Sub.bump H' m)⟩) (Kp.up (Kp.refl w4) _) ⟨.nilSl,by exact zV (aE J y4),Bq.nil⟩ ?_ ?_
  ·rintro j T5 i _ hj t a0 am V ⟨o,f,F⟩;have w5:=V.wf;have bq:=V.le;have a8:=V.le;simp only [uz,B3,Ae,and_true] at f;have bc:ad T5 51=p:=(am.at_ 51 zU).trans (zV (aE J y9));obtain ⟨w,hr,D⟩:=dH ((hp.mono X.sub).mono V.sub) hj;have Y:=SlV.idx1 hp .i64 j hj;have ow:=hr.one;simp only [dz,J] at t;obtain ⟨O,B,e6,b6,k6,aQ,f6,-⟩:=Bq.push (ty2:=ag) (bytes:=32) (id:=i.next+7) (id2:=i.next+6) (H:=i.up 9) (cs:=[.int .u8 1,w]) (a:=(1,L[j])) (F.mono (Sub.bump i 9)) zU (V.up 9) ⟨w,rfl,hr.mono (Sub.bump i 9)⟩ zO (by rw [dg]; omega) (w5.fresh zO) zO (by rw [dg]; omega) (w5.fresh zO) zO (by simp; omega) (by simp; omega);have ae:dr ((i.up 9).put (i.next+6) (.cells [.int .u8 1,w] ag true)) (i.next+7) 2 32 ag o (.own (i.next+6) 0 1 1 2 true)=some (.own (i.next+7) 0 O O 2 false,B):=e6;refine zW (fo t bc a0 Y D f ae) ?_;refine ⟨k6,_,rfl,?_⟩;rw [BU hj,Xz];exact b6
  ·rintro T5 i t am V ⟨o,f,F⟩;simp only [uz,B3,Ae,and_true] at f;rw [KO] at F;refine zW (aE t @aZ) ?_;exact ⟨o,f,V,F⟩
 rintro T5 i am ⟨bb,z4,aC,aV⟩;have w5:=aC.wf;have a8:=aC.le;have aU:ad T5 10=q:=(am.at_ 10 zU).trans bf;have t:T5.length=79:=am.len.trans J;refine dy (fun T' H'=>∃ o,ad T' 4=o/\Kp y H'/\Bq genE ag y H' o ((L.map fun r=>(1,r))++R.map fun r=>(Lin.kindOf r,r))) rfl ?_ ?_
 ·refine zW (aD t aU Z.lenV) ?_;refine aq y [4] (fun j vs H'=>∃ o,vs=[o]/\Bq genE ag y H' o ((L.map fun r=>(1,r))++(R.take j).map fun r=>(Lin.kindOf r,r))) (a:=0) (N:=R.length) rfl (by refine zW t ?_; rfl) (zV t) (xq _) zO (by simp only [dz,t]; rfl) rfl (fun j vs H' m ⟨o,q1,q2⟩=>⟨o,q1,q2.mono (Sub.bump H' m)⟩) (aC.up _) ⟨bb,by exact zV (aE t z4),by rw [List.take_zero,B3,X5]; exact aV.mono (Sub.bump i _)⟩ ?_ ?_
  ·rintro j T6 B _ hj K a1 ap W ⟨o,f,F⟩;have w6:=W.wf;have br:=W.le;have bn:=W.le;simp only [uz,B3,Ae,and_true] at f;have bd:ad T6 63=q:=(ap.at_ 63 zU).trans (zV (aE t aU));obtain ⟨w,hr,D⟩:=dH ((Z.mono X.sub).mono W.sub) hj;have Y:=SlV.idx1 Z .i64 j hj;have ow:=hr.one;simp only [dz,t] at K;have hm:=mQ hj;refine zW (bB K bd a1 Y D) ?_;refine AnsH.eq (nd C zF (hr.mono (zG B)) (aR _ hm)) fun e a3=>?_;obtain ⟨ab,_,_⟩:=zT B zK a3;have aF:Kp y e:=W.trans ab;have bt:=aF.le;have w7:=ab.wf;by_cases h0:0<Lin.hd1 R[j]
   ·have ah:Lin.kindOf R[j]=3:=by unfold Lin.kindOf; rw [if_pos h0]
    have av:(0:Int)<gJ (Lin.hd1 R[j]):=(As _).2 h0;obtain ⟨n8,H8,e8,b8,k8,ba,f8,-⟩:=Bq.push (ty2:=ag) (bytes:=32) (id:=e.next+6) (id2:=e.next+5) (H:=e.up 8) (cs:=[.int .u8 3,w]) (a:=(3,R[j])) ((F.mono ab.sub).mono (Sub.bump e 8)) zU (aF.up 8) ⟨w,rfl,(hr.mono ab.sub).mono (Sub.bump e 8)⟩ zO (by rw [dg]; omega) (w7.fresh zO) zO (by rw [dg]; omega) (w7.fresh zO) zO (by simp; omega) (by simp; omega);have ar:dr ((e.up 8).put (e.next+5) (.cells [.int .u8 3,w] ag true)) (e.next+6) 2 32 ag o (.own (e.next+5) 0 1 1 2 true)=some (.own (e.next+6) 0 n8 n8 2 false,H8):=e8;refine zW (aO K av f ar) ?_;refine ⟨k8,_,rfl,?_⟩;rw [BU hj,Xz,<- YA];simp only [uz,B3,ah];exact b8
   ·have ah:Lin.kindOf R[j]=2:=by unfold Lin.kindOf; rw [if_neg h0]
    have av:¬ (0:Int)<gJ (Lin.hd1 R[j]):=fun h=>h0 ((As _).1 h);obtain ⟨n8,H8,e8,b8,k8,ba,f8,-⟩:=Bq.push (ty2:=ag) (bytes:=32) (id:=e.next+5) (id2:=e.next+4) (H:=e.up 7) (cs:=[.int .u8 2,w]) (a:=(2,R[j])) ((F.mono ab.sub).mono (Sub.bump e 7)) zU (aF.up 7) ⟨w,rfl,(hr.mono ab.sub).mono (Sub.bump e 7)⟩ zO (by rw [dg]; omega) (w7.fresh zO) zO (by rw [dg]; omega) (w7.fresh zO) zO (by simp; omega) (by simp; omega);have ar:dr ((e.up 7).put (e.next+4) (.cells [.int .u8 2,w] ag true)) (e.next+5) 2 32 ag o (.own (e.next+4) 0 1 1 2 true)=some (.own (e.next+5) 0 n8 n8 2 false,H8):=e8;refine zW (aO K av f ar) ?_;refine ⟨k8,_,rfl,?_⟩;rw [BU hj,Xz,<- YA];simp only [uz,B3,ah];exact b8
  ·rintro T6 B K ap W ⟨o,f,F⟩;simp only [uz,B3,Ae,and_true] at f;rw [KO] at F;refine zW (aE K @aZ) ?_;exact ⟨o,f,W,F⟩
 rintro T6 B ap ⟨bu,a4,a6,aW⟩;have K:T6.length=79:=ap.len.trans t;refine WC.wb ?_;refine zW (aD K @a4 aL) ?_;have hG:Lin.gensP n l=(L.map fun r=>(1,r))++R.map fun r=>(Lin.kindOf r,r):=by
  unfold Lin.gensP;rw [<- aH,a5,<- hL,<- hR];rfl
 rw [hG];exact ⟨aW.sl,k4.trans a6⟩
def xN (C:Code tab) (G:Wf H) {a b:AV} {l m:List Nat} (ha:Lb H a l) (hb:Lb H b m) (E:l.length<4611686018427387904) :
  Ans tab (.fn dq [a,b]) H fun v H'=>v=.bool (decide (l=m))/\Kp H H':=by
 refine bA C.q118 zU fun T hl d f=>?_;by_cases he:l.length=m.length
 ·have D:lenV b=some (.int .i64 (l.length:Int)):=by rw [hb.lenV,he]
  refine zW (bB hl d f ha.lenV D) ?_;refine aq H [] (fun j _ _=>∀ q (h:q<l.length) (h':q<m.length),q<j->l[q]=m[q]) (a:=0) (N:=l.length) rfl (by refine zW (aD hl d f) ?_; rfl) (zV (aD hl d f)) (xq _) zO (by simp only [dz,hl]; rfl) rfl (fun _ _ _ _ h=>h) zK (fun q _ _ h=>by omega) ?_ ?_
  ·intro i T1 z _ hi c B r g k;have w1:=g.wf;have I:=g.le;have t0:ad T1 0=a:=(r.at_ 0 zU).trans (zV (aE hl d));have t1:ad T1 1=b:=(r.at_ 1 zU).trans (zV (aO hl d f f));have s:i<m.length:=zO;obtain ⟨w,hr,x⟩:=SlV.at1 (ha.mono g.sub) (eA hi);obtain ⟨w',p,y⟩:=SlV.at1 (hb.mono g.sub) (eA s);have hr:w=.int .u64 ((l[i]:Nat):Int):=hr;have p:w'=.int .u64 ((m[i]:Nat):Int):=p;subst hr; subst p;have t:=SlV.idx1 ha .i64 i hi;have u:=SlV.idx1 hb .i64 i s;simp only [dz,hl] at c;refine zW (aO c t0 t1 B) ?_;refine aF ?_;by_cases n:l[i]=m[i]
   ·have o:((l[i]:Nat):Int)=((m[i]:Nat):Int):=zO;refine zD (fX c t0 t1 t x u y o) ?_;refine ⟨zK,fun q h h' F=>?_⟩;by_cases eq:q=i
    ·subst eq; exact n
    ·exact k q h h' zO
   ·have o:¬ ((l[i]:Nat):Int)=((m[i]:Nat):Int):=zO;refine zD (jU c t0 t1 t x u y o n) ?_;refine ⟨?_,zK⟩;rw [decide_eq_false];intro e; subst e; exact n rfl
  ·intro T1 z c r g k;simp only [dz,hl] at c;refine zW c ?_;exact ⟨by rw [decide_eq_true (jg he fun q h h'=>k q h h' h)],zK⟩
 ·have A:¬ (l.length:Int)=(m.length:Int):=zO;refine zW (fo hl d f ha.lenV hb.lenV A he) ?_;refine ⟨?_,zK⟩;rw [decide_eq_false];intro e; subst e; exact he rfl
def AH (C:Code tab) (i:Wf H) {a b:AV} {x y:Int} (ha:IntV H a x) (hb:IntV H b y) (hx:dD x) :
  Ans tab (.fn js [a,b]) H fun v H'=>v=.bool (decide (x=y))/\Kp H H':=by
 obtain ⟨p,rfl,hp⟩:=ha;obtain ⟨q,rfl,f⟩:=hb;have op:=hp.one;have j:=f.one;unfold dD Sm at hx;refine bA C.q86 zU fun T hl c d=>?_;by_cases h:decide (x<0)=decide (y<0)
 ·have h':(decide (x<0) == decide (y<0))=true:=by rw [h]; simp
  refine zW (aO hl c d h') ?_;refine AnsH.eq (xN C zF (hp.mono (zG H)) (f.mono (zG H)) zO) fun H2 g=>?_;obtain ⟨k2,_,_⟩:=zT H zK g;refine zW (aD hl c d) ?_;refine ⟨?_,zK⟩;by_cases e:x=y
  ·rw [decide_eq_true e,decide_eq_true (by rw [e])]
  ·rw [decide_eq_false e,decide_eq_false];intro h2
   have:=DA h2
   have h3:(x<0) ↔ (y<0):=by simpa using h
   omega
 ·have h':(decide (x<0) == decide (y<0))=false:=by simpa using h
  refine zW (aO hl c d h') ?_;refine ⟨?_,zK⟩;rw [decide_eq_false];intro e; subst e; exact h rfl
def AM (C:Code tab) (K:Wf H) {a b:AV} {l m:List Int} (ha:RowV H a l) (hb:RowV H b m) (Q:l.length<1099511627776) (hz:∀ z∈l,dD z) :
  Ans tab (.fn uN [a,b]) H fun v H'=>v=.bool (decide (l=m))/\Kp H H':=by
 have key:∀ {H:Heap},Wf H->RowV H a l->RowV H b m->Ans tab (.fn bj [a,b,.fn (.func js) [] []]) H fun v H'=>v=.bool (decide (l=m))/\Kp H H':=by
  intro H K ha hb;refine lC C.q120 zU fun T hl c d f=>?_;by_cases he:l.length=m.length
  ·have M:lenV b=some (.int .i64 (l.length:Int)):=by rw [hb.lenV,he]
   refine zW (dj hl c d f ha.lenV M) ?_;refine aq H [] (fun j _ _=>∀ q (h:q<l.length) (h':q<m.length),q<j->l[q]=m[q]) (a:=0) (N:=l.length) rfl (by refine zW (aO hl c d f) ?_; rfl) (zV (aO hl c d f)) (xq _) zO (by simp only [dz,hl]; rfl) rfl (fun _ _ _ _ h=>h) zK (fun q _ _ h=>by omega) ?_ ?_
   ·intro j T1 o _ hj g F n k p;have w1:=k.wf;have S:=k.le;have J:j<m.length:=zO;have O:ad T1 15=a:=(n.at_ 15 zU).trans (zV (aE hl c));have t1:ad T1 1=b:=(n.at_ 1 zU).trans (zV (bB hl c d f d));have P:ad T1 2=.fn (.func js) [] []:=(n.at_ 2 zU).trans (zV (bB hl c d f f));obtain ⟨w,hn,L0,G⟩:=nG w1 (ha.mono k.sub) hj;obtain ⟨u,s,L,I⟩:=nG w1 (hb.mono k.sub) J;have V:=hn.one;have U:=s.one;have D:=L0.put;have A:=L0.ld;have B:=L.put;have t:=L.ld;simp only [dz,hl] at g;refine zW (ia g O t1 P F G D A I B t) ?_;refine AnsH.eq (AH C (x:=l[j]) (y:=m[j]) zF ⟨w,rfl,hn.mono (zG o)⟩ ⟨u,rfl,s.mono (zG o)⟩ (hz _ (mQ hj))) fun H2 r=>?_;obtain ⟨k2,_,_⟩:=zT H zK r;cases i:decide (l[j]=m[j]) with
    | true =>
     have i:=of_decide_eq_true i;refine zW g ?_;refine ⟨zK,fun q h h' R=>?_⟩;by_cases e:q=j
     ·subst e; exact i
     ·exact p q h h' zO
    | false =>
     have i:=of_decide_eq_false i;refine zW g ?_;refine ⟨?_,zK⟩;rw [decide_eq_false];intro e; subst e; exact i rfl
   ·intro T1 o g n k p;simp only [dz,hl] at g;refine zW g ?_;exact ⟨by rw [decide_eq_true (jg he fun q h h'=>p q h h' h)],zK⟩
  ·have E:¬ (l.length:Int)=(m.length:Int):=zO;refine zW (fX hl c d f ha.lenV hb.lenV E he) ?_;refine ⟨?_,zK⟩;rw [decide_eq_false];intro e; subst e; exact he rfl
 refine bA C.q90 zU fun T hl c d=>?_;refine zW (aD hl c d) ?_;refine AnsH.eq (key zF (ha.mono (zG H)) (hb.mono (zG H))) fun H2 r=>?_;obtain ⟨k2,_,_⟩:=zT H zK r;refine zW (aD hl c d) ?_;exact zK
end
section
open Lin
variable {n:Nat} {g:List (Nat × V)}
def Jh {j:Nat} (hj:j<g.length):linesOf (g.take (j+1))=if g[j].1=1 then linesOf (g.take j)++[g[j].2] else linesOf (g.take j):=by
 rw [BU hj];unfold linesOf;rw [XY,Xz];by_cases h:g[j].1=1 <;> simp [h]
def LZ {j:Nat} (hj:j<g.length):raysOf (g.take (j+1))=if g[j].1=1 then raysOf (g.take j) else raysOf (g.take j)++[g[j].2]:=by
 rw [BU hj];unfold raysOf;rw [XY,Xz];by_cases h:g[j].1=1 <;> simp [h]
def LJ {j:Nat} (hj:j<g.length):(g.take (j+1)).any (fun x=>x.1 == 3)=((g.take j).any (fun x=>x.1 == 3) || g[j].1 == 3):=by
 rw [BU hj,List.any_append]
 simp
def GJ (g:List (Nat × V)):(linesOf g).length<=g.length:=by
 unfold linesOf;rw [rR];exact Yf _ _
def WG (g:List (Nat × V)):(raysOf g).length<=g.length:=by
 unfold raysOf;rw [rR];exact Yf _ _
def yi {x:V} (h:x∈raysOf g):∃ y∈g,y.2=x:=by
 obtain ⟨k,-,h⟩:=mem_rays.1 h;exact ⟨_,h,rfl⟩
end
section
variable {tab:Nat->Option aA} {H:Heap} {s:AV}
set_option maxHeartbeats 4000000 in
def yr (C:Code tab) (hw:Wf H) {n m:Nat} {g:List (Nat × List Int)} (hs:SlV genE ag H s g) (hn:n<=4) (bs:g.length<=1023) (a7:g.length^n<1099000000000) (aU:∀ x∈g,x.2.length=n+1/\Lin.Bd (2^m) x.2) (hm:m<=300000) :
  Ans tab (.fn rK [.int .i64 (n:Int),s]) H fun v H'=>SlV conE t_api_Con H' v (Lin.consP n g)/\Kp H H':=by
 refine Am C.q57 rfl rfl zU fun T hl g'=>?_;have hl:T.length=84:=hl;have aV:c_dual_cons.results=[(4,none)]:=rfl;have g0:ad T 0=.int .i64 (n:Int):=g' 0 (by simp);have g1:ad T 1=s:=g' 1 (by simp);refine aI ?_;refine zW (aE hl @aw) ?_;refine aI ?_;refine zW (aE hl @aw) ?_;refine aI ?_;refine zW (aE hl @aw) ?_;refine dy (fun T' H'=>∃ t u,ad T' 5=t/\ad T' 6=u/\ad T' 7=.bool (g.any fun x=>x.1 == 3)/\Kp H H'/\pb H' t (Lin.linesOf g)/\pb H' u (Lin.raysOf g)) rfl ?_ ?_
 ·refine zW (aD hl g1 hs.lenV) ?_;refine aq H [5,6,7] (fun j vs H'=>∃ t u,vs=[t,u,.bool ((g.take j).any fun x=>x.1 == 3)]/\Bq rowsE af H H' t (Lin.linesOf (g.take j))/\Bq rowsE af H H' u (Lin.raysOf (g.take j))/\Sep t u) (a:=0) (N:=g.length) rfl (by refine zW hl ?_; rfl) (zV hl) (xq _) zO (by simp only [dz,hl]; rfl) rfl (fun j vs H' m ⟨t,u,q1,q2,q3,q4⟩=>⟨t,u,q1,q2.mono (Sub.bump H' m),q3.mono (Sub.bump H' m),q4⟩) zK ⟨.nilSl,.nilSl,by refine zW hl ?_; rfl,Bq.nil,Bq.nil,fun b h=>by cases h⟩ ?_ ?_
  ·rintro j T2 H2 _ hj M aK aj W ⟨t,u,f,S,U,ay⟩;have w2:=W.wf;have bx:=W.le;have bh:=W.le;simp only [uz,B3,Ae,and_true] at f;obtain ⟨v5,v6,v7⟩:=f;have aT:ad T2 17=s:=(aj.at_ 17 zU).trans (zV (aE hl g1));obtain ⟨cs,⟨w,rfl,hr⟩,bt,-,O⟩:=(hs.mono W.sub).at (eA hj);have ab:cS 2 s (.int .i64 (j:Int))=some (aB s (j*2)):=SlV.idx hs .i64 j hj;have O:bk H2 (some 2) (aB s (j*2))=some (.agg [.int .u8 (g[j].1:Int),w]):=O;have ow:=hr.one;simp only [dz,hl] at M;have he:=Jh (g:=g) hj;have hi:=LZ (g:=g) hj;have aP:=LJ (g:=g) hj;have l5:=GJ (g.take j);have l6:=WG (g.take j);rw [L9] at l5 l6;have aR:∀ K:Nat,6<=K->∃ I,I=((H2.up K).put (H2.next+2) (.cells [.int .u8 0,.nilSl] ag true)).put (H2.next+2) (.cells [.int .u8 (g[j].1:Int),w] ag true)/\Kp H2 I/\I.next=H2.next+K/\(∀ c,H2.next<=c->c≠H2.next+2->I.get c=none):=fun K hK=>by
    refine ⟨_,rfl,zK,rfl,fun c h1 h2=>?_⟩;rw [au h2,au h2]; exact w2.fresh h1
   by_cases V:g[j].1=1
   ·have ap:(g[j].1:Int)=1:=zO;rw [ap] at O;obtain ⟨I,J,i,nx,Y⟩:=aR 14 zO;rw [ap] at J;obtain ⟨l,F,e6,b6,k6,aS,f6,-⟩:=Bq.push (ty2:=af) (bytes:=24) (id:=H2.next+12) (id2:=H2.next+11) (cs:=[w]) (a:=g[j].2) (S.mono i.sub) zU (W.trans i) ⟨w,rfl,hr.mono i.sub⟩ zO zO (Y _ zO zO) zO zO (Y _ zO zO) zO zO zO;have aa:dr ((((H2.up 14).put (H2.next+2) (.cells [.int .u8 0,.nilSl] ag true)).put (H2.next+2) (.cells [.int .u8 1,w] ag true)).put (H2.next+11) (.cells [w] af true)) (H2.next+12) 1 24 af t (.own (H2.next+11) 0 1 1 1 true)=some (.own (H2.next+12) 0 l l 1 false,F):=by rw [J] at e6; exact e6
    refine zW (jU M aT aK ab O v5 v6 v7 aa) ?_;have aJ:(g[j].1 == 3)=false:=by rw [V]; rfl
    rw [aP,aJ,Bool.or_false];refine ⟨k6,.own (H2.next+12) 0 l l 1 false,u,rfl,?_,?_,?_⟩
    ·rw [he,if_pos V]; exact b6
    ·rw [hi,if_pos V]; exact f6.bq (S.mono i.sub) (U.mono i.sub) ay zU
    ·intro b h1 h2
     have:=U.lt w2 h2
     cases h1;omega
   have ap:¬ (g[j].1:Int)=1:=zO;have br:(g[j].1 == 1)=false:=by simpa using V
   by_cases c3:g[j].1=3
   ·have ar:(g[j].1:Int)=3:=zO;rw [ar] at O;obtain ⟨I,J,i,nx,Y⟩:=aR 17 zO;rw [ar] at J;obtain ⟨l,F,e6,b6,k6,aS,f6,-⟩:=Bq.push (ty2:=af) (bytes:=24) (id:=H2.next+15) (id2:=H2.next+14) (cs:=[w]) (a:=g[j].2) (U.mono i.sub) zU (W.trans i) ⟨w,rfl,hr.mono i.sub⟩ zO zO (Y _ zO zO) zO zO (Y _ zO zO) zO zO zO;have aa:dr ((((H2.up 17).put (H2.next+2) (.cells [.int .u8 0,.nilSl] ag true)).put (H2.next+2) (.cells [.int .u8 3,w] ag true)).put (H2.next+14) (.cells [w] af true)) (H2.next+15) 1 24 af u (.own (H2.next+14) 0 1 1 1 true)=some (.own (H2.next+15) 0 l l 1 false,F):=by rw [J] at e6; exact e6
    refine zW (jU M aT aK ab O v5 v6 v7 aa) ?_;have aJ:(g[j].1 == 3)=true:=by rw [c3]; rfl
    rw [aP,aJ,Bool.or_true];refine ⟨k6,t,.own (H2.next+15) 0 l l 1 false,rfl,?_,?_,?_⟩
    ·rw [he,if_neg V]; exact f6.bq (U.mono i.sub) (S.mono i.sub) ay.symm zU
    ·rw [hi,if_neg V]; exact b6
    ·intro b h1 h2
     have:=S.lt w2 h1
     cases h2;omega
   ·have ar:¬ (g[j].1:Int)=3:=zO;have a3:(g[j].1 == 3)=false:=by simpa using c3
    obtain ⟨I,J,i,nx,Y⟩:=aR 16 zO;obtain ⟨l,F,e6,b6,k6,aS,f6,-⟩:=Bq.push (ty2:=af) (bytes:=24) (id:=H2.next+14) (id2:=H2.next+13) (cs:=[w]) (a:=g[j].2) (U.mono i.sub) zU (W.trans i) ⟨w,rfl,hr.mono i.sub⟩ zO zO (Y _ zO zO) zO zO (Y _ zO zO) zO zO zO;have aa:dr ((((H2.up 16).put (H2.next+2) (.cells [.int .u8 0,.nilSl] ag true)).put (H2.next+2) (.cells [.int .u8 (g[j].1:Int),w] ag true)).put (H2.next+13) (.cells [w] af true)) (H2.next+14) 1 24 af u (.own (H2.next+13) 0 1 1 1 true)=some (.own (H2.next+14) 0 l l 1 false,F):=by rw [J] at e6; exact e6
    refine zW (ia M aT aK ab O v5 v6 v7 aa ap ar) ?_;rw [aP,a3,Bool.or_false];refine ⟨k6,t,.own (H2.next+14) 0 l l 1 false,rfl,?_,?_,?_⟩
    ·rw [he,if_neg V]; exact f6.bq (U.mono i.sub) (S.mono i.sub) ay.symm zU
    ·rw [hi,if_neg V]; exact b6
    ·intro b h1 h2
     have:=S.lt w2 h1
     cases h2;omega
  ·rintro T2 H2 M aj W ⟨t,u,f,S,U,ay⟩;simp only [uz,B3,Ae,and_true] at f;rw [KO] at S U f;refine zW (aE M @aZ) ?_;exact ⟨t,u,f.1,f.2.1,f.2.2,W,S.sl,U.sl⟩
 rintro T2 H2 aj ⟨t,u,v5,v6,v7,k2,r5,r6⟩;have w2:=k2.wf;have bh:=k2.le;have u0:ad T2 0=.int .i64 (n:Int):=(aj.at_ 0 zU).trans (zV (aE hl g0));have u4:ad T2 4=.nilSl:=(aj.at_ 4 zU).trans (zV hl);have M:T2.length=84:=aj.len.trans (by simp only [dz]; exact hl);refine dy (fun T' H'=>Kp H2 H'/\ad T' 4=.nilSl/\(g.any fun x=>x.1 == 3)=true) rfl ?_ ?_
 ·cases hc:g.any fun x=>x.1 == 3 with
  | true =>
   rw [hc] at v7;refine zW (aO M v7 u4 @aZ) ?_;exact zK
  | false =>
   rw [hc] at v7;refine zW (aD M v7 u0) ?_;refine AnsH.use (yq C (n:=n) (k:=-1) zF zO zO zO) ?_;rintro v P ⟨hr,aL⟩;obtain ⟨k23,_,_⟩:=zT H2 zK aL;have k3:Kp H P:=k2.trans k23;have bj:=k3.le;have w3:=k3.wf;have ov:=hr.one;have n3:H2.next+7<=P.next:=aL.le
   have f3:P.get (H2.next+5)=none:=aL.free (show H2.next+5<H2.next+7 by omega) (w2.fresh (b:=H2.next+5) zO);refine zW (aO M (Az ov) @wP aV) ?_;refine ⟨?_,zK⟩;have e:Lin.consP n g=[(Lin.unitC n (-1),false)]:=by unfold Lin.consP; rw [if_neg (by rw [hc]; decide)]
   rw [e];obtain ⟨I,J⟩:∃ I,I=P.put (H2.next+5) (.cells [v,.bool false] t_api_Con true):=⟨_,rfl⟩
   have sx:Sub P I:=by rw [J]; exact aG f3
   have:Own conE t_api_Con H I (H2.next+5) true (.own (H2.next+5) 0 1 1 2 true) [(Lin.unitC n (-1),false)]:=⟨[v,.bool false],rfl,by rw [J]; exact al _ _ _,Cells.one (E:=conE) ⟨v,rfl,hr.mono sx⟩,zO⟩
   rw [<- J];exact this.sl
 rintro T3 P ax ⟨k23,x4,bd⟩;have k3:Kp H P:=k2.trans k23;have bj:=k3.le;have w3:=k3.wf;have bu:=k3.le;have x0:ad T3 0=.int .i64 (n:Int):=(ax.at_ 0 zU).trans u0;have x5:ad T3 5=t:=(ax.at_ 5 zU).trans v5;have x6:ad T3 6=u:=(ax.at_ 6 zU).trans v6;have aM:T3.length=84:=ax.len.trans M;have hE:∀ a∈Lin.linesOf g,a.length=n+1/\Lin.Bd (2^m) a:=fun a ha=>aU _ (Lin.mem_lines.1 ha);have hI:∀ a∈Lin.raysOf g,a.length=n+1/\Lin.Bd (2^m) a:=fun a ha=>by
  obtain ⟨y,hy,rfl⟩:=yi ha;exact aU _ hy
 have lE:=GJ g;have lI:=WG g;obtain ⟨V,c2⟩:=vL (d:=n+1) (m:=m) zO zO hE hI;have hT:=Lin.gens_told (d:=n+1) (fun a ha=>(hE a ha).1) (fun a ha=>(hI a ha).1);have lL:=ech_len hT.form;have a6:(Lin.raysOf g).length^n<1099000000000:=XK (YI lI n) a7;have lR:(Lin.gensR (n+1) (Lin.linesOf g) (Lin.raysOf g)).length<=1099000000000:=by
  have:=hT.dd.count3 (fun a ha=>(hI a ha).1)
  simp only [YP] at this;omega
 obtain ⟨L,hL⟩:∃ L,L=Lin.gensL (n+1) (Lin.linesOf g) (Lin.raysOf g):=⟨_,rfl⟩
 obtain ⟨R,hR⟩:∃ R,R=Lin.gensR (n+1) (Lin.linesOf g) (Lin.raysOf g):=⟨_,rfl⟩
 have bl:∀ r∈R,r.length=n+1:=fun r hr=>by rw [hR] at hr; exact (c2 r hr).1
 have bn:∀ r∈R,∀ z∈r,dD z:=fun r hr z hz=>by
  rw [hR] at hr;exact (fu (c2 r hr).2 z hz).sm zO
 have ej:IntKind.i64.wrap ((n:Int)+1)=((n+1:Nat):Int):=by rw [wrap_i64] <;> omega
 refine dy (fun T' H'=>∃ p q,ad T' 10=p/\ad T' 11=q/\Kp H H'/\pb H' p L/\pb H' q R) rfl ?_ ?_
 ·refine zW (bB aM x0 x5 x6 ej) ?_;refine AnsH.use (Ch C (d:=n+1) (m:=m) zF ((r5.mono k23.sub).mono (zG P)) ((r6.mono k23.sub).mono (zG P)) zO zO zO zO (by simpa using a6) hE hI hm) ?_;rintro v D ⟨p,q,rfl,hp,hq,ba⟩;obtain ⟨bf,_,_⟩:=zT P zK ba;have k4:Kp H D:=k3.trans bf;have bC:=k4.le;refine zW (aE aM @aZ) ?_;rw [hL,hR];exact ⟨p,q,rfl,rfl,zK,hp,hq⟩
 rintro T4 D aN ⟨p,q,aY,bq,k4,hp,hq⟩;have w4:=k4.wf;have bv:=k4.le;have y0:ad T4 0=.int .i64 (n:Int):=(aN.at_ 0 zU).trans x0;have y4:ad T4 4=.nilSl:=(aN.at_ 4 zU).trans x4;have Z:T4.length=84:=aN.len.trans aM;rw [<- hL] at lL;rw [<- hR] at lR;refine dy (fun T' H'=>∃ o,ad T' 4=o/\Kp D H'/\Bq conE t_api_Con D H' o (L.map fun r=>(r,true))) rfl ?_ ?_
 ·refine zW (aD Z aY hp.lenV) ?_;refine aq D [4] (fun j vs H'=>∃ o,vs=[o]/\Bq conE t_api_Con D H' o ((L.take j).map fun r=>(r,true))) (a:=0) (N:=L.length) rfl (by refine zW Z ?_; rfl) (zV Z) (xq _) zO (by simp only [dz,Z]; rfl) rfl (fun j vs H' m ⟨o,q1,q2⟩=>⟨o,q1,q2.mono (Sub.bump H' m)⟩) (Kp.up (Kp.refl w4) _) ⟨.nilSl,by exact zV (aE Z y4),Bq.nil⟩ ?_ ?_
  ·rintro j T5 B _ hj A a8 am ae ⟨o,f,Q⟩;have w5:=ae.wf;have bz:=ae.le;have bi:=ae.le;simp only [uz,B3,Ae,and_true] at f;have t55:ad T5 55=p:=(am.at_ 55 zU).trans (zV (aE Z aY));obtain ⟨w,hr,O⟩:=dH (hp.mono ae.sub) hj;have ab:=SlV.idx1 hp .i64 j hj;have ow:=hr.one;simp only [dz,Z] at A;obtain ⟨l,F,e6,b6,k6,aS,f6,-⟩:=Bq.push (ty2:=t_api_Con) (bytes:=32) (id:=B.next+7) (id2:=B.next+6) (H:=B.up 9) (cs:=[w,.bool true]) (a:=(L[j],true)) (Q.mono (Sub.bump B 9)) zU (ae.up 9) ⟨w,rfl,hr.mono (Sub.bump B 9)⟩ zO (by rw [dg]; omega) (w5.fresh zO) zO (by rw [dg]; omega) (w5.fresh zO) zO (by simp; omega) (by simp; omega);have aa:dr ((B.up 9).put (B.next+6) (.cells [w,.bool true] t_api_Con true)) (B.next+7) 2 32 t_api_Con o (.own (B.next+6) 0 1 1 2 true)=some (.own (B.next+7) 0 l l 2 false,F):=e6;refine zW (fo A t55 a8 ab O f aa) ?_;refine ⟨k6,_,rfl,?_⟩;rw [BU hj,Xz];exact b6
  ·rintro T5 B A am ae ⟨o,f,Q⟩;simp only [uz,B3,Ae,and_true] at f;rw [KO] at Q;refine zW (aE A @aZ) ?_;exact ⟨o,f,ae,Q⟩
 rintro T5 B am ⟨bm,z4,aQ,a1⟩;have w5:=aQ.wf;have bi:=aQ.le;have z0:ad T5 0=.int .i64 (n:Int):=(am.at_ 0 zU).trans y0;have a0:ad T5 11=q:=(am.at_ 11 zU).trans bq;have A:T5.length=84:=am.len.trans Z;refine dy (fun T' H'=>∃ o,ad T' 4=o/\Kp D H'/\Bq conE t_api_Con D H' o ((L.map fun r=>(r,true))++(R.filter fun r=>!decide (r=Lin.unitC n 1)).map fun r=>(r,false))) rfl ?_ ?_
 ·refine zW (aD A a0 hq.lenV) ?_;refine aq D [4] (fun j vs H'=>∃ o,vs=[o]/\Bq conE t_api_Con D H' o ((L.map fun r=>(r,true))++((R.take j).filter fun r=>!decide (r=Lin.unitC n 1)).map fun r=>(r,false))) (a:=0) (N:=R.length) rfl (by refine zW A ?_; rfl) (zV A) (xq _) zO (by simp only [dz,A]; rfl) rfl (fun j vs H' m ⟨o,q1,q2⟩=>⟨o,q1,q2.mono (Sub.bump H' m)⟩) (aQ.up _) ⟨bm,by exact zV (aE A z4),by rw [List.take_zero,ZH,B3,X5]; exact a1.mono (Sub.bump B _)⟩ ?_ ?_
  ·rintro j T6 F _ hj X a9 ao ah ⟨o,f,Q⟩;have w6:=ah.wf;have bA:=ah.le;have bw:=ah.le;simp only [uz,B3,Ae,and_true] at f;have t0:ad T6 0=.int .i64 (n:Int):=(ao.at_ 0 zU).trans (zV (aE A z0));have bp:ad T6 67=q:=(ao.at_ 67 zU).trans (zV (aE A a0));obtain ⟨w,hr,O⟩:=dH (hq.mono ah.sub) hj;have ab:=SlV.idx1 hq .i64 j hj;have ow:=hr.one;simp only [dz,A] at X;have hm:=mQ hj;refine zW (dj X t0 bp a9 ab O) ?_;refine AnsH.use (yq C (n:=n) (k:=1) zF zO zO zO) ?_;rintro v H7 ⟨hu,bb⟩;obtain ⟨aF,_,_⟩:=zT F zK bb;have aW:Kp D H7:=ah.trans aF;have bD:=aW.le;have w7:=aF.wf;refine zW X ?_;refine AnsH.eq (AM C zF ((hr.mono aF.sub).mono (zG H7)) (hu.mono (zG H7)) (by rw [bl _ hm]; omega) (bn _ hm)) fun G bc=>?_;obtain ⟨aX,_,_⟩:=zT H7 zK bc;have aC:Kp D G:=aW.trans aX;have bE:=aC.le;have aH:Kp F G:=aF.trans aX;have bF:=aH.le;have w8:=aC.wf;by_cases av:R[j]=Lin.unitC n 1
   ·refine zW (aD X f av) ?_;refine ⟨aC,_,rfl,?_⟩;rw [BU hj,XY];simp only [av,YR,ZH,decide_true,ZU,XC,if_false,X5];exact Q.mono aH.sub
   ·have lf:((R.take j).filter fun r=>!decide (r=Lin.unitC n 1)).length<=R.length:=B5 (Yf _ _) (by rw [L9]; omega);obtain ⟨n8,H9,e8,b8,k8,bG,f8,-⟩:=Bq.push (ty2:=t_api_Con) (bytes:=32) (id:=G.next+4) (id2:=G.next+3) (H:=G.up 6) (cs:=[w,.bool false]) (a:=(R[j],false)) ((Q.mono aH.sub).mono (Sub.bump G 6)) zU (aC.up 6) ⟨w,rfl,(hr.mono aH.sub).mono (Sub.bump G 6)⟩ zO (by rw [dg]; omega) (w8.fresh zO) zO (by rw [dg]; omega) (w8.fresh zO) zO (by rw [C5,rR,rR]; omega) (by rw [C5,rR,rR]; omega);have a5:dr ((G.up 6).put (G.next+3) (.cells [w,.bool false] t_api_Con true)) (G.next+4) 2 32 t_api_Con o (.own (G.next+3) 0 1 1 2 true)=some (.own (G.next+4) 0 n8 n8 2 false,H9):=e8;refine zW (bB X f av a5 (Az ow)) ?_;refine ⟨k8,_,rfl,?_⟩;rw [BU hj,XY];simp only [YR,ZH,av,decide_false,Bool.not_false,if_true,Xz,uz,B3,<- YA];exact b8
  ·rintro T6 F X ao ah ⟨o,f,Q⟩;simp only [uz,B3,Ae,and_true] at f;rw [KO] at Q;refine zW (aE X @aZ) ?_;exact ⟨o,f,ah,Q⟩
 rintro T6 F ao ⟨bI,a4,bg,a2⟩;have X:T6.length=84:=ao.len.trans A;refine WC.wb ?_;refine zW (aD X @a4 aV) ?_;have hG:Lin.consP n g=(L.map fun r=>(r,true))++(R.filter fun r=>!decide (r=Lin.unitC n 1)).map fun r=>(r,false):=by
  unfold Lin.consP;rw [if_pos bd,<- hL,<- hR]
 rw [hG];exact ⟨a2.sl,k4.trans bg⟩
end
def jj {x y z a b c:AV} {ty:Nat} (ha:One a) (hb:One b) (hc:One c):CS (some (.cells [x,y,z] ty true)) 3 0 (.agg [a,b,c])=some (.cells [a,b,c] ty true):=by
 simpa using fR (cs:=[x,y,z]) (vs:=[a,b,c]) (ty:=ty) (n:=3) (o:=0) (v:=.agg [a,b,c]) ⟨rfl,rfl,by simp [ha.2,hb.2,hc.2]⟩ (by simp)
def TO {x y z a b c:AV} (ha:One a) (hb:One b) (hc:One c):cE [x,y,z] [((0,1),a),((1,1),b),((2,1),c)]=some (.agg [a,b,c]):=by
 simp [cE,cB,ha.1,ha.2,hb.1,hb.2,hc.1,hc.2]
section
variable {H:Heap} {s:AV}
def Ho {ty:Nat} {l:List (List Int × Bool)} (h:SlV conE ty H s l):SlV conQE ty H s (l.map fun c=>(c.1.map bF,c.2)):=by
 obtain ⟨cells,hr,b,hc,ha⟩:=h;refine ⟨cells,hr,b,by rw [hc,rR]; rfl,fun i a hi=>?_⟩;rw [XA,wI] at hi;obtain ⟨z,hz,rfl⟩:=hi;obtain ⟨w,h1,h2⟩:=ha i z hz;exact ⟨w,h1,h2.raw⟩
def B6 {ty:Nat} {l:List (Nat × List Int)} (h:SlV genE ty H s l):SlV genQE ty H s (l.map fun c=>(c.1,c.2.map bF)):=by
 obtain ⟨cells,hr,b,hc,ha⟩:=h;refine ⟨cells,hr,b,by rw [hc,rR]; rfl,fun i a hi=>?_⟩;rw [XA,wI] at hi;obtain ⟨z,hz,rfl⟩:=hi;obtain ⟨w,h1,h2⟩:=ha i z hz;exact ⟨w,h1,h2.raw⟩
end
def vp (z:Int):aR (bF z)=z:=by
 unfold aR bF;simp only [bM];by_cases h:z<0
 ·simp [h]; omega
 ·simp [h]; omega
def Pj (l:List Int):(l.map bF).map aR=l:=by
 rw [YV]
 conv=>rhs; rw [<- ZZ l]
 exact Ym fun z _=>vp z
section
open Lin
variable {n m:Nat}
def wK {l:List (V × Bool)} (hn:n<=5) (h:∀ c∈l,c.1.length=n+1/\Bd (2^m) c.1):∀ x∈gensP n l,x.2.length=n+1/\Bd (2^(64*(m+4))) x.2:=fun x hx=>by
 have f:∀ a∈eqsOf l,a.length=n+1/\Bd (2^m) a:=fun a ha=>h _ (mem_eqs.1 ha);have g:∀ a∈ineqsOf n l,a.length=n+1/\Bd (2^m) a:=fun a ha=>by
  rcases mem_ineqs.1 ha with rfl | ha
  ·exact ⟨unitC_len n 1,EB n m⟩
  ·exact h _ ha
 obtain ⟨b,e⟩:=vL (d:=n+1) (m:=m) zO zO f g;unfold gensP at hx;split at hx
 ·rcases Eu.1 hx with hx | hx
  ·obtain ⟨r,hr,rfl⟩:=nC.1 hx;exact b r hr
  ·obtain ⟨r,hr,rfl⟩:=nC.1 hx;exact e r hr
 ·cases hx
def N3 (n m:Nat):Bd (2^m) (unitC n (-1)):=fun i=>by
 have h1:1<=2^m:=Pm zU;unfold unitC at_;cases i with
 | zero=>simpa using h1
 | succ i =>
  rw [Yh,iF,XG];split <;> simp
def Hp {g:List (Nat × V)} (hn:n<=5) (h:∀ x∈g,x.2.length=n+1/\Bd (2^m) x.2):∀ c∈consP n g,c.1.length=n+1/\Bd (2^(64*(m+4))) c.1:=fun x hx=>by
 have f:∀ a∈linesOf g,a.length=n+1/\Bd (2^m) a:=fun a ha=>h _ (mem_lines.1 ha);have i:∀ a∈raysOf g,a.length=n+1/\Bd (2^m) a:=fun a ha=>by
  obtain ⟨y,hy,rfl⟩:=yi ha;exact h _ hy
 obtain ⟨b,e⟩:=vL (d:=n+1) (m:=m) zO zO f i;unfold consP at hx;split at hx
 ·rcases Eu.1 hx with hx | hx
  ·obtain ⟨r,hr,rfl⟩:=nC.1 hx;exact b r hr
  ·obtain ⟨r,hr,rfl⟩:=nC.1 hx;exact e r (C4.1 hr).1
 ·rw [Ld] at hx;subst hx;exact ⟨unitC_len n (-1),N3 n _⟩
def IS {k n:Nat} (a:k<=1023) (hn:n<=4):k^n<1099000000000:=by
 have h1:k^n<=1023^n:=YI a n;have h2:1023^n<=1023^4:=JR zU hn;have h3:(1023:Nat)^4=1095222947841:=by decide
 omega
end
abbrev rr:AV:=.agg [.int .i64 0,.nilSl,.nilSl]
def PolyV (H:Heap) (v:AV) (n:Nat) (c:List (List Int × Bool)) (g:List (Nat × List Int)):Prop:=∃ a b,v=.agg [.int .i64 (n:Int),a,b]/\SlV conE t_api_Con H a c/\SlV genE ag H b g
def PolyV.mono {H H':Heap} (hs:Sub H H') {v:AV} {n:Nat} {c:List (List Int × Bool)} {g:List (Nat × List Int)} (h:PolyV H v n c g):PolyV H' v n c g:=by
 obtain ⟨a,b,e,h1,h2⟩:=h;exact ⟨a,b,e,h1.mono hs,h2.mono hs⟩
def py (H:Heap) (v:AV) (n:Nat) (g:List (Nat × List Int)):Prop :=
 (v=.tup [rr,.int .i64 4]/\(1024<=g.length\/1024<=(Lin.consP n g).length))\/∃ p,v=.tup [p,.int .i64 0]/\PolyV H p n (Lin.consP n g) g/\g.length<1024/\(Lin.consP n g).length<1024
section
variable {tab:Nat->Option aA} {H:Heap} {s:AV}
def DK (C:Code tab) (j:Wf H) {n m:Nat} {g:List (Nat × List Int)} (hs:SlV genE ag H s g) (i:g.length<1099511627776) (hn:n<=4) (f:∀ x∈g,x.2.length=n+1/\Lin.Bd (2^m) x.2) (hm:m<=300000) :
  Ans tab (.fn rJ [.int .i64 (n:Int),s]) H fun v H'=>py H' v n g/\Kp H H':=by
 have os:=hs.one;refine bA C.q43 zU fun T hl a c=>?_;by_cases q1:(1024:Int)<=(g.length:Int)
 ·refine zW (dj hl a c hs.lenV q1 @jj) ?_;exact ⟨.inl ⟨rfl,.inl zO⟩,zK⟩
 refine zW (bB hl a c hs.lenV q1) ?_;refine AnsH.use (yr C zF (hs.mono (zG H)) hn zO (IS zO hn) f hm) ?_;rintro v H2 ⟨hc,d⟩;obtain ⟨k2,_,h⟩:=zT H zK d;have ov:=hc.one;have d0:=d.get (b:=H.next) (e:=.cells [.int .i64 0,.nilSl,.nilSl] am true) (cC);have k:=h _ _ d0;by_cases q2:(1024:Int)<=((Lin.consP n g).length:Int)
 ·refine zW (fo hl a c hc.lenV q2 d0 @jj) ?_;exact ⟨.inl ⟨rfl,.inr zO⟩,zK⟩
 have st:NoTy [t_api_Con,aa,ae,ag] H2 H.next:=NoTy.ty d0 zU
 refine zW (fX hl hc.lenV q2 d0 a c @TO @jj) ?_;refine ⟨.inr ⟨_,rfl,⟨v,s,rfl,?_,?_⟩,zO,zO⟩,zK⟩
 ·have m3:NoTy (t_api_Con :: conE.tys) H2 H.next:=NoTy.ty d0 zU
  exact SlV.monoT (E:=conE) zS hc
 ·have m3:NoTy (ag :: genE.tys) H2 H.next:=NoTy.ty d0 zU
  exact SlV.monoT (E:=genE) zS (hs.mono k2.sub)
end
section
open Lin
variable {n:Nat}
def HC {l:List (V × Bool)} (hn:n<=8) (hl:l.length<=60) (h:∀ c∈l,c.1.length=n+1):dU n (l.map fun c=>(c.1.map bF,c.2))=0:=by
 unfold dU;rw [if_neg zO,if_neg (by rw [rR]; omega),if_neg,if_neg]
 ·rw [OL];rintro ⟨c,hc,h1⟩;obtain ⟨x,hx,rfl⟩:=nC.1 hc;have h1:=of_decide_eq_true h1
  have:=h x hx
  simp only [rR] at h1;omega
 ·rw [OL];rintro ⟨c,hc,h1⟩;obtain ⟨x,hx,rfl⟩:=nC.1 hc
  have:=h x hx
  rw [XE,ES zO] at h1;cases h1
def RW {l:List (V × Bool)} (hn:n<=60) (h:∀ c∈l,c.1.length=n+1/\∀ z∈c.1,dD z):∀ c∈l.map fun c=>(c.1.map bF,c.2),nr c.1:=fun c hc=>by
 obtain ⟨x,hx,rfl⟩:=nC.1 hc;exact vW (by rw [(h x hx).1]; omega) (h x hx).2
def zu {g:List (Nat × V)} (hn:n<=8) (hl:g.length<=60) (h:ValidG n g) (a:∀ x∈g,x.1=1\/x.1=2\/x.1=3):bI n (g.map fun c=>(c.1,c.2.map bF))=0:=by
 unfold bI;rw [if_neg zO,if_neg (by rw [rR]; omega),if_neg,if_neg]
 ·rw [OL];rintro ⟨c,hc,h1⟩;obtain ⟨x,hx,rfl⟩:=nC.1 hc;have h1:=of_decide_eq_true h1
  have:=(h x hx).1
  simp only [rR] at h1;omega
 ·rw [OL];rintro ⟨c,hc,h1⟩;obtain ⟨x,hx,rfl⟩:=nC.1 hc;obtain ⟨h2,h3,h4⟩:=h x hx;simp only [CZ,Pj,Yp,XE,ES (r:=x.2) zO,Gz] at h1;rcases h1 with h1 | h1
  ·cases h1
  ·rcases a x hx with e | e | e
   ·rw [if_pos (.inl e)] at h1;exact absurd (h4 zO) (of_decide_eq_true h1)
   ·rw [if_pos (.inr e)] at h1;exact absurd (h4 zO) (of_decide_eq_true h1)
   ·rw [if_neg zO,if_pos e] at h1
    have:=h3 e
    have:=of_decide_eq_true h1
    omega
def K9 {g:List (Nat × V)} (hn:n<=60) (h:∀ c∈g,c.2.length=n+1/\∀ z∈c.2,dD z):∀ c∈g.map fun c=>(c.1,c.2.map bF),nr c.2:=fun c hc=>by
 obtain ⟨x,hx,rfl⟩:=nC.1 hc;exact vW (by rw [(h x hx).1]; omega) (h x hx).2
end
section
variable {tab:Nat->Option aA} {H:Heap} {s:AV}
def Hg (C:Code tab) (j:Wf H) {n:Int} {l:List xA} (hs:SlV conQE t_api_Con H s l) (g:∀ c∈l,nr c.1) (h:l.length<4611686018427387904) (hc:dU n l≠0) :
  Ans tab (.fn pa [.int .i64 n,s]) H fun v H'=>v=.tup [rr,.int .i64 (dU n l)]/\Kp H H':=by
 refine bA C.q16 zU fun T hl a d=>?_;refine zW (aD hl a d) ?_;refine AnsH.eq (pj C zF (hs.mono (zG H)) g h) fun H2 f=>?_;obtain ⟨k2,_,i⟩:=zT H zK f;have d0:=f.get (b:=H.next) (e:=.cells [.int .i64 0,.nilSl,.nilSl] am true) (cC);have k:=i _ _ d0;have hc:¬ dU n l=0:=hc;refine zW (dj hl a d hc d0 @jj) ?_;exact zK
def qj (C:Code tab) (I:Wf H) {n m m2:Nat} {l:List (List Int × Bool)} (hs:SlV conE t_api_Con H s l) (hn:n<=4) (B:l.length<=60) (a:∀ c∈l,c.1.length=n+1/\Lin.Bd (2^m) c.1) (hm:m<=300000) (A:∀ x∈Lin.gensP n l,Lin.Bd (2^m2) x.2) (D:m2<=300000) :
  Ans tab (.fn pa [.int .i64 (n:Int),s]) H fun v H'=>py H' v n (Lin.gensP n l)/\Kp H H':=by
 refine bA C.q16 zU fun T hl f g=>?_;refine zW (aD hl f g) ?_;refine AnsH.eq (pj C zF ((Ho hs).mono (zG H)) (RW (n:=n) zO fun c hc=>⟨(a c hc).1,fun z hz=>(fu (a c hc).2 z hz).sm zO⟩) (by rw [rR]; omega)) fun H2 t=>?_;rw [HC zO B fun c hc=>(a c hc).1];obtain ⟨k2,_,O⟩:=zT H zK t;refine zW (aD hl f g) ?_;refine AnsH.use (zj C zF ((hs.mono k2.sub).mono (zG H2)) hn zO (IS zO hn) a hm) ?_;rintro v q ⟨hg,u⟩;obtain ⟨k23,_,_⟩:=zT H2 zK u;have j:Kp H q:=k2.trans k23;have J:=j.le;have w3:=j.wf;refine zW (aD hl f g) ?_;refine AnsH.use (DK C zF (hg.mono (zG q)) ?_ hn (fun x hx=>⟨(wK zO a x hx).1,A x hx⟩) D) ?_
 ·have hT:=Lin.gens_told (d:=n+1) (Lin.eqs_len (l:=l) fun c hc=>(a c hc).1) (Lin.ineqs_len (l:=l) fun c hc=>(a c hc).1);have h1:=hT.dd.count3 (Lin.ineqs_len (l:=l) fun c hc=>(a c hc).1);have h2:=ech_len hT.form;have h3:(Lin.ineqsOf n l).length^n<1099000000000:=IS (B5 (rQ l) zO) hn;simp only [YP] at h1;unfold Lin.gensP;split
  ·rw [C5,rR,rR]; omega
  ·simp
 rintro v2 h ⟨i,w⟩;have y:Kp H h:=j.trans (Kp.trans zK w);have K:=y.le;have F:=y.wf;have d0:=w.get (u.get (t.get (b:=H.next) (e:=.cells [.int .i64 0,.nilSl,.nilSl] am true) (cC)));have L:=F _ _ d0;rcases i with ⟨rfl,i⟩ | ⟨p,rfl,⟨k,o,rfl,hc,r⟩,h1,h2⟩
 ·refine zW (bB hl f g d0 @jj) ?_;exact ⟨.inl ⟨rfl,i⟩,zK⟩
 ·have M:=hc.one;have N:=r.one;have G:G7 0 (.tup [.agg [.int .i64 (n:Int),k,o],.int .i64 0])=some (.agg [.int .i64 (n:Int),k,o]):=rfl;refine zW (bB hl f g d0 @jj) ?_;refine ⟨.inr ⟨_,rfl,⟨k,o,rfl,?_,?_⟩,h1,h2⟩,zK⟩
  ·have m3:NoTy (t_api_Con :: conE.tys) h H.next:=NoTy.ty d0 zU
   exact SlV.monoT (E:=conE) zS hc
  ·have m3:NoTy (ag :: genE.tys) h H.next:=NoTy.ty d0 zU
   exact SlV.monoT (E:=genE) zS r
def iN {n k m:Nat} (h:n<2^m) (hm:m<=64*k):(ah n).length<=k:=br (by
 have e:B^k=2^(64*k):=by
  have:B=2^64:=by decide
  rw [this,<- ZQ]
 rw [e];exact Eb h (JR zU hm))
def xz (H:Heap) (v:AV) (n:Nat) (g:List (Nat × List Int)):Prop :=
 (v=.tup [rr,.int .i64 4]/\1024<=(Lin.consP n g).length)\/py H v n (Lin.gensP n (Lin.consP n g))
def l8 (C:Code tab) (Z:Wf H) {n m m2 m3:Nat} {g:List (Nat × List Int)} (hs:SlV genE ag H s g) (hn:n<=4) (Q:g.length<=60) (J:Lin.ValidG n g) (P:∀ x∈g,x.1=1\/x.1=2\/x.1=3) (r:∀ c∈g,Lin.Bd (2^m) c.2) (hm:m<=300000) (L:∀ c∈Lin.consP n g,Lin.Bd (2^m2) c.1) (R:m2<=300000) (M:∀ x∈Lin.gensP n (Lin.consP n g),Lin.Bd (2^m3) x.2) (S:m3<=300000)
  (Y:(Lin.consP n g).length<=1022\/1024<=(Lin.consP n g).length) :
  Ans tab (.fn rL [.int .i64 (n:Int),s]) H fun v H'=>xz H' v n g/\Kp H H':=by
 have t:∀ c∈g,c.2.length=n+1/\Lin.Bd (2^m) c.2:=fun c hc=>⟨(J c hc).1,r c hc⟩
 have O:∀ c∈g.map fun c=>(c.1,c.2.map bF),∀ z∈c.2,Lim z.2/\z.2.length<=1048576:=fun c hc z hz=>by
  obtain ⟨x,hx,rfl⟩:=nC.1 hc;obtain ⟨y,hy,rfl⟩:=nC.1 hz;have hb:=fu (r x hx) y hy;exact ⟨aY _,iN (n:=y.natAbs) (k:=1048576) (m:=m+1) hb zO⟩
 refine bA C.q27 zU fun T hl a f=>?_;refine zW (aD hl a f) ?_;refine AnsH.eq (kH C zF ((B6 hs).mono (zG H)) (K9 (n:=n) zO fun c hc=>⟨(t c hc).1,fun z hz=>(fu (r c hc) z hz).sm zO⟩) O (by rw [rR]; omega)) fun H2 D=>?_;rw [zu zO Q J P];obtain ⟨k2,_,w2⟩:=zT H zK D;refine zW (aD hl a f) ?_;refine AnsH.use (yr C zF ((hs.mono k2.sub).mono (zG H2)) hn zO (IS zO hn) t zO) ?_;rintro v i ⟨o,F⟩;obtain ⟨k23,_,_⟩:=zT H2 zK F;have u:Kp H i:=k2.trans k23;have aa:=u.le;have w3:=u.wf;have d3:=F.get (D.get (b:=H.next) (e:=.cells [.int .i64 0,.nilSl,.nilSl] am true) (cC));have af:=w3 _ _ d3;by_cases q1:(1024:Int)<=((Lin.consP n g).length:Int)
 ·refine zW (fo hl a f o.lenV q1 d3 @jj) ?_;exact ⟨.inl ⟨rfl,zO⟩,zK⟩
 have h:∀ c∈Lin.consP n g,c.1.length=n+1/\Lin.Bd (2^m2) c.1:=fun c hc=>⟨(Hp zO t c hc).1,L c hc⟩
 refine zW (aO hl o.lenV q1 a) ?_;refine AnsH.use (zj C zF (o.mono (zG i)) hn zO (IS zO hn) h R) ?_;rintro v4 A ⟨N,G⟩;obtain ⟨U,_,_⟩:=zT i zK G;have w:Kp H A:=u.trans U;have ab:=w.le;have w4:=w.wf;refine zW (aE hl a) ?_;refine AnsH.use (DK C zF (N.mono (zG A)) ?_ hn (fun x hx=>⟨(wK zO h x hx).1,M x hx⟩) S) ?_
 ·have hT:=Lin.gens_told (d:=n+1) (Lin.eqs_len (l:=Lin.consP n g) fun c hc=>(h c hc).1) (Lin.ineqs_len (l:=Lin.consP n g) fun c hc=>(h c hc).1);have h1:=hT.dd.count3 (Lin.ineqs_len (l:=Lin.consP n g) fun c hc=>(h c hc).1);have h2:=ech_len hT.form;have h3:(Lin.ineqsOf n (Lin.consP n g)).length^n<1099000000000:=IS (B5 (rQ _) zO) hn;simp only [YP] at h1;unfold Lin.gensP;split
  ·rw [C5,rR,rR]; omega
  ·simp
 rintro v5 j ⟨q,I⟩;have K:Kp H j:=w.trans (Kp.trans zK I);have ad:=K.le;have X:=K.wf;have d0:=I.get (G.get d3);have ae:=X _ _ d0;rcases q with ⟨rfl,q⟩ | ⟨p,rfl,⟨V,W,rfl,hc,B⟩,h1,h2⟩
 ·refine zW (bB hl a f d0 @jj) ?_;exact ⟨.inr (.inl ⟨rfl,q⟩),zK⟩
 ·have oc:=hc.one;have og:=B.one;refine zW (bB hl a f d0 @jj) ?_;refine ⟨.inr (.inr ⟨_,rfl,⟨V,W,rfl,?_,?_⟩,h1,h2⟩),zK⟩
  ·have m3:NoTy (t_api_Con :: conE.tys) j H.next:=NoTy.ty d0 zU
   exact SlV.monoT (E:=conE) zS hc
  ·have m3:NoTy (ag :: genE.tys) j H.next:=NoTy.ty d0 zU
   exact SlV.monoT (E:=genE) zS B
end
section
variable {tab:Nat->Option aA} {base i k:Nat} {T0:Tm} {dst:Option Nat} {op:AOp} {us:List (Nat × Option Nat)} {adds:List Nat} {r:List (Nat × List Nat)} {ds:List jT} {Vs:List AV} {Cs:List Heap} {Es:List (Option Ent)} {Q:DS->Prop} {t:Nat} {w:Bool}
end
section
variable {tab:Nat->Option aA} {H:Heap} {s:AV}
def Br (C:Code tab) (X:Wf H) {a b:AV} {l m:List (List Int × Bool)} (ha:SlV conE t_api_Con H a l) (hb:SlV conE t_api_Con H b m) (V:l.length<1099511627776) (hz:∀ r∈l,r.1.length<1099511627776/\∀ z∈r.1,dD z) :
  Ans tab (.fn eE [a,b]) H fun v H'=>v=.bool (decide (l=m))/\Kp H H':=by
 refine bA C.q65 zU fun T hl j n=>?_;by_cases he:l.length=m.length
 ·have R:lenV b=some (.int .i64 (l.length:Int)):=by rw [hb.lenV,he]
  refine zW (bB hl j n ha.lenV R) ?_;refine cu H [5] (fun k vs H'=>∃ i:Nat,vs=[.int .i64 (i:Int)]/\i+k=l.length/\∀ q (h:q<l.length) (h':q<m.length),q<i->l[q]=m[q]) l.length (by simp only [dz]; exact hl) rfl zK ⟨0,by refine zW (aD hl j n) ?_; rfl,zO,fun q _ _ h=>by omega⟩ ?_;rintro k T1 c f I o ⟨i,d,U,F⟩;have w1:=o.wf;have Y:=o.le;simp only [uz,B3,Ae,and_true] at d;have t0:ad T1 0=a:=(I.at_ 0 zU).trans (zV (aE hl j));have t1:ad T1 1=b:=(I.at_ 1 zU).trans (zV (aO hl j n n));by_cases hi:i<l.length
  ·have D:(i:Int)<(l.length:Int):=zO;have G:i<m.length:=zO;obtain ⟨cs,⟨w,rfl,hr⟩,-,h2,-⟩:=(ha.mono o.sub).at (eA hi);obtain ⟨S,⟨w',rfl,P⟩,-,E,-⟩:=(hb.mono o.sub).at (eA G);have s:bk c none (aB a (i*2))=some w:=h2 0 _ rfl;have l1:bk c none (aB a (i*2+1))=some (.bool l[i].2):=h2 1 _ rfl;have t:bk c none (aB b (i*2))=some w':=E 0 _ rfl;have u:bk c none (aB b (i*2+1))=some (.bool m[i].2):=E 1 _ rfl;have A:cS 2 a (.int .i64 (i:Int))=some (aB a (i*2)):=SlV.idx ha .i64 i hi;have B:cS 2 b (.int .i64 (i:Int))=some (aB b (i*2)):=SlV.idx hb .i64 i G;have f0:CT 0 (aB a (i*2))=some (aB a (i*2)):=ha.fa zO 0 (i*2);have f1:CT 1 (aB a (i*2))=some (aB a (i*2+1)):=ha.fa zO 1 (i*2);have x:CT 0 (aB b (i*2))=some (aB b (i*2)):=hb.fa zO 0 (i*2);have y:CT 1 (aB b (i*2))=some (aB b (i*2+1)):=hb.fa zO 1 (i*2);have e:IntKind.i64.wrap ((i:Int)+1)=((i+1:Nat):Int):=by rw [wrap_i64] <;> omega
   refine zW (fo f d t0 t1 ha.lenV D hi) ?_;by_cases hx:l[i].2=m[i].2
   ·skip
    refine aF ?_;refine zX (Uc f d t0 t1 A B s l1 t u f0 f1 x y hx (beq_self_eq_true (α:=Bool))) ?_;refine AnsH.eq (Bs C zF (hr.mono (zG c)) (P.mono (zG c)) (hz _ (mQ hi)).1 (hz _ (mQ hi)).2) fun H2 O=>?_;obtain ⟨p,_,_⟩:=zT c zK O;have k2:Kp H H2:=Kp.trans o p;have Z:=k2.le;have J:=bD p.sub s;have L:=bD p.sub l1;have K:=bD p.sub t;have M:=bD p.sub u;cases g:decide (l[i].1=m[i].1) with
    | true =>
     have g:=of_decide_eq_true g;refine zX (Ub f d t0 t1 A B s l1 t u J L K M f0 f1 x y hx e (beq_self_eq_true (α:=Bool))) ?_;refine ⟨zK,k-1,zO,i+1,rfl,zO,fun q h h' W=>?_⟩;by_cases eq:q=i
     ·subst eq; exact Prod.ext g hx
     ·exact F q h h' zO
    | false =>
     have g:=of_decide_eq_false g;refine zX (Ub f d t0 t1 A B s l1 t u J L K M f0 f1 x y hx e (beq_self_eq_true (α:=Bool))) ?_;refine ⟨?_,zK⟩;rw [decide_eq_false];intro e; subst e; exact g rfl
   ·have Q:(l[i].2 == m[i].2)=false:=by simpa using hx
    refine aF ?_;refine zX (Lm f d t0 t1 A B s l1 t u f0 f1 x y hx Q (beq_self_eq_true (α:=Bool))) ?_;refine ⟨?_,zK⟩;rw [decide_eq_false];intro e; subst e; exact hx rfl
  ·have D:¬ (i:Int)<(l.length:Int):=zO;refine zW (fo f d t0 t1 ha.lenV D hi) ?_;refine ⟨?_,zK⟩;rw [decide_eq_true (jg he fun q h h'=>F q h h' zO)]
 ·have N:¬ (l.length:Int)=(m.length:Int):=zO;refine zW (fo hl j n ha.lenV hb.lenV N he) ?_;refine ⟨?_,zK⟩;rw [decide_eq_false];intro e; subst e; exact he rfl
def Bp (C:Code tab) (Y:Wf H) {a b:AV} {l m:List (Nat × List Int)} (ha:SlV genE ag H a l) (hb:SlV genE ag H b m) (W:l.length<1099511627776) (hz:∀ r∈l,r.2.length<1099511627776/\∀ z∈r.2,dD z) :
  Ans tab (.fn eD [a,b]) H fun v H'=>v=.bool (decide (l=m))/\Kp H H':=by
 refine bA C.q66 zU fun T hl n o=>?_;by_cases he:l.length=m.length
 ·have S:lenV b=some (.int .i64 (l.length:Int)):=by rw [hb.lenV,he]
  refine zW (bB hl n o ha.lenV S) ?_;refine cu H [5] (fun k vs H'=>∃ i:Nat,vs=[.int .i64 (i:Int)]/\i+k=l.length/\∀ q (h:q<l.length) (h':q<m.length),q<i->l[q]=m[q]) l.length (by simp only [dz]; exact hl) rfl zK ⟨0,by refine zW (aD hl n o) ?_; rfl,zO,fun q _ _ h=>by omega⟩ ?_;rintro k T1 c f J p ⟨i,d,V,G⟩;have w1:=p.wf;have Z:=p.le;simp only [uz,B3,Ae,and_true] at d;have t0:ad T1 0=a:=(J.at_ 0 zU).trans (zV (aE hl n));have t1:ad T1 1=b:=(J.at_ 1 zU).trans (zV (aO hl n o o));by_cases hi:i<l.length
  ·have E:(i:Int)<(l.length:Int):=zO;have I:i<m.length:=zO;obtain ⟨cs,⟨w,rfl,hr⟩,-,h2,-⟩:=(ha.mono p.sub).at (eA hi);obtain ⟨U,⟨w',rfl,Q⟩,-,F,-⟩:=(hb.mono p.sub).at (eA I);have t:bk c none (aB a (i*2))=some (.int .u8 (l[i].1:Int)):=h2 0 _ rfl;have l1:bk c none (aB a (i*2+1))=some w:=h2 1 _ rfl;have u:bk c none (aB b (i*2))=some (.int .u8 (m[i].1:Int)):=F 0 _ rfl;have x:bk c none (aB b (i*2+1))=some w':=F 1 _ rfl;have B:cS 2 a (.int .i64 (i:Int))=some (aB a (i*2)):=SlV.idx ha .i64 i hi;have D:cS 2 b (.int .i64 (i:Int))=some (aB b (i*2)):=SlV.idx hb .i64 i I;have f0:CT 0 (aB a (i*2))=some (aB a (i*2)):=ha.fa zO 0 (i*2);have f1:CT 1 (aB a (i*2))=some (aB a (i*2+1)):=ha.fa zO 1 (i*2);have y:CT 0 (aB b (i*2))=some (aB b (i*2)):=hb.fa zO 0 (i*2);have A:CT 1 (aB b (i*2))=some (aB b (i*2+1)):=hb.fa zO 1 (i*2);have e:IntKind.i64.wrap ((i:Int)+1)=((i+1:Nat):Int):=by rw [wrap_i64] <;> omega
   refine zW (fo f d t0 t1 ha.lenV E hi) ?_;by_cases hx:l[i].1=m[i].1
   ·have j:(l[i].1:Int)=(m[i].1:Int):=zO;refine aF ?_;refine zX (Lm f d t0 t1 B D t l1 u x f0 f1 y A hx j (beq_self_eq_true (α:=Bool))) ?_;refine AnsH.eq (Bs C zF (hr.mono (zG c)) (Q.mono (zG c)) (hz _ (mQ hi)).1 (hz _ (mQ hi)).2) fun H2 P=>?_;obtain ⟨s,_,_⟩:=zT c zK P;have k2:Kp H H2:=Kp.trans p s;have aa:=k2.le;have K:=bD s.sub t;have M:=bD s.sub l1;have L:=bD s.sub u;have N:=bD s.sub x;cases g:decide (l[i].2=m[i].2) with
    | true =>
     have g:=of_decide_eq_true g;refine zX (Ua f d t0 t1 B D t l1 u x K M L N f0 f1 y A hx j e (beq_self_eq_true (α:=Bool))) ?_;refine ⟨zK,k-1,zO,i+1,rfl,zO,fun q h h' X=>?_⟩;by_cases eq:q=i
     ·subst eq; exact Prod.ext hx g
     ·exact G q h h' zO
    | false =>
     have g:=of_decide_eq_false g;refine zX (Ua f d t0 t1 B D t l1 u x K M L N f0 f1 y A hx j e (beq_self_eq_true (α:=Bool))) ?_;refine ⟨?_,zK⟩;rw [decide_eq_false];intro e; subst e; exact g rfl
   ·have j:¬ (l[i].1:Int)=(m[i].1:Int):=zO;have R:=j;refine aF ?_;refine zX (Nx f d t0 t1 B D t l1 u x f0 f1 y A hx j R (beq_self_eq_true (α:=Bool))) ?_;refine ⟨?_,zK⟩;rw [decide_eq_false];intro e; subst e; exact hx rfl
  ·have E:¬ (i:Int)<(l.length:Int):=zO;refine zW (fo f d t0 t1 ha.lenV E hi) ?_;refine ⟨?_,zK⟩;rw [decide_eq_true (jg he fun q h h'=>G q h h' zO)]
 ·have O:¬ (l.length:Int)=(m.length:Int):=zO;refine zW (fo hl n o ha.lenV hb.lenV O he) ?_;refine ⟨?_,zK⟩;rw [decide_eq_false];intro e; subst e; exact he rfl
def fT (n:Nat) (l:List xA):Bool:=decide (n<l.length) || l.any fun c=>fN 5 1 c.1
def qJ (C:Code tab) (E:Wf H) {a:AV} {ls:List xA} {n:Nat} (ha:SlV conQE t_api_Con H a ls) (hn:n<4611686018427387904) :
  Ans tab (.fn dQ [a,.int .i64 (n:Int)]) H fun v H'=>v=.bool (fT n ls)/\Kp H H':=by
 refine bA C.q5 zU fun T hl b m=>?_;by_cases he:n<ls.length
 ·have o:(n:Int)<(ls.length:Int):=zO;refine zW (dj hl b m ha.lenV o he) ?_;exact ⟨by unfold fT; rw [decide_eq_true he]; rfl,zK⟩
 ·have o:¬ (n:Int)<(ls.length:Int):=zO;refine zW (dj hl b m ha.lenV o he) ?_;refine cu H [5] (fun k vs H'=>∃ i:Nat,vs=[.int .i64 (i:Int)]/\i+k=ls.length/\∀ q (h:q<ls.length),q<i->fN 5 1 (ls[q]).1=false) ls.length (by simp only [dz]; exact hl) rfl zK ⟨0,by refine zW (aD hl b m) ?_; rfl,zO,fun q _ h=>by omega⟩ ?_;rintro k T1 l f y d ⟨i,j,B,r⟩;have w1:=d.wf;have F:=d.le;simp only [uz,B3,Ae,and_true] at j;have t0:ad T1 0=a:=(y.at_ 0 zU).trans (zV (aE hl b));by_cases hi:i<ls.length
  ·have p:(i:Int)<(ls.length:Int):=zO;obtain ⟨cs,⟨w,rfl,hr⟩,-,h2,-⟩:=(ha.mono d.sub).at (eA hi);have x:bk l none (aB a (i*2))=some w:=h2 0 _ rfl;have t:cS 2 a (.int .i64 (i:Int))=some (aB a (i*2)):=SlV.idx ha .i64 i hi;have s:CT 0 (aB a (i*2))=some (aB a (i*2)):=ha.fa zO 0 (i*2);have e:IntKind.i64.wrap ((i:Int)+1)=((i+1:Nat):Int):=by rw [wrap_i64] <;> omega
   refine zW (jU f j t0 ha.lenV p hi t s x) ?_;refine AnsH.eq (rm C (many:=5) (lim:=1) zF (hr.mono (zG l)) zO) fun H2 u=>?_;obtain ⟨A,_,_⟩:=zT l zK u;have k2:Kp H H2:=Kp.trans d A;have G:=k2.le;cases g:fN 5 1 (ls[i]).1 with
   | true =>
    refine zW f ?_;refine ⟨?_,zK⟩;unfold fT;rw [OL.2 ⟨_,mQ hi,g⟩,Bool.or_true]
   | false =>
    refine zW (aD f j e) ?_;refine ⟨zK,k-1,zO,i+1,rfl,zO,fun q h D=>?_⟩;by_cases eq:q=i
    ·subst eq; exact g
    ·exact r q h zO
  ·have p:¬ (i:Int)<(ls.length:Int):=zO;refine zW (dj f j t0 ha.lenV p hi) ?_;refine ⟨?_,zK⟩;have e:(ls.any fun c=>fN 5 1 c.1)=false:=by
    rw [XW];intro z hz;obtain ⟨q,g,rfl⟩:=U0 hz;rw [r q g zO]; simp
   unfold fT;rw [decide_eq_false he,Bool.false_or,e]
def gV (n:Nat) (l:List tP):Bool:=decide (n<l.length) || l.any fun c=>fN 5 1 c.2
def qI (C:Code tab) (E:Wf H) {a:AV} {ls:List tP} {n:Nat} (ha:SlV genQE ag H a ls) (hn:n<4611686018427387904) :
  Ans tab (.fn dO [a,.int .i64 (n:Int)]) H fun v H'=>v=.bool (gV n ls)/\Kp H H':=by
 refine bA C.q75 zU fun T hl b m=>?_;by_cases he:n<ls.length
 ·have o:(n:Int)<(ls.length:Int):=zO;refine zW (dj hl b m ha.lenV o he) ?_;exact ⟨by unfold gV; rw [decide_eq_true he]; rfl,zK⟩
 ·have o:¬ (n:Int)<(ls.length:Int):=zO;refine zW (dj hl b m ha.lenV o he) ?_;refine cu H [5] (fun k vs H'=>∃ i:Nat,vs=[.int .i64 (i:Int)]/\i+k=ls.length/\∀ q (h:q<ls.length),q<i->fN 5 1 (ls[q]).2=false) ls.length (by simp only [dz]; exact hl) rfl zK ⟨0,by refine zW (aD hl b m) ?_; rfl,zO,fun q _ h=>by omega⟩ ?_;rintro k T1 l f y d ⟨i,j,B,r⟩;have w1:=d.wf;have F:=d.le;simp only [uz,B3,Ae,and_true] at j;have t0:ad T1 0=a:=(y.at_ 0 zU).trans (zV (aE hl b));by_cases hi:i<ls.length
  ·have p:(i:Int)<(ls.length:Int):=zO;obtain ⟨cs,⟨w,rfl,hr⟩,-,h2,-⟩:=(ha.mono d.sub).at (eA hi);have x:bk l none (aB a (i*2+1))=some w:=h2 1 _ rfl;have t:cS 2 a (.int .i64 (i:Int))=some (aB a (i*2)):=SlV.idx ha .i64 i hi;have s:CT 1 (aB a (i*2))=some (aB a (i*2+1)):=ha.fa zO 1 (i*2);have e:IntKind.i64.wrap ((i:Int)+1)=((i+1:Nat):Int):=by rw [wrap_i64] <;> omega
   refine zW (jU f j t0 ha.lenV p hi t s x) ?_;refine AnsH.eq (rm C (many:=5) (lim:=1) zF (hr.mono (zG l)) zO) fun H2 u=>?_;obtain ⟨A,_,_⟩:=zT l zK u;have k2:Kp H H2:=Kp.trans d A;have G:=k2.le;cases g:fN 5 1 (ls[i]).2 with
   | true =>
    refine zW f ?_;refine ⟨?_,zK⟩;unfold gV;rw [OL.2 ⟨_,mQ hi,g⟩,Bool.or_true]
   | false =>
    refine zW (aD f j e) ?_;refine ⟨zK,k-1,zO,i+1,rfl,zO,fun q h D=>?_⟩;by_cases eq:q=i
    ·subst eq; exact g
    ·exact r q h zO
  ·have p:¬ (i:Int)<(ls.length:Int):=zO;refine zW (dj f j t0 ha.lenV p hi) ?_;refine ⟨?_,zK⟩;have e:(ls.any fun c=>fN 5 1 c.2)=false:=by
    rw [XW];intro z hz;obtain ⟨q,g,rfl⟩:=U0 hz;rw [r q g zO]; simp
   unfold gV;rw [decide_eq_false he,Bool.false_or,e]
end
def wt {H:Heap} {b:Nat} {x y:Int} {r:Bool} (h:H.get b=some (.cells [.int .i64 x,.int .i64 y] d9 r)):AD (Fo .i64) d9 H (.own b 0 2 2 1 true) [x,y] :=
 ⟨[_,_],Rd.own h rfl (o0 _),fun _ _ _ _ _ _ e=>by cases e; exact ⟨_,_,h⟩,rfl,fun i a hi=>by
  match i with
  | 0=>simp at hi; subst hi; exact ⟨_,rfl,rfl⟩
  | 1=>simp at hi; subst hi; exact ⟨_,rfl,rfl⟩
  | i+2=>simp at hi⟩
def Emp (H:Heap) (a e:Nat):Prop:=e<=H.next/\∀ c,a<=c->c<e->H.get c=none
def Emp.start {H:Heap} (a:Wf H) {k:Nat}:Emp (H.up k) H.next (H.next+k):=⟨o0 _,fun c h _=>a.fresh h⟩
def Emp.next {G H2:Heap} {a e p a':Nat} {x:Ent} (b:Emp G a e) (d:Kp (G.put p x) H2) (hp:p<a') (ha:a<=a'):Emp H2 a' e :=
 ⟨B5 b.1 d.le,fun c h1 h2=>d.free (by rw [next_put]; exact Eb h2 b.1) (by rw [au zO]; exact b.2 c zO h2)⟩
def Emp.keep {G H2:Heap} {a e:Nat} (b:Emp G a e) (d:Kp G H2):Emp H2 a e :=
 ⟨B5 b.1 d.le,fun c h1 h2=>d.free (Eb h2 b.1) (b.2 c h1 h2)⟩
def Emp.sub {G:Heap} {a e p:Nat} {x:Ent} (b:Emp G a e) (h1:a<=p) (h2:p<e):Sub G (G.put p x):=aG (b.2 p h1 h2)
section
variable {tab:Nat->Option aA} {H:Heap} {s:AV}
end
end Go.Proofs.YteaefaohjlmjdaaGreat.Ev
namespace Go.Proofs.YteaefaohjlmjdaaGreat.Lin
def JB:gensL 2 [] [[1,1]]=[[-1,1]]/\gensR 2 [] [[1,1]]=[[1,0]]:=by
 have r:(gensU 2 [] [[1,1]]).rays.map (restF (gensL 2 [] [[1,1]]))=[[1,0]]:=by decide +kernel
 refine ⟨by decide +kernel,?_⟩;unfold gensR; rw [r]; simp
end Go.Proofs.YteaefaohjlmjdaaGreat.Lin
namespace Go.Proofs.YteaefaohjlmjdaaGreat.Ev
open Go Nn
def Emp.put {G:Heap} {a e p a':Nat} {x:Ent} (b:Emp G a e) (hp:p<a') (ha:a<=a'):Emp (G.put p x) a' e :=
 ⟨b.1,fun c h1 h2=>by rw [au zO]; exact b.2 c zO h2⟩
section
variable {tab:Nat->Option aA} {H:Heap} {s:AV}
end
end Go.Proofs.YteaefaohjlmjdaaGreat.Ev
namespace Go.Proofs.YteaefaohjlmjdaaGreat.Lin
end Go.Proofs.YteaefaohjlmjdaaGreat.Lin
namespace Go.Proofs.YteaefaohjlmjdaaGreat.Ev
open Go Nn
def Sk {a b c:AV} (ha:One a) (hb:One b) (hc:One c):fW (.agg [a,b,c])=some [a,b,c]:=by
 simp [fW,AV.cells,ha.2,hb.2,hc.2]
def jS {b c:AV} (hb:One b) (hc:One c) (k:IntKind) (n:Int):fW (.agg [.int k n,b,c])=some [.int k n,b,c]:=Sk (bo _ _) hb hc
section
variable {tab:Nat->Option aA} {H:Heap} {s:AV}
def mZ (c:List (List Int × Bool)) (g:List (Nat × List Int)):Bool:=fT 9 (c.map fun c=>(c.1.map bF,c.2)) || gV 9 (g.map fun c=>(c.1,c.2.map bF))
def Gn (C:Code tab) (p:Wf H) {v:AV} {n:Nat} {c:List (List Int × Bool)} {g:List (Nat × List Int)} (hp:PolyV H v n c g) :
  Ans tab (.fn fE [v]) H fun x H'=>x=.bool (mZ c g)/\Kp H H':=by
 obtain ⟨m,o,rfl,hc,hg⟩:=hp;have k:=hc.one;have l:=hg.one;refine cT C.q44 zU fun T hl a=>?_;refine zW (aD hl a (jS k l)) ?_;refine AnsH.eq (qJ C (n:=9) zF ((Ho hc).mono (zG H)) zO) fun H2 d=>?_;obtain ⟨k2,_,r⟩:=zT H zK d;have d0:=d.get (b:=H.next) (e:=.cells [.int .i64 (n:Int),m,o] am true) (cC);cases f:fT 9 (c.map fun c=>(c.1.map bF,c.2)) with
 | true =>
  refine zW (aE hl a) ?_;exact ⟨by unfold mZ; rw [f,Bool.true_or],zK⟩
 | false =>
  refine zW (aD hl a d0) ?_;refine AnsH.eq (qI C (n:=9) zF ((B6 (hg.mono k2.sub)).mono (zG H2)) zO) fun h i=>?_;have j:Kp H h:=k2.trans (Kp.trans zK i);have q:=j.le;refine zW (aE hl a) ?_;exact ⟨by unfold mZ; rw [f,Bool.false_or],zK⟩
def IL (C:Code tab) (K:Wf H) {v q:AV} {n n':Nat} {c h:List (List Int × Bool)} {g g':List (Nat × List Int)} (hp:PolyV H v n c g) (D:PolyV H q n' h g') (t:c.length<1099511627776) (u:∀ r∈c,r.1.length<1099511627776/\∀ z∈r.1,dD z) (w:g.length<1099511627776) (y:∀ r∈g,r.2.length<1099511627776/\∀ z∈r.2,dD z) :
  Ans tab (.fn gq [v,q]) H fun x H'=>x=.bool (decide (n=n'/\c=h/\g=g'))/\Kp H H':=by
 obtain ⟨F,I,rfl,hc,hg⟩:=hp;obtain ⟨G,J,rfl,j,k⟩:=D;have l:=hc.one;have o:=hg.one;have m:=j.one;have p:=k.one;refine bA C.q38 zU fun T hl a d=>?_;by_cases hn:n=n'
 ·subst hn;refine zW (bB hl a d (jS l o) (jS m p)) ?_;refine AnsH.eq (Br C zF (hc.mono (zG H)) (j.mono (zG H)) t u) fun H2 i=>?_;obtain ⟨k2,_,M⟩:=zT H zK i;have d0:=i.get (b:=H.next) (e:=.cells [.int .i64 (n:Int),F,I] am true) (cC);have d1:=i.get (b:=H.next+1) (e:=.cells [.int .i64 (n:Int),G,J] am true) (cC);by_cases f:c=h
  ·rw [decide_eq_true f];refine zW (bB hl a d d0 d1) ?_;refine AnsH.eq (Bp C zF ((hg.mono k2.sub).mono (zG H2)) ((k.mono k2.sub).mono (zG H2)) w y) fun s A=>?_;have E:Kp H s:=k2.trans (Kp.trans zK A);have L:=E.le;refine zW (aD hl a d) ?_;exact ⟨by simp [f],zK⟩
  ·rw [decide_eq_false f];refine zW (aD hl a d) ?_;exact ⟨by simp [f],zK⟩
 ·have B:¬ (n:Int)=(n':Int):=zO;refine zW (dj hl a d (jS l o) (jS m p) B) ?_;exact ⟨by simp [hn],zK⟩
def UB {H:Heap} {b:Nat} {v w:AV} {x y:List Int} {p q r:Bool} (h:H.get b=some (.cells [v,.bool p,w,.bool q] t_api_Con r)) (a:RowV H v x) (c:RowV H w y):SlV conE t_api_Con H (.own b 0 2 2 2 true) [(x,p),(y,q)] :=
 ⟨[_,_,_,_],Rd.own h rfl (o0 _),fun _ _ _ _ _ _ e=>by cases e; exact ⟨_,_,h⟩,(Cells.one (E:=conE) ⟨v,rfl,a⟩).append (Cells.one (E:=conE) ⟨w,rfl,c⟩)⟩
def lZ {many lim:Nat} {r:List (Bool × List Nat)} (h:fN many lim r=false):r.length<=many/\∀ z∈r,z.2.length<=lim:=by
 unfold fN at h;rw [Yq,decide_eq_false_iff_not,XW] at h;refine ⟨zO,fun z hz=>?_⟩
 have:=h.2 z hz
 simp only [decide_eq_true_eq] at this;omega
def jD {n:Nat} {l:List xA} (h:fT n l=false):l.length<=n/\∀ c∈l,c.1.length<=5/\∀ z∈c.1,z.2.length<=1:=by
 unfold fT at h;rw [Yq,decide_eq_false_iff_not,XW] at h;exact ⟨zO,fun c hc=>lZ (by simpa using h.2 c hc)⟩
def jC {n:Nat} {l:List tP} (h:gV n l=false):l.length<=n/\∀ c∈l,c.2.length<=5/\∀ z∈c.2,z.2.length<=1:=by
 unfold gV at h;rw [Yq,decide_eq_false_iff_not,XW] at h;exact ⟨zO,fun c hc=>lZ (by simpa using h.2 c hc)⟩
def Js {n:Nat} {l:List xA} (h:fT n l=false):∀ c∈l,nr c.1:=fun c hc=>by
 obtain ⟨h1,h2⟩:=(jD h).2 c hc;exact ⟨zO,fun z hz=>by have:=h2 z hz; omega⟩
abbrev Si (c:xA):List Int × Bool:=(c.1.map aR,c.2)
def II {r:List (Bool × List Nat)} (hl:∀ z∈r,Lim z.2/\z.2.length<=1):Lin.Bd (2^64) (r.map aR):=fun i=>by
 unfold Lin.at_;rw [iF];cases hi:(r.map aR)[i]? with
 | none=>simp
 | some z =>
  obtain ⟨x,hx,rfl⟩:=nC.1 (Cv hi)
  have:=qX (n:=1) (hl x hx).1 (hl x hx).2
  unfold Bt at this;simp only [Yb] at this;simp only [Yc];omega
def EZ {r:List (Bool × List Nat)} (h:tW r=true):∀ z∈r,gG z=false:=by
 simp only [tW,Ky,XE,XW,Bool.not_eq_true] at h;exact h.2
def MT {d:Int} {n:Nat} {l:List xA} (hs:SlV conQE t_api_Con H s l) (gl:∀ r∈l,dZ r.1) (hg:fT n l=false) (h4:¬ 4<d) (hn:n<=60) :
  dU d l≠0\/∃ k:Nat,d=(k:Int)/\k<=4/\SlV conE t_api_Con H s (l.map Si)/\l.length<=n/\∀ c∈l.map Si,c.1.length=k+1/\Lin.Bd (2^64) c.1:=by
 by_cases hc:dU d l=0
 ·refine .inr ?_;obtain ⟨h1,h2⟩:=jD hg;unfold dU at hc;split at hc
  ·omega
  split at hc
  ·omega
  split at hc
  ·omega
  split at hc
  ·omega
  rename_i q1 q2 q3 q4;have q3:∀ c∈l,tW c.1=true:=fun c hc=>by
   cases a:tW c.1 with
   | true=>rfl
   | false=>exact absurd (OL.2 ⟨c,hc,by rw [a]; rfl⟩) q3
  have q4:∀ c∈l,(c.1.length:Int)=d+1:=fun c hc=>by
   apply Nw
   intro hn;exact q4 (OL.2 ⟨c,hc,by simpa using hn⟩)
  refine ⟨d.toNat,zO,zO,PG hs fun r hr z hz=>⟨EZ (q3 r hr) z hz,((gl r hr).1 z hz).1⟩,h1,fun c hc=>?_⟩;obtain ⟨x,hx,rfl⟩:=nC.1 hc;refine ⟨?_,II fun z hz=>⟨((gl x hx).1 z hz).1,(h2 x hx).2 z hz⟩⟩
  have:=q4 x hx
  show (x.1.map aR).length=_;rw [rR];omega
 ·exact .inl hc
end
end Go.Proofs.YteaefaohjlmjdaaGreat.Ev
namespace Go.Proofs.YteaefaohjlmjdaaGreat.Lin
def KL {α:Type} {P:α->V->Prop}:∀ (l:List α) (I:List V),l.Nodup->(∀ b∈l,∃ i∈I,P b i)->(∀ b∈l,∀ b'∈l,∀ i,P b i->P b' i->b=b')->l.length<=I.length
 | [],I,_,_,_=>by simp
 | b :: l,I,hn,h,hj=>by
  obtain ⟨i,hi,hp⟩:=h b (Al ..);obtain ⟨d,j⟩:=Ze.1 hn;have h1:=KL l (I.erase i) j (fun b' a=>by
   obtain ⟨g,f,c⟩:=h b' (tZ _ a);refine ⟨g,(List.mem_erase_of_ne fun e=>?_).2 f,c⟩;rw [e] at c
   have:=hj b (Al ..) b' (tZ _ a) i hp c
   rw [this] at d;exact d a) fun x hx y hy=>hj x (tZ _ hx) y (tZ _ hy)
  rw [List.length_erase_of_mem hi] at h1
  have:=List.length_pos_of_mem hi
  rw [Sb];omega
def RG {d:Nat} {E I L R A B:List V} (J:∀ a∈E,a.length=d) (n:∀ a∈I,a.length=d) (h:DD d (· ∈ E) (· ∈ I) (· ∈ L) R) (h':DD d (· ∈ L) (· ∈ R) (· ∈ A) B) {b:V} (hb:b∈B) :
  ∃ i∈I,∀ s∈R,dot s i=0 ↔ dot s b=0:=by
 have j:=h'.keep b hb;have H:∀ i∈I,Keep d (· ∈ L) (· ∈ R) i:=fun i hi=>⟨n i hi,fun l hl=>by rw [dot_comm]; exact h.lineI l hl i hi,fun r hr=>by rw [dot_comm]; exact (h.keep r hr).ge i hi⟩
 obtain ⟨z,hz,P⟩:=h'.off b hb;have O:=j.ge z hz;have F:∃ i∈I,(∀ s∈R,dot s b=0->dot s i=0)/\∃ s∈R,dot s i≠0:=by
  apply Nw
  intro y;obtain ⟨act,o⟩:∃ act,act=R.filter fun a=>decide (dot a b=0):=⟨_,rfl⟩
  have ha:∀ a∈act,a∈R/\dot a b=0:=fun a h=>by rw [o,C4] at h; exact ⟨h.1,of_decide_eq_true h.2⟩
  have f:∀ a∈act,a.length=d:=fun a h1=>h.lenR a (ha a h1).1;obtain ⟨N,u,t⟩:=Ba (fun s=>dot z s) I;have p:=We f;have m:(AZ d act).length=z.length:=p.trans (h.lenR z hz).symm;have hy:Keep d (· ∈ E) (· ∈ I) (mix N (AZ d act) (-1) z):=by
   refine ⟨mix_length p (h.lenR z hz),fun e he=>?_,fun i hi=>?_⟩
   ·rw [aU _ _ _ m,sP f fun a h1=>(h.keep a (ha a h1).1).eq e he,(h.keep z hz).eq e he]
    simp
   ·rw [aU _ _ _ m];by_cases hs:∃ s∈R,dot s i≠0
    ·have hp:∃ s∈R,dot s b=0/\dot s i≠0:=by
      apply Nw
      intro hn;exact y ⟨i,hi,fun s hs h0=>Nw fun h1=>hn ⟨s,hs,h0,h1⟩,hs⟩
     obtain ⟨s,hs,h0,h1⟩:=hp;have C:=(yS (x:=i) f fun a h1=>(h.keep a (ha a h1).1).ge i hi).2 ⟨s,by rw [o,C4]; exact ⟨hs,by simpa using h0⟩,by rw [dot_comm]; exact h1⟩;have K:=t i hi;rw [dot_comm i z]
     have:=Int.mul_le_mul_of_nonneg_left C u
     omega
    ·have h0:∀ s∈R,dot s i=0:=fun s g=>Nw fun h1=>hs ⟨s,g,h1⟩;rw [sP f fun a h1=>by rw [dot_comm]; exact h0 a (ha a h1).1,dot_comm i z,h0 z hz]
     simp
  have h1:=(h.all _ hy).dot_nonneg (a:=b) h.lenL h.lenR (fun l hl=>by rw [dot_comm]; exact j.eq l hl) (fun r hr=>by rw [dot_comm]; exact j.ge r hr);rw [aU _ _ _ m,sP f fun a h1=>by rw [dot_comm]; exact (ha a h1).2,dot_comm b z] at h1;omega
 obtain ⟨i,hi,hs,q,D,w⟩:=F;refine ⟨i,hi,fun s g=>⟨fun h0=>?_,hs s g⟩⟩;obtain ⟨k,c,M,hc,G⟩:=h'.ext b hb i (H i hi) hs;have key:∀ s∈R,k*dot s i=c*dot s b:=fun s hs=>by
  have:=Con.dot_zero (a:=s) h'.lenL (fun r h=>h.elim) (fun x hx=>h'.lineI x hx s hs) (fun r h=>h.elim) G
  rw [aU _ _ _ ((n i hi).trans j.len.symm),Int.neg_mul] at this;omega
 have v:c≠0:=fun e=>by
  have:=key q D
  rw [e] at this;rcases Jv.1 (show k*dot q i=0 by omega) with h1 | h1
  ·omega
  ·exact w h1
 have:=key s g
 rw [h0] at this;rcases Jv.1 (show c*dot s b=0 by omega) with h1 | h1
 ·exact absurd h1 v
 ·exact h1
def DH {d:Nat} {E I L R A B:List V} (c:∀ a∈E,a.length=d) (e:∀ a∈I,a.length=d) (h:DD d (· ∈ E) (· ∈ I) (· ∈ L) R) (h':An d (· ∈ L) (· ∈ R) A B):B.length<=I.length:=by
 refine KL (P:=fun b i=>∀ s∈R,dot s i=0 ↔ dot s b=0) B I (told_nodup h') (fun b hb=>RG c e h h'.dd hb) fun b hb b' f i h1 h2=>?_
 apply Nw
 intro hne;obtain ⟨s,hs,h3,h4⟩:=Iu h' f hb hne;exact h4 ((h1 s hs).1 ((h2 s hs).2 h3))
section
variable {n:Nat} {l:List (V × Bool)}
def span_len {g:List (Nat × V)} (hg:ValidG n g):(gensP n (consP n g)).length<=g.length+n+1:=by
 by_cases h3:g.any (fun x=>x.1 == 3)=true
 ·have c:∀ a∈linesOf g,a.length=n+1:=fun a ha=>(hg _ (mem_lines.1 ha)).1;have d:∀ a∈raysOf g,a.length=n+1:=fun a ha=>by obtain ⟨k,-,h⟩:=mem_rays.1 ha; exact (hg _ h).1
  have t:=gens_told c d;have hl:=jG (n:=n) (g:=g) fun x hx=>(hg x hx).1;have m:=gens_told (eqs_len hl) (ineqs_len hl);have t3:=gens_told t.dd.lenL t.dd.lenR;have i:∀ x,qq n (consP n g) x ↔ Keep (n+1) (· ∈ gensL (n+1) (linesOf g) (raysOf g)) (· ∈ gensR (n+1) (linesOf g) (raysOf g)) x:=fun x=>by
   rw [pk h3];refine ⟨fun h=>h.2,fun h=>⟨?_,h⟩⟩;have hc:=(DL c d t.dd t3.dd)
   have j:Keep (n+1) (· ∈ linesOf g) (· ∈ raysOf g) (unitC n 1):=by
    refine ⟨unitC_len n 1,fun a ha=>?_,fun b hb=>?_⟩
    ·rw [dot_comm,fl];obtain ⟨-,-,q⟩:=hg _ (mem_lines.1 ha)
     have:hd1 a=0:=q (show ¬ (1:Nat)=3 by omega)
     omega
    ·rw [dot_comm,fl];obtain ⟨k,-,hm⟩:=mem_rays.1 hb;obtain ⟨-,q1,q2⟩:=hg _ hm;by_cases f:k=3
     ·have:0<hd1 b:=q1 f
      omega
     ·have:hd1 b=0:=q2 f
      omega
   have:=(t.dd.all _ j).dot_nonneg (a:=x) t.dd.lenL t.dd.lenR (fun l hl=>by rw [dot_comm]; exact h.eq l hl) (fun r hr=>by rw [dot_comm]; exact h.ge r hr)
   rw [dot_comm,fl] at this;omega
  obtain ⟨q1,q2⟩:=qY m t3 i;have h1:=DH c d t.dd t3;have h2:=Ev.ech_len t3.form;have h4:(raysOf g).length<=g.length:=by
   unfold raysOf;rw [rR];exact Yf _ _
  unfold gensP;split
  ·rw [q1,q2,C5,rR,rR];omega
  ·show 0<=_;omega
 ·have e:consP n g=[(unitC n (-1),false)]:=by unfold consP; rw [if_neg h3]
  rw [e,uL];show 0<=_;omega
end
end Go.Proofs.YteaefaohjlmjdaaGreat.Lin
