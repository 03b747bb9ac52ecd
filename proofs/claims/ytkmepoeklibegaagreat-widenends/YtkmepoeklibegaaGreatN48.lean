/- A part. -/
import Derived.Test.YtkmepoeklibegaaGreatA0
import Derived.Test.YtkmepoeklibegaaGreatN38
import Derived.Test.YtkmepoeklibegaaGreatGens
import Derived.ChangeArms
import Derived.DataReads
set_option linter.all false
namespace Go.Proofs.YtkmepoeklibegaaGreat.Ev
open Go Nn
def iP {α:Type} {l m:List α} (he:l.length=m.length) (h:∀ q (h:q<l.length) (h':q<m.length),l[q]=m[q]):l=m :=
 Xk he fun q h1 h2=>h q h1 h2
def je (many ag:Nat) (r:List (Bool × List Nat)):Bool:=decide (many<r.length) || r.any fun z=>decide (ag<z.2.length)
section
variable {tab:Nat->Option au} {H:Heap} {s:AV}
def Hg (C:Code tab) (I:Wf H) {a b:AV} {l m:List Nat} (ha:Lb H a l) (hb:Lb H b m) (F:l.length<4611686018427387904) :
  Ans tab (.fn gc [a,b]) H fun v H'=>v=.bool (decide (l=m))/\Kp H H':=by
 refine bC C.q107 zU fun T hl c d=>?_;by_cases he:l.length=m.length
 ·have lb:lenV b=some (.int .i64 (l.length:Int)):=by rw [hb.lenV,he]
  refine zW (cp hl c d ha.lenV lb) ?_;refine cu H [5] (fun k vs H'=>∃ i:Nat,vs=[.int .i64 (i:Int)]/\i+k=l.length/\∀ q (h:q<l.length) (h':q<m.length),q<i->l[q]=m[q]) l.length (by simp only [Vg]; exact hl) rfl zK ⟨0,by refine zW (aB hl c d) ?_; rfl,zO,fun q _ _ h=>by omega⟩ ?_;rintro k T1 D j A g ⟨i,f,E,s⟩;have w1:=g.wf;have J:=g.le;simp only [Vq,Vw,Vv,and_true] at f;have t0:aa T1 0=a:=(A.at_ 0 zU).trans (zV (aA hl c));have t1:aa T1 1=b:=(A.at_ 1 zU).trans (zV (aV hl c d d));by_cases hi:i<l.length
  ·have n:(i:Int)<(l.length:Int):=zO;have t:i<m.length:=zO;obtain ⟨w,hr,y⟩:=SlV.at1 (ha.mono g.sub) (Vk hi);obtain ⟨w',r,z⟩:=SlV.at1 (hb.mono g.sub) (Vk t);have hr:w=.int .u64 ((l[i]:Nat):Int):=hr;have r:w'=.int .u64 ((m[i]:Nat):Int):=r;subst hr; subst r;have u:=SlV.idx1 ha .i64 i hi;have x:=SlV.idx1 hb .i64 i t;have e:IntKind.i64.wrap ((i:Int)+1)=((i+1:Nat):Int):=by rw [wrap_i64] <;> omega
   refine zW (gS j f t0 t1 ha.lenV n hi) ?_;refine aM ?_;by_cases o:l[i]=m[i]
   ·have p:((l[i]:Nat):Int)=((m[i]:Nat):Int):=zO;refine zD (ur j f t0 t1 u y x z p e) ?_;refine ⟨zK,k-1,zO,i+1,rfl,zO,fun q h h' G=>?_⟩;by_cases eq:q=i
    ·subst eq; exact o
    ·exact s q h h' zO
   ·have p:¬ ((l[i]:Nat):Int)=((m[i]:Nat):Int):=zO;refine zD (sG j f t0 t1 u y x z p o e) ?_;refine ⟨?_,zK⟩;rw [decide_eq_false];intro e; subst e; exact o rfl
  ·have n:¬ (i:Int)<(l.length:Int):=zO;refine zW (gS j f t0 t1 ha.lenV n hi) ?_;refine ⟨?_,zK⟩;rw [decide_eq_true (iP he fun q h h'=>s q h h' zO)]
 ·have B:¬ (l.length:Int)=(m.length:Int):=zO;refine zW (gS hl c d ha.lenV hb.lenV B he) ?_;refine ⟨?_,zK⟩;rw [decide_eq_false];intro e; subst e; exact he rfl
def Ch {x y:Nat} (h:ag x=ag y):x=y:=by
 have:=congrArg val h
 rwa [bI,bI] at this
def Hf (C:Code tab) (i:Wf H) {a b:AV} {x y:Int} (ha:IntV H a x) (hb:IntV H b y) (hx:eR x) :
  Ans tab (.fn fZ [a,b]) H fun v H'=>v=.bool (decide (x=y))/\Kp H H':=by
 obtain ⟨p,rfl,hp⟩:=ha;obtain ⟨q,rfl,f⟩:=hb;have op:=hp.one;have j:=f.one;unfold eR Sm at hx;refine bC C.q92 zU fun T hl c d=>?_;by_cases h:decide (x<0)=decide (y<0)
 ·have h':(decide (x<0) == decide (y<0))=true:=by rw [h]; simp
  refine zW (aV hl c d h') ?_;refine AnsH.eq (Hg C zF (hp.mono (zG H)) (f.mono (zG H)) zO) fun H2 g=>?_;obtain ⟨k2,_,_⟩:=zT H zK g;refine zW (aB hl c d) ?_;refine ⟨?_,zK⟩;by_cases e:x=y
  ·rw [decide_eq_true e,decide_eq_true (by rw [e])]
  ·rw [decide_eq_false e,decide_eq_false];intro h2
   have:=Ch h2
   have h3:(x<0) ↔ (y<0):=by simpa using h
   omega
 ·have h':(decide (x<0) == decide (y<0))=false:=by simpa using h
  refine zW (aV hl c d h') ?_;refine ⟨?_,zK⟩;rw [decide_eq_false];intro e; subst e; exact h rfl
def zR (C:Code tab) (M:Wf H) {a b:AV} {l m:List Int} (ha:RowV H a l) (hb:RowV H b m) (J:l.length<1099511627776) (F:∀ z∈l,eR z) :
  Ans tab (.fn fY [a,b]) H fun v H'=>v=.bool (decide (l=m))/\Kp H H':=by
 refine bC C.q67 zU fun T hl f g=>?_;by_cases he:l.length=m.length
 ·have lb:lenV b=some (.int .i64 (l.length:Int)):=by rw [hb.lenV,he]
  refine zW (cp hl f g ha.lenV lb) ?_;refine cu H [5] (fun k vs H'=>∃ i:Nat,vs=[.int .i64 (i:Int)]/\i+k=l.length/\∀ q (h:q<l.length) (h':q<m.length),q<i->l[q]=m[q]) l.length (by simp only [Vg]; exact hl) rfl zK ⟨0,by refine zW (aB hl f g) ?_; rfl,zO,fun q _ _ h=>by omega⟩ ?_;rintro k T1 o n y j ⟨i,d,I,x⟩;have w1:=j.wf;have N:=j.le;simp only [Vq,Vw,Vv,and_true] at d;have t0:aa T1 0=a:=(y.at_ 0 zU).trans (zV (aA hl f));have t1:aa T1 1=b:=(y.at_ 1 zU).trans (zV (aV hl f g g));by_cases hi:i<l.length
  ·have p:(i:Int)<(l.length:Int):=zO;have B:i<m.length:=zO;obtain ⟨w,hn,L,r⟩:=nk w1 (ha.mono j.sub) hi;obtain ⟨w',E,L',s⟩:=nk w1 (hb.mono j.sub) B;have t:=L.ld;have u:=L'.ld;have e:IntKind.i64.wrap ((i:Int)+1)=((i+1:Nat):Int):=by rw [wrap_i64] <;> omega
   refine zW (gS n d t0 t1 ha.lenV p hi) ?_;refine aM ?_;refine zD (jY n d t0 t1 r t s u) ?_;refine AnsH.eq (Hf C zF ⟨w,rfl,hn.mono (zG o)⟩ ⟨w',rfl,E.mono (zG o)⟩ (F _ (Vm hi))) fun H2 D=>?_;obtain ⟨G,_,_⟩:=zT o zK D;have k2:Kp H H2:=Kp.trans j G;have O:=k2.le;cases c:decide (l[i]=m[i]) with
   | true =>
    have c:=of_decide_eq_true c;refine zD (lh n d t0 t1 r t s u e) ?_;refine ⟨zK,k-1,zO,i+1,rfl,zO,fun q h h' K=>?_⟩;by_cases eq:q=i
    ·subst eq; exact c
    ·exact x q h h' zO
   | false =>
    have c:=of_decide_eq_false c;refine zD (lh n d t0 t1 r t s u e) ?_;refine ⟨?_,zK⟩;rw [decide_eq_false];intro e; subst e; exact c rfl
  ·have p:¬ (i:Int)<(l.length:Int):=zO;refine zW (gS n d t0 t1 ha.lenV p hi) ?_;refine ⟨?_,zK⟩;rw [decide_eq_true (iP he fun q h h'=>x q h h' zO)]
 ·have A:¬ (l.length:Int)=(m.length:Int):=zO;refine zW (gS hl f g ha.lenV hb.lenV A he) ?_;refine ⟨?_,zK⟩;rw [decide_eq_false];intro e; subst e; exact he rfl
def xL (C:Code tab) (F:Wf H) {a:AV} {r:List (Bool × List Nat)} {many lim:Nat} (ha:SlV rawE ad H a r) (hm:many<4611686018427387904) :
  Ans tab (.fn fD [a,.int .i64 (many:Int),.int .i64 (lim:Int)]) H fun v H'=>v=.bool (je many lim r)/\Kp H H':=by
 refine mN C.q28 zU fun T hl c d f=>?_;by_cases he:many<r.length
 ·have l:(many:Int)<(r.length:Int):=zO;refine zW (eF hl c d ha.lenV l he) ?_;exact ⟨by unfold je; rw [decide_eq_true he]; rfl,zK⟩
 ·have l:¬ (many:Int)<(r.length:Int):=zO;refine zW (gS hl c d f ha.lenV l he) ?_;refine cu H [7] (fun k vs H'=>∃ i:Nat,vs=[.int .i64 (i:Int)]/\i+k=r.length/\∀ q (h:q<r.length),q<i->¬ lim<(r[q]).2.length) r.length (by simp only [Vg]; exact hl) rfl zK ⟨0,by refine zW (aV hl c d f) ?_; rfl,zO,fun q _ h=>by omega⟩ ?_;rintro k T1 A n y m ⟨i,j,D,s⟩;have w1:=m.wf;have G:=m.le;simp only [Vq,Vw,Vv,and_true] at j;have t0:aa T1 0=a:=(y.at_ 0 zU).trans (zV (aA hl c));have p:aa T1 2=.int .i64 (lim:Int):=(y.at_ 2 zU).trans (zV (cp hl c d f f));by_cases hi:i<r.length
  ·have g:(i:Int)<(r.length:Int):=zO;obtain ⟨cs,⟨w,rfl,hn⟩,-,h2,-⟩:=(ha.mono m.sub).at (Vk hi);have x:aW A none (aq a (i*2+1))=some w:=h2 1 w rfl;have u:cL 2 a (.int .i64 (i:Int))=some (aq a (i*2)):=SlV.idx ha .i64 i hi;have t:AD 1 (aq a (i*2))=some (aq a (i*2+1)):=ha.fa zO 1 (i*2);have e:IntKind.i64.wrap ((i:Int)+1)=((i+1:Nat):Int):=by rw [wrap_i64] <;> omega
   by_cases b:lim<(r[i]).2.length
   ·have o:(lim:Int)<((r[i]).2.length:Int):=zO;refine zW (Mm n j t0 p ha.lenV g hi u t x hn.lenV o b) ?_;refine ⟨?_,zK⟩;unfold je;rw [VY.2 ⟨_,Vm hi,by rw [decide_eq_true b]⟩,Zr]
   ·have o:¬ (lim:Int)<((r[i]).2.length:Int):=zO;refine zW (Ml n j t0 p ha.lenV g hi u t x hn.lenV o b e) ?_;refine ⟨zK,k-1,zO,i+1,rfl,zO,fun q h E=>?_⟩;by_cases eq:q=i
    ·subst eq; exact b
    ·exact s q h zO
  ·have g:¬ (i:Int)<(r.length:Int):=zO;refine zW (gS n j t0 p ha.lenV g hi) ?_;refine ⟨?_,zK⟩;have e:(r.any fun z=>decide (lim<z.2.length))=false:=by
    rw [WU];intro z B;obtain ⟨q,b,rfl⟩:=WF B
    simpa using s q b zO
   unfold je;rw [decide_eq_false he,Zc,e]
def GK (C:Code tab) (R:Wf H) {l:List Int} {ty:Nat} (hs:yY (HP .i64) ty H s l) (P:l.length<=64) (J:∀ z∈l,-9223372036854775808<=z/\z<9223372036854775808) :
  Ans tab (.fn uM [s]) H fun v H'=>(∃ b cs,H.next<=b/\v=.own b 0 l.length l.length 2 true/\H'.get b=some (.cells cs ad true)/\Cells intE H' cs l)/\Kp H H':=by
 refine dg C.q27 zU fun T hl g=>?_;obtain ⟨cells,p⟩:∃ cells,cells=(List.replicate l.length [AV.bool false,AV.nilSl]).flatten:=⟨_,rfl⟩
 have I:∀ H':Heap,I8 H' (H.next+3) ad 2 32 [.bool false,.nilSl] (.int .i64 (l.length:Int)) (.int .i64 (l.length:Int))=some (.own (H.next+3) 0 l.length l.length 2 true,H'.put (H.next+3) (.cells cells ad true)):=fun H'=>by rw [p]; exact jd _ _ _ _ _ _ _ _ _ zO zO rfl
 refine zW (aV hl g hs.lenV I) ?_;have K:intE.R H [.bool false,.nilSl] 0:=⟨.nilSl,by simp,gZ H⟩
 have A:Cells intE H cells (List.replicate l.length 0):=by rw [p]; exact rV K _
 refine am H [3] (fun j vs H'=>vs=[.own (H.next+3) 0 l.length l.length 2 true]/\∃ cs,H'.get (H.next+3)=some (.cells cs ad true)/\Cells intE H' cs (l.take j++List.replicate (l.length-j) 0)) (a:=0) (N:=l.length) rfl (by refine zW (aA hl g) ?_; rfl) (zV (aA hl g)) (Vz _) zO (by simp only [Vg,hl]; rfl) rfl (fun j vs H' m ⟨h0,cs,h1,h2⟩=>⟨h0,cs,h1,Cells.mono (E:=intE) ((Sub.bump H' m).t _) h2⟩) zK ⟨by exact zV (aA hl g),cells,by exact da,by
  have e:List.take 0 l++List.replicate (l.length-0) 0=List.replicate l.length 0:=by simp
  rw [e];exact Cells.mono (E:=intE) zS A⟩ ?_ ?_
 ·rintro j T1 k _ hj d B t c ⟨f,cs,n,h⟩;have w1:=c.wf;have L:=c.le;have U:=c.le;simp only [Vq,Vw,Vv,and_true] at f;have t9:aa T1 9=s:=(t.at_ 9 zU).trans (zV (aA hl g));obtain ⟨w,hr,G⟩:=SlV.at1 (hs.mono c.sub) (Vk hj);have hr:w=.int .i64 l[j]:=hr;subst hr;have D:=SlV.idx1 hs .i64 j hj;have x:=J _ (Vm hj);simp only [Vg,hl] at d;refine zW (eF d t9 B D G f) ?_;refine AnsH.use (oz C zF x.1 x.2) ?_;rintro v H2 ⟨⟨w,rfl,hn⟩,F⟩;obtain ⟨k2,_,O⟩:=zT k zK F;have M:=hn.one;have o:=k2.get n;have V:=O _ _ o;have Q:cs.length=l.length*2:=by
   have:=h.1
   rw [VC,VN,XM] at this;have e:intE.sz=2:=rfl;rw [e] at this;rw [this]; congr 1; omega
  have u:En (some (.cells cs ad true)) 2 (0+j*2) (.agg [.bool (decide (l[j]<0)),w])=some (.cells (cs.take (0+j*2)++[.bool (decide (l[j]<0)),w]++cs.drop (0+j*2+2)) ad true):=km (Jr (aH _) M) zO;have r:cL 2 (.own (H.next+3) 0 l.length l.length 2 true) (.int .i64 (j:Int))=some (.ptr (H.next+3) (0+j*2)):=nl hj;rw [V3] at u r;have q:Cells intE H2 (cs.take (j*2)++[.bool (decide (l[j]<0)),w]++cs.drop (j*2+2)) ((l.take j++List.replicate (l.length-j) 0).set j l[j]):=(Cells.mono (E:=intE) (k2.sub.t _) h).set (i:=j) (by simp; omega) ⟨w,rfl,hn⟩;have y:(l.take j++List.replicate (l.length-j) 0).set j l[j]=l.take (j+1)++List.replicate (l.length-(j+1)) 0:=by
   have e1:l.length-j=(l.length-(j+1))+1:=zO;have e2:j-(List.take j l).length=0:=by simp; omega
   rw [e1,Wk,List.set_append,if_neg (by simp; omega),e2,List.set_cons_zero,Vr hj,W7];rfl
  rw [y] at q;have m3:NoTy [ae] H2 (H.next+3):=NoTy.ty o zU;refine zW (cp d f r o u) ?_;have S:Kp H H2:=c.trans k2;exact ⟨zK,_,rfl,Cells.mono (E:=intE) zS q⟩
 ·rintro T1 k d t c ⟨f,cs,n,h⟩;have w1:=c.wf;have L:=c.le;simp only [Vq,Vw,Vv,and_true] at f;simp only [Vg,hl] at d;refine zW (aA d f) ?_;refine ⟨?_,zK⟩;have e:List.take l.length l++List.replicate (l.length-l.length) 0=l:=by simp
  rw [e] at h;exact ⟨H.next+3,cs,zO,rfl,n,Cells.mono (E:=intE) ((Sub.bump k _).t _) h⟩
def GL (C:Code tab) (e:Wf H) {l:List Int} {ty:Nat} (hs:yY (HP .i64) ty H s l) (c:l.length<=64) (f:∀ z∈l,-9223372036854775808<=z/\z<9223372036854775808) :
  Ans tab (.fn uM [s]) H fun v H'=>RowV H' v l/\Kp H H' :=
 (GK C e hs c f).mono fun v H' ⟨⟨b,cs,h1,h2,h3,a⟩,d⟩=>⟨by
  subst h2;exact (show Own intE ad H H' b true (.own b 0 l.length l.length 2 true) l from ⟨cs,rfl,h3,a,h1⟩).sl,d⟩
end
def xP {β:Type} {P:Nat->β->Prop}:∀ n,(∀ i,i<n->∃ y,P i y)->∃ l:List β,l.length=n/\∀ i (h:i<l.length),P i l[i]
 | 0,_=>⟨[],rfl,fun i h=>by simp at h⟩
 | n+1,h=>by
  obtain ⟨l,h1,h2⟩:=xP n fun i hi=>h i zO;obtain ⟨y,hy⟩:=h n zO;refine ⟨l++[y],by simp [h1],fun i hi=>?_⟩;by_cases a:i<l.length
  ·rw [ZW a]; exact h2 i a
  ·have:i=n:=by rw [VC] at hi; simp at hi; omega
   subst this;rw [ZL zO]
   simpa [h1] using hy
def Jq {β:Type} {sz:Nat} {f:β->List AV}:∀ (l:List β),(∀ y∈l,(f y).length=sz)->(l.flatMap f).length=l.length*sz/\∀ i (h:i<l.length) k,k<sz->(l.flatMap f)[i*sz+k]? = (f l[i])[k]?
 | [],_=>⟨by simp,fun i h=>by simp at h⟩
 | y :: l,h=>by
  obtain ⟨h1,h2⟩:=Jq l fun z b=>h z (Vn _ b);have hy:=h y (Vt ..);refine ⟨by rw [List.flatMap_cons,VC,h1,hy,VX,W4]; omega,fun i hi k a=>?_⟩;rw [List.flatMap_cons];cases i with
  | zero=>rw [VT zO]; simp
  | succ i =>
   rw [We (by rw [W4]; omega),hy];have e:(i+1)*sz+k-sz=i*sz+k:=by rw [W4]; omega
   rw [e,h2 i (by simpa using hi) k a]
   simp
def xf {HT:Type}:DataW HT->List (DataW HT)
 | .slice l _=>l
 | _=>[]
def Sb {HT:Type}:DataW HT->List (DataW HT)
 | .agg l=>l
 | _=>[]
def HL {HT:Type} (y:DataW HT) (z:Bool × List Nat):Prop:=∃ y2∈Sb y,z.2.length<=(xf y2).length
section
variable {HT:Type} {enc:TypeId × Value->HT} {P:Program} {w:World} {base:Nat} {sp:Nat->Bool} {held:Bool} {μ:Mu} {F:Nat->Prop} {H:Heap} {α:Type}
def zi {E:fO α} {ty:Nat} {good:DataW HT->α->Prop} {t e:TypeId} (O:∀ c,c<w.heap.size->F c) (W:P.underlying t=some (.slice e)) (V:P.cellsOf e=E.sz)
  (R:∀ A cs x,DataW.trod enc P w base sp held A e cs=some x->∃ q z,LR μ F w q cs/\E.R H q z/\good x.1 z)
  {A:Nat} {cs:List Value} {x:DataW HT × List MemPlace} (h:DataW.trod enc P w base sp held A t cs=some x) :
  ∃ v B zs,cs=[v]/\VR μ F w B v/\SlV E ty H B zs/\(∀ z∈zs,∃ y∈xf x.1,good y z)/\zs.length<=maxLen/\zs.length<=(xf x.1).length:=by
 rcases DataW.trod_slice W h with ⟨rfl,-⟩ | ⟨a,len,cap,C,rest,n,-,rfl,ex,hb,hl,hc,T,Q,-⟩
 ·exact ⟨_,.nilSl,[],rfl,.nilSl,SlV.nil _ _ _,(fun z h=>by cases h),Vz _,Vz _⟩
 ·rcases Xw len with h0 | h0
  ·subst h0;refine ⟨_,.sl [] 0,[],rfl,.sl0 a cap,⟨[],⟨trivial,(fun s h=>by cases h),0,rfl,by simp [aG]⟩,(fun _ _ _ _ _ _ e=>by cases e),by simp,fun i a h=>by simp at h⟩,fun z h=>(by cases h),Vz _,Vz _⟩
  ·have hp:=E.pos;obtain ⟨L,l,d⟩:=xP (P:=fun i (y:List AV × List Value × α)=>w.cells? base (a.add (i*E.sz)) E.sz=some y.2.1/\LR μ F w y.1 y.2.1/\E.R H y.1 y.2.2/\∃ h:i<C.length,good C[i].1 y.2.2) len fun i hi=>by
    have h1:=Q i hi;rw [Vk zO,V] at h1;obtain ⟨cs,h2,h3⟩:=Vf.1 h1;obtain ⟨q,z,M,h5,N⟩:=R _ _ _ h3;exact ⟨(q,cs,z),h2,M,h5,zO,N⟩
   have J:∀ y∈L,y.1.length=E.sz:=fun y hy=>by
    obtain ⟨i,hi,rfl⟩:=WF hy;exact (E.len (d i hi).2.2.1).1
   obtain ⟨o,I⟩:=Jq (f:=fun y:List AV × List Value × α=>y.1) L J;have G:∀ i (hi:i<L.length) k,k<E.sz->w.cell? (a.add (i*E.sz) |>.add k)=(L[i]).2.1[k]?:=fun i hi k b=>((World.cells?_some (d i hi).1).2.2 k b)
   obtain ⟨v0,p⟩:∃ v0,w.cell? a=some v0:=by
    have h1:=G 0 zO 0 hp;have h2:=(World.cells?_some (d 0 zO).1).2.1;rw [Vk zO] at h1;simp [Addr.add] at h1;exact ⟨_,h1⟩
   obtain ⟨arr,g,fr,r,K⟩:∃ arr g fr,w.heap[a.block]? = some (.cells arr g fr)/\a.spot=none:=by
    unfold World.cell? at p;split at p
    ·rename_i c g fr hb;refine ⟨c,g,fr,hb,?_⟩;cases hs:a.spot with
     | none=>rfl
     | some s=>rw [hs] at p; simp at p
    ·cases p
   obtain ⟨blk,off,aa⟩:=a;simp only at K r hb;subst K;have D:∀ i (hi:i<L.length) k,k<E.sz->arr[off+(i*E.sz+k)]? = (L[i]).2.1[k]?:=fun i hi k b=>by
    rw [<- G i hi k b];have e:((⟨blk,off,none⟩:Addr).add (i*E.sz) |>.add k)=⟨blk,off+(i*E.sz+k),none⟩:=by
     unfold Addr.add;by_cases h1:i*E.sz=0
     ·by_cases h2:k=0
      ·simp [h1,h2]
      ·simp [h1,h2]
     ·by_cases h2:k=0
      ·simp [h1,h2]
      ·simp [h1,h2]; omega
    rw [e];simp [World.cell?,r]
   have Y:∀ i (hi:i<L.length),(L[i]).2.1.length=E.sz:=fun i hi=>(World.cells?_some (d i hi).1).2.1;have U:off+(L.flatMap fun y=>y.1).length<=arr.size:=by
    have h1:=D (len-1) zO (E.sz-1) zO;rw [Vk (by have:=Y (len-1) zO; omega)] at h1;have h2:=(Wz.1 h1).1;rw [o,l];have h3:len*E.sz=(len-1)*E.sz+E.sz:=by
     obtain ⟨m,rfl⟩:∃ m,len=m+1:=⟨len-1,zO⟩
     rw [W4,Xx]
    omega
   refine ⟨_,.sl (L.flatMap fun y=>y.1) len,L.map fun y=>y.2.2,rfl,.sl _ _ _ blk off arr g fr (O _ (Wz.1 r).1) r hl U fun j c v hc X=>?_,⟨L.flatMap fun y=>y.1,⟨trivial,(fun s h=>by cases h),len,rfl,?_⟩,(fun _ _ _ _ _ _ e=>by cases e),?_,fun i z u=>?_⟩,fun z u=>?_,by rw [Vp,l]; omega,by rw [Vp,l,ex]; simp [xf,T]⟩
   ·have hj:=(VA.1 hc).1;rw [o] at hj;have hi:j / E.sz<L.length:=(VQ hp).2 hj;have b:j % E.sz<E.sz:=Wm _ hp;have S:j / E.sz*E.sz+j % E.sz=j:=YH j E.sz;have h1:=I _ hi _ b;have h2:=D _ hi _ b;rw [S] at h1 h2;rw [hc] at h1;rw [X] at h2;exact (d _ hi).2.1.2 _ _ _ h1.symm h2.symm
   ·simp only [aG];rw [if_pos ⟨Vo _,by rw [o,l]; exact Vo _⟩,VP (by rw [o,l]; exact Vo _)]
   ·rw [o,Vp]
   ·rw [Wg,Vu] at u;obtain ⟨y,hy,rfl⟩:=u;obtain ⟨hi,rfl⟩:=VA.1 hy;have e:(((L.flatMap fun y=>y.1).drop (i*E.sz)).take E.sz)=L[i].1:=by
     apply W0
     intro k;rw [VL];have Z:=J _ (Vm hi);split
     ·rename_i b;rw [VM]; exact I i hi k b
     ·exact (VS zO).symm
    rw [e];exact (d i hi).2.2.1
   ·obtain ⟨y,hy,rfl⟩:=Vl.1 u;obtain ⟨i,hi,rfl⟩:=WF hy;obtain ⟨h1,h2⟩:=(d i hi).2.2.2;rw [ex];exact ⟨_,Vl.2 ⟨_,Vm h1,rfl⟩,h2⟩
def PQ {E:fO α} {ty:Nat} {good:α->Prop} {t e:TypeId} (g:∀ c,c<w.heap.size->F c) (k:P.underlying t=some (.slice e)) (j:P.cellsOf e=E.sz)
  (i:∀ b cs x,DataW.trod enc P w base sp held b e cs=some x->∃ d z,LR μ F w d cs/\E.R H d z/\good z)
  {b:Nat} {cs:List Value} {x:DataW HT × List MemPlace} (h:DataW.trod enc P w base sp held b t cs=some x) :
  ∃ v a zs,cs=[v]/\VR μ F w a v/\SlV E ty H a zs/\(∀ z∈zs,good z)/\zs.length<=maxLen:=by
 obtain ⟨v,a,zs,h1,h2,h3,f,h5,-⟩:=zi (good:=fun _ z=>good z) g k j i h;exact ⟨v,a,zs,h1,h2,h3,fun z l=>(f z l).elim fun _ h=>h.2,h5⟩
def Ko {t:TypeId} (d:P.underlying t=some (.int .u64)) {c:Nat} {cs:List Value} {x:DataW HT × List MemPlace} (h:DataW.trod enc P w base sp held c t cs=some x) :
  ∃ a z,LR μ F w a cs/\(bY cB).R H a z/\z<18446744073709551616:=by
 obtain ⟨n,rfl,-,b⟩:=DataW.trod_int d h;have hr:0<=n/\n<18446744073709551616:=by
  have h1:IntKind.u64.min=0:=by decide
  have h2:IntKind.u64.max=18446744073709551615:=by decide
  unfold Lit.wf at b;simp [h1,h2] at b;omega
 refine ⟨[.int .u64 n],n.toNat,LR.cons (.int _ _) LR.nil,⟨_,rfl,?_⟩,zO⟩;show AV.int .u64 n=.int .u64 (n.toNat:Int);rw [Int.toNat_of_nonneg hr.1]
def M7 {t e:TypeId} (f:∀ c,c<w.heap.size->F c) (i:P.underlying t=some (.slice e)) (he:P.underlying e=some (.int .u64)) (g:P.cellsOf e=1) {b:Nat} {cs:List Value} {x:DataW HT × List MemPlace} (h:DataW.trod enc P w base sp held b t cs=some x) :
  ∃ v a zs,cs=[v]/\VR μ F w a v/\SlV (bY cB) ae H a zs/\(∀ z∈zs,z<18446744073709551616)/\zs.length<=maxLen/\zs.length<=(xf x.1).length:=by
 obtain ⟨v,a,zs,h1,h2,h3,d,h5⟩:=zi (E:=bY cB) (ty:=ae) (H:=H) (μ:=μ) (good:=fun _ z=>z<18446744073709551616) f i g (fun b cs x h=>Ko he h) h;exact ⟨v,a,zs,h1,h2,h3,fun z j=>(d z j).elim fun _ h=>h.2,h5⟩
def DT (z:Bool × List Nat):Prop:=(∀ x∈z.2,x<18446744073709551616)/\z.2.length<=maxLen
def M6 {t e:TypeId} {f:Array Field} {f0 f1:Field} (u:∀ c,c<w.heap.size->F c) (D:P.underlying t=some (.struct f)) (C:f = #[f0,f1]) (h0:f0.offset=0) (h1:f1.offset=1) (hc:P.cellsOf t=2) (hb:P.underlying f0.type=some .bool) (y:P.cellsOf f0.type=1) (hn:P.underlying f1.type=some (.slice e)) (B:P.cellsOf f1.type=1) (he:P.underlying e=some (.int .u64)) (A:P.cellsOf e=1)
  {m:Nat} {cs:List Value} {x:DataW HT × List MemPlace} (h:DataW.trod enc P w base sp held m t cs=some x) :
  ∃ a z,LR μ F w a cs/\rawE.R H a z/\DT z/\HL x.1 z:=by
 subst C;obtain ⟨xs,n,-,ex,hl,j,hx⟩:=DataW.trod_struct D h;have j:xs.length=2:=by simpa using j
 rw [hc] at hl
 match cs,hl with
 | [k,l],_ =>
  have e0:=hx 0 f0 rfl;have e1:=hx 1 f1 rfl;rw [Vk zO,h0,y] at e0;rw [Vk zO,h1,B] at e1;have E:xs[1]∈xs:=Vm _;obtain ⟨b,g,-⟩:=DataW.trod_bool hb e0;obtain ⟨v,d,zs,i,o,p,q,r,s⟩:=M7 (H:=H) (μ:=μ) u hn he A e1;have q0:k=.bool b:=by simpa using g
  have q1:l=v:=by simpa using i
  clear g i;subst q0; subst q1;exact ⟨[.bool b,d],(b,zs),LR.cons (.bool _) (LR.cons o LR.nil),⟨d,rfl,p⟩,⟨q,r⟩,by rw [ex]; exact ⟨_,Vl.2 ⟨_,E,rfl⟩,s⟩⟩
structure RowTys (P:Program) (tvs tv ti te:TypeId):Prop where
 vs:P.underlying tvs=some (.slice tv)
 cv:P.cellsOf tv=1
 v:P.underlying tv=some (.slice ti)
 ci:P.cellsOf ti=2
 i:∃ f0 f1:Field,P.underlying ti=some (.struct #[f0,f1])/\f0.offset=0/\f1.offset=1/\P.underlying f0.type=some .bool/\P.cellsOf f0.type=1/\P.underlying f1.type=some (.slice te)/\P.cellsOf f1.type=1
 e:P.underlying te=some (.int .u64)
 ce:P.cellsOf te=1
abbrev Ui (H:Heap) (v:AV) (l:List (Bool × List Nat)):Prop:=SlV rawE ad H v l
def jg (l:List (Bool × List Nat)):Prop:=(∀ z∈l,DT z)/\l.length<=maxLen
def M5 {tvs tv ti te:TypeId} (a:RowTys P tvs tv ti te) (g:∀ c,c<w.heap.size->F c) {e:Nat} {cs:List Value} {x:DataW HT × List MemPlace} (h:DataW.trod enc P w base sp held e tv cs=some x) :
  ∃ v b l,cs=[v]/\VR μ F w b v/\Ui H b l/\jg l/\∀ z∈l,∃ y∈xf x.1,HL y z:=by
 obtain ⟨f0,f1,n,o,p,q,r,s,t⟩:=a.i;obtain ⟨v,b,l,i,j,k,f,m,-⟩:=zi (E:=rawE) (ty:=ad) (H:=H) (μ:=μ) (good:=fun y z=>DT z/\HL y z) g a.v a.ci (fun e cs x h=>M6 g n rfl o p a.ci q r s t a.e a.ce h) h;exact ⟨v,b,l,i,j,k,⟨fun z d=>(f z d).elim fun _ h=>h.2.1,m⟩,fun z d=>(f z d).imp fun y h=>⟨h.1,h.2.2⟩⟩
end
def fK (z:Bool × List Nat):Int:=if z.1=true then -(val z.2:Int) else (val z.2:Int)
def KN:∀ {z:Bool × List Nat},rJ z=false->Lim z.2->eO (fK z)=z
 | (b,l),hb,hl=>by
  simp only [rJ,XT,decide_eq_false_iff_not,Z4] at hb;obtain ⟨h1,h2⟩:=hb;have hn:Mf l:=h1;have a:=wY hl hn;cases b with
  | false =>
   have e:fK (false,l)=(val l:Int):=rfl;rw [e];unfold eO;rw [decide_eq_false zO,XN,a]
  | true =>
   have e:fK (true,l) = -(val l:Int):=rfl;have hne:l≠[]:=fun e=>by subst e; simp at h2
   have hp:0<B^(l.length-1):=Wb (by decide);have c:=yO hn hne;rw [e];unfold eO;rw [decide_eq_true zO,Yk,XN,a]
def SlV.int {ty:Nat} {H:Heap} {v:AV} {l:List (Bool × List Nat)} (h:SlV rawE ty H v l) (hb:∀ z∈l,rJ z=false/\Lim z.2):SlV intE ty H v (l.map fK):=by
 obtain ⟨cells,hr,c,hc,ha⟩:=h;refine ⟨cells,hr,c,by rw [hc,Vp]; rfl,fun i a hi=>?_⟩;rw [Wg,Vu] at hi;obtain ⟨z,b,rfl⟩:=hi;obtain ⟨w,h1,h2⟩:=ha i z b;have hm:=hb z (VD b);have e:=KN hm.1 hm.2;have e1:decide (fK z<0)=z.1:=congrArg Prod.fst e;have e2:ag (fK z).natAbs=z.2:=congrArg Prod.snd e;refine ⟨w,by rw [e1]; exact h1,?_⟩;show Lb H w (ag (fK z).natAbs);rw [e2]; exact h2
section
open Go.ChangeShapes Go.WideShapes
variable {HT:Type} {enc:TypeId × Value->HT} {P:Program} {w:World} {base base':Nat} {sp:Nat->Bool} {held:Bool} {μ:Mu} {F:Nat->Prop} {H:Heap}
end
def int_range {n:Int} (h:(Lit.int .i64 n).wf=true) : -9223372036854775808<=n/\n<9223372036854775808:=by
 have h1:IntKind.i64.min = -9223372036854775808:=by decide
 have h2:IntKind.i64.max=9223372036854775807:=by decide
 unfold Lit.wf at h;simp [h1,h2] at h;omega
def wf_nil:Wf (Heap.nil 0):=fun b e h=>by rw [Tr.nil_get] at h; cases h
def MQ {z:Bool × List Nat} {n:Nat} (hl:Lim z.2) (hn:z.2.length<=n):Bt (64*n) (fK z):=by
 have h1:=wn hl;have h2:B^z.2.length<=B^n:=VW (by decide) hn;have h3:B^n=2^(64*n):=by
  have:B=2^64:=by decide
  rw [this,<- YC]
 unfold Bt fK;split
 ·rw [Yk,XN]; omega
 ·rw [XN]; omega
def Q7 {α:Type} (E:fO α) (ty:Nat):fO (List α × Bool) where
 sz:=2
 tys:=ty :: E.tys
 R H cs z:=∃ v,cs=[v,.bool z.2]/\SlV E ty H v z.1
 pos:=zO
 len:=by rintro H cs z ⟨v,rfl,h⟩; exact ⟨rfl,by simp [h.one.2]; rfl⟩
 mono:=by rintro H H' cs z hs ⟨v,rfl,h⟩; exact ⟨v,rfl,h.monoT hs⟩
def Q5 {α:Type} (E:fO α) (ty:Nat):fO (Nat × List α) where
 sz:=2
 tys:=ty :: E.tys
 R H cs z:=∃ v,cs=[.int .u8 (z.1:Int),v]/\SlV E ty H v z.2
 pos:=zO
 len:=by rintro H cs z ⟨v,rfl,h⟩; exact ⟨rfl,by simp [h.one.2]; rfl⟩
 mono:=by rintro H H' cs z hs ⟨v,rfl,h⟩; exact ⟨v,rfl,h.monoT hs⟩
abbrev conE:fO (List Int × Bool):=Q7 intE ad
abbrev conQE:fO (List (Bool × List Nat) × Bool):=Q7 rawE ad
abbrev genE:fO (Nat × List Int):=Q5 intE ad
abbrev genQE:fO (Nat × List (Bool × List Nat)):=Q5 rawE ad
section
variable {HT:Type} {enc:TypeId × Value->HT} {P:Program} {w:World} {base:Nat} {sp:Nat->Bool} {held:Bool} {μ:Mu} {F:Nat->Prop} {H:Heap}
structure ConTys (P:Program) (tcs tc tv:TypeId):Prop where
 cs:P.underlying tcs=some (.slice tc)
 cc:P.cellsOf tc=2
 c:∃ f0 f1:Field,P.underlying tc=some (.struct #[f0,f1])/\f0.offset=0/\f1.offset=1/\f0.type=tv/\P.underlying f1.type=some .bool/\P.cellsOf f1.type=1
def M8 {tcs tc tvs tv ti te:TypeId} (g:ConTys P tcs tc tv) (i:RowTys P tvs tv ti te) (s:∀ c,c<w.heap.size->F c) {o:Nat} {cs:List Value} {x:DataW HT × List MemPlace} (h:DataW.trod enc P w base sp held o tc cs=some x) :
  ∃ a z,LR μ F w a cs/\conQE.R H a z/\jg z.1:=by
 obtain ⟨f0,f1,t,u,y,A,B,C⟩:=g.c;obtain ⟨xs,n,-,ex,hl,j,hx⟩:=DataW.trod_struct t h;have j:xs.length=2:=by simpa using j
 rw [g.cc] at hl
 match cs,hl with
 | [k,m],_ =>
  have e0:=hx 0 f0 rfl;have e1:=hx 1 f1 rfl;rw [Vk zO,u,A,i.cv] at e0;rw [Vk zO,y,C] at e1;obtain ⟨b,e,-⟩:=DataW.trod_bool B e1;obtain ⟨v,d,l,f,p,q,r,-⟩:=M5 (H:=H) (μ:=μ) i s e0;have q0:m=.bool b:=by simpa using e
  have q1:k=v:=by simpa using f
  clear e f;subst q0; subst q1;exact ⟨[d,.bool b],(l,b),LR.cons p (LR.cons (.bool _) LR.nil),⟨d,rfl,q⟩,r⟩
def Kq {tcs tc tvs tv ti te:TypeId} (a:ConTys P tcs tc tv) (f:RowTys P tvs tv ti te) (e:∀ c,c<w.heap.size->F c) {d:Nat} {cs:List Value} {x:DataW HT × List MemPlace} (h:DataW.trod enc P w base sp held d tcs cs=some x) (ty:Nat) :
  ∃ v b l,cs=[v]/\VR μ F w b v/\SlV conQE ty H b l/\(∀ r∈l,jg r.1)/\l.length<=maxLen :=
 PQ (E:=conQE) (good:=fun z=>jg z.1) e a.cs a.cc (fun d cs x h=>M8 a f e h) h
end
section
open Go.ChangeShapes Go.WideShapes
variable {HT:Type} {enc:TypeId × Value->HT} {P:Program} {w:World} {base base':Nat} {sp:Nat->Bool} {held:Bool} {μ:Mu} {F:Nat->Prop} {H:Heap}
def open_cons {tcs tc tvs tv ti te:TypeId} (f:ConTys P tcs tc tv) (j:RowTys P tvs tv ti te) (i:∀ c,c<w.heap.size->F c) {r:Reach} {v:Value} {d:DataW HT} {ps:List MemPlace} (hval:Value.okWide P w r base' tcs v) (hd:DataW.Trod enc P w base sp held tcs v d ps) (ty:Nat) :
  ∃ b l,VR μ F w b v/\SlV conQE ty H b l/\(∀ r∈l,jg r.1)/\l.length<=maxLen:=by
 obtain ⟨a,n,c,rfl⟩:=okWide_slice f.cs hval;obtain ⟨m,h⟩:=hd;obtain ⟨k,b,l,e,g⟩:=Kq (H:=H) (μ:=μ) f j i h ty;have e:k=.slice a n c:=by simpa [Value.cells] using e.symm
 subst e;exact ⟨b,l,g⟩
end
def OC {ty:Nat} {H:Heap} {v:AV} {l:List (List (Bool × List Nat) × Bool)} (h:SlV conQE ty H v l) (hb:∀ r∈l,∀ z∈r.1,rJ z=false/\Lim z.2):SlV conE ty H v (l.map fun r=>(r.1.map fK,r.2)):=by
 obtain ⟨cells,hr,c,hc,ha⟩:=h;refine ⟨cells,hr,c,by rw [hc,Vp]; rfl,fun i a hi=>?_⟩;rw [Wg,Vu] at hi;obtain ⟨z,b,rfl⟩:=hi;obtain ⟨w,h1,h2⟩:=ha i z b;exact ⟨w,h1,SlV.int h2 (hb z (VD b))⟩
end Go.Proofs.YtkmepoeklibegaaGreat.Ev
namespace Go.Proofs.YtkmepoeklibegaaGreat.Lin
def scl_bd {M:Nat} {x:V} (h:Bd M x):Bd M (scl (-1) x):=fun i=>by
 have e:at_ (scl (-1) x) i = -(at_ x i):=by
  simp only [at_,scl,Vh,Wg];cases x[i]? <;> simp
 rw [e,Yk]; exact h i
def wt (d:Nat):List V->V
 | []=>kT d
 | a :: l=>mix 1 a 1 (wt d l)
def qv {d:Nat}:∀ {l:List V},(∀ a∈l,a.length=d)->(wt d l).length=d
 | [],_=>by simp [wt,kT]
 | a :: l,h=>mix_length (h a (Vt ..)) (qv fun b hb=>h b (Vn _ hb))
def lO {d:Nat} {x:V}:∀ {l:List V},(∀ a∈l,a.length=d)->(∀ a∈l,dot x a=0)->dot x (wt d l)=0
 | [],_,_=>kh x d
 | a :: l,hl,h=>by
  have h1:=lO (x:=x) (l:=l) (fun b hb=>hl b (Vn _ hb)) fun b hb=>h b (Vn _ hb);have h2:=h a (Vt ..);have e:=qv (d:=d) (l:=l) fun b hb=>hl b (Vn _ hb);rw [wt,aJ _ _ _ ((hl a (Vt ..)).trans e.symm)];omega
def qq {d:Nat} {x:V}:∀ {l:List V},(∀ a∈l,a.length=d)->(∀ a∈l,0<=dot x a)->0<=dot x (wt d l)/\((∃ a∈l,dot x a≠0)->1<=dot x (wt d l))
 | [],_,_=>⟨by rw [wt,kh]; exact XB _,fun ⟨a,ha,_⟩=>by cases ha⟩
 | a :: l,hl,h=>by
  obtain ⟨h1,h3⟩:=qq (x:=x) (l:=l) (fun b hb=>hl b (Vn _ hb)) fun b hb=>h b (Vn _ hb);have h2:=h a (Vt ..);have e:=qv (d:=d) (l:=l) fun b hb=>hl b (Vn _ hb);rw [wt,aJ _ _ _ ((hl a (Vt ..)).trans e.symm)];refine ⟨zO,?_⟩;rintro ⟨b,hb,hn⟩;rcases VK.1 hb with rfl | hb
  ·omega
  ·have:=h3 ⟨b,hb,hn⟩
   omega
def zk {d:Nat} {E I:V->Prop} {L R:List V} (h:yG d E I L R) {r s:V} (hr:r∈R) (hs:s∈R) (hne:s≠r):∃ i,I i/\dot i r=0/\dot i s≠0:=by
 apply VI
 intro n;have c:=h.dd.keep r hr;have o:=h.dd.keep s hs;have e:=h.dd.lenR s hs;obtain ⟨k1,g,k,q,f⟩:=h.dd.ext r hr s o fun i hi p=>VI fun hn=>n ⟨i,hi,p,hn⟩;have t:g≠0:=fun e0=>by
  subst e0;obtain ⟨b,j,m⟩:=h.dd.off s hs
  have:=Con.dot_zero (a:=b) h.dd.lenL (fun r h=>h.elim) (fun l hl=>h.dd.lineI l hl b j) (fun r h=>h.elim) f
  rw [aJ _ _ _ (e.trans c.len.symm)] at this;rcases VH.1 (show k1*dot b s=0 by omega) with h1 | h1
  ·omega
  ·exact m h1
 have:s=r:=qD h.form e c.len (fun l hl=>h.rest s hs l hl) (fun l hl=>h.rest r hr l hl) (h.cont s hs) (h.cont r hr) k zO f
 exact hne this
def tz (f:V->Int):∀ S:List V,∃ N:Int,0<=N/\∀ s∈S,f s<=N
 | []=>⟨0,XB _,fun s h=>by cases h⟩
 | a :: S=>by
  obtain ⟨N,h0,b⟩:=tz f S;refine ⟨N+(f a).natAbs,zO,fun s hs=>?_⟩;rcases VK.1 hs with rfl | hs
  ·omega
  ·have:=b s hs; omega
def unitC (n:Nat) (k:Int):V:=k :: List.replicate n 0
def hd1 (r:V):Int:=r.headD 0
def eqsOf (l:List (V × Bool)):List V:=(l.filter fun c=>c.2).map fun c=>c.1
def ineqsOf (n:Nat) (l:List (V × Bool)):List V:=unitC n 1 :: (l.filter fun c=>!c.2).map fun c=>c.1
def kindOf (r:V):Nat:=if 0<hd1 r then 3 else 2
def gensP (n:Nat) (l:List (V × Bool)):List (Nat × V) :=
 if (gensR (n+1) (eqsOf l) (ineqsOf n l)).any (fun r=>decide (0<hd1 r)) then
  (gensL (n+1) (eqsOf l) (ineqsOf n l)).map (fun r=>(1,r))++(gensR (n+1) (eqsOf l) (ineqsOf n l)).map fun r=>(kindOf r,r)
 else []
def linesOf (g:List (Nat × V)):List V:=(g.filter fun x=>x.1 == 1).map fun x=>x.2
def raysOf (g:List (Nat × V)):List V:=(g.filter fun x=>!(x.1 == 1)).map fun x=>x.2
def consP (n:Nat) (g:List (Nat × V)):List (V × Bool) :=
 if g.any (fun x=>x.1 == 3) then
  (gensL (n+1) (linesOf g) (raysOf g)).map (fun r=>(r,true))++((gensR (n+1) (linesOf g) (raysOf g)).filter fun r=>!decide (r=unitC n 1)).map fun r=>(r,false)
 else [(unitC n (-1),false)]
def keepsP (c:V × Bool) (g:Nat × V):Bool:=if c.2 || g.1 == 1 then decide (dot c.1 g.2=0) else decide (0<=dot c.1 g.2)
def unitC_len (n:Nat) (k:Int):(unitC n k).length=n+1:=by simp [unitC]
def lX:∀ (n:Nat) (x:V),dot (List.replicate n 0) x=0
 | 0,x=>by simp [dot]
 | n+1,[]=>by simp [dot]
 | n+1,a :: x=>by
  have:=lX n x
  rw [Wk];simp [dot] at this ⊢;exact this
def eI {n:Nat} {k:Int} {x:V}:dot (unitC n k) x=k*hd1 x:=by
 cases x with
 | nil=>simp [unitC,dot,hd1]
 | cons a x =>
  have:=lX n x
  simp [unitC,dot,hd1,this]
section
variable {n:Nat} {l:List (V × Bool)}
def eqs_len (h:∀ c∈l,c.1.length=n+1):∀ a∈eqsOf l,a.length=n+1:=fun a ha=>by
 obtain ⟨c,hc,rfl⟩:=Vl.1 ha;exact h c (Vx.1 hc).1
def ineqs_len (h:∀ c∈l,c.1.length=n+1):∀ a∈ineqsOf n l,a.length=n+1:=fun a ha=>by
 rcases VK.1 ha with rfl | ha
 ·exact unitC_len n 1
 ·obtain ⟨c,hc,rfl⟩:=Vl.1 ha;exact h c (Vx.1 hc).1
def mem_eqs {a:V}:a∈eqsOf l ↔ (a,true)∈l:=by
 constructor
 ·intro h;obtain ⟨⟨r,b⟩,hc,rfl⟩:=Vl.1 h;obtain ⟨h1,h2⟩:=Vx.1 hc;simp only at h2;subst h2;exact h1
 ·intro h;exact Vl.2 ⟨(a,true),Vx.2 ⟨h,rfl⟩,rfl⟩
def mem_ineqs {a:V}:a∈ineqsOf n l ↔ a=unitC n 1\/(a,false)∈l:=by
 unfold ineqsOf;rw [VK];refine or_congr Zd ?_;constructor
 ·intro h;obtain ⟨⟨r,b⟩,hc,rfl⟩:=Vl.1 h;obtain ⟨h1,h2⟩:=Vx.1 hc;cases b with
  | false=>exact h1
  | true=>simp at h2
 ·intro h;exact Vl.2 ⟨(a,false),Vx.2 ⟨h,rfl⟩,rfl⟩
abbrev dm (n:Nat) (l:List (V × Bool)) (x:V):Prop:=Keep (n+1) (· ∈ eqsOf l) (· ∈ ineqsOf n l) x
def keepP_iff {x:V}:dm n l x ↔ x.length=n+1/\0<=hd1 x/\∀ c∈l,(c.2=true->dot c.1 x=0)/\(c.2=false->0<=dot c.1 x):=by
 constructor
 ·intro h;have h1:=h.ge (unitC n 1) (mem_ineqs.2 (.inl rfl));rw [eI] at h1;refine ⟨h.len,zO,fun ⟨r,b⟩ hc=>⟨fun hb=>?_,fun hb=>?_⟩⟩
  ·simp only at hb; subst hb; exact h.eq r (mem_eqs.2 hc)
  ·simp only at hb; subst hb; exact h.ge r (mem_ineqs.2 (.inr hc))
 ·rintro ⟨h1,h2,h3⟩;refine ⟨h1,fun a ha=>(h3 _ (mem_eqs.1 ha)).1 rfl,fun a ha=>?_⟩;rcases mem_ineqs.1 ha with rfl | ha
  ·rw [eI]; omega
  ·exact (h3 _ ha).2 rfl
def AA {a:List (V × Bool)} (h:∀ c∈l,c.1.length=n+1) (h':∀ c∈a,c.1.length=n+1) (hs:∀ x,dm n l x ↔ dm n a x):gensP n l=gensP n a:=by
 obtain ⟨e1,e2⟩:=qm (gens_told (eqs_len h) (ineqs_len h)) (gens_told (eqs_len h') (ineqs_len h')) hs;unfold gensP;rw [e1,e2]
def N5 (h:∀ c∈l,c.1.length=n+1) {r:V} (hr:r∈gensL (n+1) (eqsOf l) (ineqsOf n l)):dm n l r/\dm n l (scl (-1) r):=by
 have t:=gens_told (eqs_len h) (ineqs_len h);refine ⟨⟨t.dd.lenL r hr,fun e he=>t.dd.lineE r hr e he,fun i hi=>by rw [t.dd.lineI r hr i hi]; exact XB _⟩,⟨scl_length (t.dd.lenL r hr),fun e he=>by rw [dot_scl,t.dd.lineE r hr e he]; rfl,fun i hi=>by rw [dot_scl,t.dd.lineI r hr i hi]; exact XB _⟩⟩
def NC (h:∀ c∈l,c.1.length=n+1) {r:V} (hr:r∈gensR (n+1) (eqsOf l) (ineqsOf n l)):dm n l r:=(gens_told (eqs_len h) (ineqs_len h)).dd.keep r hr
def Bs (n:Nat) (l:List (V × Bool)) (c:V × Bool):Prop:=∀ x,dm n l x->(c.2=true->dot c.1 x=0)/\0<=dot c.1 x
def wm {c:V × Bool} (hc:c∈l):Bs n l c:=fun x hx=>by
 have h1:=(keepP_iff.1 hx).2.2 c hc;refine ⟨h1.1,?_⟩;cases hb:c.2 with
 | false=>exact h1.2 hb
 | true=>rw [h1.1 hb]; exact XB _
def lz {c:V × Bool} {g:Nat × V} (hc:Bs n l c) (hg:dm n l g.2) (hl:g.1=1->dm n l (scl (-1) g.2)):keepsP c g=true:=by
 have h1:=hc _ hg;unfold keepsP;cases hb:c.2 with
 | true=>simp [h1.1 hb]
 | false =>
  by_cases a:g.1=1
  ·have h2:=(hc _ (hl a)).2;rw [dot_scl] at h2;simp [a]; omega
  ·simp [a]; exact h1.2
def mM (h:∀ c∈l,c.1.length=n+1) {g:Nat × V} (hg:g∈gensP n l):dm n l g.2/\(g.1=1->dm n l (scl (-1) g.2)):=by
 unfold gensP at hg;split at hg
 ·rcases VE.1 hg with hg | hg
  ·obtain ⟨r,hr,rfl⟩:=Vl.1 hg;exact ⟨(N5 h hr).1,fun _=>(N5 h hr).2⟩
  ·obtain ⟨r,hr,rfl⟩:=Vl.1 hg;refine ⟨NC h hr,fun e=>?_⟩;have e:kindOf r=1:=e;unfold kindOf at e;split at e <;> omega
 ·cases hg
theorem Jh (r:V):(kindOf r == 1)=false:=by unfold kindOf; split <;> rfl
def mL (hs:(gensR (n+1) (eqsOf l) (ineqsOf n l)).any (fun r=>decide (0<hd1 r))=true) :
  linesOf (gensP n l)=gensL (n+1) (eqsOf l) (ineqsOf n l)/\raysOf (gensP n l)=gensR (n+1) (eqsOf l) (ineqsOf n l)/\(gensP n l).any (fun x=>x.1 == 3)=true:=by
 unfold gensP;rw [if_pos hs];refine ⟨?_,?_,?_⟩
 ·unfold linesOf;rw [Wa,Xp.2,X0.2,Wv,Xu]
  ·exact YR _
  ·intro x hx;obtain ⟨r,-,rfl⟩:=Vl.1 hx;simp [Jh]
  ·intro x hx;obtain ⟨r,-,rfl⟩:=Vl.1 hx;rfl
 ·unfold raysOf;rw [Wa,X0.2,Xp.2,Xv,Xu]
  ·exact YR _
  ·intro x hx;obtain ⟨r,-,rfl⟩:=Vl.1 hx;simp [Jh]
  ·intro x hx;obtain ⟨r,-,rfl⟩:=Vl.1 hx
   simp
 ·rw [VY] at hs ⊢;obtain ⟨r,hr,h0⟩:=hs;refine ⟨(kindOf r,r),W3 _ (Vl.2 ⟨r,hr,rfl⟩),?_⟩;have h0:0<hd1 r:=of_decide_eq_true h0;simp [kindOf,h0]
def lZ {g:List (Nat × V)} (h3:g.any (fun x=>x.1 == 3)=true) (x:V):dm n (consP n g) x ↔ 0<=hd1 x/\Keep (n+1) (· ∈ gensL (n+1) (linesOf g) (raysOf g)) (· ∈ gensR (n+1) (linesOf g) (raysOf g)) x:=by
 rw [keepP_iff];unfold consP;rw [if_pos h3];constructor
 ·rintro ⟨q1,q2,q3⟩;refine ⟨q2,q1,fun a ha=>(q3 (a,true) (WH _ (Vl.2 ⟨a,ha,rfl⟩))).1 rfl,fun b hb=>?_⟩;by_cases f:b=unitC n 1
  ·rw [f,eI]; omega
  ·exact (q3 (b,false) (W3 _ (Vl.2 ⟨b,Vx.2 ⟨hb,by simp [f]⟩,rfl⟩))).2 rfl
 ·rintro ⟨q2,d⟩;refine ⟨d.len,q2,fun c hc=>?_⟩;rcases VE.1 hc with hc | hc
  ·obtain ⟨a,ha,rfl⟩:=Vl.1 hc;exact ⟨fun _=>d.eq a ha,fun e=>by cases e⟩
  ·obtain ⟨b,hb,rfl⟩:=Vl.1 hc;exact ⟨(fun e=>by cases e),fun _=>d.ge b (Vx.1 hb).1⟩
def kE {g:List (Nat × V)} (hg:∀ x∈g,x.2.length=n+1):∀ c∈consP n g,c.1.length=n+1:=by
 have e1:∀ a∈linesOf g,a.length=n+1:=fun a ha=>by obtain ⟨x,hx,rfl⟩:=Vl.1 ha; exact hg x (Vx.1 hx).1
 have e2:∀ a∈raysOf g,a.length=n+1:=fun a ha=>by obtain ⟨x,hx,rfl⟩:=Vl.1 ha; exact hg x (Vx.1 hx).1
 intro c hc;unfold consP at hc;split at hc
 ·rcases VE.1 hc with hc | hc
  ·obtain ⟨a,ha,rfl⟩:=Vl.1 hc;exact Lq e1 e2 a ha
  ·obtain ⟨b,hb,rfl⟩:=Vl.1 hc;exact Lo e1 e2 b (Vx.1 hb).1
 ·rw [Wl] at hc;subst hc;exact unitC_len n (-1)
def sj (h:∀ c∈l,c.1.length=n+1):∀ x∈gensP n l,x.2.length=n+1:=fun x hx=>(mM h hx).1.len
def qG (h:∀ c∈l,c.1.length=n+1) (hs:(gensR (n+1) (eqsOf l) (ineqsOf n l)).any (fun r=>decide (0<hd1 r))=true) (x:V):dm n (consP n (gensP n l)) x ↔ dm n l x:=by
 obtain ⟨p1,p2,b⟩:=mL hs;rw [lZ b,p1,p2];have t1:=gens_told (eqs_len h) (ineqs_len h);have d:=gens_told t1.dd.lenL t1.dd.lenR;have hd:=Cq (eqs_len h) (ineqs_len h) t1.dd d.dd x;constructor
 ·rintro ⟨-,a⟩; exact hd.2 a
 ·intro a; exact ⟨(keepP_iff.1 a).2.1,hd.1 a⟩
def pk:gensP n [(unitC n (-1),false)]=[]:=by
 have hl:∀ c∈[(unitC n (-1),false)],c.1.length=n+1:=fun c hc=>by rw [Wl] at hc; subst hc; exact unitC_len n (-1)
 unfold gensP;rw [if_neg];intro hs;rw [VY] at hs;obtain ⟨r,hr,h0⟩:=hs;have h0:0<hd1 r:=of_decide_eq_true h0
 have:=((keepP_iff.1 (NC hl hr)).2.2 _ (Wl.2 rfl)).2 rfl
 rw [eI] at this;omega
def KU (h:∀ c∈l,c.1.length=n+1):gensP n (consP n (gensP n l))=gensP n l:=by
 by_cases hs:(gensR (n+1) (eqsOf l) (ineqsOf n l)).any (fun r=>decide (0<hd1 r))=true
 ·exact AA (kE (sj h)) h (qG h hs)
 ·have e:gensP n l=[]:=by unfold gensP; rw [if_neg hs]
  rw [e];exact pk
def poly_keeps (h:∀ c∈l,c.1.length=n+1) {g:Nat × V} (hg:g∈gensP n l) {c:V × Bool} (hc:c∈l\/c∈consP n (gensP n l)):keepsP c g=true:=by
 obtain ⟨k1,k2⟩:=mM h hg;refine lz (l:=l) ?_ k1 k2;rcases hc with hc | hc
 ·exact wm hc
 ·have hs:(gensR (n+1) (eqsOf l) (ineqsOf n l)).any (fun r=>decide (0<hd1 r))=true:=by
   cases hs:(gensR (n+1) (eqsOf l) (ineqsOf n l)).any (fun r=>decide (0<hd1 r)) with
   | true=>rfl
   | false =>
    unfold gensP at hg;rw [if_neg (by rw [hs]; decide)] at hg;cases hg
  exact fun x hx=>wm hc x ((qG h hs x).2 hx)
def Hl (hne:gensP n l≠[]):(gensP n l).any (fun x=>x.1 == 3)=true:=by
 cases hs:(gensR (n+1) (eqsOf l) (ineqsOf n l)).any (fun r=>decide (0<hd1 r)) with
 | true=>exact (mL hs).2.2
 | false=>exact absurd (by unfold gensP; rw [if_neg (by rw [hs]; decide)]) hne
def ValidG (n:Nat) (g:List (Nat × V)):Prop:=∀ x∈g,x.2.length=n+1/\(x.1=3->0<hd1 x.2)/\(x.1≠3->hd1 x.2=0)
def mem_lines {g:List (Nat × V)} {r:V}:r∈linesOf g ↔ (1,r)∈g:=by
 constructor
 ·intro h;obtain ⟨⟨k,a⟩,hc,rfl⟩:=Vl.1 h;obtain ⟨h1,h2⟩:=Vx.1 hc;have h2:k=1:=by simpa using h2
  subst h2;exact h1
 ·intro h;exact Vl.2 ⟨(1,r),Vx.2 ⟨h,rfl⟩,rfl⟩
def mem_rays {g:List (Nat × V)} {r:V}:r∈raysOf g ↔ ∃ k,k≠1/\(k,r)∈g:=by
 constructor
 ·intro h;obtain ⟨⟨k,a⟩,hc,rfl⟩:=Vl.1 h;obtain ⟨h1,h2⟩:=Vx.1 hc;exact ⟨k,by simpa using h2,h1⟩
 ·rintro ⟨k,b,h⟩;exact Vl.2 ⟨(k,r),Vx.2 ⟨h,by simpa using b⟩,rfl⟩
def rT {g:List (Nat × V)} (hg:ValidG n g) (h3:g.any (fun x=>x.1 == 3)=true) {x:Nat × V} (hx:x∈g):dm n (consP n g) x.2/\(x.1=1->dm n (consP n g) (scl (-1) x.2)):=by
 have e1:∀ a∈linesOf g,a.length=n+1:=fun a ha=>(hg _ (mem_lines.1 ha)).1;have e2:∀ a∈raysOf g,a.length=n+1:=fun a ha=>by obtain ⟨k,-,h⟩:=mem_rays.1 ha; exact (hg _ h).1
 have t:=gens_told e1 e2;obtain ⟨h1,h2,d⟩:=hg x hx;rw [lZ h3,lZ h3];obtain ⟨k,r⟩:=x;by_cases c:k=1
 ·subst c;have hm:=mem_lines.2 hx;have h5:hd1 r=0:=d (show ¬ (1:Nat)=3 by omega);have f:hd1 (scl (-1) r)=0:=by
   cases r with
   | nil=>rfl
   | cons a r=>simp [scl,hd1] at h5 ⊢; exact h5
  refine ⟨⟨by rw [h5]; exact XB _,⟨h1,fun a ha=>?_,fun b hb=>?_⟩⟩,fun _=>⟨by rw [f]; exact XB _,⟨scl_length h1,fun a ha=>?_,fun b hb=>?_⟩⟩⟩
  ·rw [dot_comm]; exact t.dd.lineE a ha r hm
  ·rw [dot_comm,(t.dd.keep b hb).eq r hm]; exact XB _
  ·rw [dot_scl,dot_comm,t.dd.lineE a ha r hm]; rfl
  ·rw [dot_scl,dot_comm,(t.dd.keep b hb).eq r hm]; exact XB _
 ·have hm:=mem_rays.2 ⟨k,c,hx⟩;refine ⟨⟨?_,⟨h1,fun a ha=>?_,fun b hb=>?_⟩⟩,fun e=>absurd e c⟩
  ·by_cases h:k=3
   ·have:0<hd1 r:=h2 h
    show 0<=hd1 r;omega
   ·have:hd1 r=0:=d h
    show 0<=hd1 r;omega
  ·rw [dot_comm]; exact t.dd.lineI a ha r hm
  ·rw [dot_comm]; exact (t.dd.keep b hb).ge r hm
def FH (h:∀ c∈l,c.1.length=n+1):ValidG n (gensP n l):=fun x hx=>by
 refine ⟨sj h x hx,fun e=>?_,fun e=>?_⟩
 ·unfold gensP at hx;split at hx
  ·rcases VE.1 hx with hx | hx
   ·obtain ⟨r,-,rfl⟩:=Vl.1 hx;cases e
   ·obtain ⟨r,-,rfl⟩:=Vl.1 hx;have e:kindOf r=3:=e;unfold kindOf at e;split at e
    ·assumption
    ·omega
  ·cases hx
 ·obtain ⟨k1,k2⟩:=mM h hx;have p1:=(keepP_iff.1 k1).2.1;unfold gensP at hx;split at hx
  ·rcases VE.1 hx with hx | hx
   ·obtain ⟨r,-,rfl⟩:=Vl.1 hx;have p2:=(keepP_iff.1 (k2 rfl)).2.1;cases r with
    | nil=>rfl
    | cons a r=>simp [scl,hd1] at p1 p2 ⊢; omega
   ·obtain ⟨r,-,rfl⟩:=Vl.1 hx;have e:¬ kindOf r=3:=e;unfold kindOf at e;split at e
    ·omega
    ·have p1:0<=hd1 r:=p1;show hd1 r=0;omega
  ·cases hx
end
end Go.Proofs.YtkmepoeklibegaaGreat.Lin
namespace Go.Proofs.YtkmepoeklibegaaGreat.Ev
open Go Nn
section
variable {tab:Nat->Option au} {H:Heap} {s:AV}
def BQ (C:Code tab) (z:Wf H) {α:Type} {E:fO α} {ty fi:Nat} {first caps:List AV} {l:List α} (q:E.sz=2) (hs:SlV E ty H s l) (w:l.length<4611686018427387904) (p:α->Bool)
  (r:∀ a∈l,∀ H' cs,Kp H H'->E.R H' cs a->Ans tab (.fn fi (first++[.agg cs]++caps)) H' fun v H2=>v=.bool (p a)/\Kp H' H2) :
  Ans tab (.fn cm [s,.fn (.func fi) first caps]) H fun v H'=>v=.int .i64 (np p l)/\Kp H H':=by
 refine bC C.q40 zU fun T hl c d=>?_;refine zW (aV hl c d hs.lenV) ?_;refine am H [] (fun j _ _=>∀ k (h:k<l.length),k<j->p l[k]=false) (a:=0) (N:=l.length) rfl (by refine zW (aB hl c d) ?_; rfl) (zV (aB hl c d)) (Vz _) zO (by simp only [Vg,hl]; rfl) rfl (fun _ _ _ _ h=>h) zK (fun k _ h=>by omega) ?_ ?_
 ·intro j T1 m _ hj b t i g f;have w1:=g.wf;have A:=g.le;have t0:aa T1 0=s:=(i.at_ 0 zU).trans (zV (aA hl c));have t1:aa T1 1=.fn (.func fi) first caps:=(i.at_ 1 zU).trans (zV (aV hl c d d))
  obtain ⟨cs,hr,y,-,o⟩:=(hs.mono g.sub).at (Vk hj);have n:=SlV.idx hs .i64 j hj;rw [q] at o n;simp only [Vg,hl] at b;refine zW (eF b t0 t1 t n o) ?_;refine AnsH.eq (r _ (Vm hj) _ cs zK (E.mono ((zG m).t _) hr)) fun H2 u=>?_;obtain ⟨k2,_,_⟩:=zT H zK u;cases hp:p l[j] with
  | true =>
   refine zW b ?_;exact ⟨by rw [se hj f hp],zK⟩
  | false =>
   refine zW b ?_;refine ⟨zK,fun k h x=>?_⟩;by_cases e:k=j
   ·subst e; exact hp
   ·exact f k h zO
 ·intro T1 m b i g f;simp only [Vg,hl] at b;refine zW b ?_;exact ⟨by rw [pH fun k h=>f k h h],zK⟩
def jX (C:Code tab) (i:Wf H) {α:Type} {E:fO α} {ty fi:Nat} {first caps:List AV} {l:List α} (d:E.sz=2) (hs:SlV E ty H s l) (e:l.length<4611686018427387904) (p:α->Bool)
  (f:∀ a∈l,∀ H' cs,Kp H H'->E.R H' cs a->Ans tab (.fn fi (first++[.agg cs]++caps)) H' fun v H2=>v=.bool (p a)/\Kp H' H2) :
  Ans tab (.fn bO [s,.fn (.func fi) first caps]) H fun v H'=>v=.bool (l.any p)/\Kp H H':=by
 refine bC C.q19 zU fun T hl b c=>?_;refine zW (aB hl b c) ?_;refine AnsH.eq (BQ C zF d (hs.mono (zG H)) e p fun a ha H' cs g hr=>f a ha H' cs (Kp.trans (H:=H) zK g) hr) fun H2 h=>?_;obtain ⟨k2,_,_⟩:=zT H zK h;refine zW (aB hl b c) ?_;exact ⟨by rw [sf],zK⟩
def BP (C:Code tab) (z:Wf H) {α:Type} {E:fO α} {ty fi:Nat} {first caps:List AV} {l:List α} (q:E.sz=2) (hs:SlV E ty H s l) (w:l.length<4611686018427387904) (p:α->Bool)
  (r:∀ a∈l,∀ H' cs,Kp H H'->E.R H' cs a->Ans tab (.fn fi (first++[.agg cs]++caps)) H' fun v H2=>v=.bool (p a)/\Kp H' H2) :
  Ans tab (.fn ck [s,.fn (.func fi) first caps]) H fun v H'=>v=.int .i64 (np p l)/\Kp H H':=by
 refine bC C.q62 zU fun T hl c d=>?_;refine zW (aV hl c d hs.lenV) ?_;refine am H [] (fun j _ _=>∀ k (h:k<l.length),k<j->p l[k]=false) (a:=0) (N:=l.length) rfl (by refine zW (aB hl c d) ?_; rfl) (zV (aB hl c d)) (Vz _) zO (by simp only [Vg,hl]; rfl) rfl (fun _ _ _ _ h=>h) zK (fun k _ h=>by omega) ?_ ?_
 ·intro j T1 m _ hj b t i g f;have w1:=g.wf;have A:=g.le;have t0:aa T1 0=s:=(i.at_ 0 zU).trans (zV (aA hl c));have t1:aa T1 1=.fn (.func fi) first caps:=(i.at_ 1 zU).trans (zV (aV hl c d d))
  obtain ⟨cs,hr,y,-,o⟩:=(hs.mono g.sub).at (Vk hj);have n:=SlV.idx hs .i64 j hj;rw [q] at o n;simp only [Vg,hl] at b;refine zW (eF b t0 t1 t n o) ?_;refine AnsH.eq (r _ (Vm hj) _ cs zK (E.mono ((zG m).t _) hr)) fun H2 u=>?_;obtain ⟨k2,_,_⟩:=zT H zK u;cases hp:p l[j] with
  | true =>
   refine zW b ?_;exact ⟨by rw [se hj f hp],zK⟩
  | false =>
   refine zW b ?_;refine ⟨zK,fun k h x=>?_⟩;by_cases e:k=j
   ·subst e; exact hp
   ·exact f k h zO
 ·intro T1 m b i g f;simp only [Vg,hl] at b;refine zW b ?_;exact ⟨by rw [pH fun k h=>f k h h],zK⟩
def jW (C:Code tab) (i:Wf H) {α:Type} {E:fO α} {ty fi:Nat} {first caps:List AV} {l:List α} (d:E.sz=2) (hs:SlV E ty H s l) (e:l.length<4611686018427387904) (p:α->Bool)
  (f:∀ a∈l,∀ H' cs,Kp H H'->E.R H' cs a->Ans tab (.fn fi (first++[.agg cs]++caps)) H' fun v H2=>v=.bool (p a)/\Kp H' H2) :
  Ans tab (.fn bN [s,.fn (.func fi) first caps]) H fun v H'=>v=.bool (l.any p)/\Kp H H':=by
 refine bC C.q38 zU fun T hl b c=>?_;refine zW (aB hl b c) ?_;refine AnsH.eq (BP C zF d (hs.mono (zG H)) e p fun a ha H' cs g hr=>f a ha H' cs (Kp.trans (H:=H) zK g) hr) fun H2 h=>?_;obtain ⟨k2,_,_⟩:=zT H zK h;refine zW (aB hl b c) ?_;exact ⟨by rw [sf],zK⟩
def mO (C:Code tab) (h:Wf H) {l:List Int} (hs:RowV H s l) (g:∀ z∈l,eR z):Ans tab (.fn pC [s]) H fun v H'=>v=.int .i64 (gw (Lin.hd1 l))/\Kp H H':=by
 refine dg C.q57 zU fun T hl b=>?_;cases l with
 | nil =>
  have ls:lenV s=some (.int .i64 0):=hs.lenV;refine zW (aB hl b ls) ?_;exact ⟨rfl,zK⟩
 | cons a l =>
  have ls:lenV s=some (.int .i64 ((l.length+1:Nat):Int)):=hs.lenV;have hne:¬ ((l.length+1:Nat):Int)=0:=zO;have d:0<(a :: l).length:=by simp
  obtain ⟨w,hn,c,-,-⟩:=kP hs d;have e:cL 2 s (.int .i64 0)=some (aq s 0):=SlV.idx hs .i64 0 d;have c:aW H (some 2) (aq s 0)=some (.agg [.bool (decide (a<0)),w]):=c;have hn:cd H w a.natAbs:=hn;refine zW (eF hl b ls hne e c) ?_;refine AnsH.eq (l9 C (x:=a) zF ⟨w,rfl,hn.mono (zG H)⟩ (g a (by simp))) fun H2 f=>?_;obtain ⟨k2,_,_⟩:=zT H zK f;refine zW (aA hl b) ?_;exact ⟨rfl,zK⟩
def xV (C:Code tab) (d:Wf H) {v:AV} {b:Bool} (ov:One v):Ans tab (.fn eW [.agg [v,.bool b]]) H fun x H'=>x=v/\Kp H H':=by
 have c:gR (.agg [v,.bool b])=some [v,.bool b]:=by simp [gR,AV.cells,ov.2]; rfl
 refine dg C.q30 zU fun T hl a=>?_;refine zW (aB hl a c) ?_;exact zK
def xU (C:Code tab) (c:Wf H) {v:AV} {k:Int} (ov:One v):Ans tab (.fn eU [.agg [.int .u8 k,v]]) H fun x H'=>x=v/\Kp H H':=by
 have b:gR (.agg [.int .u8 k,v])=some [.int .u8 k,v]:=by simp [gR,AV.cells,ov.2]; rfl
 refine dg C.q44 zU fun T hl a=>?_;refine zW (aB hl a b) ?_;exact zK
def LC (C:Code tab) (d:Wf H) {v:AV} {b:Bool} (ov:One v):Ans tab (.fn kw [.agg [v,.bool b]]) H fun x H'=>x=.bool false/\Kp H H':=by
 have c:gR (.agg [v,.bool b])=some [v,.bool b]:=by simp [gR,AV.cells,ov.2]; rfl
 refine dg C.q31 zU fun T hl a=>?_;refine zW (aB hl a c) ?_;exact zK
def GX (x:Int):0<=gw x ↔ 0<=x:=by unfold gw; split <;> (try split) <;> omega
def xg (C:Code tab) (G:Wf H) {n:Nat} {k:Int} (hn:n<=60) (y : -9223372036854775808<=k) (f:k<9223372036854775808) :
  Ans tab (.fn qW [.int .i64 (n:Int),.int .i64 k]) H fun v H'=>RowV H' v (Lin.unitC n k)/\Kp H H':=by
 obtain ⟨cells,l⟩:∃ cells,cells=(List.replicate (n+1) [AV.bool false,AV.nilSl]).flatten:=⟨_,rfl⟩
 have z:∀ H':Heap,I8 H' (H.next+3) ad 2 32 [.bool false,.nilSl] (.int .i64 ((n+1:Nat):Int)) (.int .i64 ((n+1:Nat):Int))=some (.own (H.next+3) 0 (n+1) (n+1) 2 true,H'.put (H.next+3) (.cells cells ad true)):=fun H'=>by rw [l]; exact jd _ _ _ _ _ _ _ _ _ zO zO rfl
 have t:IntKind.i64.wrap ((n:Int)+1)=((n+1:Nat):Int):=by rw [wrap_i64] <;> omega
 refine bC C.q53 zU fun T hl m o=>?_;refine zW (cp hl m o t z) ?_;refine AnsH.use (oz C (n:=k) zF y f) ?_;rintro v H2 ⟨⟨w,rfl,r⟩,f⟩;obtain ⟨k2,_,D⟩:=zT H zK f;have B:=r.one;have h:=f.get (b:=H.next+3) (e:=.cells cells ad true) (da);have I:=D _ _ h;have F:cells.length=(n+1)*2:=by rw [l]; simp
 have s:En (some (.cells cells ad true)) 2 0 (.agg [.bool (decide (k<0)),w])=some (.cells (cells.take 0++[.bool (decide (k<0)),w]++cells.drop (0+2)) ad true):=km (Jr (aH _) B) zO;have x:cL 2 (.own (H.next+3) 0 (n+1) (n+1) 2 true) (.int .i64 0)=some (.ptr (H.next+3) 0):=nl (j:=0) zO;obtain ⟨d,p⟩:∃ c,c=cells.take 0++[.bool (decide (k<0)),w]++cells.drop (0+2):=⟨_,rfl⟩
 rw [<- p] at s;have A:intE.R H2 [.bool false,.nilSl] 0:=⟨.nilSl,by simp,gZ H2⟩
 have hcl:Cells intE H2 cells (List.replicate (n+1) 0):=by rw [l]; exact rV A _
 have q:Cells intE H2 d ((List.replicate (n+1) 0).set 0 k):=by rw [p]; exact hcl.set (i:=0) (by simp) ⟨w,rfl,r⟩
 have m3:NoTy [ae] H2 (H.next+3):=NoTy.ty h zU;refine zW (eF hl m o x h s) ?_;refine ⟨?_,zK⟩;have e:(List.replicate (n+1) (0:Int)).set 0 k=Lin.unitC n k:=by rw [Wk]; rfl
 rw [e] at q;obtain ⟨a,g⟩:∃ a,a=(H2.up 2).put (H.next+3) (.cells d ad true):=⟨_,rfl⟩
 have u:Cells intE a d (Lin.unitC n k):=by rw [g]; exact Cells.mono (E:=intE) zS q
 have:Own intE ad H a (H.next+3) true (.own (H.next+3) 0 (n+1) (n+1) 2 true) (Lin.unitC n k):=⟨d,by rw [Lin.unitC_len]; rfl,by rw [g]; exact ap _ _ _,u,zO⟩
 rw [<- g];exact this.sl
abbrev vY:=List (Bool × List Nat) × Bool
abbrev Gu:=Nat × List (Bool × List Nat)
def AW (C:Code tab) (l:Wf H) {cs:List AV} {c:vY} {g h:Nat} {r1 r2:Bool} (hc:conQE.R H cs c) (m:xx c.1)
  (h1:H.get g=some (.cells [.fn (.func eW) [] []] fy r1)) (h2:H.get h=some (.cells [.fn (.func kw) [] []] sJ r2)) :
  Ans tab (.fn eE [.agg cs,.ptr g 0,.ptr h 0]) H fun v H'=>v=.bool (!Bv c.1)/\Kp H H':=by
 obtain ⟨v,rfl,k⟩:=hc;have ov:=k.one;have u:=l _ _ h1;have w:=l _ _ h2;have n:gR (.agg [v,.bool c.2])=some [v,.bool c.2]:=by simp [gR,AV.cells,ov.2]; rfl
 refine mN C.q51 zU fun T hl d f a=>?_;refine zW (gS hl d f a n h1 h2) ?_;refine AnsH.eq (xV C zF ov) fun H2 i=>?_;obtain ⟨k2,_,x⟩:=zT H zK i;have d0:=i.get (b:=H.next) (e:=.cells [v,.bool c.2] t_api_Con true) (da);refine zW (aV hl d f a) ?_;refine AnsH.eq (rP C zF (k.mono (zG H)) m) fun q j=>?_;obtain ⟨p,_,y⟩:=zT H zK j;have d3:=j.get d0;have e2:=p.get h2;cases s:Bv c.1 with
 | false =>
  refine zW (aV hl d f a) ?_;exact zK
 | true =>
  refine zW (gS hl d f a d3 e2 a) ?_;refine AnsH.eq (LC C zF ov) fun r o=>?_;obtain ⟨t,_,_⟩:=zT H zK o;refine zW (aV hl d f a) ?_;exact zK
def AU (C:Code tab) (h:Wf H) {cs:List AV} {c:vY} {n:Int} {e f:Nat} {r1 r2:Bool} (hc:conQE.R H cs c) (hn:0<=n/\n<=1000)
  (h1:H.get e=some (.cells [.fn (.func eW) [] []] fy r1)) (h2:H.get f=some (.cells [.int .i64 n] gq r2)) :
  Ans tab (.fn eC [.agg cs,.ptr e 0,.ptr f 0]) H fun v H'=>v=.bool (decide ((c.1.length:Int)≠n+1))/\Kp H H':=by
 obtain ⟨v,rfl,g⟩:=hc;have ov:=g.one;have l:=h _ _ h1;have m:=h _ _ h2;have j:gR (.agg [v,.bool c.2])=some [v,.bool c.2]:=by simp [gR,AV.cells,ov.2]; rfl
 have i:IntKind.i64.wrap (n+1)=n+1:=by rw [wrap_i64] <;> omega
 refine mN C.q52 zU fun T hl a b d=>?_;refine zW (gS hl a b d j h1 h2) ?_;refine aM ?_;refine zD (eF hl a b d h1 h2) ?_;refine AnsH.eq (xV C zF ov) fun H2 k=>?_;obtain ⟨k2,_,o⟩:=zT H zK k;have e2:=k2.get h2;refine zD (lh hl a b d h1 h2 e2 g.lenV i) ?_;exact ⟨by simp,zK⟩
def dl (n:Int) (l:List vY):Int :=
 if n<0\/8<n then 2 else if 60<l.length then 4 else if l.any (fun c=>!Bv c.1) then 8 else if l.any (fun c=>decide ((c.1.length:Int)≠n+1)) then 70 else 0
def oS (C:Code tab) (r:Wf H) {n:Int} {l:List vY} (hs:SlV conQE t_api_Con H s l) (o:∀ c∈l,xx c.1) (m:l.length<4611686018427387904) :
  Ans tab (.fn fG [.int .i64 n,s,.fn (.func eW) [] [],.fn (.func kw) [] []]) H fun v H'=>v=.int .i64 (dl n l)/\Kp H H':=by
 refine Qw C.q29 zU fun T hl d f g i=>?_;by_cases q1:n<0
 ·refine zW (eF hl d f g i q1) ?_;exact ⟨by rw [dl,if_pos (.inl q1)],zK⟩
 by_cases q2:8<n
 ·refine zW (gS hl d f g i q1 q2) ?_;exact ⟨by rw [dl,if_pos (.inr q2)],zK⟩
 have e1:¬ (n<0\/8<n):=fun h=>h.elim q1 q2;by_cases q3:(60:Int)<(l.length:Int)
 ·refine zW (lh hl d f g i q1 q2 q3 hs.lenV) ?_;exact ⟨by rw [dl,if_neg e1,if_pos zO],zK⟩
 have e2:¬ 60<l.length:=zO;refine zW (lh hl d f g i q1 q2 q3 hs.lenV) ?_;refine AnsH.eq (jX C zF (first:=[]) rfl (hs.mono (zG H)) m (fun c=>!Bv c.1) fun a ha H' cs j hr=>AW C j.wf hr (o a ha) (j.get (by refine uo ?_; rfl)) (j.get (by refine uo ?_; rfl))) fun H2 k=>?_;obtain ⟨k2,_,u⟩:=zT H zK k;cases q4:l.any (fun c=>!Bv c.1) with
 | true =>
  refine zW (cp hl d f g i) ?_;exact ⟨by rw [dl,if_neg e1,if_neg e2,if_pos q4],zK⟩
 | false =>
 have d0:=k.get (b:=H.next) (e:=.cells [.int .i64 n] gq true) (da);have d1:=k.get (b:=H.next+1) (e:=.cells [.fn (.func eW) [] []] fy true) (da);refine zW (aB hl d f) ?_;refine AnsH.eq (jX C zF (first:=[]) rfl (hs.mono (zG H)) m (fun c=>decide ((c.1.length:Int)≠n+1)) fun a ha H' cs j hr=>AU C j.wf hr ⟨zO,zO⟩ (j.get (b:=H.next+1) (by first | exact d1 | (refine uo ?_; exact d1))) (j.get (b:=H.next) (by first | exact d0 | (refine uo ?_; exact d0)))) fun q p=>?_;obtain ⟨t,_,_⟩:=zT H zK p;cases q5:l.any (fun c=>decide ((c.1.length:Int)≠n+1)) with
 | true =>
  refine zW (cp hl d f g i) ?_;exact ⟨by rw [dl,if_neg e1,if_neg e2,if_neg (by rw [q4]; decide),if_pos q5],zK⟩
 | false =>
  refine zW (cp hl d f g i) ?_;exact ⟨by rw [dl,if_neg e1,if_neg e2,if_neg (by rw [q4]; decide),if_neg (by rw [q5]; decide)],zK⟩
def Hu (g:Nat × List Int):Bool :=
 if g.1=1\/g.1=2 then decide (Lin.hd1 g.2≠0) else if g.1=3 then decide (Lin.hd1 g.2<=0) else true
def yL (x:Int):0<gw x ↔ 0<x:=by unfold gw; split <;> (try split) <;> omega
def RY (x:Int):gw x<=0 ↔ x<=0:=by unfold gw; split <;> (try split) <;> omega
def Oo (C:Code tab) (g:Wf H) {v:AV} {k:Nat} {l:List Int} (d:RowV H v l) (e:∀ z∈l,eR z):Ans tab (.fn mC [.agg [.int .u8 (k:Int),v]]) H fun x H'=>x=.bool (Hu (k,l))/\Kp H H':=by
 have ov:=d.one;have c:gR (.agg [.int .u8 (k:Int),v])=some [.int .u8 (k:Int),v]:=by simp [gR,AV.cells,ov.2]; rfl
 refine dg C.q45 zU fun T hl a=>?_;by_cases q1:(k:Int)=1
 ·refine zW (aV hl a c q1) ?_;refine AnsH.eq (mO C zF (d.mono (zG H)) e) fun H2 b=>?_;obtain ⟨k2,_,_⟩:=zT H zK b;refine zW (aA hl a) ?_;refine ⟨?_,zK⟩;congr 1;rw [Hu,if_pos (.inl zO),WK];simp [fP]
 by_cases q2:(k:Int)=2
 ·refine zW (cp hl a c q1 q2) ?_;refine AnsH.eq (mO C zF (d.mono (zG H)) e) fun H2 b=>?_;obtain ⟨k2,_,_⟩:=zT H zK b;refine zW (aA hl a) ?_;refine ⟨?_,zK⟩;congr 1;rw [Hu,if_pos (.inr zO),WK];simp [fP]
 have q12:¬ (k=1\/k=2):=zO;by_cases q3:(k:Int)=3
 ·refine zW (eF hl a c q1 q2 q3) ?_;refine AnsH.eq (mO C zF (d.mono (zG H)) e) fun H2 b=>?_;obtain ⟨k2,_,_⟩:=zT H zK b;refine zW (aA hl a) ?_;refine ⟨?_,zK⟩;congr 1;have f:k=3:=zO;rw [Hu,if_neg q12,if_pos f,WK];simp [RY]
 ·refine zW (eF hl a c q1 q2 q3) ?_;refine ⟨?_,zK⟩;have f:¬ k=3:=zO;rw [Hu,if_neg q12,if_neg f]
def Ht (g:Gu):Bool:=!Bv g.2 || Hu (g.1,g.2.map fK)
def AT (C:Code tab) (p:Wf H) {cs:List AV} {c:Gu} {k m:Nat} {r1 r2:Bool} (hc:genQE.R H cs c) (q:xx c.2) (i:∀ z∈c.2,Lim z.2/\z.2.length<=1048576)
  (h1:H.get k=some (.cells [.fn (.func eU) [] []] fw r1)) (h2:H.get m=some (.cells [.fn (.func mC) [] []] sI r2)) :
  Ans tab (.fn eB [.agg cs,.ptr k 0,.ptr m 0]) H fun v H'=>v=.bool (Ht c)/\Kp H H':=by
 obtain ⟨v,rfl,j⟩:=hc;have ov:=j.one;have A:=p _ _ h1;have B:=p _ _ h2;have r:gR (.agg [.int .u8 (c.1:Int),v])=some [.int .u8 (c.1:Int),v]:=by simp [gR,AV.cells,ov.2]; rfl
 refine mN C.q65 zU fun T hl d f a=>?_;refine zW (gS hl d f a r h1 h2) ?_;refine AnsH.eq (xU C zF ov) fun H2 n=>?_;obtain ⟨k2,_,D⟩:=zT H zK n;have d0:=n.get (b:=H.next) (e:=.cells [.int .u8 (c.1:Int),v] ah true) (da);refine zW (aV hl d f a) ?_;refine AnsH.eq (rP C zF (j.mono (zG H)) q) fun u o=>?_;obtain ⟨t,_,E⟩:=zT H zK o;have d3:=o.get d0;have e2:=t.get h2;cases g:Bv c.2 with
 | false =>
  refine zW (aV hl d f a) ?_;exact ⟨by simp [Ht,g],zK⟩
 | true =>
  have hb:∀ z∈c.2,rJ z=false:=by
   simp only [Bv,VU,Wy,WU,XA] at g;exact g.2
  refine zW (gS hl d f a d3 e2 a) ?_;refine AnsH.eq (Oo C (l:=c.2.map fK) zF ((SlV.int j fun z h=>⟨hb z h,(i z h).1⟩).mono (zG H)) fun z h=>?_) fun w s=>?_
  ·obtain ⟨x,hx,rfl⟩:=Vl.1 h;exact (MQ (i x hx).1 (i x hx).2).sm zO
  obtain ⟨y,_,_⟩:=zT H zK s;refine zW (aV hl d f a) ?_;exact ⟨by simp [Ht,g],zK⟩
def AS (C:Code tab) (h:Wf H) {cs:List AV} {c:Gu} {n:Int} {e f:Nat} {r1 r2:Bool} (hc:genQE.R H cs c) (hn:0<=n/\n<=1000)
  (h1:H.get e=some (.cells [.fn (.func eU) [] []] fw r1)) (h2:H.get f=some (.cells [.int .i64 n] gq r2)) :
  Ans tab (.fn eA [.agg cs,.ptr e 0,.ptr f 0]) H fun v H'=>v=.bool (decide ((c.2.length:Int)≠n+1))/\Kp H H':=by
 obtain ⟨v,rfl,g⟩:=hc;have ov:=g.one;have l:=h _ _ h1;have m:=h _ _ h2;have j:gR (.agg [.int .u8 (c.1:Int),v])=some [.int .u8 (c.1:Int),v]:=by simp [gR,AV.cells,ov.2]; rfl
 have i:IntKind.i64.wrap (n+1)=n+1:=by rw [wrap_i64] <;> omega
 refine mN C.q66 zU fun T hl a b d=>?_;refine zW (gS hl a b d j h1 h2) ?_;refine aM ?_;refine zD (eF hl a b d h1 h2) ?_;refine AnsH.eq (xU C zF ov) fun H2 k=>?_;obtain ⟨k2,_,o⟩:=zT H zK k;have e2:=k2.get h2;refine zD (lh hl a b d h1 h2 e2 g.lenV i) ?_;exact ⟨by simp,zK⟩
def ji (n:Int) (l:List Gu):Int :=
 if n<0\/8<n then 2 else if 60<l.length then 4 else if l.any Ht then 8 else if l.any (fun c=>decide ((c.2.length:Int)≠n+1)) then 70 else 0
def xh (C:Code tab) (t:Wf H) {n:Int} {l:List Gu} (hs:SlV genQE ah H s l) (o:∀ c∈l,xx c.2) (p:∀ c∈l,∀ z∈c.2,Lim z.2/\z.2.length<=1048576) (m:l.length<4611686018427387904) :
  Ans tab (.fn fF [.int .i64 n,s,.fn (.func eU) [] [],.fn (.func mC) [] []]) H fun v H'=>v=.int .i64 (ji n l)/\Kp H H':=by
 refine Qw C.q43 zU fun T hl d f g i=>?_;by_cases q1:n<0
 ·refine zW (eF hl d f g i q1) ?_;exact ⟨by rw [ji,if_pos (.inl q1)],zK⟩
 by_cases q2:8<n
 ·refine zW (gS hl d f g i q1 q2) ?_;exact ⟨by rw [ji,if_pos (.inr q2)],zK⟩
 have e1:¬ (n<0\/8<n):=fun h=>h.elim q1 q2;by_cases q3:(60:Int)<(l.length:Int)
 ·refine zW (lh hl d f g i q1 q2 q3 hs.lenV) ?_;exact ⟨by rw [ji,if_neg e1,if_pos zO],zK⟩
 have e2:¬ 60<l.length:=zO;refine zW (lh hl d f g i q1 q2 q3 hs.lenV) ?_;refine AnsH.eq (jW C zF (first:=[]) rfl (hs.mono (zG H)) m Ht fun a ha H' cs j hr=>AT C j.wf hr (o a ha) (p a ha) (j.get (by refine uo ?_; rfl)) (j.get (by refine uo ?_; rfl))) fun H2 k=>?_;obtain ⟨k2,_,w⟩:=zT H zK k;cases q4:l.any Ht with
 | true =>
  refine zW (cp hl d f g i) ?_;exact ⟨by rw [ji,if_neg e1,if_neg e2,if_pos q4],zK⟩
 | false =>
 have d0:=k.get (b:=H.next) (e:=.cells [.int .i64 n] gq true) (da);have d1:=k.get (b:=H.next+1) (e:=.cells [.fn (.func eU) [] []] fw true) (da);refine zW (aB hl d f) ?_;refine AnsH.eq (jW C zF (first:=[]) rfl (hs.mono (zG H)) m (fun c=>decide ((c.2.length:Int)≠n+1)) fun a ha H' cs j hr=>AS C j.wf hr ⟨zO,zO⟩ (j.get (b:=H.next+1) (by first | exact d1 | (refine uo ?_; exact d1))) (j.get (b:=H.next) (by first | exact d0 | (refine uo ?_; exact d0)))) fun r q=>?_;obtain ⟨u,_,_⟩:=zT H zK q;cases q5:l.any (fun c=>decide ((c.2.length:Int)≠n+1)) with
 | true =>
  refine zW (cp hl d f g i) ?_;exact ⟨by rw [ji,if_neg e1,if_neg e2,if_neg (by rw [q4]; decide),if_pos q5],zK⟩
 | false =>
  refine zW (cp hl d f g i) ?_;exact ⟨by rw [ji,if_neg e1,if_neg e2,if_neg (by rw [q4]; decide),if_neg (by rw [q5]; decide)],zK⟩
def vZ (C:Code tab) (h:Wf H) {fi:Nat} {first caps:List AV} {l:List (List Int)} (hs:dS H s l) (c:l.length<4611686018427387904) (p:List Int->Bool)
  (d:∀ r∈l,∀ H' w,Kp H H'->RowV H' w r->Ans tab (.fn fi (first++[w]++caps)) H' fun v H2=>v=.bool (p r)/\Kp H' H2) :
  Ans tab (.fn bM [s,.fn (.func fi) first caps]) H fun v H'=>v=.bool (l.any p)/\Kp H H':=by
 refine bC C.q55 zU fun T hl a b=>?_;refine zW (aB hl a b) ?_;refine AnsH.eq (rN C zF (hs.mono (zG H)) c p fun r hr H' w e g=>d r hr H' w (Kp.trans (H:=H) zK e) g) fun H2 f=>?_;obtain ⟨k2,_,_⟩:=zT H zK f;refine zW (aB hl a b) ?_;exact ⟨by rw [sf],zK⟩
end
def Bq {α:Type} (E:fO α) (ty:Nat) (H0 H:Heap) (v:AV) (l:List α):Prop:=(v=.nilSl/\l=[])\/∃ b ex,Own E ty H0 H b ex v l
section
variable {α β:Type} {E:fO α} {E':fO β} {ty:Nat} {H0 H H':Heap} {v w:AV} {l:List α} {m:List β}
def Bq.nil:Bq E ty H0 H .nilSl []:=.inl ⟨rfl,rfl⟩
def Bq.of (h:Bl E ty H0 H v l):Bq E ty H0 H v l:=by
 rcases h with h | ⟨b,h⟩
 ·exact .inl h
 ·exact .inr ⟨b,false,h⟩
def Bq.sl (h:Bq E ty H0 H v l):SlV E ty H v l:=by
 rcases h with ⟨rfl,rfl⟩ | ⟨b,ex,h⟩
 ·exact SlV.nil E ty H
 ·exact h.sl
def Bq.mono (hs:Sub H H') (h:Bq E ty H0 H v l):Bq E ty H0 H' v l:=by
 rcases h with h | ⟨b,ex,h⟩
 ·exact .inl h
 ·exact .inr ⟨b,ex,h.mono hs⟩
def Bq.lt (a:Wf H) (h:Bq E ty H0 H v l) {b:Nat} (hb:js v=some b):b<H.next:=by
 rcases h with ⟨rfl,-⟩ | ⟨b',ex,cells,rfl,hg,-⟩
 ·cases hb
 ·cases hb;exact a _ _ hg
def Frm.subTq {tys:List Nat} (a:Frm v H H') (h:Bq E ty H0 H v l) (hn:ty ∉ tys):SubT tys H H':=fun c cs t r d hc=>a c _ hc fun e=>by
 rcases h with ⟨rfl,-⟩ | ⟨b,ex,cells,rfl,hb,-⟩
 ·cases e
 ·cases e;rw [hb] at hc; cases hc;exact hn d
def Frm.bq (c:Frm v H H') (h:Bq E ty H0 H v l) (a:Bq E' ty H0 H w m) (hs:Sep v w) (d:ty ∉ E'.tys):Bq E' ty H0 H' w m:=by
 rcases a with a | ⟨b,ex,cells,rfl,hb,hc,h0⟩
 ·exact .inl a
 ·exact .inr ⟨b,ex,cells,rfl,c b _ hb fun e=>hs b e rfl,hc.mono (c.subTq h d),h0⟩
def Bq.push {ty2 bytes id id2:Nat} {cs:List AV} {a:α} (h:Bq E ty H0 H v l) (D:ty ∉ E.tys) (p:Kp H0 H) (hr:E.R H cs a) (k:H0.next<=id) (m:id<H.next) (i:H.get id=none) (f:H0.next<=id2) (o:id2<H.next) (j:H.get id2=none) (hne:id≠id2)
  (hb:(l.length+1)*bytes<=70368744177664) (hl:l.length+1<4611686018427387904) :
  ∃ n H',dr (H.put id2 (.cells cs ty2 true)) id E.sz bytes ty v (.own id2 0 1 1 E.sz true)=some (.own id 0 n n E.sz false,H')/\Bq E ty H0 H' (.own id 0 n n E.sz false) (l++[a])/\Kp H0 H'/\H'.next=H.next/\Frm v H H'/\(∀ c,c≠id->c≠id2->H.get c=none->H'.get c=none):=by
 have d:Bl E ty H0 H v l\/∃ b,Own E ty H0 H b true v l:=by
  rcases h with h | ⟨b,ex,h⟩
  ·exact .inl (.inl h)
  ·cases ex with
   | false=>exact .inl (.inr ⟨b,h⟩)
   | true=>exact .inr ⟨b,h⟩
 rcases d with d | ⟨b,C⟩
 ·obtain ⟨n,H',e1,e2,e3⟩:=Bl.push2 (ty2:=ty2) (bytes:=bytes) d D p hr k m i f o j hne hb hl;exact ⟨n,H',e1,.of e2,e3⟩
 ·have g:Sub H (H.put id2 (.cells cs ty2 true)):=aX j;have B:Kp H0 (H.put id2 (.cells cs ty2 true)):=p.put f o;have hy:SlV E ty2 (H.put id2 (.cells cs ty2 true)) (.own id2 0 1 1 E.sz true) [a] :=
   (show Own E ty2 H0 _ id2 true (.own id2 0 1 1 E.sz true) [a] from ⟨cs,rfl,ap _ _ _,Cells.one (E.mono (g.t _) hr),f⟩).sl
  have q:=C.mono g;have hs:=q.sl;obtain ⟨cells,r,hg,-,-⟩:=q;rw [r] at hs;obtain ⟨G,H',e1,e2,e3,t,u,w⟩:=SlV.app (bytes:=bytes) (id:=id) hs B hy k m (by rw [al hne]; exact i) hb hl;obtain ⟨s,F,A,z,x⟩:=w (by simp);rw [F] at e1;refine ⟨_,H',by rw [r]; exact e1,.inr ⟨id,false,s,rfl,A,z,x⟩,e3,t,fun b e y _=>u.get _ _ (g.get _ _ y),fun c h1 h2 h3=>CS e1 h1 (by rw [al h2]; exact h3)⟩
end
def nE {a:AV} (ha:One a) (x y:AV):iJ [x,y] [((0,1),a)]=some (.agg [a,y]):=by
 simp [iJ,dj,ha.1,ha.2]
section
open Lin
variable {n:Nat} {l:List (V × Bool)}
def Ol {j:Nat} (hj:j<l.length):eqsOf (l.take (j+1))=if l[j].2=true then eqsOf (l.take j)++[l[j].1] else eqsOf (l.take j):=by
 rw [Vr hj];unfold eqsOf;rw [Wa,V7];cases h:l[j].2 <;> simp [h]
def HQ {j:Nat} (hj:j<l.length):ineqsOf n (l.take (j+1))=if l[j].2=true then ineqsOf n (l.take j) else ineqsOf n (l.take j)++[l[j].1]:=by
 rw [Vr hj];unfold ineqsOf;rw [Wa,V7];cases h:l[j].2 <;> simp [h]
def Om (l:List (V × Bool)):(eqsOf l).length<=l.length:=by
 unfold eqsOf;rw [Vp];exact Wh _ _
def uV (l:List (V × Bool)):(ineqsOf n l).length<=l.length+1:=by
 unfold ineqsOf;rw [VX,Vp]
 have:=Wh (fun c:V × Bool=>!c.2) l
 omega
def C7 (n m:Nat):Bd (2^m) (unitC n 1):=fun i=>by
 have h1:1<=2^m:=Wb zU;unfold unitC at_;cases i with
 | zero=>simpa using h1
 | succ i =>
  rw [W5,Vh,Wj];split <;> simp
end
section
variable {tab:Nat->Option au} {H:Heap} {s:AV}
def AG (C:Code tab) (d:Wf H) {l:List Int} (hs:RowV H s l) (c:∀ z∈l,eR z):Ans tab (.fn jQ [s]) H fun v H'=>v=.bool (decide (0<Lin.hd1 l))/\Kp H H':=by
 refine dg C.q56 zU fun T hl a=>?_;refine zW (aA hl a) ?_;refine AnsH.eq (mO C zF (hs.mono (zG H)) c) fun H2 b=>?_;obtain ⟨k2,_,_⟩:=zT H zK b;have e:decide (gw (Lin.hd1 l) > 0)=decide (0<Lin.hd1 l):=by
  rw [WK];simp [yL]
 refine zW (aA hl a) ?_;exact ⟨by simp [yL],zK⟩
set_option maxHeartbeats 4000000 in
def xT (C:Code tab) (hw:Wf H) {n m:Nat} {l:List (List Int × Bool)} (hs:SlV conE t_api_Con H s l) (hn:n<=4) (bl:l.length<=1023) (a0:(l.length+1)^n<1099000000000) (aI:∀ c∈l,c.1.length=n+1/\Lin.Bd (2^m) c.1) (hm:m<=300000) :
  Ans tab (.fn od [.int .i64 (n:Int),s]) H fun v H'=>SlV genE ah H' v (Lin.gensP n l)/\Kp H H':=by
 refine BM C.q32 rfl rfl zU fun T hl g=>?_;have hl:T.length=79:=hl;have aJ:c_dual_points.results=[(4,none)]:=rfl;have g0:aa T 0=.int .i64 (n:Int):=g 0 (by simp);have g1:aa T 1=s:=g 1 (by simp);refine bi ?_;refine zW (aA hl @aC) ?_;refine bi ?_;refine zW (aA hl @aC) ?_;refine dy (fun T' H'=>∃ o,aa T' 6=o/\Kp H H'/\Bq rowsE af H H' o [Lin.unitC n 1]) rfl ?_ ?_
 ·refine zW (aA hl g0) ?_;refine AnsH.use (xg C (n:=n) (k:=1) zF zO zO zO) ?_;rintro v H2 ⟨hr,A⟩;obtain ⟨k2,_,w2⟩:=zT H zK A;have ov:=hr.one;have n2:H.next+6<=H2.next:=A.le
  have f2:H2.get (H.next+4)=none:=A.free (show H.next+4<H.next+6 by omega) (hw.fresh (b:=H.next+4) zO);refine zW (aA hl @aU) ?_;refine ⟨_,rfl,zK,.inr ⟨H.next+4,true,[v],rfl,ap _ _ _,?_,zO⟩⟩;exact Cells.one (E:=rowsE) ⟨v,rfl,hr.mono (aX f2)⟩
 rintro T1 H1 ai ⟨o,t6,k1,b1⟩;have w1:=k1.wf;have bo:=k1.le;have t0:aa T1 0=.int .i64 (n:Int):=(ai.at_ 0 zU).trans (zV (aA hl g0));have t1:aa T1 1=s:=(ai.at_ 1 zU).trans (zV (aA hl g1));have t4:aa T1 4=.nilSl:=(ai.at_ 4 zU).trans (zV hl);have t5:aa T1 5=.nilSl:=(ai.at_ 5 zU).trans (zV hl);have I:T1.length=79:=ai.len.trans (by simp only [Vg]; exact hl);have bn:=hs.mono k1.sub;refine dy (fun T' H'=>∃ u x,aa T' 5=u/\aa T' 6=x/\Kp H H'/\dS H' u (Lin.eqsOf l)/\dS H' x (Lin.ineqsOf n l)) rfl ?_ ?_
 ·refine zW (aB I t1 hs.lenV) ?_;refine am H [5,6] (fun j vs H'=>∃ u x,vs=[u,x]/\Bq rowsE af H H' u (Lin.eqsOf (l.take j))/\Bq rowsE af H H' x (Lin.ineqsOf n (l.take j))/\Sep u x) (a:=0) (N:=l.length) rfl (by refine zW I ?_; rfl) (zV I) (Vz _) zO (by simp only [Vg,I]; rfl) rfl (fun j vs H' m ⟨u,x,q1,q2,q3,q4⟩=>⟨u,x,q1,q2.mono (Sub.bump H' m),q3.mono (Sub.bump H' m),q4⟩) zK ⟨.nilSl,o,by exact zV (aB I t5 t6),Bq.nil,b1.mono (Sub.bump H1 _),fun b h=>by cases h⟩ ?_ ?_
  ·rintro j T2 H2 _ hj G aG ab A ⟨u,x,f,Q,S,az⟩;have w2:=A.wf;have bt:=A.le;have a8:=A.le;simp only [Vq,Vw,Vv,and_true] at f;obtain ⟨v5,v6⟩:=f;have aP:aa T2 20=s:=(ab.at_ 20 zU).trans (zV (aA I t1));obtain ⟨cs,⟨w,rfl,hr⟩,bm,-,D⟩:=(hs.mono A.sub).at (Vk hj);have Z:cL 2 s (.int .i64 (j:Int))=some (aq s (j*2)):=SlV.idx hs .i64 j hj;have D:aW H2 (some 2) (aq s (j*2))=some (.agg [w,.bool l[j].2]):=D;have ow:=hr.one;simp only [Vg,I] at G;have he:=Ol (l:=l) hj;have hi:=HQ (n:=n) (l:=l) hj;have l5:=Om (l.take j);have l6:=uV (n:=n) (l.take j);rw [VN] at l5 l6;obtain ⟨P,V⟩:∃ P,P=((H2.up 12).put (H2.next+2) (.cells [.nilSl,.bool false] t_api_Con true)).put (H2.next+2) (.cells [w,.bool l[j].2] t_api_Con true):=⟨_,rfl⟩
   have M:Kp H2 P:=by rw [V]; exact zK
   have aM:Kp H P:=A.trans M;have nx:P.next=H2.next+12:=by rw [V]; rfl
   have fx:∀ c,H2.next<=c->c≠H2.next+2->P.get c=none:=fun c h1 h2=>by rw [V,al h2,al h2]; exact w2.fresh h1
   have aK:rowsE.R P [w] l[j].1:=⟨w,rfl,hr.mono M.sub⟩
   cases hb:l[j].2 with
   | true =>
    rw [hb] at D V he hi;obtain ⟨O,B,U,b6,k6,aN,f6,-⟩:=Bq.push (ty2:=af) (bytes:=24) (id:=H2.next+10) (id2:=H2.next+9) (Q.mono M.sub) zU aM aK zO zO (fx _ zO zO) zO zO (fx _ zO zO) zO zO zO;have ae:dr ((((H2.up 12).put (H2.next+2) (.cells [.nilSl,.bool false] t_api_Con true)).put (H2.next+2) (.cells [w,.bool true] t_api_Con true)).put (H2.next+9) (.cells [w] af true)) (H2.next+10) 1 24 af u (.own (H2.next+9) 0 1 1 1 true)=some (.own (H2.next+10) 0 O O 1 false,B):=by rw [V] at U; exact U
    refine zW (jY G aP aG Z D v5 v6 ae) ?_;refine ⟨k6,_,_,rfl,?_,?_,?_⟩
    ·rw [he,if_pos rfl]; exact b6
    ·rw [hi,if_pos rfl]; exact f6.bq (Q.mono M.sub) (S.mono M.sub) az zU
    ·intro b h1 h2
     have:=S.lt w2 h2
     cases h1;omega
   | false =>
    rw [hb] at D V he hi;obtain ⟨O,B,U,b6,k6,aN,f6,-⟩:=Bq.push (ty2:=af) (bytes:=24) (id:=H2.next+10) (id2:=H2.next+9) (S.mono M.sub) zU aM aK zO zO (fx _ zO zO) zO zO (fx _ zO zO) zO zO zO;have ae:dr ((((H2.up 12).put (H2.next+2) (.cells [.nilSl,.bool false] t_api_Con true)).put (H2.next+2) (.cells [w,.bool false] t_api_Con true)).put (H2.next+9) (.cells [w] af true)) (H2.next+10) 1 24 af x (.own (H2.next+9) 0 1 1 1 true)=some (.own (H2.next+10) 0 O O 1 false,B):=by rw [V] at U; exact U
    refine zW (jY G aP aG Z D v5 v6 ae) ?_;refine ⟨k6,_,_,rfl,?_,?_,?_⟩
    ·rw [he,if_neg zU]; exact f6.bq (S.mono M.sub) (Q.mono M.sub) az.symm zU
    ·rw [hi,if_neg zU]; exact b6
    ·intro b h1 h2
     have:=Q.lt w2 h1
     cases h2;omega
  ·rintro T2 H2 G ab A ⟨u,x,f,Q,S,az⟩;simp only [Vq,Vw,Vv,and_true] at f;rw [VO] at Q S;refine zW (aA G @aU) ?_;exact ⟨u,x,f.1,f.2,A,Q.sl,S.sl⟩
 rintro T2 H2 ab ⟨u,x,v5,v6,k2,r5,r6⟩;have w2:=k2.wf;have a8:=k2.le;have u0:aa T2 0=.int .i64 (n:Int):=(ab.at_ 0 zU).trans t0;have u4:aa T2 4=.nilSl:=(ab.at_ 4 zU).trans t4;have G:T2.length=79:=ab.len.trans I;have hE:∀ a∈Lin.eqsOf l,a.length=n+1/\Lin.Bd (2^m) a:=fun a ha=>aI _ (Lin.mem_eqs.1 ha);have hI:∀ a∈Lin.ineqsOf n l,a.length=n+1/\Lin.Bd (2^m) a:=fun a ha=>by
  rcases Lin.mem_ineqs.1 ha with rfl | ha
  ·exact ⟨Lin.unitC_len n 1,C7 n m⟩
  ·exact aI _ ha
 have lE:=Om l;have lI:=uV (n:=n) l;obtain ⟨c1,c2⟩:=uy (d:=n+1) (m:=m) zO zO hE hI;have hT:=Lin.gens_told (d:=n+1) (fun a ha=>(hE a ha).1) (fun a ha=>(hI a ha).1);have lL:=ech_len hT.form;have aZ:(Lin.ineqsOf n l).length^n<1099000000000:=Wp (Xo lI n) a0;have lR:(Lin.gensR (n+1) (Lin.eqsOf l) (Lin.ineqsOf n l)).length<=1099000000000:=by
  have:=hT.dd.count3 (fun a ha=>(hI a ha).1)
  simp only [Xx] at this;omega
 obtain ⟨L,hL⟩:∃ L,L=Lin.gensL (n+1) (Lin.eqsOf l) (Lin.ineqsOf n l):=⟨_,rfl⟩
 obtain ⟨R,hR⟩:∃ R,R=Lin.gensR (n+1) (Lin.eqsOf l) (Lin.ineqsOf n l):=⟨_,rfl⟩
 have aO:∀ r∈R,∀ z∈r,eR z:=fun r hr z hz=>by
  rw [hR] at hr;exact (ft (c2 r hr).2 z hz).sm zO
 have ej:IntKind.i64.wrap ((n:Int)+1)=((n+1:Nat):Int):=by rw [wrap_i64] <;> omega
 refine dy (fun T' H'=>∃ p q,aa T' 9=p/\aa T' 10=q/\Kp H H'/\dS H' p L/\dS H' q R) rfl ?_ ?_
 ·refine zW (cp G u0 v5 v6 ej) ?_;refine AnsH.use (AO C (d:=n+1) (m:=m) zF (r5.mono (zG H2)) (r6.mono (zG H2)) zO zO zO zO (by simpa using aZ) hE hI hm) ?_;rintro v H3 ⟨p,q,rfl,hp,hq,ag⟩;obtain ⟨k23,_,_⟩:=zT H2 zK ag;have k3:Kp H H3:=k2.trans k23;have bw:=k3.le;refine zW (aA G @aU) ?_;rw [hL,hR];exact ⟨p,q,rfl,rfl,zK,hp,hq⟩
 rintro T3 H3 aL ⟨p,q,v9,aQ,k3,hp,hq⟩;have w3:=k3.wf;have bq:=k3.le;have x4:aa T3 4=.nilSl:=(aL.at_ 4 zU).trans u4;have ao:T3.length=79:=aL.len.trans G;rw [<- hL] at lL;rw [<- hR] at lR;have aF:R.any (fun r=>decide (0<Lin.hd1 r))=(Lin.gensR (n+1) (Lin.eqsOf l) (Lin.ineqsOf n l)).any (fun r=>decide (0<Lin.hd1 r)):=by rw [hR]
 refine dy (fun T' H'=>Kp H3 H'/\aa T' 4=.nilSl/\R.any (fun r=>decide (0<Lin.hd1 r))=true) rfl ?_ ?_
 ·refine zW (aA ao aQ) ?_;refine AnsH.eq (vZ C zF (first:=[]) (hq.mono (zG H3)) zO (fun r=>decide (0<Lin.hd1 r)) fun a ha H' w hk hr=>AG C hk.wf hr (aO a ha)) fun y a3=>?_;obtain ⟨Y,_,_⟩:=zT H3 zK a3;have k4:Kp H y:=k3.trans Y;have ba:=k4.le;cases hc:R.any (fun r=>decide (0<Lin.hd1 r)) with
  | true =>
   refine zW (aB ao @aU x4) ?_;exact zK
  | false =>
   refine zW (aB ao @vw aJ) ?_;refine ⟨?_,zK⟩;unfold Lin.gensP;rw [<- aF,hc];exact SlV.nil _ _ _
 rintro T4 y ay ⟨Y,y4,a6⟩;have w4:=Y.wf;have br:=Y.le;have k4:Kp H y:=k3.trans Y;have ba:=k4.le;have y9:aa T4 9=p:=(ay.at_ 9 zU).trans v9;have bh:aa T4 10=q:=(ay.at_ 10 zU).trans aQ;have J:T4.length=79:=ay.len.trans ao;refine dy (fun T' H'=>∃ o,aa T' 4=o/\Kp y H'/\Bq genE ah y H' o (L.map fun r=>(1,r))) rfl ?_ ?_
 ·refine zW (aB J y9 hp.lenV) ?_;refine am y [4] (fun j vs H'=>∃ o,vs=[o]/\Bq genE ah y H' o ((L.take j).map fun r=>(1,r))) (a:=0) (N:=L.length) rfl (by refine zW J ?_; rfl) (zV J) (Vz _) zO (by simp only [Vg,J]; rfl) rfl (fun j vs H' m ⟨o,q1,q2⟩=>⟨o,q1,q2.mono (Sub.bump H' m)⟩) (Kp.up (Kp.refl w4) _) ⟨.nilSl,by exact zV (aA J y4),Bq.nil⟩ ?_ ?_
  ·rintro j T5 i _ hj t a1 ak W ⟨o,f,F⟩;have w5:=W.wf;have bu:=W.le;have a9:=W.le;simp only [Vq,Vw,Vv,and_true] at f;have bd:aa T5 51=p:=(ak.at_ 51 zU).trans (zV (aA J y9));obtain ⟨w,hr,D⟩:=dD ((hp.mono Y.sub).mono W.sub) hj;have Z:=SlV.idx1 hp .i64 j hj;have ow:=hr.one;simp only [Vg,J] at t;obtain ⟨O,B,U,b6,k6,aN,f6,-⟩:=Bq.push (ty2:=ah) (bytes:=32) (id:=i.next+7) (id2:=i.next+6) (H:=i.up 9) (cs:=[.int .u8 1,w]) (a:=(1,L[j])) (F.mono (Sub.bump i 9)) zU (W.up 9) ⟨w,rfl,hr.mono (Sub.bump i 9)⟩ zO (by rw [cO]; omega) (w5.fresh zO) zO (by rw [cO]; omega) (w5.fresh zO) zO (by simp; omega) (by simp; omega);have ae:dr ((i.up 9).put (i.next+6) (.cells [.int .u8 1,w] ah true)) (i.next+7) 2 32 ah o (.own (i.next+6) 0 1 1 2 true)=some (.own (i.next+7) 0 O O 2 false,B):=U;refine zW (gS t bd a1 Z D f ae) ?_;refine ⟨k6,_,rfl,?_⟩;rw [Vr hj,V7];exact b6
  ·rintro T5 i t ak W ⟨o,f,F⟩;simp only [Vq,Vw,Vv,and_true] at f;rw [VO] at F;refine zW (aA t @aU) ?_;exact ⟨o,f,W,F⟩
 rintro T5 i ak ⟨bc,z4,aD,aS⟩;have w5:=aD.wf;have a9:=aD.le;have aR:aa T5 10=q:=(ak.at_ 10 zU).trans bh;have t:T5.length=79:=ak.len.trans J;refine dy (fun T' H'=>∃ o,aa T' 4=o/\Kp y H'/\Bq genE ah y H' o ((L.map fun r=>(1,r))++R.map fun r=>(Lin.kindOf r,r))) rfl ?_ ?_
 ·refine zW (aB t aR hq.lenV) ?_;refine am y [4] (fun j vs H'=>∃ o,vs=[o]/\Bq genE ah y H' o ((L.map fun r=>(1,r))++(R.take j).map fun r=>(Lin.kindOf r,r))) (a:=0) (N:=R.length) rfl (by refine zW t ?_; rfl) (zV t) (Vz _) zO (by simp only [Vg,t]; rfl) rfl (fun j vs H' m ⟨o,q1,q2⟩=>⟨o,q1,q2.mono (Sub.bump H' m)⟩) (aD.up _) ⟨bc,by exact zV (aA t z4),by rw [YT,Vw,Wv]; exact aS.mono (Sub.bump i _)⟩ ?_ ?_
  ·rintro j T6 B _ hj K a2 ar X ⟨o,f,F⟩;have w6:=X.wf;have bv:=X.le;have bs:=X.le;simp only [Vq,Vw,Vv,and_true] at f;have bg:aa T6 63=q:=(ar.at_ 63 zU).trans (zV (aA t aR));obtain ⟨w,hr,D⟩:=dD ((hq.mono Y.sub).mono X.sub) hj;have Z:=SlV.idx1 hq .i64 j hj;have ow:=hr.one;simp only [Vg,t] at K;have hm:=Vm hj;refine zW (cp K bg a2 Z D) ?_;refine AnsH.eq (mO C zF (hr.mono (zG B)) (aO _ hm)) fun e a5=>?_;obtain ⟨ad,_,_⟩:=zT B zK a5;have aE:Kp y e:=X.trans ad;have bx:=aE.le;have w7:=ad.wf;by_cases h0:0<Lin.hd1 R[j]
   ·have ag:Lin.kindOf R[j]=3:=by unfold Lin.kindOf; rw [if_pos h0]
    have ax:(0:Int)<gw (Lin.hd1 R[j]):=(yL _).2 h0;obtain ⟨n8,H8,e8,b8,k8,bb,f8,-⟩:=Bq.push (ty2:=ah) (bytes:=32) (id:=e.next+6) (id2:=e.next+5) (H:=e.up 8) (cs:=[.int .u8 3,w]) (a:=(3,R[j])) ((F.mono ad.sub).mono (Sub.bump e 8)) zU (aE.up 8) ⟨w,rfl,(hr.mono ad.sub).mono (Sub.bump e 8)⟩ zO (by rw [cO]; omega) (w7.fresh zO) zO (by rw [cO]; omega) (w7.fresh zO) zO (by simp; omega) (by simp; omega);have av:dr ((e.up 8).put (e.next+5) (.cells [.int .u8 3,w] ah true)) (e.next+6) 2 32 ah o (.own (e.next+5) 0 1 1 2 true)=some (.own (e.next+6) 0 n8 n8 2 false,H8):=e8;refine zW (aV K ax f av) ?_;refine ⟨k8,_,rfl,?_⟩;rw [Vr hj,V7,<- W7];simp only [Vq,Vw,ag];exact b8
   ·have ag:Lin.kindOf R[j]=2:=by unfold Lin.kindOf; rw [if_neg h0]
    have ax:¬ (0:Int)<gw (Lin.hd1 R[j]):=fun h=>h0 ((yL _).1 h);obtain ⟨n8,H8,e8,b8,k8,bb,f8,-⟩:=Bq.push (ty2:=ah) (bytes:=32) (id:=e.next+5) (id2:=e.next+4) (H:=e.up 7) (cs:=[.int .u8 2,w]) (a:=(2,R[j])) ((F.mono ad.sub).mono (Sub.bump e 7)) zU (aE.up 7) ⟨w,rfl,(hr.mono ad.sub).mono (Sub.bump e 7)⟩ zO (by rw [cO]; omega) (w7.fresh zO) zO (by rw [cO]; omega) (w7.fresh zO) zO (by simp; omega) (by simp; omega);have av:dr ((e.up 7).put (e.next+4) (.cells [.int .u8 2,w] ah true)) (e.next+5) 2 32 ah o (.own (e.next+4) 0 1 1 2 true)=some (.own (e.next+5) 0 n8 n8 2 false,H8):=e8;refine zW (aV K ax f av) ?_;refine ⟨k8,_,rfl,?_⟩;rw [Vr hj,V7,<- W7];simp only [Vq,Vw,ag];exact b8
  ·rintro T6 B K ar X ⟨o,f,F⟩;simp only [Vq,Vw,Vv,and_true] at f;rw [VO] at F;refine zW (aA K @aU) ?_;exact ⟨o,f,X,F⟩
 rintro T6 B ar ⟨bz,a4,a7,aY⟩;have K:T6.length=79:=ar.len.trans t;refine WC.wb ?_;refine zW (aB K @a4 aJ) ?_;have hG:Lin.gensP n l=(L.map fun r=>(1,r))++R.map fun r=>(Lin.kindOf r,r):=by
  unfold Lin.gensP;rw [<- aF,a6,<- hL,<- hR];rfl
 rw [hG];exact ⟨aY.sl,k4.trans a7⟩
def wx (C:Code tab) (F:Wf H) {a b:AV} {l m:List Nat} (ha:Lb H a l) (hb:Lb H b m) (D:l.length<4611686018427387904) :
  Ans tab (.fn de [a,b]) H fun v H'=>v=.bool (decide (l=m))/\Kp H H':=by
 refine bC C.q91 zU fun T hl d f=>?_;by_cases he:l.length=m.length
 ·have lb:lenV b=some (.int .i64 (l.length:Int)):=by rw [hb.lenV,he]
  refine zW (cp hl d f ha.lenV lb) ?_;refine am H [] (fun j _ _=>∀ q (h:q<l.length) (h':q<m.length),q<j->l[q]=m[q]) (a:=0) (N:=l.length) rfl (by refine zW (aB hl d f) ?_; rfl) (zV (aB hl d f)) (Vz _) zO (by simp only [Vg,hl]; rfl) rfl (fun _ _ _ _ h=>h) zK (fun q _ _ h=>by omega) ?_ ?_
  ·intro i T1 z _ hi c B r g k;have w1:=g.wf;have G:=g.le;have t0:aa T1 0=a:=(r.at_ 0 zU).trans (zV (aA hl d));have t1:aa T1 1=b:=(r.at_ 1 zU).trans (zV (aV hl d f f));have s:i<m.length:=zO;obtain ⟨w,hr,x⟩:=SlV.at1 (ha.mono g.sub) (Vk hi);obtain ⟨w',p,y⟩:=SlV.at1 (hb.mono g.sub) (Vk s);have hr:w=.int .u64 ((l[i]:Nat):Int):=hr;have p:w'=.int .u64 ((m[i]:Nat):Int):=p;subst hr; subst p;have t:=SlV.idx1 ha .i64 i hi;have u:=SlV.idx1 hb .i64 i s;simp only [Vg,hl] at c;refine zW (aV c t0 t1 B) ?_;refine aM ?_;by_cases n:l[i]=m[i]
   ·have o:((l[i]:Nat):Int)=((m[i]:Nat):Int):=zO;refine zD (jY c t0 t1 t x u y o) ?_;refine ⟨zK,fun q h h' E=>?_⟩;by_cases eq:q=i
    ·subst eq; exact n
    ·exact k q h h' zO
   ·have o:¬ ((l[i]:Nat):Int)=((m[i]:Nat):Int):=zO;refine zD (lh c t0 t1 t x u y o n) ?_;refine ⟨?_,zK⟩;rw [decide_eq_false];intro e; subst e; exact n rfl
  ·intro T1 z c r g k;simp only [Vg,hl] at c;refine zW c ?_;exact ⟨by rw [decide_eq_true (iP he fun q h h'=>k q h h' h)],zK⟩
 ·have A:¬ (l.length:Int)=(m.length:Int):=zO;refine zW (gS hl d f ha.lenV hb.lenV A he) ?_;refine ⟨?_,zK⟩;rw [decide_eq_false];intro e; subst e; exact he rfl
def GH (C:Code tab) (i:Wf H) {a b:AV} {x y:Int} (ha:IntV H a x) (hb:IntV H b y) (hx:eR x) :
  Ans tab (.fn iW [a,b]) H fun v H'=>v=.bool (decide (x=y))/\Kp H H':=by
 obtain ⟨p,rfl,hp⟩:=ha;obtain ⟨q,rfl,f⟩:=hb;have op:=hp.one;have j:=f.one;unfold eR Sm at hx;refine bC C.q64 zU fun T hl c d=>?_;by_cases h:decide (x<0)=decide (y<0)
 ·have h':(decide (x<0) == decide (y<0))=true:=by rw [h]; simp
  refine zW (aV hl c d h') ?_;refine AnsH.eq (wx C zF (hp.mono (zG H)) (f.mono (zG H)) zO) fun H2 g=>?_;obtain ⟨k2,_,_⟩:=zT H zK g;refine zW (aB hl c d) ?_;refine ⟨?_,zK⟩;by_cases e:x=y
  ·rw [decide_eq_true e,decide_eq_true (by rw [e])]
  ·rw [decide_eq_false e,decide_eq_false];intro h2
   have:=Ch h2
   have h3:(x<0) ↔ (y<0):=by simpa using h
   omega
 ·have h':(decide (x<0) == decide (y<0))=false:=by simpa using h
  refine zW (aV hl c d h') ?_;refine ⟨?_,zK⟩;rw [decide_eq_false];intro e; subst e; exact h rfl
def uw (C:Code tab) (K:Wf H) {a b:AV} {l m:List Int} (ha:RowV H a l) (hb:RowV H b m) (Q:l.length<1099511627776) (M:∀ z∈l,eR z) :
  Ans tab (.fn tH [a,b]) H fun v H'=>v=.bool (decide (l=m))/\Kp H H':=by
 have key:∀ {H:Heap},Wf H->RowV H a l->RowV H b m->Ans tab (.fn bh [a,b,.fn (.func iW) [] []]) H fun v H'=>v=.bool (decide (l=m))/\Kp H H':=by
  intro H K ha hb;refine mN C.q63 zU fun T hl c d f=>?_;by_cases he:l.length=m.length
  ·have lb:lenV b=some (.int .i64 (l.length:Int)):=by rw [hb.lenV,he]
   refine zW (eF hl c d f ha.lenV lb) ?_;refine am H [] (fun j _ _=>∀ q (h:q<l.length) (h':q<m.length),q<j->l[q]=m[q]) (a:=0) (N:=l.length) rfl (by refine zW (aV hl c d f) ?_; rfl) (zV (aV hl c d f)) (Vz _) zO (by simp only [Vg,hl]; rfl) rfl (fun _ _ _ _ h=>h) zK (fun q _ _ h=>by omega) ?_ ?_
   ·intro j T1 o _ hj g F n k p;have w1:=k.wf;have S:=k.le;have J:j<m.length:=zO;have O:aa T1 15=a:=(n.at_ 15 zU).trans (zV (aA hl c));have t1:aa T1 1=b:=(n.at_ 1 zU).trans (zV (cp hl c d f d));have P:aa T1 2=.fn (.func iW) [] []:=(n.at_ 2 zU).trans (zV (cp hl c d f f));obtain ⟨w,hn,L0,G⟩:=nk w1 (ha.mono k.sub) hj;obtain ⟨u,s,L,I⟩:=nk w1 (hb.mono k.sub) J;have V:=hn.one;have U:=s.one;have D:=L0.put;have A:=L0.ld;have B:=L.put;have t:=L.ld;simp only [Vg,hl] at g;refine zW (sG g O t1 P F G D A I B t) ?_;refine AnsH.eq (GH C (x:=l[j]) (y:=m[j]) zF ⟨w,rfl,hn.mono (zG o)⟩ ⟨u,rfl,s.mono (zG o)⟩ (M _ (Vm hj))) fun H2 r=>?_;obtain ⟨k2,_,_⟩:=zT H zK r;cases i:decide (l[j]=m[j]) with
    | true =>
     have i:=of_decide_eq_true i;refine zW g ?_;refine ⟨zK,fun q h h' R=>?_⟩;by_cases e:q=j
     ·subst e; exact i
     ·exact p q h h' zO
    | false =>
     have i:=of_decide_eq_false i;refine zW g ?_;refine ⟨?_,zK⟩;rw [decide_eq_false];intro e; subst e; exact i rfl
   ·intro T1 o g n k p;simp only [Vg,hl] at g;refine zW g ?_;exact ⟨by rw [decide_eq_true (iP he fun q h h'=>p q h h' h)],zK⟩
  ·have E:¬ (l.length:Int)=(m.length:Int):=zO;refine zW (jY hl c d f ha.lenV hb.lenV E he) ?_;refine ⟨?_,zK⟩;rw [decide_eq_false];intro e; subst e; exact he rfl
 refine bC C.q39 zU fun T hl c d=>?_;refine zW (aB hl c d) ?_;refine AnsH.eq (key zF (ha.mono (zG H)) (hb.mono (zG H))) fun H2 r=>?_;obtain ⟨k2,_,_⟩:=zT H zK r;refine zW (aB hl c d) ?_;exact zK
end
section
open Lin
variable {n:Nat} {g:List (Nat × V)}
def HK {j:Nat} (hj:j<g.length):linesOf (g.take (j+1))=if g[j].1=1 then linesOf (g.take j)++[g[j].2] else linesOf (g.take j):=by
 rw [Vr hj];unfold linesOf;rw [Wa,V7];by_cases h:g[j].1=1 <;> simp [h]
def KM {j:Nat} (hj:j<g.length):raysOf (g.take (j+1))=if g[j].1=1 then raysOf (g.take j) else raysOf (g.take j)++[g[j].2]:=by
 rw [Vr hj];unfold raysOf;rw [Wa,V7];by_cases h:g[j].1=1 <;> simp [h]
def Kv {j:Nat} (hj:j<g.length):(g.take (j+1)).any (fun x=>x.1 == 3)=((g.take j).any (fun x=>x.1 == 3) || g[j].1 == 3):=by
 rw [Vr hj,Yv]
 simp
def Fq (g:List (Nat × V)):(linesOf g).length<=g.length:=by
 unfold linesOf;rw [Vp];exact Wh _ _
def Dn (g:List (Nat × V)):(raysOf g).length<=g.length:=by
 unfold raysOf;rw [Vp];exact Wh _ _
def wU {x:V} (h:x∈raysOf g):∃ y∈g,y.2=x:=by
 obtain ⟨k,-,h⟩:=mem_rays.1 h;exact ⟨_,h,rfl⟩
end
section
variable {tab:Nat->Option au} {H:Heap} {s:AV}
set_option maxHeartbeats 4000000 in
def Cr (C:Code tab) (hw:Wf H) {n m:Nat} {g:List (Nat × List Int)} (hs:SlV genE ah H s g) (hn:n<=4) (bx:g.length<=1023) (a9:g.length^n<1099000000000) (aS:∀ x∈g,x.2.length=n+1/\Lin.Bd (2^m) x.2) (hm:m<=300000) :
  Ans tab (.fn qY [.int .i64 (n:Int),s]) H fun v H'=>SlV conE t_api_Con H' v (Lin.consP n g)/\Kp H H':=by
 refine BM C.q46 rfl rfl zU fun T hl g'=>?_;have hl:T.length=84:=hl;have aY:c_dual_cons.results=[(4,none)]:=rfl;have g0:aa T 0=.int .i64 (n:Int):=g' 0 (by simp);have g1:aa T 1=s:=g' 1 (by simp);refine bi ?_;refine zW (aA hl @aC) ?_;refine bi ?_;refine zW (aA hl @aC) ?_;refine bi ?_;refine zW (aA hl @aC) ?_;refine dy (fun T' H'=>∃ t u,aa T' 5=t/\aa T' 6=u/\aa T' 7=.bool (g.any fun x=>x.1 == 3)/\Kp H H'/\dS H' t (Lin.linesOf g)/\dS H' u (Lin.raysOf g)) rfl ?_ ?_
 ·refine zW (aB hl g1 hs.lenV) ?_;refine am H [5,6,7] (fun j vs H'=>∃ t u,vs=[t,u,.bool ((g.take j).any fun x=>x.1 == 3)]/\Bq rowsE af H H' t (Lin.linesOf (g.take j))/\Bq rowsE af H H' u (Lin.raysOf (g.take j))/\Sep t u) (a:=0) (N:=g.length) rfl (by refine zW hl ?_; rfl) (zV hl) (Vz _) zO (by simp only [Vg,hl]; rfl) rfl (fun j vs H' m ⟨t,u,q1,q2,q3,q4⟩=>⟨t,u,q1,q2.mono (Sub.bump H' m),q3.mono (Sub.bump H' m),q4⟩) zK ⟨.nilSl,.nilSl,by refine zW hl ?_; rfl,Bq.nil,Bq.nil,fun b h=>by cases h⟩ ?_ ?_
  ·rintro j T2 H2 _ hj M aJ ak X ⟨t,u,f,U,V,aD⟩;have w2:=X.wf;have bD:=X.le;have bn:=X.le;simp only [Vq,Vw,Vv,and_true] at f;obtain ⟨v5,v6,v7⟩:=f;have aR:aa T2 17=s:=(ak.at_ 17 zU).trans (zV (aA hl g1));obtain ⟨cs,⟨w,rfl,hr⟩,bz,-,O⟩:=(hs.mono X.sub).at (Vk hj);have ae:cL 2 s (.int .i64 (j:Int))=some (aq s (j*2)):=SlV.idx hs .i64 j hj;have O:aW H2 (some 2) (aq s (j*2))=some (.agg [.int .u8 (g[j].1:Int),w]):=O;have ow:=hr.one;simp only [Vg,hl] at M;have he:=HK (g:=g) hj;have hi:=KM (g:=g) hj;have aN:=Kv (g:=g) hj;have l5:=Fq (g.take j);have l6:=Dn (g.take j);rw [VN] at l5 l6;have aP:∀ K:Nat,6<=K->∃ I,I=((H2.up K).put (H2.next+2) (.cells [.int .u8 0,.nilSl] ah true)).put (H2.next+2) (.cells [.int .u8 (g[j].1:Int),w] ah true)/\Kp H2 I/\I.next=H2.next+K/\(∀ c,H2.next<=c->c≠H2.next+2->I.get c=none):=fun K hK=>by
    refine ⟨_,rfl,zK,rfl,fun c h1 h2=>?_⟩;rw [al h2,al h2]; exact w2.fresh h1
   by_cases W:g[j].1=1
   ·have av:(g[j].1:Int)=1:=zO;rw [av] at O;obtain ⟨I,J,i,nx,Z⟩:=aP 14 zO;rw [av] at J;obtain ⟨l,F,Q,b6,k6,aQ,f6,-⟩:=Bq.push (ty2:=af) (bytes:=24) (id:=H2.next+12) (id2:=H2.next+11) (cs:=[w]) (a:=g[j].2) (U.mono i.sub) zU (X.trans i) ⟨w,rfl,hr.mono i.sub⟩ zO zO (Z _ zO zO) zO zO (Z _ zO zO) zO zO zO;have ad:dr ((((H2.up 14).put (H2.next+2) (.cells [.int .u8 0,.nilSl] ah true)).put (H2.next+2) (.cells [.int .u8 1,w] ah true)).put (H2.next+11) (.cells [w] af true)) (H2.next+12) 1 24 af t (.own (H2.next+11) 0 1 1 1 true)=some (.own (H2.next+12) 0 l l 1 false,F):=by rw [J] at Q; exact Q
    refine zW (lh M aR aJ ae O v5 v6 v7 ad) ?_;have aI:(g[j].1 == 3)=false:=by rw [W]; rfl
    rw [aN,aI,ZV];refine ⟨k6,.own (H2.next+12) 0 l l 1 false,u,rfl,?_,?_,?_⟩
    ·rw [he,if_pos W]; exact b6
    ·rw [hi,if_pos W]; exact f6.bq (U.mono i.sub) (V.mono i.sub) aD zU
    ·intro b h1 h2
     have:=V.lt w2 h2
     cases h1;omega
   have av:¬ (g[j].1:Int)=1:=zO;have bw:(g[j].1 == 1)=false:=by simpa using W
   by_cases c3:g[j].1=3
   ·have ax:(g[j].1:Int)=3:=zO;rw [ax] at O;obtain ⟨I,J,i,nx,Z⟩:=aP 17 zO;rw [ax] at J;obtain ⟨l,F,Q,b6,k6,aQ,f6,-⟩:=Bq.push (ty2:=af) (bytes:=24) (id:=H2.next+15) (id2:=H2.next+14) (cs:=[w]) (a:=g[j].2) (V.mono i.sub) zU (X.trans i) ⟨w,rfl,hr.mono i.sub⟩ zO zO (Z _ zO zO) zO zO (Z _ zO zO) zO zO zO;have ad:dr ((((H2.up 17).put (H2.next+2) (.cells [.int .u8 0,.nilSl] ah true)).put (H2.next+2) (.cells [.int .u8 3,w] ah true)).put (H2.next+14) (.cells [w] af true)) (H2.next+15) 1 24 af u (.own (H2.next+14) 0 1 1 1 true)=some (.own (H2.next+15) 0 l l 1 false,F):=by rw [J] at Q; exact Q
    refine zW (lh M aR aJ ae O v5 v6 v7 ad) ?_;have aI:(g[j].1 == 3)=true:=by rw [c3]; rfl
    rw [aN,aI,Zr];refine ⟨k6,t,.own (H2.next+15) 0 l l 1 false,rfl,?_,?_,?_⟩
    ·rw [he,if_neg W]; exact f6.bq (V.mono i.sub) (U.mono i.sub) aD.symm zU
    ·rw [hi,if_neg W]; exact b6
    ·intro b h1 h2
     have:=U.lt w2 h1
     cases h2;omega
   ·have ax:¬ (g[j].1:Int)=3:=zO;have a6:(g[j].1 == 3)=false:=by simpa using c3
    obtain ⟨I,J,i,nx,Z⟩:=aP 16 zO;obtain ⟨l,F,Q,b6,k6,aQ,f6,-⟩:=Bq.push (ty2:=af) (bytes:=24) (id:=H2.next+14) (id2:=H2.next+13) (cs:=[w]) (a:=g[j].2) (V.mono i.sub) zU (X.trans i) ⟨w,rfl,hr.mono i.sub⟩ zO zO (Z _ zO zO) zO zO (Z _ zO zO) zO zO zO;have ad:dr ((((H2.up 16).put (H2.next+2) (.cells [.int .u8 0,.nilSl] ah true)).put (H2.next+2) (.cells [.int .u8 (g[j].1:Int),w] ah true)).put (H2.next+13) (.cells [w] af true)) (H2.next+14) 1 24 af u (.own (H2.next+13) 0 1 1 1 true)=some (.own (H2.next+14) 0 l l 1 false,F):=by rw [J] at Q; exact Q
    refine zW (sG M aR aJ ae O v5 v6 v7 ad av ax) ?_;rw [aN,a6,ZV];refine ⟨k6,t,.own (H2.next+14) 0 l l 1 false,rfl,?_,?_,?_⟩
    ·rw [he,if_neg W]; exact f6.bq (V.mono i.sub) (U.mono i.sub) aD.symm zU
    ·rw [hi,if_neg W]; exact b6
    ·intro b h1 h2
     have:=U.lt w2 h1
     cases h2;omega
  ·rintro T2 H2 M ak X ⟨t,u,f,U,V,aD⟩;simp only [Vq,Vw,Vv,and_true] at f;rw [VO] at U V f;refine zW (aA M @aU) ?_;exact ⟨t,u,f.1,f.2.1,f.2.2,X,U.sl,V.sl⟩
 rintro T2 H2 ak ⟨t,u,v5,v6,v7,k2,r5,r6⟩;have w2:=k2.wf;have bn:=k2.le;have u0:aa T2 0=.int .i64 (n:Int):=(ak.at_ 0 zU).trans (zV (aA hl g0));have u4:aa T2 4=.nilSl:=(ak.at_ 4 zU).trans (zV hl);have M:T2.length=84:=ak.len.trans (by simp only [Vg]; exact hl);refine dy (fun T' H'=>Kp H2 H'/\aa T' 4=.nilSl/\(g.any fun x=>x.1 == 3)=true) rfl ?_ ?_
 ·cases hc:g.any fun x=>x.1 == 3 with
  | true =>
   rw [hc] at v7;refine zW (aV M v7 u4 @aU) ?_;exact zK
  | false =>
   rw [hc] at v7;refine zW (aB M v7 u0) ?_;refine AnsH.use (xg C (n:=n) (k:=-1) zF zO zO zO) ?_;rintro v P ⟨hr,aK⟩;obtain ⟨k23,_,_⟩:=zT H2 zK aK;have k3:Kp H P:=k2.trans k23;have bq:=k3.le;have w3:=k3.wf;have ov:=hr.one;have n3:H2.next+7<=P.next:=aK.le
   have f3:P.get (H2.next+5)=none:=aK.free (show H2.next+5<H2.next+7 by omega) (w2.fresh (b:=H2.next+5) zO);refine zW (aV M (nE ov) @vw aY) ?_;refine ⟨?_,zK⟩;have e:Lin.consP n g=[(Lin.unitC n (-1),false)]:=by unfold Lin.consP; rw [if_neg (by rw [hc]; decide)]
   rw [e];obtain ⟨I,J⟩:∃ I,I=P.put (H2.next+5) (.cells [v,.bool false] t_api_Con true):=⟨_,rfl⟩
   have sx:Sub P I:=by rw [J]; exact aX f3
   have:Own conE t_api_Con H I (H2.next+5) true (.own (H2.next+5) 0 1 1 2 true) [(Lin.unitC n (-1),false)]:=⟨[v,.bool false],rfl,by rw [J]; exact ap _ _ _,Cells.one (E:=conE) ⟨v,rfl,hr.mono sx⟩,zO⟩
   rw [<- J];exact this.sl
 rintro T3 P az ⟨k23,x4,bh⟩;have k3:Kp H P:=k2.trans k23;have bq:=k3.le;have w3:=k3.wf;have bA:=k3.le;have x0:aa T3 0=.int .i64 (n:Int):=(az.at_ 0 zU).trans u0;have x5:aa T3 5=t:=(az.at_ 5 zU).trans v5;have x6:aa T3 6=u:=(az.at_ 6 zU).trans v6;have aL:T3.length=84:=az.len.trans M;have hE:∀ a∈Lin.linesOf g,a.length=n+1/\Lin.Bd (2^m) a:=fun a ha=>aS _ (Lin.mem_lines.1 ha);have hI:∀ a∈Lin.raysOf g,a.length=n+1/\Lin.Bd (2^m) a:=fun a ha=>by
  obtain ⟨y,hy,rfl⟩:=wU ha;exact aS _ hy
 have lE:=Fq g;have lI:=Dn g;obtain ⟨W,c2⟩:=uy (d:=n+1) (m:=m) zO zO hE hI;have hT:=Lin.gens_told (d:=n+1) (fun a ha=>(hE a ha).1) (fun a ha=>(hI a ha).1);have lL:=ech_len hT.form;have a8:(Lin.raysOf g).length^n<1099000000000:=Wp (Xo lI n) a9;have lR:(Lin.gensR (n+1) (Lin.linesOf g) (Lin.raysOf g)).length<=1099000000000:=by
  have:=hT.dd.count3 (fun a ha=>(hI a ha).1)
  simp only [Xx] at this;omega
 obtain ⟨L,hL⟩:∃ L,L=Lin.gensL (n+1) (Lin.linesOf g) (Lin.raysOf g):=⟨_,rfl⟩
 obtain ⟨R,hR⟩:∃ R,R=Lin.gensR (n+1) (Lin.linesOf g) (Lin.raysOf g):=⟨_,rfl⟩
 have br:∀ r∈R,r.length=n+1:=fun r hr=>by rw [hR] at hr; exact (c2 r hr).1
 have bt:∀ r∈R,∀ z∈r,eR z:=fun r hr z hz=>by
  rw [hR] at hr;exact (ft (c2 r hr).2 z hz).sm zO
 have ej:IntKind.i64.wrap ((n:Int)+1)=((n+1:Nat):Int):=by rw [wrap_i64] <;> omega
 refine dy (fun T' H'=>∃ p q,aa T' 10=p/\aa T' 11=q/\Kp H H'/\dS H' p L/\dS H' q R) rfl ?_ ?_
 ·refine zW (cp aL x0 x5 x6 ej) ?_;refine AnsH.use (AO C (d:=n+1) (m:=m) zF ((r5.mono k23.sub).mono (zG P)) ((r6.mono k23.sub).mono (zG P)) zO zO zO zO (by simpa using a8) hE hI hm) ?_;rintro v D ⟨p,q,rfl,hp,hq,bc⟩;obtain ⟨bl,_,_⟩:=zT P zK bc;have k4:Kp H D:=k3.trans bl;have bG:=k4.le;refine zW (aA aL @aU) ?_;rw [hL,hR];exact ⟨p,q,rfl,rfl,zK,hp,hq⟩
 rintro T4 D aM ⟨p,q,a1,bv,k4,hp,hq⟩;have w4:=k4.wf;have bB:=k4.le;have y0:aa T4 0=.int .i64 (n:Int):=(aM.at_ 0 zU).trans x0;have y4:aa T4 4=.nilSl:=(aM.at_ 4 zU).trans x4;have ab:T4.length=84:=aM.len.trans aL;rw [<- hL] at lL;rw [<- hR] at lR;refine dy (fun T' H'=>∃ o,aa T' 4=o/\Kp D H'/\Bq conE t_api_Con D H' o (L.map fun r=>(r,true))) rfl ?_ ?_
 ·refine zW (aB ab a1 hp.lenV) ?_;refine am D [4] (fun j vs H'=>∃ o,vs=[o]/\Bq conE t_api_Con D H' o ((L.take j).map fun r=>(r,true))) (a:=0) (N:=L.length) rfl (by refine zW ab ?_; rfl) (zV ab) (Vz _) zO (by simp only [Vg,ab]; rfl) rfl (fun j vs H' m ⟨o,q1,q2⟩=>⟨o,q1,q2.mono (Sub.bump H' m)⟩) (Kp.up (Kp.refl w4) _) ⟨.nilSl,by exact zV (aA ab y4),Bq.nil⟩ ?_ ?_
  ·rintro j T5 B _ hj A ba ao ag ⟨o,f,S⟩;have w5:=ag.wf;have bE:=ag.le;have bo:=ag.le;simp only [Vq,Vw,Vv,and_true] at f;have t55:aa T5 55=p:=(ao.at_ 55 zU).trans (zV (aA ab a1));obtain ⟨w,hr,O⟩:=dD (hp.mono ag.sub) hj;have ae:=SlV.idx1 hp .i64 j hj;have ow:=hr.one;simp only [Vg,ab] at A;obtain ⟨l,F,Q,b6,k6,aQ,f6,-⟩:=Bq.push (ty2:=t_api_Con) (bytes:=32) (id:=B.next+7) (id2:=B.next+6) (H:=B.up 9) (cs:=[w,.bool true]) (a:=(L[j],true)) (S.mono (Sub.bump B 9)) zU (ag.up 9) ⟨w,rfl,hr.mono (Sub.bump B 9)⟩ zO (by rw [cO]; omega) (w5.fresh zO) zO (by rw [cO]; omega) (w5.fresh zO) zO (by simp; omega) (by simp; omega);have ad:dr ((B.up 9).put (B.next+6) (.cells [w,.bool true] t_api_Con true)) (B.next+7) 2 32 t_api_Con o (.own (B.next+6) 0 1 1 2 true)=some (.own (B.next+7) 0 l l 2 false,F):=Q;refine zW (gS A t55 ba ae O f ad) ?_;refine ⟨k6,_,rfl,?_⟩;rw [Vr hj,V7];exact b6
  ·rintro T5 B A ao ag ⟨o,f,S⟩;simp only [Vq,Vw,Vv,and_true] at f;rw [VO] at S;refine zW (aA A @aU) ?_;exact ⟨o,f,ag,S⟩
 rintro T5 B ao ⟨bs,z4,aO,a3⟩;have w5:=aO.wf;have bo:=aO.le;have z0:aa T5 0=.int .i64 (n:Int):=(ao.at_ 0 zU).trans y0;have a2:aa T5 11=q:=(ao.at_ 11 zU).trans bv;have A:T5.length=84:=ao.len.trans ab;refine dy (fun T' H'=>∃ o,aa T' 4=o/\Kp D H'/\Bq conE t_api_Con D H' o ((L.map fun r=>(r,true))++(R.filter fun r=>!decide (r=Lin.unitC n 1)).map fun r=>(r,false))) rfl ?_ ?_
 ·refine zW (aB A a2 hq.lenV) ?_;refine am D [4] (fun j vs H'=>∃ o,vs=[o]/\Bq conE t_api_Con D H' o ((L.map fun r=>(r,true))++((R.take j).filter fun r=>!decide (r=Lin.unitC n 1)).map fun r=>(r,false))) (a:=0) (N:=R.length) rfl (by refine zW A ?_; rfl) (zV A) (Vz _) zO (by simp only [Vg,A]; rfl) rfl (fun j vs H' m ⟨o,q1,q2⟩=>⟨o,q1,q2.mono (Sub.bump H' m)⟩) (aO.up _) ⟨bs,by exact zV (aA A z4),by rw [YT,XW,Vw,Wv]; exact a3.mono (Sub.bump B _)⟩ ?_ ?_
  ·rintro j T6 F _ hj Y bb ar ai ⟨o,f,S⟩;have w6:=ai.wf;have bF:=ai.le;have bC:=ai.le;simp only [Vq,Vw,Vv,and_true] at f;have t0:aa T6 0=.int .i64 (n:Int):=(ar.at_ 0 zU).trans (zV (aA A z0));have bu:aa T6 67=q:=(ar.at_ 67 zU).trans (zV (aA A a2));obtain ⟨w,hr,O⟩:=dD (hq.mono ai.sub) hj;have ae:=SlV.idx1 hq .i64 j hj;have ow:=hr.one;simp only [Vg,A] at Y;have hm:=Vm hj;refine zW (eF Y t0 bu bb ae O) ?_;refine AnsH.use (xg C (n:=n) (k:=1) zF zO zO zO) ?_;rintro v H7 ⟨hu,bd⟩;obtain ⟨aF,_,_⟩:=zT F zK bd;have aZ:Kp D H7:=ai.trans aF;have bH:=aZ.le;have w7:=aF.wf;refine zW Y ?_;refine AnsH.eq (uw C zF ((hr.mono aF.sub).mono (zG H7)) (hu.mono (zG H7)) (by rw [br _ hm]; omega) (bt _ hm)) fun G bg=>?_;obtain ⟨a0,_,_⟩:=zT H7 zK bg;have aE:Kp D G:=aZ.trans a0;have bI:=aE.le;have aG:Kp F G:=aF.trans a0;have bJ:=aG.le;have w8:=aE.wf;by_cases ay:R[j]=Lin.unitC n 1
   ·refine zW (aB Y f ay) ?_;refine ⟨aE,_,rfl,?_⟩;rw [Vr hj,Wa];simp only [ay,Xz,XW,decide_true,YK,Wo,if_false,Wv];exact S.mono aG.sub
   ·have lf:((R.take j).filter fun r=>!decide (r=Lin.unitC n 1)).length<=R.length:=VB (Wh _ _) (by rw [VN]; omega);obtain ⟨n8,H9,e8,b8,k8,bK,f8,-⟩:=Bq.push (ty2:=t_api_Con) (bytes:=32) (id:=G.next+4) (id2:=G.next+3) (H:=G.up 6) (cs:=[w,.bool false]) (a:=(R[j],false)) ((S.mono aG.sub).mono (Sub.bump G 6)) zU (aE.up 6) ⟨w,rfl,(hr.mono aG.sub).mono (Sub.bump G 6)⟩ zO (by rw [cO]; omega) (w8.fresh zO) zO (by rw [cO]; omega) (w8.fresh zO) zO (by rw [VC,Vp,Vp]; omega) (by rw [VC,Vp,Vp]; omega);have a7:dr ((G.up 6).put (G.next+3) (.cells [w,.bool false] t_api_Con true)) (G.next+4) 2 32 t_api_Con o (.own (G.next+3) 0 1 1 2 true)=some (.own (G.next+4) 0 n8 n8 2 false,H9):=e8;refine zW (cp Y f ay a7 (nE ow)) ?_;refine ⟨k8,_,rfl,?_⟩;rw [Vr hj,Wa];simp only [Xz,XW,ay,decide_false,Zt,if_true,V7,Vq,Vw,<- W7];exact b8
  ·rintro T6 F Y ar ai ⟨o,f,S⟩;simp only [Vq,Vw,Vv,and_true] at f;rw [VO] at S;refine zW (aA Y @aU) ?_;exact ⟨o,f,ai,S⟩
 rintro T6 F ar ⟨bL,a4,bm,a5⟩;have Y:T6.length=84:=ar.len.trans A;refine WC.wb ?_;refine zW (aB Y @a4 aY) ?_;have hG:Lin.consP n g=(L.map fun r=>(r,true))++(R.filter fun r=>!decide (r=Lin.unitC n 1)).map fun r=>(r,false):=by
  unfold Lin.consP;rw [if_pos bh,<- hL,<- hR]
 rw [hG];exact ⟨a5.sl,k4.trans bm⟩
end
def oD {x y z a b c:AV} {ty:Nat} (ha:One a) (hb:One b) (hc:One c):En (some (.cells [x,y,z] ty true)) 3 0 (.agg [a,b,c])=some (.cells [a,b,c] ty true):=by
 simpa using km (cs:=[x,y,z]) (vs:=[a,b,c]) (ty:=ty) (n:=3) (o:=0) (v:=.agg [a,b,c]) ⟨rfl,rfl,by simp [ha.2,hb.2,hc.2]⟩ (by simp)
def SG {x y z a b c:AV} (ha:One a) (hb:One b) (hc:One c):iJ [x,y,z] [((0,1),a),((1,1),b),((2,1),c)]=some (.agg [a,b,c]):=by
 simp [iJ,dj,ha.1,ha.2,hb.1,hb.2,hc.1,hc.2]
section
variable {H:Heap} {s:AV}
def AM {ty:Nat} {l:List (List Int × Bool)} (h:SlV conE ty H s l):SlV conQE ty H s (l.map fun c=>(c.1.map eO,c.2)):=by
 obtain ⟨cells,hr,b,hc,ha⟩:=h;refine ⟨cells,hr,b,by rw [hc,Vp]; rfl,fun i a hi=>?_⟩;rw [Wg,Vu] at hi;obtain ⟨z,d,rfl⟩:=hi;obtain ⟨w,h1,h2⟩:=ha i z d;exact ⟨w,h1,h2.raw⟩
def FE {ty:Nat} {l:List (Nat × List Int)} (h:SlV genE ty H s l):SlV genQE ty H s (l.map fun c=>(c.1,c.2.map eO)):=by
 obtain ⟨cells,hr,b,hc,ha⟩:=h;refine ⟨cells,hr,b,by rw [hc,Vp]; rfl,fun i a hi=>?_⟩;rw [Wg,Vu] at hi;obtain ⟨z,d,rfl⟩:=hi;obtain ⟨w,h1,h2⟩:=ha i z d;exact ⟨w,h1,h2.raw⟩
end
def HO (z:Int):fK (eO z)=z:=by
 unfold fK eO;simp only [bI];by_cases h:z<0
 ·simp [h]; omega
 ·simp [h]; omega
def Oc (l:List Int):(l.map eO).map fK=l:=by
 rw [Xu]
 conv=>rhs; rw [<- YR l]
 exact Xb fun z _=>HO z
section
open Lin
variable {n m:Nat}
def ri {l:List (V × Bool)} (hn:n<=5) (h:∀ c∈l,c.1.length=n+1/\Bd (2^m) c.1):∀ x∈gensP n l,x.2.length=n+1/\Bd (2^(64*(m+4))) x.2:=fun x hx=>by
 have f:∀ a∈eqsOf l,a.length=n+1/\Bd (2^m) a:=fun a ha=>h _ (mem_eqs.1 ha);have g:∀ a∈ineqsOf n l,a.length=n+1/\Bd (2^m) a:=fun a ha=>by
  rcases mem_ineqs.1 ha with rfl | ha
  ·exact ⟨unitC_len n 1,C7 n m⟩
  ·exact h _ ha
 obtain ⟨b,e⟩:=uy (d:=n+1) (m:=m) zO zO f g;unfold gensP at hx;split at hx
 ·rcases VE.1 hx with hx | hx
  ·obtain ⟨r,hr,rfl⟩:=Vl.1 hx;exact b r hr
  ·obtain ⟨r,hr,rfl⟩:=Vl.1 hx;exact e r hr
 ·cases hx
def MX (n m:Nat):Bd (2^m) (unitC n (-1)):=fun i=>by
 have h1:1<=2^m:=Wb zU;unfold unitC at_;cases i with
 | zero=>simpa using h1
 | succ i =>
  rw [W5,Vh,Wj];split <;> simp
def FW {g:List (Nat × V)} (hn:n<=5) (h:∀ x∈g,x.2.length=n+1/\Bd (2^m) x.2):∀ c∈consP n g,c.1.length=n+1/\Bd (2^(64*(m+4))) c.1:=fun x hx=>by
 have f:∀ a∈linesOf g,a.length=n+1/\Bd (2^m) a:=fun a ha=>h _ (mem_lines.1 ha);have i:∀ a∈raysOf g,a.length=n+1/\Bd (2^m) a:=fun a ha=>by
  obtain ⟨y,hy,rfl⟩:=wU ha;exact h _ hy
 obtain ⟨b,e⟩:=uy (d:=n+1) (m:=m) zO zO f i;unfold consP at hx;split at hx
 ·rcases VE.1 hx with hx | hx
  ·obtain ⟨r,hr,rfl⟩:=Vl.1 hx;exact b r hr
  ·obtain ⟨r,hr,rfl⟩:=Vl.1 hx;exact e r (Vx.1 hr).1
 ·rw [Wl] at hx;subst hx;exact ⟨unitC_len n (-1),MX n _⟩
def KS {k n:Nat} (a:k<=1023) (hn:n<=4):k^n<1099000000000:=by
 have h1:k^n<=1023^n:=Xo a n;have h2:1023^n<=1023^4:=VW zU hn;have h3:(1023:Nat)^4=1095222947841:=by decide
 omega
end
abbrev wG:AV:=.agg [.int .i64 0,.nilSl,.nilSl]
def PolyV (H:Heap) (v:AV) (n:Nat) (c:List (List Int × Bool)) (g:List (Nat × List Int)):Prop:=∃ a b,v=.agg [.int .i64 (n:Int),a,b]/\SlV conE t_api_Con H a c/\SlV genE ah H b g
def PolyV.mono {H H':Heap} (hs:Sub H H') {v:AV} {n:Nat} {c:List (List Int × Bool)} {g:List (Nat × List Int)} (h:PolyV H v n c g):PolyV H' v n c g:=by
 obtain ⟨a,b,e,h1,h2⟩:=h;exact ⟨a,b,e,h1.mono hs,h2.mono hs⟩
def qc (H:Heap) (v:AV) (n:Nat) (g:List (Nat × List Int)):Prop :=
 (v=.tup [wG,.int .i64 4]/\(1024<=g.length\/1024<=(Lin.consP n g).length))\/∃ p,v=.tup [p,.int .i64 0]/\PolyV H p n (Lin.consP n g) g/\g.length<1024/\(Lin.consP n g).length<1024
section
variable {tab:Nat->Option au} {H:Heap} {s:AV}
def Cp (C:Code tab) (j:Wf H) {n m:Nat} {g:List (Nat × List Int)} (hs:SlV genE ah H s g) (i:g.length<1099511627776) (hn:n<=4) (f:∀ x∈g,x.2.length=n+1/\Lin.Bd (2^m) x.2) (hm:m<=300000) :
  Ans tab (.fn qX [.int .i64 (n:Int),s]) H fun v H'=>qc H' v n g/\Kp H H':=by
 have os:=hs.one;refine bC C.q33 zU fun T hl a c=>?_;by_cases q1:(1024:Int)<=(g.length:Int)
 ·refine zW (eF hl a c hs.lenV q1 @oD) ?_;exact ⟨.inl ⟨rfl,.inl zO⟩,zK⟩
 refine zW (cp hl a c hs.lenV q1) ?_;refine AnsH.use (Cr C zF (hs.mono (zG H)) hn zO (KS zO hn) f hm) ?_;rintro v H2 ⟨hc,d⟩;obtain ⟨k2,_,h⟩:=zT H zK d;have ov:=hc.one;have d0:=d.get (b:=H.next) (e:=.cells [.int .i64 0,.nilSl,.nilSl] ai true) (da);have k:=h _ _ d0;by_cases q2:(1024:Int)<=((Lin.consP n g).length:Int)
 ·refine zW (gS hl a c hc.lenV q2 d0 @oD) ?_;exact ⟨.inl ⟨rfl,.inr zO⟩,zK⟩
 have st:NoTy [t_api_Con,ad,ae,ah] H2 H.next:=NoTy.ty d0 zU
 refine zW (jY hl hc.lenV q2 d0 a c @SG @oD) ?_;refine ⟨.inr ⟨_,rfl,⟨v,s,rfl,?_,?_⟩,zO,zO⟩,zK⟩
 ·have m3:NoTy (t_api_Con :: conE.tys) H2 H.next:=NoTy.ty d0 zU
  exact SlV.monoT (E:=conE) zS hc
 ·have m3:NoTy (ah :: genE.tys) H2 H.next:=NoTy.ty d0 zU
  exact SlV.monoT (E:=genE) zS (hs.mono k2.sub)
end
section
open Lin
variable {n:Nat}
def F7 {l:List (V × Bool)} (hn:n<=8) (hl:l.length<=60) (h:∀ c∈l,c.1.length=n+1):dl n (l.map fun c=>(c.1.map eO,c.2))=0:=by
 unfold dl;rw [if_neg zO,if_neg (by rw [Vp]; omega),if_neg,if_neg]
 ·rw [VY];rintro ⟨c,hc,h1⟩;obtain ⟨x,hx,rfl⟩:=Vl.1 hc;have h1:=of_decide_eq_true h1
  have:=h x hx
  simp only [Vp] at h1;omega
 ·rw [VY];rintro ⟨c,hc,h1⟩;obtain ⟨x,hx,rfl⟩:=Vl.1 hc
  have:=h x hx
  rw [Wy,Do zO] at h1;cases h1
def JL {l:List (V × Bool)} (hn:n<=60) (h:∀ c∈l,c.1.length=n+1/\∀ z∈c.1,eR z):∀ c∈l.map fun c=>(c.1.map eO,c.2),xx c.1:=fun c hc=>by
 obtain ⟨x,hx,rfl⟩:=Vl.1 hc;exact uG (by rw [(h x hx).1]; omega) (h x hx).2
def F6 {g:List (Nat × V)} (hn:n<=8) (hl:g.length<=60) (h:ValidG n g) (b:∀ x∈g,x.1=1\/x.1=2\/x.1=3):ji n (g.map fun c=>(c.1,c.2.map eO))=0:=by
 unfold ji;rw [if_neg zO,if_neg (by rw [Vp]; omega),if_neg,if_neg]
 ·rw [VY];rintro ⟨c,hc,h1⟩;obtain ⟨x,hx,rfl⟩:=Vl.1 hc;have h1:=of_decide_eq_true h1
  have:=(h x hx).1
  simp only [Vp] at h1;omega
 ·rw [VY];rintro ⟨c,hc,h1⟩;obtain ⟨x,hx,rfl⟩:=Vl.1 hc;obtain ⟨h2,h3,a⟩:=h x hx;simp only [Ht,Oc,W9,Wy,Do (r:=x.2) zO,Hu] at h1;rcases h1 with h1 | h1
  ·cases h1
  ·rcases b x hx with e | e | e
   ·rw [if_pos (.inl e)] at h1;exact absurd (a zO) (of_decide_eq_true h1)
   ·rw [if_pos (.inr e)] at h1;exact absurd (a zO) (of_decide_eq_true h1)
   ·rw [if_neg zO,if_pos e] at h1
    have:=h3 e
    have:=of_decide_eq_true h1
    omega
def QN {g:List (Nat × V)} (hn:n<=60) (h:∀ c∈g,c.2.length=n+1/\∀ z∈c.2,eR z):∀ c∈g.map fun c=>(c.1,c.2.map eO),xx c.2:=fun c hc=>by
 obtain ⟨x,hx,rfl⟩:=Vl.1 hc;exact uG (by rw [(h x hx).1]; omega) (h x hx).2
end
section
variable {tab:Nat->Option au} {H:Heap} {s:AV}
def xW (C:Code tab) (j:Wf H) {n:Int} {l:List vY} (hs:SlV conQE t_api_Con H s l) (g:∀ c∈l,xx c.1) (h:l.length<4611686018427387904) (hc:dl n l≠0) :
  Ans tab (.fn oN [.int .i64 n,s]) H fun v H'=>v=.tup [wG,.int .i64 (dl n l)]/\Kp H H':=by
 refine bC C.q13 zU fun T hl a d=>?_;refine zW (aB hl a d) ?_;refine AnsH.eq (oS C zF (hs.mono (zG H)) g h) fun H2 f=>?_;obtain ⟨k2,_,i⟩:=zT H zK f;have d0:=f.get (b:=H.next) (e:=.cells [.int .i64 0,.nilSl,.nilSl] ai true) (da);have k:=i _ _ d0;have hc:¬ dl n l=0:=hc;refine zW (eF hl a d hc d0 @oD) ?_;exact zK
def mP (C:Code tab) (I:Wf H) {n m m2:Nat} {l:List (List Int × Bool)} (hs:SlV conE t_api_Con H s l) (hn:n<=4) (B:l.length<=60) (a:∀ c∈l,c.1.length=n+1/\Lin.Bd (2^m) c.1) (hm:m<=300000) (A:∀ x∈Lin.gensP n l,Lin.Bd (2^m2) x.2) (D:m2<=300000) :
  Ans tab (.fn oN [.int .i64 (n:Int),s]) H fun v H'=>qc H' v n (Lin.gensP n l)/\Kp H H':=by
 refine bC C.q13 zU fun T hl f g=>?_;refine zW (aB hl f g) ?_;refine AnsH.eq (oS C zF ((AM hs).mono (zG H)) (JL (n:=n) zO fun c hc=>⟨(a c hc).1,fun z F=>(ft (a c hc).2 z F).sm zO⟩) (by rw [Vp]; omega)) fun H2 t=>?_;rw [F7 zO B fun c hc=>(a c hc).1];obtain ⟨k2,_,O⟩:=zT H zK t;refine zW (aB hl f g) ?_;refine AnsH.use (xT C zF ((hs.mono k2.sub).mono (zG H2)) hn zO (KS zO hn) a hm) ?_;rintro v q ⟨hg,u⟩;obtain ⟨k23,_,_⟩:=zT H2 zK u;have j:Kp H q:=k2.trans k23;have J:=j.le;have P:=j.wf;refine zW (aB hl f g) ?_;refine AnsH.use (Cp C zF (hg.mono (zG q)) ?_ hn (fun x hx=>⟨(ri zO a x hx).1,A x hx⟩) D) ?_
 ·have hT:=Lin.gens_told (d:=n+1) (Lin.eqs_len (l:=l) fun c hc=>(a c hc).1) (Lin.ineqs_len (l:=l) fun c hc=>(a c hc).1);have h1:=hT.dd.count3 (Lin.ineqs_len (l:=l) fun c hc=>(a c hc).1);have h2:=ech_len hT.form;have h3:(Lin.ineqsOf n l).length^n<1099000000000:=KS (VB (uV l) zO) hn;simp only [Xx] at h1;unfold Lin.gensP;split
  ·rw [VC,Vp,Vp]; omega
  ·simp
 rintro v2 h ⟨i,w⟩;have y:Kp H h:=j.trans (Kp.trans zK w);have K:=y.le;have G:=y.wf;have d0:=w.get (u.get (t.get (b:=H.next) (e:=.cells [.int .i64 0,.nilSl,.nilSl] ai true) (da)));have L:=G _ _ d0;rcases i with ⟨rfl,i⟩ | ⟨p,rfl,⟨k,o,rfl,hc,r⟩,h1,h2⟩
 ·refine zW (cp hl f g d0 @oD) ?_;exact ⟨.inl ⟨rfl,i⟩,zK⟩
 ·have M:=hc.one;have N:=r.one;have e1:FK 0 (.tup [.agg [.int .i64 (n:Int),k,o],.int .i64 0])=some (.agg [.int .i64 (n:Int),k,o]):=rfl;refine zW (cp hl f g d0 @oD) ?_;refine ⟨.inr ⟨_,rfl,⟨k,o,rfl,?_,?_⟩,h1,h2⟩,zK⟩
  ·have m3:NoTy (t_api_Con :: conE.tys) h H.next:=NoTy.ty d0 zU
   exact SlV.monoT (E:=conE) zS hc
  ·have m3:NoTy (ah :: genE.tys) h H.next:=NoTy.ty d0 zU
   exact SlV.monoT (E:=genE) zS r
def Ft {n k m:Nat} (h:n<2^m) (hm:m<=64*k):(ag n).length<=k:=bo (by
 have e:B^k=2^(64*k):=by
  have:B=2^64:=by decide
  rw [this,<- YC]
 rw [e];exact VF h (VW zU hm))
def JP (H:Heap) (v:AV) (n:Nat) (g:List (Nat × List Int)):Prop :=
 (v=.tup [wG,.int .i64 4]/\1024<=(Lin.consP n g).length)\/qc H v n (Lin.gensP n (Lin.consP n g))
def vu (C:Code tab) (hw:Wf H) {n m m2 m3:Nat} {g:List (Nat × List Int)} (hs:SlV genE ah H s g) (hn:n<=4) (R:g.length<=60) (K:Lin.ValidG n g) (Q:∀ x∈g,x.1=1\/x.1=2\/x.1=3) (r:∀ c∈g,Lin.Bd (2^m) c.2) (hm:m<=300000) (M:∀ c∈Lin.consP n g,Lin.Bd (2^m2) c.1) (S:m2<=300000) (N:∀ x∈Lin.gensP n (Lin.consP n g),Lin.Bd (2^m3) x.2) (U:m3<=300000)
  (aa:(Lin.consP n g).length<=1022\/1024<=(Lin.consP n g).length) :
  Ans tab (.fn qZ [.int .i64 (n:Int),s]) H fun v H'=>JP H' v n g/\Kp H H':=by
 have t:∀ c∈g,c.2.length=n+1/\Lin.Bd (2^m) c.2:=fun c hc=>⟨(K c hc).1,r c hc⟩
 have P:∀ c∈g.map fun c=>(c.1,c.2.map eO),∀ z∈c.2,Lim z.2/\z.2.length<=1048576:=fun c hc z u=>by
  obtain ⟨x,hx,rfl⟩:=Vl.1 hc;obtain ⟨y,hy,rfl⟩:=Vl.1 u;have hb:=ft (r x hx) y hy;exact ⟨bF _,Ft (n:=y.natAbs) (k:=1048576) (m:=m+1) hb zO⟩
 refine bC C.q24 zU fun T hl a f=>?_;refine zW (aB hl a f) ?_;refine AnsH.eq (xh C zF ((FE hs).mono (zG H)) (QN (n:=n) zO fun c hc=>⟨(t c hc).1,fun z u=>(ft (r c hc) z u).sm zO⟩) P (by rw [Vp]; omega)) fun H2 F=>?_;rw [F6 zO R K Q];obtain ⟨k2,_,w2⟩:=zT H zK F;refine zW (aB hl a f) ?_;refine AnsH.use (Cr C zF ((hs.mono k2.sub).mono (zG H2)) hn zO (KS zO hn) t zO) ?_;rintro v i ⟨o,G⟩;obtain ⟨k23,_,_⟩:=zT H2 zK G;have w:Kp H i:=k2.trans k23;have ab:=w.le;have Y:=w.wf;have d3:=G.get (F.get (b:=H.next) (e:=.cells [.int .i64 0,.nilSl,.nilSl] ai true) (da));have ag:=Y _ _ d3;by_cases q1:(1024:Int)<=((Lin.consP n g).length:Int)
 ·refine zW (gS hl a f o.lenV q1 d3 @oD) ?_;exact ⟨.inl ⟨rfl,zO⟩,zK⟩
 have h:∀ c∈Lin.consP n g,c.1.length=n+1/\Lin.Bd (2^m2) c.1:=fun c hc=>⟨(FW zO t c hc).1,M c hc⟩
 refine zW (aV hl o.lenV q1 a) ?_;refine AnsH.use (xT C zF (o.mono (zG i)) hn zO (KS zO hn) h S) ?_;rintro v4 B ⟨O,I⟩;obtain ⟨V,_,_⟩:=zT i zK I;have A:Kp H B:=w.trans V;have ad:=A.le;have w4:=A.wf;refine zW (aA hl a) ?_;refine AnsH.use (Cp C zF (O.mono (zG B)) ?_ hn (fun x hx=>⟨(ri zO h x hx).1,N x hx⟩) U) ?_
 ·have hT:=Lin.gens_told (d:=n+1) (Lin.eqs_len (l:=Lin.consP n g) fun c hc=>(h c hc).1) (Lin.ineqs_len (l:=Lin.consP n g) fun c hc=>(h c hc).1);have h1:=hT.dd.count3 (Lin.ineqs_len (l:=Lin.consP n g) fun c hc=>(h c hc).1);have h2:=ech_len hT.form;have h3:(Lin.ineqsOf n (Lin.consP n g)).length^n<1099000000000:=KS (VB (uV _) zO) hn;simp only [Xx] at h1;unfold Lin.gensP;split
  ·rw [VC,Vp,Vp]; omega
  ·simp
 rintro v5 j ⟨q,J⟩;have L:Kp H j:=A.trans (Kp.trans zK J);have ae:=L.le;have Z:=L.wf;have d0:=J.get (I.get d3);have af:=Z _ _ d0;rcases q with ⟨rfl,q⟩ | ⟨p,rfl,⟨W,X,rfl,hc,D⟩,h1,h2⟩
 ·refine zW (cp hl a f d0 @oD) ?_;exact ⟨.inr (.inl ⟨rfl,q⟩),zK⟩
 ·have oc:=hc.one;have og:=D.one;refine zW (cp hl a f d0 @oD) ?_;refine ⟨.inr (.inr ⟨_,rfl,⟨W,X,rfl,?_,?_⟩,h1,h2⟩),zK⟩
  ·have m3:NoTy (t_api_Con :: conE.tys) j H.next:=NoTy.ty d0 zU
   exact SlV.monoT (E:=conE) zS hc
  ·have m3:NoTy (ah :: genE.tys) j H.next:=NoTy.ty d0 zU
   exact SlV.monoT (E:=genE) zS D
end
section
variable {tab:Nat->Option au} {base i k:Nat} {T0:Tm} {dst:Option Nat} {op:AOp} {us:List (Nat × Option Nat)} {adds:List Nat} {r:List (Nat × List Nat)} {ds:List jv} {Vs:List AV} {Cs:List Heap} {Es:List (Option Ent)} {Q:DS->Prop} {t:Nat} {w:Bool}
end
section
variable {tab:Nat->Option au} {H:Heap} {s:AV}
def zQ (C:Code tab) (X:Wf H) {a b:AV} {l m:List (List Int × Bool)} (ha:SlV conE t_api_Con H a l) (hb:SlV conE t_api_Con H b m) (V:l.length<1099511627776) (J:∀ r∈l,r.1.length<1099511627776/\∀ z∈r.1,eR z) :
  Ans tab (.fn d9 [a,b]) H fun v H'=>v=.bool (decide (l=m))/\Kp H H':=by
 refine bC C.q47 zU fun T hl j n=>?_;by_cases he:l.length=m.length
 ·have lb:lenV b=some (.int .i64 (l.length:Int)):=by rw [hb.lenV,he]
  refine zW (cp hl j n ha.lenV lb) ?_;refine cu H [5] (fun k vs H'=>∃ i:Nat,vs=[.int .i64 (i:Int)]/\i+k=l.length/\∀ q (h:q<l.length) (h':q<m.length),q<i->l[q]=m[q]) l.length (by simp only [Vg]; exact hl) rfl zK ⟨0,by refine zW (aB hl j n) ?_; rfl,zO,fun q _ _ h=>by omega⟩ ?_;rintro k T1 c f I o ⟨i,d,U,F⟩;have w1:=o.wf;have Y:=o.le;simp only [Vq,Vw,Vv,and_true] at d;have t0:aa T1 0=a:=(I.at_ 0 zU).trans (zV (aA hl j));have t1:aa T1 1=b:=(I.at_ 1 zU).trans (zV (aV hl j n n));by_cases hi:i<l.length
  ·have D:(i:Int)<(l.length:Int):=zO;have G:i<m.length:=zO;obtain ⟨cs,⟨w,rfl,hr⟩,-,h2,-⟩:=(ha.mono o.sub).at (Vk hi);obtain ⟨S,⟨w',rfl,Q⟩,-,E,-⟩:=(hb.mono o.sub).at (Vk G);have s:aW c none (aq a (i*2))=some w:=h2 0 _ rfl;have l1:aW c none (aq a (i*2+1))=some (.bool l[i].2):=h2 1 _ rfl;have t:aW c none (aq b (i*2))=some w':=E 0 _ rfl;have u:aW c none (aq b (i*2+1))=some (.bool m[i].2):=E 1 _ rfl;have A:cL 2 a (.int .i64 (i:Int))=some (aq a (i*2)):=SlV.idx ha .i64 i hi;have B:cL 2 b (.int .i64 (i:Int))=some (aq b (i*2)):=SlV.idx hb .i64 i G;have f0:AD 0 (aq a (i*2))=some (aq a (i*2)):=ha.fa zO 0 (i*2);have f1:AD 1 (aq a (i*2))=some (aq a (i*2+1)):=ha.fa zO 1 (i*2);have x:AD 0 (aq b (i*2))=some (aq b (i*2)):=hb.fa zO 0 (i*2);have y:AD 1 (aq b (i*2))=some (aq b (i*2+1)):=hb.fa zO 1 (i*2);have e:IntKind.i64.wrap ((i:Int)+1)=((i+1:Nat):Int):=by rw [wrap_i64] <;> omega
   refine zW (gS f d t0 t1 ha.lenV D hi) ?_;by_cases hx:l[i].2=m[i].2
   ·skip
    refine aM ?_;refine zX (ST f d t0 t1 A B s l1 t u f0 f1 x y hx (beq_self_eq_true (α:=Bool))) ?_;refine AnsH.eq (zR C zF (hr.mono (zG c)) (Q.mono (zG c)) (J _ (Vm hi)).1 (J _ (Vm hi)).2) fun H2 P=>?_;obtain ⟨p,_,_⟩:=zT c zK P;have k2:Kp H H2:=Kp.trans o p;have Z:=k2.le;have K:=bU p.sub s;have M:=bU p.sub l1;have L:=bU p.sub t;have N:=bU p.sub u;cases g:decide (l[i].1=m[i].1) with
    | true =>
     have g:=of_decide_eq_true g;refine zX (SR f d t0 t1 A B s l1 t u K M L N f0 f1 x y hx e (beq_self_eq_true (α:=Bool))) ?_;refine ⟨zK,k-1,zO,i+1,rfl,zO,fun q h h' W=>?_⟩;by_cases eq:q=i
     ·subst eq; exact Prod.ext g hx
     ·exact F q h h' zO
    | false =>
     have g:=of_decide_eq_false g;refine zX (SR f d t0 t1 A B s l1 t u K M L N f0 f1 x y hx e (beq_self_eq_true (α:=Bool))) ?_;refine ⟨?_,zK⟩;rw [decide_eq_false];intro e; subst e; exact g rfl
   ·have R:(l[i].2 == m[i].2)=false:=by simpa using hx
    refine aM ?_;refine zX (GB f d t0 t1 A B s l1 t u f0 f1 x y hx R (beq_self_eq_true (α:=Bool))) ?_;refine ⟨?_,zK⟩;rw [decide_eq_false];intro e; subst e; exact hx rfl
  ·have D:¬ (i:Int)<(l.length:Int):=zO;refine zW (gS f d t0 t1 ha.lenV D hi) ?_;refine ⟨?_,zK⟩;rw [decide_eq_true (iP he fun q h h'=>F q h h' zO)]
 ·have O:¬ (l.length:Int)=(m.length:Int):=zO;refine zW (gS hl j n ha.lenV hb.lenV O he) ?_;refine ⟨?_,zK⟩;rw [decide_eq_false];intro e; subst e; exact he rfl
def zP (C:Code tab) (Y:Wf H) {a b:AV} {l m:List (Nat × List Int)} (ha:SlV genE ah H a l) (hb:SlV genE ah H b m) (W:l.length<1099511627776) (K:∀ r∈l,r.2.length<1099511627776/\∀ z∈r.2,eR z) :
  Ans tab (.fn dZ [a,b]) H fun v H'=>v=.bool (decide (l=m))/\Kp H H':=by
 refine bC C.q48 zU fun T hl n o=>?_;by_cases he:l.length=m.length
 ·have lb:lenV b=some (.int .i64 (l.length:Int)):=by rw [hb.lenV,he]
  refine zW (cp hl n o ha.lenV lb) ?_;refine cu H [5] (fun k vs H'=>∃ i:Nat,vs=[.int .i64 (i:Int)]/\i+k=l.length/\∀ q (h:q<l.length) (h':q<m.length),q<i->l[q]=m[q]) l.length (by simp only [Vg]; exact hl) rfl zK ⟨0,by refine zW (aB hl n o) ?_; rfl,zO,fun q _ _ h=>by omega⟩ ?_;rintro k T1 c f J p ⟨i,d,V,G⟩;have w1:=p.wf;have Z:=p.le;simp only [Vq,Vw,Vv,and_true] at d;have t0:aa T1 0=a:=(J.at_ 0 zU).trans (zV (aA hl n));have t1:aa T1 1=b:=(J.at_ 1 zU).trans (zV (aV hl n o o));by_cases hi:i<l.length
  ·have E:(i:Int)<(l.length:Int):=zO;have I:i<m.length:=zO;obtain ⟨cs,⟨w,rfl,hr⟩,-,h2,-⟩:=(ha.mono p.sub).at (Vk hi);obtain ⟨U,⟨w',rfl,R⟩,-,F,-⟩:=(hb.mono p.sub).at (Vk I);have t:aW c none (aq a (i*2))=some (.int .u8 (l[i].1:Int)):=h2 0 _ rfl;have l1:aW c none (aq a (i*2+1))=some w:=h2 1 _ rfl;have u:aW c none (aq b (i*2))=some (.int .u8 (m[i].1:Int)):=F 0 _ rfl;have x:aW c none (aq b (i*2+1))=some w':=F 1 _ rfl;have B:cL 2 a (.int .i64 (i:Int))=some (aq a (i*2)):=SlV.idx ha .i64 i hi;have D:cL 2 b (.int .i64 (i:Int))=some (aq b (i*2)):=SlV.idx hb .i64 i I;have f0:AD 0 (aq a (i*2))=some (aq a (i*2)):=ha.fa zO 0 (i*2);have f1:AD 1 (aq a (i*2))=some (aq a (i*2+1)):=ha.fa zO 1 (i*2);have y:AD 0 (aq b (i*2))=some (aq b (i*2)):=hb.fa zO 0 (i*2);have A:AD 1 (aq b (i*2))=some (aq b (i*2+1)):=hb.fa zO 1 (i*2);have e:IntKind.i64.wrap ((i:Int)+1)=((i+1:Nat):Int):=by rw [wrap_i64] <;> omega
   refine zW (gS f d t0 t1 ha.lenV E hi) ?_;by_cases hx:l[i].1=m[i].1
   ·have j:(l[i].1:Int)=(m[i].1:Int):=zO;refine aM ?_;refine zX (GB f d t0 t1 B D t l1 u x f0 f1 y A hx j (beq_self_eq_true (α:=Bool))) ?_;refine AnsH.eq (zR C zF (hr.mono (zG c)) (R.mono (zG c)) (K _ (Vm hi)).1 (K _ (Vm hi)).2) fun H2 Q=>?_;obtain ⟨s,_,_⟩:=zT c zK Q;have k2:Kp H H2:=Kp.trans p s;have ab:=k2.le;have L:=bU s.sub t;have N:=bU s.sub l1;have M:=bU s.sub u;have O:=bU s.sub x;cases g:decide (l[i].2=m[i].2) with
    | true =>
     have g:=of_decide_eq_true g;refine zX (Pk f d t0 t1 B D t l1 u x L N M O f0 f1 y A hx j e (beq_self_eq_true (α:=Bool))) ?_;refine ⟨zK,k-1,zO,i+1,rfl,zO,fun q h h' X=>?_⟩;by_cases eq:q=i
     ·subst eq; exact Prod.ext hx g
     ·exact G q h h' zO
    | false =>
     have g:=of_decide_eq_false g;refine zX (Pk f d t0 t1 B D t l1 u x L N M O f0 f1 y A hx j e (beq_self_eq_true (α:=Bool))) ?_;refine ⟨?_,zK⟩;rw [decide_eq_false];intro e; subst e; exact g rfl
   ·have j:¬ (l[i].1:Int)=(m[i].1:Int):=zO;have S:=j;refine aM ?_;refine zX (JV f d t0 t1 B D t l1 u x f0 f1 y A hx j S (beq_self_eq_true (α:=Bool))) ?_;refine ⟨?_,zK⟩;rw [decide_eq_false];intro e; subst e; exact hx rfl
  ·have E:¬ (i:Int)<(l.length:Int):=zO;refine zW (gS f d t0 t1 ha.lenV E hi) ?_;refine ⟨?_,zK⟩;rw [decide_eq_true (iP he fun q h h'=>G q h h' zO)]
 ·have P:¬ (l.length:Int)=(m.length:Int):=zO;refine zW (gS hl n o ha.lenV hb.lenV P he) ?_;refine ⟨?_,zK⟩;rw [decide_eq_false];intro e; subst e; exact he rfl
def fg (n:Nat) (l:List vY):Bool:=decide (n<l.length) || l.any fun c=>je 5 1 c.1
def kM (C:Code tab) (F:Wf H) {a:AV} {ls:List vY} {n:Nat} (ha:SlV conQE t_api_Con H a ls) (hn:n<4611686018427387904) :
  Ans tab (.fn dL [a,.int .i64 (n:Int)]) H fun v H'=>v=.bool (fg n ls)/\Kp H H':=by
 refine bC C.q12 zU fun T hl b m=>?_;by_cases he:n<ls.length
 ·have o:(n:Int)<(ls.length:Int):=zO;refine zW (eF hl b m ha.lenV o he) ?_;exact ⟨by unfold fg; rw [decide_eq_true he]; rfl,zK⟩
 ·have o:¬ (n:Int)<(ls.length:Int):=zO;refine zW (eF hl b m ha.lenV o he) ?_;refine cu H [5] (fun k vs H'=>∃ i:Nat,vs=[.int .i64 (i:Int)]/\i+k=ls.length/\∀ q (h:q<ls.length),q<i->je 5 1 (ls[q]).1=false) ls.length (by simp only [Vg]; exact hl) rfl zK ⟨0,by refine zW (aB hl b m) ?_; rfl,zO,fun q _ h=>by omega⟩ ?_;rintro k T1 l f y d ⟨i,j,D,r⟩;have w1:=d.wf;have G:=d.le;simp only [Vq,Vw,Vv,and_true] at j;have t0:aa T1 0=a:=(y.at_ 0 zU).trans (zV (aA hl b));by_cases hi:i<ls.length
  ·have p:(i:Int)<(ls.length:Int):=zO;obtain ⟨cs,⟨w,rfl,hr⟩,-,h2,-⟩:=(ha.mono d.sub).at (Vk hi);have x:aW l none (aq a (i*2))=some w:=h2 0 _ rfl;have t:cL 2 a (.int .i64 (i:Int))=some (aq a (i*2)):=SlV.idx ha .i64 i hi;have s:AD 0 (aq a (i*2))=some (aq a (i*2)):=ha.fa zO 0 (i*2);have e:IntKind.i64.wrap ((i:Int)+1)=((i+1:Nat):Int):=by rw [wrap_i64] <;> omega
   refine zW (lh f j t0 ha.lenV p hi t s x) ?_;refine AnsH.eq (xL C (many:=5) (lim:=1) zF (hr.mono (zG l)) zO) fun H2 u=>?_;obtain ⟨B,_,_⟩:=zT l zK u;have k2:Kp H H2:=Kp.trans d B;have I:=k2.le;cases g:je 5 1 (ls[i]).1 with
   | true =>
    refine zW f ?_;refine ⟨?_,zK⟩;unfold fg;rw [VY.2 ⟨_,Vm hi,g⟩,Zr]
   | false =>
    refine zW (aB f j e) ?_;refine ⟨zK,k-1,zO,i+1,rfl,zO,fun q h E=>?_⟩;by_cases eq:q=i
    ·subst eq; exact g
    ·exact r q h zO
  ·have p:¬ (i:Int)<(ls.length:Int):=zO;refine zW (eF f j t0 ha.lenV p hi) ?_;refine ⟨?_,zK⟩;have e:(ls.any fun c=>je 5 1 c.1)=false:=by
    rw [WU];intro z A;obtain ⟨q,g,rfl⟩:=WF A;rw [r q g zO]; simp
   unfold fg;rw [decide_eq_false he,Zc,e]
def mJ (n:Nat) (l:List Gu):Bool:=decide (n<l.length) || l.any fun c=>je 5 1 c.2
def yE (C:Code tab) (F:Wf H) {a:AV} {ls:List Gu} {n:Nat} (ha:SlV genQE ah H a ls) (hn:n<4611686018427387904) :
  Ans tab (.fn dK [a,.int .i64 (n:Int)]) H fun v H'=>v=.bool (mJ n ls)/\Kp H H':=by
 refine bC C.q58 zU fun T hl b m=>?_;by_cases he:n<ls.length
 ·have o:(n:Int)<(ls.length:Int):=zO;refine zW (eF hl b m ha.lenV o he) ?_;exact ⟨by unfold mJ; rw [decide_eq_true he]; rfl,zK⟩
 ·have o:¬ (n:Int)<(ls.length:Int):=zO;refine zW (eF hl b m ha.lenV o he) ?_;refine cu H [5] (fun k vs H'=>∃ i:Nat,vs=[.int .i64 (i:Int)]/\i+k=ls.length/\∀ q (h:q<ls.length),q<i->je 5 1 (ls[q]).2=false) ls.length (by simp only [Vg]; exact hl) rfl zK ⟨0,by refine zW (aB hl b m) ?_; rfl,zO,fun q _ h=>by omega⟩ ?_;rintro k T1 l f y d ⟨i,j,D,r⟩;have w1:=d.wf;have G:=d.le;simp only [Vq,Vw,Vv,and_true] at j;have t0:aa T1 0=a:=(y.at_ 0 zU).trans (zV (aA hl b));by_cases hi:i<ls.length
  ·have p:(i:Int)<(ls.length:Int):=zO;obtain ⟨cs,⟨w,rfl,hr⟩,-,h2,-⟩:=(ha.mono d.sub).at (Vk hi);have x:aW l none (aq a (i*2+1))=some w:=h2 1 _ rfl;have t:cL 2 a (.int .i64 (i:Int))=some (aq a (i*2)):=SlV.idx ha .i64 i hi;have s:AD 1 (aq a (i*2))=some (aq a (i*2+1)):=ha.fa zO 1 (i*2);have e:IntKind.i64.wrap ((i:Int)+1)=((i+1:Nat):Int):=by rw [wrap_i64] <;> omega
   refine zW (lh f j t0 ha.lenV p hi t s x) ?_;refine AnsH.eq (xL C (many:=5) (lim:=1) zF (hr.mono (zG l)) zO) fun H2 u=>?_;obtain ⟨B,_,_⟩:=zT l zK u;have k2:Kp H H2:=Kp.trans d B;have I:=k2.le;cases g:je 5 1 (ls[i]).2 with
   | true =>
    refine zW f ?_;refine ⟨?_,zK⟩;unfold mJ;rw [VY.2 ⟨_,Vm hi,g⟩,Zr]
   | false =>
    refine zW (aB f j e) ?_;refine ⟨zK,k-1,zO,i+1,rfl,zO,fun q h E=>?_⟩;by_cases eq:q=i
    ·subst eq; exact g
    ·exact r q h zO
  ·have p:¬ (i:Int)<(ls.length:Int):=zO;refine zW (eF f j t0 ha.lenV p hi) ?_;refine ⟨?_,zK⟩;have e:(ls.any fun c=>je 5 1 c.2)=false:=by
    rw [WU];intro z A;obtain ⟨q,g,rfl⟩:=WF A;rw [r q g zO]; simp
   unfold mJ;rw [decide_eq_false he,Zc,e]
end
def Ao {H:Heap} {b:Nat} {x y:Int} {r:Bool} (h:H.get b=some (.cells [.int .i64 x,.int .i64 y] gq r)):yY (HP .i64) gq H (.own b 0 2 2 1 true) [x,y] :=
 ⟨[_,_],Rd.own h rfl (Vo _),fun _ _ _ _ _ _ e=>by cases e; exact ⟨_,_,h⟩,rfl,fun i a hi=>by
  match i with
  | 0=>simp at hi; subst hi; exact ⟨_,rfl,rfl⟩
  | 1=>simp at hi; subst hi; exact ⟨_,rfl,rfl⟩
  | i+2=>simp at hi⟩
def Emp (H:Heap) (a e:Nat):Prop:=e<=H.next/\∀ c,a<=c->c<e->H.get c=none
def Emp.start {H:Heap} (a:Wf H) {k:Nat}:Emp (H.up k) H.next (H.next+k):=⟨Vo _,fun c h _=>a.fresh h⟩
def Emp.next {G H2:Heap} {a e p a':Nat} {x:Ent} (b:Emp G a e) (d:Kp (G.put p x) H2) (hp:p<a') (ha:a<=a'):Emp H2 a' e :=
 ⟨VB b.1 d.le,fun c h1 h2=>d.free (by rw [next_put]; exact VF h2 b.1) (by rw [al zO]; exact b.2 c zO h2)⟩
def Emp.keep {G H2:Heap} {a e:Nat} (b:Emp G a e) (d:Kp G H2):Emp H2 a e :=
 ⟨VB b.1 d.le,fun c h1 h2=>d.free (VF h2 b.1) (b.2 c h1 h2)⟩
def Emp.sub {G:Heap} {a e p:Nat} {x:Ent} (b:Emp G a e) (h1:a<=p) (h2:p<e):Sub G (G.put p x):=aX (b.2 p h1 h2)
section
variable {tab:Nat->Option au} {H:Heap} {s:AV}
end
end Go.Proofs.YtkmepoeklibegaaGreat.Ev
namespace Go.Proofs.YtkmepoeklibegaaGreat.Lin
def Ie:gensL 2 [] [[1,1]]=[[-1,1]]/\gensR 2 [] [[1,1]]=[[1,0]]:=by
 have r:(gensU 2 [] [[1,1]]).rays.map (restF (gensL 2 [] [[1,1]]))=[[1,0]]:=by decide +kernel
 refine ⟨by decide +kernel,?_⟩;unfold gensR; rw [r]; simp
end Go.Proofs.YtkmepoeklibegaaGreat.Lin
namespace Go.Proofs.YtkmepoeklibegaaGreat.Ev
open Go Nn
def Emp.put {G:Heap} {a e p a':Nat} {x:Ent} (b:Emp G a e) (hp:p<a') (ha:a<=a'):Emp (G.put p x) a' e :=
 ⟨b.1,fun c h1 h2=>by rw [al zO]; exact b.2 c zO h2⟩
section
variable {tab:Nat->Option au} {H:Heap} {s:AV}
end
end Go.Proofs.YtkmepoeklibegaaGreat.Ev
namespace Go.Proofs.YtkmepoeklibegaaGreat.Lin
end Go.Proofs.YtkmepoeklibegaaGreat.Lin
namespace Go.Proofs.YtkmepoeklibegaaGreat.Ev
open Go Nn
def TI {a b c:AV} (ha:One a) (hb:One b) (hc:One c):gR (.agg [a,b,c])=some [a,b,c]:=by
 simp [gR,AV.cells,ha.2,hb.2,hc.2]
def mX {b c:AV} (hb:One b) (hc:One c) (k:IntKind) (n:Int):gR (.agg [.int k n,b,c])=some [.int k n,b,c]:=TI (aT _ _) hb hc
section
variable {tab:Nat->Option au} {H:Heap} {s:AV}
def pJ (c:List (List Int × Bool)) (g:List (Nat × List Int)):Bool:=fg 9 (c.map fun c=>(c.1.map eO,c.2)) || mJ 9 (g.map fun c=>(c.1,c.2.map eO))
def E7 (C:Code tab) (p:Wf H) {v:AV} {n:Nat} {c:List (List Int × Bool)} {g:List (Nat × List Int)} (hp:PolyV H v n c g) :
  Ans tab (.fn fC [v]) H fun x H'=>x=.bool (pJ c g)/\Kp H H':=by
 obtain ⟨m,o,rfl,hc,hg⟩:=hp;have k:=hc.one;have l:=hg.one;refine dg C.q34 zU fun T hl a=>?_;refine zW (aB hl a (mX k l)) ?_;refine AnsH.eq (kM C (n:=9) zF ((AM hc).mono (zG H)) zO) fun H2 d=>?_;obtain ⟨k2,_,r⟩:=zT H zK d;have d0:=d.get (b:=H.next) (e:=.cells [.int .i64 (n:Int),m,o] ai true) (da);cases f:fg 9 (c.map fun c=>(c.1.map eO,c.2)) with
 | true =>
  refine zW (aA hl a) ?_;exact ⟨by unfold pJ; rw [f,Bool.true_or],zK⟩
 | false =>
  refine zW (aB hl a d0) ?_;refine AnsH.eq (yE C (n:=9) zF ((FE (hg.mono k2.sub)).mono (zG H2)) zO) fun h i=>?_;have j:Kp H h:=k2.trans (Kp.trans zK i);have q:=j.le;refine zW (aA hl a) ?_;exact ⟨by unfold pJ; rw [f,Zc],zK⟩
def He (C:Code tab) (K:Wf H) {v q:AV} {n n':Nat} {c h:List (List Int × Bool)} {g g':List (Nat × List Int)} (hp:PolyV H v n c g) (D:PolyV H q n' h g') (t:c.length<1099511627776) (u:∀ r∈c,r.1.length<1099511627776/\∀ z∈r.1,eR z) (w:g.length<1099511627776) (y:∀ r∈g,r.2.length<1099511627776/\∀ z∈r.2,eR z) :
  Ans tab (.fn fW [v,q]) H fun x H'=>x=.bool (decide (n=n'/\c=h/\g=g'))/\Kp H H':=by
 obtain ⟨F,I,rfl,hc,hg⟩:=hp;obtain ⟨G,J,rfl,j,k⟩:=D;have l:=hc.one;have o:=hg.one;have m:=j.one;have p:=k.one;refine bC C.q25 zU fun T hl a d=>?_;by_cases hn:n=n'
 ·subst hn;refine zW (cp hl a d (mX l o) (mX m p)) ?_;refine AnsH.eq (zQ C zF (hc.mono (zG H)) (j.mono (zG H)) t u) fun H2 i=>?_;obtain ⟨k2,_,M⟩:=zT H zK i;have d0:=i.get (b:=H.next) (e:=.cells [.int .i64 (n:Int),F,I] ai true) (da);have d1:=i.get (b:=H.next+1) (e:=.cells [.int .i64 (n:Int),G,J] ai true) (da);by_cases f:c=h
  ·rw [decide_eq_true f];refine zW (cp hl a d d0 d1) ?_;refine AnsH.eq (zP C zF ((hg.mono k2.sub).mono (zG H2)) ((k.mono k2.sub).mono (zG H2)) w y) fun s A=>?_;have E:Kp H s:=k2.trans (Kp.trans zK A);have L:=E.le;refine zW (aB hl a d) ?_;exact ⟨by simp [f],zK⟩
  ·rw [decide_eq_false f];refine zW (aB hl a d) ?_;exact ⟨by simp [f],zK⟩
 ·have B:¬ (n:Int)=(n':Int):=zO;refine zW (eF hl a d (mX l o) (mX m p) B) ?_;exact ⟨by simp [hn],zK⟩
def Tl {H:Heap} {b:Nat} {v:AV} {x:List Int} {p r:Bool} (h:H.get b=some (.cells [v,.bool p] t_api_Con r)) (a:RowV H v x):SlV conE t_api_Con H (.own b 0 1 1 2 true) [(x,p)] :=
 ⟨[_,_],Rd.own h rfl (Vo _),fun _ _ _ _ _ _ e=>by cases e; exact ⟨_,_,h⟩,Cells.one (E:=conE) ⟨v,rfl,a⟩⟩
def Tk {H:Heap} {b:Nat} {v w:AV} {x y:List Int} {p q r:Bool} (h:H.get b=some (.cells [v,.bool p,w,.bool q] t_api_Con r)) (a:RowV H v x) (c:RowV H w y):SlV conE t_api_Con H (.own b 0 2 2 2 true) [(x,p),(y,q)] :=
 ⟨[_,_,_,_],Rd.own h rfl (Vo _),fun _ _ _ _ _ _ e=>by cases e; exact ⟨_,_,h⟩,(Cells.one (E:=conE) ⟨v,rfl,a⟩).append (Cells.one (E:=conE) ⟨w,rfl,c⟩)⟩
def uW {many lim:Nat} {r:List (Bool × List Nat)} (h:je many lim r=false):r.length<=many/\∀ z∈r,z.2.length<=lim:=by
 unfold je at h;rw [XT,decide_eq_false_iff_not,WU] at h;refine ⟨zO,fun z a=>?_⟩
 have:=h.2 z a
 simp only [decide_eq_true_eq] at this;omega
def jf {n:Nat} {l:List vY} (h:fg n l=false):l.length<=n/\∀ c∈l,c.1.length<=5/\∀ z∈c.1,z.2.length<=1:=by
 unfold fg at h;rw [XT,decide_eq_false_iff_not,WU] at h;exact ⟨zO,fun c hc=>uW (by simpa using h.2 c hc)⟩
def Az {n:Nat} {l:List Gu} (h:mJ n l=false):l.length<=n/\∀ c∈l,c.2.length<=5/\∀ z∈c.2,z.2.length<=1:=by
 unfold mJ at h;rw [XT,decide_eq_false_iff_not,WU] at h;exact ⟨zO,fun c hc=>uW (by simpa using h.2 c hc)⟩
def HY {n:Nat} {l:List vY} (h:fg n l=false):∀ c∈l,xx c.1:=fun c hc=>by
 obtain ⟨h1,h2⟩:=(jf h).2 c hc;exact ⟨zO,fun z a=>by have:=h2 z a; omega⟩
abbrev Q8 (c:vY):List Int × Bool:=(c.1.map fK,c.2)
def R6 {r:List (Bool × List Nat)} (hl:∀ z∈r,Lim z.2/\z.2.length<=1):Lin.Bd (2^64) (r.map fK):=fun i=>by
 unfold Lin.at_;rw [Vh];cases hi:(r.map fK)[i]? with
 | none=>simp
 | some z =>
  obtain ⟨x,hx,rfl⟩:=Vl.1 (VD hi)
  have:=MQ (n:=1) (hl x hx).1 (hl x hx).2
  unfold Bt at this;simp only [WT] at this;simp only [WX];omega
def Qa {r:List (Bool × List Nat)} (h:Bv r=true):∀ z∈r,rJ z=false:=by
 simp only [Bv,VU,Wy,WU,XA] at h;exact h.2
def LJ {d:Int} {n:Nat} {l:List vY} (hs:SlV conQE t_api_Con H s l) (gl:∀ r∈l,jg r.1) (hg:fg n l=false) (e:¬ 4<d) (hn:n<=60) :
  dl d l≠0\/∃ k:Nat,d=(k:Int)/\k<=4/\SlV conE t_api_Con H s (l.map Q8)/\l.length<=n/\∀ c∈l.map Q8,c.1.length=k+1/\Lin.Bd (2^64) c.1:=by
 by_cases hc:dl d l=0
 ·refine .inr ?_;obtain ⟨h1,h2⟩:=jf hg;unfold dl at hc;split at hc
  ·omega
  split at hc
  ·omega
  split at hc
  ·omega
  split at hc
  ·omega
  rename_i q1 q2 q3 q4;have q3:∀ c∈l,Bv c.1=true:=fun c hc=>by
   cases b:Bv c.1 with
   | true=>rfl
   | false=>exact absurd (VY.2 ⟨c,hc,by rw [b]; rfl⟩) q3
  have q4:∀ c∈l,(c.1.length:Int)=d+1:=fun c hc=>by
   apply VI
   intro hn;exact q4 (VY.2 ⟨c,hc,by simpa using hn⟩)
  refine ⟨d.toNat,zO,zO,OC hs fun r hr z a=>⟨Qa (q3 r hr) z a,((gl r hr).1 z a).1⟩,h1,fun c hc=>?_⟩;obtain ⟨x,hx,rfl⟩:=Vl.1 hc;refine ⟨?_,R6 fun z a=>⟨((gl x hx).1 z a).1,(h2 x hx).2 z a⟩⟩
  have:=q4 x hx
  show (x.1.map fK).length=_;rw [Vp];omega
 ·exact .inl hc
end
end Go.Proofs.YtkmepoeklibegaaGreat.Ev
namespace Go.Proofs.YtkmepoeklibegaaGreat.Lin
def DP {α:Type} {P:α->V->Prop}:∀ (l:List α) (I:List V),l.Nodup->(∀ b∈l,∃ i∈I,P b i)->(∀ b∈l,∀ b'∈l,∀ i,P b i->P b' i->b=b')->l.length<=I.length
 | [],I,_,_,_=>by simp
 | b :: l,I,hn,h,hj=>by
  obtain ⟨i,hi,hp⟩:=h b (Vt ..);obtain ⟨d,j⟩:=XX.1 hn;have h1:=DP l (I.erase i) j (fun b' a=>by
   obtain ⟨g,f,c⟩:=h b' (Vn _ a);refine ⟨g,(Zh fun e=>?_).2 f,c⟩;rw [e] at c
   have:=hj b (Vt ..) b' (Vn _ a) i hp c
   rw [this] at d;exact d a) fun x hx y hy=>hj x (Vn _ hx) y (Vn _ hy)
  rw [YN hi] at h1
  have:=Y1 hi
  rw [VX];omega
def Ju {d:Nat} {E I L R A B:List V} (K:∀ a∈E,a.length=d) (o:∀ a∈I,a.length=d) (h:DD d (· ∈ E) (· ∈ I) (· ∈ L) R) (h':DD d (· ∈ L) (· ∈ R) (· ∈ A) B) {b:V} (hb:b∈B) :
  ∃ i∈I,∀ s∈R,dot s i=0 ↔ dot s b=0:=by
 have m:=h'.keep b hb;have J:∀ i∈I,Keep d (· ∈ L) (· ∈ R) i:=fun i hi=>⟨o i hi,fun l hl=>by rw [dot_comm]; exact h.lineI l hl i hi,fun r hr=>by rw [dot_comm]; exact (h.keep r hr).ge i hi⟩
 obtain ⟨z,g,Q⟩:=h'.off b hb;have P:=m.ge z g;have G:∃ i∈I,(∀ s∈R,dot s b=0->dot s i=0)/\∃ s∈R,dot s i≠0:=by
  apply VI
  intro C;obtain ⟨act,p⟩:∃ act,act=R.filter fun a=>decide (dot a b=0):=⟨_,rfl⟩
  have ha:∀ a∈act,a∈R/\dot a b=0:=fun a h=>by rw [p,Vx] at h; exact ⟨h.1,of_decide_eq_true h.2⟩
  have f:∀ a∈act,a.length=d:=fun a h1=>h.lenR a (ha a h1).1;obtain ⟨N,v,u⟩:=tz (fun s=>dot z s) I;have q:=qv f;have n:(wt d act).length=z.length:=q.trans (h.lenR z g).symm;have hy:Keep d (· ∈ E) (· ∈ I) (mix N (wt d act) (-1) z):=by
   refine ⟨mix_length q (h.lenR z g),fun e he=>?_,fun i hi=>?_⟩
   ·rw [aJ _ _ _ n,lO f fun a h1=>(h.keep a (ha a h1).1).eq e he,(h.keep z g).eq e he]
    simp
   ·rw [aJ _ _ _ n];by_cases hs:∃ s∈R,dot s i≠0
    ·have hp:∃ s∈R,dot s b=0/\dot s i≠0:=by
      apply VI
      intro hn;exact C ⟨i,hi,fun s hs h0=>VI fun h1=>hn ⟨s,hs,h0,h1⟩,hs⟩
     obtain ⟨s,hs,h0,h1⟩:=hp;have D:=(qq (x:=i) f fun a h1=>(h.keep a (ha a h1).1).ge i hi).2 ⟨s,by rw [p,Vx]; exact ⟨hs,by simpa using h0⟩,by rw [dot_comm]; exact h1⟩;have M:=u i hi;rw [dot_comm i z]
     have:=Yp D v
     omega
    ·have h0:∀ s∈R,dot s i=0:=fun s j=>VI fun h1=>hs ⟨s,j,h1⟩;rw [lO f fun a h1=>by rw [dot_comm]; exact h0 a (ha a h1).1,dot_comm i z,h0 z g]
     simp
  have h1:=(h.all _ hy).dot_nonneg (a:=b) h.lenL h.lenR (fun l hl=>by rw [dot_comm]; exact m.eq l hl) (fun r hr=>by rw [dot_comm]; exact m.ge r hr);rw [aJ _ _ _ n,lO f fun a h1=>by rw [dot_comm]; exact (ha a h1).2,dot_comm b z] at h1;omega
 obtain ⟨i,hi,hs,t,F,y⟩:=G;refine ⟨i,hi,fun s j=>⟨fun h0=>?_,hs s j⟩⟩;obtain ⟨k,c,O,hc,H⟩:=h'.ext b hb i (J i hi) hs;have key:∀ s∈R,k*dot s i=c*dot s b:=fun s hs=>by
  have:=Con.dot_zero (a:=s) h'.lenL (fun r h=>h.elim) (fun x hx=>h'.lineI x hx s hs) (fun r h=>h.elim) H
  rw [aJ _ _ _ ((o i hi).trans m.len.symm),X9] at this;omega
 have w:c≠0:=fun e=>by
  have:=key t F
  rw [e] at this;rcases VH.1 (show k*dot t i=0 by omega) with h1 | h1
  ·omega
  ·exact y h1
 have:=key s j
 rw [h0] at this;rcases VH.1 (show c*dot s b=0 by omega) with h1 | h1
 ·exact absurd h1 w
 ·exact h1
def Lx {d:Nat} {E I L R A B:List V} (e:∀ a∈E,a.length=d) (f:∀ a∈I,a.length=d) (h:DD d (· ∈ E) (· ∈ I) (· ∈ L) R) (h':yG d (· ∈ L) (· ∈ R) A B):B.length<=I.length:=by
 refine DP (P:=fun b i=>∀ s∈R,dot s i=0 ↔ dot s b=0) B I (told_nodup h') (fun b hb=>Ju e f h h'.dd hb) fun b hb b' g i h1 h2=>?_
 apply VI
 intro hne;obtain ⟨s,hs,h3,c⟩:=zk h' g hb hne;exact c ((h1 s hs).1 ((h2 s hs).2 h3))
section
variable {n:Nat} {l:List (V × Bool)}
def span_len {g:List (Nat × V)} (hg:ValidG n g):(gensP n (consP n g)).length<=g.length+n+1:=by
 by_cases h3:g.any (fun x=>x.1 == 3)=true
 ·have e1:∀ a∈linesOf g,a.length=n+1:=fun a ha=>(hg _ (mem_lines.1 ha)).1;have e2:∀ a∈raysOf g,a.length=n+1:=fun a ha=>by obtain ⟨k,-,h⟩:=mem_rays.1 ha; exact (hg _ h).1
  have t:=gens_told e1 e2;have hl:=kE (n:=n) (g:=g) fun x hx=>(hg x hx).1;have i:=gens_told (eqs_len hl) (ineqs_len hl);have t3:=gens_told t.dd.lenL t.dd.lenR;have d:∀ x,dm n (consP n g) x ↔ Keep (n+1) (· ∈ gensL (n+1) (linesOf g) (raysOf g)) (· ∈ gensR (n+1) (linesOf g) (raysOf g)) x:=fun x=>by
   rw [lZ h3];refine ⟨fun h=>h.2,fun h=>⟨?_,h⟩⟩;have hc:=(Cq e1 e2 t.dd t3.dd)
   have f:Keep (n+1) (· ∈ linesOf g) (· ∈ raysOf g) (unitC n 1):=by
    refine ⟨unitC_len n 1,fun a ha=>?_,fun b hb=>?_⟩
    ·rw [dot_comm,eI];obtain ⟨-,-,q⟩:=hg _ (mem_lines.1 ha)
     have:hd1 a=0:=q (show ¬ (1:Nat)=3 by omega)
     omega
    ·rw [dot_comm,eI];obtain ⟨k,-,hm⟩:=mem_rays.1 hb;obtain ⟨-,q1,q2⟩:=hg _ hm;by_cases c:k=3
     ·have:0<hd1 b:=q1 c
      omega
     ·have:hd1 b=0:=q2 c
      omega
   have:=(t.dd.all _ f).dot_nonneg (a:=x) t.dd.lenL t.dd.lenR (fun l hl=>by rw [dot_comm]; exact h.eq l hl) (fun r hr=>by rw [dot_comm]; exact h.ge r hr)
   rw [dot_comm,eI] at this;omega
  obtain ⟨q1,q2⟩:=qm i t3 d;have h1:=Lx e1 e2 t.dd t3;have h2:=Ev.ech_len t3.form;have j:(raysOf g).length<=g.length:=by
   unfold raysOf;rw [Vp];exact Wh _ _
  unfold gensP;split
  ·rw [q1,q2,VC,Vp,Vp];omega
  ·show 0<=_;omega
 ·have e:consP n g=[(unitC n (-1),false)]:=by unfold consP; rw [if_neg h3]
  rw [e,pk];show 0<=_;omega
end
end Go.Proofs.YtkmepoeklibegaaGreat.Lin
