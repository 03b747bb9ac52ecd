/- A part. -/
import Derived.Test.YteaefaohjlmjdaaGreatA0
import Derived.Test.YteaefaohjlmjdaaGreatN38
import Derived.Test.YteaefaohjlmjdaaGreatGens
import Derived.ChangeArms
import Derived.DataReads
set_option linter.all false
namespace Go.Proofs.YteaefaohjlmjdaaGreat.Ev
open Go Nn
def ju {α:Type} {l m:List α} (he:l.length=m.length) (h:∀ q (h:q<l.length) (h':q<m.length),l[q]=m[q]):l=m :=
 Xb he fun q h1 h2=>h q h1 h2
def iS (many ag:Nat) (r:List (Bool × List Nat)):Bool:=decide (many<r.length) || r.any fun z=>decide (ag<z.2.length)
section
variable {tab:Nat->Option az} {H:Heap} {s:AV}
def HX (C:Code tab) (J:Wf H) {a b:AV} {l m:List Nat} (ha:Lb H a l) (hb:Lb H b m) (G:l.length<4611686018427387904) :
  Ans tab (.fn gI [a,b]) H fun v H'=>v=.bool (decide (l=m))/\Kp H H':=by
 refine bk C.q120 zU fun T hl c d=>?_;by_cases he:l.length=m.length
 ·have D:lenV b=some (.int .i64 (l.length:Int)):=by rw [hb.lenV,he]
  refine zW (bO hl c d ha.lenV D) ?_;refine aP H [5] (fun k vs H'=>∃ i:Nat,vs=[.int .i64 (i:Int)]/\i+k=l.length/\∀ q (h:q<l.length) (h':q<m.length),q<i->l[q]=m[q]) l.length (by simp only [U4]; exact hl) rfl zK ⟨0,by refine zW (aE hl c d) ?_; rfl,zO,fun q _ _ h=>by omega⟩ ?_;rintro k T1 E j A g ⟨i,f,F,s⟩;have w1:=g.wf;have K:=g.le;simp only [Vb,Vf,Vd,and_true] at f;have t0:ad T1 0=a:=(A.at_ 0 zU).trans (zV (aw hl c));have t1:ad T1 1=b:=(A.at_ 1 zU).trans (zV (aW hl c d d));by_cases hi:i<l.length
  ·have n:(i:Int)<(l.length:Int):=zO;have t:i<m.length:=zO;obtain ⟨w,hr,y⟩:=SlV.at1 (ha.mono g.sub) (U7 hi);obtain ⟨w',r,z⟩:=SlV.at1 (hb.mono g.sub) (U7 t);have hr:w=.int .u64 ((l[i]:Nat):Int):=hr;have r:w'=.int .u64 ((m[i]:Nat):Int):=r;subst hr; subst r;have u:=SlV.idx1 ha .i64 i hi;have x:=SlV.idx1 hb .i64 i t;have e:IntKind.i64.wrap ((i:Int)+1)=((i+1:Nat):Int):=by rw [wrap_i64] <;> omega
   refine zW (fE j f t0 t1 ha.lenV n hi) ?_;refine aF ?_;by_cases o:l[i]=m[i]
   ·have p:((l[i]:Nat):Int)=((m[i]:Nat):Int):=zO;refine zD (np j f t0 t1 u y x z p e) ?_;refine ⟨zK,k-1,zO,i+1,rfl,zO,fun q h h' I=>?_⟩;by_cases eq:q=i
    ·subst eq; exact o
    ·exact s q h h' zO
   ·have p:¬ ((l[i]:Nat):Int)=((m[i]:Nat):Int):=zO;refine zD (lP j f t0 t1 u y x z p o e) ?_;refine ⟨?_,zK⟩;rw [decide_eq_false];intro e; subst e; exact o rfl
  ·have n:¬ (i:Int)<(l.length:Int):=zO;refine zW (fE j f t0 t1 ha.lenV n hi) ?_;refine ⟨?_,zK⟩;rw [decide_eq_true (ju he fun q h h'=>s q h h' zO)]
 ·have B:¬ (l.length:Int)=(m.length:Int):=zO;refine zW (fE hl c d ha.lenV hb.lenV B he) ?_;refine ⟨?_,zK⟩;rw [decide_eq_false];intro e; subst e; exact he rfl
def CN {x y:Nat} (h:ag x=ag y):x=y:=by
 have:=congrArg val h
 rwa [bB,bB] at this
def HW (C:Code tab) (i:Wf H) {a b:AV} {x y:Int} (ha:IntV H a x) (hb:IntV H b y) (hx:fq x) :
  Ans tab (.fn gF [a,b]) H fun v H'=>v=.bool (decide (x=y))/\Kp H H':=by
 obtain ⟨p,rfl,hp⟩:=ha;obtain ⟨q,rfl,f⟩:=hb;have op:=hp.one;have j:=f.one;unfold fq Sm at hx;refine bk C.q102 zU fun T hl c d=>?_;by_cases h:decide (x<0)=decide (y<0)
 ·have h':(decide (x<0) == decide (y<0))=true:=by rw [h]; simp
  refine zW (aW hl c d h') ?_;refine AnsH.eq (HX C zF (hp.mono (zG H)) (f.mono (zG H)) zO) fun H2 g=>?_;obtain ⟨k2,_,_⟩:=zT H zK g;refine zW (aE hl c d) ?_;refine ⟨?_,zK⟩;by_cases e:x=y
  ·rw [decide_eq_true e,decide_eq_true (by rw [e])]
  ·rw [decide_eq_false e,decide_eq_false];intro h2
   have:=CN h2
   have h3:(x<0) ↔ (y<0):=by simpa using h
   omega
 ·have h':(decide (x<0) == decide (y<0))=false:=by simpa using h
  refine zW (aW hl c d h') ?_;refine ⟨?_,zK⟩;rw [decide_eq_false];intro e; subst e; exact h rfl
def Av (C:Code tab) (N:Wf H) {a b:AV} {l m:List Int} (ha:RowV H a l) (hb:RowV H b m) (K:l.length<1099511627776) (F:∀ z∈l,fq z) :
  Ans tab (.fn gE [a,b]) H fun v H'=>v=.bool (decide (l=m))/\Kp H H':=by
 refine bk C.q72 zU fun T hl f g=>?_;by_cases he:l.length=m.length
 ·have I:lenV b=some (.int .i64 (l.length:Int)):=by rw [hb.lenV,he]
  refine zW (bO hl f g ha.lenV I) ?_;refine aP H [5] (fun k vs H'=>∃ i:Nat,vs=[.int .i64 (i:Int)]/\i+k=l.length/\∀ q (h:q<l.length) (h':q<m.length),q<i->l[q]=m[q]) l.length (by simp only [U4]; exact hl) rfl zK ⟨0,by refine zW (aE hl f g) ?_; rfl,zO,fun q _ _ h=>by omega⟩ ?_;rintro k T1 o n y j ⟨i,d,J,x⟩;have w1:=j.wf;have O:=j.le;simp only [Vb,Vf,Vd,and_true] at d;have t0:ad T1 0=a:=(y.at_ 0 zU).trans (zV (aw hl f));have t1:ad T1 1=b:=(y.at_ 1 zU).trans (zV (aW hl f g g));by_cases hi:i<l.length
  ·have p:(i:Int)<(l.length:Int):=zO;have B:i<m.length:=zO;obtain ⟨w,hn,L,r⟩:=nJ w1 (ha.mono j.sub) hi;obtain ⟨w',E,L',s⟩:=nJ w1 (hb.mono j.sub) B;have t:=L.ld;have u:=L'.ld;have e:IntKind.i64.wrap ((i:Int)+1)=((i+1:Nat):Int):=by rw [wrap_i64] <;> omega
   refine zW (fE n d t0 t1 ha.lenV p hi) ?_;refine aF ?_;refine zD (jC n d t0 t1 r t s u) ?_;refine AnsH.eq (HW C zF ⟨w,rfl,hn.mono (zG o)⟩ ⟨w',rfl,E.mono (zG o)⟩ (F _ (U9 hi))) fun H2 D=>?_;obtain ⟨G,_,_⟩:=zT o zK D;have k2:Kp H H2:=Kp.trans j G;have P:=k2.le;cases c:decide (l[i]=m[i]) with
   | true =>
    have c:=of_decide_eq_true c;refine zD (jB n d t0 t1 r t s u e) ?_;refine ⟨zK,k-1,zO,i+1,rfl,zO,fun q h h' M=>?_⟩;by_cases eq:q=i
    ·subst eq; exact c
    ·exact x q h h' zO
   | false =>
    have c:=of_decide_eq_false c;refine zD (jB n d t0 t1 r t s u e) ?_;refine ⟨?_,zK⟩;rw [decide_eq_false];intro e; subst e; exact c rfl
  ·have p:¬ (i:Int)<(l.length:Int):=zO;refine zW (fE n d t0 t1 ha.lenV p hi) ?_;refine ⟨?_,zK⟩;rw [decide_eq_true (ju he fun q h h'=>x q h h' zO)]
 ·have A:¬ (l.length:Int)=(m.length:Int):=zO;refine zW (fE hl f g ha.lenV hb.lenV A he) ?_;refine ⟨?_,zK⟩;rw [decide_eq_false];intro e; subst e; exact he rfl
def ya (C:Code tab) (F:Wf H) {a:AV} {r:List (Bool × List Nat)} {many lim:Nat} (ha:SlV rawE aa H a r) (hm:many<4611686018427387904) :
  Ans tab (.fn fP [a,.int .i64 (many:Int),.int .i64 (lim:Int)]) H fun v H'=>v=.bool (iS many lim r)/\Kp H H':=by
 refine ni C.q19 zU fun T hl c d f=>?_;by_cases he:many<r.length
 ·have l:(many:Int)<(r.length:Int):=zO;refine zW (dx hl c d ha.lenV l he) ?_;exact ⟨by unfold iS; rw [decide_eq_true he]; rfl,zK⟩
 ·have l:¬ (many:Int)<(r.length:Int):=zO;refine zW (fE hl c d f ha.lenV l he) ?_;refine aP H [7] (fun k vs H'=>∃ i:Nat,vs=[.int .i64 (i:Int)]/\i+k=r.length/\∀ q (h:q<r.length),q<i->¬ lim<(r[q]).2.length) r.length (by simp only [U4]; exact hl) rfl zK ⟨0,by refine zW (aW hl c d f) ?_; rfl,zO,fun q _ h=>by omega⟩ ?_;rintro k T1 A n y m ⟨i,j,D,s⟩;have w1:=m.wf;have G:=m.le;simp only [Vb,Vf,Vd,and_true] at j;have t0:ad T1 0=a:=(y.at_ 0 zU).trans (zV (aw hl c));have p:ad T1 2=.int .i64 (lim:Int):=(y.at_ 2 zU).trans (zV (bO hl c d f f));by_cases hi:i<r.length
  ·have g:(i:Int)<(r.length:Int):=zO;obtain ⟨cs,⟨w,rfl,hn⟩,-,h2,-⟩:=(ha.mono m.sub).at (U7 hi);have x:bc A none (aA a (i*2+1))=some w:=h2 1 w rfl;have u:cd 2 a (.int .i64 (i:Int))=some (aA a (i*2)):=SlV.idx ha .i64 i hi;have t:Bb 1 (aA a (i*2))=some (aA a (i*2+1)):=ha.fa zO 1 (i*2);have e:IntKind.i64.wrap ((i:Int)+1)=((i+1:Nat):Int):=by rw [wrap_i64] <;> omega
   by_cases b:lim<(r[i]).2.length
   ·have o:(lim:Int)<((r[i]).2.length:Int):=zO;refine zW (yZ n j t0 p ha.lenV g hi u t x hn.lenV o b) ?_;refine ⟨?_,zK⟩;unfold iS;rw [VQ.2 ⟨_,U9 hi,by rw [decide_eq_true b]⟩,ZK]
   ·have o:¬ (lim:Int)<((r[i]).2.length:Int):=zO;refine zW (E5 n j t0 p ha.lenV g hi u t x hn.lenV o b e) ?_;refine ⟨zK,k-1,zO,i+1,rfl,zO,fun q h E=>?_⟩;by_cases eq:q=i
    ·subst eq; exact b
    ·exact s q h zO
  ·have g:¬ (i:Int)<(r.length:Int):=zO;refine zW (fE n j t0 p ha.lenV g hi) ?_;refine ⟨?_,zK⟩;have e:(r.any fun z=>decide (lim<z.2.length))=false:=by
    rw [Ww];intro z B;obtain ⟨q,b,rfl⟩:=Wm B
    simpa using s q b zO
   unfold iS;rw [decide_eq_false he,YU,e]
def RZ (C:Code tab) (S:Wf H) {l:List Int} {ty:Nat} (hs:y8 (Iz .i64) ty H s l) (Q:l.length<=64) (K:∀ z∈l,-9223372036854775808<=z/\z<9223372036854775808) :
  Ans tab (.fn AK [s]) H fun v H'=>RowV H' v l/\Kp H H':=by
 refine cY C.q30 zU fun T hl f=>?_;obtain ⟨cells,o⟩:∃ cells,cells=(List.replicate l.length [AV.bool false,AV.nilSl]).flatten:=⟨_,rfl⟩
 have J:∀ H':Heap,Io H' (H.next+3) aa 2 32 [.bool false,.nilSl] (.int .i64 (l.length:Int)) (.int .i64 (l.length:Int))=some (.own (H.next+3) 0 l.length l.length 2 true,H'.put (H.next+3) (.cells cells aa true)):=fun H'=>by rw [o]; exact jg _ _ _ _ _ _ _ _ _ zO zO rfl
 refine zW (aW hl f hs.lenV J) ?_;have L:intE.R H [.bool false,.nilSl] 0:=⟨.nilSl,by simp,dM H⟩
 have B:Cells intE H cells (List.replicate l.length 0):=by rw [o]; exact sC L _
 refine aq H [3] (fun j vs H'=>vs=[.own (H.next+3) 0 l.length l.length 2 true]/\∃ cs,H'.get (H.next+3)=some (.cells cs aa true)/\Cells intE H' cs (l.take j++List.replicate (l.length-j) 0)) (a:=0) (N:=l.length) rfl (by refine zW (aw hl f) ?_; rfl) (zV (aw hl f)) (Vk _) zO (by simp only [U4,hl]; rfl) rfl (fun j vs H' m ⟨h0,cs,h1,h2⟩=>⟨h0,cs,h1,Cells.mono (E:=intE) ((Sub.bump H' m).t _) h2⟩) zK ⟨by exact zV (aw hl f),cells,by exact cy,by
  have e:List.take 0 l++List.replicate (l.length-0) 0=List.replicate l.length 0:=by simp
  rw [e];exact Cells.mono (E:=intE) zS B⟩ ?_ ?_
 ·rintro j T1 h _ hj c D r b ⟨d,cs,k,g⟩;have w1:=b.wf;have M:=b.le;have V:=b.le;simp only [Vb,Vf,Vd,and_true] at d;have t9:ad T1 9=s:=(r.at_ 9 zU).trans (zV (aw hl f));obtain ⟨w,hr,I⟩:=SlV.at1 (hs.mono b.sub) (U7 hj);have hr:w=.int .i64 l[j]:=hr;subst hr;have F:=SlV.idx1 hs .i64 j hj;have u:=K _ (U9 hj);simp only [U4,hl] at c;refine zW (dx c t9 D F I d) ?_;refine AnsH.use (oN C zF u.1 u.2) ?_;rintro v H2 ⟨⟨w,rfl,hn⟩,G⟩;obtain ⟨k2,_,P⟩:=zT h zK G;have O:=hn.one;have n:=k2.get k;have W:=P _ _ n;have R:cs.length=l.length*2:=by
   have:=g.1
   rw [Vr,Vx,Xy] at this;have e:intE.sz=2:=rfl;rw [e] at this;rw [this]; congr 1; omega
  have t:Fs (some (.cells cs aa true)) 2 (0+j*2) (.agg [.bool (decide (l[j]<0)),w])=some (.cells (cs.take (0+j*2)++[.bool (decide (l[j]<0)),w]++cs.drop (0+j*2+2)) aa true):=jF (Gn (aI _) O) zO;have q:cd 2 (.own (H.next+3) 0 l.length l.length 2 true) (.int .i64 (j:Int))=some (.ptr (H.next+3) (0+j*2)):=nK hj;rw [VN] at t q;have p:Cells intE H2 (cs.take (j*2)++[.bool (decide (l[j]<0)),w]++cs.drop (j*2+2)) ((l.take j++List.replicate (l.length-j) 0).set j l[j]):=(Cells.mono (E:=intE) (k2.sub.t _) g).set (i:=j) (by simp; omega) ⟨w,rfl,hn⟩;have A:(l.take j++List.replicate (l.length-j) 0).set j l[j]=l.take (j+1)++List.replicate (l.length-(j+1)) 0:=by
   have x:l.length-j=(l.length-(j+1))+1:=zO;have y:j-(List.take j l).length=0:=by simp; omega
   rw [x,Wu,List.set_append,if_neg (by simp; omega),y,List.set_cons_zero,Ve hj,Xg];rfl
  rw [A] at p;have m3:NoTy [ae] H2 (H.next+3):=NoTy.ty n zU;refine zW (bO c d q n t) ?_;have U:Kp H H2:=b.trans k2;exact ⟨zK,_,rfl,Cells.mono (E:=intE) zS p⟩
 ·rintro T1 h c r b ⟨d,cs,k,g⟩;have w1:=b.wf;have M:=b.le;simp only [Vb,Vf,Vd,and_true] at d;simp only [U4,hl] at c;refine zW (aw c d) ?_;refine ⟨?_,zK⟩;have e:List.take l.length l++List.replicate (l.length-l.length) 0=l:=by simp
  rw [e] at g
  have:Own intE aa H h (H.next+3) true (.own (H.next+3) 0 l.length l.length 2 true) l:=⟨cs,rfl,k,g,zO⟩
  exact this.sl.mono (Sub.bump h _)
end
def yf {β:Type} {P:Nat->β->Prop}:∀ n,(∀ i,i<n->∃ y,P i y)->∃ l:List β,l.length=n/\∀ i (h:i<l.length),P i l[i]
 | 0,_=>⟨[],rfl,fun i h=>by simp at h⟩
 | n+1,h=>by
  obtain ⟨l,h1,h2⟩:=yf n fun i hi=>h i zO;obtain ⟨y,hy⟩:=h n zO;refine ⟨l++[y],by simp [h1],fun i hi=>?_⟩;by_cases a:i<l.length
  ·rw [ZC a]; exact h2 i a
  ·have:i=n:=by rw [Vr] at hi; simp at hi; omega
   subst this;rw [Zr zO]
   simpa [h1] using hy
def JY {β:Type} {sz:Nat} {f:β->List AV}:∀ (l:List β),(∀ y∈l,(f y).length=sz)->(l.flatMap f).length=l.length*sz/\∀ i (h:i<l.length) k,k<sz->(l.flatMap f)[i*sz+k]? = (f l[i])[k]?
 | [],_=>⟨by simp,fun i h=>by simp at h⟩
 | y :: l,h=>by
  obtain ⟨h1,h2⟩:=JY l fun z b=>h z (Vi _ b);have hy:=h y (Vm ..);refine ⟨by rw [List.flatMap_cons,Vr,h1,hy,VP,WR]; omega,fun i hi k a=>?_⟩;rw [List.flatMap_cons];cases i with
  | zero=>rw [VK zO]; simp
  | succ i =>
   rw [V5 (by rw [WR]; omega),hy];have e:(i+1)*sz+k-sz=i*sz+k:=by rw [WR]; omega
   rw [e,h2 i (by simpa using hi) k a]
   simp
def xF {HT:Type}:DataW HT->List (DataW HT)
 | .slice l _=>l
 | _=>[]
def St {HT:Type}:DataW HT->List (DataW HT)
 | .agg l=>l
 | _=>[]
def Iv {HT:Type} (y:DataW HT) (z:Bool × List Nat):Prop:=∃ y2∈St y,z.2.length<=(xF y2).length
section
variable {HT:Type} {enc:TypeId × Value->HT} {P:Program} {w:World} {base:Nat} {sp:Nat->Bool} {held:Bool} {μ:Mu} {F:Nat->Prop} {H:Heap} {α:Type}
def zQ {E:fF α} {ty:Nat} {good:DataW HT->α->Prop} {t e:TypeId} (O:∀ c,c<w.heap.size->F c) (W:P.underlying t=some (.slice e)) (V:P.cellsOf e=E.sz)
  (R:∀ A cs x,DataW.trod enc P w base sp held A e cs=some x->∃ q z,LR μ F w q cs/\E.R H q z/\good x.1 z)
  {A:Nat} {cs:List Value} {x:DataW HT × List MemPlace} (h:DataW.trod enc P w base sp held A t cs=some x) :
  ∃ v B zs,cs=[v]/\VR μ F w B v/\SlV E ty H B zs/\(∀ z∈zs,∃ y∈xF x.1,good y z)/\zs.length<=maxLen/\zs.length<=(xF x.1).length:=by
 rcases DataW.trod_slice W h with ⟨rfl,-⟩ | ⟨a,len,cap,C,rest,n,-,rfl,ex,hb,hl,hc,T,Q,-⟩
 ·exact ⟨_,.nilSl,[],rfl,.nilSl,SlV.nil _ _ _,(fun z h=>by cases h),Vk _,Vk _⟩
 ·rcases WY len with h0 | h0
  ·subst h0;refine ⟨_,.sl [] 0,[],rfl,.sl0 a cap,⟨[],⟨trivial,(fun s h=>by cases h),0,rfl,by simp [aQ]⟩,(fun _ _ _ _ _ _ e=>by cases e),by simp,fun i a h=>by simp at h⟩,fun z h=>(by cases h),Vk _,Vk _⟩
  ·have hp:=E.pos;obtain ⟨L,l,d⟩:=yf (P:=fun i (y:List AV × List Value × α)=>w.cells? base (a.add (i*E.sz)) E.sz=some y.2.1/\LR μ F w y.1 y.2.1/\E.R H y.1 y.2.2/\∃ h:i<C.length,good C[i].1 y.2.2) len fun i hi=>by
    have h1:=Q i hi;rw [U7 zO,V] at h1;obtain ⟨cs,h2,h3⟩:=U3.1 h1;obtain ⟨q,z,M,h5,N⟩:=R _ _ _ h3;exact ⟨(q,cs,z),h2,M,h5,zO,N⟩
   have J:∀ y∈L,y.1.length=E.sz:=fun y hy=>by
    obtain ⟨i,hi,rfl⟩:=Wm hy;exact (E.len (d i hi).2.2.1).1
   obtain ⟨o,I⟩:=JY (f:=fun y:List AV × List Value × α=>y.1) L J;have G:∀ i (hi:i<L.length) k,k<E.sz->w.cell? (a.add (i*E.sz) |>.add k)=(L[i]).2.1[k]?:=fun i hi k b=>((World.cells?_some (d i hi).1).2.2 k b)
   obtain ⟨v0,p⟩:∃ v0,w.cell? a=some v0:=by
    have h1:=G 0 zO 0 hp;have h2:=(World.cells?_some (d 0 zO).1).2.1;rw [U7 zO] at h1;simp [Addr.add] at h1;exact ⟨_,h1⟩
   obtain ⟨arr,g,fr,r,K⟩:∃ arr g fr,w.heap[a.block]? = some (.cells arr g fr)/\a.spot=none:=by
    unfold World.cell? at p;split at p
    ·rename_i c g fr hb;refine ⟨c,g,fr,hb,?_⟩;cases hs:a.spot with
     | none=>rfl
     | some s=>rw [hs] at p; simp at p
    ·cases p
   obtain ⟨blk,off,aa⟩:=a;simp only at K r hb;subst K;have D:∀ i (hi:i<L.length) k,k<E.sz->arr[off+(i*E.sz+k)]? = (L[i]).2.1[k]?:=fun i hi k b=>by
    rw [<- G i hi k b];have e:((⟨blk,off,none⟩:Addr).add (i*E.sz) |>.add k)=⟨blk,off+(i*E.sz+k),none⟩:=by
     unfold Addr.add;by_cases h1:i*E.sz=0
     ·by_cases h2:k=0
      ·simp [h1,h2]
      ·simp [h1,h2]
     ·by_cases h2:k=0
      ·simp [h1,h2]
      ·simp [h1,h2]; omega
    rw [e];simp [World.cell?,r]
   have Y:∀ i (hi:i<L.length),(L[i]).2.1.length=E.sz:=fun i hi=>(World.cells?_some (d i hi).1).2.1;have U:off+(L.flatMap fun y=>y.1).length<=arr.size:=by
    have h1:=D (len-1) zO (E.sz-1) zO;rw [U7 (by have:=Y (len-1) zO; omega)] at h1;have h2:=(Wl.1 h1).1;rw [o,l];have h3:len*E.sz=(len-1)*E.sz+E.sz:=by
     obtain ⟨m,rfl⟩:∃ m,len=m+1:=⟨len-1,zO⟩
     rw [WR,W8]
    omega
   refine ⟨_,.sl (L.flatMap fun y=>y.1) len,L.map fun y=>y.2.2,rfl,.sl _ _ _ blk off arr g fr (O _ (Wl.1 r).1) r hl U fun j c v hc X=>?_,⟨L.flatMap fun y=>y.1,⟨trivial,(fun s h=>by cases h),len,rfl,?_⟩,(fun _ _ _ _ _ _ e=>by cases e),?_,fun i z u=>?_⟩,fun z u=>?_,by rw [Vh,l]; omega,by rw [Vh,l,ex]; simp [xF,T]⟩
   ·have hj:=(Vl.1 hc).1;rw [o] at hj;have hi:j / E.sz<L.length:=(VD hp).2 hj;have b:j % E.sz<E.sz:=VS _ hp;have S:j / E.sz*E.sz+j % E.sz=j:=Ys j E.sz;have h1:=I _ hi _ b;have h2:=D _ hi _ b;rw [S] at h1 h2;rw [hc] at h1;rw [X] at h2;exact (d _ hi).2.1.2 _ _ _ h1.symm h2.symm
   ·simp only [aQ];rw [if_pos ⟨Vc _,by rw [o,l]; exact Vc _⟩,Vt (by rw [o,l]; exact Vc _)]
   ·rw [o,Vh]
   ·rw [V6,Vg] at u;obtain ⟨y,hy,rfl⟩:=u;obtain ⟨hi,rfl⟩:=Vl.1 hy;have e:(((L.flatMap fun y=>y.1).drop (i*E.sz)).take E.sz)=L[i].1:=by
     apply WO
     intro k;rw [Vy];have Z:=J _ (U9 hi);split
     ·rename_i b;rw [Vz]; exact I i hi k b
     ·exact (VM zO).symm
    rw [e];exact (d i hi).2.2.1
   ·obtain ⟨y,hy,rfl⟩:=Va.1 u;obtain ⟨i,hi,rfl⟩:=Wm hy;obtain ⟨h1,h2⟩:=(d i hi).2.2.2;rw [ex];exact ⟨_,Va.2 ⟨_,U9 h1,rfl⟩,h2⟩
def P6 {E:fF α} {ty:Nat} {good:α->Prop} {t e:TypeId} (g:∀ c,c<w.heap.size->F c) (k:P.underlying t=some (.slice e)) (j:P.cellsOf e=E.sz)
  (i:∀ b cs x,DataW.trod enc P w base sp held b e cs=some x->∃ d z,LR μ F w d cs/\E.R H d z/\good z)
  {b:Nat} {cs:List Value} {x:DataW HT × List MemPlace} (h:DataW.trod enc P w base sp held b t cs=some x) :
  ∃ v a zs,cs=[v]/\VR μ F w a v/\SlV E ty H a zs/\(∀ z∈zs,good z)/\zs.length<=maxLen:=by
 obtain ⟨v,a,zs,h1,h2,h3,f,h5,-⟩:=zQ (good:=fun _ z=>good z) g k j i h;exact ⟨v,a,zs,h1,h2,h3,fun z l=>(f z l).elim fun _ h=>h.2,h5⟩
def KP {t:TypeId} (d:P.underlying t=some (.int .u64)) {c:Nat} {cs:List Value} {x:DataW HT × List MemPlace} (h:DataW.trod enc P w base sp held c t cs=some x) :
  ∃ a z,LR μ F w a cs/\(bz bp).R H a z/\z<18446744073709551616:=by
 obtain ⟨n,rfl,-,b⟩:=DataW.trod_int d h;have hr:0<=n/\n<18446744073709551616:=by
  have h1:IntKind.u64.min=0:=by decide
  have h2:IntKind.u64.max=18446744073709551615:=by decide
  unfold Lit.wf at b;simp [h1,h2] at b;omega
 refine ⟨[.int .u64 n],n.toNat,LR.cons (.int _ _) LR.nil,⟨_,rfl,?_⟩,zO⟩;show AV.int .u64 n=.int .u64 (n.toNat:Int);rw [Z5 hr.1]
def Nw {t e:TypeId} (f:∀ c,c<w.heap.size->F c) (i:P.underlying t=some (.slice e)) (he:P.underlying e=some (.int .u64)) (g:P.cellsOf e=1) {b:Nat} {cs:List Value} {x:DataW HT × List MemPlace} (h:DataW.trod enc P w base sp held b t cs=some x) :
  ∃ v a zs,cs=[v]/\VR μ F w a v/\SlV (bz bp) ae H a zs/\(∀ z∈zs,z<18446744073709551616)/\zs.length<=maxLen/\zs.length<=(xF x.1).length:=by
 obtain ⟨v,a,zs,h1,h2,h3,d,h5⟩:=zQ (E:=bz bp) (ty:=ae) (H:=H) (μ:=μ) (good:=fun _ z=>z<18446744073709551616) f i g (fun b cs x h=>KP he h) h;exact ⟨v,a,zs,h1,h2,h3,fun z j=>(d z j).elim fun _ h=>h.2,h5⟩
def EB (z:Bool × List Nat):Prop:=(∀ x∈z.2,x<18446744073709551616)/\z.2.length<=maxLen
def Nv {t e:TypeId} {g:Array Field} {f0 f1:Field} (y:∀ c,c<w.heap.size->F c) (E:P.underlying t=some (.struct g)) (D:g = #[f0,f1]) (h0:f0.offset=0) (h1:f1.offset=1) (hc:P.cellsOf t=2) (hb:P.underlying f0.type=some .bool) (A:P.cellsOf f0.type=1) (hn:P.underlying f1.type=some (.slice e)) (C:P.cellsOf f1.type=1) (he:P.underlying e=some (.int .u64)) (B:P.cellsOf e=1)
  {o:Nat} {cs:List Value} {x:DataW HT × List MemPlace} (h:DataW.trod enc P w base sp held o t cs=some x) :
  ∃ a z,LR μ F w a cs/\rawE.R H a z/\EB z/\Iv x.1 z:=by
 subst D;obtain ⟨xs,n,-,ex,hl,k,hx⟩:=DataW.trod_struct E h;have k:xs.length=2:=by simpa using k
 rw [hc] at hl
 match cs,hl with
 | [l,m],_ =>
  have e0:=hx 0 f0 rfl;have f:=hx 1 f1 rfl;rw [U7 zO,h0,A] at e0;rw [U7 zO,h1,C] at f;have G:xs[1]∈xs:=U9 _;obtain ⟨b,i,-⟩:=DataW.trod_bool hb e0;obtain ⟨v,d,zs,j,p,q,r,s,u⟩:=Nw (H:=H) (μ:=μ) y hn he B f;have q0:l=.bool b:=by simpa using i
  have q1:m=v:=by simpa using j
  clear i j;subst q0; subst q1;exact ⟨[.bool b,d],(b,zs),LR.cons (.bool _) (LR.cons p LR.nil),⟨d,rfl,q⟩,⟨r,s⟩,by rw [ex]; exact ⟨_,Va.2 ⟨_,G,rfl⟩,u⟩⟩
structure RowTys (P:Program) (tvs tv ti te:TypeId):Prop where
 vs:P.underlying tvs=some (.slice tv)
 cv:P.cellsOf tv=1
 v:P.underlying tv=some (.slice ti)
 ci:P.cellsOf ti=2
 i:∃ f0 f1:Field,P.underlying ti=some (.struct #[f0,f1])/\f0.offset=0/\f1.offset=1/\P.underlying f0.type=some .bool/\P.cellsOf f0.type=1/\P.underlying f1.type=some (.slice te)/\P.cellsOf f1.type=1
 e:P.underlying te=some (.int .u64)
 ce:P.cellsOf te=1
abbrev UA (H:Heap) (v:AV) (l:List (Bool × List Nat)):Prop:=SlV rawE aa H v l
def eI (l:List (Bool × List Nat)):Prop:=(∀ z∈l,EB z)/\l.length<=maxLen
def Fi {tvs tv ti te:TypeId} (a:RowTys P tvs tv ti te) (g:∀ c,c<w.heap.size->F c) {e:Nat} {cs:List Value} {x:DataW HT × List MemPlace} (h:DataW.trod enc P w base sp held e tv cs=some x) :
  ∃ v b l,cs=[v]/\VR μ F w b v/\UA H b l/\eI l/\∀ z∈l,∃ y∈xF x.1,Iv y z:=by
 obtain ⟨f0,f1,n,o,p,q,r,s,t⟩:=a.i;obtain ⟨v,b,l,i,j,k,f,m,-⟩:=zQ (E:=rawE) (ty:=aa) (H:=H) (μ:=μ) (good:=fun y z=>EB z/\Iv y z) g a.v a.ci (fun e cs x h=>Nv g n rfl o p a.ci q r s t a.e a.ce h) h;exact ⟨v,b,l,i,j,k,⟨fun z d=>(f z d).elim fun _ h=>h.2.1,m⟩,fun z d=>(f z d).imp fun y h=>⟨h.1,h.2.2⟩⟩
end
def cB (z:Bool × List Nat):Int:=if z.1=true then -(val z.2:Int) else (val z.2:Int)
def Le:∀ {z:Bool × List Nat},qi z=false->Lim z.2->dU (cB z)=z
 | (b,l),hb,hl=>by
  simp only [qi,WX,decide_eq_false_iff_not,ZP] at hb;obtain ⟨h1,h2⟩:=hb;have hn:E3 l:=h1;have a:=sK hl hn;cases b with
  | false =>
   have e:cB (false,l)=(val l:Int):=rfl;rw [e];unfold dU;rw [decide_eq_false zO,XA,a]
  | true =>
   have e:cB (true,l) = -(val l:Int):=rfl;have hne:l≠[]:=fun e=>by subst e; simp at h2
   have hp:0<B^(l.length-1):=VY (by decide);have c:=zg hn hne;rw [e];unfold dU;rw [decide_eq_true zO,Ym,XA,a]
def SlV.int {ty:Nat} {H:Heap} {v:AV} {l:List (Bool × List Nat)} (h:SlV rawE ty H v l) (hb:∀ z∈l,qi z=false/\Lim z.2):SlV intE ty H v (l.map cB):=by
 obtain ⟨cells,hr,f,hc,ha⟩:=h;refine ⟨cells,hr,f,by rw [hc,Vh]; rfl,fun i a hi=>?_⟩;rw [V6,Vg] at hi;obtain ⟨z,b,rfl⟩:=hi;obtain ⟨w,h1,h2⟩:=ha i z b;have hm:=hb z (Vo b);have e:=Le hm.1 hm.2;have c:decide (cB z<0)=z.1:=congrArg Prod.fst e;have d:ag (cB z).natAbs=z.2:=congrArg Prod.snd e;refine ⟨w,by rw [c]; exact h1,?_⟩;show Lb H w (ag (cB z).natAbs);rw [d]; exact h2
section
open Go.ChangeShapes Go.WideShapes
variable {HT:Type} {enc:TypeId × Value->HT} {P:Program} {w:World} {base base':Nat} {sp:Nat->Bool} {held:Bool} {μ:Mu} {F:Nat->Prop} {H:Heap}
end
def int_range {n:Int} (h:(Lit.int .i64 n).wf=true) : -9223372036854775808<=n/\n<9223372036854775808:=by
 have h1:IntKind.i64.min = -9223372036854775808:=by decide
 have h2:IntKind.i64.max=9223372036854775807:=by decide
 unfold Lit.wf at h;simp [h1,h2] at h;omega
def Np {n:Int} (h:(Lit.int .u8 n).wf=true):0<=n/\n<256:=by
 have h1:IntKind.u8.min=0:=by decide
 have h2:IntKind.u8.max=255:=by decide
 unfold Lit.wf at h;simp [h1,h2] at h;omega
def wf_nil:Wf (Heap.nil 0):=fun b e h=>by rw [Tr.nil_get] at h; cases h
def Ng {z:Bool × List Nat} {n:Nat} (hl:Lim z.2) (hn:z.2.length<=n):Bt (64*n) (cB z):=by
 have h1:=ul hl;have h2:B^z.2.length<=B^n:=VI (by decide) hn;have h3:B^n=2^(64*n):=by
  have:B=2^64:=by decide
  rw [this,<- Xl]
 unfold Bt cB;split
 ·rw [Ym,XA]; omega
 ·rw [XA]; omega
def Rr {α:Type} (E:fF α) (ty:Nat):fF (List α × Bool) where
 sz:=2
 tys:=ty :: E.tys
 R H cs z:=∃ v,cs=[v,.bool z.2]/\SlV E ty H v z.1
 pos:=zO
 len:=by rintro H cs z ⟨v,rfl,h⟩; exact ⟨rfl,by simp [h.one.2]; rfl⟩
 mono:=by rintro H H' cs z hs ⟨v,rfl,h⟩; exact ⟨v,rfl,h.monoT hs⟩
def Ro {α:Type} (E:fF α) (ty:Nat):fF (Nat × List α) where
 sz:=2
 tys:=ty :: E.tys
 R H cs z:=∃ v,cs=[.int .u8 (z.1:Int),v]/\SlV E ty H v z.2
 pos:=zO
 len:=by rintro H cs z ⟨v,rfl,h⟩; exact ⟨rfl,by simp [h.one.2]; rfl⟩
 mono:=by rintro H H' cs z hs ⟨v,rfl,h⟩; exact ⟨v,rfl,h.monoT hs⟩
abbrev conE:fF (List Int × Bool):=Rr intE aa
abbrev conQE:fF (List (Bool × List Nat) × Bool):=Rr rawE aa
abbrev genE:fF (Nat × List Int):=Ro intE aa
abbrev genQE:fF (Nat × List (Bool × List Nat)):=Ro rawE aa
section
variable {HT:Type} {enc:TypeId × Value->HT} {P:Program} {w:World} {base:Nat} {sp:Nat->Bool} {held:Bool} {μ:Mu} {F:Nat->Prop} {H:Heap}
structure ConTys (P:Program) (tcs tc tv:TypeId):Prop where
 cs:P.underlying tcs=some (.slice tc)
 cc:P.cellsOf tc=2
 c:∃ f0 f1:Field,P.underlying tc=some (.struct #[f0,f1])/\f0.offset=0/\f1.offset=1/\f0.type=tv/\P.underlying f1.type=some .bool/\P.cellsOf f1.type=1
structure GenTys (P:Program) (tgs tg tv:TypeId):Prop where
 gs:P.underlying tgs=some (.slice tg)
 cg:P.cellsOf tg=2
 g:∃ f0 f1:Field,P.underlying tg=some (.struct #[f0,f1])/\f0.offset=0/\f1.offset=1/\f1.type=tv/\P.underlying f0.type=some (.int .u8)/\P.cellsOf f0.type=1
def Fj {tcs tc tvs tv ti te:TypeId} (i:ConTys P tcs tc tv) (j:RowTys P tvs tv ti te) (t:∀ c,c<w.heap.size->F c) {p:Nat} {cs:List Value} {x:DataW HT × List MemPlace} (h:DataW.trod enc P w base sp held p tc cs=some x) :
  ∃ a z,LR μ F w a cs/\conQE.R H a z/\eI z.1:=by
 obtain ⟨f0,f1,u,y,A,B,C,D⟩:=i.c;obtain ⟨xs,n,-,ex,hl,k,hx⟩:=DataW.trod_struct u h;have k:xs.length=2:=by simpa using k
 rw [i.cc] at hl
 match cs,hl with
 | [m,o],_ =>
  have e0:=hx 0 f0 rfl;have e:=hx 1 f1 rfl;rw [U7 zO,y,B,j.cv] at e0;rw [U7 zO,A,D] at e;obtain ⟨b,f,-⟩:=DataW.trod_bool C e;obtain ⟨v,d,l,g,q,r,s,-⟩:=Fi (H:=H) (μ:=μ) j t e0;have q0:o=.bool b:=by simpa using f
  have q1:m=v:=by simpa using g
  clear f g;subst q0; subst q1;exact ⟨[d,.bool b],(l,b),LR.cons q (LR.cons (.bool _) LR.nil),⟨d,rfl,r⟩,s⟩
def KR {tcs tc tvs tv ti te:TypeId} (a:ConTys P tcs tc tv) (f:RowTys P tvs tv ti te) (e:∀ c,c<w.heap.size->F c) {d:Nat} {cs:List Value} {x:DataW HT × List MemPlace} (h:DataW.trod enc P w base sp held d tcs cs=some x) (ty:Nat) :
  ∃ v b l,cs=[v]/\VR μ F w b v/\SlV conQE ty H b l/\(∀ r∈l,eI r.1)/\l.length<=maxLen :=
 P6 (E:=conQE) (good:=fun z=>eI z.1) e a.cs a.cc (fun d cs x h=>Fj a f e h) h
def Nx {tgs tg tvs tv ti te:TypeId} (g:GenTys P tgs tg tv) (i:RowTys P tvs tv ti te) (u:∀ c,c<w.heap.size->F c) {q:Nat} {cs:List Value} {x:DataW HT × List MemPlace} (h:DataW.trod enc P w base sp held q tg cs=some x) :
  ∃ a z,LR μ F w a cs/\genQE.R H a z/\eI z.2/\z.1<256:=by
 obtain ⟨f0,f1,A,B,C,D,E,G⟩:=g.g;obtain ⟨xs,n,-,ex,hl,j,hx⟩:=DataW.trod_struct A h;have j:xs.length=2:=by simpa using j
 rw [g.cg] at hl
 match cs,hl with
 | [o,p],_ =>
  have e0:=hx 0 f0 rfl;have d:=hx 1 f1 rfl;rw [U7 zO,B,G] at e0;rw [U7 zO,C,D,i.cv] at d;obtain ⟨k,e,-,y⟩:=DataW.trod_int E e0;have hr:=Np y;obtain ⟨v,b,l,f,r,s,t,-⟩:=Fi (H:=H) (μ:=μ) i u d;have q0:o=.int .u8 k:=by simpa using e
  have q1:p=v:=by simpa using f
  clear e f;subst q0; subst q1;obtain ⟨m,rfl⟩:∃ m:Nat,k=(m:Int):=⟨k.toNat,zO⟩
  exact ⟨[.int .u8 (m:Int),b],(m,l),LR.cons (.int _ _) (LR.cons r LR.nil),⟨b,rfl,s⟩,t,by show m<256; omega⟩
end
section
open Go.ChangeShapes Go.WideShapes
variable {HT:Type} {enc:TypeId × Value->HT} {P:Program} {w:World} {base base':Nat} {sp:Nat->Bool} {held:Bool} {μ:Mu} {F:Nat->Prop} {H:Heap}
def open_cons {tcs tc tvs tv ti te:TypeId} (f:ConTys P tcs tc tv) (j:RowTys P tvs tv ti te) (i:∀ c,c<w.heap.size->F c) {r:Reach} {v:Value} {d:DataW HT} {ps:List MemPlace} (hval:Value.okWide P w r base' tcs v) (hd:DataW.Trod enc P w base sp held tcs v d ps) (ty:Nat) :
  ∃ b l,VR μ F w b v/\SlV conQE ty H b l/\(∀ r∈l,eI r.1)/\l.length<=maxLen:=by
 obtain ⟨a,n,c,rfl⟩:=okWide_slice f.cs hval;obtain ⟨m,h⟩:=hd;obtain ⟨k,b,l,e,g⟩:=KR (H:=H) (μ:=μ) f j i h ty;have e:k=.slice a n c:=by simpa [Value.cells] using e.symm
 subst e;exact ⟨b,l,g⟩
end
def OP {ty:Nat} {H:Heap} {v:AV} {l:List (List (Bool × List Nat) × Bool)} (h:SlV conQE ty H v l) (hb:∀ r∈l,∀ z∈r.1,qi z=false/\Lim z.2):SlV conE ty H v (l.map fun r=>(r.1.map cB,r.2)):=by
 obtain ⟨cells,hr,c,hc,ha⟩:=h;refine ⟨cells,hr,c,by rw [hc,Vh]; rfl,fun i a hi=>?_⟩;rw [V6,Vg] at hi;obtain ⟨z,b,rfl⟩:=hi;obtain ⟨w,h1,h2⟩:=ha i z b;exact ⟨w,h1,SlV.int h2 (hb z (Vo b))⟩
end Go.Proofs.YteaefaohjlmjdaaGreat.Ev
namespace Go.Proofs.YteaefaohjlmjdaaGreat.Lin
def unitC (n:Nat) (k:Int):V:=k :: List.replicate n 0
def hd1 (r:V):Int:=r.headD 0
def eqsOf (l:List (V × Bool)):List V:=(l.filter fun c=>c.2).map fun c=>c.1
def ineqsOf (n:Nat) (l:List (V × Bool)):List V:=unitC n 1 :: (l.filter fun c=>!c.2).map fun c=>c.1
def kindOf (r:V):Nat:=if 0<hd1 r then 3 else 2
def gensP (n:Nat) (l:List (V × Bool)):List (Nat × V) :=
 if (gensR (n+1) (eqsOf l) (ineqsOf n l)).any (fun r=>decide (0<hd1 r)) then
  (gensL (n+1) (eqsOf l) (ineqsOf n l)).map (fun r=>(1,r))++(gensR (n+1) (eqsOf l) (ineqsOf n l)).map fun r=>(kindOf r,r)
 else []
def linesOf (g:List (Nat × V)):List V:=(g.filter fun x=>x.1 == 1).map fun x=>x.2
def raysOf (g:List (Nat × V)):List V:=(g.filter fun x=>!(x.1 == 1)).map fun x=>x.2
def consP (n:Nat) (g:List (Nat × V)):List (V × Bool) :=
 if g.any (fun x=>x.1 == 3) then
  (gensL (n+1) (linesOf g) (raysOf g)).map (fun r=>(r,true))++((gensR (n+1) (linesOf g) (raysOf g)).filter fun r=>!decide (r=unitC n 1)).map fun r=>(r,false)
 else [(unitC n (-1),false)]
def keepsP (c:V × Bool) (g:Nat × V):Bool:=if c.2 || g.1 == 1 then decide (dot c.1 g.2=0) else decide (0<=dot c.1 g.2)
def unitC_len (n:Nat) (k:Int):(unitC n k).length=n+1:=by simp [unitC]
def CX:∀ (n:Nat) (x:V),dot (List.replicate n 0) x=0
 | 0,x=>by simp [dot]
 | n+1,[]=>by simp [dot]
 | n+1,a :: x=>by
  have:=CX n x
  rw [Wu];simp [dot] at this ⊢;exact this
def kW {n:Nat} {k:Int} {x:V}:dot (unitC n k) x=k*hd1 x:=by
 cases x with
 | nil=>simp [unitC,dot,hd1]
 | cons a x =>
  have:=CX n x
  simp [unitC,dot,hd1,this]
section
variable {n:Nat} {l:List (V × Bool)}
def eqs_len (h:∀ c∈l,c.1.length=n+1):∀ a∈eqsOf l,a.length=n+1:=fun a ha=>by
 obtain ⟨c,hc,rfl⟩:=Va.1 ha;exact h c (Vv.1 hc).1
def ineqs_len (h:∀ c∈l,c.1.length=n+1):∀ a∈ineqsOf n l,a.length=n+1:=fun a ha=>by
 rcases VF.1 ha with rfl | ha
 ·exact unitC_len n 1
 ·obtain ⟨c,hc,rfl⟩:=Va.1 ha;exact h c (Vv.1 hc).1
def mem_eqs {a:V}:a∈eqsOf l ↔ (a,true)∈l:=by
 constructor
 ·intro h;obtain ⟨⟨r,b⟩,hc,rfl⟩:=Va.1 h;obtain ⟨h1,h2⟩:=Vv.1 hc;simp only at h2;subst h2;exact h1
 ·intro h;exact Va.2 ⟨(a,true),Vv.2 ⟨h,rfl⟩,rfl⟩
def mem_ineqs {a:V}:a∈ineqsOf n l ↔ a=unitC n 1\/(a,false)∈l:=by
 unfold ineqsOf;rw [VF];refine or_congr YV ?_;constructor
 ·intro h;obtain ⟨⟨r,b⟩,hc,rfl⟩:=Va.1 h;obtain ⟨h1,h2⟩:=Vv.1 hc;cases b with
  | false=>exact h1
  | true=>simp at h2
 ·intro h;exact Va.2 ⟨(a,false),Vv.2 ⟨h,rfl⟩,rfl⟩
abbrev jc (n:Nat) (l:List (V × Bool)) (x:V):Prop:=Keep (n+1) (· ∈ eqsOf l) (· ∈ ineqsOf n l) x
def keepP_iff {x:V}:jc n l x ↔ x.length=n+1/\0<=hd1 x/\∀ c∈l,(c.2=true->dot c.1 x=0)/\(c.2=false->0<=dot c.1 x):=by
 constructor
 ·intro h;have h1:=h.ge (unitC n 1) (mem_ineqs.2 (.inl rfl));rw [kW] at h1;refine ⟨h.len,zO,fun ⟨r,b⟩ hc=>⟨fun hb=>?_,fun hb=>?_⟩⟩
  ·simp only at hb; subst hb; exact h.eq r (mem_eqs.2 hc)
  ·simp only at hb; subst hb; exact h.ge r (mem_ineqs.2 (.inr hc))
 ·rintro ⟨h1,h2,h3⟩;refine ⟨h1,fun a ha=>(h3 _ (mem_eqs.1 ha)).1 rfl,fun a ha=>?_⟩;rcases mem_ineqs.1 ha with rfl | ha
  ·rw [kW]; omega
  ·exact (h3 _ ha).2 rfl
def A8 {a:List (V × Bool)} (h:∀ c∈l,c.1.length=n+1) (h':∀ c∈a,c.1.length=n+1) (hs:∀ x,jc n l x ↔ jc n a x):gensP n l=gensP n a:=by
 obtain ⟨b,d⟩:=Fk (gens_told (eqs_len h) (ineqs_len h)) (gens_told (eqs_len h') (ineqs_len h')) hs;unfold gensP;rw [b,d]
def Rl (h:∀ c∈l,c.1.length=n+1) {r:V} (hr:r∈gensL (n+1) (eqsOf l) (ineqsOf n l)):jc n l r/\jc n l (scl (-1) r):=by
 have t:=gens_told (eqs_len h) (ineqs_len h);refine ⟨⟨t.dd.lenL r hr,fun e he=>t.dd.lineE r hr e he,fun i hi=>by rw [t.dd.lineI r hr i hi]; exact Yy _⟩,⟨ah (t.dd.lenL r hr),fun e he=>by rw [dot_scl,t.dd.lineE r hr e he]; rfl,fun i hi=>by rw [dot_scl,t.dd.lineI r hr i hi]; exact Yy _⟩⟩
def Qk (h:∀ c∈l,c.1.length=n+1) {r:V} (hr:r∈gensR (n+1) (eqsOf l) (ineqsOf n l)):jc n l r:=(gens_told (eqs_len h) (ineqs_len h)).dd.keep r hr
def Pi (n:Nat) (l:List (V × Bool)) (c:V × Bool):Prop:=∀ x,jc n l x->(c.2=true->dot c.1 x=0)/\0<=dot c.1 x
def Cu {c:V × Bool} (hc:c∈l):Pi n l c:=fun x hx=>by
 have h1:=(keepP_iff.1 hx).2.2 c hc;refine ⟨h1.1,?_⟩;cases hb:c.2 with
 | false=>exact h1.2 hb
 | true=>rw [h1.1 hb]; exact Yy _
def vO {c:V × Bool} {g:Nat × V} (hc:Pi n l c) (hg:jc n l g.2) (hl:g.1=1->jc n l (scl (-1) g.2)):keepsP c g=true:=by
 have h1:=hc _ hg;unfold keepsP;cases hb:c.2 with
 | true=>simp [h1.1 hb]
 | false =>
  by_cases a:g.1=1
  ·have h2:=(hc _ (hl a)).2;rw [dot_scl] at h2;simp [a]; omega
  ·simp [a]; exact h1.2
def p8 (h:∀ c∈l,c.1.length=n+1) {g:Nat × V} (hg:g∈gensP n l):jc n l g.2/\(g.1=1->jc n l (scl (-1) g.2)):=by
 unfold gensP at hg;split at hg
 ·rcases Vq.1 hg with hg | hg
  ·obtain ⟨r,hr,rfl⟩:=Va.1 hg;exact ⟨(Rl h hr).1,fun _=>(Rl h hr).2⟩
  ·obtain ⟨r,hr,rfl⟩:=Va.1 hg;refine ⟨Qk h hr,fun e=>?_⟩;have e:kindOf r=1:=e;unfold kindOf at e;split at e <;> omega
 ·cases hg
theorem JP (r:V):(kindOf r == 1)=false:=by unfold kindOf; split <;> rfl
def A7 (hs:(gensR (n+1) (eqsOf l) (ineqsOf n l)).any (fun r=>decide (0<hd1 r))=true) :
  linesOf (gensP n l)=gensL (n+1) (eqsOf l) (ineqsOf n l)/\raysOf (gensP n l)=gensR (n+1) (eqsOf l) (ineqsOf n l)/\(gensP n l).any (fun x=>x.1 == 3)=true:=by
 unfold gensP;rw [if_pos hs];refine ⟨?_,?_,?_⟩
 ·unfold linesOf;rw [Wt,Z9.2,ZL.2,WH,Xo]
  ·exact YY _
  ·intro x hx;obtain ⟨r,-,rfl⟩:=Va.1 hx;simp [JP]
  ·intro x hx;obtain ⟨r,-,rfl⟩:=Va.1 hx;rfl
 ·unfold raysOf;rw [Wt,ZL.2,Z9.2,Xt,Xo]
  ·exact YY _
  ·intro x hx;obtain ⟨r,-,rfl⟩:=Va.1 hx;simp [JP]
  ·intro x hx;obtain ⟨r,-,rfl⟩:=Va.1 hx
   simp
 ·rw [VQ] at hs ⊢;obtain ⟨r,hr,h0⟩:=hs;refine ⟨(kindOf r,r),Wp _ (Va.2 ⟨r,hr,rfl⟩),?_⟩;have h0:0<hd1 r:=of_decide_eq_true h0;simp [kindOf,h0]
def Mg {g:List (Nat × V)} (h3:g.any (fun x=>x.1 == 3)=true) (x:V):jc n (consP n g) x ↔ 0<=hd1 x/\Keep (n+1) (· ∈ gensL (n+1) (linesOf g) (raysOf g)) (· ∈ gensR (n+1) (linesOf g) (raysOf g)) x:=by
 rw [keepP_iff];unfold consP;rw [if_pos h3];constructor
 ·rintro ⟨q1,q2,q3⟩;refine ⟨q2,q1,fun a ha=>(q3 (a,true) (Wg _ (Va.2 ⟨a,ha,rfl⟩))).1 rfl,fun b hb=>?_⟩;by_cases f:b=unitC n 1
  ·rw [f,kW]; omega
  ·exact (q3 (b,false) (Wp _ (Va.2 ⟨b,Vv.2 ⟨hb,by simp [f]⟩,rfl⟩))).2 rfl
 ·rintro ⟨q2,d⟩;refine ⟨d.len,q2,fun c hc=>?_⟩;rcases Vq.1 hc with hc | hc
  ·obtain ⟨a,ha,rfl⟩:=Va.1 hc;exact ⟨fun _=>d.eq a ha,fun e=>by cases e⟩
  ·obtain ⟨b,hb,rfl⟩:=Va.1 hc;exact ⟨(fun e=>by cases e),fun _=>d.ge b (Vv.1 hb).1⟩
def GC {g:List (Nat × V)} (hg:∀ x∈g,x.2.length=n+1):∀ c∈consP n g,c.1.length=n+1:=by
 have d:∀ a∈linesOf g,a.length=n+1:=fun a ha=>by obtain ⟨x,hx,rfl⟩:=Va.1 ha; exact hg x (Vv.1 hx).1
 have e:∀ a∈raysOf g,a.length=n+1:=fun a ha=>by obtain ⟨x,hx,rfl⟩:=Va.1 ha; exact hg x (Vv.1 hx).1
 intro c hc;unfold consP at hc;split at hc
 ·rcases Vq.1 hc with hc | hc
  ·obtain ⟨a,ha,rfl⟩:=Va.1 hc;exact LU d e a ha
  ·obtain ⟨b,hb,rfl⟩:=Va.1 hc;exact LS d e b (Vv.1 hb).1
 ·rw [Vp] at hc;subst hc;exact unitC_len n (-1)
def sO (h:∀ c∈l,c.1.length=n+1):∀ x∈gensP n l,x.2.length=n+1:=fun x hx=>(p8 h hx).1.len
def AC (h:∀ c∈l,c.1.length=n+1) (hs:(gensR (n+1) (eqsOf l) (ineqsOf n l)).any (fun r=>decide (0<hd1 r))=true) (x:V):jc n (consP n (gensP n l)) x ↔ jc n l x:=by
 obtain ⟨p1,p2,p3⟩:=A7 hs;rw [Mg p3,p1,p2];have t1:=gens_told (eqs_len h) (ineqs_len h);have b:=gens_told t1.dd.lenL t1.dd.lenR;have hd:=L9 (eqs_len h) (ineqs_len h) t1.dd b.dd x;constructor
 ·rintro ⟨-,a⟩; exact hd.2 a
 ·intro a; exact ⟨(keepP_iff.1 a).2.1,hd.1 a⟩
def none_empty:gensP n [(unitC n (-1),false)]=[]:=by
 have hl:∀ c∈[(unitC n (-1),false)],c.1.length=n+1:=fun c hc=>by rw [Vp] at hc; subst hc; exact unitC_len n (-1)
 unfold gensP;rw [if_neg];intro hs;rw [VQ] at hs;obtain ⟨r,hr,h0⟩:=hs;have h0:0<hd1 r:=of_decide_eq_true h0
 have:=((keepP_iff.1 (Qk hl hr)).2.2 _ (Vp.2 rfl)).2 rfl
 rw [kW] at this;omega
def Lm (h:∀ c∈l,c.1.length=n+1):gensP n (consP n (gensP n l))=gensP n l:=by
 by_cases hs:(gensR (n+1) (eqsOf l) (ineqsOf n l)).any (fun r=>decide (0<hd1 r))=true
 ·exact A8 (GC (sO h)) h (AC h hs)
 ·have e:gensP n l=[]:=by unfold gensP; rw [if_neg hs]
  rw [e];exact none_empty
def poly_keeps (h:∀ c∈l,c.1.length=n+1) {g:Nat × V} (hg:g∈gensP n l) {c:V × Bool} (hc:c∈l\/c∈consP n (gensP n l)):keepsP c g=true:=by
 obtain ⟨k1,k2⟩:=p8 h hg;refine vO (l:=l) ?_ k1 k2;rcases hc with hc | hc
 ·exact Cu hc
 ·have hs:(gensR (n+1) (eqsOf l) (ineqsOf n l)).any (fun r=>decide (0<hd1 r))=true:=by
   cases hs:(gensR (n+1) (eqsOf l) (ineqsOf n l)).any (fun r=>decide (0<hd1 r)) with
   | true=>rfl
   | false =>
    unfold gensP at hg;rw [if_neg (by rw [hs]; decide)] at hg;cases hg
  exact fun x hx=>Cu hc x ((AC h hs x).2 hx)
def ValidG (n:Nat) (g:List (Nat × V)):Prop:=∀ x∈g,x.2.length=n+1/\(x.1=3->0<hd1 x.2)/\(x.1≠3->hd1 x.2=0)
def mem_lines {g:List (Nat × V)} {r:V}:r∈linesOf g ↔ (1,r)∈g:=by
 constructor
 ·intro h;obtain ⟨⟨k,a⟩,hc,rfl⟩:=Va.1 h;obtain ⟨h1,h2⟩:=Vv.1 hc;have h2:k=1:=by simpa using h2
  subst h2;exact h1
 ·intro h;exact Va.2 ⟨(1,r),Vv.2 ⟨h,rfl⟩,rfl⟩
def mem_rays {g:List (Nat × V)} {r:V}:r∈raysOf g ↔ ∃ k,k≠1/\(k,r)∈g:=by
 constructor
 ·intro h;obtain ⟨⟨k,a⟩,hc,rfl⟩:=Va.1 h;obtain ⟨h1,h2⟩:=Vv.1 hc;exact ⟨k,by simpa using h2,h1⟩
 ·rintro ⟨k,b,h⟩;exact Va.2 ⟨(k,r),Vv.2 ⟨h,by simpa using b⟩,rfl⟩
def Gm (h:∀ c∈l,c.1.length=n+1):ValidG n (gensP n l):=fun x hx=>by
 refine ⟨sO h x hx,fun e=>?_,fun e=>?_⟩
 ·unfold gensP at hx;split at hx
  ·rcases Vq.1 hx with hx | hx
   ·obtain ⟨r,-,rfl⟩:=Va.1 hx;cases e
   ·obtain ⟨r,-,rfl⟩:=Va.1 hx;have e:kindOf r=3:=e;unfold kindOf at e;split at e
    ·assumption
    ·omega
  ·cases hx
 ·obtain ⟨k1,k2⟩:=p8 h hx;have p1:=(keepP_iff.1 k1).2.1;unfold gensP at hx;split at hx
  ·rcases Vq.1 hx with hx | hx
   ·obtain ⟨r,-,rfl⟩:=Va.1 hx;have p2:=(keepP_iff.1 (k2 rfl)).2.1;cases r with
    | nil=>rfl
    | cons a r=>simp [scl,hd1] at p1 p2 ⊢; omega
   ·obtain ⟨r,-,rfl⟩:=Va.1 hx;have e:¬ kindOf r=3:=e;unfold kindOf at e;split at e
    ·omega
    ·have p1:0<=hd1 r:=p1;show hd1 r=0;omega
  ·cases hx
end
end Go.Proofs.YteaefaohjlmjdaaGreat.Lin
namespace Go.Proofs.YteaefaohjlmjdaaGreat.Ev
open Go Nn
section
variable {tab:Nat->Option az} {H:Heap} {s:AV}
def Cm (C:Code tab) (z:Wf H) {α:Type} {E:fF α} {ty fi:Nat} {first caps:List AV} {l:List α} (q:E.sz=2) (hs:SlV E ty H s l) (w:l.length<4611686018427387904) (p:α->Bool)
  (r:∀ a∈l,∀ H' cs,Kp H H'->E.R H' cs a->Ans tab (.fn fi (first++[.agg cs]++caps)) H' fun v H2=>v=.bool (p a)/\Kp H' H2) :
  Ans tab (.fn ct [s,.fn (.func fi) first caps]) H fun v H'=>v=.int .i64 (nL p l)/\Kp H H':=by
 refine bk C.q79 zU fun T hl c d=>?_;refine zW (aW hl c d hs.lenV) ?_;refine aq H [] (fun j _ _=>∀ k (h:k<l.length),k<j->p l[k]=false) (a:=0) (N:=l.length) rfl (by refine zW (aE hl c d) ?_; rfl) (zV (aE hl c d)) (Vk _) zO (by simp only [U4,hl]; rfl) rfl (fun _ _ _ _ h=>h) zK (fun k _ h=>by omega) ?_ ?_
 ·intro j T1 m _ hj b t i g f;have w1:=g.wf;have A:=g.le;have t0:ad T1 0=s:=(i.at_ 0 zU).trans (zV (aw hl c));have t1:ad T1 1=.fn (.func fi) first caps:=(i.at_ 1 zU).trans (zV (aW hl c d d))
  obtain ⟨cs,hr,y,-,o⟩:=(hs.mono g.sub).at (U7 hj);have n:=SlV.idx hs .i64 j hj;rw [q] at o n;simp only [U4,hl] at b;refine zW (dx b t0 t1 t n o) ?_;refine AnsH.eq (r _ (U9 hj) _ cs zK (E.mono ((zG m).t _) hr)) fun H2 u=>?_;obtain ⟨k2,_,_⟩:=zT H zK u;cases hp:p l[j] with
  | true =>
   refine zW b ?_;exact ⟨by rw [sM hj f hp],zK⟩
  | false =>
   refine zW b ?_;refine ⟨zK,fun k h x=>?_⟩;by_cases e:k=j
   ·subst e; exact hp
   ·exact f k h zO
 ·intro T1 m b i g f;simp only [U4,hl] at b;refine zW b ?_;exact ⟨by rw [pU fun k h=>f k h h],zK⟩
def pp (C:Code tab) (i:Wf H) {α:Type} {E:fF α} {ty fi:Nat} {first caps:List AV} {l:List α} (d:E.sz=2) (hs:SlV E ty H s l) (e:l.length<4611686018427387904) (p:α->Bool)
  (f:∀ a∈l,∀ H' cs,Kp H H'->E.R H' cs a->Ans tab (.fn fi (first++[.agg cs]++caps)) H' fun v H2=>v=.bool (p a)/\Kp H' H2) :
  Ans tab (.fn bV [s,.fn (.func fi) first caps]) H fun v H'=>v=.bool (l.any p)/\Kp H H':=by
 refine bk C.q55 zU fun T hl b c=>?_;refine zW (aE hl b c) ?_;refine AnsH.eq (Cm C zF d (hs.mono (zG H)) e p fun a ha H' cs g hr=>f a ha H' cs (Kp.trans (H:=H) zK g) hr) fun H2 h=>?_;obtain ⟨k2,_,_⟩:=zT H zK h;refine zW (aE hl b c) ?_;exact ⟨by rw [sN],zK⟩
def Cl (C:Code tab) (z:Wf H) {α:Type} {E:fF α} {ty fi:Nat} {first caps:List AV} {l:List α} (q:E.sz=2) (hs:SlV E ty H s l) (w:l.length<4611686018427387904) (p:α->Bool)
  (r:∀ a∈l,∀ H' cs,Kp H H'->E.R H' cs a->Ans tab (.fn fi (first++[.agg cs]++caps)) H' fun v H2=>v=.bool (p a)/\Kp H' H2) :
  Ans tab (.fn cq [s,.fn (.func fi) first caps]) H fun v H'=>v=.int .i64 (nL p l)/\Kp H H':=by
 refine bk C.q103 zU fun T hl c d=>?_;refine zW (aW hl c d hs.lenV) ?_;refine aq H [] (fun j _ _=>∀ k (h:k<l.length),k<j->p l[k]=false) (a:=0) (N:=l.length) rfl (by refine zW (aE hl c d) ?_; rfl) (zV (aE hl c d)) (Vk _) zO (by simp only [U4,hl]; rfl) rfl (fun _ _ _ _ h=>h) zK (fun k _ h=>by omega) ?_ ?_
 ·intro j T1 m _ hj b t i g f;have w1:=g.wf;have A:=g.le;have t0:ad T1 0=s:=(i.at_ 0 zU).trans (zV (aw hl c));have t1:ad T1 1=.fn (.func fi) first caps:=(i.at_ 1 zU).trans (zV (aW hl c d d))
  obtain ⟨cs,hr,y,-,o⟩:=(hs.mono g.sub).at (U7 hj);have n:=SlV.idx hs .i64 j hj;rw [q] at o n;simp only [U4,hl] at b;refine zW (dx b t0 t1 t n o) ?_;refine AnsH.eq (r _ (U9 hj) _ cs zK (E.mono ((zG m).t _) hr)) fun H2 u=>?_;obtain ⟨k2,_,_⟩:=zT H zK u;cases hp:p l[j] with
  | true =>
   refine zW b ?_;exact ⟨by rw [sM hj f hp],zK⟩
  | false =>
   refine zW b ?_;refine ⟨zK,fun k h x=>?_⟩;by_cases e:k=j
   ·subst e; exact hp
   ·exact f k h zO
 ·intro T1 m b i g f;simp only [U4,hl] at b;refine zW b ?_;exact ⟨by rw [pU fun k h=>f k h h],zK⟩
def po (C:Code tab) (i:Wf H) {α:Type} {E:fF α} {ty fi:Nat} {first caps:List AV} {l:List α} (d:E.sz=2) (hs:SlV E ty H s l) (e:l.length<4611686018427387904) (p:α->Bool)
  (f:∀ a∈l,∀ H' cs,Kp H H'->E.R H' cs a->Ans tab (.fn fi (first++[.agg cs]++caps)) H' fun v H2=>v=.bool (p a)/\Kp H' H2) :
  Ans tab (.fn bU [s,.fn (.func fi) first caps]) H fun v H'=>v=.bool (l.any p)/\Kp H H':=by
 refine bk C.q74 zU fun T hl b c=>?_;refine zW (aE hl b c) ?_;refine AnsH.eq (Cl C zF d (hs.mono (zG H)) e p fun a ha H' cs g hr=>f a ha H' cs (Kp.trans (H:=H) zK g) hr) fun H2 h=>?_;obtain ⟨k2,_,_⟩:=zT H zK h;refine zW (aE hl b c) ?_;exact ⟨by rw [sN],zK⟩
def nj (C:Code tab) (h:Wf H) {l:List Int} (hs:RowV H s l) (g:∀ z∈l,fq z):Ans tab (.fn pP [s]) H fun v H'=>v=.int .i64 (iu (Lin.hd1 l))/\Kp H H':=by
 refine cY C.q61 zU fun T hl b=>?_;cases l with
 | nil =>
  have ls:lenV s=some (.int .i64 0):=hs.lenV;refine zW (aE hl b ls) ?_;exact ⟨rfl,zK⟩
 | cons a l =>
  have ls:lenV s=some (.int .i64 ((l.length+1:Nat):Int)):=hs.lenV;have hne:¬ ((l.length+1:Nat):Int)=0:=zO;have d:0<(a :: l).length:=by simp
  obtain ⟨w,hn,c,-,-⟩:=jO hs d;have e:cd 2 s (.int .i64 0)=some (aA s 0):=SlV.idx hs .i64 0 d;have c:bc H (some 2) (aA s 0)=some (.agg [.bool (decide (a<0)),w]):=c;have hn:bA H w a.natAbs:=hn;refine zW (dx hl b ls hne e c) ?_;refine AnsH.eq (pu C (x:=a) zF ⟨w,rfl,hn.mono (zG H)⟩ (g a (by simp))) fun H2 f=>?_;obtain ⟨k2,_,_⟩:=zT H zK f;refine zW (aw hl b) ?_;exact ⟨rfl,zK⟩
def yn (C:Code tab) (d:Wf H) {v:AV} {b:Bool} (ov:One v):Ans tab (.fn fl [.agg [v,.bool b]]) H fun x H'=>x=v/\Kp H H':=by
 have c:iq (.agg [v,.bool b])=some [v,.bool b]:=by simp [iq,AV.cells,ov.2]; rfl
 refine cY C.q36 zU fun T hl a=>?_;refine zW (aE hl a c) ?_;exact zK
def ym (C:Code tab) (c:Wf H) {v:AV} {k:Int} (ov:One v):Ans tab (.fn fk [.agg [.int .u8 k,v]]) H fun x H'=>x=v/\Kp H H':=by
 have b:iq (.agg [.int .u8 k,v])=some [.int .u8 k,v]:=by simp [iq,AV.cells,ov.2]; rfl
 refine cY C.q47 zU fun T hl a=>?_;refine zW (aE hl a b) ?_;exact zK
def L8 (C:Code tab) (d:Wf H) {v:AV} {b:Bool} (ov:One v):Ans tab (.fn lz [.agg [v,.bool b]]) H fun x H'=>x=.bool false/\Kp H H':=by
 have c:iq (.agg [v,.bool b])=some [v,.bool b]:=by simp [iq,AV.cells,ov.2]; rfl
 refine cY C.q37 zU fun T hl a=>?_;refine zW (aE hl a c) ?_;exact zK
def HM (x:Int):0<=iu x ↔ 0<=x:=by unfold iu; split <;> (try split) <;> omega
def xG (C:Code tab) (G:Wf H) {n:Nat} {k:Int} (hn:n<=60) (y : -9223372036854775808<=k) (f:k<9223372036854775808) :
  Ans tab (.fn rt [.int .i64 (n:Int),.int .i64 k]) H fun v H'=>RowV H' v (Lin.unitC n k)/\Kp H H':=by
 obtain ⟨cells,l⟩:∃ cells,cells=(List.replicate (n+1) [AV.bool false,AV.nilSl]).flatten:=⟨_,rfl⟩
 have z:∀ H':Heap,Io H' (H.next+3) aa 2 32 [.bool false,.nilSl] (.int .i64 ((n+1:Nat):Int)) (.int .i64 ((n+1:Nat):Int))=some (.own (H.next+3) 0 (n+1) (n+1) 2 true,H'.put (H.next+3) (.cells cells aa true)):=fun H'=>by rw [l]; exact jg _ _ _ _ _ _ _ _ _ zO zO rfl
 have t:IntKind.i64.wrap ((n:Int)+1)=((n+1:Nat):Int):=by rw [wrap_i64] <;> omega
 refine bk C.q57 zU fun T hl m o=>?_;refine zW (bO hl m o t z) ?_;refine AnsH.use (oN C (n:=k) zF y f) ?_;rintro v H2 ⟨⟨w,rfl,r⟩,f⟩;obtain ⟨k2,_,D⟩:=zT H zK f;have B:=r.one;have h:=f.get (b:=H.next+3) (e:=.cells cells aa true) (cy);have I:=D _ _ h;have F:cells.length=(n+1)*2:=by rw [l]; simp
 have s:Fs (some (.cells cells aa true)) 2 0 (.agg [.bool (decide (k<0)),w])=some (.cells (cells.take 0++[.bool (decide (k<0)),w]++cells.drop (0+2)) aa true):=jF (Gn (aI _) B) zO;have x:cd 2 (.own (H.next+3) 0 (n+1) (n+1) 2 true) (.int .i64 0)=some (.ptr (H.next+3) 0):=nK (j:=0) zO;obtain ⟨d,p⟩:∃ c,c=cells.take 0++[.bool (decide (k<0)),w]++cells.drop (0+2):=⟨_,rfl⟩
 rw [<- p] at s;have A:intE.R H2 [.bool false,.nilSl] 0:=⟨.nilSl,by simp,dM H2⟩
 have hcl:Cells intE H2 cells (List.replicate (n+1) 0):=by rw [l]; exact sC A _
 have q:Cells intE H2 d ((List.replicate (n+1) 0).set 0 k):=by rw [p]; exact hcl.set (i:=0) (by simp) ⟨w,rfl,r⟩
 have m3:NoTy [ae] H2 (H.next+3):=NoTy.ty h zU;refine zW (dx hl m o x h s) ?_;refine ⟨?_,zK⟩;have e:(List.replicate (n+1) (0:Int)).set 0 k=Lin.unitC n k:=by rw [Wu]; rfl
 rw [e] at q;obtain ⟨a,g⟩:∃ a,a=(H2.up 2).put (H.next+3) (.cells d aa true):=⟨_,rfl⟩
 have u:Cells intE a d (Lin.unitC n k):=by rw [g]; exact Cells.mono (E:=intE) zS q
 have:Own intE aa H a (H.next+3) true (.own (H.next+3) 0 (n+1) (n+1) 2 true) (Lin.unitC n k):=⟨d,by rw [Lin.unitC_len]; rfl,by rw [g]; exact ap _ _ _,u,zO⟩
 rw [<- g];exact this.sl
abbrev tu:=List (Bool × List Nat) × Bool
abbrev tt:=Nat × List (Bool × List Nat)
def Bv (C:Code tab) (l:Wf H) {cs:List AV} {c:tu} {g h:Nat} {r1 r2:Bool} (hc:conQE.R H cs c) (n:qG c.1)
  (h1:H.get g=some (.cells [.fn (.func fl) [] []] fM r1)) (h2:H.get h=some (.cells [.fn (.func lz) [] []] tj r2)) :
  Ans tab (.fn eW [.agg cs,.ptr g 0,.ptr h 0]) H fun v H'=>v=.bool (!vE c.1)/\Kp H H':=by
 obtain ⟨v,rfl,k⟩:=hc;have ov:=k.one;have w:=l _ _ h1;have x:=l _ _ h2;have o:iq (.agg [v,.bool c.2])=some [v,.bool c.2]:=by simp [iq,AV.cells,ov.2]; rfl
 refine ni C.q54 zU fun T hl d f a=>?_;refine zW (fE hl d f a o h1 h2) ?_;refine AnsH.eq (yn C zF ov) fun H2 i=>?_;obtain ⟨k2,_,y⟩:=zT H zK i;have d0:=i.get (b:=H.next) (e:=.cells [v,.bool c.2] t_api_Con true) (cy);refine zW (aW hl d f a) ?_;refine AnsH.eq (su C zF (k.mono (zG H)) n) fun r j=>?_;obtain ⟨q,_,z⟩:=zT H zK j;have d3:=j.get d0;have m:=q.get h2;cases t:vE c.1 with
 | false =>
  refine zW (aW hl d f a) ?_;exact zK
 | true =>
  refine zW (fE hl d f a d3 m a) ?_;refine AnsH.eq (L8 C zF ov) fun s p=>?_;obtain ⟨u,_,_⟩:=zT H zK p;refine zW (aW hl d f a) ?_;exact zK
def Bu (C:Code tab) (h:Wf H) {cs:List AV} {c:tu} {n:Int} {e f:Nat} {r1 r2:Bool} (hc:conQE.R H cs c) (hn:0<=n/\n<=1000)
  (h1:H.get e=some (.cells [.fn (.func fl) [] []] fM r1)) (h2:H.get f=some (.cells [.int .i64 n] dj r2)) :
  Ans tab (.fn eU [.agg cs,.ptr e 0,.ptr f 0]) H fun v H'=>v=.bool (decide ((c.1.length:Int)≠n+1))/\Kp H H':=by
 obtain ⟨v,rfl,g⟩:=hc;have ov:=g.one;have m:=h _ _ h1;have o:=h _ _ h2;have k:iq (.agg [v,.bool c.2])=some [v,.bool c.2]:=by simp [iq,AV.cells,ov.2]; rfl
 have j:IntKind.i64.wrap (n+1)=n+1:=by rw [wrap_i64] <;> omega
 refine ni C.q56 zU fun T hl a b d=>?_;refine zW (fE hl a b d k h1 h2) ?_;refine aF ?_;refine zD (dx hl a b d h1 h2) ?_;refine AnsH.eq (yn C zF ov) fun H2 l=>?_;obtain ⟨k2,_,p⟩:=zT H zK l;have i:=k2.get h2;refine zD (jB hl a b d h1 h2 i g.lenV j) ?_;exact ⟨by simp,zK⟩
def dw (n:Int) (l:List tu):Int :=
 if n<0\/8<n then 2 else if 60<l.length then 4 else if l.any (fun c=>!vE c.1) then 8 else if l.any (fun c=>decide ((c.1.length:Int)≠n+1)) then 70 else 0
def ph (C:Code tab) (u:Wf H) {n:Int} {l:List tu} (hs:SlV conQE t_api_Con H s l) (q:∀ c∈l,qG c.1) (p:l.length<4611686018427387904) :
  Ans tab (.fn fX [.int .i64 n,s,.fn (.func fl) [] [],.fn (.func lz) [] []]) H fun v H'=>v=.int .i64 (dw n l)/\Kp H H':=by
 refine QO C.q35 zU fun T hl d f g i=>?_;by_cases q1:n<0
 ·refine zW (dx hl d f g i q1) ?_;exact ⟨by rw [dw,if_pos (.inl q1)],zK⟩
 by_cases q2:8<n
 ·refine zW (fE hl d f g i q1 q2) ?_;exact ⟨by rw [dw,if_pos (.inr q2)],zK⟩
 have k:¬ (n<0\/8<n):=fun h=>h.elim q1 q2;by_cases q3:(60:Int)<(l.length:Int)
 ·refine zW (jB hl d f g i q1 q2 q3 hs.lenV) ?_;exact ⟨by rw [dw,if_neg k,if_pos zO],zK⟩
 have m:¬ 60<l.length:=zO;refine zW (jB hl d f g i q1 q2 q3 hs.lenV) ?_;refine AnsH.eq (pp C zF (first:=[]) rfl (hs.mono (zG H)) p (fun c=>!vE c.1) fun a ha H' cs j hr=>Bv C j.wf hr (q a ha) (j.get (by refine wO ?_; rfl)) (j.get (by refine wO ?_; rfl))) fun H2 o=>?_;obtain ⟨k2,_,x⟩:=zT H zK o;cases q4:l.any (fun c=>!vE c.1) with
 | true =>
  refine zW (bO hl d f g i) ?_;exact ⟨by rw [dw,if_neg k,if_neg m,if_pos q4],zK⟩
 | false =>
 have d0:=o.get (b:=H.next) (e:=.cells [.int .i64 n] dj true) (cy);have d1:=o.get (b:=H.next+1) (e:=.cells [.fn (.func fl) [] []] fM true) (cy);refine zW (aE hl d f) ?_;refine AnsH.eq (pp C zF (first:=[]) rfl (hs.mono (zG H)) p (fun c=>decide ((c.1.length:Int)≠n+1)) fun a ha H' cs j hr=>Bu C j.wf hr ⟨zO,zO⟩ (j.get (b:=H.next+1) (by first | exact d1 | (refine wO ?_; exact d1))) (j.get (b:=H.next) (by first | exact d0 | (refine wO ?_; exact d0)))) fun t r=>?_;obtain ⟨w,_,_⟩:=zT H zK r;cases q5:l.any (fun c=>decide ((c.1.length:Int)≠n+1)) with
 | true =>
  refine zW (bO hl d f g i) ?_;exact ⟨by rw [dw,if_neg k,if_neg m,if_neg (by rw [q4]; decide),if_pos q5],zK⟩
 | false =>
  refine zW (bO hl d f g i) ?_;exact ⟨by rw [dw,if_neg k,if_neg m,if_neg (by rw [q4]; decide),if_neg (by rw [q5]; decide)],zK⟩
def FX (g:Nat × List Int):Bool :=
 if g.1=1\/g.1=2 then decide (Lin.hd1 g.2≠0) else if g.1=3 then decide (Lin.hd1 g.2<=0) else true
def zf (x:Int):0<iu x ↔ 0<x:=by unfold iu; split <;> (try split) <;> omega
def Si (x:Int):iu x<=0 ↔ x<=0:=by unfold iu; split <;> (try split) <;> omega
def OE (C:Code tab) (g:Wf H) {v:AV} {k:Nat} {l:List Int} (d:RowV H v l) (e:∀ z∈l,fq z):Ans tab (.fn m6 [.agg [.int .u8 (k:Int),v]]) H fun x H'=>x=.bool (FX (k,l))/\Kp H H':=by
 have ov:=d.one;have c:iq (.agg [.int .u8 (k:Int),v])=some [.int .u8 (k:Int),v]:=by simp [iq,AV.cells,ov.2]; rfl
 refine cY C.q48 zU fun T hl a=>?_;by_cases q1:(k:Int)=1
 ·refine zW (aW hl a c q1) ?_;refine AnsH.eq (nj C zF (d.mono (zG H)) e) fun H2 b=>?_;obtain ⟨k2,_,_⟩:=zT H zK b;refine zW (aw hl a) ?_;refine ⟨?_,zK⟩;congr 1;rw [FX,if_pos (.inl zO),Wi];simp [iW]
 by_cases q2:(k:Int)=2
 ·refine zW (bO hl a c q1 q2) ?_;refine AnsH.eq (nj C zF (d.mono (zG H)) e) fun H2 b=>?_;obtain ⟨k2,_,_⟩:=zT H zK b;refine zW (aw hl a) ?_;refine ⟨?_,zK⟩;congr 1;rw [FX,if_pos (.inr zO),Wi];simp [iW]
 have q12:¬ (k=1\/k=2):=zO;by_cases q3:(k:Int)=3
 ·refine zW (dx hl a c q1 q2 q3) ?_;refine AnsH.eq (nj C zF (d.mono (zG H)) e) fun H2 b=>?_;obtain ⟨k2,_,_⟩:=zT H zK b;refine zW (aw hl a) ?_;refine ⟨?_,zK⟩;congr 1;have f:k=3:=zO;rw [FX,if_neg q12,if_pos f,Wi];simp [Si]
 ·refine zW (dx hl a c q1 q2 q3) ?_;refine ⟨?_,zK⟩;have f:¬ k=3:=zO;rw [FX,if_neg q12,if_neg f]
def Ca (g:tt):Bool:=!vE g.2 || FX (g.1,g.2.map cB)
def Bs (C:Code tab) (p:Wf H) {cs:List AV} {c:tt} {k m:Nat} {r1 r2:Bool} (hc:genQE.R H cs c) (r:qG c.2) (i:∀ z∈c.2,Lim z.2/\z.2.length<=1048576)
  (h1:H.get k=some (.cells [.fn (.func fk) [] []] fL r1)) (h2:H.get m=some (.cells [.fn (.func m6) [] []] tf r2)) :
  Ans tab (.fn eT [.agg cs,.ptr k 0,.ptr m 0]) H fun v H'=>v=.bool (Ca c)/\Kp H H':=by
 obtain ⟨v,rfl,j⟩:=hc;have ov:=j.one;have B:=p _ _ h1;have D:=p _ _ h2;have s:iq (.agg [.int .u8 (c.1:Int),v])=some [.int .u8 (c.1:Int),v]:=by simp [iq,AV.cells,ov.2]; rfl
 refine ni C.q73 zU fun T hl d f a=>?_;refine zW (fE hl d f a s h1 h2) ?_;refine AnsH.eq (ym C zF ov) fun H2 n=>?_;obtain ⟨k2,_,E⟩:=zT H zK n;have d0:=n.get (b:=H.next) (e:=.cells [.int .u8 (c.1:Int),v] ai true) (cy);refine zW (aW hl d f a) ?_;refine AnsH.eq (su C zF (j.mono (zG H)) r) fun w o=>?_;obtain ⟨u,_,F⟩:=zT H zK o;have d3:=o.get d0;have q:=u.get h2;cases g:vE c.2 with
 | false =>
  refine zW (aW hl d f a) ?_;exact ⟨by simp [Ca,g],zK⟩
 | true =>
  have hb:∀ z∈c.2,qi z=false:=by
   simp only [vE,VH,Wk,Ww,YS] at g;exact g.2
  refine zW (fE hl d f a d3 q a) ?_;refine AnsH.eq (OE C (l:=c.2.map cB) zF ((SlV.int j fun z h=>⟨hb z h,(i z h).1⟩).mono (zG H)) fun z h=>?_) fun y t=>?_
  ·obtain ⟨x,hx,rfl⟩:=Va.1 h;exact (Ng (i x hx).1 (i x hx).2).sm zO
  obtain ⟨A,_,_⟩:=zT H zK t;refine zW (aW hl d f a) ?_;exact ⟨by simp [Ca,g],zK⟩
def Br (C:Code tab) (h:Wf H) {cs:List AV} {c:tt} {n:Int} {e f:Nat} {r1 r2:Bool} (hc:genQE.R H cs c) (hn:0<=n/\n<=1000)
  (h1:H.get e=some (.cells [.fn (.func fk) [] []] fL r1)) (h2:H.get f=some (.cells [.int .i64 n] dj r2)) :
  Ans tab (.fn eS [.agg cs,.ptr e 0,.ptr f 0]) H fun v H'=>v=.bool (decide ((c.2.length:Int)≠n+1))/\Kp H H':=by
 obtain ⟨v,rfl,g⟩:=hc;have ov:=g.one;have m:=h _ _ h1;have o:=h _ _ h2;have k:iq (.agg [.int .u8 (c.1:Int),v])=some [.int .u8 (c.1:Int),v]:=by simp [iq,AV.cells,ov.2]; rfl
 have j:IntKind.i64.wrap (n+1)=n+1:=by rw [wrap_i64] <;> omega
 refine ni C.q75 zU fun T hl a b d=>?_;refine zW (fE hl a b d k h1 h2) ?_;refine aF ?_;refine zD (dx hl a b d h1 h2) ?_;refine AnsH.eq (ym C zF ov) fun H2 l=>?_;obtain ⟨k2,_,p⟩:=zT H zK l;have i:=k2.get h2;refine zD (jB hl a b d h1 h2 i g.lenV j) ?_;exact ⟨by simp,zK⟩
def bI (n:Int) (l:List tt):Int :=
 if n<0\/8<n then 2 else if 60<l.length then 4 else if l.any Ca then 8 else if l.any (fun c=>decide ((c.2.length:Int)≠n+1)) then 70 else 0
def kT (C:Code tab) (w:Wf H) {n:Int} {l:List tt} (hs:SlV genQE ai H s l) (q:∀ c∈l,qG c.2) (r:∀ c∈l,∀ z∈c.2,Lim z.2/\z.2.length<=1048576) (p:l.length<4611686018427387904) :
  Ans tab (.fn fW [.int .i64 n,s,.fn (.func fk) [] [],.fn (.func m6) [] []]) H fun v H'=>v=.int .i64 (bI n l)/\Kp H H':=by
 refine QO C.q46 zU fun T hl d f g i=>?_;by_cases q1:n<0
 ·refine zW (dx hl d f g i q1) ?_;exact ⟨by rw [bI,if_pos (.inl q1)],zK⟩
 by_cases q2:8<n
 ·refine zW (fE hl d f g i q1 q2) ?_;exact ⟨by rw [bI,if_pos (.inr q2)],zK⟩
 have k:¬ (n<0\/8<n):=fun h=>h.elim q1 q2;by_cases q3:(60:Int)<(l.length:Int)
 ·refine zW (jB hl d f g i q1 q2 q3 hs.lenV) ?_;exact ⟨by rw [bI,if_neg k,if_pos zO],zK⟩
 have m:¬ 60<l.length:=zO;refine zW (jB hl d f g i q1 q2 q3 hs.lenV) ?_;refine AnsH.eq (po C zF (first:=[]) rfl (hs.mono (zG H)) p Ca fun a ha H' cs j hr=>Bs C j.wf hr (q a ha) (r a ha) (j.get (by refine wO ?_; rfl)) (j.get (by refine wO ?_; rfl))) fun H2 o=>?_;obtain ⟨k2,_,y⟩:=zT H zK o;cases q4:l.any Ca with
 | true =>
  refine zW (bO hl d f g i) ?_;exact ⟨by rw [bI,if_neg k,if_neg m,if_pos q4],zK⟩
 | false =>
 have d0:=o.get (b:=H.next) (e:=.cells [.int .i64 n] dj true) (cy);have d1:=o.get (b:=H.next+1) (e:=.cells [.fn (.func fk) [] []] fL true) (cy);refine zW (aE hl d f) ?_;refine AnsH.eq (po C zF (first:=[]) rfl (hs.mono (zG H)) p (fun c=>decide ((c.2.length:Int)≠n+1)) fun a ha H' cs j hr=>Br C j.wf hr ⟨zO,zO⟩ (j.get (b:=H.next+1) (by first | exact d1 | (refine wO ?_; exact d1))) (j.get (b:=H.next) (by first | exact d0 | (refine wO ?_; exact d0)))) fun u t=>?_;obtain ⟨x,_,_⟩:=zT H zK t;cases q5:l.any (fun c=>decide ((c.2.length:Int)≠n+1)) with
 | true =>
  refine zW (bO hl d f g i) ?_;exact ⟨by rw [bI,if_neg k,if_neg m,if_neg (by rw [q4]; decide),if_pos q5],zK⟩
 | false =>
  refine zW (bO hl d f g i) ?_;exact ⟨by rw [bI,if_neg k,if_neg m,if_neg (by rw [q4]; decide),if_neg (by rw [q5]; decide)],zK⟩
def wN (C:Code tab) (h:Wf H) {fi:Nat} {first caps:List AV} {l:List (List Int)} (hs:eF H s l) (c:l.length<4611686018427387904) (p:List Int->Bool)
  (d:∀ r∈l,∀ H' w,Kp H H'->RowV H' w r->Ans tab (.fn fi (first++[w]++caps)) H' fun v H2=>v=.bool (p r)/\Kp H' H2) :
  Ans tab (.fn bT [s,.fn (.func fi) first caps]) H fun v H'=>v=.bool (l.any p)/\Kp H H':=by
 refine bk C.q59 zU fun T hl a b=>?_;refine zW (aE hl a b) ?_;refine AnsH.eq (sj C zF (hs.mono (zG H)) c p fun r hr H' w e g=>d r hr H' w (Kp.trans (H:=H) zK e) g) fun H2 f=>?_;obtain ⟨k2,_,_⟩:=zT H zK f;refine zW (aE hl a b) ?_;exact ⟨by rw [sN],zK⟩
end
def Bq {α:Type} (E:fF α) (ty:Nat) (H0 H:Heap) (v:AV) (l:List α):Prop:=(v=.nilSl/\l=[])\/∃ b ex,Own E ty H0 H b ex v l
section
variable {α β:Type} {E:fF α} {E':fF β} {ty:Nat} {H0 H H':Heap} {v w:AV} {l:List α} {m:List β}
def Bq.nil:Bq E ty H0 H .nilSl []:=.inl ⟨rfl,rfl⟩
def Bq.of (h:Bl E ty H0 H v l):Bq E ty H0 H v l:=by
 rcases h with h | ⟨b,h⟩
 ·exact .inl h
 ·exact .inr ⟨b,false,h⟩
def Bq.sl (h:Bq E ty H0 H v l):SlV E ty H v l:=by
 rcases h with ⟨rfl,rfl⟩ | ⟨b,ex,h⟩
 ·exact SlV.nil E ty H
 ·exact h.sl
def Bq.mono (hs:Sub H H') (h:Bq E ty H0 H v l):Bq E ty H0 H' v l:=by
 rcases h with h | ⟨b,ex,h⟩
 ·exact .inl h
 ·exact .inr ⟨b,ex,h.mono hs⟩
def Bq.lt (a:Wf H) (h:Bq E ty H0 H v l) {b:Nat} (hb:kb v=some b):b<H.next:=by
 rcases h with ⟨rfl,-⟩ | ⟨b',ex,cells,rfl,hg,-⟩
 ·cases hb
 ·cases hb;exact a _ _ hg
def Frm.subTq {tys:List Nat} (a:Frm v H H') (h:Bq E ty H0 H v l) (hn:ty ∉ tys):SubT tys H H':=fun c cs t r d hc=>a c _ hc fun e=>by
 rcases h with ⟨rfl,-⟩ | ⟨b,ex,cells,rfl,hb,-⟩
 ·cases e
 ·cases e;rw [hb] at hc; cases hc;exact hn d
def Frm.bq (c:Frm v H H') (h:Bq E ty H0 H v l) (a:Bq E' ty H0 H w m) (hs:Sep v w) (d:ty ∉ E'.tys):Bq E' ty H0 H' w m:=by
 rcases a with a | ⟨b,ex,cells,rfl,hb,hc,h0⟩
 ·exact .inl a
 ·exact .inr ⟨b,ex,cells,rfl,c b _ hb fun e=>hs b e rfl,hc.mono (c.subTq h d),h0⟩
def Bq.push {ty2 bytes id id2:Nat} {cs:List AV} {a:α} (h:Bq E ty H0 H v l) (G:ty ∉ E.tys) (r:Kp H0 H) (hr:E.R H cs a) (o:H0.next<=id) (p:id<H.next) (k:H.get id=none) (g:H0.next<=id2) (q:id2<H.next) (m:H.get id2=none) (hne:id≠id2)
  (hb:(l.length+1)*bytes<=70368744177664) (hl:l.length+1<4611686018427387904) :
  ∃ n H',cC (H.put id2 (.cells cs ty2 true)) id E.sz bytes ty v (.own id2 0 1 1 E.sz true)=some (.own id 0 n n E.sz false,H')/\Bq E ty H0 H' (.own id 0 n n E.sz false) (l++[a])/\Kp H0 H'/\H'.next=H.next/\Frm v H H'/\(∀ c,c≠id->c≠id2->H.get c=none->H'.get c=none):=by
 have f:Bl E ty H0 H v l\/∃ b,Own E ty H0 H b true v l:=by
  rcases h with h | ⟨b,ex,h⟩
  ·exact .inl (.inl h)
  ·cases ex with
   | false=>exact .inl (.inr ⟨b,h⟩)
   | true=>exact .inr ⟨b,h⟩
 rcases f with f | ⟨b,F⟩
 ·obtain ⟨n,H',d,j,e3⟩:=Bl.push2 (ty2:=ty2) (bytes:=bytes) f G r hr o p k g q m hne hb hl;exact ⟨n,H',d,.of j,e3⟩
 ·have i:Sub H (H.put id2 (.cells cs ty2 true)):=aV m;have D:Kp H0 (H.put id2 (.cells cs ty2 true)):=r.put g q;have hy:SlV E ty2 (H.put id2 (.cells cs ty2 true)) (.own id2 0 1 1 E.sz true) [a] :=
   (show Own E ty2 H0 _ id2 true (.own id2 0 1 1 E.sz true) [a] from ⟨cs,rfl,ap _ _ _,Cells.one (E.mono (i.t _) hr),g⟩).sl
  have s:=F.mono i;have hs:=s.sl;obtain ⟨cells,t,hg,-,-⟩:=s;rw [t] at hs;obtain ⟨J,H',d,j,e3,w,x,y⟩:=SlV.app (bytes:=bytes) (id:=id) hs D hy o p (by rw [aB hne]; exact k) hb hl;obtain ⟨u,I,C,B,z⟩:=y (by simp);rw [I] at d;refine ⟨_,H',by rw [t]; exact d,.inr ⟨id,false,u,rfl,C,B,z⟩,e3,w,fun b e A _=>x.get _ _ (i.get _ _ A),fun c h1 h2 h3=>Dl d h1 (by rw [aB h2]; exact h3)⟩
end
def zr {a:AV} (ha:One a) (x y:AV):fm [x,y] [((0,1),a)]=some (.agg [a,y]):=by
 simp [fm,cZ,ha.1,ha.2]
section
open Lin
variable {n:Nat} {l:List (V × Bool)}
def OB {j:Nat} (hj:j<l.length):eqsOf (l.take (j+1))=if l[j].2=true then eqsOf (l.take j)++[l[j].1] else eqsOf (l.take j):=by
 rw [Ve hj];unfold eqsOf;rw [Wt,V9];cases h:l[j].2 <;> simp [h]
def IA {j:Nat} (hj:j<l.length):ineqsOf n (l.take (j+1))=if l[j].2=true then ineqsOf n (l.take j) else ineqsOf n (l.take j)++[l[j].1]:=by
 rw [Ve hj];unfold ineqsOf;rw [Wt,V9];cases h:l[j].2 <;> simp [h]
def OC (l:List (V × Bool)):(eqsOf l).length<=l.length:=by
 unfold eqsOf;rw [Vh];exact W7 _ _
def vS (l:List (V × Bool)):(ineqsOf n l).length<=l.length+1:=by
 unfold ineqsOf;rw [VP,Vh]
 have:=W7 (fun c:V × Bool=>!c.2) l
 omega
def DG (n m:Nat):Bd (2^m) (unitC n 1):=fun i=>by
 have h1:1<=2^m:=VY zU;unfold unitC at_;cases i with
 | zero=>simpa using h1
 | succ i =>
  rw [WE,U5,We];split <;> simp
end
section
variable {tab:Nat->Option az} {H:Heap} {s:AV}
def Bf (C:Code tab) (d:Wf H) {l:List Int} (hs:RowV H s l) (c:∀ z∈l,fq z):Ans tab (.fn kQ [s]) H fun v H'=>v=.bool (decide (0<Lin.hd1 l))/\Kp H H':=by
 refine cY C.q60 zU fun T hl a=>?_;refine zW (aw hl a) ?_;refine AnsH.eq (nj C zF (hs.mono (zG H)) c) fun H2 b=>?_;obtain ⟨k2,_,_⟩:=zT H zK b;have e:decide (iu (Lin.hd1 l) > 0)=decide (0<Lin.hd1 l):=by
  rw [Wi];simp [zf]
 refine zW (aw hl a) ?_;exact ⟨by simp [zf],zK⟩
set_option maxHeartbeats 4000000 in
def yl (C:Code tab) (hw:Wf H) {n m:Nat} {l:List (List Int × Bool)} (hs:SlV conE t_api_Con H s l) (hn:n<=4) (bi:l.length<=1023) (a0:(l.length+1)^n<1099000000000) (aK:∀ c∈l,c.1.length=n+1/\Lin.Bd (2^m) c.1) (hm:m<=300000) :
  Ans tab (.fn oG [.int .i64 (n:Int),s]) H fun v H'=>SlV genE ai H' v (Lin.gensP n l)/\Kp H H':=by
 refine ts C.q38 rfl rfl zU fun T hl g=>?_;have hl:T.length=79:=hl;have aL:c_dual_points.results=[(4,none)]:=rfl;have g0:ad T 0=.int .i64 (n:Int):=g 0 (by simp);have g1:ad T 1=s:=g 1 (by simp);refine aG ?_;refine zW (aw hl @am) ?_;refine aG ?_;refine zW (aw hl @am) ?_;refine bP (fun T' H'=>∃ o,ad T' 6=o/\Kp H H'/\Bq rowsE af H H' o [Lin.unitC n 1]) rfl ?_ ?_
 ·refine zW (aw hl g0) ?_;refine AnsH.use (xG C (n:=n) (k:=1) zF zO zO zO) ?_;rintro v H2 ⟨hr,A⟩;obtain ⟨k2,_,w2⟩:=zT H zK A;have ov:=hr.one;have n2:H.next+6<=H2.next:=A.le
  have f2:H2.get (H.next+4)=none:=A.free (show H.next+4<H.next+6 by omega) (hw.fresh (b:=H.next+4) zO);refine zW (aw hl @aC) ?_;refine ⟨_,rfl,zK,.inr ⟨H.next+4,true,[v],rfl,ap _ _ _,?_,zO⟩⟩;exact Cells.one (E:=rowsE) ⟨v,rfl,hr.mono (aV f2)⟩
 rintro T1 H1 ah ⟨o,t6,k1,b1⟩;have w1:=k1.wf;have bl:=k1.le;have t0:ad T1 0=.int .i64 (n:Int):=(ah.at_ 0 zU).trans (zV (aw hl g0));have t1:ad T1 1=s:=(ah.at_ 1 zU).trans (zV (aw hl g1));have t4:ad T1 4=.nilSl:=(ah.at_ 4 zU).trans (zV hl);have t5:ad T1 5=.nilSl:=(ah.at_ 5 zU).trans (zV hl);have I:T1.length=79:=ah.len.trans (by simp only [U4]; exact hl);have bk:=hs.mono k1.sub;refine bP (fun T' H'=>∃ u x,ad T' 5=u/\ad T' 6=x/\Kp H H'/\eF H' u (Lin.eqsOf l)/\eF H' x (Lin.ineqsOf n l)) rfl ?_ ?_
 ·refine zW (aE I t1 hs.lenV) ?_;refine aq H [5,6] (fun j vs H'=>∃ u x,vs=[u,x]/\Bq rowsE af H H' u (Lin.eqsOf (l.take j))/\Bq rowsE af H H' x (Lin.ineqsOf n (l.take j))/\Sep u x) (a:=0) (N:=l.length) rfl (by refine zW I ?_; rfl) (zV I) (Vk _) zO (by simp only [U4,I]; rfl) rfl (fun j vs H' m ⟨u,x,q1,q2,q3,q4⟩=>⟨u,x,q1,q2.mono (Sub.bump H' m),q3.mono (Sub.bump H' m),q4⟩) zK ⟨.nilSl,o,by exact zV (aE I t5 t6),Bq.nil,b1.mono (Sub.bump H1 _),fun b h=>by cases h⟩ ?_ ?_
  ·rintro j T2 H2 _ hj G aJ aa A ⟨u,x,f,Q,S,ay⟩;have w2:=A.wf;have bp:=A.le;have a8:=A.le;simp only [Vb,Vf,Vd,and_true] at f;obtain ⟨v5,v6⟩:=f;have aR:ad T2 20=s:=(aa.at_ 20 zU).trans (zV (aw I t1));obtain ⟨cs,⟨w,rfl,hr⟩,bj,-,D⟩:=(hs.mono A.sub).at (U7 hj);have Z:cd 2 s (.int .i64 (j:Int))=some (aA s (j*2)):=SlV.idx hs .i64 j hj;have D:bc H2 (some 2) (aA s (j*2))=some (.agg [w,.bool l[j].2]):=D;have ow:=hr.one;simp only [U4,I] at G;have he:=OB (l:=l) hj;have hi:=IA (n:=n) (l:=l) hj;have l5:=OC (l.take j);have l6:=vS (n:=n) (l.take j);rw [Vx] at l5 l6;obtain ⟨P,V⟩:∃ P,P=((H2.up 12).put (H2.next+2) (.cells [.nilSl,.bool false] t_api_Con true)).put (H2.next+2) (.cells [w,.bool l[j].2] t_api_Con true):=⟨_,rfl⟩
   have M:Kp H2 P:=by rw [V]; exact zK
   have aO:Kp H P:=A.trans M;have nx:P.next=H2.next+12:=by rw [V]; rfl
   have fx:∀ c,H2.next<=c->c≠H2.next+2->P.get c=none:=fun c h1 h2=>by rw [V,aB h2,aB h2]; exact w2.fresh h1
   have aM:rowsE.R P [w] l[j].1:=⟨w,rfl,hr.mono M.sub⟩
   cases hb:l[j].2 with
   | true =>
    rw [hb] at D V he hi;obtain ⟨O,B,U,b6,k6,aP,f6,-⟩:=Bq.push (ty2:=af) (bytes:=24) (id:=H2.next+10) (id2:=H2.next+9) (Q.mono M.sub) zU aO aM zO zO (fx _ zO zO) zO zO (fx _ zO zO) zO zO zO;have ae:cC ((((H2.up 12).put (H2.next+2) (.cells [.nilSl,.bool false] t_api_Con true)).put (H2.next+2) (.cells [w,.bool true] t_api_Con true)).put (H2.next+9) (.cells [w] af true)) (H2.next+10) 1 24 af u (.own (H2.next+9) 0 1 1 1 true)=some (.own (H2.next+10) 0 O O 1 false,B):=by rw [V] at U; exact U
    refine zW (jC G aR aJ Z D v5 v6 ae) ?_;refine ⟨k6,_,_,rfl,?_,?_,?_⟩
    ·rw [he,if_pos rfl]; exact b6
    ·rw [hi,if_pos rfl]; exact f6.bq (Q.mono M.sub) (S.mono M.sub) ay zU
    ·intro b h1 h2
     have:=S.lt w2 h2
     cases h1;omega
   | false =>
    rw [hb] at D V he hi;obtain ⟨O,B,U,b6,k6,aP,f6,-⟩:=Bq.push (ty2:=af) (bytes:=24) (id:=H2.next+10) (id2:=H2.next+9) (S.mono M.sub) zU aO aM zO zO (fx _ zO zO) zO zO (fx _ zO zO) zO zO zO;have ae:cC ((((H2.up 12).put (H2.next+2) (.cells [.nilSl,.bool false] t_api_Con true)).put (H2.next+2) (.cells [w,.bool false] t_api_Con true)).put (H2.next+9) (.cells [w] af true)) (H2.next+10) 1 24 af x (.own (H2.next+9) 0 1 1 1 true)=some (.own (H2.next+10) 0 O O 1 false,B):=by rw [V] at U; exact U
    refine zW (jC G aR aJ Z D v5 v6 ae) ?_;refine ⟨k6,_,_,rfl,?_,?_,?_⟩
    ·rw [he,if_neg zU]; exact f6.bq (S.mono M.sub) (Q.mono M.sub) ay.symm zU
    ·rw [hi,if_neg zU]; exact b6
    ·intro b h1 h2
     have:=Q.lt w2 h1
     cases h2;omega
  ·rintro T2 H2 G aa A ⟨u,x,f,Q,S,ay⟩;simp only [Vb,Vf,Vd,and_true] at f;rw [VC] at Q S;refine zW (aw G @aC) ?_;exact ⟨u,x,f.1,f.2,A,Q.sl,S.sl⟩
 rintro T2 H2 aa ⟨u,x,v5,v6,k2,r5,r6⟩;have w2:=k2.wf;have a8:=k2.le;have u0:ad T2 0=.int .i64 (n:Int):=(aa.at_ 0 zU).trans t0;have u4:ad T2 4=.nilSl:=(aa.at_ 4 zU).trans t4;have G:T2.length=79:=aa.len.trans I;have hE:∀ a∈Lin.eqsOf l,a.length=n+1/\Lin.Bd (2^m) a:=fun a ha=>aK _ (Lin.mem_eqs.1 ha);have hI:∀ a∈Lin.ineqsOf n l,a.length=n+1/\Lin.Bd (2^m) a:=fun a ha=>by
  rcases Lin.mem_ineqs.1 ha with rfl | ha
  ·exact ⟨Lin.unitC_len n 1,DG n m⟩
  ·exact aK _ ha
 have lE:=OC l;have lI:=vS (n:=n) l;obtain ⟨c1,c2⟩:=uZ (d:=n+1) (m:=m) zO zO hE hI;have hT:=Lin.gens_told (d:=n+1) (fun a ha=>(hE a ha).1) (fun a ha=>(hI a ha).1);have lL:=ech_len hT.form;have aY:(Lin.ineqsOf n l).length^n<1099000000000:=Wc (Xf lI n) a0;have lR:(Lin.gensR (n+1) (Lin.eqsOf l) (Lin.ineqsOf n l)).length<=1099000000000:=by
  have:=hT.dd.count3 (fun a ha=>(hI a ha).1)
  simp only [W8] at this;omega
 obtain ⟨L,hL⟩:∃ L,L=Lin.gensL (n+1) (Lin.eqsOf l) (Lin.ineqsOf n l):=⟨_,rfl⟩
 obtain ⟨R,hR⟩:∃ R,R=Lin.gensR (n+1) (Lin.eqsOf l) (Lin.ineqsOf n l):=⟨_,rfl⟩
 have aQ:∀ r∈R,∀ z∈r,fq z:=fun r hr z hz=>by
  rw [hR] at hr;exact (ir (c2 r hr).2 z hz).sm zO
 have ej:IntKind.i64.wrap ((n:Int)+1)=((n+1:Nat):Int):=by rw [wrap_i64] <;> omega
 refine bP (fun T' H'=>∃ p q,ad T' 9=p/\ad T' 10=q/\Kp H H'/\eF H' p L/\eF H' q R) rfl ?_ ?_
 ·refine zW (bO G u0 v5 v6 ej) ?_;refine AnsH.use (Bn C (d:=n+1) (m:=m) zF (r5.mono (zG H2)) (r6.mono (zG H2)) zO zO zO zO (by simpa using aY) hE hI hm) ?_;rintro v H3 ⟨p,q,rfl,hp,hq,ag⟩;obtain ⟨k23,_,_⟩:=zT H2 zK ag;have k3:Kp H H3:=k2.trans k23;have bs:=k3.le;refine zW (aw G @aC) ?_;rw [hL,hR];exact ⟨p,q,rfl,rfl,zK,hp,hq⟩
 rintro T3 H3 aN ⟨p,q,v9,aS,k3,hp,hq⟩;have w3:=k3.wf;have bm:=k3.le;have x4:ad T3 4=.nilSl:=(aN.at_ 4 zU).trans u4;have al:T3.length=79:=aN.len.trans G;rw [<- hL] at lL;rw [<- hR] at lR;have aH:R.any (fun r=>decide (0<Lin.hd1 r))=(Lin.gensR (n+1) (Lin.eqsOf l) (Lin.ineqsOf n l)).any (fun r=>decide (0<Lin.hd1 r)):=by rw [hR]
 refine bP (fun T' H'=>Kp H3 H'/\ad T' 4=.nilSl/\R.any (fun r=>decide (0<Lin.hd1 r))=true) rfl ?_ ?_
 ·refine zW (aw al aS) ?_;refine AnsH.eq (wN C zF (first:=[]) (hq.mono (zG H3)) zO (fun r=>decide (0<Lin.hd1 r)) fun a ha H' w hk hr=>Bf C hk.wf hr (aQ a ha)) fun y a3=>?_;obtain ⟨Y,_,_⟩:=zT H3 zK a3;have k4:Kp H y:=k3.trans Y;have ba:=k4.le;cases hc:R.any (fun r=>decide (0<Lin.hd1 r)) with
  | true =>
   refine zW (aE al @aC x4) ?_;exact zK
  | false =>
   refine zW (aE al @bF aL) ?_;refine ⟨?_,zK⟩;unfold Lin.gensP;rw [<- aH,hc];exact SlV.nil _ _ _
 rintro T4 y ax ⟨Y,y4,a6⟩;have w4:=Y.wf;have bn:=Y.le;have k4:Kp H y:=k3.trans Y;have ba:=k4.le;have y9:ad T4 9=p:=(ax.at_ 9 zU).trans v9;have bh:ad T4 10=q:=(ax.at_ 10 zU).trans aS;have J:T4.length=79:=ax.len.trans al;refine bP (fun T' H'=>∃ o,ad T' 4=o/\Kp y H'/\Bq genE ai y H' o (L.map fun r=>(1,r))) rfl ?_ ?_
 ·refine zW (aE J y9 hp.lenV) ?_;refine aq y [4] (fun j vs H'=>∃ o,vs=[o]/\Bq genE ai y H' o ((L.take j).map fun r=>(1,r))) (a:=0) (N:=L.length) rfl (by refine zW J ?_; rfl) (zV J) (Vk _) zO (by simp only [U4,J]; rfl) rfl (fun j vs H' m ⟨o,q1,q2⟩=>⟨o,q1,q2.mono (Sub.bump H' m)⟩) (Kp.up (Kp.refl w4) _) ⟨.nilSl,by exact zV (aw J y4),Bq.nil⟩ ?_ ?_
  ·rintro j T5 i _ hj t a1 aj W ⟨o,f,F⟩;have w5:=W.wf;have bq:=W.le;have a9:=W.le;simp only [Vb,Vf,Vd,and_true] at f;have bf:ad T5 51=p:=(aj.at_ 51 zU).trans (zV (aw J y9));obtain ⟨w,hr,D⟩:=dI ((hp.mono Y.sub).mono W.sub) hj;have Z:=SlV.idx1 hp .i64 j hj;have ow:=hr.one;simp only [U4,J] at t;obtain ⟨O,B,U,b6,k6,aP,f6,-⟩:=Bq.push (ty2:=ai) (bytes:=32) (id:=i.next+7) (id2:=i.next+6) (H:=i.up 9) (cs:=[.int .u8 1,w]) (a:=(1,L[j])) (F.mono (Sub.bump i 9)) zU (W.up 9) ⟨w,rfl,hr.mono (Sub.bump i 9)⟩ zO (by rw [dr]; omega) (w5.fresh zO) zO (by rw [dr]; omega) (w5.fresh zO) zO (by simp; omega) (by simp; omega);have ae:cC ((i.up 9).put (i.next+6) (.cells [.int .u8 1,w] ai true)) (i.next+7) 2 32 ai o (.own (i.next+6) 0 1 1 2 true)=some (.own (i.next+7) 0 O O 2 false,B):=U;refine zW (fE t bf a1 Z D f ae) ?_;refine ⟨k6,_,rfl,?_⟩;rw [Ve hj,V9];exact b6
  ·rintro T5 i t aj W ⟨o,f,F⟩;simp only [Vb,Vf,Vd,and_true] at f;rw [VC] at F;refine zW (aw t @aC) ?_;exact ⟨o,f,W,F⟩
 rintro T5 i aj ⟨bd,z4,aD,aU⟩;have w5:=aD.wf;have a9:=aD.le;have aT:ad T5 10=q:=(aj.at_ 10 zU).trans bh;have t:T5.length=79:=aj.len.trans J;refine bP (fun T' H'=>∃ o,ad T' 4=o/\Kp y H'/\Bq genE ai y H' o ((L.map fun r=>(1,r))++R.map fun r=>(Lin.kindOf r,r))) rfl ?_ ?_
 ·refine zW (aE t aT hq.lenV) ?_;refine aq y [4] (fun j vs H'=>∃ o,vs=[o]/\Bq genE ai y H' o ((L.map fun r=>(1,r))++(R.take j).map fun r=>(Lin.kindOf r,r))) (a:=0) (N:=R.length) rfl (by refine zW t ?_; rfl) (zV t) (Vk _) zO (by simp only [U4,t]; rfl) rfl (fun j vs H' m ⟨o,q1,q2⟩=>⟨o,q1,q2.mono (Sub.bump H' m)⟩) (aD.up _) ⟨bd,by exact zV (aw t z4),by rw [Y9,Vf,WH]; exact aU.mono (Sub.bump i _)⟩ ?_ ?_
  ·rintro j T6 B _ hj K a2 ao X ⟨o,f,F⟩;have w6:=X.wf;have br:=X.le;have bo:=X.le;simp only [Vb,Vf,Vd,and_true] at f;have bg:ad T6 63=q:=(ao.at_ 63 zU).trans (zV (aw t aT));obtain ⟨w,hr,D⟩:=dI ((hq.mono Y.sub).mono X.sub) hj;have Z:=SlV.idx1 hq .i64 j hj;have ow:=hr.one;simp only [U4,t] at K;have hm:=U9 hj;refine zW (bO K bg a2 Z D) ?_;refine AnsH.eq (nj C zF (hr.mono (zG B)) (aQ _ hm)) fun e a5=>?_;obtain ⟨ab,_,_⟩:=zT B zK a5;have aF:Kp y e:=X.trans ab;have bt:=aF.le;have w7:=ab.wf;by_cases h0:0<Lin.hd1 R[j]
   ·have ag:Lin.kindOf R[j]=3:=by unfold Lin.kindOf; rw [if_pos h0]
    have av:(0:Int)<iu (Lin.hd1 R[j]):=(zf _).2 h0;obtain ⟨n8,H8,e8,b8,k8,bb,f8,-⟩:=Bq.push (ty2:=ai) (bytes:=32) (id:=e.next+6) (id2:=e.next+5) (H:=e.up 8) (cs:=[.int .u8 3,w]) (a:=(3,R[j])) ((F.mono ab.sub).mono (Sub.bump e 8)) zU (aF.up 8) ⟨w,rfl,(hr.mono ab.sub).mono (Sub.bump e 8)⟩ zO (by rw [dr]; omega) (w7.fresh zO) zO (by rw [dr]; omega) (w7.fresh zO) zO (by simp; omega) (by simp; omega);have ar:cC ((e.up 8).put (e.next+5) (.cells [.int .u8 3,w] ai true)) (e.next+6) 2 32 ai o (.own (e.next+5) 0 1 1 2 true)=some (.own (e.next+6) 0 n8 n8 2 false,H8):=e8;refine zW (aW K av f ar) ?_;refine ⟨k8,_,rfl,?_⟩;rw [Ve hj,V9,<- Xg];simp only [Vb,Vf,ag];exact b8
   ·have ag:Lin.kindOf R[j]=2:=by unfold Lin.kindOf; rw [if_neg h0]
    have av:¬ (0:Int)<iu (Lin.hd1 R[j]):=fun h=>h0 ((zf _).1 h);obtain ⟨n8,H8,e8,b8,k8,bb,f8,-⟩:=Bq.push (ty2:=ai) (bytes:=32) (id:=e.next+5) (id2:=e.next+4) (H:=e.up 7) (cs:=[.int .u8 2,w]) (a:=(2,R[j])) ((F.mono ab.sub).mono (Sub.bump e 7)) zU (aF.up 7) ⟨w,rfl,(hr.mono ab.sub).mono (Sub.bump e 7)⟩ zO (by rw [dr]; omega) (w7.fresh zO) zO (by rw [dr]; omega) (w7.fresh zO) zO (by simp; omega) (by simp; omega);have ar:cC ((e.up 7).put (e.next+4) (.cells [.int .u8 2,w] ai true)) (e.next+5) 2 32 ai o (.own (e.next+4) 0 1 1 2 true)=some (.own (e.next+5) 0 n8 n8 2 false,H8):=e8;refine zW (aW K av f ar) ?_;refine ⟨k8,_,rfl,?_⟩;rw [Ve hj,V9,<- Xg];simp only [Vb,Vf,ag];exact b8
  ·rintro T6 B K ao X ⟨o,f,F⟩;simp only [Vb,Vf,Vd,and_true] at f;rw [VC] at F;refine zW (aw K @aC) ?_;exact ⟨o,f,X,F⟩
 rintro T6 B ao ⟨bu,a4,a7,aX⟩;have K:T6.length=79:=ao.len.trans t;refine WC.wb ?_;refine zW (aE K @a4 aL) ?_;have hG:Lin.gensP n l=(L.map fun r=>(1,r))++R.map fun r=>(Lin.kindOf r,r):=by
  unfold Lin.gensP;rw [<- aH,a6,<- hL,<- hR];rfl
 rw [hG];exact ⟨aX.sl,k4.trans a7⟩
def wT (C:Code tab) (G:Wf H) {a b:AV} {l m:List Nat} (ha:Lb H a l) (hb:Lb H b m) (E:l.length<4611686018427387904) :
  Ans tab (.fn du [a,b]) H fun v H'=>v=.bool (decide (l=m))/\Kp H H':=by
 refine bk C.q121 zU fun T hl d f=>?_;by_cases he:l.length=m.length
 ·have D:lenV b=some (.int .i64 (l.length:Int)):=by rw [hb.lenV,he]
  refine zW (bO hl d f ha.lenV D) ?_;refine aq H [] (fun j _ _=>∀ q (h:q<l.length) (h':q<m.length),q<j->l[q]=m[q]) (a:=0) (N:=l.length) rfl (by refine zW (aE hl d f) ?_; rfl) (zV (aE hl d f)) (Vk _) zO (by simp only [U4,hl]; rfl) rfl (fun _ _ _ _ h=>h) zK (fun q _ _ h=>by omega) ?_ ?_
  ·intro i T1 z _ hi c B r g k;have w1:=g.wf;have I:=g.le;have t0:ad T1 0=a:=(r.at_ 0 zU).trans (zV (aw hl d));have t1:ad T1 1=b:=(r.at_ 1 zU).trans (zV (aW hl d f f));have s:i<m.length:=zO;obtain ⟨w,hr,x⟩:=SlV.at1 (ha.mono g.sub) (U7 hi);obtain ⟨w',p,y⟩:=SlV.at1 (hb.mono g.sub) (U7 s);have hr:w=.int .u64 ((l[i]:Nat):Int):=hr;have p:w'=.int .u64 ((m[i]:Nat):Int):=p;subst hr; subst p;have t:=SlV.idx1 ha .i64 i hi;have u:=SlV.idx1 hb .i64 i s;simp only [U4,hl] at c;refine zW (aW c t0 t1 B) ?_;refine aF ?_;by_cases n:l[i]=m[i]
   ·have o:((l[i]:Nat):Int)=((m[i]:Nat):Int):=zO;refine zD (jC c t0 t1 t x u y o) ?_;refine ⟨zK,fun q h h' F=>?_⟩;by_cases eq:q=i
    ·subst eq; exact n
    ·exact k q h h' zO
   ·have o:¬ ((l[i]:Nat):Int)=((m[i]:Nat):Int):=zO;refine zD (jB c t0 t1 t x u y o n) ?_;refine ⟨?_,zK⟩;rw [decide_eq_false];intro e; subst e; exact n rfl
  ·intro T1 z c r g k;simp only [U4,hl] at c;refine zW c ?_;exact ⟨by rw [decide_eq_true (ju he fun q h h'=>k q h h' h)],zK⟩
 ·have A:¬ (l.length:Int)=(m.length:Int):=zO;refine zW (fE hl d f ha.lenV hb.lenV A he) ?_;refine ⟨?_,zK⟩;rw [decide_eq_false];intro e; subst e; exact he rfl
def Hv (C:Code tab) (i:Wf H) {a b:AV} {x y:Int} (ha:IntV H a x) (hb:IntV H b y) (hx:fq x) :
  Ans tab (.fn jH [a,b]) H fun v H'=>v=.bool (decide (x=y))/\Kp H H':=by
 obtain ⟨p,rfl,hp⟩:=ha;obtain ⟨q,rfl,f⟩:=hb;have op:=hp.one;have j:=f.one;unfold fq Sm at hx;refine bk C.q105 zU fun T hl c d=>?_;by_cases h:decide (x<0)=decide (y<0)
 ·have h':(decide (x<0) == decide (y<0))=true:=by rw [h]; simp
  refine zW (aW hl c d h') ?_;refine AnsH.eq (wT C zF (hp.mono (zG H)) (f.mono (zG H)) zO) fun H2 g=>?_;obtain ⟨k2,_,_⟩:=zT H zK g;refine zW (aE hl c d) ?_;refine ⟨?_,zK⟩;by_cases e:x=y
  ·rw [decide_eq_true e,decide_eq_true (by rw [e])]
  ·rw [decide_eq_false e,decide_eq_false];intro h2
   have:=CN h2
   have h3:(x<0) ↔ (y<0):=by simpa using h
   omega
 ·have h':(decide (x<0) == decide (y<0))=false:=by simpa using h
  refine zW (aW hl c d h') ?_;refine ⟨?_,zK⟩;rw [decide_eq_false];intro e; subst e; exact h rfl
def zM (C:Code tab) (K:Wf H) {a b:AV} {l m:List Int} (ha:RowV H a l) (hb:RowV H b m) (R:l.length<1099511627776) (M:∀ z∈l,fq z) :
  Ans tab (.fn ux [a,b]) H fun v H'=>v=.bool (decide (l=m))/\Kp H H':=by
 have key:∀ {H:Heap},Wf H->RowV H a l->RowV H b m->Ans tab (.fn bj [a,b,.fn (.func jH) [] []]) H fun v H'=>v=.bool (decide (l=m))/\Kp H H':=by
  intro H K ha hb;refine ni C.q104 zU fun T hl c d f=>?_;by_cases he:l.length=m.length
  ·have O:lenV b=some (.int .i64 (l.length:Int)):=by rw [hb.lenV,he]
   refine zW (dx hl c d f ha.lenV O) ?_;refine aq H [] (fun j _ _=>∀ q (h:q<l.length) (h':q<m.length),q<j->l[q]=m[q]) (a:=0) (N:=l.length) rfl (by refine zW (aW hl c d f) ?_; rfl) (zV (aW hl c d f)) (Vk _) zO (by simp only [U4,hl]; rfl) rfl (fun _ _ _ _ h=>h) zK (fun q _ _ h=>by omega) ?_ ?_
   ·intro j T1 o _ hj g F n k p;have w1:=k.wf;have U:=k.le;have J:j<m.length:=zO;have P:ad T1 15=a:=(n.at_ 15 zU).trans (zV (aw hl c));have t1:ad T1 1=b:=(n.at_ 1 zU).trans (zV (bO hl c d f d));have Q:ad T1 2=.fn (.func jH) [] []:=(n.at_ 2 zU).trans (zV (bO hl c d f f));obtain ⟨w,hn,L0,G⟩:=nJ w1 (ha.mono k.sub) hj;obtain ⟨u,s,L,I⟩:=nJ w1 (hb.mono k.sub) J;have W:=hn.one;have V:=s.one;have D:=L0.put;have A:=L0.ld;have B:=L.put;have t:=L.ld;simp only [U4,hl] at g;refine zW (lP g P t1 Q F G D A I B t) ?_;refine AnsH.eq (Hv C (x:=l[j]) (y:=m[j]) zF ⟨w,rfl,hn.mono (zG o)⟩ ⟨u,rfl,s.mono (zG o)⟩ (M _ (U9 hj))) fun H2 r=>?_;obtain ⟨k2,_,_⟩:=zT H zK r;cases i:decide (l[j]=m[j]) with
    | true =>
     have i:=of_decide_eq_true i;refine zW g ?_;refine ⟨zK,fun q h h' S=>?_⟩;by_cases e:q=j
     ·subst e; exact i
     ·exact p q h h' zO
    | false =>
     have i:=of_decide_eq_false i;refine zW g ?_;refine ⟨?_,zK⟩;rw [decide_eq_false];intro e; subst e; exact i rfl
   ·intro T1 o g n k p;simp only [U4,hl] at g;refine zW g ?_;exact ⟨by rw [decide_eq_true (ju he fun q h h'=>p q h h' h)],zK⟩
  ·have E:¬ (l.length:Int)=(m.length:Int):=zO;refine zW (jC hl c d f ha.lenV hb.lenV E he) ?_;refine ⟨?_,zK⟩;rw [decide_eq_false];intro e; subst e; exact he rfl
 refine bk C.q76 zU fun T hl c d=>?_;refine zW (aE hl c d) ?_;refine AnsH.eq (key zF (ha.mono (zG H)) (hb.mono (zG H))) fun H2 r=>?_;obtain ⟨k2,_,_⟩:=zT H zK r;refine zW (aE hl c d) ?_;exact zK
end
section
open Lin
variable {n:Nat} {g:List (Nat × V)}
def Iu {j:Nat} (hj:j<g.length):linesOf (g.take (j+1))=if g[j].1=1 then linesOf (g.take j)++[g[j].2] else linesOf (g.take j):=by
 rw [Ve hj];unfold linesOf;rw [Wt,V9];by_cases h:g[j].1=1 <;> simp [h]
def Ld {j:Nat} (hj:j<g.length):raysOf (g.take (j+1))=if g[j].1=1 then raysOf (g.take j) else raysOf (g.take j)++[g[j].2]:=by
 rw [Ve hj];unfold raysOf;rw [Wt,V9];by_cases h:g[j].1=1 <;> simp [h]
def KV {j:Nat} (hj:j<g.length):(g.take (j+1)).any (fun x=>x.1 == 3)=((g.take j).any (fun x=>x.1 == 3) || g[j].1 == 3):=by
 rw [Ve hj,List.any_append]
 simp
def F8 (g:List (Nat × V)):(linesOf g).length<=g.length:=by
 unfold linesOf;rw [Vh];exact W7 _ _
def Ju (g:List (Nat × V)):(raysOf g).length<=g.length:=by
 unfold raysOf;rw [Vh];exact W7 _ _
def CL {x:V} (h:x∈raysOf g):∃ y∈g,y.2=x:=by
 obtain ⟨k,-,h⟩:=mem_rays.1 h;exact ⟨_,h,rfl⟩
end
section
variable {tab:Nat->Option az} {H:Heap} {s:AV}
set_option maxHeartbeats 4000000 in
def xH (C:Code tab) (hw:Wf H) {n m:Nat} {g:List (Nat × List Int)} (hs:SlV genE ai H s g) (hn:n<=4) (bt:g.length<=1023) (a9:g.length^n<1099000000000) (aU:∀ x∈g,x.2.length=n+1/\Lin.Bd (2^m) x.2) (hm:m<=300000) :
  Ans tab (.fn rv [.int .i64 (n:Int),s]) H fun v H'=>SlV conE t_api_Con H' v (Lin.consP n g)/\Kp H H':=by
 refine ts C.q49 rfl rfl zU fun T hl g'=>?_;have hl:T.length=84:=hl;have aX:c_dual_cons.results=[(4,none)]:=rfl;have g0:ad T 0=.int .i64 (n:Int):=g' 0 (by simp);have g1:ad T 1=s:=g' 1 (by simp);refine aG ?_;refine zW (aw hl @am) ?_;refine aG ?_;refine zW (aw hl @am) ?_;refine aG ?_;refine zW (aw hl @am) ?_;refine bP (fun T' H'=>∃ t u,ad T' 5=t/\ad T' 6=u/\ad T' 7=.bool (g.any fun x=>x.1 == 3)/\Kp H H'/\eF H' t (Lin.linesOf g)/\eF H' u (Lin.raysOf g)) rfl ?_ ?_
 ·refine zW (aE hl g1 hs.lenV) ?_;refine aq H [5,6,7] (fun j vs H'=>∃ t u,vs=[t,u,.bool ((g.take j).any fun x=>x.1 == 3)]/\Bq rowsE af H H' t (Lin.linesOf (g.take j))/\Bq rowsE af H H' u (Lin.raysOf (g.take j))/\Sep t u) (a:=0) (N:=g.length) rfl (by refine zW hl ?_; rfl) (zV hl) (Vk _) zO (by simp only [U4,hl]; rfl) rfl (fun j vs H' m ⟨t,u,q1,q2,q3,q4⟩=>⟨t,u,q1,q2.mono (Sub.bump H' m),q3.mono (Sub.bump H' m),q4⟩) zK ⟨.nilSl,.nilSl,by refine zW hl ?_; rfl,Bq.nil,Bq.nil,fun b h=>by cases h⟩ ?_ ?_
  ·rintro j T2 H2 _ hj M aL aj X ⟨t,u,f,U,V,aD⟩;have w2:=X.wf;have bz:=X.le;have bk:=X.le;simp only [Vb,Vf,Vd,and_true] at f;obtain ⟨v5,v6,v7⟩:=f;have aT:ad T2 17=s:=(aj.at_ 17 zU).trans (zV (aw hl g1));obtain ⟨cs,⟨w,rfl,hr⟩,bu,-,O⟩:=(hs.mono X.sub).at (U7 hj);have ae:cd 2 s (.int .i64 (j:Int))=some (aA s (j*2)):=SlV.idx hs .i64 j hj;have O:bc H2 (some 2) (aA s (j*2))=some (.agg [.int .u8 (g[j].1:Int),w]):=O;have ow:=hr.one;simp only [U4,hl] at M;have he:=Iu (g:=g) hj;have hi:=Ld (g:=g) hj;have aP:=KV (g:=g) hj;have l5:=F8 (g.take j);have l6:=Ju (g.take j);rw [Vx] at l5 l6;have aR:∀ K:Nat,6<=K->∃ I,I=((H2.up K).put (H2.next+2) (.cells [.int .u8 0,.nilSl] ai true)).put (H2.next+2) (.cells [.int .u8 (g[j].1:Int),w] ai true)/\Kp H2 I/\I.next=H2.next+K/\(∀ c,H2.next<=c->c≠H2.next+2->I.get c=none):=fun K hK=>by
    refine ⟨_,rfl,zK,rfl,fun c h1 h2=>?_⟩;rw [aB h2,aB h2]; exact w2.fresh h1
   by_cases W:g[j].1=1
   ·have ar:(g[j].1:Int)=1:=zO;rw [ar] at O;obtain ⟨I,J,i,nx,Z⟩:=aR 14 zO;rw [ar] at J;obtain ⟨l,F,Q,b6,k6,aS,f6,-⟩:=Bq.push (ty2:=af) (bytes:=24) (id:=H2.next+12) (id2:=H2.next+11) (cs:=[w]) (a:=g[j].2) (U.mono i.sub) zU (X.trans i) ⟨w,rfl,hr.mono i.sub⟩ zO zO (Z _ zO zO) zO zO (Z _ zO zO) zO zO zO;have ab:cC ((((H2.up 14).put (H2.next+2) (.cells [.int .u8 0,.nilSl] ai true)).put (H2.next+2) (.cells [.int .u8 1,w] ai true)).put (H2.next+11) (.cells [w] af true)) (H2.next+12) 1 24 af t (.own (H2.next+11) 0 1 1 1 true)=some (.own (H2.next+12) 0 l l 1 false,F):=by rw [J] at Q; exact Q
    refine zW (jB M aT aL ae O v5 v6 v7 ab) ?_;have aK:(g[j].1 == 3)=false:=by rw [W]; rfl
    rw [aP,aK,ZB];refine ⟨k6,.own (H2.next+12) 0 l l 1 false,u,rfl,?_,?_,?_⟩
    ·rw [he,if_pos W]; exact b6
    ·rw [hi,if_pos W]; exact f6.bq (U.mono i.sub) (V.mono i.sub) aD zU
    ·intro b h1 h2
     have:=V.lt w2 h2
     cases h1;omega
   have ar:¬ (g[j].1:Int)=1:=zO;have bs:(g[j].1 == 1)=false:=by simpa using W
   by_cases c3:g[j].1=3
   ·have av:(g[j].1:Int)=3:=zO;rw [av] at O;obtain ⟨I,J,i,nx,Z⟩:=aR 17 zO;rw [av] at J;obtain ⟨l,F,Q,b6,k6,aS,f6,-⟩:=Bq.push (ty2:=af) (bytes:=24) (id:=H2.next+15) (id2:=H2.next+14) (cs:=[w]) (a:=g[j].2) (V.mono i.sub) zU (X.trans i) ⟨w,rfl,hr.mono i.sub⟩ zO zO (Z _ zO zO) zO zO (Z _ zO zO) zO zO zO;have ab:cC ((((H2.up 17).put (H2.next+2) (.cells [.int .u8 0,.nilSl] ai true)).put (H2.next+2) (.cells [.int .u8 3,w] ai true)).put (H2.next+14) (.cells [w] af true)) (H2.next+15) 1 24 af u (.own (H2.next+14) 0 1 1 1 true)=some (.own (H2.next+15) 0 l l 1 false,F):=by rw [J] at Q; exact Q
    refine zW (jB M aT aL ae O v5 v6 v7 ab) ?_;have aK:(g[j].1 == 3)=true:=by rw [c3]; rfl
    rw [aP,aK,ZK];refine ⟨k6,t,.own (H2.next+15) 0 l l 1 false,rfl,?_,?_,?_⟩
    ·rw [he,if_neg W]; exact f6.bq (V.mono i.sub) (U.mono i.sub) aD.symm zU
    ·rw [hi,if_neg W]; exact b6
    ·intro b h1 h2
     have:=U.lt w2 h1
     cases h2;omega
   ·have av:¬ (g[j].1:Int)=3:=zO;have a6:(g[j].1 == 3)=false:=by simpa using c3
    obtain ⟨I,J,i,nx,Z⟩:=aR 16 zO;obtain ⟨l,F,Q,b6,k6,aS,f6,-⟩:=Bq.push (ty2:=af) (bytes:=24) (id:=H2.next+14) (id2:=H2.next+13) (cs:=[w]) (a:=g[j].2) (V.mono i.sub) zU (X.trans i) ⟨w,rfl,hr.mono i.sub⟩ zO zO (Z _ zO zO) zO zO (Z _ zO zO) zO zO zO;have ab:cC ((((H2.up 16).put (H2.next+2) (.cells [.int .u8 0,.nilSl] ai true)).put (H2.next+2) (.cells [.int .u8 (g[j].1:Int),w] ai true)).put (H2.next+13) (.cells [w] af true)) (H2.next+14) 1 24 af u (.own (H2.next+13) 0 1 1 1 true)=some (.own (H2.next+14) 0 l l 1 false,F):=by rw [J] at Q; exact Q
    refine zW (lP M aT aL ae O v5 v6 v7 ab ar av) ?_;rw [aP,a6,ZB];refine ⟨k6,t,.own (H2.next+14) 0 l l 1 false,rfl,?_,?_,?_⟩
    ·rw [he,if_neg W]; exact f6.bq (V.mono i.sub) (U.mono i.sub) aD.symm zU
    ·rw [hi,if_neg W]; exact b6
    ·intro b h1 h2
     have:=U.lt w2 h1
     cases h2;omega
  ·rintro T2 H2 M aj X ⟨t,u,f,U,V,aD⟩;simp only [Vb,Vf,Vd,and_true] at f;rw [VC] at U V f;refine zW (aw M @aC) ?_;exact ⟨t,u,f.1,f.2.1,f.2.2,X,U.sl,V.sl⟩
 rintro T2 H2 aj ⟨t,u,v5,v6,v7,k2,r5,r6⟩;have w2:=k2.wf;have bk:=k2.le;have u0:ad T2 0=.int .i64 (n:Int):=(aj.at_ 0 zU).trans (zV (aw hl g0));have u4:ad T2 4=.nilSl:=(aj.at_ 4 zU).trans (zV hl);have M:T2.length=84:=aj.len.trans (by simp only [U4]; exact hl);refine bP (fun T' H'=>Kp H2 H'/\ad T' 4=.nilSl/\(g.any fun x=>x.1 == 3)=true) rfl ?_ ?_
 ·cases hc:g.any fun x=>x.1 == 3 with
  | true =>
   rw [hc] at v7;refine zW (aW M v7 u4 @aC) ?_;exact zK
  | false =>
   rw [hc] at v7;refine zW (aE M v7 u0) ?_;refine AnsH.use (xG C (n:=n) (k:=-1) zF zO zO zO) ?_;rintro v P ⟨hr,aM⟩;obtain ⟨k23,_,_⟩:=zT H2 zK aM;have k3:Kp H P:=k2.trans k23;have bm:=k3.le;have w3:=k3.wf;have ov:=hr.one;have n3:H2.next+7<=P.next:=aM.le
   have f3:P.get (H2.next+5)=none:=aM.free (show H2.next+5<H2.next+7 by omega) (w2.fresh (b:=H2.next+5) zO);refine zW (aW M (zr ov) @bF aX) ?_;refine ⟨?_,zK⟩;have e:Lin.consP n g=[(Lin.unitC n (-1),false)]:=by unfold Lin.consP; rw [if_neg (by rw [hc]; decide)]
   rw [e];obtain ⟨I,J⟩:∃ I,I=P.put (H2.next+5) (.cells [v,.bool false] t_api_Con true):=⟨_,rfl⟩
   have sx:Sub P I:=by rw [J]; exact aV f3
   have:Own conE t_api_Con H I (H2.next+5) true (.own (H2.next+5) 0 1 1 2 true) [(Lin.unitC n (-1),false)]:=⟨[v,.bool false],rfl,by rw [J]; exact ap _ _ _,Cells.one (E:=conE) ⟨v,rfl,hr.mono sx⟩,zO⟩
   rw [<- J];exact this.sl
 rintro T3 P ay ⟨k23,x4,bh⟩;have k3:Kp H P:=k2.trans k23;have bm:=k3.le;have w3:=k3.wf;have bv:=k3.le;have x0:ad T3 0=.int .i64 (n:Int):=(ay.at_ 0 zU).trans u0;have x5:ad T3 5=t:=(ay.at_ 5 zU).trans v5;have x6:ad T3 6=u:=(ay.at_ 6 zU).trans v6;have aN:T3.length=84:=ay.len.trans M;have hE:∀ a∈Lin.linesOf g,a.length=n+1/\Lin.Bd (2^m) a:=fun a ha=>aU _ (Lin.mem_lines.1 ha);have hI:∀ a∈Lin.raysOf g,a.length=n+1/\Lin.Bd (2^m) a:=fun a ha=>by
  obtain ⟨y,hy,rfl⟩:=CL ha;exact aU _ hy
 have lE:=F8 g;have lI:=Ju g;obtain ⟨W,c2⟩:=uZ (d:=n+1) (m:=m) zO zO hE hI;have hT:=Lin.gens_told (d:=n+1) (fun a ha=>(hE a ha).1) (fun a ha=>(hI a ha).1);have lL:=ech_len hT.form;have a8:(Lin.raysOf g).length^n<1099000000000:=Wc (Xf lI n) a9;have lR:(Lin.gensR (n+1) (Lin.linesOf g) (Lin.raysOf g)).length<=1099000000000:=by
  have:=hT.dd.count3 (fun a ha=>(hI a ha).1)
  simp only [W8] at this;omega
 obtain ⟨L,hL⟩:∃ L,L=Lin.gensL (n+1) (Lin.linesOf g) (Lin.raysOf g):=⟨_,rfl⟩
 obtain ⟨R,hR⟩:∃ R,R=Lin.gensR (n+1) (Lin.linesOf g) (Lin.raysOf g):=⟨_,rfl⟩
 have bn:∀ r∈R,r.length=n+1:=fun r hr=>by rw [hR] at hr; exact (c2 r hr).1
 have bp:∀ r∈R,∀ z∈r,fq z:=fun r hr z hz=>by
  rw [hR] at hr;exact (ir (c2 r hr).2 z hz).sm zO
 have ej:IntKind.i64.wrap ((n:Int)+1)=((n+1:Nat):Int):=by rw [wrap_i64] <;> omega
 refine bP (fun T' H'=>∃ p q,ad T' 10=p/\ad T' 11=q/\Kp H H'/\eF H' p L/\eF H' q R) rfl ?_ ?_
 ·refine zW (bO aN x0 x5 x6 ej) ?_;refine AnsH.use (Bn C (d:=n+1) (m:=m) zF ((r5.mono k23.sub).mono (zG P)) ((r6.mono k23.sub).mono (zG P)) zO zO zO zO (by simpa using a8) hE hI hm) ?_;rintro v D ⟨p,q,rfl,hp,hq,bd⟩;obtain ⟨bi,_,_⟩:=zT P zK bd;have k4:Kp H D:=k3.trans bi;have bE:=k4.le;refine zW (aw aN @aC) ?_;rw [hL,hR];exact ⟨p,q,rfl,rfl,zK,hp,hq⟩
 rintro T4 D aO ⟨p,q,a1,br,k4,hp,hq⟩;have w4:=k4.wf;have bw:=k4.le;have y0:ad T4 0=.int .i64 (n:Int):=(aO.at_ 0 zU).trans x0;have y4:ad T4 4=.nilSl:=(aO.at_ 4 zU).trans x4;have aa:T4.length=84:=aO.len.trans aN;rw [<- hL] at lL;rw [<- hR] at lR;refine bP (fun T' H'=>∃ o,ad T' 4=o/\Kp D H'/\Bq conE t_api_Con D H' o (L.map fun r=>(r,true))) rfl ?_ ?_
 ·refine zW (aE aa a1 hp.lenV) ?_;refine aq D [4] (fun j vs H'=>∃ o,vs=[o]/\Bq conE t_api_Con D H' o ((L.take j).map fun r=>(r,true))) (a:=0) (N:=L.length) rfl (by refine zW aa ?_; rfl) (zV aa) (Vk _) zO (by simp only [U4,aa]; rfl) rfl (fun j vs H' m ⟨o,q1,q2⟩=>⟨o,q1,q2.mono (Sub.bump H' m)⟩) (Kp.up (Kp.refl w4) _) ⟨.nilSl,by exact zV (aw aa y4),Bq.nil⟩ ?_ ?_
  ·rintro j T5 B _ hj A ba al ag ⟨o,f,S⟩;have w5:=ag.wf;have bA:=ag.le;have bl:=ag.le;simp only [Vb,Vf,Vd,and_true] at f;have t55:ad T5 55=p:=(al.at_ 55 zU).trans (zV (aw aa a1));obtain ⟨w,hr,O⟩:=dI (hp.mono ag.sub) hj;have ae:=SlV.idx1 hp .i64 j hj;have ow:=hr.one;simp only [U4,aa] at A;obtain ⟨l,F,Q,b6,k6,aS,f6,-⟩:=Bq.push (ty2:=t_api_Con) (bytes:=32) (id:=B.next+7) (id2:=B.next+6) (H:=B.up 9) (cs:=[w,.bool true]) (a:=(L[j],true)) (S.mono (Sub.bump B 9)) zU (ag.up 9) ⟨w,rfl,hr.mono (Sub.bump B 9)⟩ zO (by rw [dr]; omega) (w5.fresh zO) zO (by rw [dr]; omega) (w5.fresh zO) zO (by simp; omega) (by simp; omega);have ab:cC ((B.up 9).put (B.next+6) (.cells [w,.bool true] t_api_Con true)) (B.next+7) 2 32 t_api_Con o (.own (B.next+6) 0 1 1 2 true)=some (.own (B.next+7) 0 l l 2 false,F):=Q;refine zW (fE A t55 ba ae O f ab) ?_;refine ⟨k6,_,rfl,?_⟩;rw [Ve hj,V9];exact b6
  ·rintro T5 B A al ag ⟨o,f,S⟩;simp only [Vb,Vf,Vd,and_true] at f;rw [VC] at S;refine zW (aw A @aC) ?_;exact ⟨o,f,ag,S⟩
 rintro T5 B al ⟨bo,z4,aQ,a3⟩;have w5:=aQ.wf;have bl:=aQ.le;have z0:ad T5 0=.int .i64 (n:Int):=(al.at_ 0 zU).trans y0;have a2:ad T5 11=q:=(al.at_ 11 zU).trans br;have A:T5.length=84:=al.len.trans aa;refine bP (fun T' H'=>∃ o,ad T' 4=o/\Kp D H'/\Bq conE t_api_Con D H' o ((L.map fun r=>(r,true))++(R.filter fun r=>!decide (r=Lin.unitC n 1)).map fun r=>(r,false))) rfl ?_ ?_
 ·refine zW (aE A a2 hq.lenV) ?_;refine aq D [4] (fun j vs H'=>∃ o,vs=[o]/\Bq conE t_api_Con D H' o ((L.map fun r=>(r,true))++((R.take j).filter fun r=>!decide (r=Lin.unitC n 1)).map fun r=>(r,false))) (a:=0) (N:=R.length) rfl (by refine zW A ?_; rfl) (zV A) (Vk _) zO (by simp only [U4,A]; rfl) rfl (fun j vs H' m ⟨o,q1,q2⟩=>⟨o,q1,q2.mono (Sub.bump H' m)⟩) (aQ.up _) ⟨bo,by exact zV (aw A z4),by rw [Y9,Yf,Vf,WH]; exact a3.mono (Sub.bump B _)⟩ ?_ ?_
  ·rintro j T6 F _ hj Y bb ao ah ⟨o,f,S⟩;have w6:=ah.wf;have bB:=ah.le;have bx:=ah.le;simp only [Vb,Vf,Vd,and_true] at f;have t0:ad T6 0=.int .i64 (n:Int):=(ao.at_ 0 zU).trans (zV (aw A z0));have bq:ad T6 67=q:=(ao.at_ 67 zU).trans (zV (aw A a2));obtain ⟨w,hr,O⟩:=dI (hq.mono ah.sub) hj;have ae:=SlV.idx1 hq .i64 j hj;have ow:=hr.one;simp only [U4,A] at Y;have hm:=U9 hj;refine zW (dx Y t0 bq bb ae O) ?_;refine AnsH.use (xG C (n:=n) (k:=1) zF zO zO zO) ?_;rintro v H7 ⟨hu,bf⟩;obtain ⟨aH,_,_⟩:=zT F zK bf;have aY:Kp D H7:=ah.trans aH;have bG:=aY.le;have w7:=aH.wf;refine zW Y ?_;refine AnsH.eq (zM C zF ((hr.mono aH.sub).mono (zG H7)) (hu.mono (zG H7)) (by rw [bn _ hm]; omega) (bp _ hm)) fun G bg=>?_;obtain ⟨a0,_,_⟩:=zT H7 zK bg;have aF:Kp D G:=aY.trans a0;have bH:=aF.le;have aJ:Kp F G:=aH.trans a0;have bI:=aJ.le;have w8:=aF.wf;by_cases ax:R[j]=Lin.unitC n 1
   ·refine zW (aE Y f ax) ?_;refine ⟨aF,_,rfl,?_⟩;rw [Ve hj,Wt];simp only [ax,Xk,Yf,decide_true,Yt,Wb,if_false,WH];exact S.mono aJ.sub
   ·have lf:((R.take j).filter fun r=>!decide (r=Lin.unitC n 1)).length<=R.length:=Vn (W7 _ _) (by rw [Vx]; omega);obtain ⟨n8,H9,e8,b8,k8,bJ,f8,-⟩:=Bq.push (ty2:=t_api_Con) (bytes:=32) (id:=G.next+4) (id2:=G.next+3) (H:=G.up 6) (cs:=[w,.bool false]) (a:=(R[j],false)) ((S.mono aJ.sub).mono (Sub.bump G 6)) zU (aF.up 6) ⟨w,rfl,(hr.mono aJ.sub).mono (Sub.bump G 6)⟩ zO (by rw [dr]; omega) (w8.fresh zO) zO (by rw [dr]; omega) (w8.fresh zO) zO (by rw [Vr,Vh,Vh]; omega) (by rw [Vr,Vh,Vh]; omega);have a7:cC ((G.up 6).put (G.next+3) (.cells [w,.bool false] t_api_Con true)) (G.next+4) 2 32 t_api_Con o (.own (G.next+3) 0 1 1 2 true)=some (.own (G.next+4) 0 n8 n8 2 false,H9):=e8;refine zW (bO Y f ax a7 (zr ow)) ?_;refine ⟨k8,_,rfl,?_⟩;rw [Ve hj,Wt];simp only [Xk,Yf,ax,decide_false,Za,if_true,V9,Vb,Vf,<- Xg];exact b8
  ·rintro T6 F Y ao ah ⟨o,f,S⟩;simp only [Vb,Vf,Vd,and_true] at f;rw [VC] at S;refine zW (aw Y @aC) ?_;exact ⟨o,f,ah,S⟩
 rintro T6 F ao ⟨bK,a4,bj,a5⟩;have Y:T6.length=84:=ao.len.trans A;refine WC.wb ?_;refine zW (aE Y @a4 aX) ?_;have hG:Lin.consP n g=(L.map fun r=>(r,true))++(R.filter fun r=>!decide (r=Lin.unitC n 1)).map fun r=>(r,false):=by
  unfold Lin.consP;rw [if_pos bh,<- hL,<- hR]
 rw [hG];exact ⟨a5.sl,k4.trans bj⟩
end
def nt {x y z a b c:AV} {ty:Nat} (ha:One a) (hb:One b) (hc:One c):Fs (some (.cells [x,y,z] ty true)) 3 0 (.agg [a,b,c])=some (.cells [a,b,c] ty true):=by
 simpa using jF (cs:=[x,y,z]) (vs:=[a,b,c]) (ty:=ty) (n:=3) (o:=0) (v:=.agg [a,b,c]) ⟨rfl,rfl,by simp [ha.2,hb.2,hc.2]⟩ (by simp)
def SW {x y z a b c:AV} (ha:One a) (hb:One b) (hc:One c):fm [x,y,z] [((0,1),a),((1,1),b),((2,1),c)]=some (.agg [a,b,c]):=by
 simp [fm,cZ,ha.1,ha.2,hb.1,hb.2,hc.1,hc.2]
section
variable {H:Heap} {s:AV}
def GB {ty:Nat} {l:List (List Int × Bool)} (h:SlV conE ty H s l):SlV conQE ty H s (l.map fun c=>(c.1.map dU,c.2)):=by
 obtain ⟨cells,hr,b,hc,ha⟩:=h;refine ⟨cells,hr,b,by rw [hc,Vh]; rfl,fun i a hi=>?_⟩;rw [V6,Vg] at hi;obtain ⟨z,d,rfl⟩:=hi;obtain ⟨w,h1,h2⟩:=ha i z d;exact ⟨w,h1,h2.raw⟩
def A6 {ty:Nat} {l:List (Nat × List Int)} (h:SlV genE ty H s l):SlV genQE ty H s (l.map fun c=>(c.1,c.2.map dU)):=by
 obtain ⟨cells,hr,b,hc,ha⟩:=h;refine ⟨cells,hr,b,by rw [hc,Vh]; rfl,fun i a hi=>?_⟩;rw [V6,Vg] at hi;obtain ⟨z,d,rfl⟩:=hi;obtain ⟨w,h1,h2⟩:=ha i z d;exact ⟨w,h1,h2.raw⟩
end
def Iy (z:Int):cB (dU z)=z:=by
 unfold cB dU;simp only [bB];by_cases h:z<0
 ·simp [h]; omega
 ·simp [h]; omega
def Ou (l:List Int):(l.map dU).map cB=l:=by
 rw [Xo]
 conv=>rhs; rw [<- YY l]
 exact W2 fun z _=>Iy z
section
open Lin
variable {n m:Nat}
def vU {l:List (V × Bool)} (hn:n<=5) (h:∀ c∈l,c.1.length=n+1/\Bd (2^m) c.1):∀ x∈gensP n l,x.2.length=n+1/\Bd (2^(64*(m+4))) x.2:=fun x hx=>by
 have f:∀ a∈eqsOf l,a.length=n+1/\Bd (2^m) a:=fun a ha=>h _ (mem_eqs.1 ha);have g:∀ a∈ineqsOf n l,a.length=n+1/\Bd (2^m) a:=fun a ha=>by
  rcases mem_ineqs.1 ha with rfl | ha
  ·exact ⟨unitC_len n 1,DG n m⟩
  ·exact h _ ha
 obtain ⟨b,e⟩:=uZ (d:=n+1) (m:=m) zO zO f g;unfold gensP at hx;split at hx
 ·rcases Vq.1 hx with hx | hx
  ·obtain ⟨r,hr,rfl⟩:=Va.1 hx;exact b r hr
  ·obtain ⟨r,hr,rfl⟩:=Va.1 hx;exact e r hr
 ·cases hx
def Nm (n m:Nat):Bd (2^m) (unitC n (-1)):=fun i=>by
 have h1:1<=2^m:=VY zU;unfold unitC at_;cases i with
 | zero=>simpa using h1
 | succ i =>
  rw [WE,U5,We];split <;> simp
def OQ {g:List (Nat × V)} (hn:n<=5) (h:∀ x∈g,x.2.length=n+1/\Bd (2^m) x.2):∀ c∈consP n g,c.1.length=n+1/\Bd (2^(64*(m+4))) c.1:=fun x hx=>by
 have f:∀ a∈linesOf g,a.length=n+1/\Bd (2^m) a:=fun a ha=>h _ (mem_lines.1 ha);have i:∀ a∈raysOf g,a.length=n+1/\Bd (2^m) a:=fun a ha=>by
  obtain ⟨y,hy,rfl⟩:=CL ha;exact h _ hy
 obtain ⟨b,e⟩:=uZ (d:=n+1) (m:=m) zO zO f i;unfold consP at hx;split at hx
 ·rcases Vq.1 hx with hx | hx
  ·obtain ⟨r,hr,rfl⟩:=Va.1 hx;exact b r hr
  ·obtain ⟨r,hr,rfl⟩:=Va.1 hx;exact e r (Vv.1 hr).1
 ·rw [Vp] at hx;subst hx;exact ⟨unitC_len n (-1),Nm n _⟩
def Ib {k n:Nat} (a:k<=1023) (hn:n<=4):k^n<1099000000000:=by
 have h1:k^n<=1023^n:=Xf a n;have h2:1023^n<=1023^4:=VI zU hn;have h3:(1023:Nat)^4=1095222947841:=by decide
 omega
end
abbrev AF:AV:=.agg [.int .i64 0,.nilSl,.nilSl]
def PolyV (H:Heap) (v:AV) (n:Nat) (c:List (List Int × Bool)) (g:List (Nat × List Int)):Prop:=∃ a b,v=.agg [.int .i64 (n:Int),a,b]/\SlV conE t_api_Con H a c/\SlV genE ai H b g
def PolyV.mono {H H':Heap} (hs:Sub H H') {v:AV} {n:Nat} {c:List (List Int × Bool)} {g:List (Nat × List Int)} (h:PolyV H v n c g):PolyV H' v n c g:=by
 obtain ⟨a,b,e,h1,h2⟩:=h;exact ⟨a,b,e,h1.mono hs,h2.mono hs⟩
def qC (H:Heap) (v:AV) (n:Nat) (g:List (Nat × List Int)):Prop :=
 (v=.tup [AF,.int .i64 4]/\(1024<=g.length\/1024<=(Lin.consP n g).length))\/∃ p,v=.tup [p,.int .i64 0]/\PolyV H p n (Lin.consP n g) g/\g.length<1024/\(Lin.consP n g).length<1024
section
variable {tab:Nat->Option az} {H:Heap} {s:AV}
def CV (C:Code tab) (j:Wf H) {n m:Nat} {g:List (Nat × List Int)} (hs:SlV genE ai H s g) (i:g.length<1099511627776) (hn:n<=4) (f:∀ x∈g,x.2.length=n+1/\Lin.Bd (2^m) x.2) (hm:m<=300000) :
  Ans tab (.fn ru [.int .i64 (n:Int),s]) H fun v H'=>qC H' v n g/\Kp H H':=by
 have os:=hs.one;refine bk C.q39 zU fun T hl a c=>?_;by_cases q1:(1024:Int)<=(g.length:Int)
 ·refine zW (dx hl a c hs.lenV q1 @nt) ?_;exact ⟨.inl ⟨rfl,.inl zO⟩,zK⟩
 refine zW (bO hl a c hs.lenV q1) ?_;refine AnsH.use (xH C zF (hs.mono (zG H)) hn zO (Ib zO hn) f hm) ?_;rintro v H2 ⟨hc,d⟩;obtain ⟨k2,_,h⟩:=zT H zK d;have ov:=hc.one;have d0:=d.get (b:=H.next) (e:=.cells [.int .i64 0,.nilSl,.nilSl] aj true) (cy);have k:=h _ _ d0;by_cases q2:(1024:Int)<=((Lin.consP n g).length:Int)
 ·refine zW (fE hl a c hc.lenV q2 d0 @nt) ?_;exact ⟨.inl ⟨rfl,.inr zO⟩,zK⟩
 have st:NoTy [t_api_Con,aa,ae,ai] H2 H.next:=NoTy.ty d0 zU
 refine zW (jC hl hc.lenV q2 d0 a c @SW @nt) ?_;refine ⟨.inr ⟨_,rfl,⟨v,s,rfl,?_,?_⟩,zO,zO⟩,zK⟩
 ·have m3:NoTy (t_api_Con :: conE.tys) H2 H.next:=NoTy.ty d0 zU
  exact SlV.monoT (E:=conE) zS hc
 ·have m3:NoTy (ai :: genE.tys) H2 H.next:=NoTy.ty d0 zU
  exact SlV.monoT (E:=genE) zS (hs.mono k2.sub)
end
section
open Lin
variable {n:Nat}
def GL {l:List (V × Bool)} (hn:n<=8) (hl:l.length<=60) (h:∀ c∈l,c.1.length=n+1):dw n (l.map fun c=>(c.1.map dU,c.2))=0:=by
 unfold dw;rw [if_neg zO,if_neg (by rw [Vh]; omega),if_neg,if_neg]
 ·rw [VQ];rintro ⟨c,hc,h1⟩;obtain ⟨x,hx,rfl⟩:=Va.1 hc;have h1:=of_decide_eq_true h1
  have:=h x hx
  simp only [Vh] at h1;omega
 ·rw [VQ];rintro ⟨c,hc,h1⟩;obtain ⟨x,hx,rfl⟩:=Va.1 hc
  have:=h x hx
  rw [Wk,D6 zO] at h1;cases h1
def Q8 {l:List (V × Bool)} (hn:n<=60) (h:∀ c∈l,c.1.length=n+1/\∀ z∈c.1,fq z):∀ c∈l.map fun c=>(c.1.map dU,c.2),qG c.1:=fun c hc=>by
 obtain ⟨x,hx,rfl⟩:=Va.1 hc;exact vC (by rw [(h x hx).1]; omega) (h x hx).2
def yw {g:List (Nat × V)} (hn:n<=8) (hl:g.length<=60) (h:ValidG n g) (b:∀ x∈g,x.1=1\/x.1=2\/x.1=3):bI n (g.map fun c=>(c.1,c.2.map dU))=0:=by
 unfold bI;rw [if_neg zO,if_neg (by rw [Vh]; omega),if_neg,if_neg]
 ·rw [VQ];rintro ⟨c,hc,h1⟩;obtain ⟨x,hx,rfl⟩:=Va.1 hc;have h1:=of_decide_eq_true h1
  have:=(h x hx).1
  simp only [Vh] at h1;omega
 ·rw [VQ];rintro ⟨c,hc,h1⟩;obtain ⟨x,hx,rfl⟩:=Va.1 hc;obtain ⟨h2,h3,a⟩:=h x hx;simp only [Ca,Ou,WU,Wk,D6 (r:=x.2) zO,FX] at h1;rcases h1 with h1 | h1
  ·cases h1
  ·rcases b x hx with e | e | e
   ·rw [if_pos (.inl e)] at h1;exact absurd (a zO) (of_decide_eq_true h1)
   ·rw [if_pos (.inr e)] at h1;exact absurd (a zO) (of_decide_eq_true h1)
   ·rw [if_neg zO,if_pos e] at h1
    have:=h3 e
    have:=of_decide_eq_true h1
    omega
def Ki {g:List (Nat × V)} (hn:n<=60) (h:∀ c∈g,c.2.length=n+1/\∀ z∈c.2,fq z):∀ c∈g.map fun c=>(c.1,c.2.map dU),qG c.2:=fun c hc=>by
 obtain ⟨x,hx,rfl⟩:=Va.1 hc;exact vC (by rw [(h x hx).1]; omega) (h x hx).2
end
section
variable {tab:Nat->Option az} {H:Heap} {s:AV}
def yo (C:Code tab) (j:Wf H) {n:Int} {l:List tu} (hs:SlV conQE t_api_Con H s l) (g:∀ c∈l,qG c.1) (h:l.length<4611686018427387904) (hc:dw n l≠0) :
  Ans tab (.fn pa [.int .i64 n,s]) H fun v H'=>v=.tup [AF,.int .i64 (dw n l)]/\Kp H H':=by
 refine bk C.q17 zU fun T hl a d=>?_;refine zW (aE hl a d) ?_;refine AnsH.eq (ph C zF (hs.mono (zG H)) g h) fun H2 f=>?_;obtain ⟨k2,_,i⟩:=zT H zK f;have d0:=f.get (b:=H.next) (e:=.cells [.int .i64 0,.nilSl,.nilSl] aj true) (cy);have k:=i _ _ d0;have hc:¬ dw n l=0:=hc;refine zW (dx hl a d hc d0 @nt) ?_;exact zK
def kU (C:Code tab) (J:Wf H) {n m m2:Nat} {l:List (List Int × Bool)} (hs:SlV conE t_api_Con H s l) (hn:n<=4) (B:l.length<=60) (a:∀ c∈l,c.1.length=n+1/\Lin.Bd (2^m) c.1) (hm:m<=300000) (A:∀ x∈Lin.gensP n l,Lin.Bd (2^m2) x.2) (D:m2<=300000) :
  Ans tab (.fn pa [.int .i64 (n:Int),s]) H fun v H'=>qC H' v n (Lin.gensP n l)/\Kp H H':=by
 refine bk C.q17 zU fun T hl f g=>?_;refine zW (aE hl f g) ?_;refine AnsH.eq (ph C zF ((GB hs).mono (zG H)) (Q8 (n:=n) zO fun c hc=>⟨(a c hc).1,fun z F=>(ir (a c hc).2 z F).sm zO⟩) (by rw [Vh]; omega)) fun H2 t=>?_;rw [GL zO B fun c hc=>(a c hc).1];obtain ⟨k2,_,P⟩:=zT H zK t;refine zW (aE hl f g) ?_;refine AnsH.use (yl C zF ((hs.mono k2.sub).mono (zG H2)) hn zO (Ib zO hn) a hm) ?_;rintro v q ⟨hg,u⟩;obtain ⟨k23,_,_⟩:=zT H2 zK u;have j:Kp H q:=k2.trans k23;have K:=j.le;have Q:=j.wf;refine zW (aE hl f g) ?_;refine AnsH.use (CV C zF (hg.mono (zG q)) ?_ hn (fun x hx=>⟨(vU zO a x hx).1,A x hx⟩) D) ?_
 ·have hT:=Lin.gens_told (d:=n+1) (Lin.eqs_len (l:=l) fun c hc=>(a c hc).1) (Lin.ineqs_len (l:=l) fun c hc=>(a c hc).1);have h1:=hT.dd.count3 (Lin.ineqs_len (l:=l) fun c hc=>(a c hc).1);have h2:=ech_len hT.form;have h3:(Lin.ineqsOf n l).length^n<1099000000000:=Ib (Vn (vS l) zO) hn;simp only [W8] at h1;unfold Lin.gensP;split
  ·rw [Vr,Vh,Vh]; omega
  ·simp
 rintro v2 h ⟨i,w⟩;have y:Kp H h:=j.trans (Kp.trans zK w);have L:=y.le;have G:=y.wf;have d0:=w.get (u.get (t.get (b:=H.next) (e:=.cells [.int .i64 0,.nilSl,.nilSl] aj true) (cy)));have M:=G _ _ d0;rcases i with ⟨rfl,i⟩ | ⟨p,rfl,⟨k,o,rfl,hc,r⟩,h1,h2⟩
 ·refine zW (bO hl f g d0 @nt) ?_;exact ⟨.inl ⟨rfl,i⟩,zK⟩
 ·have N:=hc.one;have O:=r.one;have I:Gq 0 (.tup [.agg [.int .i64 (n:Int),k,o],.int .i64 0])=some (.agg [.int .i64 (n:Int),k,o]):=rfl;refine zW (bO hl f g d0 @nt) ?_;refine ⟨.inr ⟨_,rfl,⟨k,o,rfl,?_,?_⟩,h1,h2⟩,zK⟩
  ·have m3:NoTy (t_api_Con :: conE.tys) h H.next:=NoTy.ty d0 zU
   exact SlV.monoT (E:=conE) zS hc
  ·have m3:NoTy (ai :: genE.tys) h H.next:=NoTy.ty d0 zU
   exact SlV.monoT (E:=genE) zS r
def vL {n k m:Nat} (h:n<2^m) (hm:m<=64*k):(ag n).length<=k:=br (by
 have e:B^k=2^(64*k):=by
  have:B=2^64:=by decide
  rw [this,<- Xl]
 rw [e];exact Vu h (VI zU hm))
def Km (H:Heap) (v:AV) (n:Nat) (g:List (Nat × List Int)):Prop :=
 (v=.tup [AF,.int .i64 4]/\1024<=(Lin.consP n g).length)\/qC H v n (Lin.gensP n (Lin.consP n g))
def vZ (C:Code tab) (hw:Wf H) {n m m2 m3:Nat} {g:List (Nat × List Int)} (hs:SlV genE ai H s g) (hn:n<=4) (R:g.length<=60) (K:Lin.ValidG n g) (Q:∀ x∈g,x.1=1\/x.1=2\/x.1=3) (r:∀ c∈g,Lin.Bd (2^m) c.2) (hm:m<=300000) (M:∀ c∈Lin.consP n g,Lin.Bd (2^m2) c.1) (S:m2<=300000) (N:∀ x∈Lin.gensP n (Lin.consP n g),Lin.Bd (2^m3) x.2) (U:m3<=300000)
  (aa:(Lin.consP n g).length<=1022\/1024<=(Lin.consP n g).length) :
  Ans tab (.fn rx [.int .i64 (n:Int),s]) H fun v H'=>Km H' v n g/\Kp H H':=by
 have t:∀ c∈g,c.2.length=n+1/\Lin.Bd (2^m) c.2:=fun c hc=>⟨(K c hc).1,r c hc⟩
 have P:∀ c∈g.map fun c=>(c.1,c.2.map dU),∀ z∈c.2,Lim z.2/\z.2.length<=1048576:=fun c hc z u=>by
  obtain ⟨x,hx,rfl⟩:=Va.1 hc;obtain ⟨y,hy,rfl⟩:=Va.1 u;have hb:=ir (r x hx) y hy;exact ⟨aL _,vL (n:=y.natAbs) (k:=1048576) (m:=m+1) hb zO⟩
 refine bk C.q32 zU fun T hl a f=>?_;refine zW (aE hl a f) ?_;refine AnsH.eq (kT C zF ((A6 hs).mono (zG H)) (Ki (n:=n) zO fun c hc=>⟨(t c hc).1,fun z u=>(ir (r c hc) z u).sm zO⟩) P (by rw [Vh]; omega)) fun H2 F=>?_;rw [yw zO R K Q];obtain ⟨k2,_,w2⟩:=zT H zK F;refine zW (aE hl a f) ?_;refine AnsH.use (xH C zF ((hs.mono k2.sub).mono (zG H2)) hn zO (Ib zO hn) t zO) ?_;rintro v i ⟨o,G⟩;obtain ⟨k23,_,_⟩:=zT H2 zK G;have w:Kp H i:=k2.trans k23;have ab:=w.le;have Y:=w.wf;have d3:=G.get (F.get (b:=H.next) (e:=.cells [.int .i64 0,.nilSl,.nilSl] aj true) (cy));have ag:=Y _ _ d3;by_cases q1:(1024:Int)<=((Lin.consP n g).length:Int)
 ·refine zW (fE hl a f o.lenV q1 d3 @nt) ?_;exact ⟨.inl ⟨rfl,zO⟩,zK⟩
 have h:∀ c∈Lin.consP n g,c.1.length=n+1/\Lin.Bd (2^m2) c.1:=fun c hc=>⟨(OQ zO t c hc).1,M c hc⟩
 refine zW (aW hl o.lenV q1 a) ?_;refine AnsH.use (yl C zF (o.mono (zG i)) hn zO (Ib zO hn) h S) ?_;rintro v4 B ⟨O,I⟩;obtain ⟨V,_,_⟩:=zT i zK I;have A:Kp H B:=w.trans V;have ad:=A.le;have w4:=A.wf;refine zW (aw hl a) ?_;refine AnsH.use (CV C zF (O.mono (zG B)) ?_ hn (fun x hx=>⟨(vU zO h x hx).1,N x hx⟩) U) ?_
 ·have hT:=Lin.gens_told (d:=n+1) (Lin.eqs_len (l:=Lin.consP n g) fun c hc=>(h c hc).1) (Lin.ineqs_len (l:=Lin.consP n g) fun c hc=>(h c hc).1);have h1:=hT.dd.count3 (Lin.ineqs_len (l:=Lin.consP n g) fun c hc=>(h c hc).1);have h2:=ech_len hT.form;have h3:(Lin.ineqsOf n (Lin.consP n g)).length^n<1099000000000:=Ib (Vn (vS _) zO) hn;simp only [W8] at h1;unfold Lin.gensP;split
  ·rw [Vr,Vh,Vh]; omega
  ·simp
 rintro v5 j ⟨q,J⟩;have L:Kp H j:=A.trans (Kp.trans zK J);have ae:=L.le;have Z:=L.wf;have d0:=J.get (I.get d3);have af:=Z _ _ d0;rcases q with ⟨rfl,q⟩ | ⟨p,rfl,⟨W,X,rfl,hc,D⟩,h1,h2⟩
 ·refine zW (bO hl a f d0 @nt) ?_;exact ⟨.inr (.inl ⟨rfl,q⟩),zK⟩
 ·have oc:=hc.one;have og:=D.one;refine zW (bO hl a f d0 @nt) ?_;refine ⟨.inr (.inr ⟨_,rfl,⟨W,X,rfl,?_,?_⟩,h1,h2⟩),zK⟩
  ·have m3:NoTy (t_api_Con :: conE.tys) j H.next:=NoTy.ty d0 zU
   exact SlV.monoT (E:=conE) zS hc
  ·have m3:NoTy (ai :: genE.tys) j H.next:=NoTy.ty d0 zU
   exact SlV.monoT (E:=genE) zS D
end
section
variable {tab:Nat->Option az} {base i k:Nat} {T0:Tm} {dst:Option Nat} {op:AOp} {us:List (Nat × Option Nat)} {adds:List Nat} {r:List (Nat × List Nat)} {ds:List kj} {Vs:List AV} {Cs:List Heap} {Es:List (Option Ent)} {Q:DS->Prop} {t:Nat} {w:Bool}
end
section
variable {tab:Nat->Option az} {H:Heap} {s:AV}
def Au (C:Code tab) (Y:Wf H) {a b:AV} {l m:List (List Int × Bool)} (ha:SlV conE t_api_Con H a l) (hb:SlV conE t_api_Con H b m) (W:l.length<1099511627776) (J:∀ r∈l,r.1.length<1099511627776/\∀ z∈r.1,fq z) :
  Ans tab (.fn eQ [a,b]) H fun v H'=>v=.bool (decide (l=m))/\Kp H H':=by
 refine bk C.q44 zU fun T hl j n=>?_;by_cases he:l.length=m.length
 ·have S:lenV b=some (.int .i64 (l.length:Int)):=by rw [hb.lenV,he]
  refine zW (bO hl j n ha.lenV S) ?_;refine aP H [5] (fun k vs H'=>∃ i:Nat,vs=[.int .i64 (i:Int)]/\i+k=l.length/\∀ q (h:q<l.length) (h':q<m.length),q<i->l[q]=m[q]) l.length (by simp only [U4]; exact hl) rfl zK ⟨0,by refine zW (aE hl j n) ?_; rfl,zO,fun q _ _ h=>by omega⟩ ?_;rintro k T1 c f I o ⟨i,d,V,F⟩;have w1:=o.wf;have Z:=o.le;simp only [Vb,Vf,Vd,and_true] at d;have t0:ad T1 0=a:=(I.at_ 0 zU).trans (zV (aw hl j));have t1:ad T1 1=b:=(I.at_ 1 zU).trans (zV (aW hl j n n));by_cases hi:i<l.length
  ·have D:(i:Int)<(l.length:Int):=zO;have G:i<m.length:=zO;obtain ⟨cs,⟨w,rfl,hr⟩,-,h2,-⟩:=(ha.mono o.sub).at (U7 hi);obtain ⟨U,⟨w',rfl,Q⟩,-,E,-⟩:=(hb.mono o.sub).at (U7 G);have s:bc c none (aA a (i*2))=some w:=h2 0 _ rfl;have l1:bc c none (aA a (i*2+1))=some (.bool l[i].2):=h2 1 _ rfl;have t:bc c none (aA b (i*2))=some w':=E 0 _ rfl;have u:bc c none (aA b (i*2+1))=some (.bool m[i].2):=E 1 _ rfl;have A:cd 2 a (.int .i64 (i:Int))=some (aA a (i*2)):=SlV.idx ha .i64 i hi;have B:cd 2 b (.int .i64 (i:Int))=some (aA b (i*2)):=SlV.idx hb .i64 i G;have f0:Bb 0 (aA a (i*2))=some (aA a (i*2)):=ha.fa zO 0 (i*2);have f1:Bb 1 (aA a (i*2))=some (aA a (i*2+1)):=ha.fa zO 1 (i*2);have x:Bb 0 (aA b (i*2))=some (aA b (i*2)):=hb.fa zO 0 (i*2);have y:Bb 1 (aA b (i*2))=some (aA b (i*2+1)):=hb.fa zO 1 (i*2);have e:IntKind.i64.wrap ((i:Int)+1)=((i+1:Nat):Int):=by rw [wrap_i64] <;> omega
   refine zW (fE f d t0 t1 ha.lenV D hi) ?_;by_cases hx:l[i].2=m[i].2
   ·skip
    refine aF ?_;refine zX (Tg f d t0 t1 A B s l1 t u f0 f1 x y hx (beq_self_eq_true (α:=Bool))) ?_;refine AnsH.eq (Av C zF (hr.mono (zG c)) (Q.mono (zG c)) (J _ (U9 hi)).1 (J _ (U9 hi)).2) fun H2 P=>?_;obtain ⟨p,_,_⟩:=zT c zK P;have k2:Kp H H2:=Kp.trans o p;have aa:=k2.le;have K:=b7 p.sub s;have M:=b7 p.sub l1;have L:=b7 p.sub t;have N:=b7 p.sub u;cases g:decide (l[i].1=m[i].1) with
    | true =>
     have g:=of_decide_eq_true g;refine zX (Te f d t0 t1 A B s l1 t u K M L N f0 f1 x y hx e (beq_self_eq_true (α:=Bool))) ?_;refine ⟨zK,k-1,zO,i+1,rfl,zO,fun q h h' X=>?_⟩;by_cases eq:q=i
     ·subst eq; exact Prod.ext g hx
     ·exact F q h h' zO
    | false =>
     have g:=of_decide_eq_false g;refine zX (Te f d t0 t1 A B s l1 t u K M L N f0 f1 x y hx e (beq_self_eq_true (α:=Bool))) ?_;refine ⟨?_,zK⟩;rw [decide_eq_false];intro e; subst e; exact g rfl
   ·have R:(l[i].2 == m[i].2)=false:=by simpa using hx
    refine aF ?_;refine zX (Hp f d t0 t1 A B s l1 t u f0 f1 x y hx R (beq_self_eq_true (α:=Bool))) ?_;refine ⟨?_,zK⟩;rw [decide_eq_false];intro e; subst e; exact hx rfl
  ·have D:¬ (i:Int)<(l.length:Int):=zO;refine zW (fE f d t0 t1 ha.lenV D hi) ?_;refine ⟨?_,zK⟩;rw [decide_eq_true (ju he fun q h h'=>F q h h' zO)]
 ·have O:¬ (l.length:Int)=(m.length:Int):=zO;refine zW (fE hl j n ha.lenV hb.lenV O he) ?_;refine ⟨?_,zK⟩;rw [decide_eq_false];intro e; subst e; exact he rfl
def At (C:Code tab) (Z:Wf H) {a b:AV} {l m:List (Nat × List Int)} (ha:SlV genE ai H a l) (hb:SlV genE ai H b m) (X:l.length<1099511627776) (K:∀ r∈l,r.2.length<1099511627776/\∀ z∈r.2,fq z) :
  Ans tab (.fn eP [a,b]) H fun v H'=>v=.bool (decide (l=m))/\Kp H H':=by
 refine bk C.q45 zU fun T hl n o=>?_;by_cases he:l.length=m.length
 ·have U:lenV b=some (.int .i64 (l.length:Int)):=by rw [hb.lenV,he]
  refine zW (bO hl n o ha.lenV U) ?_;refine aP H [5] (fun k vs H'=>∃ i:Nat,vs=[.int .i64 (i:Int)]/\i+k=l.length/\∀ q (h:q<l.length) (h':q<m.length),q<i->l[q]=m[q]) l.length (by simp only [U4]; exact hl) rfl zK ⟨0,by refine zW (aE hl n o) ?_; rfl,zO,fun q _ _ h=>by omega⟩ ?_;rintro k T1 c f J p ⟨i,d,W,G⟩;have w1:=p.wf;have aa:=p.le;simp only [Vb,Vf,Vd,and_true] at d;have t0:ad T1 0=a:=(J.at_ 0 zU).trans (zV (aw hl n));have t1:ad T1 1=b:=(J.at_ 1 zU).trans (zV (aW hl n o o));by_cases hi:i<l.length
  ·have E:(i:Int)<(l.length:Int):=zO;have I:i<m.length:=zO;obtain ⟨cs,⟨w,rfl,hr⟩,-,h2,-⟩:=(ha.mono p.sub).at (U7 hi);obtain ⟨V,⟨w',rfl,R⟩,-,F,-⟩:=(hb.mono p.sub).at (U7 I);have t:bc c none (aA a (i*2))=some (.int .u8 (l[i].1:Int)):=h2 0 _ rfl;have l1:bc c none (aA a (i*2+1))=some w:=h2 1 _ rfl;have u:bc c none (aA b (i*2))=some (.int .u8 (m[i].1:Int)):=F 0 _ rfl;have x:bc c none (aA b (i*2+1))=some w':=F 1 _ rfl;have B:cd 2 a (.int .i64 (i:Int))=some (aA a (i*2)):=SlV.idx ha .i64 i hi;have D:cd 2 b (.int .i64 (i:Int))=some (aA b (i*2)):=SlV.idx hb .i64 i I;have f0:Bb 0 (aA a (i*2))=some (aA a (i*2)):=ha.fa zO 0 (i*2);have f1:Bb 1 (aA a (i*2))=some (aA a (i*2+1)):=ha.fa zO 1 (i*2);have y:Bb 0 (aA b (i*2))=some (aA b (i*2)):=hb.fa zO 0 (i*2);have A:Bb 1 (aA b (i*2))=some (aA b (i*2+1)):=hb.fa zO 1 (i*2);have e:IntKind.i64.wrap ((i:Int)+1)=((i+1:Nat):Int):=by rw [wrap_i64] <;> omega
   refine zW (fE f d t0 t1 ha.lenV E hi) ?_;by_cases hx:l[i].1=m[i].1
   ·have j:(l[i].1:Int)=(m[i].1:Int):=zO;refine aF ?_;refine zX (Hp f d t0 t1 B D t l1 u x f0 f1 y A hx j (beq_self_eq_true (α:=Bool))) ?_;refine AnsH.eq (Av C zF (hr.mono (zG c)) (R.mono (zG c)) (K _ (U9 hi)).1 (K _ (U9 hi)).2) fun H2 Q=>?_;obtain ⟨s,_,_⟩:=zT c zK Q;have k2:Kp H H2:=Kp.trans p s;have ab:=k2.le;have L:=b7 s.sub t;have N:=b7 s.sub l1;have M:=b7 s.sub u;have O:=b7 s.sub x;cases g:decide (l[i].2=m[i].2) with
    | true =>
     have g:=of_decide_eq_true g;refine zX (PB f d t0 t1 B D t l1 u x L N M O f0 f1 y A hx j e (beq_self_eq_true (α:=Bool))) ?_;refine ⟨zK,k-1,zO,i+1,rfl,zO,fun q h h' Y=>?_⟩;by_cases eq:q=i
     ·subst eq; exact Prod.ext hx g
     ·exact G q h h' zO
    | false =>
     have g:=of_decide_eq_false g;refine zX (PB f d t0 t1 B D t l1 u x L N M O f0 f1 y A hx j e (beq_self_eq_true (α:=Bool))) ?_;refine ⟨?_,zK⟩;rw [decide_eq_false];intro e; subst e; exact g rfl
   ·have j:¬ (l[i].1:Int)=(m[i].1:Int):=zO;have S:=j;refine aF ?_;refine zX (Ho f d t0 t1 B D t l1 u x f0 f1 y A hx j S (beq_self_eq_true (α:=Bool))) ?_;refine ⟨?_,zK⟩;rw [decide_eq_false];intro e; subst e; exact hx rfl
  ·have E:¬ (i:Int)<(l.length:Int):=zO;refine zW (fE f d t0 t1 ha.lenV E hi) ?_;refine ⟨?_,zK⟩;rw [decide_eq_true (ju he fun q h h'=>G q h h' zO)]
 ·have P:¬ (l.length:Int)=(m.length:Int):=zO;refine zW (fE hl n o ha.lenV hb.lenV P he) ?_;refine ⟨?_,zK⟩;rw [decide_eq_false];intro e; subst e; exact he rfl
def dG (n:Nat) (l:List tu):Bool:=decide (n<l.length) || l.any fun c=>iS 5 1 c.1
def jf (C:Code tab) (F:Wf H) {a:AV} {ls:List tu} {n:Nat} (ha:SlV conQE t_api_Con H a ls) (hn:n<4611686018427387904) :
  Ans tab (.fn dZ [a,.int .i64 (n:Int)]) H fun v H'=>v=.bool (dG n ls)/\Kp H H':=by
 refine bk C.q3 zU fun T hl b m=>?_;by_cases he:n<ls.length
 ·have o:(n:Int)<(ls.length:Int):=zO;refine zW (dx hl b m ha.lenV o he) ?_;exact ⟨by unfold dG; rw [decide_eq_true he]; rfl,zK⟩
 ·have o:¬ (n:Int)<(ls.length:Int):=zO;refine zW (dx hl b m ha.lenV o he) ?_;refine aP H [5] (fun k vs H'=>∃ i:Nat,vs=[.int .i64 (i:Int)]/\i+k=ls.length/\∀ q (h:q<ls.length),q<i->iS 5 1 (ls[q]).1=false) ls.length (by simp only [U4]; exact hl) rfl zK ⟨0,by refine zW (aE hl b m) ?_; rfl,zO,fun q _ h=>by omega⟩ ?_;rintro k T1 l f y d ⟨i,j,D,r⟩;have w1:=d.wf;have G:=d.le;simp only [Vb,Vf,Vd,and_true] at j;have t0:ad T1 0=a:=(y.at_ 0 zU).trans (zV (aw hl b));by_cases hi:i<ls.length
  ·have p:(i:Int)<(ls.length:Int):=zO;obtain ⟨cs,⟨w,rfl,hr⟩,-,h2,-⟩:=(ha.mono d.sub).at (U7 hi);have x:bc l none (aA a (i*2))=some w:=h2 0 _ rfl;have t:cd 2 a (.int .i64 (i:Int))=some (aA a (i*2)):=SlV.idx ha .i64 i hi;have s:Bb 0 (aA a (i*2))=some (aA a (i*2)):=ha.fa zO 0 (i*2);have e:IntKind.i64.wrap ((i:Int)+1)=((i+1:Nat):Int):=by rw [wrap_i64] <;> omega
   refine zW (jB f j t0 ha.lenV p hi t s x) ?_;refine AnsH.eq (ya C (many:=5) (lim:=1) zF (hr.mono (zG l)) zO) fun H2 u=>?_;obtain ⟨B,_,_⟩:=zT l zK u;have k2:Kp H H2:=Kp.trans d B;have I:=k2.le;cases g:iS 5 1 (ls[i]).1 with
   | true =>
    refine zW f ?_;refine ⟨?_,zK⟩;unfold dG;rw [VQ.2 ⟨_,U9 hi,g⟩,ZK]
   | false =>
    refine zW (aE f j e) ?_;refine ⟨zK,k-1,zO,i+1,rfl,zO,fun q h E=>?_⟩;by_cases eq:q=i
    ·subst eq; exact g
    ·exact r q h zO
  ·have p:¬ (i:Int)<(ls.length:Int):=zO;refine zW (dx f j t0 ha.lenV p hi) ?_;refine ⟨?_,zK⟩;have e:(ls.any fun c=>iS 5 1 c.1)=false:=by
    rw [Ww];intro z A;obtain ⟨q,g,rfl⟩:=Wm A;rw [r q g zO]; simp
   unfold dG;rw [decide_eq_false he,YU,e]
def ij (n:Nat) (l:List tt):Bool:=decide (n<l.length) || l.any fun c=>iS 5 1 c.2
def qw (C:Code tab) (F:Wf H) {a:AV} {ls:List tt} {n:Nat} (ha:SlV genQE ai H a ls) (hn:n<4611686018427387904) :
  Ans tab (.fn dW [a,.int .i64 (n:Int)]) H fun v H'=>v=.bool (ij n ls)/\Kp H H':=by
 refine bk C.q4 zU fun T hl b m=>?_;by_cases he:n<ls.length
 ·have o:(n:Int)<(ls.length:Int):=zO;refine zW (dx hl b m ha.lenV o he) ?_;exact ⟨by unfold ij; rw [decide_eq_true he]; rfl,zK⟩
 ·have o:¬ (n:Int)<(ls.length:Int):=zO;refine zW (dx hl b m ha.lenV o he) ?_;refine aP H [5] (fun k vs H'=>∃ i:Nat,vs=[.int .i64 (i:Int)]/\i+k=ls.length/\∀ q (h:q<ls.length),q<i->iS 5 1 (ls[q]).2=false) ls.length (by simp only [U4]; exact hl) rfl zK ⟨0,by refine zW (aE hl b m) ?_; rfl,zO,fun q _ h=>by omega⟩ ?_;rintro k T1 l f y d ⟨i,j,D,r⟩;have w1:=d.wf;have G:=d.le;simp only [Vb,Vf,Vd,and_true] at j;have t0:ad T1 0=a:=(y.at_ 0 zU).trans (zV (aw hl b));by_cases hi:i<ls.length
  ·have p:(i:Int)<(ls.length:Int):=zO;obtain ⟨cs,⟨w,rfl,hr⟩,-,h2,-⟩:=(ha.mono d.sub).at (U7 hi);have x:bc l none (aA a (i*2+1))=some w:=h2 1 _ rfl;have t:cd 2 a (.int .i64 (i:Int))=some (aA a (i*2)):=SlV.idx ha .i64 i hi;have s:Bb 1 (aA a (i*2))=some (aA a (i*2+1)):=ha.fa zO 1 (i*2);have e:IntKind.i64.wrap ((i:Int)+1)=((i+1:Nat):Int):=by rw [wrap_i64] <;> omega
   refine zW (jB f j t0 ha.lenV p hi t s x) ?_;refine AnsH.eq (ya C (many:=5) (lim:=1) zF (hr.mono (zG l)) zO) fun H2 u=>?_;obtain ⟨B,_,_⟩:=zT l zK u;have k2:Kp H H2:=Kp.trans d B;have I:=k2.le;cases g:iS 5 1 (ls[i]).2 with
   | true =>
    refine zW f ?_;refine ⟨?_,zK⟩;unfold ij;rw [VQ.2 ⟨_,U9 hi,g⟩,ZK]
   | false =>
    refine zW (aE f j e) ?_;refine ⟨zK,k-1,zO,i+1,rfl,zO,fun q h E=>?_⟩;by_cases eq:q=i
    ·subst eq; exact g
    ·exact r q h zO
  ·have p:¬ (i:Int)<(ls.length:Int):=zO;refine zW (dx f j t0 ha.lenV p hi) ?_;refine ⟨?_,zK⟩;have e:(ls.any fun c=>iS 5 1 c.2)=false:=by
    rw [Ww];intro z A;obtain ⟨q,g,rfl⟩:=Wm A;rw [r q g zO]; simp
   unfold ij;rw [decide_eq_false he,YU,e]
end
def AT {H:Heap} {b:Nat} {x y:Int} {r:Bool} (h:H.get b=some (.cells [.int .i64 x,.int .i64 y] dj r)):y8 (Iz .i64) dj H (.own b 0 2 2 1 true) [x,y] :=
 ⟨[_,_],Rd.own h rfl (Vc _),fun _ _ _ _ _ _ e=>by cases e; exact ⟨_,_,h⟩,rfl,fun i a hi=>by
  match i with
  | 0=>simp at hi; subst hi; exact ⟨_,rfl,rfl⟩
  | 1=>simp at hi; subst hi; exact ⟨_,rfl,rfl⟩
  | i+2=>simp at hi⟩
def Emp (H:Heap) (a e:Nat):Prop:=e<=H.next/\∀ c,a<=c->c<e->H.get c=none
def Emp.start {H:Heap} (a:Wf H) {k:Nat}:Emp (H.up k) H.next (H.next+k):=⟨Vc _,fun c h _=>a.fresh h⟩
def Emp.next {G H2:Heap} {a e p a':Nat} {x:Ent} (b:Emp G a e) (d:Kp (G.put p x) H2) (hp:p<a') (ha:a<=a'):Emp H2 a' e :=
 ⟨Vn b.1 d.le,fun c h1 h2=>d.free (by rw [next_put]; exact Vu h2 b.1) (by rw [aB zO]; exact b.2 c zO h2)⟩
def Emp.keep {G H2:Heap} {a e:Nat} (b:Emp G a e) (d:Kp G H2):Emp H2 a e :=
 ⟨Vn b.1 d.le,fun c h1 h2=>d.free (Vu h2 b.1) (b.2 c h1 h2)⟩
def Emp.sub {G:Heap} {a e p:Nat} {x:Ent} (b:Emp G a e) (h1:a<=p) (h2:p<e):Sub G (G.put p x):=aV (b.2 p h1 h2)
section
variable {tab:Nat->Option az} {H:Heap} {s:AV}
end
end Go.Proofs.YteaefaohjlmjdaaGreat.Ev
namespace Go.Proofs.YteaefaohjlmjdaaGreat.Lin
def IP:gensL 2 [] [[1,1]]=[[-1,1]]/\gensR 2 [] [[1,1]]=[[1,0]]:=by
 have r:(gensU 2 [] [[1,1]]).rays.map (restF (gensL 2 [] [[1,1]]))=[[1,0]]:=by decide +kernel
 refine ⟨by decide +kernel,?_⟩;unfold gensR; rw [r]; simp
end Go.Proofs.YteaefaohjlmjdaaGreat.Lin
namespace Go.Proofs.YteaefaohjlmjdaaGreat.Ev
open Go Nn
def Emp.put {G:Heap} {a e p a':Nat} {x:Ent} (b:Emp G a e) (hp:p<a') (ha:a<=a'):Emp (G.put p x) a' e :=
 ⟨b.1,fun c h1 h2=>by rw [aB zO]; exact b.2 c zO h2⟩
section
variable {tab:Nat->Option az} {H:Heap} {s:AV}
end
end Go.Proofs.YteaefaohjlmjdaaGreat.Ev
namespace Go.Proofs.YteaefaohjlmjdaaGreat.Lin
end Go.Proofs.YteaefaohjlmjdaaGreat.Lin
namespace Go.Proofs.YteaefaohjlmjdaaGreat.Ev
open Go Nn
def TZ {a b c:AV} (ha:One a) (hb:One b) (hc:One c):iq (.agg [a,b,c])=some [a,b,c]:=by
 simp [iq,AV.cells,ha.2,hb.2,hc.2]
def ki {b c:AV} (hb:One b) (hc:One c) (k:IntKind) (n:Int):iq (.agg [.int k n,b,c])=some [.int k n,b,c]:=TZ (aZ _ _) hb hc
section
variable {tab:Nat->Option az} {H:Heap} {s:AV}
def FM (C:Code tab) (b:Wf H) {n:Nat} (hn:n<B):Ans tab (.fn iO [.int .u64 (n:Int)]) H fun v H'=>bA H' v n/\Kp H H':=by
 refine cY C.q98 zU fun T hl a=>?_;by_cases h0:(n:Int)=0
 ·have e:n=0:=zO;subst e;refine zW (aE hl a h0) ?_;exact ⟨dM _,zK⟩
 ·refine zW (aE hl a h0) ?_;have e:ag n=[n]:=by
   have h0:¬ n=0:=zO;have hd:n / B=0:=WG hn;rw [jv h0,hd,VE hn,ca]
  refine ⟨?_,zK⟩;show Lb _ _ (ag n);rw [e];exact (show Own (bz bp) ae H _ _ true _ [n] from ⟨_,rfl,ap _ _ _,Cells.one ⟨_,rfl,rfl⟩,zO⟩).sl
def lW (c:List (List Int × Bool)) (g:List (Nat × List Int)):Bool:=dG 9 (c.map fun c=>(c.1.map dU,c.2)) || ij 9 (g.map fun c=>(c.1,c.2.map dU))
def FI (C:Code tab) (p:Wf H) {v:AV} {n:Nat} {c:List (List Int × Bool)} {g:List (Nat × List Int)} (hp:PolyV H v n c g) :
  Ans tab (.fn fO [v]) H fun x H'=>x=.bool (lW c g)/\Kp H H':=by
 obtain ⟨m,o,rfl,hc,hg⟩:=hp;have k:=hc.one;have l:=hg.one;refine cY C.q22 zU fun T hl a=>?_;refine zW (aE hl a (ki k l)) ?_;refine AnsH.eq (jf C (n:=9) zF ((GB hc).mono (zG H)) zO) fun H2 d=>?_;obtain ⟨k2,_,r⟩:=zT H zK d;have d0:=d.get (b:=H.next) (e:=.cells [.int .i64 (n:Int),m,o] aj true) (cy);cases f:dG 9 (c.map fun c=>(c.1.map dU,c.2)) with
 | true =>
  refine zW (aw hl a) ?_;exact ⟨by unfold lW; rw [f,Bool.true_or],zK⟩
 | false =>
  refine zW (aE hl a d0) ?_;refine AnsH.eq (qw C (n:=9) zF ((A6 (hg.mono k2.sub)).mono (zG H2)) zO) fun h i=>?_;have j:Kp H h:=k2.trans (Kp.trans zK i);have q:=j.le;refine zW (aw hl a) ?_;exact ⟨by unfold lW; rw [f,YU],zK⟩
def HV (C:Code tab) (J:Wf H) {v p:AV} {n n':Nat} {c c':List (List Int × Bool)} {g g':List (Nat × List Int)} (hp:PolyV H v n c g) (B:PolyV H p n' c' g') (s:c.length<1099511627776) (t:∀ r∈c,r.1.length<1099511627776/\∀ z∈r.1,fq z) (u:g.length<1099511627776) (w:∀ r∈g,r.2.length<1099511627776/\∀ z∈r.2,fq z) :
  Ans tab (.fn gD [v,p]) H fun x H'=>x=.bool (decide (n=n'/\c=c'/\g=g'))/\Kp H H':=by
 obtain ⟨E,G,rfl,hc,hg⟩:=hp;obtain ⟨F,I,rfl,i,j⟩:=B;have k:=hc.one;have m:=hg.one;have l:=i.one;have o:=j.one;refine bk C.q28 zU fun T hl a d=>?_;by_cases hn:n=n'
 ·subst hn;refine zW (bO hl a d (ki k m) (ki l o)) ?_;refine AnsH.eq (Au C zF (hc.mono (zG H)) (i.mono (zG H)) s t) fun H2 h=>?_;obtain ⟨k2,_,L⟩:=zT H zK h;have d0:=h.get (b:=H.next) (e:=.cells [.int .i64 (n:Int),E,G] aj true) (cy);have d1:=h.get (b:=H.next+1) (e:=.cells [.int .i64 (n:Int),F,I] aj true) (cy);by_cases f:c=c'
  ·rw [decide_eq_true f];refine zW (bO hl a d d0 d1) ?_;refine AnsH.eq (At C zF ((hg.mono k2.sub).mono (zG H2)) ((j.mono k2.sub).mono (zG H2)) u w) fun q y=>?_;have D:Kp H q:=k2.trans (Kp.trans zK y);have K:=D.le;refine zW (aE hl a d) ?_;exact ⟨by simp [f],zK⟩
  ·rw [decide_eq_false f];refine zW (aE hl a d) ?_;exact ⟨by simp [f],zK⟩
 ·have A:¬ (n:Int)=(n':Int):=zO;refine zW (dx hl a d (ki k m) (ki l o) A) ?_;exact ⟨by simp [hn],zK⟩
def TD {H:Heap} {b:Nat} {v:AV} {x:List Int} {p r:Bool} (h:H.get b=some (.cells [v,.bool p] t_api_Con r)) (a:RowV H v x):SlV conE t_api_Con H (.own b 0 1 1 2 true) [(x,p)] :=
 ⟨[_,_],Rd.own h rfl (Vc _),fun _ _ _ _ _ _ e=>by cases e; exact ⟨_,_,h⟩,Cells.one (E:=conE) ⟨v,rfl,a⟩⟩
def TC {H:Heap} {b:Nat} {v w:AV} {x y:List Int} {p q r:Bool} (h:H.get b=some (.cells [v,.bool p,w,.bool q] t_api_Con r)) (a:RowV H v x) (c:RowV H w y):SlV conE t_api_Con H (.own b 0 2 2 2 true) [(x,p),(y,q)] :=
 ⟨[_,_,_,_],Rd.own h rfl (Vc _),fun _ _ _ _ _ _ e=>by cases e; exact ⟨_,_,h⟩,(Cells.one (E:=conE) ⟨v,rfl,a⟩).append (Cells.one (E:=conE) ⟨w,rfl,c⟩)⟩
def Rk {H:Heap} {b:Nat} {v:AV} {x:List Int} {p:Nat} {r:Bool} (h:H.get b=some (.cells [.int .u8 (p:Int),v] ai r)) (a:RowV H v x):SlV genE ai H (.own b 0 1 1 2 true) [(p,x)] :=
 ⟨[_,_],Rd.own h rfl (Vc _),fun _ _ _ _ _ _ e=>by cases e; exact ⟨_,_,h⟩,Cells.one (E:=genE) ⟨v,rfl,a⟩⟩
def pW {many lim:Nat} {r:List (Bool × List Nat)} (h:iS many lim r=false):r.length<=many/\∀ z∈r,z.2.length<=lim:=by
 unfold iS at h;rw [WX,decide_eq_false_iff_not,Ww] at h;refine ⟨zO,fun z a=>?_⟩
 have:=h.2 z a
 simp only [decide_eq_true_eq] at this;omega
def jQ {n:Nat} {l:List tu} (h:dG n l=false):l.length<=n/\∀ c∈l,c.1.length<=5/\∀ z∈c.1,z.2.length<=1:=by
 unfold dG at h;rw [WX,decide_eq_false_iff_not,Ww] at h;exact ⟨zO,fun c hc=>pW (by simpa using h.2 c hc)⟩
def jP {n:Nat} {l:List tt} (h:ij n l=false):l.length<=n/\∀ c∈l,c.2.length<=5/\∀ z∈c.2,z.2.length<=1:=by
 unfold ij at h;rw [WX,decide_eq_false_iff_not,Ww] at h;exact ⟨zO,fun c hc=>pW (by simpa using h.2 c hc)⟩
def A5 {n:Nat} {l:List tu} (h:dG n l=false):∀ c∈l,qG c.1:=fun c hc=>by
 obtain ⟨h1,h2⟩:=(jQ h).2 c hc;exact ⟨zO,fun z a=>by have:=h2 z a; omega⟩
def II {n:Nat} {l:List tt} (h:ij n l=false):∀ c∈l,qG c.2:=fun c hc=>by
 obtain ⟨h1,h2⟩:=(jP h).2 c hc;exact ⟨zO,fun z a=>by have:=h2 z a; omega⟩
abbrev Rs (c:tu):List Int × Bool:=(c.1.map cB,c.2)
abbrev Rp (c:tt):Nat × List Int:=(c.1,c.2.map cB)
def HS {r:List (Bool × List Nat)} (hl:∀ z∈r,Lim z.2/\z.2.length<=1):Lin.Bd (2^64) (r.map cB):=fun i=>by
 unfold Lin.at_;rw [U5];cases hi:(r.map cB)[i]? with
 | none=>simp
 | some z =>
  obtain ⟨x,hx,rfl⟩:=Va.1 (Vo hi)
  have:=Ng (n:=1) (hl x hx).1 (hl x hx).2
  unfold Bt at this;simp only [WF] at this;simp only [WK];omega
def Ed {r:List (Bool × List Nat)} (h:vE r=true):∀ z∈r,qi z=false:=by
 simp only [vE,VH,Wk,Ww,YS] at h;exact h.2
def Mh {d:Int} {n:Nat} {l:List tu} (hs:SlV conQE t_api_Con H s l) (gl:∀ r∈l,eI r.1) (hg:dG n l=false) (e:¬ 4<d) (hn:n<=60) :
  dw d l≠0\/∃ k:Nat,d=(k:Int)/\k<=4/\SlV conE t_api_Con H s (l.map Rs)/\l.length<=n/\∀ c∈l.map Rs,c.1.length=k+1/\Lin.Bd (2^64) c.1:=by
 by_cases hc:dw d l=0
 ·refine .inr ?_;obtain ⟨h1,h2⟩:=jQ hg;unfold dw at hc;split at hc
  ·omega
  split at hc
  ·omega
  split at hc
  ·omega
  split at hc
  ·omega
  rename_i q1 q2 q3 q4;have q3:∀ c∈l,vE c.1=true:=fun c hc=>by
   cases b:vE c.1 with
   | true=>rfl
   | false=>exact absurd (VQ.2 ⟨c,hc,by rw [b]; rfl⟩) q3
  have q4:∀ c∈l,(c.1.length:Int)=d+1:=fun c hc=>by
   apply V8
   intro hn;exact q4 (VQ.2 ⟨c,hc,by simpa using hn⟩)
  refine ⟨d.toNat,zO,zO,OP hs fun r hr z a=>⟨Ed (q3 r hr) z a,((gl r hr).1 z a).1⟩,h1,fun c hc=>?_⟩;obtain ⟨x,hx,rfl⟩:=Va.1 hc;refine ⟨?_,HS fun z a=>⟨((gl x hx).1 z a).1,(h2 x hx).2 z a⟩⟩
  have:=q4 x hx
  show (x.1.map cB).length=_;rw [Vh];omega
 ·exact .inl hc
end
end Go.Proofs.YteaefaohjlmjdaaGreat.Ev
namespace Go.Proofs.YteaefaohjlmjdaaGreat.Lin
section
variable {n:Nat} {l:List (V × Bool)}
end
section
variable {n:Nat} {l m:List (V × Bool)}
def xO (hne:gensP n l≠[]):(gensR (n+1) (eqsOf l) (ineqsOf n l)).any (fun r=>decide (0<hd1 r))=true:=by
 cases hs:(gensR (n+1) (eqsOf l) (ineqsOf n l)).any (fun r=>decide (0<hd1 r)) with
 | true=>rfl
 | false=>exact absurd (by unfold gensP; rw [if_neg (by rw [hs]; decide)]) hne
def xC (h:∀ c∈l,c.1.length=n+1):gensP n l≠[] ↔ ∃ x,jc n l x/\0<hd1 x:=by
 constructor
 ·intro hne
  have:=xO hne
  rw [VQ] at this;obtain ⟨r,hr,h0⟩:=this;exact ⟨r,Qk h hr,of_decide_eq_true h0⟩
 ·rintro ⟨x,hx,h0⟩ he;have hs:¬ (gensR (n+1) (eqsOf l) (ineqsOf n l)).any (fun r=>decide (0<hd1 r))=true:=fun hs=>by
   have:=(A7 hs).2.2
   rw [he] at this;cases this
  have t:=gens_told (eqs_len h) (ineqs_len h);have h1:∀ r∈gensR (n+1) (eqsOf l) (ineqsOf n l),dot (unitC n 1) r=0:=fun r hr=>by
   rw [kW];have h2:=(keepP_iff.1 (Qk h hr)).2.1;have h3:¬ 0<hd1 r:=fun h3=>hs (VQ.2 ⟨r,hr,by simpa using h3⟩);omega
  have h2:∀ r∈gensL (n+1) (eqsOf l) (ineqsOf n l),dot (unitC n 1) r=0:=fun r hr=>t.dd.lineI r hr _ (mem_ineqs.2 (.inl rfl))
  have:=(t.dd.all x hx).dot_zero t.dd.lenL t.dd.lenR h2 h1
  rw [kW] at this;omega
def nI {c:V × Bool} {g:Nat × V}:keepsP c g=true ↔ (if c.2=true\/g.1=1 then dot c.1 g.2=0 else 0<=dot c.1 g.2):=by
 unfold keepsP;by_cases h:c.2=true\/g.1=1
 ·rw [if_pos h,if_pos (by simpa using h)]; simp
 ·rw [if_neg h,if_neg (by simpa using h)]; simp
def HD (h:∀ c∈l,c.1.length=n+1) (hne:gensP n l≠[]) {c:V × Bool}:(∀ g∈gensP n l,keepsP c g=true) ↔ Pi n l c:=by
 constructor
 ·intro b x hx;have t:=gens_told (eqs_len h) (ineqs_len h);have hs:=xO hne;have e:gensP n l=(gensL (n+1) (eqsOf l) (ineqsOf n l)).map (fun r=>(1,r))++(gensR (n+1) (eqsOf l) (ineqsOf n l)).map (fun r=>(kindOf r,r)):=by
   unfold gensP; rw [if_pos hs]
  have hL:∀ r∈gensL (n+1) (eqsOf l) (ineqsOf n l),dot c.1 r=0:=fun r hr=>by
   have:=b (1,r) (by rw [e]; exact Wg _ (Va.2 ⟨r,hr,rfl⟩))
   rw [nI,if_pos (.inr rfl)] at this;exact this
  have a:∀ r∈gensR (n+1) (eqsOf l) (ineqsOf n l),(c.2=true->dot c.1 r=0)/\0<=dot c.1 r:=fun r hr=>by
   have:=b (kindOf r,r) (by rw [e]; exact Wp _ (Va.2 ⟨r,hr,rfl⟩))
   rw [nI] at this;split at this
   ·exact ⟨fun _=>this,by simp only at this; omega⟩
   ·rename_i hc;exact ⟨fun e=>absurd (.inl e) hc,this⟩
  exact ⟨fun hb=>(t.dd.all x hx).dot_zero t.dd.lenL t.dd.lenR hL fun r hr=>(a r hr).1 hb,(t.dd.all x hx).dot_nonneg t.dd.lenL t.dd.lenR hL fun r hr=>(a r hr).2⟩
 ·intro d g hg;obtain ⟨k1,k2⟩:=p8 h hg;exact vO d k1 k2
def inP (G:List (Nat × V)) (K:List (V × Bool)):Bool:=G.all fun g=>K.all fun c=>keepsP c g
def inP_iff {G:List (Nat × V)} {K:List (V × Bool)}:inP G K=true ↔ ∀ g∈G,∀ c∈K,keepsP c g=true:=by
 unfold inP;rw [VA];exact ⟨fun h g hg=>VA.1 (h g hg),fun h g hg=>VA.2 (h g hg)⟩
structure Own (n:Nat) (K:List (V × Bool)) (G:List (Nat × V)):Prop where
 rows:∀ c∈K,c.1.length=n+1
 gens:gensP n K=G
 cons:consP n G=K
def own_of (h:∀ c∈l,c.1.length=n+1):Own n (consP n (gensP n l)) (gensP n l):=⟨GC (sO h),Lm h,rfl⟩
def Own.valid {K:List (V × Bool)} {G:List (Nat × V)} (h:Own n K G):ValidG n G:=by rw [<- h.gens]; exact Gm h.rows
def keepP_app {x:V}:jc n (l++m) x ↔ jc n l x/\jc n m x:=by
 rw [keepP_iff,keepP_iff,keepP_iff];constructor
 ·rintro ⟨h1,h2,h3⟩;exact ⟨⟨h1,h2,fun c hc=>h3 c (Wg _ hc)⟩,h1,h2,fun c hc=>h3 c (Wp _ hc)⟩
 ·rintro ⟨⟨h1,h2,h3⟩,-,-,a⟩;exact ⟨h1,h2,fun c hc=>(Vq.1 hc).elim (h3 c) (a c)⟩
section
variable {K K' Kr:List (V × Bool)} {G G' Gr:List (Nat × V)}
end
section
variable {g g':List (Nat × V)}
end
section
variable {K K' Kr:List (V × Bool)} {G G' Gr:List (Nat × V)}
def validG_app (h:ValidG n G) (h':ValidG n G'):ValidG n (G++G'):=fun x hx=>(Vq.1 hx).elim (h x) (h' x)
end
end
end Go.Proofs.YteaefaohjlmjdaaGreat.Lin
