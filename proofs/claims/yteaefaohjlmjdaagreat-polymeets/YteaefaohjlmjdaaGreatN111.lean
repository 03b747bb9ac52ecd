/- A part. -/
import Derived.Test.YteaefaohjlmjdaaGreatA0
import Derived.Test.YteaefaohjlmjdaaGreatN71
import Derived.Test.YteaefaohjlmjdaaGreatN48
import Derived.WideShapes
import Derived.Test.YteaefaohjlmjdaaGreatEvDraw5
import Derived.KernelRfl
import Derived.WalkKit
import Derived.ProofKit
import Derived.Test.YteaefaohjlmjdaaGreatProg
import Derived.Lib.Walk
import Derived.Lib.SliceRun
import Derived.Lib.JoinLaws
import Derived.Lib.AppendZeros
import Derived.Lib.AppendZerosOnto
import Derived.Lib.Overlaps
import Derived.Laws.Externs
import Derived.Laws.IdiomCopy
import Derived.Laws.NewBlocks
import Derived.Shelf.RegionOpenPlain
import Derived.Shelf.SlSortCmp.NoneTotal
import Derived.Ground.SlsfProg
import Derived.Test.YteaefaohjlmjdaaGreatKit
set_option linter.all false
namespace Go.Proofs.YteaefaohjlmjdaaGreat.Ev
open Go Nn
def S6:Pu Nat:=⟨[],fun _ v a=>v=.int .i64 (a:Int),fun h=>h ▸ aZ _ _,fun _ h=>h⟩
abbrev Tc (H:Heap) (v:AV) (l:List Nat):Prop:=y8 S6 dj H v l
def vM {H0 H:Heap} {b ty:Nat} {l:List Nat} {ex:Bool} {v:AV} (h:Own (bz bp) ty H0 H b ex v l):v=.own b 0 l.length l.length 1 ex/\H.get b=some (.cells (aM l) ty true)/\H0.next<=b:=by
 obtain ⟨cells,rfl,hb,hc,hge⟩:=h;rw [By hc] at hb;exact ⟨rfl,hb,hge⟩
def KT {l:List Nat} {k r:Nat} (a:l.length=k+1) (h:val l<2^(64*k+r)):l.getD k 0<2^r:=by
 have e:l=l.take k++[l.getD k 0]:=by
  have h1:k<l.length:=zO;have h2:=Ve h1;rw [Vt zO] at h2;have h3:l.getD k 0=l[k]:=by simp [U5,h1]
  rw [h3,<- h2]
 have h1:B^k*l.getD k 0<=val l:=by
  have h2:=fg (l.take k) (l.getD k 0);rw [<- e,Vx,VZ zO] at h2;omega
 have h2:B^k=2^(64*k):=by rw [Dp,<- Xl]
 rw [V4,<- h2] at h;exact Nat.lt_of_mul_lt_mul_left (Wc h1 h)
def Qu {l:List Nat} {n:Nat} (h0:0<n) (hl:l.length=(n+63) / 64) (f:2^(n-1)<=val l) (hL:Lim l):E3 l:=by
 unfold E3;intro a;obtain ⟨k,d⟩:∃ k,l.length=k+1:=⟨l.length-1,zO⟩
 rw [Zo,d,W8] at a;have b:k<l.length:=zO;rw [U7 b] at a;have a:l[k]=0:=by simpa using a
 have h2:=Ve b;rw [Vt zO] at h2;have h3:=fg (l.take k) l[k];rw [<- h2,a] at h3;have c:=ul (hL.take k);rw [Vx,VZ zO] at c;have h5:B^k=2^(64*k):=by rw [Dp,<- Xl]
 have e:2^(64*k)<=2^(n-1):=VI zU zO;omega
section
variable {tab:Nat->Option az} {H:Heap} {s:AV}
set_option maxHeartbeats 2000000 in
def Ax (C:Code tab) (hw:Wf H) {l:List Nat} (hs:Tc H s l) (hb:∀ b∈l,b<=1) (aM:l.length<=4294967296) :
  Ans tab (.fn gK [s]) H fun v H'=>bA H' v (bv l)/\Kp H H':=by
 have aA:c_facetroomref01_From.results=[(2,none)]:=rfl;refine ts C.q101 rfl rfl zU fun T hl g=>?_;have hl:T.length=47:=hl;have Y:ad T 0=s:=g 0 (by simp);clear g;refine aG ?_;refine zW (aw hl @am) ?_;refine aG ?_;refine zW (aW hl Y hs.lenV @am) ?_;have k0:Kp H (H.up 4):=zK;have aS:=k0.le;refine bP (fun T' H'=>Kp H H'/\∃ n:Nat,ad T' 3=.int .i64 (n:Int)/\n<=l.length/\bv (l.take n)=bv l/\(0<n->∃ h:n-1<l.length,l[n-1]≠0)) rfl ?_ ?_
 ·refine aP H [3] (fun k vs _=>vs=[.int .i64 (k:Int)]/\k<=l.length/\∀ i,k<=i->∀ (hi:i<l.length),l[i]=0) l.length (by simp only [U4]; exact hl) rfl zK ⟨by exact zV hl,Vc _,fun i h1 h2=>by omega⟩ ?_;rintro k T1 H1 o W ab ⟨m,aL,O⟩;have w1:=ab.wf;have aQ:=ab.le;simp only [Vb,Vf,Vd,and_true] at m;have t0:ad T1 0=s:=(W.at_ 0 zU).trans (zV (aw hl Y));by_cases h0:k=0
  ·subst h0;have hp:¬ (0:Int)<((0:Nat):Int):=zO;refine zW (bO o m hp @aC @bF) ?_;exact ⟨zK,0,rfl,zO,GU O,fun h=>by omega⟩
  ·obtain ⟨j,rfl⟩:∃ j,k=j+1:=⟨k-1,zO⟩
   have hj:j<l.length:=zO;have hp:(0:Int)<((j+1:Nat):Int):=zO;have ew:IntKind.i64.wrap (((j+1:Nat):Int)-1)=(j:Int):=by rw [wrap_i64] <;> omega
   have A:=SlV.idx1 hs .i64 j hj;obtain ⟨c,hc,w⟩:=SlV.at1 (hs.mono ab.sub) (U7 hj);have hc:c=.int .i64 ((l[j]:Nat):Int):=hc;subst hc;by_cases B:l[j]=0
   ·have af:((l[j]:Nat):Int)=0:=zO;refine zW (jC o m hp t0 ew A w af) ?_;refine ⟨zK,j,zO,rfl,zO,fun i h1 h2=>?_⟩;by_cases e:i=j
    ·subst e; exact B
    ·exact O i zO h2
   ·have af:¬ ((l[j]:Nat):Int)=0:=zO;refine zW (lP o m hp t0 ew A w af B @aC @bF) ?_;exact ⟨zK,j+1,rfl,zO,GU O,fun _=>⟨zO,B⟩⟩
 rintro T1 G1 W ⟨aD,n,t3,aO,ah,aB⟩;have aT:=aD.wf;have o:T1.length=47:=W.len.trans (zV hl);have t0:ad T1 0=s:=(W.at_ 0 zU).trans (zV (aw hl Y));refine aG ?_;refine zW (aw o @am) ?_;refine bP (fun T' H'=>Kp H H'/\bA H' (ad T' 4) (bv l)) rfl ?_ ?_
 ·refine zW o ?_;refine aP H [4,5] (fun k vs H'=>∃ (i:Nat) (v:AV) (out:List Nat),vs=[v,.int .i64 (i:Int)]/\i+k=n/\Bl (bz bp) ae H H' v out/\out.length=(i+63) / 64/\Lim out/\val out=bv (l.take i)) n (by simp only [U4]; exact o) rfl zK ⟨0,.nilSl,[],by refine zW o ?_; simp,zO,.inl ⟨rfl,rfl⟩,by simp,Lim.nil,by simp [val,bv]⟩ ?_;rintro k T2 H2 p X U ⟨i,v,out,m,aK,Z,al,V,L⟩;have w2:=U.wf;have aR:=U.le;simp only [Vb,Vf,Vd,and_true] at m;obtain ⟨v4,v5⟩:=m;have E:ad T2 0=s:=(X.at_ 0 zU).trans (zV (aw o t0));have D:ad T2 3=.int .i64 (n:Int):=(X.at_ 3 zU).trans (zV (aw o t3));by_cases y:i<n
  case neg =>
   have u:¬ (i:Int)<(n:Int):=zO;have av:i=n:=zO;refine zW (jC p v4 v5 D y u @aC @bF) ?_;refine ⟨zK,?_⟩;rw [av,ah] at L;show Lb _ _ (ag (bv l))
   have:ag (bv l)=out:=by
    rw [<- L];by_cases aN:n=0
    ·have:out=[]:=VB zO
     rw [this]; simp [val,ca]
    ·refine sK V (Qu (n:=n) zO zO ?_ V);obtain ⟨h1,h2⟩:=aB zO;have h3:=EQ h1;rw [show n-1+1=n by omega,ah,<- L] at h3;have h4:2^(n-1)*1<=2^(n-1)*l[n-1]:=WS _ zO;omega
   rw [this];rcases Z with ⟨h1,h2⟩ | ⟨b,h⟩
   ·rw [h1,h2]; exact SlV.nil _ _ _
   ·exact h.sl.mono (zG H2)
  have u:(i:Int)<(n:Int):=zO;have G:i<l.length:=zO;have R:IntKind.i64.wrap ((i:Int)+1)=((i+1:Nat):Int):=by rw [wrap_i64] <;> omega
  have B:bu .quo .int (.int .i64 (i:Int)) (.int .i64 64)=some (.int .i64 ((i / 64:Nat):Int)):=CD (c:=64) zO zO;have hr:bu .rem .int (.int .i64 (i:Int)) (.int .i64 64)=some (.int .i64 ((i % 64:Nat):Int)):=CC (c:=64) zO;obtain ⟨q,eq⟩:∃ q,q=i / 64:=⟨_,rfl⟩
  obtain ⟨r,er⟩:∃ r,r=i % 64:=⟨_,rfl⟩
  rw [<- eq] at B;rw [<- er] at hr;have aj:i=64*q+r:=zO;have ay:r<64:=zO;have A:=SlV.idx1 hs .i64 i G;have aJ:=hb _ (U9 G);have S:=EQ G;have hlt:bv (l.take i)<2^i:=by
   have:=O3 (l:=l.take i) fun b ax=>hb b (WP ax)
   rwa [Vx,VZ zO] at this
  have step:∀ {d:List Nat},d.length=q+1->Lim d->val d=bv (l.take i)->d.getD q 0<2^r/\(d.getD q 0+2^r) % 18446744073709551616=d.getD q 0+2^r/\Lim (d.set q (d.getD q 0+2^r))/\val (d.set q (d.getD q 0+2^r))=bv (l.take i)+2^i/\q+1=(i+1+63) / 64:=fun {d} h1 h2 h3=>by
   have h4:d.getD q 0<2^r:=KT h1 (by rw [h3,<- aj]; exact hlt);have h5:2^r<=2^63:=VI zU zO;have h6:(2:Nat)^63=9223372036854775808:=by decide
   refine ⟨h4,VE zO,fun z O=>?_,?_,zO⟩
   ·rcases XI O with h | h
    ·exact h2 z h
    ·rw [h]; show _<18446744073709551616; omega
   ·rw [Ff zO,h3,Dp,<- Xl,<- V4,<- aj]
  have aq:=BV ay (k:=.i64);have ai:=hr;by_cases ao:r=0
  ·have M:(r:Int)=0:=zO;obtain ⟨N,H3,Q,B5,k5,n5,-,-⟩:=Bl.push1 (ty2:=ae) (bytes:=8) (k:=10) (id:=H2.next+8) (id2:=H2.next+7) (cs:=[.int .u64 0]) (a:=0) Z zU U ⟨_,rfl,rfl⟩ zO zO zO zO zO zO zO;have Q:cC ((H2.up 10).put (H2.next+7) (.cells [.int .u64 0] ae true)) (H2.next+8) 1 8 ae v (.own (H2.next+7) 0 1 1 1 true)=some (.own (H2.next+8) 0 N N 1 false,H3):=Q;obtain ⟨b,hO⟩:∃ b,Own (bz bp) ae H H3 b false (.own (H2.next+8) 0 N N 1 false) (out++[0]):=by
    rcases B5 with ⟨h,-⟩ | h
    ·cases h
    ·exact h
   obtain ⟨ho,t,hge⟩:=vM hO;obtain ⟨d,J⟩:∃ d,d=out++[0]:=⟨_,rfl⟩
   have f:d.length=q+1:=by rw [J]; simp; omega
   have K:Lim d:=by rw [J]; exact V.append (Lim.replicate 1)
   have I:val d=bv (l.take i):=by rw [J,fg,L]; omega
   rw [<- J,f] at ho;rw [<- J] at t
   injection ho with e1 _ e2
   subst e1;subst e2;obtain ⟨s1,s2,s3,s4,P⟩:=step f K I;obtain ⟨c,hc,w⟩:=SlV.at1 (hs.mono k5.sub) (U7 G);have hc:c=.int .i64 ((l[i]:Nat):Int):=hc;subst hc;have w3:=k5.wf;have aH:=w3 _ _ t;by_cases F:l[i]=1
   ·have x:((l[i]:Nat):Int)=1:=zO;refine zW (yZ p v4 v5 D E u y hr M Q A w x) ?_;refine aF ?_;refine zD (E4 p v4 v5 D E u y hr B t f ai aq s2 R) ?_;refine ⟨zK,k-1,zO,i+1,_,d.set q (d.getD q 0+2^r),rfl,zO,.inr ⟨(H2.next+8),iX (by simp only [oI,ap]) hge (by rw [U4,f])⟩,by rw [U4,f,P],s3,?_⟩;rw [s4,S,F]; omega
   ·have x:¬ ((l[i]:Nat):Int)=1:=zO;have aa:l[i]=0:=zO;refine zW (E4 p v4 v5 D E u y hr M Q A w x F R) ?_;refine ⟨zK,k-1,zO,i+1,_,d,rfl,zO,.inr ⟨(H2.next+8),iX (by simp only [oI]; exact t) hge f⟩,by rw [f,P],K,?_⟩;rw [I,S,aa]; omega
  ·have M:¬ (r:Int)=0:=zO;obtain ⟨b,hO⟩:∃ b,Own (bz bp) ae H H2 b false v out:=by
    rcases Z with ⟨-,h⟩ | h
    ·rw [h] at al; simp at al; omega
    ·exact h
   obtain ⟨ar,t,hge⟩:=vM hO;have f:out.length=q+1:=zO;rw [f] at ar;subst ar;have K:=V;have I:=L;obtain ⟨s1,s2,s3,s4,P⟩:=step f K I;obtain ⟨c,hc,w⟩:=SlV.at1 (hs.mono U.sub) (U7 G);have hc:c=.int .i64 ((l[i]:Nat):Int):=hc;subst hc;have aH:=w2 _ _ t;by_cases F:l[i]=1
   ·have x:((l[i]:Nat):Int)=1:=zO;refine zW (yZ p v4 v5 D E u y hr M ao A w x) ?_;refine aF ?_;refine zD (E4 p v4 v5 D E u y hr B t f ai aq s2 R) ?_;refine ⟨zK,k-1,zO,i+1,_,out.set q (out.getD q 0+2^r),rfl,zO,.inr ⟨b,iX (by simp only [oI,ap]) hge (by rw [U4,f])⟩,by rw [U4,f,P],s3,?_⟩;rw [s4,S,F]; omega
   ·have x:¬ ((l[i]:Nat):Int)=1:=zO;have aa:l[i]=0:=zO;refine zW (E4 p v4 v5 D E u y hr M ao A w x F R) ?_;refine ⟨zK,k-1,zO,i+1,_,out,rfl,zO,.inr ⟨b,iX (by simp only [oI]; exact t) hge f⟩,by rw [f,P],K,?_⟩;rw [I,S,aa]; omega
 rintro T2 G2 X ⟨k2,hn⟩;have p:T2.length=47:=X.len.trans (zV o);obtain ⟨v,m⟩:∃ v,v=ad T2 4:=⟨_,rfl⟩
 rw [<- m] at hn;refine aG ?_;have m:=m.symm;refine zW (aE p m @am) ?_;refine WC.wb ?_;refine zW (aw p aA) ?_;exact ⟨hn.mono (Sub.bump G2 2),k2.up 2⟩
end
def Qa {x y i o c:Nat} (h:o+2^i*c=x % 2^i+y % 2^i):o+2^i*((x / 2^i % 2+y / 2^i % 2+c) % 2)+2^(i+1)*((x / 2^i % 2+y / 2^i % 2+c) / 2)=x % 2^(i+1)+y % 2^(i+1):=by
 rw [zh x,zh y,VG]
 generalize x / 2^i % 2=p
 generalize y / 2^i % 2=q
 have h2:2^i*((p+q+c) % 2)+2^i*2*((p+q+c) / 2)=2^i*(p+q+c):=by
  rw [VO,<- VV,XL]
 rw [VV,VV] at h2;omega
def NS {x y i o c:Nat} {n:Int} {c':Nat} (h:o+y % 2^i=x % 2^i+2^i*c) (hn:n=((x / 2^i % 2:Nat):Int)-((y / 2^i % 2:Nat):Int)-(c:Int)+2*(c':Int)) (h0:0<=n):o+2^i*n.toNat+y % 2^(i+1)=x % 2^(i+1)+2^(i+1)*c':=by
 rw [zh x,zh y,VG];obtain ⟨m,rfl⟩:∃ m:Nat,n=(m:Int):=⟨n.toNat,zO⟩
 rw [WN]
 generalize x / 2^i % 2=p at *
 generalize y / 2^i % 2=q at *
 have h1:m+q+c=p+2*c':=zO;have h2:2^i*(m+q+c)=2^i*(p+2*c'):=by rw [h1]
 rw [VV,VV,VV,<- VO] at h2;omega
section
variable {tab:Nat->Option az} {H:Heap} {a b:AV}
set_option maxHeartbeats 2000000 in
def Lc (C:Code tab) (hw:Wf H) {x y:Nat} (ha:bA H a x) (hb:bA H b y) (h1:(ag x).length<=16777216) (h2:(ag y).length<=16777216) :
  Ans tab (.fn g8 [a,b]) H fun v H'=>bA H' v (x+y)/\Kp H H':=by
 have ab:c_facetroomref01_Sum.results=[(4,none)]:=rfl;refine ts C.q69 rfl rfl zU fun T hl g=>?_;have hl:T.length=53:=hl;have A:ad T 0=a:=g 0 (by simp);have s:ad T 1=b:=g 1 (by simp);clear g;refine aG ?_;refine zW (aw hl @am) ?_;refine bP (fun _ H'=>Kp H H') rfl ?_ ?_
 ·refine zW (aE hl A s) ?_;refine AnsH.eq (qT C zF (ha.mono (zG H)) (hb.mono (zG H))) fun H2 f=>?_;obtain ⟨k2,_,w2⟩:=zT H zK f;cases t:(decide ((ag x).length<=1) && decide ((ag y).length<=1)) with
  | false =>
   refine zW (aE hl @aC @bF) ?_;exact zK
  | true =>
   rw [VH,decide_eq_true_eq,decide_eq_true_eq] at t;obtain ⟨ex,-⟩:=mA t.1;obtain ⟨ey,-⟩:=mA t.2;refine zW (aE hl A s) ?_;refine AnsH.eq (gA C zF ((ha.mono k2.sub).mono (zG H2))) fun w B=>?_;rw [ex];have e:Kp H w:=k2.trans (Kp.trans zK B);have ah:=e.le;have w3:=e.wf;by_cases hx:x<9223372036854775808
   case neg =>
    have V:¬ (x:Int)<9223372036854775808:=zO;refine zW (aW hl V @aC @bF) ?_;exact zK
   have V:(x:Int)<9223372036854775808:=zO;refine zW (aE hl V s) ?_;refine AnsH.eq (gA C zF ((hb.mono e.sub).mono (zG w))) fun z R=>?_;rw [ey];have o:Kp H z:=e.trans (Kp.trans zK R);have ap:=o.le;have w4:=o.wf;by_cases hy:y<9223372036854775808
   case neg =>
    have W:¬ (y:Int)<9223372036854775808:=zO;refine zW (aW hl W @aC @bF) ?_;exact zK
   have W:(y:Int)<9223372036854775808:=zO;refine zW (aW hl W A s) ?_;refine AnsH.eq (gA C zF ((ha.mono o.sub).mono (zG z))) fun d S=>?_;rw [ex];have r:Kp H d:=o.trans (Kp.trans zK S);have aq:=r.le;have w5:=r.wf;refine zW (aE hl A s) ?_;refine AnsH.eq (gA C zF ((hb.mono r.sub).mono (zG d))) fun F aj=>?_;rw [ey];have D:Kp H F:=r.trans (Kp.trans zK aj);have aF:=D.le;have w6:=D.wf;have es:(x+y) % 18446744073709551616=x+y:=zO;refine zW (aW hl A s es) ?_;refine AnsH.use (FM C (n:=x+y) zF (by show _<18446744073709551616; omega)) ?_;rintro v H7 ⟨l,al⟩;have k7:Kp H H7:=D.trans (Kp.trans zK al);have aH:=k7.le;have w7:=k7.wf;refine zW (aW hl @aC @bF ab) ?_;exact ⟨l,zK⟩
 intro T1 G hs kG;have wG:=kG.wf;have t0:ad T1 0=a:=(hs.at_ 0 zU).trans (zV (aw hl A));have t1:ad T1 1=b:=(hs.at_ 1 zU).trans (zV (aw hl s));have m:T1.length=53:=hs.len.trans (zV hl);obtain ⟨M,P⟩:∃ M,M=64*max (ag x).length (ag y).length:=⟨_,rfl⟩
 have aA:x<2^M:=by rw [P]; exact sI zO
 have aB:y<2^M:=by rw [P]; exact sI zO
 refine aG ?_;refine zW (aw m @am) ?_;refine aG ?_;refine zW (aw m @am) ?_;refine bP (fun T' H'=>Kp H H'/\∃ out:List Nat,Tc H' (ad T' 5) out/\(∀ b∈out,b<=1)/\out.length=M+1/\bv out=x+y) rfl ?_ ?_
 ·refine zW m ?_;refine aP H [5,6,7] (fun k vs H'=>∃ (i c:Nat) (v:AV) (out:List Nat),vs=[v,.int .i64 (c:Int),.int .i64 (i:Int)]/\i+k=M+1/\Bl (bz S6) dj H H' v out/\out.length=i/\(∀ b∈out,b<=1)/\c<=1/\bv out+2^i*c=x % 2^i+y % 2^i) (M+1) (by simp only [U4]; exact m) rfl zK ⟨0,0,.nilSl,[],by refine zW m ?_; rfl,zO,.inl ⟨rfl,rfl⟩,rfl,(fun b h=>by cases h),zO,by simp [bv,Nat.mod_one]⟩ ?_;rintro k T2 H2 j K f ⟨i,c,v,out,l,av,hB,J,I,ar,aa⟩;have w2:=f.wf;have aD:=f.le;simp only [Vb,Vf,Vd,and_true] at l;obtain ⟨v5,Z,E⟩:=l;have Y:ad T2 0=a:=(K.at_ 0 zU).trans (zV (aw m t0));have u1:ad T2 1=b:=(K.at_ 1 zU).trans (zV (aw m t1));refine zW (aW j E Y u1) ?_;refine AnsH.eq (ur C zF ((ha.mono f.sub).mono (zG H2)) ((hb.mono f.sub).mono (zG H2)) h1 h2) fun w B=>?_;rw [<- P];have X:Kp H2 w:=Kp.trans zK B;have e:Kp H w:=f.trans X;have ah:=e.le;have w3:=e.wf;by_cases hi:i<=M
  case neg =>
   have Q:¬ (i:Int)<=(M:Int):=zO;refine zW (jC j v5 Z E hi Q @aC @bF) ?_;have O:i=M+1:=zO;subst O;have hp:2^(M+1)=2^M*2:=VG ..;rw [VE zO,VE zO] at aa;have ai:c=0:=by
    rcases WY c with h | h
    ·exact h
    ·have:2^(M+1)*1<=2^(M+1)*c:=WS _ h
     omega
   subst ai;exact ⟨zK,out,(hB.mono X.sub).sl,I,J,zO⟩
  have Q:(i:Int)<=(M:Int):=zO;refine zW (jC j v5 Z E hi Q Y u1) ?_;refine AnsH.eq (lv C zF ((ha.mono e.sub).mono (zG w)) (aL x) zO) fun z R=>?_;rw [fJ];have ae:Kp H2 z:=X.trans (Kp.trans zK R);have o:Kp H z:=f.trans ae;have ap:=o.le;have w4:=o.wf;refine zW (aW j E Y u1) ?_;refine AnsH.eq (lv C zF ((hb.mono o.sub).mono (zG z)) (aL y) zO) fun d S=>?_;rw [fJ];have af:Kp H2 d:=ae.trans (Kp.trans zK S);have r:Kp H d:=f.trans af;have aq:=r.le;have w5:=r.wf;have U:=Qa aa;obtain ⟨p,hp⟩:∃ p,p=x / 2^i % 2:=⟨_,rfl⟩
  obtain ⟨q,t⟩:∃ q,q=y / 2^i % 2:=⟨_,rfl⟩
  have ax:p<2:=by rw [hp]; exact VS _ zU
  have ay:q<2:=by rw [t]; exact VS _ zU
  rw [<- hp,<- t] at U;rw [<- hp,<- t];have e1:IntKind.i64.wrap ((p:Int)+(q:Int))=((p+q:Nat):Int):=by rw [wrap_i64] <;> omega
  have e2:IntKind.i64.wrap (((p+q:Nat):Int)+(c:Int))=((p+q+c:Nat):Int):=by rw [wrap_i64] <;> omega
  obtain ⟨n,hn⟩:∃ n,n=p+q+c:=⟨_,rfl⟩
  rw [<- hn] at e2 U;have er:bu .rem .int (.int .i64 (n:Int)) (.int .i64 2)=some (.int .i64 ((n % 2:Nat):Int)):=CC (c:=2) zO;have eq:bu .quo .int (.int .i64 (n:Int)) (.int .i64 2)=some (.int .i64 ((n / 2:Nat):Int)):=CD (c:=2) zO zO;have O:IntKind.i64.wrap ((i:Int)+1)=((i+1:Nat):Int):=by rw [wrap_i64] <;> omega
  obtain ⟨N,F,L,B6,D,n6,-,-⟩:=Bl.push1 (ty2:=dj) (bytes:=8) (k:=6) (id:=d.next+4) (id2:=d.next+3) (cs:=[.int .i64 ((n % 2:Nat):Int)]) (a:=n % 2) (hB.mono af.sub) zU r ⟨_,rfl,rfl⟩ zO zO zO zO zO zO zO;have L:cC ((d.up 6).put (d.next+3) (.cells [.int .i64 ((n % 2:Nat):Int)] dj true)) (d.next+4) 1 8 dj v (.own (d.next+3) 0 1 1 1 true)=some (.own (d.next+4) 0 N N 1 false,F):=L;have w6:=D.wf;refine zW (np j v5 Z E e1 e2 er eq L O) ?_;refine ⟨zK,k-1,zO,i+1,n / 2,_,out++[n % 2],rfl,zO,B6.mono (zG F),by simp [J],fun b hb=>?_,zO,?_⟩
  ·rcases Vq.1 hb with h | h
   ·exact I b h
   ·rw [Vp] at h; omega
  ·rw [zq,J]; exact U
 rintro T2 G2 K ⟨k2,out,hn,I,J,ao⟩;have w2:=k2.wf;have j:T2.length=53:=K.len.trans (zV m);obtain ⟨v,l⟩:∃ v,v=ad T2 5:=⟨_,rfl⟩
 rw [<- l] at hn;have l:=l.symm;refine aG ?_;refine zW (aw j l) ?_;refine AnsH.use (Ax C zF (hn.mono (zG G2)) I zO) ?_;rintro u G3 ⟨hu,B⟩;rw [ao] at hu;have e:Kp H G3:=k2.trans (Kp.trans zK B);have ah:=e.le;have w3:=e.wf;refine zW (aw j @am) ?_;refine WC.wb ?_;refine zW (aw j ab) ?_;exact ⟨hu,zK⟩
set_option maxHeartbeats 2000000 in
def Aw (C:Code tab) (hw:Wf H) {x y:Nat} (ha:bA H a x) (hb:bA H b y) (h1:(ag x).length<=16777216) (h2:(ag y).length<=16777216) (aH:y<=x) :
  Ans tab (.fn gJ [a,b]) H fun v H'=>bA H' v (x-y)/\Kp H H':=by
 have ae:c_facetroomref01_Rest.results=[(4,none)]:=rfl;refine ts C.q71 rfl rfl zU fun T hl g=>?_;have hl:T.length=44:=hl;have F:ad T 0=a:=g 0 (by simp);have I:ad T 1=b:=g 1 (by simp);clear g;refine aG ?_;refine zW (aw hl @am) ?_;refine bP (fun _ H'=>Kp H H') rfl ?_ ?_
 ·refine zW (aE hl F I) ?_;refine AnsH.eq (qT C zF (ha.mono (zG H)) (hb.mono (zG H))) fun H2 f=>?_;obtain ⟨k2,_,w2⟩:=zT H zK f;cases t:(decide ((ag x).length<=1) && decide ((ag y).length<=1)) with
  | false =>
   refine zW (aE hl @aC @bF) ?_;exact zK
  | true =>
   rw [VH,decide_eq_true_eq,decide_eq_true_eq] at t;obtain ⟨ex,bx⟩:=mA t.1;obtain ⟨ey,-⟩:=mA t.2;have bx:x<18446744073709551616:=bx;refine zW (aE hl F I) ?_;refine AnsH.eq (gA C zF ((ha.mono k2.sub).mono (zG H2))) fun d W=>?_;rw [ex];have l:Kp H d:=k2.trans (Kp.trans zK W);have ay:=l.le;have w5:=l.wf;refine zW (aE hl F I) ?_;refine AnsH.eq (gA C zF ((hb.mono l.sub).mono (zG d))) fun r aj=>?_;rw [ey];have w:Kp H r:=l.trans (Kp.trans zK aj);have aM:=w.le;have w6:=w.wf;have es:(x+18446744073709551616-y) % 18446744073709551616=x-y:=zO;have yb:y<=18446744073709551616:=zO;refine zW (bO hl F I es yb) ?_;refine AnsH.use (FM C (n:=x-y) zF (by show _<18446744073709551616; omega)) ?_;rintro v H7 ⟨j,al⟩;have k7:Kp H H7:=w.trans (Kp.trans zK al);have aN:=k7.le;have w7:=k7.wf;refine zW (aW hl @aC @bF ae) ?_;exact ⟨j,zK⟩
 intro T1 G hs kG;have wG:=kG.wf;have t0:ad T1 0=a:=(hs.at_ 0 zU).trans (zV (aw hl F));have t1:ad T1 1=b:=(hs.at_ 1 zU).trans (zV (aw hl I));have o:T1.length=44:=hs.len.trans (zV hl);obtain ⟨M,S⟩:∃ M,M=64*max (ag x).length (ag y).length:=⟨_,rfl⟩
 have ar:x<2^M:=by rw [S]; exact sI zO
 have av:y<2^M:=by rw [S]; exact sI zO
 refine aG ?_;refine zW (aw o @am) ?_;refine aG ?_;refine zW (aw o @am) ?_;refine bP (fun T' H'=>Kp H H'/\∃ out:List Nat,Tc H' (ad T' 5) out/\(∀ b∈out,b<=1)/\out.length=M/\bv out=x-y) rfl ?_ ?_
 ·refine zW o ?_;refine aP H [5,6,7] (fun k vs H'=>∃ (i c:Nat) (v:AV) (out:List Nat),vs=[v,.int .i64 (c:Int),.int .i64 (i:Int)]/\i+k=M/\Bl (bz S6) dj H H' v out/\out.length=i/\(∀ b∈out,b<=1)/\c<=1/\bv out+y % 2^i=x % 2^i+2^i*c) M (by simp only [U4]; exact o) rfl zK ⟨0,0,.nilSl,[],by refine zW o ?_; rfl,zO,.inl ⟨rfl,rfl⟩,rfl,(fun b h=>by cases h),zO,by simp [bv,Nat.mod_one]⟩ ?_;rintro k T2 H2 e J f ⟨i,c,v,out,j,aB,R,A,z,aA,ab⟩;have w2:=f.wf;have aJ:=f.le;simp only [Vb,Vf,Vd,and_true] at j;obtain ⟨v5,K,D⟩:=j;have u0:ad T2 0=a:=(J.at_ 0 zU).trans (zV (aw o t0));have u1:ad T2 1=b:=(J.at_ 1 zU).trans (zV (aw o t1));refine zW (aW e D u0 u1) ?_;refine AnsH.eq (ur C zF ((ha.mono f.sub).mono (zG H2)) ((hb.mono f.sub).mono (zG H2)) h1 h2) fun O V=>?_;rw [<- S];have Z:Kp H2 O:=Kp.trans zK V;have B:Kp H O:=f.trans Z;have ax:=B.le;have w3:=B.wf;by_cases hi:i<M
  case neg =>
   have U:¬ (i:Int)<(M:Int):=zO;refine zW (jC e v5 K D hi U @aC @bF) ?_;have E:i=M:=zO;rw [E,VE ar,VE av] at ab;have hlt:=O3 z;rw [A,E] at hlt;have ah:c=0:=by
    rcases WY c with h | h
    ·exact h
    ·have:2^M*1<=2^M*c:=WS _ h
     omega
   subst ah;exact ⟨zK,out,(R.mono Z.sub).sl,z,zO,zO⟩
  have U:(i:Int)<(M:Int):=zO;refine zW (jC e v5 K D hi U u0 u1) ?_;refine AnsH.eq (lv C zF ((ha.mono B.sub).mono (zG O)) (aL x) zO) fun P ai=>?_;rw [fJ];have af:Kp H2 P:=Z.trans (Kp.trans zK ai);have k4:Kp H P:=f.trans af;have aK:=k4.le;have w4:=k4.wf;refine zW (aW e D u0 u1) ?_;refine AnsH.eq (lv C zF ((hb.mono k4.sub).mono (zG P)) (aL y) zO) fun d W=>?_;rw [fJ];have aa:Kp H2 d:=af.trans (Kp.trans zK W);have l:Kp H d:=f.trans aa;have ay:=l.le;have w5:=l.wf;have X:=fun n c'=>NS (n:=n) (c':=c') ab;obtain ⟨p,hp⟩:∃ p,p=x / 2^i % 2:=⟨_,rfl⟩
  obtain ⟨q,t⟩:∃ q,q=y / 2^i % 2:=⟨_,rfl⟩
  have aD:p<2:=by rw [hp]; exact VS _ zU
  have aF:q<2:=by rw [t]; exact VS _ zU
  rw [<- hp,<- t] at X;rw [<- hp,<- t];have e1:IntKind.i64.wrap ((p:Int)-(q:Int))=(p:Int)-(q:Int):=by rw [wrap_i64] <;> omega
  have e2:IntKind.i64.wrap ((p:Int)-(q:Int)-(c:Int))=(p:Int)-(q:Int)-(c:Int):=by rw [wrap_i64] <;> omega
  have E:IntKind.i64.wrap ((i:Int)+1)=((i+1:Nat):Int):=by rw [wrap_i64] <;> omega
  by_cases ap:(p:Int)-(q:Int)-(c:Int)<0
  ·have e3:IntKind.i64.wrap ((p:Int)-(q:Int)-(c:Int)+2)=(p:Int)-(q:Int)-(c:Int)+2:=by rw [wrap_i64] <;> omega
   obtain ⟨m,hm⟩:∃ m:Nat,(p:Int)-(q:Int)-(c:Int)+2=(m:Int):=⟨((p:Int)-(q:Int)-(c:Int)+2).toNat,zO⟩
   have Q:IntKind.i64.wrap (m:Int)=(m:Int):=by rw [wrap_i64] <;> omega
   have Y:=X (m:Int) 1 zO zO;rw [WN] at Y;obtain ⟨N,r,s,L,w,n6,-,-⟩:=Bl.push1 (ty2:=dj) (bytes:=8) (k:=12) (id:=d.next+10) (id2:=d.next+9) (cs:=[.int .i64 (m:Int)]) (a:=m) (R.mono aa.sub) zU l ⟨_,rfl,rfl⟩ zO zO zO zO zO zO zO;have s:cC ((d.up 12).put (d.next+9) (.cells [.int .i64 (m:Int)] dj true)) (d.next+10) 1 8 dj v (.own (d.next+9) 0 1 1 1 true)=some (.own (d.next+10) 0 N N 1 false,r):=s;have w6:=w.wf;refine zW (zx e v5 K D e1 e2 ap e3 hm Q s E) ?_;refine ⟨zK,k-1,zO,i+1,1,_,out++[m],rfl,zO,L.mono (zG r),by simp [A],fun b hb=>?_,zO,?_⟩
   ·rcases Vq.1 hb with h | h
    ·exact z b h
    ·rw [Vp] at h; omega
   ·rw [zq,A]; omega
  ·obtain ⟨m,hm⟩:∃ m:Nat,(p:Int)-(q:Int)-(c:Int)=(m:Int):=⟨((p:Int)-(q:Int)-(c:Int)).toNat,zO⟩
   have ao:¬ ((m:Nat):Int)<0:=zO;have Q:IntKind.i64.wrap (m:Int)=(m:Int):=by rw [wrap_i64] <;> omega
   have Y:=X (m:Int) 0 zO zO;rw [WN] at Y;obtain ⟨N,r,s,L,w,n6,-,-⟩:=Bl.push1 (ty2:=dj) (bytes:=8) (k:=8) (id:=d.next+6) (id2:=d.next+5) (cs:=[.int .i64 (m:Int)]) (a:=m) (R.mono aa.sub) zU l ⟨_,rfl,rfl⟩ zO zO zO zO zO zO zO;have s:cC ((d.up 8).put (d.next+5) (.cells [.int .i64 (m:Int)] dj true)) (d.next+6) 1 8 dj v (.own (d.next+5) 0 1 1 1 true)=some (.own (d.next+6) 0 N N 1 false,r):=s;have w6:=w.wf;refine zW (lP e v5 K D e1 e2 hm ao Q s E) ?_;refine ⟨zK,k-1,zO,i+1,0,_,out++[m],rfl,zO,L.mono (zG r),by simp [A],fun b hb=>?_,zO,?_⟩
   ·rcases Vq.1 hb with h | h
    ·exact z b h
    ·rw [Vp] at h; omega
   ·rw [zq,A]; omega
 rintro T2 G2 J ⟨k2,out,hn,z,A,aq⟩;have w2:=k2.wf;have e:T2.length=44:=J.len.trans (zV o);obtain ⟨v,j⟩:∃ v,v=ad T2 5:=⟨_,rfl⟩
 rw [<- j] at hn;have j:=j.symm;refine aG ?_;refine zW (aw e j) ?_;refine AnsH.use (Ax C zF (hn.mono (zG G2)) z zO) ?_;rintro u G3 ⟨hu,V⟩;rw [aq] at hu;have B:Kp H G3:=k2.trans (Kp.trans zK V);have ax:=B.le;have w3:=B.wf;refine zW (aw e @am) ?_;refine WC.wb ?_;refine zW (aw e ae) ?_;exact ⟨hu,zK⟩
end
end Go.Proofs.YteaefaohjlmjdaaGreat.Ev
namespace Go.Proofs.YteaefaohjlmjdaaGreat.Nn
def dv:List Nat->Nat
 | []=>0
 | d :: l=>d+4294967296*dv l
def Dig (l:List Nat):Prop:=∀ d∈l,d<4294967296
def Dig.at {l:List Nat} (h:Dig l) (i:Nat):l.getD i 0<4294967296:=by
 rw [U5];cases e:l[i]? with
 | none=>simp
 | some d=>exact h d (Vo e)
def Dig.set {l:List Nat} (h:Dig l) (i:Nat) {d:Nat} (hd:d<4294967296):Dig (l.set i d):=fun z a=>by
 rcases XI a with h1 | h1
 ·exact h z h1
 ·rw [h1]; exact hd
def CU:∀ (l m:List Nat),dv (l++m)=dv l+4294967296^l.length*dv m
 | [],m=>by simp [dv]
 | b :: l,m=>by
  rw [WV,dv,dv,CU l m,VP,VG]
  grind
def zn {l:List Nat} {i:Nat} (hi:i<l.length):dv (l.take (i+1))=dv (l.take i)+4294967296^i*l.getD i 0:=by
 have e:l.getD i 0=l[i]:=by simp [U5,hi]
 rw [Ve hi,CU,Vx,VZ zO,e];simp [dv]
def IS:∀ {l:List Nat} {i d:Nat},i<l.length->dv (l.set i d)+4294967296^i*l.getD i 0=dv l+4294967296^i*d
 | [],i,d,h=>by simp at h
 | a :: l,0,d,_=>by simp [dv]; omega
 | a :: l,i+1,d,h=>by
  have:=IS (l:=l) (i:=i) (d:=d) (by simpa using h)
  simp only [Zg,WE,dv,VG]
  grind
def OD (n:Nat):dv (List.replicate n 0)=0:=by
 induction n with
 | zero=>rfl
 | succ n a=>rw [Wu,dv,a]
def fu:List Nat->List Nat
 | []=>[]
 | a :: l=>a % 4294967296 :: a / 4294967296 :: fu l
def nM:∀ l:List Nat,(fu l).length=2*l.length
 | []=>rfl
 | a :: l=>by rw [fu,VP,VP,nM l,VP]; omega
def rE:∀ l m:List Nat,fu (l++m)=fu l++fu m
 | [],m=>rfl
 | a :: l,m=>by rw [WV,fu,fu,rE l m]; rfl
def uI:∀ l:List Nat,dv (fu l)=val l
 | []=>rfl
 | a :: l=>by
  rw [fu,dv,dv,uI l,val];have h:=XL a 4294967296;have b:B=4294967296*4294967296:=by decide
  rw [b]
  grind
def rD:∀ {l:List Nat},Lim l->Dig (fu l)
 | [],_=>fun d h=>by cases h
 | a :: l,h=>fun d hd=>by
  have ha:a<18446744073709551616:=h.head;rw [fu] at hd;rcases VF.1 hd with e | hd
  ·rw [e]; omega
  rcases VF.1 hd with e | hd
  ·rw [e]; omega
  ·exact rD h.tail d hd
def mI (l:List Nat) (n:Nat):List Nat:=(List.range n).map fun i=>l.getD (2*i) 0+4294967296*l.getD (2*i+1) 0
def pw (l:List Nat) (n:Nat):(mI l n).length=n:=by simp [mI]
def xW (l:List Nat) (n:Nat):mI l (n+1)=mI l n++[l.getD (2*n) 0+4294967296*l.getD (2*n+1) 0]:=by simp [mI,Y2]
def Hw {l:List Nat} (h:Dig l) (n:Nat):Lim (mI l n):=fun d hd=>by
 obtain ⟨i,-,rfl⟩:=Va.1 hd;have h1:=h.at (2*i);have h2:=h.at (2*i+1);show _<18446744073709551616;omega
def zC {l:List Nat}:∀ n:Nat,2*n<=l.length->val (mI l n)=dv (l.take (2*n))
 | 0,_=>by simp [mI,val,dv]
 | n+1,h=>by
  rw [xW,fg,zC n zO,pw,show 2*(n+1)=2*n+1+1 by omega,zn zO,zn zO];have a:B^n=4294967296^(2*n):=by
   have:B=4294967296^2:=by decide
   rw [this,<- Xl]
  rw [a,VG]
  grind
def Lj {out:List Nat} {i k a yk c n b e:Nat} (hj:i+k<out.length) (h:dv out+4294967296^(i+k)*c=e+4294967296^i*(a*b)) (hn:n=a*yk+out.getD (i+k) 0+c) :
  dv (out.set (i+k) (n % 4294967296))+4294967296^(i+(k+1))*(n / 4294967296)=e+4294967296^i*(a*(b+4294967296^k*yk)):=by
 have h1:=IS (l:=out) (d:=n % 4294967296) hj;have h2:=XL n 4294967296;have f:(4294967296:Nat)^(i+(k+1))=4294967296^(i+k)*4294967296:=by rw [<- VG]; rfl
 have g:(4294967296:Nat)^(i+k)=4294967296^i*4294967296^k:=V4 ..;rw [f];have h3:4294967296^(i+k)*(n % 4294967296)+4294967296^(i+k)*4294967296*(n / 4294967296)=4294967296^(i+k)*n:=by
  rw [VO,<- VV,h2]
 have j:4294967296^(i+k)*n=4294967296^i*(a*(4294967296^k*yk))+4294967296^(i+k)*out.getD (i+k) 0+4294967296^(i+k)*c:=by
  rw [hn,g]; grind
 have h5:4294967296^i*(a*(b+4294967296^k*yk))=4294967296^i*(a*b)+4294967296^i*(a*(4294967296^k*yk)):=by
  rw [VV,VV]
 rw [h5];omega
end Go.Proofs.YteaefaohjlmjdaaGreat.Nn
namespace Go.Proofs.YteaefaohjlmjdaaGreat.Ev
open Go Nn
def Bl.two {H0 H:Heap} {v:AV} {l:List Nat} {x y id id2 k:Nat} (h:Bl (bz bp) ae H0 H v l) (a:Kp H0 H) (i:H.next<=id) (u:id<H.next+k) (j:H.next<=id2) (o:id2<H.next+k) (hne:id≠id2) (hl:l.length<4294967296) :
  ∃ N H',cC ((H.up k).put id2 (.cells [.int .u64 (x:Int),.int .u64 (y:Int)] ae true)) id 1 8 ae v (.own id2 0 2 2 1 true)=some (.own id 0 N N 1 false,H')/\Bl (bz bp) ae H0 H' (.own id 0 N N 1 false) (l++[x,y])/\Kp H0 H'/\H'.next=H.next+k:=by
 have w:=a.le;have d:∀ {c},H.next<=c->H.get c=none:=fun hc=>a.wf.fresh hc
 have r:Sub H ((H.up k).put id2 (.cells [.int .u64 (x:Int),.int .u64 (y:Int)] ae true)):=(Sub.bump H k).put (d j) _;have p:Kp H0 ((H.up k).put id2 (.cells [.int .u64 (x:Int),.int .u64 (y:Int)] ae true)):=(a.up k).put zO o;have s:SlV (bz bp) ae ((H.up k).put id2 (.cells [.int .u64 (x:Int),.int .u64 (y:Int)] ae true)) (.own id2 0 2 2 1 true) [x,y] :=
  (show Own (bz bp) ae H0 _ id2 true (.own id2 0 2 2 1 true) [x,y] from iX (l:=[x,y]) (ap _ _ _) zO rfl).sl
 obtain ⟨A,H',g,h1,k1,t,-,h2⟩:=Bl.app (id:=id) (bytes:=8) (h.mono r) zU p s zO (by show _<H.next+k; omega) (by rw [aB hne]; exact d i) (fun b n f off m c z q e=>by
  rcases h with ⟨rfl,-⟩ | ⟨b',cells,rfl,hb,-⟩
  ·cases f
  ·cases f
   injection e with e
   have:=a.wf _ _ hb
   omega) (by simp; omega) (by simp; omega)
 obtain ⟨N,rfl⟩:=h2 (by simp);exact ⟨N,H',g,h1,k1,t⟩
section
variable {tab:Nat->Option az} {H:Heap} {a b s:AV}
set_option maxHeartbeats 1000000 in
def vB (C:Code tab) (B:Wf H) {l:List Nat} (ha:Lb H a l) (hL:Lim l) (A:l.length<=16777216) :
  Ans tab (.fn fC [a]) H fun v H'=>Lb H' v (fu l)/\Kp H H':=by
 refine cY C.q94 zU fun T hl d=>?_;refine zW (aw hl d) ?_;refine aP H [3,4] (fun k vs H'=>∃ (i:Nat) (v:AV),vs=[v,.int .i64 (i:Int)]/\i+k=l.length/\Bl (bz bp) ae H H' v (fu (l.take i))) l.length (by simp only [U4]; exact hl) rfl zK ⟨0,.nilSl,by refine zW (aw hl d) ?_; rfl,zO,.inl ⟨rfl,rfl⟩⟩ ?_;rintro k T2 H2 g u c ⟨i,v,o,z,e⟩;have F:=c.wf;have D:=c.le;simp only [Vb,Vf,Vd,and_true] at o;obtain ⟨v3,v4⟩:=o;have j:ad T2 0=a:=(u.at_ 0 zU).trans (zV (aw hl d));by_cases hi:i<l.length
 ·have f:(i:Int)<(l.length:Int):=zO;have r:IntKind.i64.wrap ((i:Int)+1)=((i+1:Nat):Int):=by rw [wrap_i64] <;> omega
  have t:=SlV.idx1 ha .i64 i hi;have n:=cW (ha.mono c.sub) hi;have m:l.getD i 0<18446744073709551616:=hL.at i;have e0:l.getD i 0=l[i]:=by simp [U5,hi]
  have h:=Ve hi;rw [<- e0] at h;obtain ⟨x,hx⟩:∃ x,x=l.getD i 0:=⟨_,rfl⟩
  rw [<- hx] at n m h;have s:bu .rem .int (.int .u64 (x:Int)) (.int .u64 4294967296)=some (.int .u64 ((x % 4294967296:Nat):Int)):=NU (b:=4294967296) zU;have eq:bu .quo .int (.int .u64 (x:Int)) (.int .u64 4294967296)=some (.int .u64 ((x / 4294967296:Nat):Int)):=Jv (b:=4294967296) m zU;obtain ⟨N,q,e3,p,w,E⟩:=Bl.two (x:=x % 4294967296) (y:=x / 4294967296) (k:=18) (id:=H2.next+16) (id2:=H2.next+15) e c zO zO zO zO zO (by rw [nM,Vx]; omega);have G:=w.wf;refine zW (fE g v3 v4 j ha.lenV hi f) ?_;refine aF ?_;refine zD (np g v3 v4 j t n s eq e3 r) ?_;refine ⟨zK,k-1,zO,i+1,_,rfl,zO,?_⟩;rw [h,rE];exact p.mono (zG q)
 ·have f:¬ (i:Int)<(l.length:Int):=zO;rw [Vt zO] at e;refine zW (fE g v3 v4 j ha.lenV hi f) ?_;exact ⟨e.sl.mono (zG H2),zK⟩
set_option maxHeartbeats 1000000 in
def FK (C:Code tab) (hw:Wf H) {l:List Nat} {n:Nat} (ha:Lb H a l) (hD:Dig l) (hn:l.length=2*n) (av:n<=67108864) :
  Ans tab (.fn fR [a]) H fun v H'=>bA H' v (dv l)/\Kp H H':=by
 have ah:c_facetroomref02_whole.results=[(2,none)]:=rfl;refine ts C.q95 rfl rfl zU fun T hl g=>?_;have hl:T.length=44:=hl;have g0:ad T 0=a:=g 0 (by simp);clear g;refine aG ?_;refine zW (aw hl @am) ?_;refine aG ?_;refine zW (aw hl @am) ?_;refine bP (fun T' H'=>Kp H H'/\Lb H' (ad T' 3) (mI l n)) rfl ?_ ?_
 ·refine zW hl ?_;refine aP H [3,4] (fun k vs H'=>∃ (i:Nat) (v:AV),vs=[v,.int .i64 ((2*i:Nat):Int)]/\i+k=n/\Bl (bz bp) ae H H' v (mI l i)) n (by simp only [U4]; exact hl) rfl zK ⟨0,.nilSl,by refine zW hl ?_; rfl,zO,.inl ⟨rfl,rfl⟩⟩ ?_;rintro k T2 H2 d A f ⟨i,v,c,aq,e⟩;have w2:=f.wf;have ap:=f.le;simp only [Vb,Vf,Vd,and_true] at c;obtain ⟨v3,v4⟩:=c;have G:ad T2 0=a:=(A.at_ 0 zU).trans (zV (aw hl g0));have s:IntKind.i64.wrap (((2*i:Nat):Int)+1)=((2*i+1:Nat):Int):=by rw [wrap_i64] <;> omega
  have J:IntKind.i64.wrap (((2*i:Nat):Int)+2)=((2*(i+1):Nat):Int):=by rw [wrap_i64] <;> omega
  obtain ⟨p,hp⟩:∃ p,p=2*i:=⟨_,rfl⟩
  rw [<- hp] at v4 s J;by_cases hi:i<n
  ·have o:p+1<l.length:=zO;have B:((p+1:Nat):Int)<(l.length:Int):=zO;have t:=SlV.idx1 ha .i64 p zO;have af:=SlV.idx1 ha .i64 (p+1) o;have m:=cW (ha.mono f.sub) (i:=p) zO;have U:=cW (ha.mono f.sub) o;have hx:=hD.at p;have hy:=hD.at (p+1);have q:=xW l i;rw [<- hp] at q;obtain ⟨x,al⟩:∃ x,x=l.getD p 0:=⟨_,rfl⟩
   obtain ⟨y,ao⟩:∃ y,y=l.getD (p+1) 0:=⟨_,rfl⟩
   rw [<- al] at m hx q;rw [<- ao] at U hy q;have em:4294967296*y % 18446744073709551616=4294967296*y:=VE zO;have es:(x+4294967296*y) % 18446744073709551616=x+4294967296*y:=VE zO;have K:bu .mul .int (.int .u64 4294967296) (.int .u64 (y:Int))=some (.int .u64 ((4294967296*y:Nat):Int)):=by
    have:=sW (a:=4294967296) (b:=y)
    rw [em] at this;exact this
   obtain ⟨z,r⟩:∃ z,z=4294967296*y:=⟨_,rfl⟩
   rw [<- r] at K es q;obtain ⟨N,I,e3,B3,k3,n3,-,-⟩:=Bl.push1 (ty2:=ae) (bytes:=8) (k:=20) (id:=H2.next+18) (id2:=H2.next+17) (cs:=[.int .u64 ((x+z:Nat):Int)]) (a:=x+z) e zU f ⟨_,rfl,rfl⟩ zO zO zO zO zO (by rw [pw]; omega) (by rw [pw]; omega);have e3:cC ((H2.up 20).put (H2.next+17) (.cells [.int .u64 ((x+z:Nat):Int)] ae true)) (H2.next+18) 1 8 ae v (.own (H2.next+17) 0 1 1 1 true)=some (.own (H2.next+18) 0 N N 1 false,I):=e3;have w3:=k3.wf;refine zW (jC d v3 v4 G ha.lenV s o B) ?_;refine aF ?_;refine zD (yZ d v3 v4 G t m af U s K es e3 J) ?_;refine ⟨zK,k-1,zO,i+1,_,rfl,zO,?_⟩;rw [q];exact B3.mono (zG I)
  ·have o:¬ p+1<l.length:=zO;have B:¬ ((p+1:Nat):Int)<(l.length:Int):=zO;have ab:i=n:=zO;rw [ab] at e;refine zW (np d v3 v4 G ha.lenV s o B @aC @bF) ?_;exact ⟨zK,e.sl.mono (zG H2)⟩
 rintro T1 G1 ai ⟨aa,W⟩;have ax:=aa.wf;have S:T1.length=44:=ai.len.trans (zV hl);have V:=Hw hD n;have hval:=zC n (l:=l) zO;rw [<- hn,VC] at hval;have E:=dR V;rw [hval] at E;obtain ⟨L,O⟩:∃ L,L=mI l n:=⟨_,rfl⟩
 have P:L.length=n:=by rw [O]; exact pw _ _
 rw [<- O] at W E V;refine bP (fun T' H'=>Kp H H'/\bA H' (ad T' 3) (dv l)) rfl ?_ ?_
 ·refine aP H [3] (fun k vs H'=>∃ v,vs=[v]/\k<=n/\Lb H' v (L.take k)/\dS (L.take k)=dS L) n S rfl aa ⟨ad T1 3,rfl,Vc _,by rw [<- P,VC]; exact W,by rw [<- P,VC]⟩ ?_;rintro k T2 H2 d A f ⟨v,c,ar,e,D⟩;have w2:=f.wf;have ap:=f.le;simp only [Vb,Vf,Vd,and_true] at c;have aj:(L.take k).length=k:=by rw [Vx]; omega
  have w:=e.lenV;rw [aj] at w;have fin:E3 (L.take k)->bA H2 v (dv l):=fun h=>by
   rw [KS h,E] at D;show Lb _ _ (ag (dv l));rw [<- D]; exact e
  by_cases R:k=0
  ·have u:¬ (0:Int)<(k:Int):=zO;refine zW (fE d c w u R @aC @bF) ?_;refine ⟨zK,(fin ?_).mono (zG H2)⟩;rw [R]; simp [E3]
  ·obtain ⟨j,rfl⟩:∃ j,k=j+1:=⟨k-1,zO⟩
   have u:(0:Int)<((j+1:Nat):Int):=zO;have M:IntKind.i64.wrap (((j+1:Nat):Int)-1)=(j:Int):=by rw [wrap_i64] <;> omega
   have t:=SlV.idx1 e .i64 j zO;have m:=cW e (i:=j) zO;have Q:j<L.length:=zO;have e0:(L.take (j+1)).getD j 0=L[j]:=by simp [U5,Vy,Q]
   rw [e0] at m;have Y:=Ve Q;by_cases r:L[j]=0
   ·have F:((L[j]:Nat):Int)=0:=zO;obtain ⟨v',ev,Z⟩:=e.hi .i64 j zO;have ev:bQ 1 v none (some (.int .i64 (j:Int))) none=some v':=ev;refine zW (jB d c w u M t m F ev) ?_;refine ⟨zK,j,zO,v',rfl,zO,?_,?_⟩
    ·rw [Xi,VZ zO] at Z;exact Z.mono (zG H2)
    ·rw [<- D,Y,r,dy]
   ·have F:¬ ((L[j]:Nat):Int)=0:=zO;refine zW (lP d c w u M t m F r @aC @bF) ?_;refine ⟨zK,(fin ?_).mono (zG H2)⟩;unfold E3;rw [Y,List.getLast?_concat];exact fun h=>r (ZM h)
 rintro T2 G2 A ⟨k2,X⟩;have w2:=k2.wf;have d:T2.length=44:=A.len.trans (zV S);obtain ⟨v,c⟩:∃ v,v=ad T2 3:=⟨_,rfl⟩
 rw [<- c] at X;have c:=c.symm;refine aG ?_;refine zW (aE d c @am) ?_;refine WC.wb ?_;refine zW (aw d ah) ?_;exact ⟨X.mono (Sub.bump G2 2),k2.up 2⟩
end
section
variable {tab:Nat->Option az} {H:Heap} {a b:AV}
set_option maxHeartbeats 4000000 in
def FL (C:Code tab) (hw:Wf H) {x y:Nat} (ha:bA H a x) (hb:bA H b y) (h1:(ag x).length<=16777216) (h2:(ag y).length<=16777216) :
  Ans tab (.fn fS [a,b]) H fun v H'=>bA H' v (x*y)/\Kp H H':=by
 have aU:c_facetroomref02_Times.results=[(4,none)]:=rfl;refine ts C.q68 rfl rfl zU fun T hl g=>?_;have hl:T.length=70:=hl;have g0:ad T 0=a:=g 0 (by simp);have g1:ad T 1=b:=g 1 (by simp);clear g;refine aG ?_;refine zW (aw hl @am) ?_;refine aG ?_;refine zW (aw hl g0) ?_;refine AnsH.use (vB C zF (ha.mono (zG H)) (aL x) h1) ?_;rintro vx H2 ⟨ay,U⟩;obtain ⟨k2,_,w2⟩:=zT H zK U;refine zW (aw hl @am) ?_;refine aG ?_;refine zW (aw hl g1) ?_;refine AnsH.use (vB C zF ((hb.mono k2.sub).mono (zG H2)) (aL y) h2) ?_;rintro vy r ⟨L,t⟩;obtain ⟨k23,_,_⟩:=zT H2 zK t;have k3:Kp H r:=k2.trans k23;have a3:=k3.le;have w3:=k3.wf;have K:=ay.mono k23.sub;have ex:=uI (ag x);have P:=uI (ag y);rw [bB] at ex P;have dX:=rD (aL x);have dY:=rD (aL y);have lX:=nM (ag x);have lY:=nM (ag y);obtain ⟨X,hX⟩:∃ X,X=fu (ag x):=⟨_,rfl⟩
 obtain ⟨Y,hY⟩:∃ Y,Y=fu (ag y):=⟨_,rfl⟩
 rw [<- hX] at K ex dX lX;rw [<- hY] at L P dY lY;clear hX hY ay;obtain ⟨p,hp⟩:∃ p,p=X.length:=⟨_,rfl⟩
 obtain ⟨q,hq⟩:∃ q,q=Y.length:=⟨_,rfl⟩
 obtain ⟨N,hN⟩:∃ N,N=p+q:=⟨_,rfl⟩
 have M:=K.lenV;have O:=L.lenV;rw [<- hp] at M lX;rw [<- hq] at O lY;refine zW (aw hl @am) ?_;have eN:IntKind.i64.wrap ((p:Int)+(q:Int))=(N:Int):=by rw [wrap_i64] <;> omega
 have aO:∀ H' id,Io H' id ae 1 8 [.int .u64 0] (.int .i64 (N:Int)) (.int .i64 (N:Int))=some (.own id 0 N N 1 true,H'.put id (.cells (aM (List.replicate N 0)) ae true)):=fun H' id =>
  (jg H' id ae 1 8 [.int .u64 0] .i64 .i64 N zO zO rfl).trans (by rw [lB])
 refine aG ?_;refine zW (dx hl M O eN aO @am) ?_;obtain ⟨z,A⟩:∃ z,z=(r.up 7).put (r.next+5) (.cells (aM (List.replicate N 0)) ae true):=⟨_,rfl⟩
 obtain ⟨o,W⟩:∃ o,o=r.next+5:=⟨_,rfl⟩
 have k4:Kp r z:=by rw [A]; exact zK
 have a4:=k4.le;have b4:z.get o=some (.cells (aM (List.replicate N 0)) ae true):=by rw [A,W,ap]
 rw [<- A,<- W];clear A;have hge:r.next<=o:=zO
 clear W;have w4:=k4.wf;refine qk (fun T'=>T'.length=70/\ad T' 5=vx/\ad T' 6=vy/\ad T' 7=.own o 0 N N 1 true) (zV hl) ?_;clear hl g0 g1;rintro T ⟨hl,t5,t6,t7⟩;have zDg:Dig (List.replicate N 0):=fun d hd=>by rw [XU hd]; decide
 have zz:∀ j,(List.replicate N 0).getD j 0=0:=fun j=>by simp [U5,We]; split <;> rfl
 refine bP (fun T' H'=>Kp r H'/\ad T' 7=.own o 0 N N 1 true/\∃ out,H'.get o=some (.cells (aM out) ae true)/\out.length=N/\Dig out/\dv out=dv X*dv Y) rfl ?_ ?_
 ·refine zW hl ?_;refine aP r [7,8] (fun k vs H'=>∃ (i:Nat) (out:List Nat),vs=[.own o 0 N N 1 true,.int .i64 (i:Int)]/\i+k=p/\H'.get o=some (.cells (aM out) ae true)/\out.length=N/\Dig out/\dv out=dv (X.take i)*dv Y/\∀ j,i+q<=j->out.getD j 0=0) p (by simp only [U4]; exact hl) rfl zK ⟨0,List.replicate N 0,by refine zW (aw hl t7) ?_; rfl,zO,b4,Xy,zDg,by rw [OD]; simp [dv],fun j _=>zz j⟩ ?_;rintro k T2 G s J U ⟨i,out,hv,aX,B,F,D,E,aT⟩;have wG:=U.wf;simp only [Vb,Vf,Vd,and_true] at hv;obtain ⟨w,u8⟩:=hv;have u5:ad T2 5=vx:=(J.at_ 5 zU).trans (zV (aw hl t5));have u6:ad T2 6=vy:=(J.at_ 6 zU).trans (zV (aw hl t6));by_cases hi:i<p
  case neg =>
   have R:¬ (i:Int)<(p:Int):=zO;refine zW (jB s u5 w u8 M hi R @aC @bF) ?_;rw [Vt zO] at E;exact ⟨zK,out,by simpa only [oI] using B,F,D,E⟩
  have R:(i:Int)<(p:Int):=zO;have ei:IntKind.i64.wrap ((i:Int)+1)=((i+1:Nat):Int):=by rw [wrap_i64] <;> omega
  have eq:IntKind.i64.wrap ((i:Int)+(q:Int))=((i+q:Nat):Int):=by rw [wrap_i64] <;> omega
  have aJ:=SlV.idx1 K .i64 i zO;obtain ⟨f,ab⟩:∃ f,f=X.getD i 0:=⟨_,rfl⟩
  have a1:f<4294967296:=by rw [ab]; exact dX.at i
  refine zW (fE s u5 w u8 M hi R) ?_;refine aP r [7,8,9,10] (fun k vs H'=>∃ (j c:Nat) (h:List Nat),vs=[.own o 0 N N 1 true,.int .i64 (i:Int),.int .u64 (c:Int),.int .i64 (j:Int)]/\j+k=q/\H'.get o=some (.cells (aM h) ae true)/\h.length=N/\Dig h/\c<4294967296/\dv h+4294967296^(i+j)*c=dv out+4294967296^i*(f*dv (Y.take j))/\∀ m,i+q<=m->h.getD m 0=0) q (by simp only [U4]; exact s) rfl zK ⟨0,0,out,by refine zW (aE s w u8) ?_; rfl,zO,by simpa only [oI] using B,F,D,zO,by simp [dv],aT⟩ ?_;rintro k' T3 G3 V ar t ⟨j,c,h,ax,aY,Q,I,Z,hc,aj,aa⟩;have aW:=t.wf;have a6:=aW _ _ Q;simp only [Vb,Vf,Vd,and_true] at ax;obtain ⟨z7,z8,z9,ah⟩:=ax;have z5:ad T3 5=vx:=(ar.at_ 5 zU).trans (zV (aw s u5));have z6:ad T3 6=vy:=(ar.at_ 6 zU).trans (zV (aw s u6));by_cases hj:j<q
  case neg =>
   have S:¬ (j:Int)<(q:Int):=zO;have aB:j=q:=zO;subst aB;rw [show Y.take j=Y by rw [hq,VC]] at aj;have al:i+j<h.length:=zO;have aV:=IS (d:=c) al;rw [aa (i+j) (Vc _)] at aV;refine zW (E4 V z5 z6 z7 z8 z9 ah O hj S eq Q I al ei) ?_;refine ⟨zK,k-1,zO,i+1,h.set (i+j) c,rfl,zO,by simp only [oI,ap],by rw [U4,I],Z.set _ hc,?_,fun m hm=>?_⟩
   ·rw [zn zO,<- ab,Wa]
    have:4294967296^i*(f*dv Y)=4294967296^i*f*dv Y:=by rw [VO]
    omega
   ·rw [U5,Xj zO,<- U5];exact aa m zO
  have S:(j:Int)<(q:Int):=zO;have ej:IntKind.i64.wrap ((j:Int)+1)=((j+1:Nat):Int):=by rw [wrap_i64] <;> omega
  have aA:IntKind.i64.wrap ((i:Int)+(j:Int))=((i+j:Nat):Int):=by rw [wrap_i64] <;> omega
  have aK:=SlV.idx1 L .i64 j zO;have ao:=cW (K.mono t.sub) (i:=i) zO;have aq:=cW (L.mono t.sub) (i:=j) zO;obtain ⟨l,af⟩:∃ l,l=Y.getD j 0:=⟨_,rfl⟩
  have a2:l<4294967296:=by rw [af]; exact dY.at j
  rw [<- ab] at ao;rw [<- af] at aq;have ai:i+j<h.length:=zO;have aR:=Z.at (i+j);obtain ⟨e,he⟩:∃ e,e=h.getD (i+j) 0:=⟨_,rfl⟩
  have aH:=he.symm;have a0:f*l<=4294967295*4294967295:=WA zO zO;have m1:f*l % 18446744073709551616=f*l:=VE zO;rw [<- he] at aR;have m2:(f*l+e) % 18446744073709551616=f*l+e:=VE zO;obtain ⟨n,hn⟩:∃ n,n=f*l+(e+c):=⟨_,rfl⟩
  have aQ:n<18446744073709551616:=zO;have m3:(f*l+(e+c)) % 18446744073709551616=n:=by rw [hn]; exact VE zO
  have er:bu .rem .int (.int .u64 (n:Int)) (.int .u64 4294967296)=some (.int .u64 ((n % 4294967296:Nat):Int)):=NU (b:=4294967296) zU;have aD:bu .quo .int (.int .u64 (n:Int)) (.int .u64 4294967296)=some (.int .u64 ((n / 4294967296:Nat):Int)):=Jv (b:=4294967296) aQ zU;have av:=Lj (yk:=l) (n:=n) ai aj (by rw [hn,he]; omega);rw [af,<- zn zO] at av;refine zW (np V z5 z6 z7 z8 z9 ah O hj S) ?_;refine aF ?_;refine zD (PB V z5 z6 z7 z8 z9 ah aJ aK ao aq aA Q I ai aH m1 m2 m3 er aD ej) ?_;refine ⟨zK,k'-1,zO,j+1,n / 4294967296,h.set (i+j) (n % 4294967296),rfl,zO,by simp only [oI,ap],by rw [U4,I],Z.set _ (VS _ zU),zO,av,fun m hm=>?_⟩;rw [U5,Xj zO,<- U5];exact aa m hm
 rintro T2 G2 J ⟨k5,w,out,B,F,D,E⟩;have w5:=k5.wf;have s:T2.length=70:=J.len.trans (zV hl);have aS:Lb G2 (.own o 0 N N 1 true) out:=(iX (H0:=r) B hge F).sl;refine aG ?_;refine zW (aw s w) ?_;refine AnsH.use (FK C (n:=(ag x).length+(ag y).length) zF (aS.mono (zG G2)) D zO zO) ?_;rintro u G3 ⟨hu,aN⟩;rw [E,ex,P] at hu;have k6:Kp H G3:=(k3.trans k5).trans (Kp.trans zK aN);have a5:=k6.le;have w6:=k6.wf;refine zW (aw s @am) ?_;refine WC.wb ?_;refine zW (aw s aU) ?_;exact ⟨hu,zK⟩
end
def Sz (x:Int):Prop:=(ag x.natAbs).length<=16777216
def Bt.sz {e:Nat} {x:Int} (h:Bt e x) (he:e<=1073741824):Sz x:=vL (m:=e) h zO
section
variable {tab:Nat->Option az} {H:Heap} {a b:AV}
def DZ (C:Code tab) (e:Wf H) {x:Int} (ha:IntV H a x) :
  Ans tab (.fn fz [a]) H fun v H'=>v=.int .i64 (iu x)/\Kp H H':=by
 obtain ⟨p,rfl,hp⟩:=ha;have op:=hp.one;refine cY C.q27 zU fun T hl c=>?_;by_cases h0:x=0
 ·have d:(ag x.natAbs).length=0:=by rw [h0]; show (ag 0).length=0; rw [ca]; rfl
  have b:((ag x.natAbs).length:Int)=0:=zO;refine zW (bO hl c (tZ (aI (decide (x<0))) op) hp.lenV b) ?_;exact ⟨by rw [h0]; rfl,zK⟩
 ·have d:¬ (ag x.natAbs).length=0:=fun h=>by
   have:=limbs_nil.1 (VB h)
   omega
  have b:¬ ((ag x.natAbs).length:Int)=0:=zO;by_cases hx:x<0
  ·refine zW (fE hl c (tZ (aI (decide (x<0))) op) hp.lenV b d hx) ?_;exact ⟨by unfold iu; rw [if_pos hx],zK⟩
  ·refine zW (fE hl c (tZ (aI (decide (x<0))) op) hp.lenV b d hx) ?_;exact ⟨by unfold iu; rw [if_neg hx,if_neg h0],zK⟩
set_option maxHeartbeats 1000000 in
def FJ (C:Code tab) (F:Wf H) {x y:Int} (ha:IntV H a x) (hb:IntV H b y) (hx:Sz x) (hy:Sz y) :
  Ans tab (.fn fQ [a,b]) H fun v H'=>IntV H' v (x*y)/\Kp H H':=by
 obtain ⟨p,rfl,hp⟩:=ha;obtain ⟨q,rfl,u⟩:=hb;have op:=hp.one;have B:=u.one;refine bk C.q42 zU fun T hl g i=>?_;refine zW (bO hl g i (tZ (aI (decide (x<0))) op) (tZ (aI (decide (y<0))) B)) ?_;refine AnsH.use (FL C zF (hp.mono (zG H)) (u.mono (zG H)) hx hy) ?_;rintro v H2 ⟨l,j⟩;obtain ⟨k2,_,D⟩:=zT H zK j;have b0:=j.get (b:=H.next) (e:=.cells [.bool (decide (x<0)),p] aa true) (cy);have m:=j.get (b:=H.next+1) (e:=.cells [.bool (decide (y<0)),q] aa true) (cy);have c:=j.get (b:=H.next+2) (e:=.cells [.bool false,.nilSl] aa true) (cy);have ov:=l.one;have o:=l.lenV;have m2:NoTy [ae] H2 (H.next+2):=NoTy.ty c zU;have G:=D _ _ c;have en:x.natAbs*y.natAbs=(x*y).natAbs:=(Yq x y).symm;rw [en] at l o;have key:∀ s:Bool,s=decide (x*y<0)->IntV ((H2.up 13).put (H.next+2) (.cells [.bool s,v] aa true)) (.agg [.bool s,v]) (x*y):=fun s hs=>⟨v,by rw [hs],SlV.monoT (E:=bz bp) zS l⟩
 have t:(ag (x*y).natAbs).length=0 ↔ x*y=0:=by
  rw [Wd,limbs_nil]; omega
 by_cases hs:decide (x<0)=decide (y<0)
 ·have f:bu .neq .bool (.bool (decide (x<0))) (.bool (decide (y<0)))=some (.bool false):=by rw [hs]; cases decide (y<0) <;> rfl
  refine zW (jC hl g i @b0 m c f ov) ?_;refine ⟨key false ?_,zK⟩
  symm
  rw [decide_eq_false_iff_not];have k:(x<0) ↔ (y<0):=by simpa using hs
  intro h;by_cases d:x<0
  ·have:=Int.mul_pos_of_neg_of_neg d (k.1 d); omega
  ·have:=VW (show 0<=x by omega) (show 0<=y by omega); omega
 ·have f:bu .neq .bool (.bool (decide (x<0))) (.bool (decide (y<0)))=some (.bool true):=by
   cases h1:decide (x<0) <;> cases h2:decide (y<0) <;> (first | rfl | (rw [h1,h2] at hs; exact absurd rfl hs))
  have k:¬ ((x<0) ↔ (y<0)):=by simpa using hs
  by_cases r:x*y=0
  ·have w:=t.2 r;have n:¬ (0:Int)<((ag (x*y).natAbs).length:Int):=zO;refine zW (np hl g i @b0 m c f ov o n) ?_;exact ⟨key false (by rw [r]; rfl),zK⟩
  ·have w:¬ (ag (x*y).natAbs).length=0:=fun h=>r (t.1 h);have n:(0:Int)<((ag (x*y).natAbs).length:Int):=zO;have z:0<(ag (x*y).natAbs).length:=zO;refine zW (lP hl g i @b0 m c f ov o n z) ?_;refine ⟨key true ?_,zK⟩
   symm
   rw [decide_eq_true_iff];by_cases d:x<0
   ·have A:¬ y<0:=fun h=>k ⟨fun _=>h,fun _=>d⟩
    have:=Int.mul_nonpos_of_nonpos_of_nonneg (show x<=0 by omega) (show 0<=y by omega)
    omega
   ·have A:y<0:=V8 fun h=>k ⟨fun h1=>absurd h1 d,fun h1=>absurd h1 h⟩
    have:=Int.mul_nonpos_of_nonneg_of_nonpos (show 0<=x by omega) (show y<=0 by omega)
    omega
set_option maxHeartbeats 2000000 in
def La (C:Code tab) (Q:Wf H) {x y:Int} (ha:IntV H a x) (hb:IntV H b y) (hx:Sz x) (hy:Sz y) :
  Ans tab (.fn gY [a,b]) H fun v H'=>IntV H' v (x+y)/\Kp H H':=by
 obtain ⟨p,rfl,hp⟩:=ha;obtain ⟨q,rfl,m⟩:=hb;have op:=hp.one;have L:=m.one;refine bk C.q43 zU fun T hl c d=>?_;have key:∀ {G:Heap} {r:AV} {s:Bool},Kp H G->G.get (H.next+2)=some (.cells [.bool false,.nilSl] aa true)->bA G r (x+y).natAbs->s=decide (x+y<0)->IntV (G.put (H.next+2) (.cells [.bool s,r] aa true)) (.agg [.bool s,r]) (x+y):=fun {G r s} N hb hr hs=>by
  have m2:NoTy [ae] G (H.next+2):=NoTy.ty hb zU;have u:=N.wf;have K:=u _ _ hb;exact ⟨r,by rw [hs],SlV.monoT (E:=bz bp) zS hr⟩
 by_cases hs:decide (x<0)=decide (y<0)
 ·have B:bu .eql .bool (.bool (decide (x<0))) (.bool (decide (y<0)))=some (.bool true):=by rw [hs]; cases decide (y<0) <;> rfl
  have F:(x<0) ↔ (y<0):=by simpa using hs
  refine zW (dx hl c d (tZ (aI (decide (x<0))) op) (tZ (aI (decide (y<0))) L) B) ?_;refine aF ?_;refine zD (aE hl c d) ?_;refine AnsH.use (Lc C zF (hp.mono (zG H)) (m.mono (zG H)) hx hy) ?_;rintro r H2 ⟨hr,g⟩;obtain ⟨k2,_,u⟩:=zT H zK g;have t:=hr.one;have b0:=g.get (b:=H.next) (e:=.cells [.bool (decide (x<0)),p] aa true) (cy);have i:=g.get (b:=H.next+1) (e:=.cells [.bool (decide (y<0)),q] aa true) (cy);have f:=g.get (b:=H.next+2) (e:=.cells [.bool false,.nilSl] aa true) (cy);have K:=u _ _ f;refine zD (fE hl c d @b0 i f t) ?_;have en:x.natAbs+y.natAbs=(x+y).natAbs:=zO;rw [en] at hr;have es:decide (x<0)=decide (x+y<0):=by rw [decide_eq_decide]; omega
  exact ⟨key k2 f hr es,zK⟩
 have B:bu .eql .bool (.bool (decide (x<0))) (.bool (decide (y<0)))=some (.bool false):=by
  cases h1:decide (x<0) <;> cases h2:decide (y<0) <;> (first | rfl | (rw [h1,h2] at hs; exact absurd rfl hs))
 have F:¬ ((x<0) ↔ (y<0)):=by simpa using hs
 have n:x<0->¬ y<0:=fun h1 h2=>F ⟨fun _=>h2,fun _=>h1⟩;have o:¬ x<0->y<0:=fun h1=>V8 fun h2=>F ⟨fun h=>absurd h h1,fun h=>absurd h h2⟩;refine zW (dx hl c d (tZ (aI (decide (x<0))) op) (tZ (aI (decide (y<0))) L) B) ?_;refine AnsH.eq (Ay C zF (hp.mono (zG H)) (m.mono (zG H)) hx hy) fun H2 g=>?_;obtain ⟨k2,_,u⟩:=zT H zK g;have b0:=g.get (b:=H.next) (e:=.cells [.bool (decide (x<0)),p] aa true) (cy);have i:=g.get (b:=H.next+1) (e:=.cells [.bool (decide (y<0)),q] aa true) (cy);have f:=g.get (b:=H.next+2) (e:=.cells [.bool false,.nilSl] aa true) (cy);have K:=u _ _ f;rcases Xp x.natAbs y.natAbs with h | h | h
 ·have l:uL x.natAbs y.natAbs = -1:=by unfold uL; rw [if_pos h]
  refine zW (aW hl c d l) ?_;refine aF ?_;refine zD (bO hl c d @b0 i) ?_;refine AnsH.use (Aw C zF ((m.mono k2.sub).mono (zG H2)) ((hp.mono k2.sub).mono (zG H2)) hy hx zO) ?_;rintro r w ⟨hr,D⟩;obtain ⟨k23,_,_⟩:=zT H2 zK D;have k:Kp H w:=k2.trans k23;have O:=k.le;have I:=k.wf;have t:=hr.one;have z:=k23.get b0;have A:=k23.get i;have j:=k23.get f;have P:=I _ _ j;refine zD (jB hl c d @b0 i z @A @j t) ?_;have en:y.natAbs-x.natAbs=(x+y).natAbs:=by
   by_cases h1:x<0
   ·have:=n h1; omega
   ·have:=o h1; omega
  rw [en] at hr;have es:decide (y<0)=decide (x+y<0):=by
   rw [decide_eq_decide];by_cases h1:x<0
   ·have:=n h1; omega
   ·have:=o h1; omega
  exact ⟨key k j hr es,zK⟩
 ·have l:uL x.natAbs y.natAbs=0:=by unfold uL; rw [if_neg zO,if_pos h]
  have M:fm [.bool false,.nilSl] []=some (.agg [.bool false,.nilSl]):=rfl;refine zW (dx hl c d l M f) ?_;have J:x+y=0:=by
   by_cases h1:x<0
   ·have:=n h1; omega
   ·have:=o h1; omega
  refine ⟨key (zK) (by simpa only [oI] using f) ?_ (by rw [J]; rfl),zK⟩;rw [J]; exact dM _
 ·have l:uL x.natAbs y.natAbs=1:=by unfold uL; rw [if_neg zO,if_neg zO]
  refine zW (aW hl c d l) ?_;refine aF ?_;refine zD (bO hl c d @b0 i) ?_;refine AnsH.use (Aw C zF ((hp.mono k2.sub).mono (zG H2)) ((m.mono k2.sub).mono (zG H2)) hx hy zO) ?_;rintro r w ⟨hr,D⟩;obtain ⟨k23,_,_⟩:=zT H2 zK D;have k:Kp H w:=k2.trans k23;have O:=k.le;have I:=k.wf;have t:=hr.one;have z:=k23.get b0;have A:=k23.get i;have j:=k23.get f;have P:=I _ _ j;refine zD (jB hl c d @b0 i z @A @j t) ?_;have en:x.natAbs-y.natAbs=(x+y).natAbs:=by
   by_cases h1:x<0
   ·have:=n h1; omega
   ·have:=o h1; omega
  rw [en] at hr;have es:decide (x<0)=decide (x+y<0):=by
   rw [decide_eq_decide];by_cases h1:x<0
   ·have:=n h1; omega
   ·have:=o h1; omega
  exact ⟨key k j hr es,zK⟩
set_option maxHeartbeats 2000000 in
def B8 (C:Code tab) (hw:Wf H) {x y:List Int} {e f:Nat} (ha:RowV H a x) (hb:RowV H b y) (S:x.length=y.length) (af:x.length<=64) (R:∀ z∈x,Bt e z) (U:∀ z∈y,Bt f z) (ag:e+f<=1000000000) :
  Ans tab (.fn fh [a,b]) H fun v H'=>IntV H' v (Lin.dot x y)/\Kp H H':=by
 refine bk C.q26 zU fun T hl c d=>?_;have pB:∀ j,j<=x.length->Bt (e+f+7) (qF x y j):=fun j hj=>by
  unfold qF;exact oK (fun z L=>R z (WP L)) (fun z L=>U z (WP L)) (by rw [Vx,Vx,S]) (by rw [Vx]; omega)
 refine zW (aE hl c d) ?_;refine aP H [6] (fun k vs H'=>∃ i:Nat,vs=[.int .i64 (i:Int)]/\i+k=x.length/\BoxI H' (H.next+1) (qF x y i)/\H'.get H.next=some (.cells [.bool false,.nilSl] aa true)) x.length (by simp only [U4]; exact hl) rfl zK ⟨0,by refine zW (aE hl c d) ?_; rfl,zO,⟨.nilSl,by refine wO ?_; simp [qF,Lin.dot],by simpa [qF,Lin.dot] using dM _⟩,by exact cy⟩ ?_;rintro k T1 n m t l ⟨i,g,ah,⟨q,hq0,p⟩,s⟩;have w1:=l.wf;have ai:=l.le;simp only [Vb,Vf,Vd,and_true] at g;have t0:ad T1 0=a:=(t.at_ 0 zU).trans (zV (aw hl c));have t1:ad T1 1=b:=(t.at_ 1 zU).trans (zV (aW hl c d d));have t4:ad T1 4=.ptr H.next 0:=(t.at_ 4 zU).trans (zV (aE hl c d))
 have t5:ad T1 5=.ptr (H.next+1) 0:=(t.at_ 5 zU).trans (zV (aE hl c d));have oq:=p.one;have ap:=w1 _ _ hq0;by_cases hi:i<x.length
 ·have B:(i:Int)<(x.length:Int):=zO;have h:i<y.length:=zO;have A:IntKind.i64.wrap ((i:Int)+1)=((i+1:Nat):Int):=by rw [wrap_i64] <;> omega
  obtain ⟨w,hn,G,-,-⟩:=jO (ha.mono l.sub) hi;obtain ⟨u,Q,I,-,-⟩:=jO (hb.mono l.sub) h;have D:cd 2 a (.int .i64 (i:Int))=some (aA a (i*2)):=SlV.idx ha .i64 i hi;have F:cd 2 b (.int .i64 (i:Int))=some (aA b (i*2)):=SlV.idx hb .i64 i h;have ow:=hn.one;have ou:=Q.one;have bx:=R _ (U9 hi);have P:=U _ (U9 h);refine zW (jB m g t0 t1 t4 t5 ha.lenV hi B) ?_;refine aF ?_;refine zD (lP m g t0 t1 t4 t5 hq0 D F G I) ?_;refine AnsH.use (FJ C (x:=x[i]) (y:=y[i]) zF ⟨w,rfl,hn.mono (zG n)⟩ ⟨u,rfl,Q.mono (zG n)⟩ (bx.sz zO) (P.sz zO)) ?_;rintro v3 o ⟨ab,W⟩;obtain ⟨k13,_,_⟩:=zT n zK W;have M:Kp H o:=Kp.trans l k13;have aj:=M.le;have w3:=M.wf;have J:=k13.get hq0;have Y:=k13.get s;refine zD (zx m g t0 t1 t4 t5 hq0 D F G I J) ?_;refine AnsH.use (La C zF ⟨q,rfl,(p.mono k13.sub).mono (zG o)⟩ (ab.mono (zG o)) ((pB i zO).sz zO) ((bx.mul P).sz zO)) ?_;rintro v4 O ⟨⟨r,rfl,hr⟩,X⟩;obtain ⟨N,_,_⟩:=zT o zK X;have V:Kp H O:=Kp.trans M N;have al:=V.le;have w4:=V.wf;have aq:=hr.one;have K:=N.get J;have Z:=N.get Y;have ao:=w4 _ _ K;have m0:NoTy [ae] O (H.next+1):=NoTy.ty K zU;refine zD (E5 m g t0 t1 t4 t5 hq0 D F G I J K A) ?_;refine ⟨zK,k-1,zO,i+1,rfl,zO,⟨r,?_,?_⟩,?_⟩
  ·rw [pi hi h]; exact cy
  ·rw [pi hi h]; exact SlV.monoT (E:=bz bp) zS hr
  ·exact zV Z
 ·have B:¬ (i:Int)<(x.length:Int):=zO;have A:i=x.length:=zO;rw [A,Bh S] at hq0 p;have am:=w1 _ _ s;refine zW (lP m g t0 t1 t4 t5 ha.lenV hi B hq0 s) ?_;have m0:NoTy [ae] n H.next:=NoTy.ty s zU
  exact ⟨⟨q,rfl,SlV.monoT (E:=bz bp) zS p⟩,zK⟩
set_option maxHeartbeats 1000000 in
def FH (C:Code tab) (J:Wf H) {w u:AV} {k e f:Nat} {r c:List Int} {q:Bool} (hr:RowV H w r) (hc:RowV H u c) (y:r.length=c.length) (o:r.length<=64) (B:∀ z∈r,Bt e z) (D:∀ z∈c,Bt f z) (p:e+f<=1000000000) :
  Ans tab (.fn dJ [.agg [.int .u8 (k:Int),w],.agg [u,.bool q]]) H fun v H'=>v=.bool (Lin.keepsP (c,q) (k,r))/\Kp H H':=by
 have G:=hr.one;have F:=hc.one;refine bk C.q8 zU fun T hl a d=>?_;refine zW (bO hl a d (wI G) (wJ F)) ?_;refine AnsH.use (B8 C zF (hr.mono (zG H)) (hc.mono (zG H)) y o B D p) ?_;rintro v H2 ⟨A,i⟩;obtain ⟨k2,_,L⟩:=zT H zK i;refine zW (aE hl a d) ?_;refine AnsH.eq (DZ C zF (A.mono (zG H2))) fun m t=>?_;obtain ⟨k23,_,_⟩:=zT H2 zK t;have l:Kp H m:=k2.trans k23;have K:=l.le;have M:=l.wf;have b0:=k23.get (i.get (b:=H.next) (e:=.cells [.int .u8 (k:Int),w] ai true) (cy));have h:=k23.get (i.get (b:=H.next+1) (e:=.cells [u,.bool q] t_api_Con true) (cy));have n:Lin.dot r c=Lin.dot c r:=Lin.dot_comm ..;rw [n];obtain ⟨s,hs⟩:∃ s,s=Lin.dot c r:=⟨_,rfl⟩
 have E:Lin.keepsP (c,q) (k,r)=if q || k == 1 then decide (s=0) else decide (0<=s):=by unfold Lin.keepsP; rw [hs]
 rw [<- hs,E];have z0:iu s=0 ↔ s=0:=by unfold iu; split <;> (try split) <;> omega
 have I:0<=iu s ↔ 0<=s:=by unfold iu; split <;> (try split) <;> omega
 by_cases j:k=1
 ·have g:(k:Int)=1:=zO;refine zW (dx hl a d @b0 h g) ?_;refine ⟨?_,zK⟩;rw [j]; simp [z0]
 ·have g:¬ (k:Int)=1:=zO;have x:(k == 1)=false:=by simpa using j
  cases q with
  | true =>
   refine zW (dx hl a d @b0 h g) ?_;exact ⟨by simp [z0],zK⟩
  | false =>
   refine zW (dx hl a d @b0 h g) ?_;exact ⟨by simp [I,x],zK⟩
end
def QW {n:Nat} {K:List (List Int × Bool)} {c:tu} (hn:n<=4) (a:K.length+1<=60) (hb:vE c.1=false\/c.1.length≠n+1):dw n (K.map (fun c=>(c.1.map dU,c.2))++[c])≠0:=by
 unfold dw;rw [if_neg zO,if_neg (by rw [Vr,Vh]; simp; omega)];split
 ·decide
 rename_i h1;split
 ·decide
 rename_i h2;rw [List.any_append,WU,not_or] at h1 h2
 exfalso
 rcases hb with hb | hb
 ·exact h1.2 (by simp [hb])
 ·exact h2.2 (by simp; omega)
def SZ {ty:Nat} {H0 H:Heap} {v:AV} {l:List (List Int × Bool)} (h:Bq conE ty H0 H v l):Bq conQE ty H0 H v (l.map fun c=>(c.1.map dU,c.2)):=by
 rcases h with ⟨rfl,rfl⟩ | ⟨b,ex,cells,rfl,hb,hc,hge⟩
 ·exact Bq.nil
 ·refine .inr ⟨b,ex,cells,by rw [Vh]; rfl,hb,⟨by rw [hc.1,Vh]; rfl,fun i a hi=>?_⟩,hge⟩;rw [V6,Vg] at hi;obtain ⟨z,d,rfl⟩:=hi;obtain ⟨w,h1,h2⟩:=hc.2 i z d;exact ⟨w,h1,h2.raw⟩
section
variable {tab:Nat->Option az} {H:Heap} {s:AV}
set_option maxHeartbeats 4000000 in
def B9 (C:Code tab) (hw:Wf H) {v w:AV} {n e f:Nat} {K:List (List Int × Bool)} {G:List (Nat × List Int)} {a:List (Bool × List Nat)} {b:Bool} (hp:PolyV H v n K G) (l:PolyOK n e f K G) (ha:SlV rawE aa H w a) (V:qG a) (ad:K.length+1<=60) (U:vE a=false\/a.length≠n+1) :
  Ans tab (.fn nC [v,.agg [w,.bool b]]) H fun x H'=>(∃ c:Int,c≠0/\x=.tup [AF,.int .i64 c])/\Kp H H':=by
 obtain ⟨O,P,rfl,hc,hg⟩:=hp;have oc:=hc.one;have og:=hg.one;have Z:=ha.one;refine bk C.q5 zU fun T hl i j=>?_;refine zW (bO hl i j (ki oc og) (wJ Z)) ?_;refine AnsH.eq (mN C (n:=n) (K:=K) (G:=G) zF ⟨O,P,rfl,hc.mono (zG H),hg.mono (zG H)⟩ l) fun H2 p=>?_;obtain ⟨k2,_,A⟩:=zT H zK p;have d0:H2.get H.next=some (.cells [.int .i64 (n:Int),O,P] aj true):=p.get (cy)
 have d1:H2.get (H.next+1)=some (.cells [w,.bool b] t_api_Con true):=p.get (cy);have d2:H2.get (H.next+2)=some (.cells [.int .i64 0,.nilSl,.nilSl] aj true):=p.get (cy);have ai:=A _ _ d2;refine zW (aW hl i j @am) ?_;refine aF ?_;refine zD (dx hl i j d0 d1 d2) ?_;refine AnsH.use (Do C zF ((hc.mono k2.sub).mono (zG H2)) zO) ?_;rintro v3 g ⟨q,X⟩;obtain ⟨k23,_,_⟩:=zT H2 zK q;have t:Kp H g:=k2.trans k23;have ae:=t.le;have w3:=t.wf;have B:=k23.get d0;have D:=k23.get d1;have E:=k23.get d2;have n3:H2.next+15<=g.next:=q.le
 have f6:g.get (H2.next+8)=none:=q.free (show H2.next+8<H2.next+15 by omega) (A.fresh (b:=H2.next+8) zO);have S:g.get (H2.next+9)=none:=q.free (show H2.next+9<H2.next+15 by omega) (A.fresh (b:=H2.next+9) zO);have q3:Bq conE t_api_Con H2 g v3 K:=X.weak (by show H2.next<=H2.next+15; omega);obtain ⟨N,o,r,q4,s,n4,-,-⟩:=Bq.push (ty2:=t_api_Con) (bytes:=32) (id:=H2.next+9) (id2:=H2.next+8) (cs:=[w,.bool b]) (a:=(a,b)) (SZ q3) zU k23 ⟨w,rfl,ha.mono t.sub⟩ zO zO S zO zO f6 zO (by rw [Vh]; omega) (by rw [Vh]; omega);have r:cC (g.put (H2.next+8) (.cells [w,.bool b] t_api_Con true)) (H2.next+9) 2 32 t_api_Con v3 (.own (H2.next+8) 0 1 1 2 true)=some (.own (H2.next+9) 0 N N 2 false,o):=r;have u:Kp H o:=k2.trans s;have af:=u.le;have w4:=u.wf;have R:=s.get d0;have F:=s.get d2;refine zD (np hl i j d0 d1 d2 B D E r) ?_;have J:=QW (c:=(a,b)) l.dim (K:=K) zO U;refine AnsH.eq (yo C (n:=(n:Int)) zF (q4.sl.mono (zG o)) (fun c hc=>(Vq.1 hc).elim (fun h=>?_) fun h=>by rw [Vp] at h; subst h; exact V) (by rw [Vr,Vh]; simp; omega) J) fun Q W=>?_
 ·obtain ⟨d,hd,rfl⟩:=Va.1 h;have hr:=l.rowK d hd;have ab:=l.dim;have hf:=l.f3;refine ⟨by rw [Vh,hr.1]; omega,fun z Y=>?_⟩;obtain ⟨y,hy,rfl⟩:=Va.1 Y
  have:=vL (n:=y.natAbs) (k:=1048576) (m:=f+1) (ir hr.2 y hy) zO
  show (ag y.natAbs).length<_;omega
 obtain ⟨L,_,_⟩:=zT o zK W;have M:Kp H Q:=u.trans L;have ah:=M.le;have w5:=M.wf;have I:=L.get F;have al:=w5 _ _ I;refine zD (yZ hl i j d0 d1 d2 B D E R F I @nt) ?_;exact ⟨⟨_,J,rfl⟩,zK⟩
end
end Go.Proofs.YteaefaohjlmjdaaGreat.Ev
namespace Go.Proofs.YteaefaohjlmjdaaGreat.Lin
section
variable {n:Nat} {K:List (V × Bool)} {G:List (Nat × V)} {c:V × Bool} {r:V}
def meet_rows (o:Own n K G) (hc:c.1.length=n+1):∀ d∈K++[c],d.1.length=n+1:=fun d hd=>by
 rcases Vq.1 hd with h | h
 ·exact o.rows d h
 ·rw [Vp] at h; subst h; exact hc
def meet_in (o:Own n K G) (hc:c.1.length=n+1):inP (gensP n (K++[c])) K=true:=by
 rw [inP_iff];exact fun g hg d hd=>poly_keeps (meet_rows o hc) hg (.inl (Wg _ hd))
def meet_all (o:Own n K G) (hc:c.1.length=n+1):∀ g∈gensP n (K++[c]),keepsP c g=true:=fun g hg=>poly_keeps (meet_rows o hc) hg (.inl (Wp _ (Vp.2 rfl)))
def meet_same (o:Own n K G) (hc:c.1.length=n+1):(G.all fun g=>keepsP c g)=decide (K=consP n (gensP n (K++[c]))/\G=gensP n (K++[c])):=by
 have hL:=meet_rows o hc;have e:(∀ g∈G,keepsP c g=true)->gensP n (K++[c])=G:=fun h=>by
  by_cases a:G=[]
  ·rw [a];refine V8 fun hne=>?_;obtain ⟨x,hx,h0⟩:=(xC hL).1 hne;exact o.ne (keepP_app.1 hx).1 h0 a
  ·rw [<- o.gens];refine A8 hL o.rows fun x=>?_;rw [keepP_app];refine ⟨fun h=>h.1,fun hx=>⟨hx,?_⟩⟩;have f:=o.pt a h hx;have b:=keepP_iff.1 hx;refine keepP_iff.2 ⟨b.1,b.2.1,fun d hd=>?_⟩;rw [Vp] at hd; subst hd;exact ⟨f.1,fun _=>f.2⟩
 rw [Wi,VA,decide_eq_true_iff];constructor
 ·intro h
  have:=e h
  exact ⟨by rw [this,o.cons],this.symm⟩
 ·rintro ⟨-,h⟩ g hg;rw [h] at hg;exact meet_all o hc g hg
def meet_pt (o:Own n K G) (hc:c.1.length=n+1) (hr:r.length=n+1) (h0:0<hd1 r):inP [(3,r)] (consP n (gensP n (K++[c])))=(inP [(3,r)] K && keepsP c (3,r)):=by
 rw [Ss (meet_rows o hc) hr h0,Wi,VH,inP_iff,inP_iff];constructor
 ·intro h;exact ⟨fun y hy d hd=>h y hy d (Wg _ hd),h _ (Vp.2 rfl) c (Wp _ (Vp.2 rfl))⟩
 ·rintro ⟨h1,h2⟩ y hy d hd;rcases Vq.1 hd with h | h
  ·exact h1 y hy d h
  ·rw [Vp] at h hy; subst h; subst hy; exact h2
end
end Go.Proofs.YteaefaohjlmjdaaGreat.Lin
namespace Go.Proofs.YteaefaohjlmjdaaGreat.Ev
open Go Nn
section
variable {tab:Nat->Option az} {H:Heap} {s1:AV}
set_option maxHeartbeats 16000000 in
def law22_PolyMeets (C:Code tab) (hw:Wf H) {d:Int} {l:List tu} {cn:tu} {e:tt} {bV bU:List AV} (E:SlV conQE t_api_Con H s1 l) (cW:conQE.R H bV cn) (c2:genQE.R H bU e) (gl:∀ r∈l,eI r.1) (gc:eI cn.1) (gg:eI e.2/\e.1<256) (_ : -9223372036854775808<=d/\d<9223372036854775808) :
  Ans tab (.fn d9 [.int .i64 d,s1,.agg bV,.agg bU]) H fun v H'=>v=.bool true/\Kp H H':=by
 obtain ⟨wc,rfl,bq⟩:=cW;obtain ⟨wg,rfl,bt⟩:=c2;obtain ⟨M,t⟩:=cn;have cx:=bq.one;have cz:=bt.one;refine ts C.q0 rfl rfl zU fun T hl g=>?_;have hl:T.length=149:=hl;have J:c_facetroomlaw22_PolyMeets.results=[(8,none)]:=rfl;have g0:ad T 0=.int .i64 d:=g 0 (by simp);have g1:ad T 1=s1:=g 1 (by simp);have g2:ad T 2=.agg [wc,.bool t]:=g 2 (by simp);have g3:ad T 3=.agg [.int .u8 (e.1:Int),wg]:=g 3 (by simp);clear g;refine aG ?_;refine zW (dx hl g2 g3 (wJ cx) (wI cz) @am) ?_;obtain ⟨H1,aK⟩:∃ H1,H1=((H.up 3).put H.next (.cells [wc,.bool t] t_api_Con true)).put (H.next+1) (.cells [.int .u8 (e.1:Int),wg] ai true):=⟨_,rfl⟩
 have bG:Kp H H1:=by rw [aK]; exact zK
 have bW:H1.get H.next=some (.cells [wc,.bool t] t_api_Con true):=by rw [aK,aB zO,ap]
 have bX:H1.get (H.next+1)=some (.cells [.int .u8 (e.1:Int),wg] ai true):=by rw [aK,ap]
 have w1:=bG.wf;rw [<- aK];clear aK;refine qk (fun T'=>T'.length=149/\ad T' 0=.int .i64 d/\ad T' 1=s1/\ad T' 6=.ptr H.next 0/\ad T' 7=.ptr (H.next+1) 0) (zV (aE hl g0 g1)) ?_;clear hl g0 g1 g2 g3;rintro T ⟨hl,g0,g1,j,f⟩;refine aG ?_;refine zW hl ?_;refine AnsH.eq (Gd C zF) fun H2 c5=>?_;obtain ⟨k2,_,w2⟩:=zT H1 zK c5;refine zW (aw hl @am) ?_;refine aG ?_;refine zW (aE hl g0 g1) ?_;refine AnsH.use (Ix C zF ((E.mono (bG.trans k2).sub).mono (zG H2)) gl (SlV.nil conQE t_api_Con _) (fun x hx=>by cases hx)) ?_;rintro v3 H3 ⟨cq,ci⟩;obtain ⟨x,u,z,x',u',z',b,db,ou,oz,dy,dz⟩:=Og cq;obtain ⟨k3,_,w3⟩:=zT H2 zK ci;have e3:Emp H3 H2.next (H2.next+12):=(Emp.start w2 (k:=12)).keep ci
 have n3:=e3.1;have fA:=e3.2 (H2.next+7) zO zO;have fB:=e3.2 (H2.next+8) zO zO;obtain ⟨G3,aJ⟩:∃ G3,G3=(((H3.put (H2.next+7) (.cells [.int .i64 0,.nilSl,.nilSl] aj true)).put (H2.next+8) (.cells [.int .i64 0,.nilSl,.nilSl] aj true)).put (H2.next+7) (.cells [.int .i64 x,u,z] aj true)).put (H2.next+8) (.cells [.int .i64 x',u',z'] aj true):=⟨_,rfl⟩
 have bd:Kp H2 G3:=by rw [aJ]; exact zK
 have bK:Sub H3 G3:=by rw [aJ]; exact (((aV fA).put fB _).put fA _).put fB _
 have cE:=bd.wf;have cA:G3.get (H2.next+7)=some (.cells [.int .i64 x,u,z] aj true):=by rw [aJ,aB zO,ap]
 have kH:Kp H G3:=bG.trans (k2.trans bd);have bi:=(k2.trans bd).get bW;have bk:=(k2.trans bd).get bX;subst db;refine zW (bO hl g0 g1 @nt @am) ?_;rw [<- aJ];clear aJ;refine qk (fun T'=>T'.length=149/\ad T' 6=.ptr H.next 0/\ad T' 7=.ptr (H.next+1) 0/\ad T' 9=.bool true/\ad T' 10=.ptr (H2.next+7) 0/\ad T' 12=.bool b) (zV (aE hl j f)) ?_;clear hl g0 g1 j f;rintro T ⟨hl,j,f,g9,s,bl⟩;refine aG ?_;cases b with
 | false =>
  refine zW (bO hl g9 bl @gS J) ?_;exact zK
 | true =>
 rcases cq with ⟨_,_,he,-⟩ | ⟨n,p,q,K,G,K',G',rfl,di,he,⟨vc,vg,rfl,hc,hg⟩,⟨dA,dB,rfl,cS,cZ⟩,ok,dj,lK,lG⟩
 ·cases he
 cases he;have hc:=hc.mono bK;have hg:=hg.mono bK;clear cS cZ dj bK bW bX;have dM:=IN (p:=.nilSl) (q:=.bool false) cx (aI t);have cY:=IN (p:=.int .u8 0) (q:=.nilSl) (aZ .u8 (e.1:Int)) cz;refine zW (bO hl j bl bi dM) ?_;refine AnsH.eq (jf C (ls:=[(M,t)]) (n:=1) zF (SF (ap _ _ _) (bq.mono (kH.sub.trans ((Sub.bump G3 16).put (cE.fresh (b:=G3.next+4) zO) _)))) zO) fun G4 a9=>?_;obtain ⟨k4,_,w4⟩:=zT G3 zK a9;have dc:=kH.trans k4;have c4:=k4.get bk;cases bx:dG 1 [(M,t)] with
 | true =>
  refine zW (aW hl g9 @gS J) ?_;exact zK
 | false =>
 refine zW (bO hl f g9 c4 cY) ?_;have n4:G3.next+16<=G4.next:=a9.le
 have f4:G4.get (G3.next+9)=none:=a9.free (show G3.next+9<G3.next+16 by omega) (by rw [aB zO]; exact cE.fresh (b:=G3.next+9) zO);refine AnsH.eq (qw C (ls:=[e]) (n:=1) zF (SE (ap _ _ _) ((bt.mono dc.sub).mono (aV f4))) zO) fun A cj=>?_;obtain ⟨k5,_,w5⟩:=zT G3 zK cj;have af:=kH.trans k5;have ds:=af.le;have bY:=k5.get bk;have aU:=k5.get bi;cases bz:ij 1 [e] with
 | true =>
  refine zW (aW hl g9 @gS J) ?_;exact zK
 | false =>
 refine zW (aE hl g9 @am) ?_;have p5:=k5.get cA;have a5:=hc.mono k5.sub;have a6:=hg.mono k5.sub;have br:=bq.mono af.sub;have cg:=bt.mono af.sub;have b7:qG M:=A5 bx _ (Vp.2 rfl);have aQ:=IG bx;obtain ⟨P,hP⟩:∃ P,P=H2.next+7:=⟨_,rfl⟩
 rw [<- hP] at p5 s;refine qk (fun T'=>T'.length=149/\ad T' 6=.ptr H.next 0/\ad T' 7=.ptr (H.next+1) 0/\ad T' 10=.ptr P 0) (zV (aW hl j f s)) ?_;clear hl j f g9 s bl f4 bk bi c4 cA hc hg bx a9 cj e3 fA fB hP;rintro T ⟨hl,j,f,s⟩;refine aG ?_;by_cases bT:vE M=false\/M.length≠n+1
 ·refine zW (bO hl j s p5 aU) ?_;refine AnsH.use (B9 C (n:=n) zF ⟨u,z,rfl,a5.mono (zG A),a6.mono (zG A)⟩ ok (br.mono (zG A)) b7 zO bT) ?_;rintro _ H6 ⟨⟨c,cT,rfl⟩,ao⟩;obtain ⟨k6,_,w6⟩:=zT A zK ao;have n6:A.next+9<=H6.next:=ao.le
  have kD:=af.trans k6;refine zW (aE hl @nt @am) ?_;refine aG ?_;refine zW (aW hl cT @gS J) ?_;exact zK
 have cs:vE M=true:=by
  cases h:vE M with
  | true=>rfl
  | false=>exact absurd (.inl h) bT
 have ax:M.length=n+1:=V8 fun h=>bT (.inr h);obtain ⟨a0,ct⟩:=Qg gc aQ cs;have ba:RowV A wc (M.map cB):=SlV.int br ct;obtain ⟨a,ha⟩:∃ a,a=M.map cB:=⟨_,rfl⟩
 rw [<- ha] at a0 ba;have al:a.length=n+1:=by rw [ha,Vh,ax]
 clear ha ct cs ax aQ b7 br bT;have b6:=Lin.meet_rows (c:=(a,t)) ok.own al;have b5:∀ c∈K++[(a,t)],c.1.length=n+1/\Lin.Bd (2^64) c.1:=fun c h=>by
  rcases Vq.1 h with h | h
  ·exact ok.rowK c h
  ·rw [Vp] at h; subst h; exact ⟨al,a0⟩
 have gb:=LT (m:=64) di b5;refine zW (bO hl j s p5 aU) ?_;refine AnsH.use (CE C (n:=n) (m:=64) (m2:=16*(64+4)) zF ⟨u,z,rfl,a5.mono (zG A),a6.mono (zG A)⟩ ok (ba.mono (zG A)) al a0 zO zO zO (fun x hx=>(gb x hx).2) zO) ?_;rintro v6 H6 ⟨c7,ao⟩;obtain ⟨k6,_,w6⟩:=zT A zK ao;have n6:A.next+9<=H6.next:=ao.le
 have kD:=af.trans k6;rcases c7 with ⟨rfl,-⟩ | ⟨p,rfl,⟨bf,ag,rfl,av,aN⟩,dq,du⟩
 ·refine zW (aE hl @nt @am) ?_;refine aG ?_;refine zW (aE hl @gS J) ?_;exact zK
 have dv:=av.one;have dw:=aN.one;have f6:H6.get (A.next+6)=none:=ao.free (show A.next+6<A.next+9 by omega) (w5.fresh (b:=A.next+6) zO);obtain ⟨X6,aM⟩:∃ X,X=(H6.put (A.next+6) (.cells [.int .i64 0,.nilSl,.nilSl] aj true)).put (A.next+6) (.cells [.int .i64 (n:Int),bf,ag] aj true):=⟨_,rfl⟩
 have s6:Sub H6 X6:=by rw [aM]; exact (aV f6).put f6 _
 have bE:Kp A X6:=by rw [aM]; exact zK
 have q6:X6.get (A.next+6)=some (.cells [.int .i64 (n:Int),bf,ag] aj true):=by rw [aM,ap]
 refine zW (aE hl @nt @am) ?_;rw [<- aM];clear aM;obtain ⟨Q,hQ⟩:∃ X,X=A.next+6:=⟨_,rfl⟩
 rw [<- hQ] at q6;rw [<- hQ];have dm:=bE.wf;have kE:=af.trans bE;obtain ⟨o,ah⟩:∃ X,X=Lin.gensP n (K++[(a,t)]):=⟨_,rfl⟩
 obtain ⟨I,aL⟩:∃ X,X=Lin.consP n o:=⟨_,rfl⟩
 have oQ:Lin.Own n I o:=by rw [aL,ah]; exact Lin.own_of b6
 have df:Lin.inP o K=true:=by rw [ah]; exact Lin.meet_in ok.own al
 have de:∀ g∈o,Lin.keepsP (a,t) g=true:=by rw [ah]; exact Lin.meet_all ok.own al
 have dh:(G.all fun g=>Lin.keepsP (a,t) g)=decide (K=I/\G=o):=by rw [aL,ah]; exact Lin.meet_same ok.own al
 have dg:∀ {r:List Int},r.length=n+1->0<Lin.hd1 r->Lin.inP [(3,r)] I=(Lin.inP [(3,r)] K && Lin.keepsP (a,t) (3,r)):=fun h1 h2=>by rw [aL,ah]; exact Lin.meet_pt ok.own al h1 h2
 rw [<- ah] at av aN;rw [<- aL] at av;clear ah aL gb b5 b6;refine qk (fun T'=>T'.length=149/\ad T' 6=.ptr H.next 0/\ad T' 7=.ptr (H.next+1) 0/\ad T' 10=.ptr P 0/\ad T' 13=.ptr Q 0/\ad T' 14=.int .i64 0) (zV (aW hl j f s)) ?_;clear hl j f s ao f6;rintro T ⟨hl,j,f,s,g13,b0⟩;refine aG ?_;refine zW (aW hl @g13 b0 q6) ?_;refine AnsH.eq (qS C (n:=n) zF ⟨bf,ag,rfl,(av.mono s6).mono (zG X6),(aN.mono s6).mono (zG X6)⟩) fun Y dK=>?_;have kY:Kp X6 Y:=Kp.trans zK dK;have wY:=kY.wf;have cw:=kE.trans kY
 generalize aQ:(lW I o || decide (4<n))=cQ
 cases cQ with
 | true =>
  refine zW (aE hl @gS J) ?_;exact zK
 | false =>
 rw [WX] at aQ;obtain ⟨⟨a1,a2⟩,a3,a4⟩:=pZ aQ.1;have bH:PolyOK n 64 64 I o:=⟨oQ,zO,.inl zO,zO,fun c hc=>(a2 c hc).2,fun x hx=>(a4 x hx).2,zO,zO⟩
 refine zW (aw hl @am) ?_;have aq:=bE.trans kY;have pY:=aq.get p5;have qY:=kY.get q6;have bj:=aq.get aU;have cL:=aq.get bY;have bp:=a5.mono aq.sub;have a7:=a6.mono aq.sub;have bo:=(av.mono s6).mono kY.sub;have aO:=(aN.mono s6).mono kY.sub;have c9:=ba.mono aq.sub;have ch:=cg.mono aq.sub;have dt:=cw.le;refine qk (fun T'=>T'.length=149/\ad T' 6=.ptr H.next 0/\ad T' 7=.ptr (H.next+1) 0/\ad T' 10=.ptr P 0/\ad T' 13=.ptr Q 0) (zV (bO hl j f s @g13)) ?_;clear hl j f s g13 b0 dK p5 q6 aU bY a5 a6 av aN ba cg;rintro T ⟨hl,j,f,s,g13⟩;refine aG ?_;refine zW (bO hl s @g13 pY qY) ?_;refine AnsH.eq (Qr C (n:=n) zF ⟨_,_,rfl,bo.mono (zG Y),aO.mono (zG Y)⟩ ⟨_,_,rfl,bp.mono (zG Y),a7.mono (zG Y)⟩ bH ok) fun Z co=>?_;rw [df];have kZ:Kp Y Z:=Kp.trans zK co;have wZ:=kZ.wf;refine zW (aw hl @am) ?_;refine aG ?_;refine zW (aw hl @am) ?_;refine qk (fun T'=>T'.length=149/\ad T' 6=.ptr H.next 0/\ad T' 7=.ptr (H.next+1) 0/\ad T' 10=.ptr P 0/\ad T' 13=.ptr Q 0/\ad T' 15=.bool true/\ad T' 16=.int .i64 0/\ad T' 17=.bool true) (zV (bO hl j f s @g13)) ?_;clear hl j f s g13 co;rintro T ⟨hl,j,f,s,g13,g15,b1,b2⟩;obtain ⟨Z1,bn⟩:∃ X,X=Z.up 1:=⟨_,rfl⟩
 try rw [<- bn]
 have dd:Kp Y Z1:=by rw [bn]; exact kZ.up _
 clear bn;have dH:=dd.wf;have cK:=ir a0;have kf:∀ {X:Heap} {w:AV} {k:Nat} {r:List Int},Kp Y X->RowV X w r->r.length=n+1->Lin.Bd (2^64) r->Ans tab (.fn dJ [.agg [.int .u8 (k:Int),w],.agg [wc,.bool t]]) X fun v H'=>v=.bool (Lin.keepsP (a,t) (k,r))/\Kp X H':=fun kX hr ax da =>
  FH C kX.wf hr (c9.mono kX.sub) zO zO (ir da) cK zO
 refine bP (fun T' H'=>Kp Y H'/\ad T' 17=.bool (G.all fun g=>Lin.keepsP (a,t) g)) rfl ?_ ?_
 ·refine zW hl ?_;refine aP Y [17,18] (fun k vs _=>∃ i:Nat,vs=[.bool ((G.take i).all fun g=>Lin.keepsP (a,t) g),.int .i64 (i:Int)]/\i+k=G.length) G.length (by simp only [U4]; exact hl) rfl zK ⟨0,by refine zW (aw hl b2) ?_; rfl,zO⟩ ?_;rintro k T1 X y E D ⟨i,hv,dL⟩;have wX:=D.wf;simp only [Vb,Vf,Vd,and_true] at hv;obtain ⟨ar,aH⟩:=hv;have x6:ad T1 6=.ptr H.next 0:=(E.at_ 6 zU).trans (zV (aw hl j))
  have V:ad T1 10=.ptr P 0:=(E.at_ 10 zU).trans (zV (aw hl s));have R:=D.get pY;have cX:=D.get bj;have N:=a7.mono D.sub;obtain ⟨bb,dI⟩:∃ q,q=(G.take i).all fun g=>Lin.keepsP (a,t) g:=⟨_,rfl⟩
  rw [<- dI] at ar;by_cases hi:i<G.length
  ·have ab:(i:Int)<(G.length:Int):=zO;have ei:IntKind.i64.wrap ((i:Int)+1)=((i+1:Nat):Int):=by rw [wrap_i64] <;> omega
   obtain ⟨_,⟨w,rfl,U⟩,-,-,L⟩:=N.at (U7 hi);have L:bc X (some 2) (aA z (i*2))=some (.agg [.int .u8 (G[i].1:Int),w]):=L;have ix:cd 2 z (.int .i64 (i:Int))=some (aA z (i*2)):=SlV.idx N .i64 i hi;have aT:=ok.rowG _ (U9 hi);have ow:=U.one;have U:RowV X w G[i].2:=U;have bZ:(G.take (i+1)).all (fun g=>Lin.keepsP (a,t) g)=(bb && Lin.keepsP (a,t) G[i]):=by
    rw [Ve hi,List.all_append,dI]; simp
   cases bb with
   | false =>
    refine zW (jC y ar aH V R N.lenV hi ab) ?_;refine aF ?_;refine zX (lP y ar aH x6 V R cX ix L @aR ei) ?_;exact ⟨zK,k-1,zO,i+1,by rw [bZ]; rfl,zO⟩
   | true =>
    refine zW (jC y ar aH V R N.lenV hi ab) ?_;refine aF ?_;refine zX (np y ar aH x6 V R cX ix L @aR) ?_;refine AnsH.eq (kf (k:=G[i].1) (D.up _) (U.mono (Sub.bump X _)) aT.1 aT.2) fun X2 bv=>?_;have bA:Kp Y X2:=(D.up _).trans bv;have cF:=bA.wf;refine zX (lP y ar aH x6 V R cX ix L @aR ei) ?_;exact ⟨zK,k-1,zO,i+1,by rw [bZ]; rfl,zO⟩
  ·have ab:¬ (i:Int)<(G.length:Int):=zO;rw [Vt zO] at dI;refine zW (np y ar aH V R N.lenV hi ab @aC @bF) ?_;exact ⟨zK,by rw [dI]⟩
 rintro T1 X E ⟨kX,cJ⟩;have wX:=kX.wf;rw [dh] at cJ;have y:T1.length=149:=E.len.trans (zV hl);have x6:ad T1 6=.ptr H.next 0:=(E.at_ 6 zU).trans (zV (aw hl j))
 have x7:ad T1 7=.ptr (H.next+1) 0:=(E.at_ 7 zU).trans (zV (aw hl f));have V:ad T1 10=.ptr P 0:=(E.at_ 10 zU).trans (zV (aw hl s));have bL:ad T1 13=.ptr Q 0:=(E.at_ 13 zU).trans (zV (aw hl @g13));have cG:ad T1 15=.bool true:=(E.at_ 15 zU).trans (zV (aw hl @g15));have cI:ad T1 16=.int .i64 0:=(E.at_ 16 zU).trans (zV (aw hl b1));clear hl j f s g13 g15 b1 b2 E;refine bP (fun T' H'=>Kp Y H') rfl ?_ ?_
 ·refine zW y ?_;refine aP Y [19] (fun k vs _=>∃ i:Nat,vs=[.int .i64 (i:Int)]/\i+k=o.length) o.length (by simp only [U4]; exact y) rfl zK ⟨0,by refine zW y ?_; rfl,zO⟩ ?_;rintro k T2 X1 S F D ⟨i,hv,dL⟩;have dC:=D.wf;simp only [Vb,Vf,Vd,and_true] at hv;have y6:ad T2 6=.ptr H.next 0:=(F.at_ 6 zU).trans (zV (aw y x6))
  have W:ad T2 13=.ptr Q 0:=(F.at_ 13 zU).trans (zV (aw y bL));have qX:=D.get qY;have cX:=D.get bj;have N:=aO.mono D.sub;by_cases hi:i<o.length
  ·have ab:(i:Int)<(o.length:Int):=zO;have ei:IntKind.i64.wrap ((i:Int)+1)=((i+1:Nat):Int):=by rw [wrap_i64] <;> omega
   obtain ⟨_,⟨w,rfl,U⟩,-,-,L⟩:=N.at (U7 hi);have L:bc X1 (some 2) (aA ag (i*2))=some (.agg [.int .u8 (o[i].1:Int),w]):=L;have ix:cd 2 ag (.int .i64 (i:Int))=some (aA ag (i*2)):=SlV.idx N .i64 i hi;have aT:=bH.rowG _ (U9 hi);have ow:=U.one;have U:RowV X1 w o[i].2:=U;have bw:=de _ (U9 hi);refine zW (fE S hv W qX N.lenV hi ab) ?_;refine aF ?_;refine zD (jC S hv y6 W qX cX ix L) ?_;refine AnsH.eq (kf (k:=o[i].1) (D.up _) (U.mono (Sub.bump X1 _)) aT.1 aT.2) fun X2 bv=>?_;have bw:Lin.keepsP (a,t) (o[i].1,o[i].2)=true:=bw;rw [bw];have bA:Kp Y X2:=(D.up _).trans bv;have cF:=bA.wf;refine zD (jB S hv y6 W qX cX ix L ei) ?_;exact ⟨zK,k-1,zO,i+1,rfl,zO⟩
  ·have ab:¬ (i:Int)<(o.length:Int):=zO;refine zW (jB S hv W qX N.lenV hi ab @aC @bF) ?_;exact zK
 rintro T2 X2 F ae;have cF:=ae.wf;have S:T2.length=149:=F.len.trans (zV y);have y6:ad T2 6=.ptr H.next 0:=(F.at_ 6 zU).trans (zV (aw y x6))
 have y7:ad T2 7=.ptr (H.next+1) 0:=(F.at_ 7 zU).trans (zV (aw y x7));have bg:ad T2 10=.ptr P 0:=(F.at_ 10 zU).trans (zV (aw y V));have W:ad T2 13=.ptr Q 0:=(F.at_ 13 zU).trans (zV (aw y bL));have bQ:ad T2 15=.bool true:=(F.at_ 15 zU).trans (zV (aw y cG));have bS:ad T2 16=.int .i64 0:=(F.at_ 16 zU).trans (zV (aw y cI));have bh:ad T2 17=.bool (decide (K=I/\G=o)):=(F.at_ 17 zU).trans (zV (aw y cJ));clear y x6 x7 V bL cG cI F;have R:=ae.get pY;have qX:=ae.get qY;have ca:=bp.mono ae.sub;have ce:=a7.mono ae.sub;have b9:=bo.mono ae.sub;have cc:=aO.mono ae.sub;refine aG ?_;refine zW (jC S bg W bQ bS bh R qX) ?_;refine AnsH.eq (As C (n:=n) (n':=n) zF ⟨_,_,rfl,ca.mono (zG X2),ce.mono (zG X2)⟩ ⟨_,_,rfl,b9.mono (zG X2),cc.mono (zG X2)⟩ zO ok.smK zO ok.smG) fun X3 ck=>?_;have es:decide (n=n/\K=I/\G=o)=decide (K=I/\G=o):=by simp
 rw [es];have O:Kp Y X3:=ae.trans (Kp.trans zK ck);have dD:=O.wf;obtain ⟨bs,b8⟩:∃ q,q=decide (K=I/\G=o):=⟨_,rfl⟩
 rw [<- b8];rw [<- b8] at bh;have cO:bu .neq .bool (.bool bs) (.bool bs)=some (.bool false):=by cases bs <;> rfl
 refine zW (lP S bg W bQ bS bh R qX cO (bne_self_eq_false (α:=Bool)) @am) ?_;have dk:=O.get pY;have dl:=O.get qY;have b3:=O.get cL;have cU:=bp.mono O.sub;have c0:=a7.mono O.sub;have cV:=bo.mono O.sub;have c1:=aO.mono O.sub;have cf:=ch.mono O.sub;refine qk (fun T'=>T'.length=149/\ad T' 6=.ptr H.next 0/\ad T' 7=.ptr (H.next+1) 0/\ad T' 10=.ptr P 0/\ad T' 13=.ptr Q 0) (zV (bO S y6 y7 bg W)) ?_;clear S y6 y7 bg W bQ bS bh ck R qX ca ce b9 cc;rintro T ⟨hl,j,f,s,g13⟩;refine aG ?_;refine zW (bO hl f s dk b3) ?_;refine AnsH.eq (CF C (n:=n) zF ⟨_,_,rfl,cU.mono (zG X3),c0.mono (zG X3)⟩ ok (cf.mono (zG X3)) gg.1 bz) fun X4 cl=>?_;obtain ⟨ay,_,_⟩:=zT X3 zK cl;have cu:=O.trans ay;have dE:=cu.wf;have cC:=ay.get dl;have b4:=ay.get b3;refine zW (aw hl @am) ?_;refine aG ?_;refine zW (bO hl f @g13 cC b4) ?_;refine AnsH.eq (CF C (n:=n) zF ⟨_,_,rfl,(cV.mono ay.sub).mono (zG X4),(c1.mono ay.sub).mono (zG X4)⟩ bH ((cf.mono ay.sub).mono (zG X4)) gg.1 bz) fun X5 cm=>?_;obtain ⟨bB,_,_⟩:=zT X4 zK cm;have aD:=cu.trans bB;have dF:=aD.wf;have cD:=bB.get cC;have aY:=bB.get b4;have cM:=aD.get bj;have cb:=aO.mono aD.sub;have af:=cw.trans aD;refine zW (aw hl @am) ?_;refine qk (fun T'=>T'.length=149/\ad T' 6=.ptr H.next 0/\ad T' 7=.ptr (H.next+1) 0/\ad T' 13=.ptr Q 0/\ad T' 20=.bool (decide (bI n [e]=0) && Lin.inP [(e.1,e.2.map cB)] K)/\ad T' 21=.int .i64 (bI n [e])/\ad T' 22=.bool (decide (bI n [e]=0) && Lin.inP [(e.1,e.2.map cB)] I)/\ad T' 23=.int .i64 (bI n [e])) (zV (aW hl j f @g13)) ?_;clear hl j f s g13 cl cm;rintro T ⟨hl,j,f,g13,aa,aX,B,g23⟩;refine aG ?_;have tk:bM [AV.int .u8 (e.1:Int),wg] 0 none=some (.int .u8 (e.1:Int)):=rfl;by_cases q1:bI n [e]=0
 case neg =>
  refine zW (bO hl aX q1 @gS J) ?_;exact zK
 by_cases q2:(e.1:Int)=3
 case neg =>
  refine zW (jB hl f aX q1 aY tk q2 @gS J) ?_;exact zK
 have tq:bM [AV.int .i64 (n:Int),bf,ag] 2 none=some ag:=rfl;by_cases q3:o.length=0
 ·have bJ:(o.length:Int)=0:=zO;refine zW (E5 hl f @g13 aX q1 aY cD tk tq q2 cb.lenV bJ @gS J) ?_;exact zK
 have bJ:¬ (o.length:Int)=0:=zO;refine zW (E5 hl f @g13 aX q1 aY cD tk tq q2 cb.lenV bJ q3 @am) ?_;have bm:e.1=3:=zO;rcases JW (n:=n) gg.1 bz zO with h | ⟨aS,dn,a8,c3⟩
 ·exact absurd q1 h
 obtain ⟨r,hr⟩:∃ r,r=e.2.map cB:=⟨_,rfl⟩
 have aS:Lin.ValidG n [(e.1,e.2.map cB)]:=aS;have a8:Lin.Bd (2^64) (e.2.map cB):=a8;have cr:RowV Y wg (e.2.map cB):=SlV.int ch c3;rw [bm,<- hr] at aS;rw [<- hr] at a8 cr;have ax:r.length=n+1:=(aS _ (Vp.2 rfl)).1;have c8:0<Lin.hd1 r:=(aS _ (Vp.2 rfl)).2.1 rfl;rw [q1,bm,<- hr] at aa B;have aa:ad T 20=.bool (Lin.inP [(3,r)] K):=by rw [aa]; simp
 have B:ad T 22=.bool (Lin.inP [(3,r)] I):=by rw [B]; simp
 rw [dg ax c8] at B;rw [q1] at g23;refine aG ?_;cases hb:Lin.inP [(3,r)] K with
 | false =>
  rw [hb] at aa B;have B:ad T 22=.bool false:=B;have cN:bu .eql .bool (.bool false) (.bool false)=some (.bool true):=rfl;refine zW (fE hl aa B @g23 cN (beq_self_eq_true (α:=Bool)) @am) ?_;refine WC.wb ?_;refine zW (aw hl J) ?_;exact zK
 | true =>
  rw [hb] at aa B;obtain ⟨kk,cp⟩:∃ q,q=Lin.keepsP (a,t) (e.1,r):=⟨_,rfl⟩
  have B:ad T 22=.bool kk:=by rw [B,cp,bm]; rfl
  refine zW (jC hl j f aa B @g23 aY cM) ?_;refine AnsH.eq (kf (k:=e.1) (aD.up _) ((cr.mono aD.sub).mono (Sub.bump X5 _)) ax a8) fun X6 c6=>?_;rw [<- cp];have cv:Kp X5 X6:=Kp.trans zK c6;have dm:=cv.wf;have dp:=af.trans cv;have cP:bu .eql .bool (.bool kk) (.bool kk)=some (.bool true):=by cases kk <;> rfl
  refine zW (fE hl aa B @g23 cP (beq_self_eq_true (α:=Bool)) @am) ?_;refine WC.wb ?_;refine zW (aw hl J) ?_;exact zK
end
end Go.Proofs.YteaefaohjlmjdaaGreat.Ev
namespace Go.Proofs.YteaefaohjlmjdaaGreat.Ev
open Go Go.WideShapes Nn
section
variable {HT:Type} {enc:TypeId × Value->HT} {P:Program} {w:World} {base base':Nat} {sp:Nat->Bool} {held:Bool} {μ:Mu} {F:Nat->Prop} {H:Heap}
def Nd {a:List AV} {cs:Array Value} (h:LR μ F w a cs.toList):VR μ F w (.agg a) (.agg cs):=.agg a cs (by simpa using h.1) fun i c v h1 h2=>h.2 i c v h1 (by simpa using h2)
def open_con {tcs tc tvs tv ti te:TypeId} (b:ConTys P tcs tc tv) (j:RowTys P tvs tv ti te) (i:∀ c,c<w.heap.size->F c) {r:Reach} {v:Value} {d:DataW HT} {ps:List MemPlace} (hval:Value.okWide P w r base' tc v) (hd:DataW.Trod enc P w base sp held tc v d ps) :
  ∃ a z,VR μ F w (.agg a) v/\conQE.R H a z/\eI z.1:=by
 obtain ⟨f0,f1,k,-⟩:=b.c;obtain ⟨cs,rfl,m⟩:=okWide_struct k hval;obtain ⟨l,h⟩:=hd;obtain ⟨a,z,e,f,g⟩:=Fj (H:=H) (μ:=μ) b j i h;exact ⟨a,z,Nd e,f,g⟩
def open_gen {tgs tg tvs tv ti te:TypeId} (b:GenTys P tgs tg tv) (j:RowTys P tvs tv ti te) (i:∀ c,c<w.heap.size->F c) {r:Reach} {v:Value} {d:DataW HT} {ps:List MemPlace} (hval:Value.okWide P w r base' tg v) (hd:DataW.Trod enc P w base sp held tg v d ps) :
  ∃ a z,VR μ F w (.agg a) v/\genQE.R H a z/\eI z.2/\z.1<256:=by
 obtain ⟨f0,f1,k,-⟩:=b.g;obtain ⟨cs,rfl,m⟩:=okWide_struct k hval;obtain ⟨l,h⟩:=hd;obtain ⟨a,z,e,f,g⟩:=Nx (H:=H) (μ:=μ) b j i h;exact ⟨a,z,Nd e,f,g⟩
end
open Go
def N7 {P:Program}:Je P fo:=trivial
def Qt {P:Program} {w:World} (a:GlobW w):HR P (fun _=>none) (fun c=>c<w.heap.size) (Heap.nil 0) w:=by
 have h:=NE (P:=P) a;refine ⟨h.dom,fun c hc=>hc,fun b e hb=>?_,h.inj,fun g cs hg=>(h.gl g cs hg).mono (fun _ _ h=>h) (fun c hc=>h.fb c hc) fun _ _=>rfl⟩;rw [Tr.nil_get] at hb; cases hb
def open_calls {P:Program} (i:P.follows .mixedOrders=true) {tab:Nat->Option az} (j:Kl P tab) {f:Nat} {afn:az} (g:tab f=some afn) (d:afn.ext=none) {args:List AV} {vs:List Value} {w:World} (p:GlobW w)
  (hl:LR (fun _=>none) (fun c=>c<w.heap.size) w args vs) (h:Ans tab (.fn f args) (Heap.nil 0) fun v _=>v=.bool true) :
  Calls P f vs.toArray w fun e w'=>e=.returned (.bool true)/\w'.os=w.os/\w'.output=w.output/\w.heap.size<=w'.heap.size/\∀ c,c<w.heap.size->w'.heap[c]? = w.heap[c]?:=by
 obtain ⟨v,H',⟨N,q⟩,rfl⟩:=h;have h1:=q (N+1) (N+1) zO zO;simp only [mg,kn,g,d] at h1;obtain ⟨-,t⟩:=j f afn g;obtain ⟨fn,r,hc⟩:=t fun e h=>by rw [d] at h; cases h
 obtain ⟨l,m,n,o,-⟩:=EP hc d;have hH:=Qt (P:=P) p;have s:=qP (Ao N7 i j N) i r l m n o h1 hl hH 0 (fence:=Fence.wide) (rd:=false) (.inl ⟨rfl,rfl⟩);refine (s.calls fun k=>room_wide k).mono fun e w' ⟨u,he,μ',x,_,a⟩=>?_;cases x;refine ⟨he,a.os,a.out,a.size,fun c hc=>a.keep c hc fun b L ⟨e,h,_⟩=>?_⟩;rw [Tr.nil_get] at h; cases h
def Or {w w':World} (h1:w'.os=w.os) (h2:w'.output=w.output) (h:∀ c,c<w.heap.size->w'.heap[c]? = w.heap[c]?) (d:MemPlace->Prop):w.keptBut w' d:=by
 refine ⟨h1,h2,fun i hi=>?_⟩;rw [h i hi];split
 ·rename_i a b;cases a.symm.trans b;exact ⟨rfl,rfl,rfl,fun _ _=>rfl⟩
 ·rename_i a b;cases a.symm.trans b;exact .inr ⟨rfl,rfl⟩
 ·rfl
section
open Go.ChangeShapes Go.WideShapes Go.ChangeAt Go.RowKit
variable {HT:Type} {enc:TypeId × Value->HT} {P:Program}
def stays {t:TypeId} (hl:laidOutB P=true) (hr:P.readableRec t=true) (e:t<P.types.size) {W W':World} {sp:Nat->Bool} {v:Value} {d:DataW HT} {ps:List MemPlace}
  (h:DataW.Trod enc P W 0 (fun _=>true) true t v d ps) (a:∀ c,c<W.heap.size->W'.heap[c]? = W.heap[c]?) (hlt:∀ x∈ps,x.block<W.heap.size) (hs:∀ p∈ps,sp p.block=true):DataW.Trod enc P W' 0 sp true t v d ps :=
 WideElems.Trod_stays hl hr e h (fun p hp=>by
  have hb:=a p.block (hlt p hp);cases p with
  | cell b o=>exact World.cell?_of_block (w:=W) hb
  | map b=>exact hb) hs
def post_kept {f:Func} {s:ChangeSpec} {apart fresh k i:Bool} {W W':World} {args:Array Value} {v:Value} {ds gs:List (DataW HT)} {before:List MemPlace}
  (hW:DataW.Whole enc P f.params.toList s.vars apart W args.toList ds gs before)
  (g:∀ (b:Nat) (sp:Nat->Bool) (hd:Bool),DataW.TrodAll enc P W' b sp hd f.resultTypes.toList (v.resultList f.resultTypes.size) (s.fn HT (ds++gs)).results [])
  (hargs:∀ sp:Nat->Bool,(∀ p∈before,sp p.block=true)->DataW.TrodAll enc P W' 0 sp true f.params.toList args.toList (s.fn HT (ds++gs)).args before)
  (h:∀ sp:Nat->Bool,DataW.TrodVars enc P W' sp s.vars (s.fn HT (ds++gs)).vars [])
  (h1:W'.os=W.os) (h2:W'.output=W.output) (a:∀ c,c<W.heap.size->W'.heap[c]? = W.heap[c]?)
  (l:∀ (j:Nat) (t:TypeId) (r:Value),f.resultTypes[j]? = some t->(v.resultList f.resultTypes.size)[j]? = some r->Value.okWide P W' .any 0 t r) :
  s.post enc P f apart fresh k i W args v W':=by
 have m:∀ p∈before,(fun b=>decide (b<W.heap.size)) p.block=true:=fun p hp=>by simpa using hW.lt p hp
 have hlt:∀ p∈before,p.block<W.heap.size:=fun p hp=>hW.lt p hp;refine ⟨ds,gs,before,[],before,[],hW,g _ _ _,hargs _ m,h _,Or h1 h2 a _,fun _=>?_⟩;obtain ⟨_,_,_,_,e,n,hn⟩:=hW;refine ⟨l,_,_,([]++before)++[],⟨[]++before,[],trodAll_append (hargs _ (fun _ _=>rfl)) (g _ _ _),h _,rfl,?_,?_⟩,?_⟩
 ·intro b off hp;have d:MemPlace.cell b off∈before:=by simpa using hp
  have hb:=hlt _ d;rw [World.frozen?_of_block (w:=W) (a b hb)];exact n b off d
 ·intro ha
  have:=hn ha
  simpa using this
 ·intro p hp _
  simpa using hp
end
end Go.Proofs.YteaefaohjlmjdaaGreat.Ev
namespace Go.Proofs.YteaefaohjlmjdaaGreat.Ins224
open Go Go.RowKit Go.Lib Go.Proofs
variable {P:Program}
theorem tS:Tryz.prog.underlying 153=some (.slice 24):=by kernel_rfl
theorem iE:(Tryz.prog.info? 24).map (fun i=>(i.zero,i.size,i.bytes))=some (some (Value.slice none 0 0),1,24):=by kernel_rfl
def zE:∀ w,(Go.sizeOf 24).run Tryz.prog w=.ok 1 w:=fun w=>by
 obtain ⟨a,hi,h0,h1,h2⟩:=info_parts iE;simp [Go.sizeOf,typeInfo,hi,h1]
theorem tI:Tryz.prog.underlying 3=some (.int .i64):=by kernel_rfl
theorem Ej:Tryz.prog.follows .mixedOrders=true:=by kernel_rfl
def Dw (w:World) {o:Oper} {a:Act} {K:Act->World->Prop} {Q:Exit->Act->World->Prop} (d s:Operand) (t b:TypeId)
  (e:o.op=.call { callee:=.builtin .copy,args:=#[d,s],argTypes:=#[t,b] }) (v u:Value) (hd:a.eval d=v) (hs:a.eval s=u) {c:Value} {w':World}
  (hr:(Builtin.copy_ #[t,b] o.type #[v,u]).run P w=.ok c w') (h:K (a.put o.dst c) w'):o.wp P a w K Q:=by
 unfold Oper.wp execOp;simp only [e,resolve,invoke,builtin,Sem.run_bind,Sem.run_pure,Result.andThen_ok,List.map_toArray,Vb,Vf,hd,hs,hr];exact h
def kK (w:World) {ops:Array Oper} {rest:List Oper} {o:Oper} {a:Act} {Q:Exit->Act->World->Prop} (f:o.guard=none) (d s:Operand) (t b:TypeId)
  (g:o.op=.call { callee:=.builtin .copy,args:=#[d,s],argTypes:=#[t,b] }) (v u:Value) (hd:a.eval d=v) (hs:a.eval s=u) {c:Value} {w':World}
  (hr:(Builtin.copy_ #[t,b] o.type #[v,u]).run P w=.ok c w') (h:wpList P ops Q rest (a.put o.dst c) w'):wpList P ops Q (o :: rest) a w :=
 wpList_plain f fun _ e=>Dw w d s t b g v u hd hs hr (e _ _ h)
def qM {ops:Array Oper} {o:Oper} {a:Act} {w:World} {K:Act->World->Prop} {Q:Exit->Act->World->Prop} {E:Prop}
  (hg:o.guard=none) (d x:Operand) (b c:TypeId) (g:o.op=Op.call { callee:=Callee.builtin Builtin.copy,args:=#[d,x],argTypes:=#[b,c] })
  (v u:Value) (hd:a.eval d=v) (hx:a.eval x=u) {e:Value} {w':World} (hr:(Builtin.copy_ #[b,c] o.type #[v,u]).run P w=.ok e w') (f:K (a.put o.dst e) w') :
  if Region.wanted o (yielded ops a.tmps)=true then Oper.wp P o a w K Q else E:=by
 have h:Region.wanted o (yielded ops a.tmps)=true:=by simp [Region.wanted,hg]
 rw [if_pos h];unfold Oper.wp;simp [execOp,g,resolve,invoke,builtin,hd,hx,hr,Result.andThen];exact f
def qA (b:Nat) (vs:List Value) (o:Nat) (w:World) (h:∀ j,j<vs.length->(w.cell? ⟨b,o+j,none⟩).isSome=true) (k:Nat) (a:(w.cell? ⟨b,k,none⟩).isSome=true):((w.setCells b o vs).cell? ⟨b,k,none⟩).isSome=true:=by
 by_cases c:o<=k/\k<o+vs.length
 ·have:=World.cell?_setCells_in b vs o w h (k-o) zO
  rw [show o+(k-o)=k by omega] at this;rw [this]; rfl
 ·rw [World.cell?_setCells_out b vs o w ⟨b,k,none⟩ (fun _ _=>by show k<o\/o+vs.length<=k; omega)];exact a
set_option maxHeartbeats 4000000 in
set_option maxRecDepth 100000 in
def shift (b off n c i a f m o:Nat) (cs vs:List Value) (w:World) (hi:i<n) (hm:0<m) (af:n+m<=c) (ad:n+m<=9223372036854775807) (C:a≠b)
  (hcl:cs.length=n) (V:vs.length=m)
  (J:∀ j v,cs[j]? = some v->w.cell? ⟨b,off+j,none⟩=some v) (q:∀ j,j<n+m->(w.cell? ⟨b,off+j,none⟩).isSome=true) (A:∀ j,j<n+m->w.frozen? ⟨b,off+j,none⟩=false)
  (X:∀ j v,vs[j]? = some v->w.cell? ⟨a,f+j,none⟩=some v) (F:∀ v∈cs,v.oneCell'=true) (G:∀ v∈vs,v.oneCell'=true)
  (D E:TypeId) (r s:Nat) (R:w.shape? a=some (D,r)) (S:w.shape? b=some (E,s)) (P:s≠0) (L:w.frozen? ⟨a,f,none⟩=false) (M:w.frozen? ⟨a,r,none⟩=false) :
  Calls Tryz.prog 224 #[.slice (some ⟨b,off,none⟩) n c,.int .i64 i,.slice (some ⟨a,f,none⟩) m o] w fun e w' =>
   e=.returned (.slice (some ⟨b,off,none⟩) (n+m) c)/\w'=(w.drew.setCells b (off+(i+m)) (cs.drop i)).setCells b (off+i) vs:=by
 have ai:¬ ((m:Int)=0):=zO;have aj:¬ ((i:Int)=(n:Int)):=zO;have B:(Tryz.prog.info? 24).map (·.size)=some 1:=by
  obtain ⟨i0,N,h0,h1,h2⟩:=info_parts iE;rw [N]; simp [h1]
 have Q:∀ t p,(callFunc 234 #[.slice (some ⟨a,f,none⟩) m o,.slice (some ⟨b,off+(i+m),none⟩) t p]).run Tryz.prog w=.ok (.value (.bool false)) w:=fun t p=>by
  rw [run_callFunc_extern Tryz.func234 (by kernel_rfl) (by kernel_rfl) (by kernel_rfl) (e:=Extern.SlicesOverlaps.overlaps #[153,153] #[4]) (by kernel_rfl),
   Lib.run_overlaps_apart w 153 4 24 tS 1 zE ⟨a,f,none⟩ ⟨b,off+(i+m),none⟩ m o t p C D E r s R S P L M]
  rfl
 have K:(cs.drop i).length=n-i:=by rw [Wq,hcl]
 have ah:IntKind.i64.wrap ((i:Int)+(m:Int))=(i:Int)+(m:Int):=by rw [IntKind.wrap_i64]; omega
 have Y:(0:Int)<=(i:Int)+(m:Int):=zO;have ae:i<=n:=zO;have ag:((i:Int)+(m:Int)).toNat=i+m:=zO;have Z:¬ (c=i+m):=zO;have aa:(i:Int)<=(n:Int)+(m:Int):=zO;have ab:¬ (c=i):=zO;have z:∀ ty d u,(Builtin.copy_ #[153,153] ty #[.slice (some ⟨b,off+(i+m),none⟩) (n+m-(i+m)) d,.slice (some ⟨b,off+i,none⟩) (n+m-i) u]).run Tryz.prog w.drew=.ok (goInt (cs.drop i).length) (w.drew.setCells b (off+(i+m)) (cs.drop i)):=fun ty d u =>
  run_copy_cells w.drew _ _ ty 24 b (off+(i+m)) (n+m-(i+m)) d ⟨b,off+i,none⟩ (n+m-i) u (cs.drop i) tS B (by rw [K]; simp only [ZZ]; split <;> omega)
   (fun j v hj=>by rw [Addr.add_lit,Wj]; exact J (i+j) v (by rwa [Vz] at hj))
   (fun j hj=>by rw [Wj]; exact q _ zO) (fun j hj=>by rw [Wj]; exact A _ zO) (fun v U=>F v (XP U))
 obtain ⟨g,l⟩:∃ g,g=w.drew.setCells b (off+(i+m)) (cs.drop i):=⟨_,rfl⟩
 have T:∀ k,k<n+m->(g.cell? ⟨b,off+k,none⟩).isSome=true:=fun k O=>by
  rw [l];exact qA b _ _ _ (fun j hj=>by rw [Wj]; exact q _ zO) _ (q k O)
 have I:∀ (W:World),(∀ x,W.cell? x=g.cell? x)->(∀ x,W.frozen? x=g.frozen? x)->∀ ty d,(Builtin.copy_ #[153,153] ty #[.slice (some ⟨b,off+i,none⟩) (n+m-i) d,.slice (some ⟨a,f,none⟩) m o]).run Tryz.prog W=.ok (goInt vs.length) (W.setCells b (off+i) vs):=fun W y H ty d =>
  run_copy_cells W _ _ ty 24 b (off+i) (n+m-i) d ⟨a,f,none⟩ m o vs tS B (by rw [V]; simp only [ZZ]; split <;> omega)
   (fun j v hj=>by
    rw [Addr.add_lit,y,l,World.cell?_setCells_out b _ _ _ _ (fun h _=>absurd h C)];exact X j v hj)
   (fun j hj=>by rw [y,Wj]; exact T _ zO) (fun j hj=>by rw [H,l,World.frozen?_setCells,Wj]; exact A _ zO) G
 rw [<- l] at z;have mixed:=Ej
 go_enter Tryz.func224,Tryz.ntmps224
 go_wp2_with (simp only [Q])
 go_region_law_o (refine qM rfl _ _ 153 153 rfl _ _ (by simp [Act.eval,Act.put]) (by simp [Act.eval,Act.put]) (z _ _ _) ?_)
 go_wp2_with (at_builtin; refine kK _ rfl _ _ 153 153 rfl _ _ rfl rfl (I _ (fun _=>rfl) (fun _=>rfl) _ _) ?_)
 go_ret
 first | exact ⟨rfl,rfl⟩ | exact ⟨rfl,by rw [l]⟩
set_option maxHeartbeats 4000000 in
set_option maxRecDepth 100000 in
def end_room (b off n c a d m f:Nat) (vs:List Value) (w:World) (hm:0<m) (k:n+m<=c) (q:n+m<=9223372036854775807)
  (g:vs.length=m) (l:∀ j,j<m->(w.cell? ⟨b,off+n+j,none⟩).isSome=true) (i:∀ j,j<m->w.frozen? ⟨b,off+n+j,none⟩=false)
  (p:∀ j v,vs[j]? = some v->w.cell? ⟨a,d+j,none⟩=some v) (h:∀ v∈vs,v.oneCell'=true) :
  Calls Tryz.prog 224 #[.slice (some ⟨b,off,none⟩) n c,.int .i64 n,.slice (some ⟨a,d,none⟩) m f] w fun e w' =>
   e=.returned (.slice (some ⟨b,off,none⟩) (n+m) c)/\w'=w.setCells b (off+n) vs:=by
 have r:¬ ((m:Int)=0):=zO;have o:Src Tryz.prog 1 153 (.slice (some ⟨a,d,none⟩) m f) m vs w:=Src.ofSlice w tS ⟨a,d,none⟩ m f vs zO (fun j u hj=>by rw [Addr.add_lit]; exact p j u hj) h;have mixed:=Ej
 go_enter Tryz.func224,Tryz.ntmps224
 go_wp2_with (at_builtin; refine wpList_append_room1 _ rfl _ _ 153 153 rfl 24 _ _ tS iE b off n c rfl _ rfl m vs o k (by rw [g]; exact l) (by rw [g]; exact i) ?_)
 go_ret
 exact ⟨rfl,rfl⟩
set_option maxHeartbeats 4000000 in
set_option maxRecDepth 100000 in
def end_grow (base:Option Addr) (n c b d m f:Nat) (cs vs:List Value) (w:World) (hm:0<m) (D:n<=c) (i:c<n+m) (p:(n+m)*24<=140737488355328)
  (hcl:cs.length=n) (E:vs.length=m) (h:base=none->n=0)
  (q:∀ a,base=some a->∀ j v,cs[j]? = some v->w.cell? (a.add j)=some v)
  (x:∀ j v,vs[j]? = some v->w.cell? ⟨b,d+j,none⟩=some v) (o:∀ v∈vs,v.oneCell'=true) :
  Calls Tryz.prog 224 #[.slice base n c,.int .i64 n,.slice (some ⟨b,d,none⟩) m f] w fun e w' =>
   e=.returned (.slice (some ⟨w.heap.size,0,none⟩) (n+m) (grownCap w (n+m) c 24)) /\
   w'=w.drew.alloc (.cells ((cs++vs).toArray++Builtin.zeroCells (Value.slice none 0 0).cells (grownCap w (n+m) c 24-(n+m))) 24):=by
 obtain ⟨g,r,y,l,z⟩:=info_parts iE;have F:¬ ((m:Int)=0):=zO;have t:Src Tryz.prog g.size 153 (.slice (some ⟨b,d,none⟩) m f) m vs w:=by
  rw [l];exact Src.ofSlice w tS ⟨b,d,none⟩ m f vs zO (fun j u hj=>by rw [Addr.add_lit]; exact x j u hj) o
 have s:(Builtin.firstCells g.size n (.slice base n c)).run Tryz.prog w.drew=.ok cs.toArray w.drew:=by
  rw [l];cases base with
  | none =>
   have h0:=h rfl;subst h0;rw [Wd.1 hcl];exact run_firstCells_none w.drew 1 0 0 c
  | some a=>exact run_firstCells_some w.drew 1 n a n c cs zO (fun j v hj=>q a rfl j v hj)
 have k:∀ ty,(Builtin.append_ #[153,153] ty #[.slice base n c,.slice (some ⟨b,d,none⟩) m f]).run Tryz.prog w=_:=fun ty =>
  run_append_grow_src w 153 153 ty 24 g _ tS r y base n c cs s _ m vs t i zO (by rw [z]; exact growslice_fits i p)
 have mixed:=Ej
 go_enter Tryz.func224,Tryz.ntmps224
 cases base with
 | none =>
  have h0:=h rfl;subst h0
  go_wp2_with (at_builtin; refine Lib.wpList_append_run _ rfl _ _ _ _ rfl _ _ rfl rfl _ _ (k _) ?_)
  go_ret
  exact ⟨rfl,rfl⟩
 | some a =>
  obtain ⟨A,B,C⟩:=a
  go_wp2_with (at_builtin; refine Lib.wpList_append_run _ rfl _ _ _ _ rfl _ _ rfl rfl _ _ (k _) ?_)
  all_goals (go_ret; exact ⟨rfl,rfl⟩)
set_option maxHeartbeats 4000000 in
set_option maxRecDepth 100000 in
def grow (b off n c i f q m B:Nat) (cs vs:List Value) (w:World) (hi:i<n) (hm:0<m) (ar:n<=c) (ad:c<n+m) (Y:(n+m)*24<=140737488355328)
  (hcl:cs.length=n) (ae:vs.length=m)
  (y:∀ j v,cs[j]? = some v->w.cell? ⟨b,off+j,none⟩=some v)
  (J:∀ j v,vs[j]? = some v->w.cell? ⟨f,q+j,none⟩=some v) (N:∀ v∈cs,v.oneCell'=true) (O:∀ v∈vs,v.oneCell'=true) :
  Calls Tryz.prog 224 #[.slice (some ⟨b,off,none⟩) n c,.int .i64 i,.slice (some ⟨f,q,none⟩) m B] w fun e w' =>
   e=.returned (.slice (some ⟨w.heap.size,0,none⟩) (n+m) (grownCap w (n+m) c 24)) /\
   w'=(((w.alloc (.cells ((cs.take i).toArray++Builtin.zeroCells (Value.slice none 0 0).cells (n+m-i)++Builtin.zeroCells (Value.slice none 0 0).cells (grownCap w (n+m) c 24-(n+m))) 24)).drew.setCells w.heap.size i vs).drew).setCells w.heap.size (i+m) (cs.drop i):=by
 obtain ⟨M,E,ag,L,K⟩:=info_parts iE;have ax:¬ ((m:Int)=0):=zO;have ay:¬ ((i:Int)=(n:Int)):=zO;have aA:(c:Int)<(n:Int)+(m:Int):=zO;have I:(Tryz.prog.info? 24).map (·.size)=some 1:=by rw [E]; simp [L]
 have Z:b<w.heap.size:=block_lt_of_cell (y 0 _ (U7 zO));have af:f<w.heap.size:=block_lt_of_cell (J 0 _ (U7 zO));have F:(n:Int)+(m:Int)-(i:Int)=((n+m-i:Nat):Int):=zO;have z:i+(n+m-i)=n+m:=zO;have H:(Builtin.firstCells M.size i (.slice (some ⟨b,off,none⟩) i c)).run Tryz.prog w.drew=.ok (cs.take i).toArray w.drew:=by
  rw [L];exact run_firstCells_some w.drew 1 i ⟨b,off,none⟩ i c (cs.take i) (by rw [Vx]; omega) (fun j v hj=>by
   rw [Addr.add_lit];rw [Vy] at hj;split at hj
   ·exact y j v hj
   ·cases hj)
 have p:∀ ty,(Builtin.append_ #[153,3] ty #[.slice (some ⟨b,off,none⟩) i c,.int .i64 ((n:Int)+(m:Int)-(i:Int))]).run Tryz.prog w =
   .ok (.slice (some ⟨w.heap.size,0,none⟩) (n+m) (grownCap w (n+m) c 24)) (w.drew.alloc (.cells ((cs.take i).toArray++Builtin.zeroCells (Value.slice none 0 0).cells (n+m-i)++Builtin.zeroCells (Value.slice none 0 0).cells (grownCap w (n+m) c 24-(n+m))) 24)):=fun ty=>by
  have h:=Lib.run_append_grow_zeros w 153 3 ty 24 M _ .i64 .i64 tS tI E ag (some ⟨b,off,none⟩) i c (cs.take i) H (n+m-i) zO zO zO zO (by rw [K]; omega) (by rw [K,z]; exact growslice_fits ad Y);rw [z] at h;rw [F];exact h
 obtain ⟨G,o⟩:∃ G,G=grownCap w (n+m) c 24:=⟨_,rfl⟩
 obtain ⟨a,s⟩:∃ a:Array Value,a=(cs.take i).toArray++Builtin.zeroCells (Value.slice none 0 0).cells (n+m-i)++Builtin.zeroCells (Value.slice none 0 0).cells (G-(n+m)):=⟨_,rfl⟩
 rw [<- o] at p ⊢;rw [<- s] at p ⊢;have V:n+m<=a.size:=by
  rw [s];simp [Builtin.zeroCells,Value.cells];omega
 obtain ⟨d,k⟩:∃ d,d=w.drew.alloc (.cells a 24):=⟨_,rfl⟩
 rw [<- k] at p;have r:∀ j,j<n+m->(d.cell? ⟨w.heap.size,j,none⟩).isSome=true:=fun j hj=>by
  rw [k,World.cell?_alloc_at (w:=w.drew) a _ w.heap.size j rfl,Wn zO]; rfl
 have C:∀ j,d.frozen? ⟨w.heap.size,j,none⟩=false:=fun j=>by rw [k]; exact World.frozen?_alloc_at (w:=w.drew) a _ w.heap.size j rfl
 have T:∀ j v,w.cell? ⟨b,j,none⟩=some v->d.cell? ⟨b,j,none⟩=some v:=fun j v h=>by rw [k,World.cell?_alloc_past (w:=w.drew) _ b j Z]; exact h
 have U:∀ j v,w.cell? ⟨f,j,none⟩=some v->d.cell? ⟨f,j,none⟩=some v:=fun j v h=>by rw [k,World.cell?_alloc_past (w:=w.drew) _ f j af]; exact h
 have aa:∀ (W:World),(∀ x,W.cell? x=d.cell? x)->(∀ x,W.frozen? x=d.frozen? x)->∀ ty g,(Builtin.copy_ #[153,153] ty #[.slice (some ⟨w.heap.size,i,none⟩) (n+m-i) g,.slice (some ⟨f,q,none⟩) m B]).run Tryz.prog W=.ok (goInt vs.length) (W.setCells w.heap.size i vs):=fun W l u ty g =>
  run_copy_cells W _ _ ty 24 w.heap.size i (n+m-i) g ⟨f,q,none⟩ m B vs tS I (by rw [ae]; simp only [ZZ]; split <;> omega)
   (fun j v hj=>by rw [Addr.add_lit,l]; exact U _ v (J j v hj))
   (fun j hj=>by rw [l]; exact r _ zO) (fun j hj=>by rw [u]; exact C _) O
 have al:n+m<=G:=by rw [o]; exact grownCap_ge w _ _ _
 have ah:G<=9223372036854775807:=by
  have:=grownCap_le_maxLen w (n+m) c 24 (by unfold maxLen; omega)
  rw [<- o] at this;unfold maxLen at this;omega
 have ai:¬ (G=i):=zO;have aj:¬ (G=i+m):=zO;have ap:¬ (c=i):=zO;have X:b≠w.heap.size:=zO;have ab:(cs.drop i).length=n-i:=by rw [Wq,hcl]
 have D:∀ (W:World),(∀ x,W.cell? x=(d.setCells w.heap.size i vs).cell? x)->(∀ x,W.frozen? x=(d.setCells w.heap.size i vs).frozen? x)->∀ ty g A,(Builtin.copy_ #[153,153] ty #[.slice (some ⟨w.heap.size,i+m,none⟩) (n+m-(i+m)) g,.slice (some ⟨b,off+i,none⟩) (n-i) A]).run Tryz.prog W=.ok (goInt (cs.drop i).length) (W.setCells w.heap.size (i+m) (cs.drop i)):=fun W l u ty g A =>
  run_copy_cells W _ _ ty 24 w.heap.size (i+m) (n+m-(i+m)) g ⟨b,off+i,none⟩ (n-i) A (cs.drop i) tS I (by rw [ab]; simp only [ZZ]; split <;> omega)
   (fun j v hj=>by
    rw [Addr.add_lit,l,World.cell?_setCells_out _ _ _ _ _ (fun h _=>absurd h X),Wj];exact T _ v (y (i+j) v (by rwa [Vz] at hj)))
   (fun j hj=>by rw [l]; exact qA _ _ _ _ (fun t ht=>r _ zO) _ (r _ zO))
   (fun j hj=>by rw [u,World.frozen?_setCells]; exact C _) (fun v hv=>N v (XP hv))
 subst k;have P:∀ x,((w.alloc (.cells a 24)).drew).cell? x=(w.drew.alloc (.cells a 24)).cell? x:=fun x=>rfl;have Q:∀ x,((w.alloc (.cells a 24)).drew).frozen? x=(w.drew.alloc (.cells a 24)).frozen? x:=fun x=>rfl;have R:∀ x,(((w.alloc (.cells a 24)).drew.setCells w.heap.size i vs).drew).cell? x=((w.drew.alloc (.cells a 24)).setCells w.heap.size i vs).cell? x:=fun x=>rfl;have S:∀ x,(((w.alloc (.cells a 24)).drew.setCells w.heap.size i vs).drew).frozen? x=((w.drew.alloc (.cells a 24)).setCells w.heap.size i vs).frozen? x:=fun x=>rfl;have aw:IntKind.i64.wrap ((i:Int)+(m:Int))=(i:Int)+(m:Int):=by rw [IntKind.wrap_i64]; omega
 have am:(0:Int)<=(i:Int)+(m:Int):=zO;have aq:i<=n:=zO;have av:((i:Int)+(m:Int)).toNat=i+m:=zO;have ao:(i:Int)<=(n:Int):=zO;clear F z H s o V;have mixed:=Ej
 go_enter Tryz.func224,Tryz.ntmps224
 go_wp2_with (first
  | (at_builtin; refine Lib.wpList_append_run _ rfl _ _ _ _ rfl _ _ rfl rfl _ _ (p _) ?_)
  | (at_builtin; refine kK _ rfl _ _ 153 153 rfl _ _ rfl rfl (aa _ P Q _ _) ?_)
  | (at_builtin; refine kK _ rfl _ _ 153 153 rfl _ _ rfl rfl (D _ (fun _=>rfl) (fun _=>rfl) _ _ _) ?_))
 go_region_law_o (refine qM rfl _ _ 153 153 rfl (.slice (some ⟨w.heap.size,i+m,none⟩) (n+m-(i+m)) (G-(i+m))) (.slice (some ⟨b,off+i,none⟩) (n-i) (c-i)) (by simp [Act.eval,Act.put]) (by simp [Act.eval,Act.put]) (D _ R S 3 (G-(i+m)) (c-i)) ?_)
 go_wp2
 go_ret
 exact ⟨rfl,rfl⟩
end Go.Proofs.YteaefaohjlmjdaaGreat.Ins224
namespace Go.Proofs.YteaefaohjlmjdaaGreat.Ev.Ok224
open Go Go.Proofs.YteaefaohjlmjdaaGreat.Ev
def tn (A:Array Value):Nat->List Value->Array Value
 | _,[]=>A
 | o,v :: r=>tn (A.setIfInBounds o v) (o+1) r
def jt:∀ (vs:List Value) (o:Nat) (A:Array Value),(tn A o vs).size=A.size
 | [],o,A=>rfl
 | v :: r,o,A=>by rw [tn,jt r]; simp
def oX:∀ (vs:List Value) (o:Nat) (A:Array Value) (j:Nat),j<A.size->(tn A o vs)[j]? = if o<=j/\j<o+vs.length then vs[j-o]? else A[j]?
 | [],o,A,j,hj=>by rw [tn,if_neg (by simp only [Xs]; omega)]
 | v :: r,o,A,j,hj=>by
  rw [tn,oX r (o+1) _ j (by simpa using hj)];by_cases h1:o+1<=j/\j<o+1+r.length
  ·rw [if_pos h1,if_pos (by simp; omega),show j-o=(j-(o+1))+1 by omega,WJ]
  ·rw [if_neg h1];by_cases h2:j=o
   ·subst h2;rw [if_pos (by simp),Y5,Wx,Array.getElem?_setIfInBounds_self_of_lt hj]
   ·rw [if_neg (by simp; omega),Array.getElem?_setIfInBounds_ne zO]
def nz (b:Nat):∀ (vs:List Value) (o:Nat) (w:World) (arr:Array Value) (ty:TypeId) (fr:Nat × Nat),w.heap[b]? = some (.cells arr ty fr) ->
  (w.setCells b o vs).heap[b]? = some (.cells (tn arr o vs) ty fr)/\(∀ c,c≠b->(w.setCells b o vs).heap[c]? = w.heap[c]?)/\(w.setCells b o vs).heap.size=w.heap.size /\
   Tp w (w.setCells b o vs)/\(w.setCells b o vs).os=w.os/\(w.setCells b o vs).output=w.output
 | [],o,w,arr,ty,fr,h=>⟨h,fun _ _=>rfl,rfl,Tp.same rfl rfl,rfl,rfl⟩
 | v :: r,o,w,arr,ty,fr,h=>by
  have h1:(w.setCell ⟨b,o,none⟩ v).heap[b]? = some (.cells (arr.setIfInBounds o v) ty fr):=by
   simp [World.setCell,Xh,h]
  obtain ⟨k1,k2,a,d,e,f⟩:=nz b r (o+1) (w.setCell ⟨b,o,none⟩ v) _ ty fr h1;refine ⟨k1,fun c hc=>(k2 c hc).trans ?_,a.trans ?_,(Tp.same rfl rfl).trans d,e,f⟩
  ·simp [World.setCell,Xh,Ne.symm hc]
  ·simp [World.setCell]
def nl (w:World) (ty:TypeId):∀ (vs:List Value) (o:Nat) (A:Array Value),(w.alloc (.cells A ty)).setCells w.heap.size o vs=w.alloc (.cells (tn A o vs) ty)
 | [],o,A=>rfl
 | v :: r,o,A=>by
  have h1:(w.alloc (.cells A ty)).setCell ⟨w.heap.size,o,none⟩ v=w.alloc (.cells (A.setIfInBounds o v) ty):=by
   simp only [World.setCell,World.alloc];congr 1
   apply Zb
   intro j;rw [Xh];by_cases hj:w.heap.size=j
   ·subst hj; simp
   ·rw [if_neg hj,XX,XX,if_neg (Ne.symm hj),if_neg (Ne.symm hj)]
  rw [World.setCells,h1,nl w ty r (o+1) _]; rfl
section
variable {P:Program} {μ:Mu} {F:Nat->Prop} {H:Heap} {w:World}
def A4 {μ':Mu} {H':Heap} {w':World} (h:Stp (fun x=>x=H.next) P μ F { H with next:=H.next+1 } w μ' F H' w'):Stp sZ P μ F H w μ' F H' w' :=
 ⟨h.mu,h.fr,h.size,h.keep,h.rw,Vn (VL _ _) h.next,fun b hb _ hn=>h.new b (Vu hb (VL _ _)) zO hn,h.rng,
  fun b e hb hl _=>h.old b e hb (Vu hl (VL _ _)) zO,h.alv,h.tape,h.os,h.out⟩
def JS {ty:Nat} {cs:List AV} {V:List Value} {A:Array Value} {w1:World} {k cap':Nat} {a:Heap} (hH:HR P μ F a w) (o:a.next=H.next+1) (e:μ H.next=none) (hs:sizeOf? P ty=some 1)
  (hl:LR μ F w cs V) (f:V.length=k) (hA:∀ j,j<k->A[j]? = V[j]?) (d:k<=cap') (m:A.size=cap')
  (h1:w1.heap=w.heap) (n:Tp w w1) (g:w1.os=w.os) (l:w1.output=w.output) :
  ∃ μ',VR μ' F (w1.alloc (.cells A ty)) (.own H.next 0 k k 1 false) (.slice (some ⟨w.heap.size,0,none⟩) k cap')/\HR P μ' F (a.put H.next (.cells cs ty true)) (w1.alloc (.cells A ty)) /\
   Stp (fun x=>x=H.next) P μ F a w μ' F (a.put H.next (.cells cs ty true)) (w1.alloc (.cells A ty)):=by
 have hcl:cs.length=k:=hl.1.trans f;obtain ⟨q1,q2⟩:=mz (I:=fun x=>x=H.next) hH e zO rfl (sz:=1) (arr:=A) (cs:=cs) hs zO
  (fun i c v hc b=>by
   have hi:i<k:=by rw [<- hcl]; exact (Vl.1 hc).1
   rw [hA i hi] at b;exact hl.2 i c v hc b) w1 h1 n g l
 exact ⟨_,.own H.next 0 k k 1 false _ cap' (upd_same _ _) rfl (Vc _) d (fun h=>by cases h) (by simp [m]),q1,q2⟩
def QK {b ty:Nat} {L:BZ} {a cs:List AV} {V:List Value} {A:Array Value} {w':World} {k cap:Nat} (hH:HR P μ F H w) (hb:H.get b=some (.cells a ty true)) (hL:μ b=some L) (o:L.sz=1)
  (hl:LR μ F w cs V) (s:V.length=k) (hA:∀ j,j<k->A[j]? = V[j]?) (q:k<=cap) (B:A.size=L.N) (N:cap<=L.N)
  (D:w'.heap[L.blk]? = some (.cells A ty (0,0))) (u:∀ c,c≠L.blk->w'.heap[c]? = w.heap[c]?) (z:w'.heap.size=w.heap.size) (C:Tp w w') (t:w'.os=w.os) (y:w'.output=w.output) :
  ∃ μ',VR μ' F w' (.own H.next 0 k k 1 false) (.slice (some ⟨L.blk,0,none⟩) k cap)/\HR P μ' F (({ H with next:=H.next+1 }.kill b).put H.next (.cells cs ty true)) w' /\
   Stp sZ P μ F H w μ' F (({ H with next:=H.next+1 }.kill b).put H.next (.cells cs ty true)) w':=by
 have hcl:cs.length=k:=hl.1.trans s;have r:μ H.next=none:=kS hH (Vc _)
 have n:=hH.bump 1;have p:({ H with next:=H.next+1 }:Heap).get b=some (.cells a ty true):=hb;obtain ⟨arr,fr,E,G,g,J,K,l,M⟩:=gB hH hb hL;obtain ⟨p1,p2⟩:=jq (I:=fun x=>x=H.next) (e:=.cells cs ty true) n p rfl hL w' u z C t y
  (fun m=>⟨A,(0,0),D,B,g,zO,fun i c v hc d=>by
   have hi:i<k:=by rw [<- hcl]; exact (Vl.1 hc).1
   rw [hA i hi] at d;exact (hl.2 i c v hc d).mono (fun _ _ h=>h) (fun _ h=>h) m,fun _=>⟨(l rfl).1,rfl⟩,fun h=>by cases h⟩) rfl
 obtain ⟨q4,q5⟩:=vA (I:=fun x=>x=H.next) p1 (b:=b) (id:=H.next) (L:=L) (by rw [Heap.get_put,if_pos rfl]) hL r (by show H.next<H.next+1; omega) rfl;refine ⟨μ.upd H.next L,.own H.next 0 k k 1 false L cap (upd_same _ _) o (Vc _) q (fun h=>by cases h) (by simp; omega),?_,?_⟩
 ·refine q4.congr rfl fun x=>?_;simp only [Heap.get_put,Heap.get_kill];split
  ·rfl
  ·split
   ·rfl
   ·rename_i hx; rfl
 ·refine A4 ((p2.trans q5).congr rfl fun x e he=>⟨e,?_,rfl⟩);simp only [Heap.get_put,Heap.get_kill] at he ⊢;split at he
  ·rename_i hx; rw [if_pos hx]; exact he
  ·rename_i hx;rw [if_neg hx];split at he
   ·cases he
   ·rename_i f; rw [if_neg f,if_neg f]; exact he
end
def vQ {vs:List Value} {w:World} {F:Fence} {rd:Bool} {n:Nat} {R:Value->World->Prop} (a:FenceOK F rd) (h:Calls Tryz.prog 224 vs.toArray w fun e w'=>∃ u,e=.returned u/\R u w'):Runs F n Tryz.prog ((callFunc 224 vs.toArray).run Tryz.prog w) R:=by
 rw [sP (P:=Tryz.prog) (f:=224) Tryz.func224 (by kernel_rfl) (of_decide_eq_true (by kernel_rfl))];unfold Runs;simp only;have key:CallsIn Fence.wide n Tryz.prog 224 vs.toArray w fun e w'=>∃ u,e=.returned u/\R u w':=callsIn_wide.2 h;rcases a with ⟨_,rfl⟩ | ⟨_,l,rfl⟩
 ·exact key
 ·exact key
def vG {w:World} {b:Nat} {arr:Array Value} {ty:TypeId} (h:w.heap[b]? = some (.cells arr ty (0,0))) (o:Nat):w.frozen? ⟨b,o,none⟩=false:=by
 simp [World.frozen?,h]
def QL {H H':Heap} {size bytes ty:Nat} {args:List AV} {v:AV} (h:vW H (.insert size bytes ty) args=some (v,H')) :
  (∃ d f m e g IP a,args=[.nilSl,.int .i64 (.ofNat 0),.own d f m e g IP]/\aQ H size m (.own d f m e g IP)=some a/\0<m/\m*bytes<=2^46/\m<2^62/\a.all AV.one=true /\
   v=.own H.next 0 m m size false/\H'=({ H with next:=H.next+1 }:Heap).put H.next (.cells a ty true)) \/
  (∃ b n c ex i d f m e g IP a cs q ty2,args=[.own b 0 n c size ex,.int .i64 (.ofNat i),.own d f m e g IP]/\aQ H size m (.own d f m e g IP)=some a/\H.get b=some (.cells cs ty true)/\H.get d=some (.cells q ty2 true) /\
   b≠d/\0<m/\i<=n/\cs.length=n*size/\(n+m)*bytes<=2^46/\n+m<2^62/\a.all AV.one=true/\cs.all AV.one=true /\
   v=.own H.next 0 (n+m) (n+m) size false/\H'=(({ H with next:=H.next+1 }:Heap).kill b).put H.next (.cells (cs.take (i*size)++a++cs.drop (i*size)) ty true)):=by
 unfold vW at h;split at h
 all_goals first | contradiction | skip
 ·rename_i heq;cases heq;split at h
  ·rename_i a r;split at h
   ·rename_i hc;obtain ⟨j,k,l,o,p⟩:=hc;cases h;subst j;exact .inl ⟨_,_,_,_,_,_,a,rfl,r,k,l,o,p,rfl,rfl⟩
   ·cases h
  ·cases h
 ·rename_i heq;cases heq;split at h
  ·rename_i a cs A q ty2 r hb z;split at h
   ·rename_i hc;obtain ⟨j,k,l,o,p,u,w,x,y,s,t⟩:=hc;cases h;subst j;subst k;subst y;exact .inr ⟨_,_,_,_,_,_,_,_,_,_,_,a,cs,q,ty2,rfl,r,hb,z,l,o,p,u,w,x,s,t,rfl,rfl⟩
   ·cases h
  ·cases h
 all_goals (cases h)
def Gf {P:Program} {μ:Mu} {F:Nat->Prop} {H:Heap} {w:World} {f a m p t:Nat} {IP:Bool} {s:List AV} {z:Value} (hH:HR P μ F H w) (C:VR μ F w (.own f a m p t IP) z) (e:aQ H 1 m (.own f a m p t IP)=some s) :
  ∃ d n b ty2 g o l,μ f=some d/\z=.slice (some ⟨d.blk,a,none⟩) m n/\H.get f=some (.cells o ty2 l)/\w.heap[d.blk]? = some (.cells b ty2 g)/\a+m<=b.size/\(l=true->g=(0,0)) /\
   ((b.toList.drop a).take m).length=m/\LR μ F w s ((b.toList.drop a).take m)/\∀ j u,((b.toList.drop a).take m)[j]? = some u->w.cell? ⟨d.blk,a+j,none⟩=some u:=by
 cases C with
 | own _ _ _ _ _ _ d n k1 k2 L M N O =>
 simp only [aQ] at e;split at e
 ·rename_i o ty2 l r;split at e
  ·rename_i y;obtain ⟨D,E,e3⟩:=y;cases e;obtain ⟨b,g,q,G,I,J,v,x,K⟩:=gB hH r k1;have B:((b.toList.drop a).take m).length=m:=by simp; omega
   refine ⟨d,n,b,ty2,g,o,l,k1,rfl,r,q,zO,fun h=>(x h).2,B,⟨by simp; omega,fun i c u hi k=>?_⟩,fun j u hj=>?_⟩
   ·rw [Vy] at hi k;rw [WF] at hi;split at hi
    ·rename_i A;rw [if_pos A] at k;rw [Vz] at hi k;exact v _ c u hi (by simpa using k)
    ·cases hi
   ·rw [qc q];rw [Vy] at hj;split at hj
    ·rw [Vz] at hj; simpa using hj
    ·cases hj
  ·cases e
 ·cases e
def Qs {μ:Mu} {F:Nat->Prop} {w:World} {b n c sz:Nat} {ex:Bool} {x:Value} (h:VR μ F w (.own b 0 n c sz ex) x):∃ L cap,μ b=some L/\L.sz=sz/\n<=c/\c<=cap/\cap*sz<=L.N/\x=.slice (some ⟨L.blk,0,none⟩) n cap:=by
 cases h with
 | own _ _ _ _ _ _ L cap k1 k2 a d e f=>exact ⟨L,cap,k1,k2,a,d,zO,rfl⟩
def zZ {μ:Mu} {F:Nat->Prop} {w:World} {vs:List Value} {a b c:AV} (h:LR μ F w [a,b,c] vs):∃ x y z,vs=[x,y,z]/\VR μ F w a x/\VR μ F w b y/\VR μ F w c z:=by
 have hl:=h.1
 match vs,hl with
 | [x,y,z],_=>exact ⟨x,y,z,rfl,h.head,h.tail.head,h.tail.tail.head⟩
set_option maxRecDepth 100000 in
def extOK_insert:ExtOK Tryz.prog 224 (.insert 1 24 24):=by
 intro H args v H' h μ F w vs fence rd nn J hH hl;have af:sizeOf? Tryz.prog 24=some 1:=by
  obtain ⟨i0,hi,h0,h1,h2⟩:=info_parts Ins224.iE;simp [sizeOf?,hi,h1]
 have ae:μ H.next=none:=kS hH (Vc _)
 have K:∀ k,(Builtin.zeroCells (Value.slice none 0 0).cells k).size=k:=fun k=>by rw [zb]; simp [Value.cells]
 rcases QL h with ⟨b2,f,m,c2,ao,IP,S,rfl,X,h1,h2,h3,U,rfl,rfl⟩ | ⟨b,n,c,ex,i,b2,f,m,c2,ao,IP,S,cs,ah,ty2,rfl,X,hb,ad,h1,h2,h3,U,h5,h6,N,h8,rfl,rfl⟩
 ·obtain ⟨x,y,z,rfl,hx,hy,hz⟩:=zZ hl;cases hx;cases hy;obtain ⟨o,t,q,ty2,ai,ah,am,k1,rfl,k3,M,g2,-,s,p,B⟩:=Gf hH hz X;refine vQ J ((Ins224.end_grow none 0 0 o.blk f m t [] ((q.toList.drop f).take m) w h1 (Vc _) zO zO rfl s (fun _=>rfl) (fun a h=>by cases h) B (p.one U)).mono fun e w' ⟨he,g⟩=>?_);subst g;rw [VN] at he;have hge:=Go.grownCap_ge w m 0 24;simp only [VN,Xt];obtain ⟨μ',q1,q2,q3⟩:=JS (P:=Tryz.prog) (H:=H) (A:=((q.toList.drop f).take m).toArray++Builtin.zeroCells (Value.slice none 0 0).cells (grownCap w m 0 24-m)) (w1:=w.drew) (k:=m) (cap':=grownCap w m 0 24) (hH.bump 1) rfl ae af p s
   (fun j hj=>by rw [Wv (by simp [s]; omega)]; simp) hge (by simp only [Xn,XE,s,K]; omega) rfl Tp.draw rfl rfl
  exact ⟨_,he,μ',q1,q2,A4 q3⟩
 ·obtain ⟨x,y,z,rfl,hx,hy,hz⟩:=zZ hl;obtain ⟨L,cap,r1,r2,r3,r4,r5,rfl⟩:=Qs hx;cases hy;obtain ⟨o,t,q,aq,ai,ap,am,k1,rfl,k3,M,g2,aj,s,p,B⟩:=Gf hH hz X;rw [ad] at k3;cases k3;have al:=aj rfl;subst al;obtain ⟨arr,fr,p1,p2,p3,p4,p5,p6,p7⟩:=gB hH hb r1;obtain ⟨-,rfl⟩:=p6 rfl;rw [WF] at U r5;have hne:o.blk≠L.blk:=fun e=>h1 (hH.inj b b2 _ _ L o hb ad r1 k1 e.symm);have Z:(arr.toList.take n).length=n:=by simp; omega
  have Q:LR μ F w cs (arr.toList.take n):=by
   refine ⟨by simp; omega,fun i c u hi R=>?_⟩;rw [Vy] at R;split at R
   ·exact p5 i c u hi (by simpa using R)
   ·cases R
  have V:∀ j u,(arr.toList.take n)[j]? = some u->w.cell? ⟨L.blk,0+j,none⟩=some u:=fun j u hj=>by
   rw [qc p1,VN];rw [Vy] at hj;split at hj
   ·simpa using hj
   ·cases hj
  have hV:LR μ F w (cs.take (i*1)++S++cs.drop (i*1)) ((arr.toList.take n).take i++(q.toList.drop f).take m++(arr.toList.take n).drop i):=by
   rw [WF];exact ((Q.take i).append p).append (Q.drop i)
  have aa:((arr.toList.take n).take i++(q.toList.drop f).take m++(arr.toList.take n).drop i).length=n+m:=by
   simp only [Vr,Vx,Wq,s,Z]
   have:=Z
   rw [Vx] at this;omega
  generalize hC:arr.toList.take n=C at *
  generalize hD:(q.toList.drop f).take m=D at *
  have d:=Z;have l:=s;have ab:∀ j,j<n->arr[j]? = C[j]?:=fun j hj=>by rw [<- hC,Vy,if_pos hj]; simp
  have O:∀ j,j<n+m->(C.take i++D++C.drop i)[j]? = if j<i then C[j]? else if j<i+m then D[j-i]? else C[j-m]?:=by
   intro j hj;have r:(C.take i).length=i:=by rw [Vx]; omega
   by_cases q1:j<i
   ·rw [if_pos q1,VK (by rw [Vr,r]; omega),VK zO,Vy,if_pos q1]
   ·rw [if_neg q1];by_cases q2:j<i+m
    ·rw [if_pos q2,VK (by rw [Vr,r]; omega),V5 zO,r]
    ·rw [if_neg q2,V5 (by rw [Vr,r]; omega),Vr,r,Vz];congr 1; omega
  have ag:∀ j,j<cap->(w.cell? ⟨L.blk,0+j,none⟩).isSome=true:=fun j hj=>by
   rw [qc p1,VN,Wn zO]; rfl
  by_cases Y:n+m<=cap
  ·
   have fin:∀ (A:Array Value) (w':World),A.size=L.N->(∀ j,j<n+m->A[j]? = (C.take i++D++C.drop i)[j]?)->w'.heap[L.blk]? = some (.cells A 24 (0,0))->(∀ c,c≠L.blk->w'.heap[c]? = w.heap[c]?)->w'.heap.size=w.heap.size->Tp w w'->w'.os=w.os->w'.output=w.output ->
     ∃ μ',iV sZ Tryz.prog μ F H w (.own H.next 0 (n+m) (n+m) 1 false) (({ H with next:=H.next+1 }:Heap).kill b |>.put H.next (.cells (cs.take (i*1)++S++cs.drop (i*1)) 24 true)) (.slice (some ⟨L.blk,0,none⟩) (n+m) cap) w' μ':=by
    intro A w' E G a3 a4 a5 T a7 a8;obtain ⟨μ',q1,q2,q3⟩:=QK (P:=Tryz.prog) (A:=A) (w':=w') (k:=n+m) (cap:=cap) hH hb r1 r2 hV aa G Y E r5 a3 a4 a5 T a7 a8;exact ⟨μ',q1,q2,q3⟩
   by_cases W:i=n
   ·subst W;refine vQ J ((Ins224.end_room L.blk 0 i cap o.blk f m t D w h2 Y zO l (fun j hj=>by rw [Wj]; exact ag _ zO) (fun j _=>vG p1 _) B (p.one N)).mono fun e w' ⟨he,g⟩=>?_);subst g;obtain ⟨s1,s2,s3,s4,s5,s6⟩:=nz L.blk D (0+i) w arr 24 (0,0) p1;obtain ⟨μ',hd⟩:=fin _ _ ((jt _ _ _).trans p2) (fun j hj=>by
     rw [oX _ _ _ _ zO,O j hj,l,VN];by_cases q1:j<i
     ·rw [if_neg zO,if_pos q1,ab j q1]
     ·rw [if_pos zO,if_neg q1,if_pos zO]) s1 s2 s3 s4 s5 s6
    exact ⟨_,he,μ',hd⟩
   ·refine vQ J ((Ins224.shift L.blk 0 n cap i o.blk f m t C D w zO h2 Y zO hne d l V (fun j hj=>ag j zO) (fun j _=>vG p1 _) B (Q.one h8) (p.one N)
     ty2 24 q.size arr.size (by simp [World.shape?,M]) (by simp [World.shape?,p1]) zO (vG M _) (vG M _)).mono fun e w' ⟨he,g⟩=>?_)
    subst g;obtain ⟨s1,s2,s3,s4,s5,s6⟩:=nz L.blk (C.drop i) (0+(i+m)) w.drew arr 24 (0,0) p1;obtain ⟨t1,t2,t3,t4,t5,t6⟩:=nz L.blk D (0+i) _ _ 24 (0,0) s1;obtain ⟨μ',hd⟩:=fin _ _ (by rw [jt,jt]; exact p2) (fun j hj=>by
     rw [oX _ _ _ _ (by rw [jt]; omega),oX _ _ _ _ zO,O j hj,l,VN,VN,Wq,d];by_cases q1:j<i
     ·rw [if_neg zO,if_neg zO,if_pos q1,ab j zO]
     ·by_cases q2:j<i+m
      ·rw [if_pos zO,if_neg q1,if_pos q2]
      ·rw [if_neg zO,if_pos zO,if_neg q1,if_neg q2,Vz];congr 1; omega) t1 (fun c hc=>(t2 c hc).trans (s2 c hc)) (t3.trans s3) ((Tp.draw.trans s4).trans t4) (t5.trans s5) (t6.trans s6)
    exact ⟨_,he,μ',hd⟩
  ·
   have hge:=Go.grownCap_ge w (n+m) cap 24;obtain ⟨z1,z2⟩:=uG (I:=fun x=>x=H.next) (hH.bump 1) b;have fin:∀ (A:Array Value) (w1:World),A.size=grownCap w (n+m) cap 24->(∀ j,j<n+m->A[j]? = (C.take i++D++C.drop i)[j]?)->w1.heap=w.heap->Tp w w1->w1.os=w.os->w1.output=w.output ->
     ∃ μ',iV sZ Tryz.prog μ F H w (.own H.next 0 (n+m) (n+m) 1 false) (({ H with next:=H.next+1 }:Heap).kill b |>.put H.next (.cells (cs.take (i*1)++S++cs.drop (i*1)) 24 true)) (.slice (some ⟨w.heap.size,0,none⟩) (n+m) (grownCap w (n+m) cap 24)) (w1.alloc (.cells A 24)) μ':=by
    intro A w1 E G a3 a4 a5 T;obtain ⟨μ',q1,q2,q3⟩:=JS (P:=Tryz.prog) (H:=H) (A:=A) (w1:=w1) (k:=n+m) (cap':=grownCap w (n+m) cap 24) z1 rfl ae af hV aa G hge E a3 a4 a5 T;exact ⟨μ',q1,q2,A4 (z2.trans q3)⟩
   by_cases W:i=n
   ·subst W;refine vQ J ((Ins224.end_grow (some ⟨L.blk,0,none⟩) i cap o.blk f m t C D w h2 zO zO zO d l (fun h=>by cases h) (fun a ha j u hj=>by cases ha; rw [kg]; exact V j u hj) B (p.one N)).mono fun e w' ⟨he,g⟩=>?_);subst g;obtain ⟨μ',hd⟩:=fin ((C++D).toArray++Builtin.zeroCells (Value.slice none 0 0).cells (grownCap w (i+m) cap 24-(i+m))) w.drew (by simp only [Xn,XE,Vr,d,l,K]; omega) (fun j hj=>by
     rw [Wv (by simp [d,l]; omega),O j hj];have e0:(C++D).toArray[j]? = (C++D)[j]?:=by simp
     rw [e0];by_cases q1:j<i
     ·rw [if_pos q1,VK zO]
     ·rw [if_neg q1,if_pos zO,V5 zO,d]) rfl Tp.draw rfl rfl
    exact ⟨_,he,μ',hd⟩
   ·refine vQ J ((Ins224.grow L.blk 0 n cap i o.blk f m t C D w zO h2 zO zO zO d l V B (Q.one h8) (p.one N)).mono fun e w' ⟨he,g⟩=>?_);have r:∀ A:Array Value,(((w.alloc (.cells A 24)).drew.setCells w.heap.size i D).drew).setCells w.heap.size (i+m) (C.drop i)=w.drew.drew.alloc (.cells (tn (tn A i D) (i+m) (C.drop i)) 24):=fun A=>by
     have E:(w.alloc (.cells A 24)).drew=w.drew.alloc (.cells A 24):=rfl;have G:(w.drew.alloc (.cells A 24)).setCells w.heap.size i D=w.drew.alloc (.cells (tn A i D) 24):=nl w.drew 24 D i A;have a3:(w.drew.alloc (.cells (tn A i D) 24)).drew=w.drew.drew.alloc (.cells (tn A i D) 24):=rfl;rw [E,G,a3];exact nl w.drew.drew 24 (C.drop i) (i+m) (tn A i D)
    rw [r] at g;subst g;obtain ⟨μ',hd⟩:=fin (tn (tn ((C.take i).toArray++Builtin.zeroCells (Value.slice none 0 0).cells (n+m-i)++Builtin.zeroCells (Value.slice none 0 0).cells (grownCap w (n+m) cap 24-(n+m))) i D) (i+m) (C.drop i)) w.drew.drew (by
      rw [jt,jt];simp only [Xn,XE,Vx,d,K]; omega) (fun j hj=>by
     have hA0:((C.take i).toArray++Builtin.zeroCells (Value.slice none 0 0).cells (n+m-i)++Builtin.zeroCells (Value.slice none 0 0).cells (grownCap w (n+m) cap 24-(n+m))).size=grownCap w (n+m) cap 24:=by
      simp only [Xn,XE,Vx,d,K]; omega
     rw [oX _ _ _ _ (by rw [jt,hA0]; omega),oX _ _ _ _ (by rw [hA0]; omega),O j hj,l,Wq,d];by_cases q1:j<i
     ·rw [if_neg zO,if_neg zO,if_pos q1,Wv (by simp only [Xn,XE,Vx,d,K]; omega),Wv (by simp only [XE,Vx,d]; omega)];simp [q1]
     ·by_cases q2:j<i+m
      ·rw [if_neg zO,if_pos zO,if_neg q1,if_pos q2]
      ·rw [if_pos zO,if_neg q1,if_neg q2,Vz];congr 1; omega) rfl (Tp.draw.trans Tp.draw) rfl rfl
    exact ⟨_,he,μ',hd⟩
end Go.Proofs.YteaefaohjlmjdaaGreat.Ev.Ok224
namespace Go.Proofs.YteaefaohjlmjdaaGreat.Ev.So156
open Go Go.RowKit Go.Sort Go.Shelf Go.Lib Go.Proofs.YteaefaohjlmjdaaGreat.Ev
set_option maxRecDepth 100000
def HI:Go.Shelf.Ren:=⟨fun | 6=>156 | 15=>190 | 14=>189 | 28=>216 | 29=>217 | 20=>208 | 21=>209 | 22=>210 | 23=>211 | 24=>212 | 25=>213 | 26=>214 | 27=>215 | 46=>229 | 47=>230 | 48=>231 | 49=>232 | 50=>233 | 57=>239 | n=>n,fun | 22=>153 | 24=>24 | 25=>123 | 3=>3 | 39=>220 | 0=>0 | 53=>252 | 55=>115 | 4=>4 | 46=>245 | 45=>244 | 50=>249 | 5=>5 | 9=>9 | 66=>265 | 70=>269 | 76=>276 | 77=>277 | n=>n,fun | n=>n⟩
def NF:Go.Proofs.SlLaysF.n6 Tryz.prog HI:={
 mixed:=by kernel_rfl
 f6:=⟨Tryz.f156.name,by decide,Tryz.func156.trans (congrArg some (by kernel_rfl))⟩
 f14:=⟨Tryz.f189.name,by decide,Tryz.func189.trans (congrArg some (by kernel_rfl))⟩
 f15:=Tryz.func190.trans (congrArg some (by kernel_rfl))
 f20:=⟨Tryz.f208.name,by decide,Tryz.func208.trans (congrArg some (by kernel_rfl))⟩
 f21:=⟨Tryz.f209.name,by decide,Tryz.func209.trans (congrArg some (by kernel_rfl))⟩
 f22:=⟨Tryz.f210.name,by decide,Tryz.func210.trans (congrArg some (by kernel_rfl))⟩
 f23:=⟨Tryz.f211.name,by decide,Tryz.func211.trans (congrArg some (by kernel_rfl))⟩
 f24:=⟨Tryz.f212.name,by decide,Tryz.func212.trans (congrArg some (by kernel_rfl))⟩
 f25:=⟨Tryz.f213.name,by decide,Tryz.func213.trans (congrArg some (by kernel_rfl))⟩
 f26:=⟨Tryz.f214.name,by decide,Tryz.func214.trans (congrArg some (by kernel_rfl))⟩
 f27:=⟨Tryz.f215.name,by decide,Tryz.func215.trans (congrArg some (by kernel_rfl))⟩
 f28:=Tryz.func216.trans (congrArg some (by kernel_rfl))
 f29:=Tryz.func217.trans (congrArg some (by kernel_rfl))
 f46:=⟨Tryz.f229.name,by decide,Tryz.func229.trans (congrArg some (by kernel_rfl))⟩
 f47:=Tryz.func230.trans (congrArg some (by kernel_rfl))
 f48:=Tryz.func231.trans (congrArg some (by kernel_rfl))
 f49:=⟨Tryz.f232.name,by decide,Tryz.func232.trans (congrArg some (by kernel_rfl))⟩
 f50:=⟨Tryz.f233.name,by decide,Tryz.func233.trans (congrArg some (by kernel_rfl))⟩
 f57:=⟨Tryz.f239.name,by decide,Tryz.func239.trans (congrArg some (by kernel_rfl))⟩
 t0:=Tryz.underlying0
 a0:=Tryz.isAgg0
 z0:=Tryz.sizeOf0
 v0:=Tryz.zeroValue0
 t3:=Tryz.underlying3
 a3:=Tryz.isAgg3
 z3:=Tryz.sizeOf3
 v3:=Tryz.zeroValue3
 t4:=Tryz.underlying4
 a4:=Tryz.isAgg4
 z4:=Tryz.sizeOf4
 v4:=Tryz.zeroValue4
 t5:=Tryz.underlying5
 a5:=Tryz.isAgg5
 z5:=Tryz.sizeOf5
 v5:=Tryz.zeroValue5
 t9:=Tryz.underlying9
 a9:=Tryz.isAgg9
 z9:=Tryz.sizeOf9
 v9:=Tryz.zeroValue9
 t22:=Tryz.underlying153
 a22:=Tryz.isAgg153
 z22:=Tryz.sizeOf153
 v22:=Tryz.zeroValue153
 a24:=Tryz.isAgg24
 z24:=Tryz.sizeOf24
 t25:=Tryz.underlying123
 a25:=Tryz.isAgg123
 z25:=Tryz.sizeOf123
 v25:=Tryz.zeroValue123
 t39:=Tryz.underlying220
 a39:=Tryz.isAgg220
 z39:=Tryz.sizeOf220
 v39:=Tryz.zeroValue220
 t45:=Tryz.underlying244
 a45:=Tryz.isAgg244
 z45:=Tryz.sizeOf244
 v45:=Tryz.zeroValue244
 t46:=Tryz.underlying245
 a46:=Tryz.isAgg245
 z46:=Tryz.sizeOf245
 v46:=Tryz.zeroValue245
 t50:=Tryz.underlying249
 a50:=Tryz.isAgg249
 z50:=Tryz.sizeOf249
 v50:=Tryz.zeroValue249
 t53:=Tryz.underlying252
 a53:=Tryz.isAgg252
 z53:=Tryz.sizeOf252
 v53:=Tryz.zeroValue252
 t55:=Tryz.underlying115
 a55:=Tryz.isAgg115
 z55:=Tryz.sizeOf115
 v55:=Tryz.zeroValue115
 t66:=Tryz.underlying265
 a66:=Tryz.isAgg265
 z66:=Tryz.sizeOf265
 v66:=Tryz.zeroValue265
 t70:=Tryz.underlying269
 a70:=Tryz.isAgg269
 z70:=Tryz.sizeOf269
 v70:=Tryz.zeroValue269
 t76:=Tryz.underlying276
 a76:=Tryz.isAgg276
 z76:=Tryz.sizeOf276
 v76:=Tryz.zeroValue276
 t77:=Tryz.underlying277
 a77:=Tryz.isAgg277
 z77:=Tryz.sizeOf277
 v77:=Tryz.zeroValue277 }
def Sg:Jd Tryz.prog 156 [157]:=by
 refine ⟨⟨Tryz.f156,Tryz.func156,by kernel_rfl,by decide +kernel⟩,trivial,?_,?_,?_⟩
 ·intro g hg args w;simp only [VF,List.not_mem_nil,or_false] at hg;subst hg;exact enters_of Tryz.func157 (by kernel_rfl) rfl args w
 ·intro p cap d w;exact AnyF.slices_SortFunc_none { NF with } p cap d w
 ·intro k enc b g a blk cap w hg h1 e hT i hH f j;have c:∀ args w,(callFunc g args).run Tryz.prog w=.ok (.enter g args) w:=by
   intro args w;simp only [VF,List.not_mem_nil,or_false] at hg;subst hg;exact enters_of Tryz.func157 (by kernel_rfl) rfl args w
  have hs:(List.finRange (k+1)).toArray.size=k+1:=by simp
  have h:=Any.slices_SortFunc_total NF enc h1 b e g a blk 0 cap (List.finRange (k+1)).toArray w c (by rw [hs]; exact i) hH f (by rw [hs]; exact j) hT;rw [hs] at h
  change Calls Tryz.prog 156 _ _ _ at h
  exact h
def extOK:ExtOK Tryz.prog 156 (.sortF 24 [157]):=Sg
end Go.Proofs.YteaefaohjlmjdaaGreat.Ev.So156
namespace Go.Proofs.YteaefaohjlmjdaaGreat.Ev
open Go
set_option maxRecDepth 1000000
set_option maxHeartbeats 8000000
def look:List (Nat × az)->Nat->Option az
 | [],_=>none
 | p :: r,f=>if f=p.1 then some p.2 else look r f
def F6:∀ {L:List (Nat × az)} {f:Nat} {a:az},look L f=some a->(f,a)∈L
 | p :: r,f,a,h=>by
  unfold look at h;split at h
  ·rename_i e; cases h; subst e; exact Vm ..
  ·exact Vi _ (F6 h)
def au {f:Nat} {fn:Func} {a:az} (b:Tryz.prog.funcs[f]? = some fn) (hc:SV Tryz.prog fn=some a:=by kernel_rfl) (he:a.ext.isNone=true:=by rfl):Hg Tryz.prog f a:=NA b hc he
abbrev Rw (l:List (Nat × az)):Prop:=∀ p∈l,Hg Tryz.prog p.1 p.2
def MF:Rw []:=fun p hp=>by cases hp
def bh {f:Nat} {a:az} {l:List (Nat × az)} (h:Hg Tryz.prog f a) (hl:Rw l):Rw ((f,a) :: l):=List.forall_mem_cons.2 ⟨h,hl⟩
def UK:List (Nat × az):=[(d9,c_facetroomlaw22_PolyMeets),(fV,jZ),(gL,kF),(dZ,ip),(dW,io),(nC,yI),(fN,jT),(xl,C8),(dJ,jS),(gC,kr),(mZ,BE),(fj,i9),(hZ,lJ),(rl,yJ),(rm,yK),(pK,wC),(iQ,mc),(pa,De),(fU,jY),(fP,jV)]
def UJ:List (Nat × az):=[(pL,wD),(cT,eM),(fO,jU),(mY,rW),(pJ,wB),(iB,wA),(fh,i8),(fz,jx),(gD,kv),(nE,yU),(AK,GN),(cL,eD),(rx,yS),(cM,eE),(uv,BA),(fX,j9),(fl,tX),(lz,yQ),(oG,c_dual_points),(ru,yR)]
def UI:List (Nat × az):=[(ry,yT),(rk,yH),(fQ,jW),(gY,lD),(eQ,iH),(eP,iG),(fW,j8),(fk,tW),(m6,BJ),(rv,c_dual_cons),(bX,fc),(bY,fd),(AM,GP),(pE,wn),(eW,iL),(bV,de),(eU,iK),(rt,yP),(rA,c_cone_Gens),(bT,da)]
def UH:List (Nat × az):=[(kQ,pm),(pP,wH),(ia,rZ),(h9,rY),(aY,bL),(aX,bJ),(sG,C6),(pF,wq),(fS,c_facetroomref02_Times),(g8,c_facetroomref01_Sum),(eR,c_facetroomref01_Compared),(gJ,c_facetroomref01_Rest),(gE,kw),(eT,iJ),(bU,db),(eS,iI),(ux,BD),(pM,BF),(nB,yG),(ct,dC)]
def UG:List (Nat × az):=[(nd,c_cone_checked),(rz,yX),(uE,BR),(dg,c_P_cone_under_add),(mX,rV),(oC,tQ),(dF,dH),(jN,r8),(cp,dz),(oj,tJ),(oi,tH),(xf,C4),(lh,tG),(pD,wm),(fC,jy),(fR,c_facetroomref02_whole),(fT,jX),(gZ,lH),(iO,l8),(gH,kz)]
def UF:List (Nat × az):=[(iP,l9),(gK,c_facetroomref01_From),(gF,ky),(cq,dB),(bj,cj),(jH,wt),(cG,gu),(cu,dE),(mU,rT),(mh,wz),(gN,kJ),(jm,c_P_cone_under_cut),(iR,c_P_cone_under_fold),(oA,tO),(jl,nk),(uw,BC),(xh,C7),(rf,yB),(rh,yD),(nD,yN)]
def UE:List (Nat × az):=[(gI,kC),(du,fH),(cJ,eB),(pS,BQ),(lA,yV),(ft,mf),(nF,yW),(pQ,BN),(pR,BO),(nA,yE),(cS,eJ),(cK,eC),(gO,c_P_rows_form_put),(ri,yF),(pI,wy),(mV,rU),(mQ,BB),(ol,tK),(bf,bZ),(pH,wx)]
def UD:List (Nat × az):=[(lV,qB),(xp,Dc),(qZ,yy),(rj,c_sat_Signs),(uD,BP),(re,yA),(xg,C5),(mR,rR),(oB,tP),(cI,eA),(oo,tM),(mS,rS),(ot,tN),(cE,fI),(rg,yC),(iN,l7),(oE,tU),(xn,Da),(xm,C9),(pG,ww)]
def UC:List (Nat × az):=[(xq,Dd),(oh,tF),(fy,pk),(rc,yz),(pO,wF),(rr,yO),(xo,Db),(uA,BI),(AN,GR),(oD,tT),(pN,wE),(jM,nU),(jI,nQ),(oF,tV),(xu,Df),(kP,pj),(jJ,nR),(uz,BH),(rp,yL),(oH,tY)]
def UB:List (Nat × az):=[(uC,BM),(dV,im),(AL,GO),(gM,kI),(ib,lM),(ic,lO),(uB,BL),(uy,BG),(gW,rX),(cV,fe),(jL,nT),(jK,nS),(rq,yM),(bg,dL)]
def UZ:Rw UK:=bh (au Tryz.func3)<|bh (au Tryz.func7)<|bh (au Tryz.func8)<|bh (au Tryz.func9)<|bh (au Tryz.func10)<|bh (au Tryz.func11)<|bh (au Tryz.func12)<|bh (au Tryz.func13)<|bh (au Tryz.func14)<|bh (au Tryz.func15)<|bh (au Tryz.func16)<|bh (au Tryz.func30)<|bh (au Tryz.func31)<|bh (au Tryz.func32)<|bh (au Tryz.func33)<|bh (au Tryz.func34)<|bh (au Tryz.func35)<|bh (au Tryz.func36)<|bh (au Tryz.func37)<|bh (au Tryz.func38)<|MF
def UY:Rw UJ:=bh (au Tryz.func39)<|bh (au Tryz.func40)<|bh (au Tryz.func41)<|bh (au Tryz.func42)<|bh (au Tryz.func43)<|bh (au Tryz.func44)<|bh (au Tryz.func46)<|bh (au Tryz.func45)<|bh (au Tryz.func47)<|bh (au Tryz.func48)<|bh (au Tryz.func26)<|bh (au Tryz.func76)<|bh (au Tryz.func62)<|bh (au Tryz.func77)<|bh (au Tryz.func29)<|bh (au Tryz.func78)<|bh (au Tryz.func79)<|bh (au Tryz.func80)<|bh (au Tryz.func82)<|bh (au Tryz.func81)<|MF
def UX:Rw UI:=bh (au Tryz.func83)<|bh (au Tryz.func84)<|bh (au Tryz.func86)<|bh (au Tryz.func85)<|bh (au Tryz.func87)<|bh (au Tryz.func88)<|bh (au Tryz.func89)<|bh (au Tryz.func90)<|bh (au Tryz.func91)<|bh (au Tryz.func92)<|bh (au Tryz.func113)<|bh (au Tryz.func114)<|bh (au Tryz.func75)<|bh (au Tryz.func74)<|bh (au Tryz.func116)<|bh (au Tryz.func115)<|bh (au Tryz.func117)<|bh (au Tryz.func118)<|bh (au Tryz.func119)<|bh (au Tryz.func120)<|MF
def UW:Rw UH:=bh (au Tryz.func121)<|bh (au Tryz.func122)<|bh (au Tryz.func123)<|bh (au Tryz.func125)<|bh (au Tryz.func126)<|bh (au Tryz.func127)<|bh (au Tryz.func68)<|bh (au Tryz.func128)<|bh (au Tryz.func132)<|bh (au Tryz.func129)<|bh (au Tryz.func130)<|bh (au Tryz.func131)<|bh (au Tryz.func133)<|bh (au Tryz.func135)<|bh (au Tryz.func134)<|bh (au Tryz.func136)<|bh (au Tryz.func124)<|bh (au Tryz.func112)<|bh (au Tryz.func56)<|bh (au Tryz.func149)<|MF
def UV:Rw UG:=bh (au Tryz.func150)<|bh (au Tryz.func151)<|bh (au Tryz.func152)<|bh (au Tryz.func153)<|bh (au Tryz.func154)<|bh (au Tryz.func155)<|bh (sw rfl rfl So156.extOK)<|bh (au Tryz.func157)<|bh (au Tryz.func159)<|bh (au Tryz.func94)<|bh (au Tryz.func98)<|bh (au Tryz.func97)<|bh (au Tryz.func64)<|bh (au Tryz.func139)<|bh (au Tryz.func167)<|bh (au Tryz.func168)<|bh (au Tryz.func161)<|bh (au Tryz.func162)<|bh (au Tryz.func163)<|bh (au Tryz.func164)<|MF
def UU:Rw UF:=bh (au Tryz.func165)<|bh (au Tryz.func166)<|bh (au Tryz.func169)<|bh (au Tryz.func170)<|bh (au Tryz.func160)<|bh (au Tryz.func104)<|bh (au Tryz.func148)<|bh (au Tryz.func99)<|bh (au Tryz.func100)<|bh (au Tryz.func181)<|bh (au Tryz.func182)<|bh (au Tryz.func185)<|bh (au Tryz.func186)<|bh (au Tryz.func187)<|bh (au Tryz.func188)<|bh (au Tryz.func70)<|bh (au Tryz.func158)<|bh (au Tryz.func69)<|bh (au Tryz.func71)<|bh (au Tryz.func105)<|MF
def UT:Rw UE:=bh (au Tryz.func193)<|bh (au Tryz.func140)<|bh (au Tryz.func137)<|bh (au Tryz.func184)<|bh (au Tryz.func183)<|bh (au Tryz.func197)<|bh (au Tryz.func198)<|bh (au Tryz.func200)<|bh (au Tryz.func199)<|bh (au Tryz.func201)<|bh (au Tryz.func203)<|bh (au Tryz.func202)<|bh (au Tryz.func204)<|bh (au Tryz.func205)<|bh (au Tryz.func207)<|bh (au Tryz.func206)<|bh (au Tryz.func95)<|bh (au Tryz.func108)<|bh (au Tryz.func191)<|bh (au Tryz.func192)<|MF
def US:Rw UD:=bh (au Tryz.func106)<|bh (au Tryz.func107)<|bh (au Tryz.func110)<|bh (au Tryz.func219)<|bh (au Tryz.func220)<|bh (au Tryz.func221)<|bh (au Tryz.func55)<|bh (au Tryz.func222)<|bh (au Tryz.func223)<|bh (sw rfl rfl Ok224.extOK_insert)<|bh (au Tryz.func225)<|bh (au Tryz.func226)<|bh (au Tryz.func228)<|bh (au Tryz.func109)<|bh (au Tryz.func102)<|bh (au Tryz.func142)<|bh (au Tryz.func141)<|bh (au Tryz.func143)<|bh (au Tryz.func144)<|bh (au Tryz.func96)<|MF
def UR:Rw UC:=bh (au Tryz.func236)<|bh (au Tryz.func227)<|bh (au Tryz.func238)<|bh (au Tryz.func138)<|bh (au Tryz.func171)<|bh (au Tryz.func172)<|bh (au Tryz.func174)<|bh (au Tryz.func173)<|bh (au Tryz.func175)<|bh (au Tryz.func176)<|bh (au Tryz.func177)<|bh (sw rfl rfl (Gt Tryz.func178 (by kernel_rfl) (by kernel_rfl) (by kernel_rfl) (by kernel_rfl)))<|bh (sw rfl rfl (Gs Tryz.func179 (by kernel_rfl) (by kernel_rfl) (by kernel_rfl) (by kernel_rfl)))<|bh (au Tryz.func241)<|bh (au Tryz.func242)<|bh (au Tryz.func237)<|bh (au Tryz.func194)<|bh (au Tryz.func195)<|bh (au Tryz.func196)<|bh (au Tryz.func244)<|MF
def UQ:Rw UB:=bh (au Tryz.func245)<|bh (au Tryz.func246)<|bh (au Tryz.func247)<|bh (au Tryz.func248)<|bh (au Tryz.func249)<|bh (au Tryz.func250)<|bh (au Tryz.func252)<|bh (au Tryz.func251)<|bh (au Tryz.func218)<|bh (au Tryz.func253)<|bh (au Tryz.func254)<|bh (au Tryz.func217)<|bh (au Tryz.func255)<|bh (au Tryz.func256)<|MF
def Se:List (Nat × az):=UK++UJ++UI++UH++UG++UF++UE++UD++UC++UB
def Qe {l m:List (Nat × az)} (h:Rw l) (h2:Rw m):Rw (l++m):=fun p hp=>(Vq.1 hp).elim (h p) (h2 p)
def P9:Rw Se:=(Qe (Qe (Qe (Qe (Qe (Qe (Qe (Qe (Qe UZ UY) UX) UW) UV) UU) UT) US) UR) UQ)
def tabOK:Kl Tryz.prog (look Se):=fun _ _ h=>P9 _ (F6 h)
theorem code:Code (look Se):=by constructor <;> kernel_rfl
end Go.Proofs.YteaefaohjlmjdaaGreat.Ev
