/- A part. -/
import Derived.Test.YteaefaohjlmjdaaGreatA0
import Derived.Test.YteaefaohjlmjdaaGreatPoly2
import Derived.Test.YteaefaohjlmjdaaGreatN38
import Derived.Test.YteaefaohjlmjdaaGreatN48
import Derived.WideShapes
import Derived.Test.YteaefaohjlmjdaaGreatEvDraw5
import Derived.KernelRfl
import Derived.WalkKit
import Derived.ProofKit
import Derived.Test.YteaefaohjlmjdaaGreatProg
import Derived.Lib.Walk
import Derived.Lib.SliceRun
import Derived.Lib.JoinLaws
import Derived.Lib.AppendZeros
import Derived.Lib.AppendZerosOnto
import Derived.Lib.Overlaps
import Derived.Laws.Externs
import Derived.Laws.IdiomCopy
import Derived.Laws.NewBlocks
import Derived.Shelf.RegionOpenPlain
import Derived.Shelf.SlSortCmp.NoneTotal
import Derived.Ground.SlsfProg
import Derived.Test.YteaefaohjlmjdaaGreatKit
set_option linter.all false
namespace Go.Proofs.YteaefaohjlmjdaaGreat.Ev
open Go Nn
section
variable {tab:Nat->Option aA} {H:Heap}
def Uq {a b c d e f x1 g x3 x4 x5 x6:AV} {ty:Nat} (h1:One x1) (h2:One g) (h3:One x3) (h4:One x4) (h5:One x5) (h6:One x6):CS (some (.cells [a,b,c,d,e,f] ty true)) 6 0 (.agg [x1,g,x3,x4,x5,x6])=some (.cells [x1,g,x3,x4,x5,x6] ty true):=by
 simp [CS,AV.cells,h1.2,h2.2,h3.2,h4.2,h5.2,h6.2]
def UO {a b:AV} (ha:One a) (hb:One b):cB [.bool false,.bool false,.nilSl] [((1,2),.agg [a,b])]=some [.bool false,a,b]:=by simp [cB,ha.1,ha.2,hb.1,hb.2,AV.cells]
def Vk {a b:AV} (ha:One a) (hb:One b):cE [.bool false,.bool false,.nilSl] [((1,2),.agg [a,b])]=some (.agg [.bool false,a,b]):=by
 have:=UO ha hb
 simp [cE,this]
def Ph (C:Code tab) (e:Wf H) {v:AV} {z:Int} (hz:IntV H v z) (j:(ah z.natAbs).length<1099511627776) :
  Ans tab (.fn BL [v]) H fun r H'=>(∃ p,r=.agg [.bool false,.bool (decide (z<0)),p]/\bO H' p z.natAbs)/\Kp H H':=by
 obtain ⟨p,rfl,hp⟩:=hz;have op:=hp.one;have bx:=HN (ai (decide (z<0))) op;refine cT C.q76 (by decide) fun T hl c=>?_;refine zW (aD hl c bx) ?_;obtain ⟨X,a⟩:∃ h,h=(((H.up 2).put H.next (.cells [.bool (decide (z<0)),p] aa true)).put (H.next+1) (.cells [.bool false,.bool false,.nilSl] bu true)):=⟨_,rfl⟩
 rw [<- a];have f0:H.get H.next=none:=e.fresh zO
 have f1:H.get (H.next+1)=none:=e.fresh zO;have l:Sub H X:=by rw [a]; exact ((Sub.bump H 2).put f0 _).put f1 _
 have f:Kp H X:=by rw [a]; exact zK
 have d0:X.get H.next=some (.cells [.bool (decide (z<0)),p] aa true):=by rw [a,au zO,al]
 have d1:X.get (H.next+1)=some (.cells [.bool false,.bool false,.nilSl] bu true):=by rw [a,al]
 clear a;have o:=f.wf;refine aF ?_;refine zD (aO hl c d0 @ap) ?_;refine AnsH.use (ie C zF (hp.mono (l.trans (Sub.bump X 8))) j) ?_;rintro q H2 ⟨d,k⟩;obtain ⟨k2,_,w2⟩:=zT X zK k;have e0:=k2.get d0;have b:=k2.get d1;have g:=d.one;have n:=w2 _ _ b;have m:=f.trans k2;have i:=Sg (x:=.bool false) (y:=.nilSl) (ai (decide (z<0))) g;have f3:=Vk (ai (decide (z<0))) g;refine zD (jU hl c d0 e0 b i f3 @jj @ap) ?_;exact ⟨⟨q,rfl,d.monoT (SubT.put_ty b (by decide))⟩,zK⟩
def Vj {a b c d e f:AV} (ha:One a) (hb:One b) (hc:One c) (hd:One d) (he:One e) (g:One f):cE [.bool false,.bool false,.nilSl,.bool false,.bool false,.nilSl] [((0,3),.agg [a,b,c]),((3,3),.agg [d,e,f])]=some (.agg [a,b,c,d,e,f]):=by
 have:cB [.bool false,.bool false,.nilSl,.bool false,.bool false,.nilSl] [((0,3),.agg [a,b,c]),((3,3),.agg [d,e,f])]=some [a,b,c,d,e,f]:=by simp [cB,ha.1,ha.2,hb.1,hb.2,hc.1,hc.2,hd.1,hd.2,he.1,he.2,g.1,g.2,AV.cells]
 simp [cE,this]
set_option maxHeartbeats 1000000 in
def TB (C:Code tab) (O:Wf H) {a b:Int} (h1 : -9223372036854775808<=a) (h2:b<9223372036854775808) (N:a<=b) :
  Ans tab (.fn BM [.int .i64 a,.int .i64 b]) H fun r H'=>(∃ v,r=.tup [v,.int .i64 0]/\ItvV H' v false a false b)/\Kp H H':=by
 refine bA C.q45 (by decide) fun T hl h g=>?_;have hn:¬ b<a:=zO;refine zW (aO hl h g hn) ?_;refine AnsH.use (jk C (n:=a) zF zO zO) ?_;rintro v1 H2 ⟨I,t⟩;obtain ⟨k2,_,w2⟩:=zT H zK t;have d0:H2.get H.next=some (.cells [.bool false,.bool false,.nilSl,.bool false,.bool false,.nilSl] aV true):=t.get (cC)
 refine zW (aD hl h g) ?_;have A:(ah a.natAbs).length<1099511627776:=by
  have:=iN (n:=a.natAbs) (m:=64) (k:=1) (show a.natAbs<2^64 by omega) zO
  omega
 have bb:(ah b.natAbs).length<1099511627776:=by
  have:=iN (n:=b.natAbs) (m:=64) (k:=1) (show b.natAbs<2^64 by omega) zO
  omega
 refine AnsH.use (Ph C zF I A) ?_;rintro _ o ⟨⟨p,rfl,hp⟩,E⟩;have k23:Kp H2 o:=E;have P:=k23.le;have w:=k2.trans k23;have U:=w.wf;have B:=k23.get d0;have op:=hp.one;refine zW (aO hl h g g) ?_;refine AnsH.use (jk C (n:=b) zF zO zO) ?_;rintro v2 s ⟨J,F⟩;have j:Kp o s:=F;have Q:=j.le;have x:=w.trans j;have V:=x.wf;have D:=j.get B;refine zW (aD hl h g) ?_;refine AnsH.use (Ph C zF J bb) ?_;rintro _ z ⟨⟨q,rfl,u⟩,G⟩;have l:Kp s z:=G;have R:=l.le;have K:=x.trans l;have M:=K.wf;have i:=l.get D;have y:=u.one;have S:=M _ _ i;have fb:=Vj (ai false) (ai (decide (a<0))) op (ai false) (ai (decide (b<0))) y;have L:=Uq (a:=.bool false) (b:=.bool false) (c:=.nilSl) (d:=.bool false) (e:=.bool false) (f:=.nilSl) (ty:=aV) (ai false) (ai (decide (a<0))) op (ai false) (ai (decide (b<0))) y;refine zW (fo hl h g fb i L @jq) ?_;exact ⟨⟨_,rfl,p,q,rfl,(hp.mono (j.sub.trans l.sub)).monoT (SubT.put_ty i (by decide)),u.monoT (SubT.put_ty i (by decide))⟩,zK⟩
set_option maxHeartbeats 1000000 in
def GM (C:Code tab) (s:Wf H) {a b:Int} (h1 : -9223372036854775808<=a) (h2:b<9223372036854775808) (r:a<=b) :
  Ans tab (.fn iC [.int .i64 a,.int .i64 b]) H fun v H'=>ItvV H' v false a false b/\Kp H H':=by
 refine bA C.q13 (by decide) fun T hl m n=>?_;refine zW (aD hl m n) ?_;refine AnsH.use (TB C (a:=a) (b:=b) zF h1 h2 r) ?_;rintro _ H2 ⟨⟨_,rfl,p,q,rfl,hp,o⟩,i⟩;obtain ⟨k2,_,w2⟩:=zT H zK i;have x:H.next+10<=H2.next:=i.le
 have d0:H2.get H.next=some (.cells [.bool false,.bool false,.nilSl,.bool false,.bool false,.nilSl] aV true):=i.get (cC)
 have l:H2.get (H.next+7)=none:=i.free (show H.next+7<H.next+10 by omega) (by rw [au zO]; exact s.fresh (b:=H.next+7) zO);have op:=hp.one;have u:=o.one;have w:=Uq (a:=.bool false) (b:=.bool false) (c:=.nilSl) (d:=.bool false) (e:=.bool false) (f:=.nilSl) (ty:=aV) (ai false) (ai (decide (a<0))) op (ai false) (ai (decide (b<0))) u;obtain ⟨g,h⟩:∃ g,g=((H2.up 2).put (H.next+7) (.cells [.bool false,.bool false,.nilSl,.bool false,.bool false,.nilSl] aV true)).put (H.next+7) (.cells [.bool false,.bool (decide (a<0)),p,.bool false,.bool (decide (b<0)),q] aV true):=⟨_,rfl⟩
 have j:Sub H2 g:=by rw [h]; exact ((Sub.bump H2 2).put l _).put l _
 have k:=j.get _ _ d0;have d7:g.get (H.next+7)=some (.cells [.bool false,.bool (decide (a<0)),p,.bool false,.bool (decide (b<0)),q] aV true):=by rw [h,al]
 have t:Kp H g:=by rw [h]; exact zK
 have y:=t.le;have z:g.next=H2.next+2:=by rw [h]; rfl
 refine zW (dj hl m n w d0 @jq) ?_;rw [<- h];refine ⟨⟨p,q,rfl,(hp.mono j).monoT (SubT.put_ty k (by decide)),(o.mono j).monoT (SubT.put_ty k (by decide))⟩,zK⟩
def GN (C:Code tab) (D:Wf H) {v i:AV} {n n':Nat} {c a:List (List Int × Bool)} {g g':List (Nat × List Int)} (hp:PolyV H v n c g) (p:PolyV H i n' a g') (j:c.length<1099511627776) (k:∀ r∈c,r.1.length<1099511627776/\∀ z∈r.1,dD z) (l:g.length<1099511627776) (m:∀ r∈g,r.2.length<1099511627776/\∀ z∈r.2,dD z) :
  Ans tab (.fn iD [v,.int .i64 0,i]) H fun x H'=>x=.bool (decide (n=n'/\c=a/\g=g'))/\Kp H H':=by
 obtain ⟨w,A,rfl,hc,hg⟩:=hp;obtain ⟨y,B,rfl,f,h⟩:=p;have q:=hc.one;have t:=hg.one;have s:=f.one;have u:=h.one;refine lC C.q14 (by decide) fun T hl b d e=>?_;refine zW (dj hl b d e (jS q t) (jS s u)) ?_;refine AnsH.eq (IK C (n:=n) (n':=n') zF ⟨w,A,rfl,hc.mono (Kp.sub (H:=H) zK),hg.mono (Kp.sub (H:=H) zK)⟩ ⟨y,B,rfl,f.mono (Kp.sub (H:=H) zK),h.mono (Kp.sub (H:=H) zK)⟩ j k l m) fun H2 o=>?_;obtain ⟨k2,_,_⟩:=zT H zK o;refine zW (aO hl b d e) ?_;exact zK
end
section
variable {tab:Nat->Option aA} {H:Heap} {s:AV}
def LK {a b:Int} (ha:a.natAbs<=9) (hb:b.natAbs<=9):∀ c∈[(([-a,1]:List Int),false),([b,-1],false)],c.1.length=1+1/\Lin.Bd (2^4) c.1:=fun c hc=>by
 have key:∀ x y:Int,x.natAbs<=9->y.natAbs<=9->Lin.Bd (2^4) [x,y]:=fun x y hx hy i=>by
  match i with
  | 0=>show x.natAbs<=16; omega
  | 1=>show y.natAbs<=16; omega
  | i+2=>simp [Lin.at_]
 rcases Wz.1 hc with rfl | hc
 ·exact ⟨rfl,key _ _ zO zO⟩
 ·rw [Wl] at hc; subst hc;exact ⟨rfl,key _ _ hb zO⟩
end
section
variable {tab:Nat->Option aA} {H:Heap}
set_option maxHeartbeats 2000000 in
def oH (C:Code tab) (R:Wf H) {a b:Int} (ha:a.natAbs<=9) (hb:b.natAbs<=9) {g:List (Nat × List Int)} {K:List (List Int × Bool)} (P:Lin.gensP 1 [([-a,1],false),([b,-1],false)]=g) (Q:Lin.consP 1 g=K) (lg:g.length<1024) (X:K.length<1024) :
  Ans tab (.fn eY [.int .i64 a,.int .i64 b]) H fun v H'=>PolyV H' v 1 K g/\Kp H H':=by
 refine bA C.q12 zU fun T hl i j=>?_;have ea:IntKind.i64.wrap (0-a) = -a:=by rw [wrap_i64] <;> omega
 refine zW (aO hl i j ea) ?_;have e0:Emp (H.up 18) H.next (H.next+18):=Emp.start R
 refine AnsH.use (AN C (l:=[-a,1]) zF (wt (by refine vH ?_; rfl)) (by simp) (by simp; omega)) ?_;rintro v3 H2 ⟨r3,q⟩;obtain ⟨k2,_,w2⟩:=zT H zK q;have d0:H2.get H.next=some (.cells [.int .i64 0,.nilSl,.nilSl] am true):=q.get (cC)
 have o:Emp H2 (H.next+4) (H.next+18):=(((e0.put (p:=H.next) (a':=H.next+1) zO zO).put zO zO).keep q)
 have n2:=o.1;have U:=r3.one;refine zW (aO hl i j (Az U)) ?_;refine AnsH.use (AN C (l:=[b,-1]) zF (wt (by refine vH ?_; rfl)) (by simp) (by simp; omega)) ?_;rintro v5 h ⟨r5,r⟩;obtain ⟨W,_,w3⟩:=zT H zK r;have e3:Emp h (H.next+8) (H.next+18):=(o.put zO zO).keep r;have n3:=e3.1;have F:Sub H2 h:=(o.sub (p:=H.next+7) zO zO).trans r.sub;have V:=r5.one;have M:=F.get _ _ d0;refine zW (aO hl i j (Az V)) ?_;obtain ⟨G3,e⟩:∃ G,G=h.put (H.next+10) (.cells [v3,.bool false,v5,.bool false] t_api_Con true):=⟨_,rfl⟩
 rw [<- e];have z:Emp G3 (H.next+11) (H.next+18):=by rw [e]; exact e3.put zO zO
 have t:Sub h G3:=by rw [e]; exact e3.sub zO zO
 have B:Kp H G3:=by rw [e]; exact zK
 have ab:=B.wf;have aa:=z.1;have N:=t.get _ _ M;have L:SlV conE t_api_Con G3 (.own (H.next+10) 0 2 2 2 true) [([-a,1],false),([b,-1],false)]:=UB (by rw [e]; exact al _ _ _) (r3.mono (F.trans t)) (r5.mono t);have sb:=LK ha hb;have O:=wK (n:=1) zO sb;refine AnsH.use (qj C (n:=1) (m:=4) (m2:=64*(4+4)) zF L zO (by simp) sb zO (fun x hx=>(O x hx).2) zO) ?_;rintro v4 d ⟨f,s⟩;have D:Kp H d:=B.trans s;have Y:=D.le;have w4:=D.wf;have e4:Emp d (H.next+11) (H.next+18):=z.keep s;have n4:=e4.1;have w:=s.get N;rw [P] at f;unfold py at f;rw [Q] at f;rcases f with ⟨-,f⟩ | ⟨p,rfl,⟨I,J,rfl,hc,hg⟩,-,-⟩
 ·omega
 have oc:=hc.one;have og:=hg.one;obtain ⟨c,k⟩:∃ c,c=((d.up 2).put (H.next+15) (.cells [.int .i64 0,.nilSl,.nilSl] am true)).put (H.next+15) (.cells [.int .i64 ((1:Nat):Int),I,J] am true):=⟨_,rfl⟩
 have A:=e4.2 (H.next+15) zO zO;have u:Sub d c:=by rw [k]; exact ((Sub.bump d 2).put A _).put A _
 have y:=u.get _ _ w;have S:Kp H c:=by rw [k]; exact zK
 have Z:=S.le;have n5:c.next=d.next+2:=by rw [k]; rfl
 refine zW (bB hl i j @jj w) ?_;rw [<- k];refine ⟨⟨I,J,rfl,?_,?_⟩,zK⟩
 ·have m3:NoTy (t_api_Con :: conE.tys) c H.next:=NoTy.ty y zU
  exact SlV.monoT (E:=conE) zS (hc.mono u)
 ·have m3:NoTy (ag :: genE.tys) c H.next:=NoTy.ty y zU
  exact SlV.monoT (E:=genE) zS (hg.mono u)
end
section
variable {tab:Nat->Option aA} {H:Heap} {s:AV}
def ok1 {K:List (List Int × Bool)} {G:List (Nat × List Int)} (h1:Lin.gensP 1 K=G) (h2:Lin.consP 1 G=K) (h:(K.all (fun x=>decide (x.1.length=2) && x.1.all (fun a=>decide (a.natAbs<=16))) && G.all (fun x=>x.2.all (fun a=>decide (a.natAbs<=16))) && decide (K.length<=60) && decide (G.length<60))=true):PolyOK 1 4 4 K G:=by
 simp only [WA,Wv,decide_eq_true_eq] at h;obtain ⟨⟨⟨h3,h4⟩,h5⟩,h6⟩:=h;exact ⟨⟨fun c hc=>(h3 c hc).1,h1,h2⟩,zO,.inl h5,zO,fun c hc=>Lin.bd_small4 (Wv.2 fun a ha=>decide_eq_true ((h3 c hc).2 a ha)),fun x hx=>Lin.bd_small4 (Wv.2 fun a ha=>decide_eq_true (h4 x hx a ha)),zO,zO⟩
def Va:PolyOK 1 4 4 [([-1,1],false),([3,-1],false)] [(3,[1,1]),(3,[1,3])]:=ok1 Lin.g13 Lin.k13 zU
def Uz {H:Heap} {x:AV} {K:List (List Int × Bool)} {G:List (Nat × List Int)} (h:py H x 1 G) (ok:PolyOK 1 4 4 K G):∃ a b,x=.tup [.agg [.int .i64 1,a,b],.int .i64 0]/\SlV conE t_api_Con H a K/\SlV genE ag H b G:=by
 have e:=ok.own.cons;have h1:=ok.many;have h2:=ok.lenK;unfold py at h;rw [e] at h;rcases h with ⟨-,h⟩ | ⟨p,rfl,⟨a,b,rfl,hc,hg⟩,-,-⟩
 ·omega
 ·exact ⟨a,b,rfl,hc,hg⟩
def U4 (a:AV):Prop:=∃ x u w,a=.agg [.int .i64 x,u,w]/\One u/\One w
def EW:U4 rr:=⟨0,.nilSl,.nilSl,rfl,bH,bH⟩
def TellP (H:Heap) (d:Int) (p:AV) (K:List (List Int × Bool)) (G:List (Nat × List Int)):Prop :=
 ∃ n:Nat,d=(n:Int)/\n<=3/\PolyV H p n K G/\Lin.Own n K G/\K.length<1024/\G.length<1024
def TellP.mono {H H':Heap} {d:Int} {p:AV} {K:List (List Int × Bool)} {G:List (Nat × List Int)} (h:TellP H d p K G) (hs:Sub H H'):TellP H' d p K G:=by
 obtain ⟨n,h1,h2,h3,h4⟩:=h;exact ⟨n,h1,h2,h3.mono hs,h4⟩
def TellP.pag {H:Heap} {d:Int} {p:AV} {K:List (List Int × Bool)} {G:List (Nat × List Int)} (h:TellP H d p K G):U4 p:=by
 obtain ⟨n,h1,h2,⟨a,b,rfl,hc,hg⟩,h4⟩:=h;exact ⟨_,_,_,rfl,hc.one,hg.one⟩
def Pc (C:Code tab) (i:Wf H) {d:Int} {l:List xA} (hs:SlV conQE t_api_Con H s l) (gl:∀ r∈l,dZ r.1) (hg:fT 6 l=false) (h3:¬ 3<d) :
  Ans tab (.fn pa [.int .i64 d,s]) H fun v H'=>Kp H H'/\∃ p f,v=.tup [p,.int .i64 f]/\U4 p/\(f=0->∃ K G,TellP H' d p K G):=by
 rcases MT (d:=d) (n:=6) hs gl hg zO zO with g | ⟨n,rfl,o,k,ll,b⟩
 ·refine (Hg C i hs (Js hg) (by have:=(jD hg).1; omega) g).mono ?_;rintro v H2 ⟨rfl,a⟩;exact ⟨a,_,_,rfl,EW,fun e=>absurd e g⟩
 ·have j:=wK zO b;refine (qj C (n:=n) (m:=64) (m2:=64*(64+4)) i k zO (by rw [V7]; omega) b zO (fun x hx=>(j x hx).2) zO).mono ?_;rintro v H2 ⟨hm,a⟩;rcases hm with ⟨rfl,-⟩ | ⟨p,rfl,hp,h1,h2⟩
  ·exact ⟨a,_,_,rfl,EW,fun e=>by cases e⟩
  ·have h:TellP H2 (n:Int) p _ _:=⟨n,rfl,zO,hp,Lin.own_of fun c hc=>(b c hc).1,h2,h1⟩
   exact ⟨a,p,0,rfl,h.pag,fun _=>⟨_,_,h⟩⟩
section
open Lin
def MU {n:Nat} {g:List (Nat × V)} (hg:ValidG n g):(consP n g).length<=2^g.length+n+1:=by
 have b:∀ a∈linesOf g,a.length=n+1:=fun a ha=>(hg _ (mem_lines.1 ha)).1;have c:∀ a∈raysOf g,a.length=n+1:=fun a ha=>by obtain ⟨k,-,h⟩:=mem_rays.1 ha; exact (hg _ h).1
 have t:=gens_told b c;have h1:=t.dd.count;have h2:=Ev.ech_len t.form;have h3:2^(raysOf g).length<=2^g.length:=Wx zU (Ev.rays_le g);unfold consP;split
 ·rw [Wm,V7,V7]
  have:=Xl (fun r:V=>!decide (r=unitC n 1)) (gensR (n+1) (linesOf g) (raysOf g))
  omega
 ·show 1<=_;omega
end
section
variable {n:Nat} {K K':List (List Int × Bool)} {G G':List (Nat × List Int)}
def Kw {H:Heap} {v:AV} {e f:Nat} (hm:py H v n G) (h:PolyOK n e f K G):∃ a b,v=.tup [.agg [.int .i64 (n:Int),a,b],.int .i64 0]/\SlV conE t_api_Con H a K/\SlV genE ag H b G:=by
 have c:=h.own.cons;have h1:=h.many;have h2:=h.lenK;unfold py at hm;rw [c] at hm;rcases hm with ⟨-,hm⟩ | ⟨p,rfl,⟨a,b,rfl,hc,hg⟩,-,-⟩
 ·omega
 ·exact ⟨a,b,rfl,hc,hg⟩
def J9 {H:Heap} {v:AV} {e f:Nat} {g:List (Nat × List Int)} (hm:xz H v n g) (h:PolyOK n e f (Lin.consP n g) (Lin.gensP n (Lin.consP n g))):∃ a b,v=.tup [.agg [.int .i64 (n:Int),a,b],.int .i64 0]/\SlV conE t_api_Con H a (Lin.consP n g)/\SlV genE ag H b (Lin.gensP n (Lin.consP n g)):=by
 have h2:=h.lenK;rcases hm with ⟨-,hm⟩ | hm
 ·omega
 ·exact Kw hm h
end
end
section
variable {tab:Nat->Option aA} {H:Heap}
def P7 (H:Heap) (v:AV) (d:Int):Prop :=
 (∃ a,v=.tup [a,.bool false]/\U4 a) \/
 ∃ (n:Nat) (p:AV) (K:List (List Int × Bool)) (G:List (Nat × List Int)),d=(n:Int)/\n<=3/\v=.tup [p,.bool true]/\PolyV H p n K G/\PolyOK n 64 64 K G/\K.length<=9/\G.length<=9
set_option maxHeartbeats 4000000 in
def Jj (C:Code tab) (Z:Wf H) {s1:AV} {d:Int} {l:List xA} (hs:SlV conQE t_api_Con H s1 l) (gl:∀ r∈l,dZ r.1) :
  Ans tab (.fn gy [.int .i64 d,s1]) H fun v H'=>P7 H' v d/\Kp H H':=by
 refine bA C.q2 zU fun T hl a e=>?_;refine zW (aD hl a e) ?_;refine AnsH.eq (qJ C (n:=6) zF (hs.mono (zG H)) zO) fun H2 D=>?_;obtain ⟨k2,_,w2⟩:=zT H zK D;have d0:H2.get H.next=some (.cells [.int .i64 0,.nilSl,.nilSl] am true):=D.get (cC)
 have ab:=w2 _ _ d0;cases q1:fT 6 l with
 | true =>
  refine zW (bB hl a e d0 @jj) ?_;exact ⟨.inl ⟨_,rfl,EW⟩,zK⟩
 | false =>
 by_cases q3:3<d
 ·refine zW (dj hl a e d0 q3 @jj) ?_;exact ⟨.inl ⟨_,rfl,EW⟩,zK⟩
 refine zW (aO hl a e q3) ?_;refine AnsH.use (Pc C zF ((hs.mono k2.sub).mono (zG H2)) gl q1 q3) ?_;rintro v f ⟨q,p,z,rfl,⟨x,u,w,rfl,V,W⟩,P⟩;obtain ⟨F,_,_⟩:=zT H2 zK q;have I:Kp H f:=k2.trans F;have aa:=I.le;have w4:=I.wf;have n4:H2.next+9<=f.next:=q.le
 have f4:f.get (H2.next+6)=none:=q.free (show H2.next+6<H2.next+9 by omega) (w2.fresh (b:=H2.next+6) zO);refine zW (aO hl a e @jj) ?_;obtain ⟨G4,h⟩:∃ G4,G4=(f.put (H2.next+6) (.cells [.int .i64 0,.nilSl,.nilSl] am true)).put (H2.next+6) (.cells [.int .i64 x,u,w] am true):=⟨_,rfl⟩
 have J:Sub f G4:=by rw [h]; exact (aG f4).put f4 _
 have s:Kp H2 G4:=by rw [h]; exact (F.put zO zO).put zO (by rw [next_put]; omega)
 have dp:G4.get (H2.next+6)=some (.cells [.int .i64 x,u,w] am true):=by rw [h]; exact al _ _ _
 rw [<- h];clear h;have Y:=s.wf;have Q:Kp H G4:=k2.trans s;have o:=s.get d0;refine TX (fun T'=>T'.length=29/\ad T' 4=.ptr H.next 0/\ad T' 6=.ptr (H2.next+6) 0/\ad T' 7=.int .i64 z) (zV (aD hl a e)) ?_;clear hl;rintro T' ⟨hl,t4,j,k⟩;refine aF ?_;by_cases y:z=0
 ·subst y;obtain ⟨K,G,n,rfl,R,⟨vc,vg,O,hc,hg⟩,N,lK,lG⟩:=P rfl;cases O;have A:=hc.mono J;have B:=hg.mono J;refine zX (fX hl a e t4 j k dp @ap) ?_;refine AnsH.eq (yU C (n:=n) zF ⟨u,w,rfl,A.mono (zG G4),B.mono (zG G4)⟩) fun m M=>?_;obtain ⟨i,_,X⟩:=zT G4 zK M;have g:=i.get o;have t:=i.get dp;have S:=hc.one;have U:=hg.one;have kB:Kp H m:=Q.trans i;have af:=X _ _ g;cases hL:(mZ K G || decide (4<n)) with
  | true =>
   refine zX (ia hl a e t4 j k dp t g @ap @jj) ?_;exact ⟨.inl ⟨_,rfl,⟨_,_,_,rfl,S,U⟩⟩,zK⟩
  | false =>
   rw [XZ] at hL;obtain ⟨⟨L,a2⟩,a3,a4⟩:=Ft hL.1;have p1:PolyOK n 64 64 K G:=⟨N,zO,.inl zO,zO,fun c hc=>(a2 c hc).2,fun x hx=>(a4 x hx).2,zO,zO⟩
   refine zX (ia hl a e t4 j k dp t g @ap @jj) ?_;refine ⟨.inr ⟨n,_,K,G,rfl,R,rfl,⟨u,w,rfl,?_,?_⟩,p1,L,a3⟩,zK⟩
   ·have m3:NoTy (t_api_Con :: conE.tys) m H.next:=NoTy.ty g zU
    exact SlV.monoT (E:=conE) zS (A.mono i.sub)
   ·have m3:NoTy (ag :: genE.tys) m H.next:=NoTy.ty g zU
    exact SlV.monoT (E:=genE) zS (B.mono i.sub)
 ·refine zX (ia hl a e t4 j k dp o y @ap @jj) ?_;have ae:=Y _ _ o;exact ⟨.inl ⟨_,rfl,⟨_,_,_,rfl,V,W⟩⟩,zK⟩
end
end Go.Proofs.YteaefaohjlmjdaaGreat.Ev
namespace Go.Proofs.YteaefaohjlmjdaaGreat.Lin
def g37:gensP 1 [([-3,1],false),([7,-1],false)]=[(3,[1,3]),(3,[1,7])]:=by
 have r:(gensU 2 [] [[1,0],[-3,1],[7,-1]]).rays.map (restF (gensL 2 [] [[1,0],[-3,1],[7,-1]]))=[[1,3],[1,7]]:=by decide +kernel
 have e:gensL 2 [] [[1,0],[-3,1],[7,-1]]=[]:=by decide +kernel
 have g:gensR 2 [] [[1,0],[-3,1],[7,-1]]=[[1,3],[1,7]]:=by
  unfold gensR;rw [r]; simp [List.mergeSort,List.MergeSort.Internal.splitInTwo,cmpV]
 have h1:eqsOf ([([-3,1],false),([7,-1],false)]:List (V × Bool))=[]:=rfl;have h2:ineqsOf 1 ([([-3,1],false),([7,-1],false)]:List (V × Bool))=[[1,0],[-3,1],[7,-1]]:=rfl;unfold gensP;rw [h1,h2,e,g];rfl
def g38:gensP 1 [([-3,1],false),([8,-1],false)]=[(3,[1,3]),(3,[1,8])]:=by
 have r:(gensU 2 [] [[1,0],[-3,1],[8,-1]]).rays.map (restF (gensL 2 [] [[1,0],[-3,1],[8,-1]]))=[[1,3],[1,8]]:=by decide +kernel
 have e:gensL 2 [] [[1,0],[-3,1],[8,-1]]=[]:=by decide +kernel
 have g:gensR 2 [] [[1,0],[-3,1],[8,-1]]=[[1,3],[1,8]]:=by
  unfold gensR;rw [r]; simp [List.mergeSort,List.MergeSort.Internal.splitInTwo,cmpV]
 have h1:eqsOf ([([-3,1],false),([8,-1],false)]:List (V × Bool))=[]:=rfl;have h2:ineqsOf 1 ([([-3,1],false),([8,-1],false)]:List (V × Bool))=[[1,0],[-3,1],[8,-1]]:=rfl;unfold gensP;rw [h1,h2,e,g];rfl
def k37:consP 1 [(3,[1,3]),(3,[1,7])]=[([-3,1],false),([7,-1],false)]:=by
 have r:(gensU 2 [] [[1,3],[1,7]]).rays.map (restF (gensL 2 [] [[1,3],[1,7]]))=[[7,-1],[-3,1]]:=by decide +kernel
 have e:gensL 2 [] [[1,3],[1,7]]=[]:=by decide +kernel
 have g:gensR 2 [] [[1,3],[1,7]]=[[-3,1],[7,-1]]:=by
  unfold gensR;rw [r]; simp [List.mergeSort,List.MergeSort.Internal.splitInTwo,cmpV]
 have h1:linesOf ([(3,[1,3]),(3,[1,7])]:List (Nat × V))=[]:=rfl;have h2:raysOf ([(3,[1,3]),(3,[1,7])]:List (Nat × V))=[[1,3],[1,7]]:=rfl;unfold consP;rw [h1,h2,e,g];decide
def k38:consP 1 [(3,[1,3]),(3,[1,8])]=[([-3,1],false),([8,-1],false)]:=by
 have r:(gensU 2 [] [[1,3],[1,8]]).rays.map (restF (gensL 2 [] [[1,3],[1,8]]))=[[8,-1],[-3,1]]:=by decide +kernel
 have e:gensL 2 [] [[1,3],[1,8]]=[]:=by decide +kernel
 have g:gensR 2 [] [[1,3],[1,8]]=[[-3,1],[8,-1]]:=by
  unfold gensR;rw [r]; simp [List.mergeSort,List.MergeSort.Internal.splitInTwo,cmpV]
 have h1:linesOf ([(3,[1,3]),(3,[1,8])]:List (Nat × V))=[]:=rfl;have h2:raysOf ([(3,[1,3]),(3,[1,8])]:List (Nat × V))=[[1,3],[1,8]]:=rfl;unfold consP;rw [h1,h2,e,g];decide
def k3478:consP 1 [(3,[1,3]),(3,[1,4]),(3,[1,7]),(3,[1,8])]=[([-3,1],false),([8,-1],false)]:=by
 have r:(gensU 2 [] [[1,3],[1,4],[1,7],[1,8]]).rays.map (restF (gensL 2 [] [[1,3],[1,4],[1,7],[1,8]]))=[[-3,1],[8,-1]]:=by decide +kernel
 have e:gensL 2 [] [[1,3],[1,4],[1,7],[1,8]]=[]:=by decide +kernel
 have g:gensR 2 [] [[1,3],[1,4],[1,7],[1,8]]=[[-3,1],[8,-1]]:=by
  unfold gensR;rw [r]; simp [List.mergeSort,List.MergeSort.Internal.splitInTwo,cmpV]
 have h1:linesOf ([(3,[1,3]),(3,[1,4]),(3,[1,7]),(3,[1,8])]:List (Nat × V))=[]:=rfl;have h2:raysOf ([(3,[1,3]),(3,[1,4]),(3,[1,7]),(3,[1,8])]:List (Nat × V))=[[1,3],[1,4],[1,7],[1,8]]:=rfl;unfold consP;rw [h1,h2,e,g];decide
end Go.Proofs.YteaefaohjlmjdaaGreat.Lin
namespace Go.Proofs.YteaefaohjlmjdaaGreat.Ev
open Go Nn
def ok37:PolyOK 1 4 4 [([-3,1],false),([7,-1],false)] [(3,[1,3]),(3,[1,7])]:=ok1 Lin.g37 Lin.k37 (by decide)
def ok38:PolyOK 1 4 4 [([-3,1],false),([8,-1],false)] [(3,[1,3]),(3,[1,8])]:=ok1 Lin.g38 Lin.k38 (by decide)
def Uw:putL 1 0 [1,2] false 0 false 0 [(3,[1,1]),(3,[1,3])]=[(3,[1,3]),(3,[1,7])]:=by decide
def Uv:putL 1 0 [1,2] false 0 false 1 [(3,[1,1]),(3,[1,3])]=[(3,[1,3]),(3,[1,4]),(3,[1,7]),(3,[1,8])]:=by decide
section
variable {tab:Nat->Option aA} {H:Heap}
def Vq:Lin.Bd (2^2) ([1,2]:List Int):=fun i=>match i with
 | 0=>by decide
 | 1=>by decide
 | i+2=>Wd _
def Rj {x y:Int} (h:x<=y):eM false (bF x) false (bF y)=true:=by
 have hb:∀ (w:Int),uW false (bF w)=true:=fun w=>by unfold uW; rw [xx]; rfl
 unfold eM;rw [hb x,hb y,vp,vp,decide_eq_true h]; rfl
def Dr (C:Code tab) (l:Wf H) {v w i:AV} {b:Int} {K':List (List Int × Bool)} {P G':List (Nat × List Int)} (hp:PolyV H v 1 [([-1,1],false),([3,-1],false)] [(3,[1,1]),(3,[1,3])]) (ha:RowV H w [1,2]) (j:ItvV H i false 0 false b) (hb:b=0\/b=1) (a:putL 1 0 [1,2] false 0 false b [(3,[1,1]),(3,[1,3])]=P) (c:Lin.consP 1 P=K') (ok:PolyOK 1 4 4 K' G') :
  Ans tab (.fn kU [v,.int .i64 0,w,i]) H fun r H'=>(∃ d g,r=.tup [.agg [.int .i64 1,d,g],.int .i64 0]/\SlV conE t_api_Con H' d K'/\SlV genE ag H' g G')/\Kp H H':=by
 have bb:Bt 2 b:=by show b.natAbs<2^2; omega
 have hm:eM false (bF 0) false (bF b)=true:=Rj zO;have l1:=ok.lenK;have h:=wH C (x:=0) (n:=1) (e:=4) (f:=4) (ea:=2) (ez:=2) l hp Va ha rfl Vq j hm (Bt.zero 2) bb zO zO (by decide) zO (by decide) (by rw [a,c]; exact .inl l1);rw [a] at h;refine h.mono ?_;rintro r H' ⟨hs,k⟩;have hm:py H' r 1 G':=by
  unfold xz at hs;rw [c,ok.own.gens] at hs;rcases hs with ⟨-,h⟩ | h
  ·omega
  ·exact h
 exact ⟨Uz hm ok,k⟩
set_option maxHeartbeats 4000000 in
def GO (C:Code tab) (hw:Wf H):Ans tab (.fn fI []) H fun v H'=>v=.bool true/\Kp H H':=by
 refine Vi C.q1 fun T hl=>?_;refine zW hl ?_;refine AnsH.use (oH C (a:=1) (b:=3) zF (by decide) (by decide) Lin.g13 Lin.k13 (by decide) (by decide)) ?_;rintro _ H2 ⟨⟨K,L,rfl,hc,hg⟩,V⟩;obtain ⟨k2,_,w2⟩:=zT H zK V;have oc:=hc.one;have og:=hg.one;have n2:H.next+4<=H2.next:=V.le
 have f2:H2.get (H.next+2)=none:=V.free (show H.next+2<H.next+4 by omega) (hw.fresh (b:=H.next+2) zO);obtain ⟨G2,J⟩:∃ G2,G2=(H2.put (H.next+2) (.cells [.int .i64 0,.nilSl,.nilSl] am true)).put (H.next+2) (.cells [.int .i64 ((1:Nat):Int),K,L] am true):=⟨_,rfl⟩
 have s2:Sub H2 G2:=by rw [J]; exact (aG f2).put f2 _
 have aL:Kp H G2:=by rw [J]; exact zK
 have aM:=aL.wf;have f:G2.get (H.next+2)=some (.cells [.int .i64 ((1:Nat):Int),K,L] am true):=by rw [J]; exact al _ _ _
 have ae:=hc.mono s2;have aq:=hg.mono s2;obtain ⟨P,hP⟩:∃ P,P=H.next+2:=⟨_,rfl⟩
 have a1:=aM _ _ f;refine zW (aD hl @jj @aw) ?_;rw [<- J,<- hP];rw [<- hP] at f a1;refine aF ?_;refine zD (aD hl f @ap) ?_;have e0:Emp (G2.up 11) G2.next (G2.next+11):=Emp.start aM
 refine AnsH.use (AN C (l:=[1,2]) zF (wt (by refine vH ?_; rfl)) (by simp) (by simp)) ?_;rintro v3 H3 ⟨r3,W⟩;obtain ⟨k3,_,w3⟩:=zT G2 zK W;have e3:Emp H3 (G2.next+2) (G2.next+11):=(e0.put (p:=G2.next+1) zO zO).keep W;have o3:=r3.one;have O:=k3.get f;refine zD (aO hl f O @ap) ?_;refine AnsH.use (GM C (a:=0) (b:=0) zF (by decide) (by decide) (by decide)) ?_;rintro vi q ⟨ay,aC⟩;obtain ⟨Y,_,_⟩:=zT H3 zK aC;have k:Kp G2 q:=k3.trans Y;have bb:=k.le;have w4:=k.wf;have e4:Emp q (G2.next+2) (G2.next+11):=e3.keep Y;have ab:=k.get f;obtain ⟨bi,bg,a9,a7,a5⟩:=id ay;refine zD (bB hl f O ab @ap) ?_;refine AnsH.use (Dr C (b:=0) zF ⟨K,L,rfl,(ae.mono k.sub).mono (Kp.sub (H:=q) zK),(aq.mono k.sub).mono (Kp.sub (H:=q) zK)⟩ (r3.mono Y.sub) ay (.inl rfl) Uw Lin.k37 ok37) ?_;rintro _ B ⟨⟨va,vb,rfl,aj,ax⟩,aE⟩;obtain ⟨aJ,_,_⟩:=zT q zK aE;have k5:Kp G2 B:=k.trans aJ;have bc:=k5.le;have w5:=k5.wf;have R:Emp B (G2.next+2) (G2.next+11):=e4.keep aJ;have n5:=R.1;have oa:=aj.one;have ob:=ax.one;have f5:=R.2 (G2.next+8) zO zO;obtain ⟨c,t⟩:∃ c,c=(B.put (G2.next+8) (.cells [.int .i64 0,.nilSl,.nilSl] am true)).put (G2.next+8) (.cells [.int .i64 1,va,vb] am true):=⟨_,rfl⟩
 have s5:Sub B c:=by rw [t]; exact (aG f5).put f5 _
 have y:Kp G2 c:=by rw [t]; exact zK
 have aN:=y.wf;have M:c.get (G2.next+8)=some (.cells [.int .i64 1,va,vb] am true):=by rw [t]; exact al _ _ _
 obtain ⟨A,hA⟩:∃ A,A=G2.next+8:=⟨_,rfl⟩
 have aZ:=aN _ _ M;have h:=y.get f;refine zD (fo hl f O ab @jj @aw @ap) ?_;rw [<- t,<- hA];rw [<- hA] at M aZ;clear t R e4 e3 f5 r3 W aC aE;have af:=ae.mono y.sub;have ar:=aq.mono y.sub;have aP:=aj.mono s5;have aR:=ax.mono s5;refine aF ?_;refine zD (aD hl h @ap) ?_;have e6:Emp (c.up 11) c.next (c.next+11):=Emp.start aN
 refine AnsH.use (AN C (l:=[1,2]) zF (wt (by refine vH ?_; rfl)) (by simp) (by simp)) ?_;rintro v6 H6 ⟨r6,X⟩;obtain ⟨k6,_,w6⟩:=zT c zK X;have e6:Emp H6 (c.next+2) (c.next+11):=(e6.put (p:=c.next+1) zO zO).keep X;have o6:=r6.one;have Q:=k6.get h;refine zD (aO hl h Q @ap) ?_;refine AnsH.use (GM C (a:=0) (b:=1) zF (by decide) (by decide) (by decide)) ?_;rintro vj r ⟨aB,aH⟩;obtain ⟨Z,_,_⟩:=zT H6 zK aH;have m:Kp c r:=k6.trans Z;have bd:=m.le;have w7:=m.wf;have e7:Emp r (c.next+2) (c.next+11):=e6.keep Z;have ad:=m.get h;obtain ⟨bj,bh,ba,a8,a6⟩:=id aB;refine zD (bB hl h Q ad @ap) ?_;refine AnsH.use (Dr C (b:=1) zF ⟨K,L,rfl,(af.mono m.sub).mono (Kp.sub (H:=r) zK),(ar.mono m.sub).mono (Kp.sub (H:=r) zK)⟩ (r6.mono Z.sub) aB (.inr rfl) Uv Lin.k3478 ok38) ?_;rintro _ D ⟨⟨vd,ve,rfl,ao,hge⟩,aI⟩;obtain ⟨aK,_,_⟩:=zT r zK aI;have k8:Kp c D:=m.trans aK;have bf:=k8.le;have w8:=k8.wf;have S:Emp D (c.next+2) (c.next+11):=e7.keep aK;have n8:=S.1;have od:=ao.one;have oe:=hge.one;have U:=S.2 (c.next+8) zO zO;obtain ⟨d,u⟩:∃ d,d=(D.put (c.next+8) (.cells [.int .i64 0,.nilSl,.nilSl] am true)).put (c.next+8) (.cells [.int .i64 1,vd,ve] am true):=⟨_,rfl⟩
 have s8:Sub D d:=by rw [u]; exact (aG U).put U _
 have g:Kp c d:=by rw [u]; exact zK
 have a2:=g.wf;have e:d.get (c.next+8)=some (.cells [.int .i64 1,vd,ve] am true):=by rw [u]; exact al _ _ _
 obtain ⟨a3,hB⟩:∃ A,A=c.next+8:=⟨_,rfl⟩
 have a0:=a2 _ _ e;have j:=g.get h;have i:=g.get M;refine zD (fo hl h Q ad @jj @aw @ap) ?_;rw [<- u,<- hB];rw [<- hB] at e a0;clear u S e7 e6 U r6 X aH aI;have a4:=af.mono g.sub;have w:=ar.mono g.sub;have aQ:=aP.mono g.sub;have aS:=aR.mono g.sub;have aT:=ao.mono s8;have aU:=hge.mono s8;have kT:Kp H d:=aL.trans (y.trans g);have z:((2:Nat):Int)=2:=rfl;refine aF ?_;refine zX (fo hl j i e w.lenV z @ap) ?_;refine AnsH.use (oH C (a:=3) (b:=7) zF (by decide) (by decide) Lin.g37 Lin.k37 (by decide) (by decide)) ?_;rintro _ E ⟨⟨v1,v2,rfl,ag,au⟩,aV⟩;obtain ⟨o,_,w9⟩:=zT d zK aV;have o1:=ag.one;have o2:=au.one;have I:=o.get j;have F:=o.get i;have G:=o.get e;refine zX (oK hl j i e I F G w.lenV z @ap) ?_;refine AnsH.eq (GN C (n:=1) (n':=1) zF ⟨va,vb,rfl,(aQ.mono o.sub).mono (Kp.sub (H:=E) zK),(aS.mono o.sub).mono (Kp.sub (H:=E) zK)⟩ ⟨v1,v2,rfl,ag.mono (Kp.sub (H:=E) zK),au.mono (Kp.sub (H:=E) zK)⟩ (by decide) ok37.smK (by decide) ok37.smG) fun HA aW=>?_;rw [decide_eq_true ⟨rfl,rfl,rfl⟩];have kA:Kp d HA:=o.trans (Kp.trans zK aW);have wA:=kA.wf;have N:=kA.get e;refine zX (ia hl j i e I F G N w.lenV z @ap) ?_;refine AnsH.use (oH C (a:=3) (b:=8) zF (by decide) (by decide) Lin.g38 Lin.k38 (by decide) (by decide)) ?_;rintro _ s ⟨⟨v4,v5,rfl,ah,av⟩,aX⟩;have x:Kp d s:=kA.trans (Kp.trans zK aX);have wB:=x.wf;have o4:=ah.one;have o5:=av.one;have aa:=x.get e;refine zX (qQ hl j i e I F G N aa w.lenV z @ap) ?_;refine AnsH.eq (GN C (n:=1) (n':=1) zF ⟨vd,ve,rfl,(aT.mono x.sub).mono (Kp.sub (H:=s) zK),(aU.mono x.sub).mono (Kp.sub (H:=s) zK)⟩ ⟨v4,v5,rfl,ah.mono (Kp.sub (H:=s) zK),av.mono (Kp.sub (H:=s) zK)⟩ (by decide) ok38.smK (by decide) ok38.smG) fun HE aY=>?_;rw [decide_eq_true ⟨rfl,rfl,rfl⟩];have kE:Kp d HE:=x.trans (Kp.trans zK aY);have wE:=kE.wf;refine zX (qQ hl j i e I F G N aa w.lenV z @ap) ?_;exact kT.trans kE
end
section
variable {tab:Nat->Option aA} {H:Heap} {n x:Nat} {a:List Int} {K:List (List Int × Bool)} {G:List (Nat × List Int)}
def Jv {l:List (List Int × Bool)} (h:∀ c∈l,c.1.length=n+1) (hn:n<=3) (hl:l.length<=9):(Lin.gensP n l).length<=1004:=by
 have t:=Lin.gens_told (Lin.eqs_len h) (Lin.ineqs_len h);have h1:=t.dd.count3 (Lin.ineqs_len h);have h2:=Ev.ech_len t.form;have h4:=rQ (n:=n) l;have h3:(Lin.ineqsOf n l).length^(n+1-1)<=10^3:=Wj (XU (show _<=10 by omega) _) (Wx (by decide) zO);unfold Lin.gensP;split
 ·rw [Wm,V7,V7];omega
 ·simp
def OL (h:PolyOK n 64 64 K G) (hn:n<=3) (g:K.length<=9) (e:a.length=n+1) (i:Lin.Bd (2^64) a):PolyOK n (16*(129+4)) (16*(16*(129+4)+4)) (Lin.consP n (Lin.gensP n (K.map (Lin.bkC x a)))) (Lin.gensP n (K.map (Lin.bkC x a))):=by
 have f:∀ c∈K.map (Lin.bkC x a),c.1.length=n+1/\Lin.Bd (2^129) c.1:=fun c hc=>by
  obtain ⟨q,b,rfl⟩:=V5.1 hc;exact ⟨Lin.bk_len (h.own.rows q b) e,Sl (h.own.rows q b) e (h.rowK q b).2 i⟩
 have d:=tt hn f;have j:=yx hn d;have hr:∀ c∈K.map (Lin.bkC x a),c.1.length=n+1:=fun c hc=>(f c hc).1;have l1:=Lin.own_len (n:=n) hr;have k:=Jv hr hn (by rw [V7]; exact g);rw [V7] at l1;exact ⟨Lin.own_of hr,zO,.inl zO,zO,fun c hc=>(j c hc).2,fun x hx=>(d x hx).2,zO,zO⟩
end
end Go.Proofs.YteaefaohjlmjdaaGreat.Ev
namespace Go.Proofs.YteaefaohjlmjdaaGreat.Lin
section
variable {n x:Nat} {a r:V} {K:List (V × Bool)} {G:List (Nat × V)}
def tf {c:V × Bool} {y:Nat × V} (h:keepsP c y=true):(c.2=true->dot c.1 y.2=0)/\0<=dot c.1 y.2:=by
 rw [gU] at h;split at h
 ·exact ⟨fun _=>h,zO⟩
 ·rename_i q;exact ⟨fun e=>absurd (.inl e) q,h⟩
def sL {c:V × Bool} {k:Nat} (a:k≠1) (h:(c.2=true->dot c.1 r=0)/\0<=dot c.1 r):keepsP c (k,r)=true:=by
 rw [gU];split
 ·rename_i q;rcases q with q | q
  ·exact h.1 q
  ·exact absurd q a
 ·exact h.2
def pt_keep {l:List (V × Bool)} (hr:r.length=n+1) (h0:0<hd1 r):inP [(3,r)] l=true ↔ KeepP n l r:=by
 rw [inP_iff,keepP_iff];constructor
 ·intro h;refine ⟨hr,zO,fun c hc=>?_⟩
  have:=tf (h (3,r) (Wl.2 rfl) c hc)
  exact ⟨this.1,fun _=>this.2⟩
 ·rintro ⟨-,-,h⟩ y hy c hc;rw [Wl] at hy; subst hy;refine sL (by decide) ⟨(h c hc).1,?_⟩;cases hb:c.2 with
  | false=>exact (h c hc).2 hb
  | true=>have:=(h c hc).1 hb; omega
def Th {l:List (V × Bool)} (hl:∀ c∈l,c.1.length=n+1) (hr:r.length=n+1) (h0:0<hd1 r):inP [(3,r)] (consP n (gensP n l))=inP [(3,r)] l:=by
 rw [Xo,pt_keep hr h0,pt_keep hr h0];by_cases he:gensP n l=[]
 ·constructor
  ·intro h;rw [he] at h
   have:=((keepP_iff.1 h).2.2 (unitC n (-1),false) (Wl.2 rfl)).2 rfl
   rw [fl] at this;omega
  ·intro h;exact absurd he ((yn hl).2 ⟨r,h,h0⟩)
 ·exact Bz hl (tE he) r
def back_pt (b:∀ c∈K,c.1.length=n+1) (ha:a.length=n+1) (hx:x<n) (hr:r.length=n+1) (h0:0<hd1 r):inP [(3,mvR x a 0 r)] K=inP [(3,r)] (consP n (gensP n (K.map (bkC x a)))):=by
 rw [Th (RO b ha) hr h0,Xo,inP_iff,inP_iff];constructor
 ·intro h y hy c hc;rw [Wl] at hy; subst hy;obtain ⟨d,hd,rfl⟩:=V5.1 hc;rw [GQ (b d hd) hr ha hx];exact h (3,mvR x a 0 r) (Wl.2 rfl) d hd
 ·intro h y hy c hc;rw [Wl] at hy; subst hy
  have:=h (3,r) (Wl.2 rfl) (bkC x a c) (V5.2 ⟨c,hc,rfl⟩)
  rw [GQ (b c hc) hr ha hx] at this;exact this
def Own.pt (o:Own n K G) {d:V × Bool} (a:G≠[]) (b:∀ g∈G,keepsP d g=true) (hr:KeepP n K r):(d.2=true->dot d.1 r=0)/\0<=dot d.1 r :=
 (Ir o.rows (by rw [o.gens]; exact a)).1 (fun g hg=>by rw [o.gens] at hg; exact b g hg) r hr
def Own.ne (o:Own n K G) (hr:KeepP n K r) (h0:0<hd1 r):G≠[]:=by
 have:=(yn o.rows).2 ⟨r,hr,h0⟩
 rw [o.gens] at this; exact this
def U2 (n x:Nat) (a:V) (z:Int) (c:V × Bool):V × Bool:=(mix 1 (bkC x a c).1 (c.1.getD (x+1) 0*z) (unitC n 1),c.2)
def IA {c:V × Bool} {z:Int} (hc:c.1.length=n+1) (hr:r.length=n+1) (ha:a.length=n+1) (hx:x<n):dot (U2 n x a z c).1 r=dot c.1 (mvR x a z r):=by
 obtain ⟨c,b⟩:=c;have h1:=PT (b:=b) hc hr ha hx;have h2:dot c (mvR x a 0 r)=dot (c.set (x+1) 0) r+c.getD (x+1) 0*(dot a r+hd1 r*0):=mc c r _ _ (by show c.length=_; rw [hr]; exact hc) (by have:c.length=n+1:=hc; omega);have h3:dot c (mvR x a z r)=dot (c.set (x+1) 0) r+c.getD (x+1) 0*(dot a r+hd1 r*z):=mc c r _ _ (by show c.length=_; rw [hr]; exact hc) (by have:c.length=n+1:=hc; omega);unfold U2;simp only;rw [dot_comm,aU _ _ _ (by rw [bk_len hc ha,unitC_len]),dot_comm r,dot_comm r,h1,fl,h2,h3]
 grind
def Kq {c:V} {z w:Int} (hc:c.length=n+1) (hr:r.length=n+1) (hx:x<n):dot c (mvR x a z r)=dot c (mvR x a w r)+c.getD (x+1) 0*hd1 r*(z-w):=by
 have h2:dot c (mvR x a w r)=dot (c.set (x+1) 0) r+c.getD (x+1) 0*(dot a r+hd1 r*w):=mc c r _ _ (by rw [hr]; exact hc) zO;have h3:dot c (mvR x a z r)=dot (c.set (x+1) 0) r+c.getD (x+1) 0*(dot a r+hd1 r*z):=mc c r _ _ (by rw [hr]; exact hc) zO;rw [h2,h3]
 grind
def sM {c:V} {k:Int} (hc:c.length=n+1) (hx:x<n):dot c (Ev.unitX n x k)=c.getD (x+1) 0*k:=by
 unfold Ev.unitX;rw [mc c _ _ _ (by rw [Xv]; exact hc) zO,dot_comm,yu];omega
def hav_pt {z:Int} (o:Own n K G) (ha:a.length=n+1) (hx:x<n) (hr:KeepP n K r) (h0:0<hd1 r):inP [(3,mvR x a z r)] (consP n (Ev.havL n x G))=true:=by
 have b:=o.ne hr h0;have hl:=(keepP_iff.1 hr).1;have e:Ev.havL n x G=G++[(1,Ev.unitX n x 1)]:=by unfold Ev.havL; rw [if_neg b]
 rw [e];have d:ValidG n (G++[(1,Ev.unitX n x 1)]):=fun y hy=>by
  rcases Wp.1 hy with h | h
  ·exact o.valid y h
  ·rw [Wl] at h; subst h;exact ⟨Ev.unitX_len _ _ _,fun (h:(1:Nat)=3)=>by omega,fun _=>Ev.unitX_hd _ _ _⟩
 have h3:(G++[(1,Ev.unitX n x 1)]).any (fun y=>y.1 == 3)=true:=by rw [List.any_append,o.point b,Bool.true_or]
 rw [inP_iff];intro y hy c hc;rw [Wl] at hy; subst hy;have hcl:=jG (n:=n) (fun y hy=>(d y hy).1) c hc;have q1:=xM d h3 (XB _ (Wl.2 rfl)) hc;rw [gU,if_pos (.inr rfl),sM hcl hx] at q1;have hp:=o.pt b (fun g hg=>xM d h3 (Xg _ hg) hc) hr;have hlt:x+1<r.length:=zO;have s1:dot c.1 (mvR x a z r)=dot c.1 r:=by
  have i:dot c.1 (r.set (x+1) (dot a r+hd1 r*z))=_:=mc c.1 r (x+1) (dot a r+hd1 r*z) zO zO;have f:=mc c.1 r (x+1) r[x+1] zO zO;rw [List.set_getElem_self] at f;unfold mvR;rw [i,f]
  have:c.1.getD (x+1) 0=0:=zO
  rw [this]; omega
 refine sL (by decide) ?_;rw [s1];exact hp
def put_pt {rn rn':Bool} {lo hi z:Int} (o:Own n K G) (ha:a.length=n+1) (hx:x<n) (hr:KeepP n K r) (h0:0<hd1 r) (h1:rn=false->lo<=z) (h2:rn'=false->z<=hi):inP [(3,mvR x a z r)] (consP n (Ev.putL n x a rn lo rn' hi G))=true:=by
 have u:=o.ne hr h0;have hl:=(keepP_iff.1 hr).1;have B:=Ev.putL_valid (n:=n) (x:=x) (a:=a) (rn:=rn) (rn':=rn') (lo:=lo) (hi:=hi) o.valid;have C:∀ g∈G,g.1=3->∀ w∈Ev.endsL rn lo rn' hi,mvG x a w g∈Ev.putL n x a rn lo rn' hi G:=fun g hg e w j=>by
  unfold Ev.putL;refine Xg _ (Zk.2 ⟨g,hg,?_⟩);unfold Ev.putOne;rw [if_pos e];exact V5.2 ⟨w,j,rfl⟩
 have I:∀ g∈G,g.1≠3->mvG x a 0 g∈Ev.putL n x a rn lo rn' hi G:=fun g hg e=>by
  unfold Ev.putL;refine Xg _ (Zk.2 ⟨g,hg,?_⟩);unfold Ev.putOne;rw [if_neg e];exact Wl.2 rfl
 have J:∀ y∈Ev.putTail n x rn rn',y∈Ev.putL n x a rn lo rn' hi G:=fun y hy=>by
  unfold Ev.putL;rw [if_neg u];exact XB _ hy
 have h3:(Ev.putL n x a rn lo rn' hi G).any (fun y=>y.1 == 3)=true:=by
  have:=o.point u
  rw [WK] at this ⊢;obtain ⟨g,hg,e⟩:=this;have e:g.1=3:=by simpa using e
  obtain ⟨w,j⟩:∃ w,w∈Ev.endsL rn lo rn' hi:=by
   have:=(Ev.endsL_len rn lo rn' hi).1
   exact ⟨(Ev.endsL rn lo rn' hi)[0],V4 _⟩
  exact ⟨_,C g hg e w j,by simp [mvG,e]⟩
 rw [inP_iff];intro y hy c hc;rw [Wl] at hy; subst hy;have hcl:=jG (n:=n) (fun y hy=>(B y hy).1) c hc;have v:∀ y∈Ev.putL n x a rn lo rn' hi G,keepsP c y=true:=fun y hy=>xM B h3 hy hc;have key:∀ g∈G,keepsP (U2 n x a z c) g=true:=by
  intro g hg;have p:=(o.valid g hg).1;by_cases e3:g.1=3
  ·have m:=(o.valid g hg).2.1 e3;obtain ⟨k,g⟩:=g;have e3:k=3:=e3;subst e3;refine sL (by decide) ?_;rw [IA hcl p ha hx];have i:∀ w∈Ev.endsL rn lo rn' hi,(c.2=true->dot c.1 (mvR x a w g)=0)/\0<=dot c.1 (mvR x a w g):=fun w j=>tf (v _ (C _ hg rfl w j));show (c.2=true->_)/\_
   generalize l:c.1.getD (x+1) 0=b at *
   have df:∀ w,dot c.1 (mvR x a z g)=dot c.1 (mvR x a w g)+b*hd1 g*(z-w):=fun w=>by rw [<- l]; exact Kq hcl p hx
   have m:0<hd1 g:=m;have A:∀ y∈Ev.putTail n x rn rn',keepsP c y=true:=fun y hy=>v y (J y hy);cases rn <;> cases rn'
   ·have D:=h1 rfl;have a2:=h2 rfl;by_cases s:lo=hi
    ·have:z=lo:=zO
     rw [this];exact i lo (by unfold Ev.endsL; simp [s])
    ·obtain ⟨d,q⟩:=i lo (by unfold Ev.endsL; simp [s]);obtain ⟨E,b4⟩:=i hi (by unfold Ev.endsL; simp [s]);have d1:=df lo;have d2:=df hi;have p1:0<=z-lo:=zO;have p2:0<=hi-z:=zO;constructor
     ·intro hb;have F:=d hb;have L:=E hb;have e4:b*hd1 g*(hi-lo)=0:=by grind
      have f:b*hd1 g=0:=by
       rcases Wy.1 e4 with h | h
       ·exact h
       ·omega
      rw [d1,F,f]; omega
     ·by_cases hs:0<=b*hd1 g
      ·rw [d1]
       have:=WI hs p1
       omega
      ·rw [d2]
       have:=WI (show 0 <= -(b*hd1 g) by omega) p2
       have e6:b*hd1 g*(z-hi) = -(b*hd1 g)*(hi-z):=by grind
       omega
   ·have D:=h1 rfl;obtain ⟨d,q⟩:=i lo (by unfold Ev.endsL; simp);have t:=tf (A (2,Ev.unitX n x 1) (by unfold Ev.putTail; simp));rw [sM hcl hx,l] at t;have d1:=df lo;have p1:0<=z-lo:=zO;constructor
    ·intro hb
     have:=t.1 hb
     have f:b=0:=zO;rw [d1,d hb,f]; omega
    ·rw [d1]
     have:=WI (WI (show 0<=b by omega) (show 0<=hd1 g by omega)) p1
     omega
   ·have a2:=h2 rfl;obtain ⟨d,q⟩:=i hi (by unfold Ev.endsL; simp);have t:=tf (A (2,Ev.unitX n x (-1)) (by unfold Ev.putTail; simp));rw [sM hcl hx,l] at t;have d1:=df hi;have p1:0<=hi-z:=zO;constructor
    ·intro hb
     have:=t.1 hb
     have f:b=0:=zO;rw [d1,d hb,f]; omega
    ·rw [d1]
     have:=WI (WI (show 0 <= -b by omega) (show 0<=hd1 g by omega)) p1
     have e6:b*hd1 g*(z-hi) = -b*hd1 g*(hi-z):=by grind
     omega
   ·obtain ⟨d,q⟩:=i 0 (by unfold Ev.endsL; simp);have t:=A (1,Ev.unitX n x 1) (by unfold Ev.putTail; simp);rw [gU,if_pos (.inr rfl)] at t;rw [sM hcl hx,l] at t;have f:b=0:=zO;have d1:=df 0;rw [f] at d1;constructor
    ·intro hb;rw [d1,d hb]; omega
    ·rw [d1]; omega
  ·have m:=(o.valid g hg).2.2 e3;have hs:=v _ (I g hg e3);have H:dot (U2 n x a z c).1 g.2=dot c.1 (mvG x a 0 g).2:=by
    rw [IA hcl p ha hx,Kq (w:=0) hcl p hx,m];show _=dot c.1 (mvR x a 0 g.2);omega
   rw [gU] at hs ⊢;rw [H];exact hs
 have hp:=o.pt u key hr;refine sL (by decide) ?_;rw [IA hcl hl ha hx] at hp;exact hp
end
end Go.Proofs.YteaefaohjlmjdaaGreat.Lin
namespace Go.Proofs.YteaefaohjlmjdaaGreat.Ev
open Go Nn
def KO {n:Nat} {x:tP} (b:dZ x.2) (hg:gV 1 [x]=false) (hn:n<=4) :
  bI n [x]≠0\/(Lin.ValidG n [Se x]/\(x.1=1\/x.1=2\/x.1=3)/\Lin.Bd (2^64) (Se x).2/\∀ z∈x.2,gG z=false/\Lim z.2):=by
 by_cases hc:bI n [x]=0
 ·refine .inr ?_;obtain ⟨-,h2⟩:=jC hg;unfold bI at hc;split at hc
  ·omega
  split at hc
  ·omega
  split at hc
  ·omega
  split at hc
  ·omega
  rename_i q1 q2 q3 q4;have q3:CZ x=false:=by
   cases c:CZ x with
   | false=>rfl
   | true=>exact absurd (WK.2 ⟨x,Wl.2 rfl,c⟩) q3
  have hl:(x.2.length:Int)=n+1:=by
   apply WM
   intro hn;exact q4 (WK.2 ⟨x,Wl.2 rfl,by simpa using hn⟩)
  unfold CZ at q3;rw [XZ] at q3;have ok:tW x.2=true:=by simpa using q3.1
  have a:=q3.2;unfold Gz at a;refine ⟨fun y hy=>?_,?_,II fun z hz=>⟨(b.1 z hz).1,(h2 x (Wl.2 rfl)).2 z hz⟩,fun z hz=>⟨EZ ok z hz,(b.1 z hz).1⟩⟩
  ·rw [Wl] at hy;subst hy;refine ⟨by show (x.2.map aR).length=_; rw [V7]; omega,fun e=>?_,fun e=>?_⟩
   ·have e:x.1=3:=e;rw [if_neg (by simp only; omega),if_pos e] at a
    have:=of_decide_eq_false a
    show 0<Lin.hd1 (x.2.map aR);simp only at this;omega
   ·have e:x.1≠3:=e;split at a
    ·have:=of_decide_eq_false a
     show Lin.hd1 (x.2.map aR)=0;simp only at this;omega
    ·cases a
  ·split at a
   ·rename_i h; simp only at h; omega
   ·split at a
    ·rename_i h; simp only at h; omega
    ·cases a
 ·exact .inl hc
def Kb {l:List (Bool × List Nat)} (a:dZ l) (hg:fN 5 1 l=false) (b:tW l=true):Lin.Bd (2^64) (l.map aR)/\∀ z∈l,gG z=false/\Lim z.2 :=
 ⟨II fun z hz=>⟨(a.1 z hz).1,(lZ hg).2 z hz⟩,fun z hz=>⟨EZ b z hz,(a.1 z hz).1⟩⟩
def Tt {H:Heap} {b:Nat} {v:AV} {g:tP} {r:Bool} (h:H.get b=some (.cells [.int .u8 (g.1:Int),v] ag r)) (c:SlV rawE aa H v g.2):SlV genQE ag H (.own b 0 1 1 2 true) [g] :=
 ⟨_,Rd.own h rfl (V6 _),fun _ _ _ _ _ _ e=>by cases e; exact ⟨_,_,h⟩,rfl,fun i a hi=>by
  match i with
  | 0=>simp at hi; subst hi; exact ⟨v,rfl,c⟩
  | i+1=>simp at hi⟩
def GF {n:Bool} {z:Bool × List Nat} (h:uW n z=true):gG z=false:=by
 unfold uW at h;cases n with
 | true =>
  obtain ⟨b,l⟩:=z;simp only [if_true,WA,W5,decide_eq_true_eq] at h;obtain ⟨rfl,hl⟩:=h
  have:l=[]:=WR hl
  subst this; rfl
 | false=>simpa using h
def Je {n n':Bool} {z z':Bool × List Nat} (h:eM n z n' z'=true):gG z=false/\gG z'=false:=by
 unfold eM at h;rw [WA,WA] at h;exact ⟨GF h.1.1,GF h.1.2⟩
section
variable {tab:Nat->Option aA} {H:Heap}
def EQ (C:Code tab) (i:Wf H) {pl ph:AV} {n n':Bool} {a b:Bool × List Nat} {m:Nat} (c:Lb H pl a.2) (f:Lb H ph b.2) :
  Ans tab (.fn fF [.agg [.bool n,.bool a.1,pl,.bool n',.bool b.1,ph],.int .i64 (m:Int)]) H fun x H'=>x=.bool (decide (m<a.2.length) || decide (m<b.2.length))/\Kp H H':=by
 have h:=c.one;have g:=f.one;have bx:=CM (ai n) (ai a.1) h (ai n') (ai b.1) g;refine bA C.q19 zU fun T hl d e=>?_;have Vu:bf [AV.bool n,.bool a.1,pl,.bool n',.bool b.1,ph] 2 none=some pl:=rfl;have Vt:bf [AV.bool n,.bool a.1,pl,.bool n',.bool b.1,ph] 5 none=some ph:=rfl;by_cases h1:m<a.2.length
 ·refine zW (dj hl d e bx c.lenV h1) ?_;exact ⟨rfl,zK⟩
 ·refine zW (fX hl d e bx @Vt c.lenV f.lenV h1) ?_;exact ⟨by simp,zK⟩
set_option maxHeartbeats 1000000 in
def Fk (C:Code tab) (I:Wf H) {v w pl ph:AV} {n:Nat} {c:List (List Int × Bool)} {g:List (Nat × List Int)} {l:List (Bool × List Nat)} {rn rn':Bool} {h f:Bool × List Nat} (hp:PolyV H v n c g) (hs:SlV rawE aa H w l) (q:Lb H pl h.2) (p:Lb H ph f.2) :
  Ans tab (.fn fH [v,w,.agg [.bool rn,.bool h.1,pl,.bool rn',.bool f.1,ph]]) H fun x H'=>x=.bool (mZ c g || decide (4<n) || decide (6<c.length) || decide (4<g.length) || fN 5 1 l || (decide (1<h.2.length) || decide (1<f.2.length)))/\Kp H H':=by
 obtain ⟨r,s,rfl,hc,hg⟩:=hp;have A:=hc.one;have B:=hg.one;have L:=hs.one;have E:=q.one;have D:=p.one;have bx:=CM (ai rn) (ai h.1) E (ai rn') (ai f.1) D;refine lC C.q3 zU fun T hl b a d=>?_;refine zW (dj hl b a d (jS A B) bx) ?_;refine AnsH.eq (yU C (n:=n) (c:=c) (g:=g) zF ⟨r,s,rfl,hc.mono (zG H),hg.mono (zG H)⟩) fun H2 o=>?_;obtain ⟨k2,_,w2⟩:=zT H zK o;have d0:H2.get H.next=some (.cells [.int .i64 (n:Int),r,s] am true):=o.get (cC)
 have d1:H2.get (H.next+1)=some (.cells [.bool rn,.bool h.1,pl,.bool rn',.bool f.1,ph] aV true):=o.get (cC)
 generalize G:(mZ c g || decide (4<n))=q1
 cases q1 with
 | true =>
  refine zW (aO hl b a d) ?_;exact ⟨by simp,zK⟩
 | false =>
 by_cases h2:6<c.length
 ·have j:(6:Int)<(c.length:Int):=zO;refine zW (fo hl b a d d0 hc.lenV j) ?_;exact ⟨by simp [h2],zK⟩
 have j:¬ (6:Int)<(c.length:Int):=zO;by_cases h3:4<g.length
 ·have k:(4:Int)<(g.length:Int):=zO;refine zW (jU hl b a d d0 hc.lenV j hg.lenV k) ?_;exact ⟨by simp [h3],zK⟩
 have k:¬ (4:Int)<(g.length:Int):=zO;refine zW (oK hl b a d d0 hc.lenV j hg.lenV k a) ?_;refine AnsH.eq (rm C (many:=5) (lim:=1) zF ((hs.mono k2.sub).mono (zG H2)) zO) fun i u=>?_;obtain ⟨k23,_,_⟩:=zT H2 zK u;have e:Kp H i:=k2.trans k23;have K:=e.le;have M:=e.wf;have t:=k23.get d1;cases q4:fN 5 1 l with
 | true =>
  refine zW (aO hl b a d) ?_;exact ⟨by simp,zK⟩
 | false =>
 refine zW (dj hl b a d t @jq) ?_;refine AnsH.eq (EQ C (m:=1) zF ((q.mono e.sub).mono (zG i)) ((p.mono e.sub).mono (zG i))) fun F y=>?_;obtain ⟨z,_,N⟩:=zT i zK y;have J:=e.trans z;refine zW (aO hl b a d) ?_;exact ⟨by simp [h2,h3],zK⟩
def Ru {pl ph:AV} {n n':Bool} {b a:Bool × List Nat} (i:Lb H pl b.2) (g:Lb H ph a.2) (ll:Lim b.2) (k:Lim a.2) (h:eM n b n' a=true):ItvV H (.agg [.bool n,.bool b.1,pl,.bool n',.bool a.1,ph]) n (aR b) n' (aR a)/\eM n (bF (aR b)) n' (bF (aR a))=true:=by
 obtain ⟨e,f⟩:=Je h;have c:=sS e ll;have d:=sS f k;have d1:decide (aR b<0)=b.1:=congrArg Prod.fst c;have d2:decide (aR a<0)=a.1:=congrArg Prod.fst d;have l1:ah (aR b).natAbs=b.2:=congrArg Prod.snd c;have j:ah (aR a).natAbs=a.2:=congrArg Prod.snd d;refine ⟨⟨pl,ph,by rw [d1,d2],?_,?_⟩,by rw [c,d]; exact h⟩
 ·show Lb H pl (ah _);rw [l1]; exact i
 ·show Lb H ph (ah _);rw [j]; exact g
def GR (C:Code tab) (B:Wf H) {v w:AV} {n n':Bool} {x y:Int} {z:Bool × List Nat} (h:ItvV H v n x n' y) (hz:Lb H w z.2) (hx:Bt 8388608 x) (hy:Bt 8388608 y) (k:z.2.length<4611686018427387904) (hb:gG z=true) (hm:eM n (bF x) n' (bF y)=true) :
  Ans tab (.fn o0 [v,.agg [.bool z.1,w]]) H fun r H'=>r=.tup [.bool false,.int .i64 8]/\Kp H H':=by
 obtain ⟨p,q,rfl,hp,e⟩:=h;have op:=hp.one;have u:=e.one;have os:=hz.one;have bx:=CM (ai n) (ai (decide (x<0))) op (ai n') (ai (decide (y<0))) u;have s:(ah x.natAbs).length<=1048576:=iN (m:=8388608) hx zO;have t:(ah y.natAbs).length<=1048576:=iN (m:=8388608) hy zO;refine bA C.q9 zU fun T hl a c=>?_;refine zW (bB hl a c bx @jq) ?_;refine AnsH.eq (tj C (n:=n) (n':=n') (z:=bF x) (z':=bF y) zF (hp.mono (zG H)) (e.mono (zG H)) (aY _) (aY _) s t) fun H2 d=>?_;rw [hm];obtain ⟨k2,_,w2⟩:=zT H zK d;have g:H2.get (H.next+1)=some (.cells [.bool z.1,w] aa true):=d.get (cC);have z0:(if true=true then (0:Int) else 8)=0:=rfl;refine zW (bB hl a c @g z0) ?_;refine AnsH.eq (qU C (b:=z.1) (l:=z.2) zF ((hz.mono k2.sub).mono (zG H2)) k) fun f j=>?_;have i:gG (z.1,z.2)=true:=hb;rw [i];have A:(if true=true then (8:Int) else 0)=8:=rfl;have o:Kp H f:=k2.trans (Kp.trans zK j);have D:=o.le;refine zW (aO hl a c A) ?_;exact zK
def Pi (C:Code tab) (b:Wf H) {v w:AV} {n n':Bool} {x y:Int} {z:Bool × List Nat} (h:ItvV H v n x n' y) (hz:Lb H w z.2) (hl:Lim z.2) (c:z.2.length<=1) (hx:Bt 64 x) (hy:Bt 64 y) (hm:eM n (bF x) n' (bF y)=true) :
  Ans tab (.fn o0 [v,.agg [.bool z.1,w]]) H fun r H'=>r=.tup [.bool (!gG z && rR n x n' y (aR z)),.int .i64 (if gG z then 8 else 0)]/\Kp H H':=by
 have a:∀ {q:Int},Bt 64 q->Bt 8388608 q:=fun h=>h.mono zO;cases hb:gG z with
 | true=>exact GR C b h hz (a hx) (a hy) zO hb hm
 | false =>
  refine (Rx C b h (qe hb hl hz) (a hx) (a hy) (a (qX hl c)) hm).mono ?_;rintro r H' ⟨rfl,k⟩;exact ⟨by simp,k⟩
def L9 (C:Code tab) (c:Wf H) {v w:AV} {n e f:Nat} {K:List (List Int × Bool)} {G:List (Nat × List Int)} {r:tP} (hp:PolyV H v n K G) (a:PolyOK n e f K G) (hr:SlV rawE aa H w r.2) (b:dZ r.2) (hg:gV 1 [r]=false) :
  Ans tab (.fn mQ [v,.agg [.int .u8 (r.1:Int),w]]) H fun x H'=>x=.tup [.bool (decide (bI n [r]=0) && Lin.inP [(r.1,r.2.map aR)] K),.int .i64 (bI n [r])]/\Kp H H':=by
 have hn:=a.dim;by_cases hc:bI n [r]=0
 ·rcases KO (n:=n) b hg hn with h | ⟨g,d,hb,hz⟩
  ·exact absurd hc h
  refine (kS C c hp a (SlV.int hr hz) g d hb zO).mono ?_;rintro x H' ⟨rfl,k⟩;exact ⟨by rw [hc]; simp,k⟩
 ·refine (EV C c hp a hr (Jr hg _ (Wl.2 rfl)) (fun z hz=>⟨(b.1 z hz).1,by have:=((jC hg).2 r (Wl.2 rfl)).2 z hz; omega⟩) hc).mono ?_;rintro x H' ⟨rfl,k⟩;exact ⟨by simp [hc],k⟩
section
variable {n x:Nat} {a:List Int} {K:List (List Int × Bool)} {G:List (Nat × List Int)}
def Gy {m:Nat} {L:List (Nat × List Int)} (a:Lin.ValidG n L) (hn:n<=3) (hL:L.length<=9) (hb:∀ y∈L,Lin.Bd (2^m) y.2) (hm:m<=1000):PolyOK n (16*(16*(m+4)+4)) (16*(m+4)) (Lin.consP n L) (Lin.gensP n (Lin.consP n L)):=by
 have b:=yx (m:=m) hn (fun y hy=>⟨(a y hy).1,hb y hy⟩);have d:=tt hn b;have l1:=Lin.span_len a;have e:=MU a;have l3:2^L.length<=2^9:=Wx zU hL;exact ⟨Lin.own_span a,zO,.inr ⟨zO,zO⟩,zO,fun c hc=>(b c hc).2,fun x hx=>(d x hx).2,zO,zO⟩
def RB {m:Nat} (a:∀ g∈G,Lin.Bd (2^m) g.2):∀ y∈havL n x G,Lin.Bd (2^m) y.2:=fun y hy=>by
 unfold havL at hy;split at hy
 ·cases hy
 rcases Wp.1 hy with h | h
 ·exact a y h
 ·rw [Wl] at h; subst h;refine pw fun z hz=>?_;have p1:1<=2^m:=WL zU;rcases XM hz with h | rfl
  ·have:=Xz h
   subst this; exact Wd _
  ·omega
def B5 (a:Lin.ValidG n G):Lin.ValidG n (havL n x G):=fun y hy=>by
 unfold havL at hy;split at hy
 ·cases hy
 rcases Wp.1 hy with h | h
 ·exact a y h
 ·rw [Wl] at h; subst h;exact ⟨unitX_len _ _ _,fun (h:(1:Nat)=3)=>by omega,fun _=>unitX_hd _ _ _⟩
def Pm:(havL n x G).length<=G.length+1:=by
 unfold havL; split
 ·simp
 ·rw [Wm]; simp
def OK (h:PolyOK n 64 64 K G) (hn:n<=3) (a:G.length<=4):PolyOK n (16*(16*(64+4)+4)) (16*(64+4)) (Lin.consP n (havL n x G)) (Lin.gensP n (Lin.consP n (havL n x G))) :=
 Gy (B5 h.own.valid) hn (by have:=Pm (n:=n) (x:=x) (G:=G); omega) (RB fun g hg=>(h.rowG g hg).2) zO
def Rb {rn rn':Bool} {lo hi:Int} (h:PolyOK n 64 64 K G) (hn:n<=3) (f:G.length<=4) (e:a.length=n+1) (d:Lin.Bd (2^64) a) (b:Bt 64 lo) (c:Bt 64 hi):PolyOK n (16*(16*(195+4)+4)) (16*(195+4)) (Lin.consP n (putL n x a rn lo rn' hi G)) (Lin.gensP n (Lin.consP n (putL n x a rn lo rn' hi G))):=by
 have h1:=oV x a rn lo rn' hi G;have h2:(putTail n x rn rn').length<=1:=by unfold putTail; cases rn <;> cases rn' <;> simp
 refine Gy (m:=195) (putL_valid h.own.valid) hn ?_ (Kd hn e d (fun g hg=>(h.rowG g hg).2) b c) zO;unfold putL;rw [Wm];split
 ·simp only [Yg]; omega
 ·omega
def U0 (r:AV):Prop:=∃ y u z c,r=.tup [.agg [.int .i64 y,u,z],.int .i64 c]/\One u/\One z
def Ld (c:Int):U0 (.tup [rr,.int .i64 c]):=⟨0,.nilSl,.nilSl,c,rfl,bH,bH⟩
def Ky {H:Heap} {v:AV} {g:List (Nat × List Int)} (h:py H v n g):U0 v:=by
 rcases h with ⟨rfl,-⟩ | ⟨p,rfl,⟨a,b,rfl,hc,hg⟩,-⟩
 ·exact Ld 4
 ·exact ⟨_,_,_,_,rfl,hc.one,hg.one⟩
def QW {H:Heap} {v:AV} {g:List (Nat × List Int)} (h:xz H v n g):U0 v:=by
 rcases h with ⟨rfl,-⟩ | h
 ·exact Ld 4
 ·exact Ky h
def wI (C:Code tab) (d:Wf H) {v:AV} (hp:PolyV H v n K G) (a:PolyOK n 64 64 K G) (hx:x<n) (c:n<=3) (b:G.length<=4) :
  Ans tab (.fn gc [v,.int .i64 (x:Int)]) H fun r H'=>xz H' r n (havL n x G)/\Kp H H':=by
 have ok:=OK (x:=x) a c b;exact B2 C (m2:=16*(64+4)) (m3:=16*(16*(64+4)+4)) d hp a hx zO (B5 a.own.valid) ok.bK zO ok.bG zO (.inl ok.lenK)
def B3 (C:Code tab) (b:Wf H) {v:AV} {x:Int} (hp:PolyV H v n K G) (a:PolyOK n 64 64 K G) (f:n<=3) (e:G.length<=4) :
  Ans tab (.fn gc [v,.int .i64 x]) H fun r H'=>U0 r/\Kp H H':=by
 by_cases hb:de n x=0
 ·unfold de at hb;split at hb
  ·omega
  obtain ⟨d,rfl⟩:∃ d:Nat,x=(d:Int):=⟨x.toNat,zO⟩
  exact (wI C b hp a zO f e).mono fun _ _ ⟨h,k⟩=>⟨QW h,k⟩
 ·exact (Al C b hp a hb).mono fun _ _ ⟨⟨c,_,h⟩,k⟩=>⟨h ▸ Ld c,k⟩
def C4 (C:Code tab) (d:Wf H) {v w:AV} {x:Int} {l:List (Bool × List Nat)} (hp:PolyV H v n K G) (b:PolyOK n 64 64 K G) (hs:SlV rawE aa H w l) (j:nr l) (f:dZ l) (m:fN 5 1 l=false) (o:n<=3) (g:K.length<=60) :
  Ans tab (.fn jy [v,.int .i64 x,w]) H fun r H'=>U0 r/\Kp H H':=by
 by_cases hb:de n x=0/\gC n l=0
 ·obtain ⟨hb,a⟩:=hb;unfold de at hb;split at hb
  ·omega
  unfold gC at a;split at a
  case isFalse=>omega
  rename_i p;split at a
  case isTrue=>omega
  obtain ⟨i,q⟩:=Kb f m p;obtain ⟨e,rfl⟩:∃ e:Nat,x=(e:Int):=⟨x.toNat,zO⟩
  exact (tZ C d hp b (SlV.int hs q) (by rw [V7]; omega) i zO o g zO).mono fun _ _ ⟨h,k⟩=>⟨Ky h,k⟩
 ·exact (B4 C d hp b hs j zO).mono fun _ _ ⟨⟨c,_,h⟩,k⟩=>⟨h ▸ Ld c,k⟩
end
end
section
variable {tab:Nat->Option aA} {H:Heap} {s1 s2:AV}
def Mm {v:AV} {d:Int} (h:P7 H v d):∃ x u w b,v=.tup [.agg [.int .i64 x,u,w],.bool b]/\One u/\One w:=by
 rcases h with ⟨_,rfl,x,u,w,rfl,a,c⟩ | ⟨n,p,K,G,-,-,rfl,⟨e,f,rfl,hc,hg⟩,-⟩
 ·exact ⟨_,_,_,_,rfl,a,c⟩
 ·exact ⟨_,_,_,_,rfl,hc.one,hg.one⟩
def Nw {b N:Nat} (h:H.get b=some (.cells ((List.replicate N [AV.int .i64 0]).flatten) d9 true)):AD (Fo .i64) d9 H (.own b 0 N N 1 true) (List.replicate N 0) :=
 (show Own (bU (Fo .i64)) d9 (Heap.nil 0) H b true _ _ from ⟨_,by rw [Xv]; rfl,h,mm (E:=bU (Fo .i64)) ⟨_,rfl,rfl⟩ N,Wd _⟩).sl
set_option maxHeartbeats 16000000 in
def law23_ImagePoints (C:Code tab) (hw:Wf H) {d x:Int} {l:List xA} {ax:List (Bool × List Nat)} {rn rn':Bool} {zl zh W:Bool × List Nat} {pl ph pn:AV} {N:tP} {cN:List AV} (eY:SlV conQE t_api_Con H s1 l) (ct:SlV rawE aa H s2 ax) (cq:Lb H pl zl.2) (cp:Lb H ph zh.2) (eQ:genQE.R H cN N) (dP:Lb H pn W.2) (gl:∀ r∈l,dZ r.1) (gr:dZ ax) (b4:jE zl) (b3:jE zh) (gg:dZ N.2/\N.1<256) (b5:jE W) (_ : -9223372036854775808<=d/\d<9223372036854775808) (_ : -9223372036854775808<=x/\x<9223372036854775808) :
  Ans tab (.fn dz [.int .i64 d,s1,.int .i64 x,s2,.agg [.bool rn,.bool zl.1,pl,.bool rn',.bool zh.1,ph],.agg cN,.agg [.bool W.1,pn]]) H fun v H'=>v=.bool true/\Kp H H':=by
 obtain ⟨wg,rfl,cj⟩:=eQ;have ow:=cj.one;have fJ:=ct.one;have fd:=cq.one;have fc:=cp.one;have fe:=dP.one;have bx:=CM (ai rn) (ai zl.1) fd (ai rn') (ai zh.1) fc;refine Am C.q0 rfl rfl zU fun T hl g=>?_;have hl:T.length=189:=hl;have ah:c_facetroomlaw23_ImagePoints.results=[(14,none)]:=rfl;have t:ad T 0=.int .i64 d:=g 0 (by simp);have g1:ad T 1=s1:=g 1 (by simp);have i:ad T 2=.int .i64 x:=g 2 (by simp);have j:ad T 3=s2:=g 3 (by simp);have g4:ad T 4=.agg [.bool rn,.bool zl.1,pl,.bool rn',.bool zh.1,ph]:=g 4 (by simp);have g5:ad T 5=.agg [.int .u8 (N.1:Int),wg]:=g 5 (by simp);have g6:ad T 6=.agg [.bool W.1,pn]:=g 6 (by simp);clear g;refine aI ?_;refine zW (fX hl g4 g5 g6 bx (sB ow) (HN (ai W.1) fe) @aw) ?_;obtain ⟨H1,aU⟩:∃ X,X=(((H.up 4).put H.next (.cells [.bool rn,.bool zl.1,pl,.bool rn',.bool zh.1,ph] aV true)).put (H.next+1) (.cells [.int .u8 (N.1:Int),wg] ag true)).put (H.next+2) (.cells [.bool W.1,pn] aa true):=⟨_,rfl⟩
 have cy:Kp H H1:=by rw [aU]; exact zK
 have cT:H1.get H.next=some (.cells [.bool rn,.bool zl.1,pl,.bool rn',.bool zh.1,ph] aV true):=by rw [aU,au zO,au zO,al]
 have cO:H1.get (H.next+1)=some (.cells [.int .u8 (N.1:Int),wg] ag true):=by rw [aU,au zO,al]
 have cW:H1.get (H.next+2)=some (.cells [.bool W.1,pn] aa true):=by rw [aU,al]
 have w1:=cy.wf;rw [<- aU];clear aU;refine dC (fun T'=>T'.length=189/\ad T' 0=.int .i64 d/\ad T' 1=s1/\ad T' 2=.int .i64 x/\ad T' 3=s2/\ad T' 11=.ptr H.next 0/\ad T' 12=.ptr (H.next+1) 0/\ad T' 13=.ptr (H.next+2) 0) (zV (bB hl t g1 i j)) ?_;clear hl t g1 i j g4 g5 g6;rintro T ⟨hl,t,g1,i,j,c1,c2,g13⟩;refine aI ?_;refine zW hl ?_;refine AnsH.eq (GO C zF) fun H2 eS=>?_;obtain ⟨k2,_,w2⟩:=zT H1 zK eS;refine zW (aE hl @aw) ?_;refine aI ?_;refine zW (aD hl t g1) ?_;refine AnsH.use (Jj C zF ((eY.mono (cy.trans k2).sub).mono (zG H2)) gl) ?_;rintro v3 H3 ⟨cm,cl⟩;obtain ⟨y,u,z,b,bc,ou,oz⟩:=Mm cm;obtain ⟨k3,_,w3⟩:=zT H2 zK cl;have e3:Emp H3 H2.next (H2.next+9):=(Emp.start w2 (k:=9)).keep cl
 have n3:=e3.1;have fA:=e3.2 (H2.next+6) zO zO;obtain ⟨G3,a9⟩:∃ G3,G3=(H3.put (H2.next+6) (.cells [.int .i64 0,.nilSl,.nilSl] am true)).put (H2.next+6) (.cells [.int .i64 y,u,z] am true):=⟨_,rfl⟩
 have d5:Kp H2 G3:=by rw [a9]; exact zK
 have fj:Sub H3 G3:=by rw [a9]; exact (aG fA).put fA _
 have es:=d5.wf;have pA:G3.get (H2.next+6)=some (.cells [.int .i64 y,u,z] am true):=by rw [a9,al]
 refine zW (aO hl bc @jj @aw) ?_;rw [<- a9];clear a9;obtain ⟨P,hP⟩:∃ P,P=H2.next+6:=⟨_,rfl⟩
 rw [<- hP] at pA;rw [<- hP];have k13:Kp H1 G3:=k2.trans d5;have fz:=k13.le;have kA:Kp H G3:=cy.trans k13;have bZ:=k13.get cT;have bV:=k13.get cO;have cX:=k13.get cW;have eT:P7 G3 v3 d:=by
  rcases cm with h | ⟨n,p,K,G,h1,h2,h3,h4,h5⟩
  ·exact .inl h
  ·exact .inr ⟨n,p,K,G,h1,h2,h3,h4.mono fj,h5⟩
 clear cm cl e3 fA n3 cT cO cW;refine dC (fun T'=>T'.length=189/\ad T' 0=.int .i64 d/\ad T' 2=.int .i64 x/\ad T' 3=s2/\ad T' 11=.ptr H.next 0/\ad T' 12=.ptr (H.next+1) 0/\ad T' 13=.ptr (H.next+2) 0/\ad T' 15=.bool true/\ad T' 16=.ptr P 0/\ad T' 17=.bool b) (zV (fo hl t i j c1 c2 @g13)) ?_;clear hl t g1 i j c1 c2 g13;rintro T ⟨hl,t,i,j,R,o,s,aQ,w,cJ⟩;have fD:=es _ _ pA;refine aI ?_;rcases eT with ⟨_,h,-⟩ | ⟨n,p,K,G,rfl,aC,h,b6,hO,lK,lG⟩
 ·rw [bc] at h;cases h;refine zW (dj hl aQ w cJ @gK ah) ?_;exact zK
 rw [bc] at h;cases h;refine zW (fX hl j R w cJ pA bZ @jq) ?_;refine AnsH.eq (Fk C (n:=n) zF (b6.mono (zG G3)) ((ct.mono kA.sub).mono (zG G3)) ((cq.mono kA.sub).mono (zG G3)) ((cp.mono kA.sub).mono (zG G3))) fun H4 bF=>?_;obtain ⟨k4,_,w4⟩:=zT G3 zK bF;have kB:Kp H H4:=kA.trans k4
 generalize c9:(mZ K G || decide (4<n) || decide (6<K.length) || decide (4<G.length) || fN 5 1 ax || (decide (1<zl.2.length) || decide (1<zh.2.length)))=bl
 cases bl with
 | true =>
  refine zW (aO hl aQ @gK ah) ?_;exact zK
 | false =>
 simp only [XZ,decide_eq_false_iff_not] at c9;obtain ⟨⟨⟨⟨-,fq⟩,fp⟩,bM⟩,fs,ft⟩:=c9;have eJ:=Fx (p:=.int .u8 0) (q:=.nilSl) (bo .u8 (N.1:Int)) ow;have cP:=k4.get bV;refine zW (bB hl o aQ cP eJ) ?_;have n4:G3.next+23<=H4.next:=bF.le
 have f4:H4.get (G3.next+10)=none:=bF.free (show G3.next+10<G3.next+23 by omega) (es.fresh (b:=G3.next+10) zO);refine AnsH.eq (qI C (ls:=[N]) (n:=1) zF (Tt (al _ _ _) ((cj.mono kB.sub).mono (aG f4))) zO) fun D dv=>?_;obtain ⟨e6,_,_⟩:=zT G3 zK dv;have k5:Kp G3 D:=e6;have gc:=k5.le;have w5:=k5.wf;have kC:Kp H D:=kA.trans k5;have fx:=kC.le;cases dQ:gV 1 [N] with
 | true =>
  refine zW (aO hl aQ @gK ah) ?_;exact zK
 | false =>
 have bz:=k5.get cX;have bK:=dP.mono kC.sub;have tn:bf [AV.bool W.1,pn] 1 none=some pn:=rfl;by_cases fv:1<W.2.length
 ·have f1:(1:Int)<(W.2.length:Int):=zO;refine zW (jU hl s aQ bz tn bK.lenV f1 @gK ah) ?_;exact zK
 have f1:¬ (1:Int)<(W.2.length:Int):=zO;refine zW (fX hl s aQ bz tn bK.lenV f1 @aw) ?_;have ds:=lZ bM;have b8:nr ax:=⟨zO,fun z hz=>by have:=ds.2 z hz; omega⟩
 have a6:=k5.get pA;have bw:=k5.get bZ;have cQ:=k5.get bV;have ey:=b6.mono k5.sub;have bO:=ct.mono kC.sub;have dO:=cq.mono kC.sub;have dN:=cp.mono kC.sub;have dt:=cj.mono kC.sub;refine dC (fun T'=>T'.length=189/\ad T' 0=.int .i64 (n:Int)/\ad T' 2=.int .i64 x/\ad T' 3=s2/\ad T' 11=.ptr H.next 0/\ad T' 12=.ptr (H.next+1) 0/\ad T' 13=.ptr (H.next+2) 0/\ad T' 16=.ptr P 0) (zV (fX hl t i j R o s w)) ?_;clear hl t i j R o s aQ w cJ pA bF dv b6 f4 n4 bZ bV cX cP;rintro T ⟨hl,t,i,j,R,o,s,w⟩;refine aI ?_;obtain ⟨vc,vg,eV,aX,aZ⟩:=ey;cases eV;have n5:=k5.le;by_cases f5:de n x=0/\tW ax=true/\eM rn zl rn' zh=true/\gC n ax=0
 case neg =>
  refine zW (fX hl i j R w a6 bw @jq) ?_;refine AnsH.use (C3 C (n:=n) zF ⟨_,_,rfl,aX.mono (zG D),aZ.mono (zG D)⟩ hO (bO.mono (zG D)) b8 (dO.mono (zG D)) (dN.mono (zG D)) b4.1 b3.1 zO zO (by
   by_cases q1:de n x=0
   ·by_cases q2:tW ax=true
    ·by_cases q3:eM rn zl rn' zh=true
     ·exact .inr (.inr (.inr fun q4=>f5 ⟨q1,q2,q3,q4⟩))
     ·exact .inr (.inr (.inl (by simpa using q3)))
    ·exact .inr (.inl (by simpa using q2))
   ·exact .inl q1)) ?_
  rintro _ H6 ⟨⟨c,eE,rfl⟩,aB⟩;obtain ⟨k6,_,w6⟩:=zT D zK aB;have n6:D.next+11<=H6.next:=aB.le
  have kD:=kC.trans k6;refine zW (aD hl @jj @aw) ?_;obtain ⟨M,ao⟩:∃ X,X=(H6.put (D.next+8) (.cells [.int .i64 0,.nilSl,.nilSl] am true)).put (D.next+8) (.cells [.int .i64 0,.nilSl,.nilSl] am true):=⟨_,rfl⟩
  have f6:H6.get (D.next+8)=none:=aB.free (show D.next+8<D.next+11 by omega) (w5.fresh (b:=D.next+8) zO);have s6:Sub H6 M:=by rw [ao]; exact (aG f6).put f6 _
  have ab:Kp D M:=by rw [ao]; exact zK
  rw [<- ao];clear ao;have et:=ab.wf;have a7:=ab.get a6;have aY:=aX.mono ab.sub;have a0:=aZ.mono ab.sub;have eZ:=bO.mono ab.sub;refine dC (fun T'=>T'.length=189/\ad T' 2=.int .i64 x/\ad T' 3=s2/\ad T' 16=.ptr P 0/\ad T' 19=.int .i64 c) (zV (aO hl i j w)) ?_;clear hl t i j R o s w aB f6;rintro T ⟨hl,i,j,w,af⟩;refine aI ?_;refine zW (aO hl i w a7) ?_;refine AnsH.use (B3 C (n:=n) zF ⟨_,_,rfl,aY.mono (zG M),a0.mono (zG M)⟩ hO aC zO) ?_;rintro _ H7 ⟨⟨y7,u7,z7,c7,rfl,fK,fO⟩,aK⟩;obtain ⟨k7,_,w7⟩:=zT M zK aK;have n7:M.next+9<=H7.next:=aK.le
  refine zW (aD hl @jj @aw) ?_;obtain ⟨O,ay⟩:∃ X,X=(H7.put (M.next+6) (.cells [.int .i64 0,.nilSl,.nilSl] am true)).put (M.next+6) (.cells [.int .i64 y7,u7,z7] am true):=⟨_,rfl⟩
  have ae:Kp M O:=by rw [ay]; exact zK
  rw [<- ay];clear ay;have eu:=ae.wf;have bQ:=ae.get a7;have bC:=aY.mono ae.sub;have bE:=a0.mono ae.sub;have e1:=eZ.mono ae.sub;refine dC (fun T'=>T'.length=189/\ad T' 2=.int .i64 x/\ad T' 3=s2/\ad T' 16=.ptr P 0/\ad T' 19=.int .i64 c/\ad T' 21=.int .i64 c7) (zV (bB hl i j w af)) ?_;clear hl i j w af aK;rintro T ⟨hl,i,j,w,af,aS⟩;refine aI ?_;refine zW (bB hl i j w bQ) ?_;refine AnsH.use (C4 C (n:=n) zF ⟨_,_,rfl,bC.mono (zG O),bE.mono (zG O)⟩ hO (e1.mono (zG O)) b8 gr bM aC zO) ?_;rintro _ H8 ⟨⟨y8,u8,z8,c8,rfl,fL,fP⟩,aN⟩;obtain ⟨k8,_,w8⟩:=zT O zK aN;have n8:O.next+10<=H8.next:=aN.le
  have kE:=(kC.trans ab).trans (ae.trans k8);have lE:=(ab.trans (ae.trans k8)).le;refine zW (aD hl @jj @aw) ?_;refine aI ?_;refine zW (dj hl af aS eE @gK ah) ?_;have lX:=((kC.trans ab).trans ae).le;exact zK
 case pos =>
 obtain ⟨co,cs,eU,ar⟩:=f5;unfold de at co;split at co
 case isTrue=>omega
 obtain ⟨J,rfl⟩:∃ J:Nat,x=(J:Int):=⟨x.toNat,zO⟩
 have aH:J<n:=zO;unfold gC at ar;rw [if_pos cs] at ar;split at ar
 case isTrue=>omega
 rename_i av;clear ar co;have av:ax.length=n+1:=zO;obtain ⟨aJ,bN⟩:=Kb gr bM cs;have bb:RowV D s2 (ax.map aR):=SlV.int bO bN;obtain ⟨a,ha⟩:∃ a,a=ax.map aR:=⟨_,rfl⟩
 rw [<- ha] at aJ bb;have aq:a.length=n+1:=by rw [ha,V7,av]
 clear ha bN cs av bM b8 bO ds;obtain ⟨aW,bG⟩:=Ru dO dN b4.1 b3.1 eU;have bs:Bt 64 (aR zl):=qX (n:=1) b4.1 zO;have br:Bt 64 (aR zh):=qX (n:=1) b3.1 zO;obtain ⟨lo,dI⟩:∃ q,q=aR zl:=⟨_,rfl⟩
 obtain ⟨hi,du⟩:∃ q,q=aR zh:=⟨_,rfl⟩
 rw [<- dI] at bs aW bG;rw [<- du] at br aW bG;clear dI du;obtain ⟨I,c6⟩:∃ q,q=AV.agg [.bool rn,.bool zl.1,pl,.bool rn',.bool zh.1,ph]:=⟨_,rfl⟩
 have cA:=Rb (x:=J) (rn:=rn) (rn':=rn') hO aC zO aq aJ bs br;have eb:=OK (x:=J) hO aC zO;have d8:=OL (x:=J) hO aC lK aq aJ;refine zW (fX hl i j R w a6 bw @jq) ?_;rw [<- c6] at aW ⊢;refine AnsH.use (wH C (n:=n) (x:=J) (ez:=64) zF ⟨_,_,rfl,aX.mono (zG D),aZ.mono (zG D)⟩ hO (bb.mono (zG D)) aq aJ (aW.mono (zG D)) bG bs br aH aC zO zO hO.kinds (.inl cA.lenK)) ?_;rintro _ H6 ⟨dJ,aB⟩;obtain ⟨em,ep,rfl,cd,ch⟩:=J9 dJ cA;obtain ⟨k6,_,w6⟩:=zT D zK aB;have n6:D.next+11<=H6.next:=aB.le
 have fb:=cd.one;have fG:=ch.one;have f6:H6.get (D.next+8)=none:=aB.free (show D.next+8<D.next+11 by omega) (w5.fresh (b:=D.next+8) zO);obtain ⟨M,ao⟩:∃ X,X=(H6.put (D.next+8) (.cells [.int .i64 0,.nilSl,.nilSl] am true)).put (D.next+8) (.cells [.int .i64 (n:Int),em,ep] am true):=⟨_,rfl⟩
 have s6:Sub H6 M:=by rw [ao]; exact (aG f6).put f6 _
 have ab:Kp D M:=by rw [ao]; exact zK
 have cH:M.get (D.next+8)=some (.cells [.int .i64 (n:Int),em,ep] am true):=by rw [ao,al]
 refine zW (aD hl @jj @aw) ?_;rw [<- ao];clear ao;obtain ⟨Q,hQ⟩:∃ X,X=D.next+8:=⟨_,rfl⟩
 rw [<- hQ] at cH;rw [<- hQ];have et:=ab.wf;have a7:=ab.get a6;have dh:=cd.mono s6;have dq:=ch.mono s6;have aY:=aX.mono ab.sub;have a0:=aZ.mono ab.sub;have dS:=bb.mono ab.sub;refine dC (fun T'=>T'.length=189/\ad T' 0=.int .i64 (n:Int)/\ad T' 2=.int .i64 (J:Int)/\ad T' 3=s2/\ad T' 11=.ptr H.next 0/\ad T' 12=.ptr (H.next+1) 0/\ad T' 13=.ptr (H.next+2) 0/\ad T' 16=.ptr P 0/\ad T' 18=.ptr Q 0/\ad T' 19=.int .i64 0) (zV (fX hl t i j R o s w)) ?_;clear hl t i j R o s w aB f6 dJ cd ch;rintro T ⟨hl,t,i,j,R,o,s,w,E,af⟩;refine aI ?_;refine zW (aO hl i w a7) ?_;refine AnsH.use (wI C (n:=n) (x:=J) zF ⟨_,_,rfl,aY.mono (zG M),a0.mono (zG M)⟩ hO aH aC zO) ?_;rintro _ H7 ⟨dK,aK⟩;obtain ⟨en,eq,rfl,cc,cg⟩:=J9 dK eb;obtain ⟨k7,_,w7⟩:=zT M zK aK;have n7:M.next+9<=H7.next:=aK.le
 have fE:=cc.one;have fH:=cg.one;have f7:H7.get (M.next+6)=none:=aK.free (show M.next+6<M.next+9 by omega) (et.fresh (b:=M.next+6) zO);obtain ⟨O,ay⟩:∃ X,X=(H7.put (M.next+6) (.cells [.int .i64 0,.nilSl,.nilSl] am true)).put (M.next+6) (.cells [.int .i64 (n:Int),en,eq] am true):=⟨_,rfl⟩
 have s7:Sub H7 O:=by rw [ay]; exact (aG f7).put f7 _
 have ae:Kp M O:=by rw [ay]; exact zK
 have cF:O.get (M.next+6)=some (.cells [.int .i64 (n:Int),en,eq] am true):=by rw [ay,al]
 refine zW (aD hl @jj @aw) ?_;rw [<- ay];clear ay;obtain ⟨F,hF⟩:∃ X,X=M.next+6:=⟨_,rfl⟩
 rw [<- hF] at cF;rw [<- hF];have eu:=ae.wf;have bQ:=ae.get a7;have dd:=cc.mono s7;have dn:=cg.mono s7;have bC:=aY.mono ae.sub;have bE:=a0.mono ae.sub;have dT:=dS.mono ae.sub;refine dC (fun T'=>T'.length=189/\ad T' 0=.int .i64 (n:Int)/\ad T' 2=.int .i64 (J:Int)/\ad T' 3=s2/\ad T' 11=.ptr H.next 0/\ad T' 12=.ptr (H.next+1) 0/\ad T' 13=.ptr (H.next+2) 0/\ad T' 16=.ptr P 0/\ad T' 18=.ptr Q 0/\ad T' 19=.int .i64 0/\ad T' 20=.ptr F 0/\ad T' 21=.int .i64 0) (zV (oK hl t i j R o s w E af)) ?_;clear hl t i j R o s w E af aK f7 dK cc cg;rintro T ⟨hl,t,i,j,R,o,s,w,E,af,L,aS⟩;refine aI ?_;refine zW (bB hl i j w bQ) ?_;refine AnsH.use (tZ C (n:=n) (x:=J) zF ⟨_,_,rfl,bC.mono (zG O),bE.mono (zG O)⟩ hO (dT.mono (zG O)) aq aJ aH aC zO zO) ?_;rintro _ H8 ⟨dL,aN⟩;obtain ⟨eo,er,rfl,cb,cf⟩:=Kw dL d8;obtain ⟨k8,_,w8⟩:=zT O zK aN;have n8:O.next+10<=H8.next:=aN.le
 have fF:=cb.one;have fI:=cf.one;have f8:H8.get (O.next+7)=none:=aN.free (show O.next+7<O.next+10 by omega) (eu.fresh (b:=O.next+7) zO);obtain ⟨X8,ba⟩:∃ X,X=(H8.put (O.next+7) (.cells [.int .i64 0,.nilSl,.nilSl] am true)).put (O.next+7) (.cells [.int .i64 (n:Int),eo,er] am true):=⟨_,rfl⟩
 have s8:Sub H8 X8:=by rw [ba]; exact (aG f8).put f8 _
 have bj:Kp O X8:=by rw [ba]; exact zK
 have cD:X8.get (O.next+7)=some (.cells [.int .i64 (n:Int),eo,er] am true):=by rw [ba,al]
 refine zW (aD hl @jj @aw) ?_;rw [<- ba];clear ba;obtain ⟨B,hB⟩:∃ X,X=O.next+7:=⟨_,rfl⟩
 rw [<- hB] at cD;rw [<- hB];have fl:=bj.wf;have db:=cb.mono s8;have dk:=cf.mono s8;refine dC (fun T'=>T'.length=189/\ad T' 0=.int .i64 (n:Int)/\ad T' 2=.int .i64 (J:Int)/\ad T' 3=s2/\ad T' 11=.ptr H.next 0/\ad T' 12=.ptr (H.next+1) 0/\ad T' 13=.ptr (H.next+2) 0/\ad T' 16=.ptr P 0/\ad T' 18=.ptr Q 0/\ad T' 19=.int .i64 0/\ad T' 20=.ptr F 0/\ad T' 21=.int .i64 0/\ad T' 22=.ptr B 0/\ad T' 23=.int .i64 0) (zV (qQ hl t i j R o s w E af L aS)) ?_;clear hl t i j R o s w E af L aS aN f8 dL cb cf;rintro T ⟨hl,t,i,j,R,o,s,w,E,af,L,aS,t22,ei⟩;refine aI ?_;refine zW (bB hl af aS ei @aw) ?_;have bg:Kp M X8:=ae.trans bj;have fC:=bg.le;have d1:Kp D X8:=ab.trans bg;have fB:=d1.le;obtain ⟨Y,hY⟩:∃ Y,Y=X8.up 10:=⟨_,rfl⟩
 rw [<- hY];have fQ:Sub X8 Y:=by rw [hY]; exact Sub.bump _ 10
 have kY:Kp X8 Y:=by rw [hY]; exact (Kp.refl fl).up _
 clear hY;have aj:Kp D Y:=d1.trans kY;have d6:Kp H Y:=kC.trans aj;have wY:=kY.wf;have cB:=aj.get a6;have cU:=aj.get bw;have bv:=aj.get cQ;have f2:=aj.get bz;have eg:=(bg.trans kY).get cH;have ee:=(bj.trans kY).get cF;have ed:=kY.get cD;have ce:=aX.mono aj.sub;have ci:=aZ.mono aj.sub;have di:=dh.mono (bg.trans kY).sub;have dr:=dq.mono (bg.trans kY).sub;have df:=dd.mono (bj.trans kY).sub;have dp:=dn.mono (bj.trans kY).sub;have dc:=db.mono kY.sub;have dl:=dk.mono kY.sub;have dV:=bb.mono aj.sub;have c5:=aW.mono aj.sub;have ck:=dt.mono aj.sub;have cr:=bK.mono aj.sub;have fy:=d6.le;refine dC (fun T'=>T'.length=189/\ad T' 0=.int .i64 (n:Int)/\ad T' 2=.int .i64 (J:Int)/\ad T' 3=s2/\ad T' 11=.ptr H.next 0/\ad T' 12=.ptr (H.next+1) 0/\ad T' 13=.ptr (H.next+2) 0/\ad T' 16=.ptr P 0/\ad T' 18=.ptr Q 0/\ad T' 20=.ptr F 0/\ad T' 22=.ptr B 0) (zV (ia hl t i j R o s w E L t22)) ?_;clear hl t i j R o s w E af L aS t22 ei a6 bw cQ bz cH cF cD aX aZ dh dq dd dn db dk bb aW dt bK a7 bQ aY a0 bC bE dS dT;rintro T ⟨hl,t,i,j,R,o,s,w,E,L,t22⟩;have fM:=fb;refine aI ?_;refine zW (bB hl o w cB bv) ?_;refine AnsH.eq (L9 C (n:=n) zF ⟨_,_,rfl,ce.mono (zG Y),ci.mono (zG Y)⟩ hO (ck.mono (zG Y)) gg.1 dQ) fun Z dH=>?_;have kZ:Kp Y Z:=Kp.trans zK dH;have wZ:=kZ.wf;refine zW (aE hl @aw) ?_;refine dC (fun T'=>T'.length=189/\ad T' 0=.int .i64 (n:Int)/\ad T' 2=.int .i64 (J:Int)/\ad T' 3=s2/\ad T' 11=.ptr H.next 0/\ad T' 12=.ptr (H.next+1) 0/\ad T' 13=.ptr (H.next+2) 0/\ad T' 16=.ptr P 0/\ad T' 18=.ptr Q 0/\ad T' 20=.ptr F 0/\ad T' 22=.ptr B 0/\ad T' 24=.bool (decide (bI n [N]=0) && Lin.inP [(N.1,N.2.map aR)] K)/\ad T' 25=.int .i64 (bI n [N])) (zV (ia hl t i j R o s w E L t22)) ?_;clear hl t i j R o s w E L t22 dH;rintro T ⟨hl,t,i,j,R,o,s,w,E,L,t22,S,t25⟩;have cV:=kZ.get cU;have cZ:=kZ.get f2;have cS:=kZ.get bv;refine aI ?_;refine zW (dj hl R s cV cZ @jq) ?_;rw [<- c6];refine AnsH.eq (Pi C zF ((c5.mono kZ.sub).mono (zG Z)) ((cr.mono kZ.sub).mono (zG Z)) b5.1 zO bs br bG) fun V dG=>?_;have kV:Kp Z V:=Kp.trans zK dG;have d7:=kZ.trans kV;have e9:=d6.trans d7;have wV:=kV.wf;refine zW (aE hl @aw) ?_;have bu:=kV.get cS;obtain ⟨cn,bD⟩:∃ q:Int,q=(if gG W=true then 8 else 0):=⟨_,rfl⟩
 obtain ⟨bn,ca⟩:∃ q:Bool,q=(!gG W && rR rn lo rn' hi (aR W)):=⟨_,rfl⟩
 refine dC (fun T'=>T'.length=189/\ad T' 0=.int .i64 (n:Int)/\ad T' 2=.int .i64 (J:Int)/\ad T' 3=s2/\ad T' 12=.ptr (H.next+1) 0/\ad T' 13=.ptr (H.next+2) 0/\ad T' 16=.ptr P 0/\ad T' 18=.ptr Q 0/\ad T' 20=.ptr F 0/\ad T' 22=.ptr B 0/\ad T' 24=.bool (decide (bI n [N]=0) && Lin.inP [(N.1,N.2.map aR)] K)/\ad T' 25=.int .i64 (bI n [N])/\ad T' 26=.bool bn/\ad T' 27=.int .i64 cn) (zV (Ln hl t i j o s w E L t22 S t25 bD ca)) ?_;clear hl t i j R o s w E L t22 S t25 dG;rintro T ⟨hl,t,i,j,o,s,w,E,L,t22,S,t25,U,cK⟩;refine aI ?_;have tk:bf [AV.int .u8 (N.1:Int),wg] 0 none=some (.int .u8 (N.1:Int)):=rfl;by_cases q1:bI n [N]=0
 case neg =>
  refine zW (bB hl t25 q1 @gK ah) ?_;exact zK
 by_cases q2:(N.1:Int)=3
 case neg =>
  refine zW (jU hl o t25 q1 bu tk q2 @gK ah) ?_;exact zK
 by_cases q3:gG W=true
 ·have e8:cn=8:=by rw [bD,if_pos q3]
  refine zW (ia hl o t25 cK q1 bu tk q2 e8 @gK ah) ?_;exact zK
 have eh:gG W=false:=by simpa using q3
 have e0:cn=0:=by rw [bD,if_neg q3]
 refine zW (oK hl o t25 cK q1 bu tk q2 e0 @aw) ?_;have c4:N.1=3:=zO;rcases KO (n:=n) gg.1 dQ zO with h | ⟨a2,fr,a1,eR⟩
 ·exact absurd q1 h
 obtain ⟨r,hr⟩:∃ r,r=N.2.map aR:=⟨_,rfl⟩
 have a2:Lin.ValidG n [(N.1,N.2.map aR)]:=a2;have a1:Lin.Bd (2^64) (N.2.map aR):=a1;rw [c4,<- hr] at a2;rw [<- hr] at a1;have av:r.length=n+1:=(a2 _ (Wl.2 rfl)).1;have ar:0<Lin.hd1 r:=(a2 _ (Wl.2 rfl)).2.1 rfl;have dR:RowV Y wg r:=by rw [hr]; exact SlV.int ck eR
 obtain ⟨zi,cv⟩:∃ q,q=aR W:=⟨_,rfl⟩
 have cu:Bt 64 zi:=by rw [cv]; exact qX (n:=1) b5.1 zO
 have dX:IntV Y (.agg [.bool W.1,pn]) zi:=by rw [cv]; exact qe eh b5.1 cr
 have da:bn=rR rn lo rn' hi zi:=by rw [ca,eh,cv]; rfl
 obtain ⟨V',b7⟩:∃ q,q=V.up 11:=⟨_,rfl⟩
 rw [<- b7];have cx:Kp V V':=by rw [b7]; exact (Kp.refl wV).up _
 clear b7;have bq:=d7.trans cx;have fa:=e9.trans cx;have fZ:=cx.wf;have cM:=fu aJ;have cI:=fu a1;have bR:=bq.get cB;have aM:=bq.get bv;have ew:=bq.get f2;have fi:=bq.get eg;have fh:=bq.get ee;have fg:=bq.get ed;have eI:=ce.mono bq.sub;have eP:=ci.mono bq.sub;have eH:=di.mono bq.sub;have eN:=dr.mono bq.sub;have eG:=df.mono bq.sub;have eL:=dp.mono bq.sub;have eF:=dc.mono bq.sub;have eK:=dl.mono bq.sub;have dU:=dV.mono bq.sub;have bL:=dR.mono bq.sub;have dW:=dX.mono bq.sub;rw [q1,c4,<- hr] at S;have S:ad T 24=.bool (Lin.inP [(3,r)] K):=by rw [S]; simp
 have c3:(N.1:Int)=3:=q2;rw [c3] at aM;refine dC (fun T'=>T'.length=189/\ad T' 0=.int .i64 (n:Int)/\ad T' 2=.int .i64 (J:Int)/\ad T' 3=s2/\ad T' 12=.ptr (H.next+1) 0/\ad T' 13=.ptr (H.next+2) 0/\ad T' 16=.ptr P 0/\ad T' 18=.ptr Q 0/\ad T' 20=.ptr F 0/\ad T' 22=.ptr B 0/\ad T' 24=.bool (Lin.inP [(3,r)] K)/\ad T' 26=.bool bn) (zV (qQ hl t i j o s w E L t22 S U)) ?_;clear hl t i j o s w E L t22 S t25 U cK bD ca cB cU bv f2 eg ee ed ce ci di dr df dp dc dl dV c5 ck cr dR dX cV cZ cS bu c3;rintro T ⟨hl,t,i,j,o,s,w,E,L,t22,S,U⟩;have pv:∀ {c:List Int} {q:Int} {m:Nat},c.length=n+1->Lin.Bd (2^64) c->q.natAbs<=2^64->Lin.ValidG n [(3,Lin.mvR J c q r)]/\Lin.Bd (2^195) (Lin.mvR J c q r):=fun h1 h2 h3=>by
  refine ⟨fun y hy=>?_,OW (e:=64) (ea:=64) (ez:=64) aC h1 h2 a1 h3⟩;rw [Wl] at hy; subst hy;exact ⟨by rw [Lin.mvR_len]; exact av,fun _=>by rw [Lin.mvR_hd]; exact ar,fun h=>absurd rfl h⟩
 refine aI ?_;refine aF ?_;have b2:cE [.bool false,.nilSl] []=some (.agg [.bool false,.nilSl]):=rfl;refine zD (jU hl i j o w bR aM @ap b2) ?_;refine AnsH.use (BU C (k:=3) (n:=n) (x:=J) (z:=0) (e:=65) (f:=65) (m:=1) zF (dU.mono (Kp.sub (H:=V') zK)) (bL.mono (Kp.sub (H:=V') zK)) ⟨.nilSl,by simp,eO _⟩ aq av aH zO cM cI (Bt.zero 1) zO zO) ?_;rintro _ A1 ⟨⟨wa,rfl,eW⟩,dw⟩;obtain ⟨e2,eA⟩:=pv (q:=0) (m:=0) aq aJ zO;have a3:Kp V' A1:=Kp.trans zK dw;have fR:=a3.wf;have ec:=a3.get bR;have cR:=a3.get aM;refine zD (ia hl i j o w bR aM ec cR @ap b2) ?_;refine AnsH.eq (kS C (n:=n) (k:=3) (e':=195) zF ⟨_,_,rfl,(eI.mono a3.sub).mono (zG A1),(eP.mono a3.sub).mono (zG A1)⟩ hO (eW.mono (zG A1)) e2 (.inr (.inr rfl)) eA zO) fun A2 dx=>?_;have eB:=Lin.back_pt (K:=K) (r:=r) hO.own.rows aq aH av ar;obtain ⟨b1,gb⟩:∃ q,q=Lin.inP [(3,Lin.mvR J a 0 r)] K:=⟨_,rfl⟩
 rw [<- gb] at eB ⊢;have aP:Kp V' A2:=a3.trans (Kp.trans zK dx);have fS:=aP.wf;refine zD (qQ hl i j o w bR aM ec cR @ap b2 @aw) ?_;have ev:=aP.get aM;have ff:=aP.get fg;refine dC (fun T'=>T'.length=189/\ad T' 0=.int .i64 (n:Int)/\ad T' 2=.int .i64 (J:Int)/\ad T' 3=s2/\ad T' 12=.ptr (H.next+1) 0/\ad T' 13=.ptr (H.next+2) 0/\ad T' 18=.ptr Q 0/\ad T' 20=.ptr F 0/\ad T' 22=.ptr B 0/\ad T' 24=.bool (Lin.inP [(3,r)] K)/\ad T' 26=.bool bn/\ad T' 28=.bool b1/\ad T' 29=.int .i64 0) (zE (ia hl t i j o s E L t22 S U)) ?_;clear hl t i j o s w E L t22 S U dw dx;rintro T ⟨hl,t,i,j,o,s,E,L,t22,S,U,bk,bm⟩;refine aI ?_;refine zW (bB hl o t22 ff ev) ?_;refine AnsH.eq (kS C (n:=n) (k:=3) (e':=64) zF ⟨_,_,rfl,(eF.mono aP.sub).mono (zG A2),(eK.mono aP.sub).mono (zG A2)⟩ d8 ((bL.mono aP.sub).mono (zG A2)) a2 (.inr (.inr rfl)) a1 zO) fun A3 dy=>?_;rw [<- eB];have cw:Kp V' A3:=aP.trans (Kp.trans zK dy);have fk:=cw.wf;refine zW (aE hl @aw) ?_;refine dC (fun T'=>T'.length=189/\ad T' 0=.int .i64 (n:Int)/\ad T' 2=.int .i64 (J:Int)/\ad T' 3=s2/\ad T' 12=.ptr (H.next+1) 0/\ad T' 13=.ptr (H.next+2) 0/\ad T' 18=.ptr Q 0/\ad T' 20=.ptr F 0/\ad T' 24=.bool (Lin.inP [(3,r)] K)/\ad T' 26=.bool bn/\ad T' 28=.bool b1/\ad T' 29=.int .i64 0/\ad T' 30=.bool b1/\ad T' 31=.int .i64 0) (zV (qQ hl t i j o s E L S U bk bm)) ?_;clear hl t i j o s E L t22 S U bk bm dy;rintro T ⟨hl,t,i,j,o,s,E,L,S,U,bk,bm,f3,ek⟩;refine aI ?_;have ex:bY .neq .bool (.bool b1) (.bool b1)=some (.bool false):=by cases b1 <;> rfl
 refine zW (fo hl bk bm f3 ek ex @aw) ?_;refine aI ?_;have ga:=fa.trans cw;cases hh:Lin.inP [(3,r)] K with
 | false =>
  rw [hh] at S;refine zW (aO hl S @gK ah) ?_;exact zK
 | true =>
 rw [hh] at S;refine zW (aD hl S @aw) ?_;have f9:Lin.KeepP n K r:=(Lin.pt_keep av ar).1 hh;obtain ⟨A,hA⟩:∃ q,q=A3.up 13:=⟨_,rfl⟩
 rw [<- hA];have kA:Kp A3 A:=by rw [hA]; exact (Kp.refl fk).up _
 clear hA;have a5:=cw.trans kA;have e7:=ga.trans kA;have wA:=kA.wf;have aL:=a5.get aM;have aT:=a5.get ew;have a8:=a5.get fh;refine dC (fun T'=>T'.length=189/\ad T' 0=.int .i64 (n:Int)/\ad T' 2=.int .i64 (J:Int)/\ad T' 3=s2/\ad T' 12=.ptr (H.next+1) 0/\ad T' 13=.ptr (H.next+2) 0/\ad T' 18=.ptr Q 0/\ad T' 20=.ptr F 0/\ad T' 26=.bool bn) (zV (jU hl t i j o s E L U)) ?_;clear hl t i j o s E L S U bk bm f3 ek;rintro T ⟨hl,t,i,j,o,s,E,L,U⟩;refine aI ?_;refine aF ?_;have ej:IntKind.i64.wrap ((n:Int)+1)=((n+1:Nat):Int):=by rw [wrap_i64] <;> omega
 have bJ:∀ H':Heap,Ja H' (A.next+5) d9 1 8 [.int .i64 0] (.int .i64 ((n+1:Nat):Int)) (.int .i64 ((n+1:Nat):Int))=some (.own (A.next+5) 0 (n+1) (n+1) 1 true,H'.put (A.next+5) (.cells ((List.replicate (n+1) [AV.int .i64 0]).flatten) d9 true)):=fun H'=>iS _ _ _ _ _ _ _ _ _ zO zO rfl;refine zD (Ih hl t i j o s L a8 aL aT @ap ej bJ) ?_;refine AnsH.use (AN C zF (Nw (al _ _ _)) (by rw [Xv]; omega) (fun z hz=>by have:=Xz hz; omega)) ?_;rintro vz A4 ⟨e5,dA⟩;have a4:Kp A A4:=Kp.trans zK dA;have fT:=a4.wf;have bt:=a4.get aL;have bA:=a4.get aT;have bS:=a4.get a8;have d0:=a5.trans a4;have fn:∀ z∈List.replicate (n+1) (0:Int),Bt 1 z:=fun z hz=>by
  have:=Xz hz
  subst this; exact Bt.zero 1
 refine zD (Uc hl t i j o s L a8 aL aT bS bt bA @ap ej bJ) ?_;refine AnsH.use (BU C (k:=3) (n:=n) (x:=J) (z:=zi) (e:=1) (f:=65) (m:=64) zF (e5.mono (zG A4)) ((bL.mono d0.sub).mono (zG A4)) ((dW.mono d0.sub).mono (zG A4)) (by rw [Xv]) av aH zO fn cI cu zO zO) ?_;rintro _ A5 ⟨⟨wz,rfl,bN⟩,dB⟩;have fm:Lin.Bd (2^64) (List.replicate (n+1) (0:Int)):=pw fun z hz=>by
  have:=Xz hz
  subst this; exact Wd _
 have dY:zi.natAbs<=2^64:=XN cu;obtain ⟨e4,eC⟩:=pv (q:=zi) (m:=0) (Xv (n:=n+1) (a:=(0:Int))) fm dY;have bh:Kp A A5:=a4.trans (Kp.trans zK dB);have fU:=bh.wf;have bW:=bh.get aL;have cG:=bh.get a8;have d2:=a5.trans bh;refine zD (Nx hl t i j o s L a8 aL aT bS bt bA cG bW @ap ej bJ) ?_;refine AnsH.eq (kS C (n:=n) (k:=3) (e':=195) zF ⟨_,_,rfl,(eG.mono d2.sub).mono (zG A5),(eL.mono d2.sub).mono (zG A5)⟩ eb (bN.mono (zG A5)) e4 (.inr (.inr rfl)) eC zO) fun A6 dD=>?_;rw [Lin.hav_pt hO.own (Xv (n:=n+1) (a:=(0:Int))) aH f9 ar];have bi:Kp A A6:=bh.trans (Kp.trans zK dD);have fV:=bi.wf;refine zD (Qj hl t i j o s L a8 aL aT bS bt bA cG bW @ap ej bJ @aw) ?_;have bd:=a5.trans bi;have bX:=bi.get aL;have b0:=bi.get aT;have bU:=bd.get fi;refine dC (fun T'=>T'.length=189/\ad T' 2=.int .i64 (J:Int)/\ad T' 3=s2/\ad T' 12=.ptr (H.next+1) 0/\ad T' 13=.ptr (H.next+2) 0/\ad T' 18=.ptr Q 0/\ad T' 26=.bool bn/\ad T' 32=.bool true/\ad T' 33=.int .i64 0) (zE (fo hl i j o s E U)) ?_;clear hl t i j o s E L U dA dB dD bt bA bS bW cG;rintro T ⟨hl,i,j,o,s,E,U,f0,bp⟩;refine aI ?_;refine aF ?_;refine zD (oK hl i j o s E bU bX b0 @ap) ?_;refine AnsH.use (BU C (k:=3) (n:=n) (x:=J) (z:=zi) (e:=65) (f:=65) (m:=64) zF ((dU.mono bd.sub).mono (zG A6)) ((bL.mono bd.sub).mono (zG A6)) ((dW.mono bd.sub).mono (zG A6)) aq av aH zO cM cI cu zO zO) ?_;rintro _ A7 ⟨⟨wy,rfl,eX⟩,dE⟩;obtain ⟨bc,eD⟩:=pv (q:=zi) (m:=0) aq aJ dY;have bP:Kp A6 A7:=Kp.trans zK dE;have fW:=bP.wf;have ef:=bP.get bU;have d3:=bd.trans bP;refine zD (ia hl i j o s E bU bX b0 ef @ap) ?_;refine AnsH.eq (kS C (n:=n) (k:=3) (e':=195) zF ⟨_,_,rfl,(eH.mono d3.sub).mono (zG A7),(eN.mono d3.sub).mono (zG A7)⟩ cA (eX.mono (zG A7)) bc (.inr (.inr rfl)) eD zO) fun A8 dF=>?_;have c0:bn=true->Lin.inP [(3,Lin.mvR J a zi r)] (Lin.consP n (putL n J a rn lo rn' hi G))=true:=fun h=>by
  rw [da] at h;unfold rR at h;rw [WA,XF,XF] at h;exact Lin.put_pt hO.own aq aH f9 ar (fun e=>by simpa [e] using h.1) (fun e=>by simpa [e] using h.2)
 obtain ⟨pb,dM⟩:∃ q,q=Lin.inP [(3,Lin.mvR J a zi r)] (Lin.consP n (putL n J a rn lo rn' hi G)):=⟨_,rfl⟩
 rw [<- dM] at c0 ⊢;have d4:Kp A6 A8:=bP.trans (Kp.trans zK dF);have fY:=d4.wf;have fw:=e7.trans (bi.trans d4);refine zD (qQ hl i j o s E bU bX b0 ef @ap @aw) ?_;refine dC (fun T'=>T'.length=189/\ad T' 26=.bool bn/\ad T' 32=.bool true/\ad T' 33=.int .i64 0/\ad T' 34=.bool pb/\ad T' 35=.int .i64 0) (zE (aO hl U f0 bp)) ?_;clear hl i j o s E U f0 bp dE dF dM da;rintro T ⟨hl,U,f0,bp,cL,el⟩;refine aI ?_;cases bn with
 | false =>
  refine zW (fo hl U f0 bp cL el @aw) ?_;refine WC.wb ?_;refine zW (aE hl ah) ?_;exact zK
 | true =>
  rw [c0 rfl] at cL;refine zW (fo hl U f0 bp cL el @aw) ?_;refine WC.wb ?_;refine zW (aE hl ah) ?_;exact zK
end
end Go.Proofs.YteaefaohjlmjdaaGreat.Ev
namespace Go.Proofs.YteaefaohjlmjdaaGreat.Ev
open Go Go.WideShapes Nn
section
variable {HT:Type} {enc:TypeId × Value->HT} {P:Program} {w:World} {base base':Nat} {sp:Nat->Bool} {held:Bool} {μ:Mu} {F:Nat->Prop} {H:Heap}
def Io {a:List AV} {cs:Array Value} (h:LR μ F w a cs.toList):VR μ F w (.agg a) (.agg cs):=.agg a cs (by simpa using h.1) fun i c v h1 h2=>h.2 i c v h1 (by simpa using h2)
def open_gen {tgs tg tvs tv ti te:TypeId} (b:GenTys P tgs tg tv) (j:RowTys P tvs tv ti te) (i:∀ c,c<w.heap.size->F c) {r:Reach} {v:Value} {d:DataW HT} {ps:List MemPlace} (hval:Value.okWide P w r base' tg v) (hd:DataW.Trod enc P w base sp held tg v d ps) :
  ∃ a z,VR μ F w (.agg a) v/\genQE.R H a z/\dZ z.2/\z.1<256:=by
 obtain ⟨f0,f1,k,-⟩:=b.g;obtain ⟨cs,rfl,m⟩:=okWide_struct k hval;obtain ⟨l,h⟩:=hd;obtain ⟨a,z,e,f,g⟩:=Ob (H:=H) (μ:=μ) b j i h;exact ⟨a,z,Io e,f,g⟩
end
structure ItvTys (P:Program) (ta tb ti:TypeId):Prop where
 a:∃ f0 f1:Field,P.underlying ta=some (.struct #[f0,f1])/\f0.offset=0/\f1.offset=3/\f0.type=tb/\f1.type=tb
 ca:P.cellsOf ta=6
 cb:P.cellsOf tb=3
 b:∃ f0 f1:Field,P.underlying tb=some (.struct #[f0,f1])/\f0.offset=0/\f1.offset=1/\P.underlying f0.type=some .bool/\P.cellsOf f0.type=1/\f1.type=ti
section
variable {HT:Type} {enc:TypeId × Value->HT} {P:Program} {w:World} {base base':Nat} {sp:Nat->Bool} {held:Bool} {μ:Mu} {F:Nat->Prop} {H:Heap}
def AQ {tvs tv ti te:TypeId} (d:RowTys P tvs tv ti te) (s:∀ c,c<w.heap.size->F c) {m:Nat} {cs:List Value} {x:DataW HT × List MemPlace} (h:DataW.trod enc P w base sp held m ti cs=some x) :
  ∃ (b:Bool) (v:Value) (a:AV) (l:List Nat),cs=[.bool b,v]/\VR μ F w a v/\Lb H a l/\jE (b,l):=by
 obtain ⟨f0,f1,t,u,y,z,A,B,C⟩:=d.i;obtain ⟨xs,n,-,ex,hl,i,hx⟩:=DataW.trod_struct t h;have i:xs.length=2:=by simpa using i
 rw [d.ci] at hl
 match cs,hl with
 | [j,k],_ =>
  have e0:=hx 0 f0 rfl;have e:=hx 1 f1 rfl;rw [VZ zO,u,A] at e0;rw [VZ zO,y,C] at e;obtain ⟨b,f,-⟩:=DataW.trod_bool z e0;obtain ⟨v,a,zs,g,o,p,q,r,-⟩:=F0 (H:=H) (μ:=μ) s B d.e d.ce e;have q0:j=.bool b:=by simpa using f
  have q1:k=v:=by simpa using g
  clear f g;subst q0; subst q1;exact ⟨b,_,a,zs,rfl,o,p,q,r⟩
def F3 {ta tb tvs tv ti te:TypeId} (g:ItvTys P ta tb ti) (i:RowTys P tvs tv ti te) (t:∀ c,c<w.heap.size->F c) {p:Nat} {cs:List Value} {x:DataW HT × List MemPlace} (h:DataW.trod enc P w base sp held p tb cs=some x) :
  ∃ (n b:Bool) (v:Value) (a:AV) (l:List Nat),cs=[.bool n,.bool b,v]/\VR μ F w a v/\Lb H a l/\jE (b,l):=by
 obtain ⟨f0,f1,u,y,z,A,B,C⟩:=g.b;obtain ⟨xs,n,-,ex,hl,j,hx⟩:=DataW.trod_struct u h;have j:xs.length=2:=by simpa using j
 rw [g.cb] at hl
 match cs,hl with
 | [k,m,o],_ =>
  have e0:=hx 0 f0 rfl;have d:=hx 1 f1 rfl;rw [VZ zO,y,B] at e0;rw [VZ zO,z,C,i.ci] at d;obtain ⟨n,e,-⟩:=DataW.trod_bool A e0;obtain ⟨b,v,a,l,f,q,r,s⟩:=AQ (H:=H) (μ:=μ) i t d;have q0:k=.bool n:=by simpa using e
  obtain ⟨q1,q2⟩:m=.bool b/\o=v:=by simpa using f
  clear e f;subst q0; subst q1; subst q2;exact ⟨n,b,_,a,l,rfl,q,r,s⟩
def open_itv {ta tb tvs tv ti te:TypeId} (a:ItvTys P ta tb ti) (k:RowTys P tvs tv ti te) (j:∀ c,c<w.heap.size->F c) {r:Reach} {v:Value} {d:DataW HT} {ps:List MemPlace} (hval:Value.okWide P w r base' ta v) (hd:DataW.Trod enc P w base sp held ta v d ps) :
  ∃ (g:List AV) (n n':Bool) (z z':Bool × List Nat) (p s:AV),VR μ F w (.agg g) v/\g=[.bool n,.bool z.1,p,.bool n',.bool z'.1,s]/\Lb H p z.2/\Lb H s z'.2/\jE z/\jE z':=by
 obtain ⟨f0,f1,o,E,G,I,J⟩:=a.a;obtain ⟨cs,rfl,N⟩:=okWide_struct o hval;obtain ⟨M,h⟩:=hd;obtain ⟨xs,n,-,ex,hl,m,hx⟩:=DataW.trod_struct o h;have m:xs.length=2:=by simpa using m
 have hl:cs.toList.length=6:=by rw [<- a.ca]; exact hl
 have e0:=hx 0 f0 rfl;have i:=hx 1 f1 rfl;rw [VZ zO,E,I,a.cb] at e0;rw [VZ zO,G,J,a.cb] at i;obtain ⟨n,b,v,t,l,e,x,A,C⟩:=F3 (H:=H) (μ:=μ) a k j e0;obtain ⟨n',b',L,u,K,f,y,B,D⟩:=F3 (H:=H) (μ:=μ) a k j i;have hc:cs.toList=[.bool n,.bool b,v,.bool n',.bool b',L]:=by
  have q:cs.toList=(cs.toList.drop 0).take 3++(cs.toList.drop 3).take 3:=by
   rw [List.drop_zero,WG (l:=cs.toList.drop 3) (by rw [Xm]; omega),ZD]
  rw [q];have e:(cs.toList.drop 0).take 3=_:=e;have f:(cs.toList.drop 3).take 3=_:=f;rw [e,f]; rfl
 refine ⟨_,n,n',(b,l),(b',K),t,u,Io ?_,rfl,A,B,C,D⟩;rw [hc];exact LR.cons (.bool _) (LR.cons (.bool _) (LR.cons x (LR.cons (.bool _) (LR.cons (.bool _) (LR.cons y LR.nil)))))
def open_whole {tvs tv ti te:TypeId} (e:RowTys P tvs tv ti te) (n:∀ c,c<w.heap.size->F c) {r:Reach} {v:Value} {d:DataW HT} {ps:List MemPlace} (hval:Value.okWide P w r base' ti v) (hd:DataW.Trod enc P w base sp held ti v d ps) :
  ∃ (a:List AV) (z:Bool × List Nat) (p:AV),VR μ F w (.agg a) v/\a=[.bool z.1,p]/\Lb H p z.2/\jE z:=by
 obtain ⟨f0,f1,o,-⟩:=e.i;obtain ⟨cs,rfl,q⟩:=okWide_struct o hval;obtain ⟨g,h⟩:=hd;have h:DataW.trod enc P w base sp held g ti cs.toList=_:=h;obtain ⟨b,v,f,l,i,j,k,m⟩:=AQ (H:=H) (μ:=μ) e n h;refine ⟨_,(b,l),f,Io ?_,rfl,k,m⟩;rw [i];exact LR.cons (.bool _) (LR.cons j LR.nil)
end
open Go
def OT {P:Program}:JW P fd:=trivial
def Ra {P:Program} {w:World} (a:GlobW w):HR P (fun _=>none) (fun c=>c<w.heap.size) (Heap.nil 0) w:=by
 have h:=Oj (P:=P) a;refine ⟨h.dom,fun c hc=>hc,fun b e hb=>?_,h.inj,fun g cs hg=>(h.gl g cs hg).mono (fun _ _ h=>h) (fun c hc=>h.fb c hc) fun _ _=>rfl⟩;rw [Tr.nil_get] at hb; cases hb
def open_calls {P:Program} (i:P.follows .mixedOrders=true) {tab:Nat->Option aA} (j:Lf P tab) {f:Nat} {afn:aA} (g:tab f=some afn) (d:afn.ext=none) {args:List AV} {vs:List Value} {w:World} (o:GlobW w)
  (hl:LR (fun _=>none) (fun c=>c<w.heap.size) w args vs) (h:Ans tab (.fn f args) (Heap.nil 0) fun v _=>v=.bool true) :
  Calls P f vs.toArray w fun e w'=>e=.returned (.bool true)/\w'.os=w.os/\w'.output=w.output/\w.heap.size<=w'.heap.size/\∀ c,c<w.heap.size->w'.heap[c]? = w.heap[c]?:=by
 obtain ⟨v,H',⟨N,p⟩,rfl⟩:=h;have h1:=p (N+1) (N+1) zO zO;simp only [lU,jW,g,d] at h1;obtain ⟨-,s⟩:=j f afn g;obtain ⟨fn,q,hc⟩:=s fun e h=>by rw [d] at h; cases h
 obtain ⟨l,m,n,c4,-⟩:=FI hc d;have hH:=Ra (P:=P) o;have r:=rj (Bm OT i j N) i q l m n c4 h1 hl hH 0 (fence:=Fence.wide) (rd:=false) (.inl ⟨rfl,rfl⟩);refine (r.calls fun k=>room_wide k).mono fun e w' ⟨u,he,μ',t,_,a⟩=>?_;cases t;refine ⟨he,a.os,a.out,a.size,fun c hc=>a.keep c hc fun b L ⟨e,h,_⟩=>?_⟩;rw [Tr.nil_get] at h; cases h
def Pe {w w':World} (h1:w'.os=w.os) (h2:w'.output=w.output) (h:∀ c,c<w.heap.size->w'.heap[c]? = w.heap[c]?) (d:MemPlace->Prop):w.keptBut w' d:=by
 refine ⟨h1,h2,fun i hi=>?_⟩;rw [h i hi];split
 ·rename_i a b;cases a.symm.trans b;exact ⟨rfl,rfl,rfl,fun _ _=>rfl⟩
 ·rename_i a b;cases a.symm.trans b;exact .inr ⟨rfl,rfl⟩
 ·rfl
section
open Go.ChangeShapes Go.WideShapes Go.ChangeAt Go.RowKit
variable {HT:Type} {enc:TypeId × Value->HT} {P:Program}
def stays {t:TypeId} (hl:laidOutB P=true) (hr:P.readableRec t=true) (e:t<P.types.size) {W W':World} {sp:Nat->Bool} {v:Value} {d:DataW HT} {ps:List MemPlace}
  (h:DataW.Trod enc P W 0 (fun _=>true) true t v d ps) (a:∀ c,c<W.heap.size->W'.heap[c]? = W.heap[c]?) (hlt:∀ x∈ps,x.block<W.heap.size) (hs:∀ p∈ps,sp p.block=true):DataW.Trod enc P W' 0 sp true t v d ps :=
 WideElems.Trod_stays hl hr e h (fun p hp=>by
  have hb:=a p.block (hlt p hp);cases p with
  | cell b o=>exact World.cell?_of_block (w:=W) hb
  | map b=>exact hb) hs
def post_kept {f:Func} {s:ChangeSpec} {apart fresh k i:Bool} {W W':World} {args:Array Value} {v:Value} {ds gs:List (DataW HT)} {before:List MemPlace}
  (hW:DataW.Whole enc P f.params.toList s.vars apart W args.toList ds gs before)
  (g:∀ (b:Nat) (sp:Nat->Bool) (hd:Bool),DataW.TrodAll enc P W' b sp hd f.resultTypes.toList (v.resultList f.resultTypes.size) (s.fn HT (ds++gs)).results [])
  (hargs:∀ sp:Nat->Bool,(∀ p∈before,sp p.block=true)->DataW.TrodAll enc P W' 0 sp true f.params.toList args.toList (s.fn HT (ds++gs)).args before)
  (h:∀ sp:Nat->Bool,DataW.TrodVars enc P W' sp s.vars (s.fn HT (ds++gs)).vars [])
  (h1:W'.os=W.os) (h2:W'.output=W.output) (a:∀ c,c<W.heap.size->W'.heap[c]? = W.heap[c]?)
  (l:∀ (j:Nat) (t:TypeId) (r:Value),f.resultTypes[j]? = some t->(v.resultList f.resultTypes.size)[j]? = some r->Value.okWide P W' .any 0 t r) :
  s.post enc P f apart fresh k i W args v W':=by
 have m:∀ p∈before,(fun b=>decide (b<W.heap.size)) p.block=true:=fun p hp=>by simpa using hW.lt p hp
 have hlt:∀ p∈before,p.block<W.heap.size:=fun p hp=>hW.lt p hp;refine ⟨ds,gs,before,[],before,[],hW,g _ _ _,hargs _ m,h _,Pe h1 h2 a _,fun _=>?_⟩;obtain ⟨_,_,_,_,e,hz,hn⟩:=hW;refine ⟨l,_,_,([]++before)++[],⟨[]++before,[],trodAll_append (hargs _ (fun _ _=>rfl)) (g _ _ _),h _,rfl,?_,?_⟩,?_⟩
 ·intro b off hp;have d:MemPlace.cell b off∈before:=by simpa using hp
  have hb:=hlt _ d;rw [World.frozen?_of_block (w:=W) (a b hb)];exact hz b off d
 ·intro ha
  have:=hn ha
  simpa using this
 ·intro p hp _
  simpa using hp
end
end Go.Proofs.YteaefaohjlmjdaaGreat.Ev
namespace Go.Proofs.YteaefaohjlmjdaaGreat.Ins224
open Go Go.RowKit Go.Lib Go.Proofs
variable {P:Program}
theorem tS:Tryz.prog.underlying 153=some (.slice 24):=by kernel_rfl
theorem iE:(Tryz.prog.info? 24).map (fun i=>(i.zero,i.size,i.bytes))=some (some (Value.slice none 0 0),1,24):=by kernel_rfl
def zE:∀ w,(Go.sizeOf 24).run Tryz.prog w=.ok 1 w:=fun w=>by
 obtain ⟨a,hi,h0,h1,h2⟩:=info_parts iE;simp [Go.sizeOf,typeInfo,hi,h1]
theorem tI:Tryz.prog.underlying 3=some (.int .i64):=by kernel_rfl
theorem E9:Tryz.prog.follows .mixedOrders=true:=by kernel_rfl
def En (w:World) {o:Oper} {a:Act} {K:Act->World->Prop} {Q:Exit->Act->World->Prop} (d s:Operand) (t b:TypeId)
  (e:o.op=.call { callee:=.builtin .copy,args:=#[d,s],argTypes:=#[t,b] }) (v u:Value) (hd:a.eval d=v) (hs:a.eval s=u) {c:Value} {w':World}
  (hr:(Builtin.copy_ #[t,b] o.type #[v,u]).run P w=.ok c w') (h:K (a.put o.dst c) w'):o.wp P a w K Q:=by
 unfold Oper.wp execOp;simp only [e,resolve,invoke,builtin,Sem.run_bind,Sem.run_pure,Result.andThen_ok,List.map_toArray,V9,Wg,hd,hs,hr];exact h
def kj (w:World) {ops:Array Oper} {rest:List Oper} {o:Oper} {a:Act} {Q:Exit->Act->World->Prop} (f:o.guard=none) (d s:Operand) (t b:TypeId)
  (g:o.op=.call { callee:=.builtin .copy,args:=#[d,s],argTypes:=#[t,b] }) (v u:Value) (hd:a.eval d=v) (hs:a.eval s=u) {c:Value} {w':World}
  (hr:(Builtin.copy_ #[t,b] o.type #[v,u]).run P w=.ok c w') (h:wpList P ops Q rest (a.put o.dst c) w'):wpList P ops Q (o :: rest) a w :=
 wpList_plain f fun _ e=>En w d s t b g v u hd hs hr (e _ _ h)
def rg {ops:Array Oper} {o:Oper} {a:Act} {w:World} {K:Act->World->Prop} {Q:Exit->Act->World->Prop} {E:Prop}
  (hg:o.guard=none) (d x:Operand) (b c:TypeId) (g:o.op=Op.call { callee:=Callee.builtin Builtin.copy,args:=#[d,x],argTypes:=#[b,c] })
  (v u:Value) (hd:a.eval d=v) (hx:a.eval x=u) {e:Value} {w':World} (hr:(Builtin.copy_ #[b,c] o.type #[v,u]).run P w=.ok e w') (f:K (a.put o.dst e) w') :
  if Region.wanted o (yielded ops a.tmps)=true then Oper.wp P o a w K Q else E:=by
 have h:Region.wanted o (yielded ops a.tmps)=true:=by simp [Region.wanted,hg]
 rw [if_pos h];unfold Oper.wp;simp [execOp,g,resolve,invoke,builtin,hd,hx,hr,Result.andThen];exact f
def qM (b:Nat) (vs:List Value) (o:Nat) (w:World) (h:∀ j,j<vs.length->(w.cell? ⟨b,o+j,none⟩).isSome=true) (k:Nat) (a:(w.cell? ⟨b,k,none⟩).isSome=true):((w.setCells b o vs).cell? ⟨b,k,none⟩).isSome=true:=by
 by_cases c:o<=k/\k<o+vs.length
 ·have:=World.cell?_setCells_in b vs o w h (k-o) zO
  rw [show o+(k-o)=k by omega] at this;rw [this]; rfl
 ·rw [World.cell?_setCells_out b vs o w ⟨b,k,none⟩ (fun _ _=>by show k<o\/o+vs.length<=k; omega)];exact a
set_option maxHeartbeats 4000000 in
set_option maxRecDepth 100000 in
def shift (b off n c i a f m o:Nat) (cs vs:List Value) (w:World) (hi:i<n) (hm:0<m) (ae:n+m<=c) (ab:n+m<=9223372036854775807) (B:a≠b)
  (hcl:cs.length=n) (U:vs.length=m)
  (I:∀ j v,cs[j]? = some v->w.cell? ⟨b,off+j,none⟩=some v) (p:∀ j,j<n+m->(w.cell? ⟨b,off+j,none⟩).isSome=true) (z:∀ j,j<n+m->w.frozen? ⟨b,off+j,none⟩=false)
  (V:∀ j v,vs[j]? = some v->w.cell? ⟨a,f+j,none⟩=some v) (E:∀ v∈cs,v.oneCell'=true) (F:∀ v∈vs,v.oneCell'=true)
  (C D:TypeId) (q r:Nat) (Q:w.shape? a=some (C,q)) (R:w.shape? b=some (D,r)) (O:r≠0) (K:w.frozen? ⟨a,f,none⟩=false) (L:w.frozen? ⟨a,q,none⟩=false) :
  Calls Tryz.prog 224 #[.slice (some ⟨b,off,none⟩) n c,.int .i64 i,.slice (some ⟨a,f,none⟩) m o] w fun e w' =>
   e=.returned (.slice (some ⟨b,off,none⟩) (n+m) c)/\w'=(w.drew.setCells b (off+(i+m)) (cs.drop i)).setCells b (off+i) vs:=by
 have ah:¬ ((m:Int)=0):=zO;have aj:¬ ((i:Int)=(n:Int)):=zO;have A:(Tryz.prog.info? 24).map (·.size)=some 1:=by
  obtain ⟨i0,M,h0,h1,h2⟩:=info_parts iE;rw [M]; simp [h1]
 have P:∀ s cb,(callFunc 234 #[.slice (some ⟨a,f,none⟩) m o,.slice (some ⟨b,off+(i+m),none⟩) s cb]).run Tryz.prog w=.ok (.value (.bool false)) w:=fun s cb=>by
  rw [run_callFunc_extern Tryz.func234 (by kernel_rfl) (by kernel_rfl) (by kernel_rfl) (e:=Extern.SlicesOverlaps.overlaps #[153,153] #[4]) (by kernel_rfl),
   Lib.run_overlaps_apart w 153 4 24 tS 1 zE ⟨a,f,none⟩ ⟨b,off+(i+m),none⟩ m o s cb B C D q r Q R O K L]
  rfl
 have J:(cs.drop i).length=n-i:=by rw [Xm,hcl]
 have ag:IntKind.i64.wrap ((i:Int)+(m:Int))=(i:Int)+(m:Int):=by rw [IntKind.wrap_i64]; omega
 have X:(0:Int)<=(i:Int)+(m:Int):=zO;have ad:i<=n:=zO;have af:((i:Int)+(m:Int)).toNat=i+m:=zO;have Y:¬ (c=i+m):=zO;have Z:(i:Int)<=(n:Int)+(m:Int):=zO;have aa:¬ (c=i):=zO;have y:∀ ty d t,(Builtin.copy_ #[153,153] ty #[.slice (some ⟨b,off+(i+m),none⟩) (n+m-(i+m)) d,.slice (some ⟨b,off+i,none⟩) (n+m-i) t]).run Tryz.prog w.drew=.ok (goInt (cs.drop i).length) (w.drew.setCells b (off+(i+m)) (cs.drop i)):=fun ty d t =>
  run_copy_cells w.drew _ _ ty 24 b (off+(i+m)) (n+m-(i+m)) d ⟨b,off+i,none⟩ (n+m-i) t (cs.drop i) tS A (by rw [J]; simp only [Nat.min_def]; split <;> omega)
   (fun j v hj=>by rw [Addr.add_lit,W9]; exact I (i+j) v (by rwa [Wu] at hj))
   (fun j hj=>by rw [W9]; exact p _ zO) (fun j hj=>by rw [W9]; exact z _ zO) (fun v T=>E v (YN T))
 obtain ⟨g,l⟩:∃ g,g=w.drew.setCells b (off+(i+m)) (cs.drop i):=⟨_,rfl⟩
 have S:∀ k,k<n+m->(g.cell? ⟨b,off+k,none⟩).isSome=true:=fun k N=>by
  rw [l];exact qM b _ _ _ (fun j hj=>by rw [W9]; exact p _ zO) _ (p k N)
 have H:∀ (W:World),(∀ x,W.cell? x=g.cell? x)->(∀ x,W.frozen? x=g.frozen? x)->∀ ty d,(Builtin.copy_ #[153,153] ty #[.slice (some ⟨b,off+i,none⟩) (n+m-i) d,.slice (some ⟨a,f,none⟩) m o]).run Tryz.prog W=.ok (goInt vs.length) (W.setCells b (off+i) vs):=fun W u G ty d =>
  run_copy_cells W _ _ ty 24 b (off+i) (n+m-i) d ⟨a,f,none⟩ m o vs tS A (by rw [U]; simp only [Nat.min_def]; split <;> omega)
   (fun j v hj=>by
    rw [Addr.add_lit,u,l,World.cell?_setCells_out b _ _ _ _ (fun h _=>absurd h B)];exact V j v hj)
   (fun j hj=>by rw [u,W9]; exact S _ zO) (fun j hj=>by rw [G,l,World.frozen?_setCells,W9]; exact z _ zO) F
 rw [<- l] at y;have mixed:=E9
 go_enter Tryz.func224,Tryz.ntmps224
 go_wp2_with (simp only [P])
 go_region_law_o (refine rg rfl _ _ 153 153 rfl _ _ (by simp [Act.eval,Act.put]) (by simp [Act.eval,Act.put]) (y _ _ _) ?_)
 go_wp2_with (at_builtin; refine kj _ rfl _ _ 153 153 rfl _ _ rfl rfl (H _ (fun _=>rfl) (fun _=>rfl) _ _) ?_)
 go_ret
 first | exact ⟨rfl,rfl⟩ | exact ⟨rfl,by rw [l]⟩
set_option maxHeartbeats 4000000 in
set_option maxRecDepth 100000 in
def end_room (b off n c a d m f:Nat) (vs:List Value) (w:World) (hm:0<m) (k:n+m<=c) (q:n+m<=9223372036854775807)
  (g:vs.length=m) (l:∀ j,j<m->(w.cell? ⟨b,off+n+j,none⟩).isSome=true) (i:∀ j,j<m->w.frozen? ⟨b,off+n+j,none⟩=false)
  (p:∀ j v,vs[j]? = some v->w.cell? ⟨a,d+j,none⟩=some v) (h:∀ v∈vs,v.oneCell'=true) :
  Calls Tryz.prog 224 #[.slice (some ⟨b,off,none⟩) n c,.int .i64 n,.slice (some ⟨a,d,none⟩) m f] w fun e w' =>
   e=.returned (.slice (some ⟨b,off,none⟩) (n+m) c)/\w'=w.setCells b (off+n) vs:=by
 have r:¬ ((m:Int)=0):=zO;have o:Src Tryz.prog 1 153 (.slice (some ⟨a,d,none⟩) m f) m vs w:=Src.ofSlice w tS ⟨a,d,none⟩ m f vs zO (fun j u hj=>by rw [Addr.add_lit]; exact p j u hj) h;have mixed:=E9
 go_enter Tryz.func224,Tryz.ntmps224
 go_wp2_with (at_builtin; refine wpList_append_room1 _ rfl _ _ 153 153 rfl 24 _ _ tS iE b off n c rfl _ rfl m vs o k (by rw [g]; exact l) (by rw [g]; exact i) ?_)
 go_ret
 exact ⟨rfl,rfl⟩
set_option maxHeartbeats 4000000 in
set_option maxRecDepth 100000 in
def end_grow (base:Option Addr) (n c b d m f:Nat) (cs vs:List Value) (w:World) (hm:0<m) (D:n<=c) (i:c<n+m) (p:(n+m)*24<=140737488355328)
  (hcl:cs.length=n) (E:vs.length=m) (h:base=none->n=0)
  (q:∀ a,base=some a->∀ j v,cs[j]? = some v->w.cell? (a.add j)=some v)
  (x:∀ j v,vs[j]? = some v->w.cell? ⟨b,d+j,none⟩=some v) (o:∀ v∈vs,v.oneCell'=true) :
  Calls Tryz.prog 224 #[.slice base n c,.int .i64 n,.slice (some ⟨b,d,none⟩) m f] w fun e w' =>
   e=.returned (.slice (some ⟨w.heap.size,0,none⟩) (n+m) (grownCap w (n+m) c 24)) /\
   w'=w.drew.alloc (.cells ((cs++vs).toArray++Builtin.zeroCells (Value.slice none 0 0).cells (grownCap w (n+m) c 24-(n+m))) 24):=by
 obtain ⟨g,r,y,l,z⟩:=info_parts iE;have F:¬ ((m:Int)=0):=zO;have t:Src Tryz.prog g.size 153 (.slice (some ⟨b,d,none⟩) m f) m vs w:=by
  rw [l];exact Src.ofSlice w tS ⟨b,d,none⟩ m f vs zO (fun j u hj=>by rw [Addr.add_lit]; exact x j u hj) o
 have s:(Builtin.firstCells g.size n (.slice base n c)).run Tryz.prog w.drew=.ok cs.toArray w.drew:=by
  rw [l];cases base with
  | none =>
   have h0:=h rfl;subst h0;rw [Xi.1 hcl];exact run_firstCells_none w.drew 1 0 0 c
  | some a=>exact run_firstCells_some w.drew 1 n a n c cs zO (fun j v hj=>q a rfl j v hj)
 have k:∀ ty,(Builtin.append_ #[153,153] ty #[.slice base n c,.slice (some ⟨b,d,none⟩) m f]).run Tryz.prog w=_:=fun ty =>
  run_append_grow_src w 153 153 ty 24 g _ tS r y base n c cs s _ m vs t i zO (by rw [z]; exact growslice_fits i p)
 have mixed:=E9
 go_enter Tryz.func224,Tryz.ntmps224
 cases base with
 | none =>
  have h0:=h rfl;subst h0
  go_wp2_with (at_builtin; refine Lib.wpList_append_run _ rfl _ _ _ _ rfl _ _ rfl rfl _ _ (k _) ?_)
  go_ret
  exact ⟨rfl,rfl⟩
 | some a =>
  obtain ⟨A,B,C⟩:=a
  go_wp2_with (at_builtin; refine Lib.wpList_append_run _ rfl _ _ _ _ rfl _ _ rfl rfl _ _ (k _) ?_)
  all_goals (go_ret; exact ⟨rfl,rfl⟩)
set_option maxHeartbeats 4000000 in
set_option maxRecDepth 100000 in
def grow (b off n c i f q m B:Nat) (cs vs:List Value) (w:World) (hi:i<n) (hm:0<m) (au:n<=c) (ad:c<n+m) (Y:(n+m)*24<=140737488355328)
  (hcl:cs.length=n) (ae:vs.length=m)
  (y:∀ j v,cs[j]? = some v->w.cell? ⟨b,off+j,none⟩=some v)
  (J:∀ j v,vs[j]? = some v->w.cell? ⟨f,q+j,none⟩=some v) (N:∀ v∈cs,v.oneCell'=true) (O:∀ v∈vs,v.oneCell'=true) :
  Calls Tryz.prog 224 #[.slice (some ⟨b,off,none⟩) n c,.int .i64 i,.slice (some ⟨f,q,none⟩) m B] w fun e w' =>
   e=.returned (.slice (some ⟨w.heap.size,0,none⟩) (n+m) (grownCap w (n+m) c 24)) /\
   w'=(((w.alloc (.cells ((cs.take i).toArray++Builtin.zeroCells (Value.slice none 0 0).cells (n+m-i)++Builtin.zeroCells (Value.slice none 0 0).cells (grownCap w (n+m) c 24-(n+m))) 24)).drew.setCells w.heap.size i vs).drew).setCells w.heap.size (i+m) (cs.drop i):=by
 obtain ⟨M,E,ag,L,K⟩:=info_parts iE;have ax:¬ ((m:Int)=0):=zO;have ay:¬ ((i:Int)=(n:Int)):=zO;have aB:(c:Int)<(n:Int)+(m:Int):=zO;have I:(Tryz.prog.info? 24).map (·.size)=some 1:=by rw [E]; simp [L]
 have Z:b<w.heap.size:=block_lt_of_cell (y 0 _ (VZ zO));have af:f<w.heap.size:=block_lt_of_cell (J 0 _ (VZ zO));have F:(n:Int)+(m:Int)-(i:Int)=((n+m-i:Nat):Int):=zO;have z:i+(n+m-i)=n+m:=zO;have H:(Builtin.firstCells M.size i (.slice (some ⟨b,off,none⟩) i c)).run Tryz.prog w.drew=.ok (cs.take i).toArray w.drew:=by
  rw [L];exact run_firstCells_some w.drew 1 i ⟨b,off,none⟩ i c (cs.take i) (by rw [WE]; omega) (fun j v hj=>by
   rw [Addr.add_lit];rw [Wt] at hj;split at hj
   ·exact y j v hj
   ·cases hj)
 have p:∀ ty,(Builtin.append_ #[153,3] ty #[.slice (some ⟨b,off,none⟩) i c,.int .i64 ((n:Int)+(m:Int)-(i:Int))]).run Tryz.prog w =
   .ok (.slice (some ⟨w.heap.size,0,none⟩) (n+m) (grownCap w (n+m) c 24)) (w.drew.alloc (.cells ((cs.take i).toArray++Builtin.zeroCells (Value.slice none 0 0).cells (n+m-i)++Builtin.zeroCells (Value.slice none 0 0).cells (grownCap w (n+m) c 24-(n+m))) 24)):=fun ty=>by
  have h:=Lib.run_append_grow_zeros w 153 3 ty 24 M _ .i64 .i64 tS tI E ag (some ⟨b,off,none⟩) i c (cs.take i) H (n+m-i) zO zO zO zO (by rw [K]; omega) (by rw [K,z]; exact growslice_fits ad Y);rw [z] at h;rw [F];exact h
 obtain ⟨G,o⟩:∃ G,G=grownCap w (n+m) c 24:=⟨_,rfl⟩
 obtain ⟨a,s⟩:∃ a:Array Value,a=(cs.take i).toArray++Builtin.zeroCells (Value.slice none 0 0).cells (n+m-i)++Builtin.zeroCells (Value.slice none 0 0).cells (G-(n+m)):=⟨_,rfl⟩
 rw [<- o] at p ⊢;rw [<- s] at p ⊢;have V:n+m<=a.size:=by
  rw [s];simp [Builtin.zeroCells,Value.cells];omega
 obtain ⟨d,k⟩:∃ d,d=w.drew.alloc (.cells a 24):=⟨_,rfl⟩
 rw [<- k] at p;have r:∀ j,j<n+m->(d.cell? ⟨w.heap.size,j,none⟩).isSome=true:=fun j hj=>by
  rw [k,World.cell?_alloc_at (w:=w.drew) a _ w.heap.size j rfl,Xj zO]; rfl
 have C:∀ j,d.frozen? ⟨w.heap.size,j,none⟩=false:=fun j=>by rw [k]; exact World.frozen?_alloc_at (w:=w.drew) a _ w.heap.size j rfl
 have T:∀ j v,w.cell? ⟨b,j,none⟩=some v->d.cell? ⟨b,j,none⟩=some v:=fun j v h=>by rw [k,World.cell?_alloc_past (w:=w.drew) _ b j Z]; exact h
 have U:∀ j v,w.cell? ⟨f,j,none⟩=some v->d.cell? ⟨f,j,none⟩=some v:=fun j v h=>by rw [k,World.cell?_alloc_past (w:=w.drew) _ f j af]; exact h
 have aa:∀ (W:World),(∀ x,W.cell? x=d.cell? x)->(∀ x,W.frozen? x=d.frozen? x)->∀ ty g,(Builtin.copy_ #[153,153] ty #[.slice (some ⟨w.heap.size,i,none⟩) (n+m-i) g,.slice (some ⟨f,q,none⟩) m B]).run Tryz.prog W=.ok (goInt vs.length) (W.setCells w.heap.size i vs):=fun W l u ty g =>
  run_copy_cells W _ _ ty 24 w.heap.size i (n+m-i) g ⟨f,q,none⟩ m B vs tS I (by rw [ae]; simp only [Nat.min_def]; split <;> omega)
   (fun j v hj=>by rw [Addr.add_lit,l]; exact U _ v (J j v hj))
   (fun j hj=>by rw [l]; exact r _ zO) (fun j hj=>by rw [u]; exact C _) O
 have am:n+m<=G:=by rw [o]; exact grownCap_ge w _ _ _
 have ah:G<=9223372036854775807:=by
  have:=grownCap_le_maxLen w (n+m) c 24 (by unfold maxLen; omega)
  rw [<- o] at this;unfold maxLen at this;omega
 have aj:¬ (G=i):=zO;have al:¬ (G=i+m):=zO;have aq:¬ (c=i):=zO;have X:b≠w.heap.size:=zO;have ab:(cs.drop i).length=n-i:=by rw [Xm,hcl]
 have D:∀ (W:World),(∀ x,W.cell? x=(d.setCells w.heap.size i vs).cell? x)->(∀ x,W.frozen? x=(d.setCells w.heap.size i vs).frozen? x)->∀ ty g A,(Builtin.copy_ #[153,153] ty #[.slice (some ⟨w.heap.size,i+m,none⟩) (n+m-(i+m)) g,.slice (some ⟨b,off+i,none⟩) (n-i) A]).run Tryz.prog W=.ok (goInt (cs.drop i).length) (W.setCells w.heap.size (i+m) (cs.drop i)):=fun W l u ty g A =>
  run_copy_cells W _ _ ty 24 w.heap.size (i+m) (n+m-(i+m)) g ⟨b,off+i,none⟩ (n-i) A (cs.drop i) tS I (by rw [ab]; simp only [Nat.min_def]; split <;> omega)
   (fun j v hj=>by
    rw [Addr.add_lit,l,World.cell?_setCells_out _ _ _ _ _ (fun h _=>absurd h X),W9];exact T _ v (y (i+j) v (by rwa [Wu] at hj)))
   (fun j hj=>by rw [l]; exact qM _ _ _ _ (fun t ht=>r _ zO) _ (r _ zO))
   (fun j hj=>by rw [u,World.frozen?_setCells]; exact C _) (fun v hv=>N v (YN hv))
 subst k;have P:∀ x,((w.alloc (.cells a 24)).drew).cell? x=(w.drew.alloc (.cells a 24)).cell? x:=fun x=>rfl;have Q:∀ x,((w.alloc (.cells a 24)).drew).frozen? x=(w.drew.alloc (.cells a 24)).frozen? x:=fun x=>rfl;have R:∀ x,(((w.alloc (.cells a 24)).drew.setCells w.heap.size i vs).drew).cell? x=((w.drew.alloc (.cells a 24)).setCells w.heap.size i vs).cell? x:=fun x=>rfl;have S:∀ x,(((w.alloc (.cells a 24)).drew.setCells w.heap.size i vs).drew).frozen? x=((w.drew.alloc (.cells a 24)).setCells w.heap.size i vs).frozen? x:=fun x=>rfl;have aw:IntKind.i64.wrap ((i:Int)+(m:Int))=(i:Int)+(m:Int):=by rw [IntKind.wrap_i64]; omega
 have ao:(0:Int)<=(i:Int)+(m:Int):=zO;have ar:i<=n:=zO;have av:((i:Int)+(m:Int)).toNat=i+m:=zO;have ap:(i:Int)<=(n:Int):=zO;clear F z H s o V;have mixed:=E9
 go_enter Tryz.func224,Tryz.ntmps224
 go_wp2_with (first
  | (at_builtin; refine Lib.wpList_append_run _ rfl _ _ _ _ rfl _ _ rfl rfl _ _ (p _) ?_)
  | (at_builtin; refine kj _ rfl _ _ 153 153 rfl _ _ rfl rfl (aa _ P Q _ _) ?_)
  | (at_builtin; refine kj _ rfl _ _ 153 153 rfl _ _ rfl rfl (D _ (fun _=>rfl) (fun _=>rfl) _ _ _) ?_))
 go_region_law_o (refine rg rfl _ _ 153 153 rfl (.slice (some ⟨w.heap.size,i+m,none⟩) (n+m-(i+m)) (G-(i+m))) (.slice (some ⟨b,off+i,none⟩) (n-i) (c-i)) (by simp [Act.eval,Act.put]) (by simp [Act.eval,Act.put]) (D _ R S 3 (G-(i+m)) (c-i)) ?_)
 go_wp2
 go_ret
 exact ⟨rfl,rfl⟩
end Go.Proofs.YteaefaohjlmjdaaGreat.Ins224
namespace Go.Proofs.YteaefaohjlmjdaaGreat.Ev.Ok224
open Go Go.Proofs.YteaefaohjlmjdaaGreat.Ev
def tN (A:Array Value):Nat->List Value->Array Value
 | _,[]=>A
 | o,v :: r=>tN (A.setIfInBounds o v) (o+1) r
def jf:∀ (vs:List Value) (o:Nat) (A:Array Value),(tN A o vs).size=A.size
 | [],o,A=>rfl
 | v :: r,o,A=>by rw [tN,jf r]; simp
def oW:∀ (vs:List Value) (o:Nat) (A:Array Value) (j:Nat),j<A.size->(tN A o vs)[j]? = if o<=j/\j<o+vs.length then vs[j-o]? else A[j]?
 | [],o,A,j,hj=>by rw [tN,if_neg (by simp only [Yg]; omega)]
 | v :: r,o,A,j,hj=>by
  rw [tN,oW r (o+1) _ j (by simpa using hj)];by_cases h1:o+1<=j/\j<o+1+r.length
  ·rw [if_pos h1,if_pos (by simp; omega),show j-o=(j-(o+1))+1 by omega,XC]
  ·rw [if_neg h1];by_cases h2:j=o
   ·subst h2;rw [if_pos (by simp),ZZ,Xs,Array.getElem?_setIfInBounds_self_of_lt hj]
   ·rw [if_neg (by simp; omega),Array.getElem?_setIfInBounds_ne zO]
def ny (b:Nat):∀ (vs:List Value) (o:Nat) (w:World) (arr:Array Value) (ty:TypeId) (fr:Nat × Nat),w.heap[b]? = some (.cells arr ty fr) ->
  (w.setCells b o vs).heap[b]? = some (.cells (tN arr o vs) ty fr)/\(∀ c,c≠b->(w.setCells b o vs).heap[c]? = w.heap[c]?)/\(w.setCells b o vs).heap.size=w.heap.size /\
   Tp w (w.setCells b o vs)/\(w.setCells b o vs).os=w.os/\(w.setCells b o vs).output=w.output
 | [],o,w,arr,ty,fr,h=>⟨h,fun _ _=>rfl,rfl,Tp.same rfl rfl,rfl,rfl⟩
 | v :: r,o,w,arr,ty,fr,h=>by
  have h1:(w.setCell ⟨b,o,none⟩ v).heap[b]? = some (.cells (arr.setIfInBounds o v) ty fr):=by
   simp [World.setCell,Yd,h]
  obtain ⟨k1,k2,a,d,e,f⟩:=ny b r (o+1) (w.setCell ⟨b,o,none⟩ v) _ ty fr h1;refine ⟨k1,fun c hc=>(k2 c hc).trans ?_,a.trans ?_,(Tp.same rfl rfl).trans d,e,f⟩
  ·simp [World.setCell,Yd,Ne.symm hc]
  ·simp [World.setCell]
def ni (w:World) (ty:TypeId):∀ (vs:List Value) (o:Nat) (A:Array Value),(w.alloc (.cells A ty)).setCells w.heap.size o vs=w.alloc (.cells (tN A o vs) ty)
 | [],o,A=>rfl
 | v :: r,o,A=>by
  have h1:(w.alloc (.cells A ty)).setCell ⟨w.heap.size,o,none⟩ v=w.alloc (.cells (A.setIfInBounds o v) ty):=by
   simp only [World.setCell,World.alloc];congr 1
   apply Z6
   intro j;rw [Yd];by_cases hj:w.heap.size=j
   ·subst hj; simp
   ·rw [if_neg hj,YT,YT,if_neg (Ne.symm hj),if_neg (Ne.symm hj)]
  rw [World.setCells,h1,ni w ty r (o+1) _]; rfl
section
variable {P:Program} {μ:Mu} {F:Nat->Prop} {H:Heap} {w:World}
def B0 {μ':Mu} {H':Heap} {w':World} (h:Stp (fun x=>x=H.next) P μ F { H with next:=H.next+1 } w μ' F H' w'):Stp tG P μ F H w μ' F H' w' :=
 ⟨h.mu,h.fr,h.size,h.keep,h.rw,Wj (WJ _ _) h.next,fun b hb _ hn=>h.new b (Wo hb (WJ _ _)) zO hn,h.rng,
  fun b e hb hl _=>h.old b e hb (Wo hl (WJ _ _)) zO,h.alv,h.tape,h.os,h.out⟩
def KJ {ty:Nat} {cs:List AV} {V:List Value} {A:Array Value} {w1:World} {k cap':Nat} {a:Heap} (hH:HR P μ F a w) (o:a.next=H.next+1) (e:μ H.next=none) (hs:sizeOf? P ty=some 1)
  (hl:LR μ F w cs V) (f:V.length=k) (hA:∀ j,j<k->A[j]? = V[j]?) (d:k<=cap') (m:A.size=cap')
  (h1:w1.heap=w.heap) (n:Tp w w1) (g:w1.os=w.os) (l:w1.output=w.output) :
  ∃ μ',VR μ' F (w1.alloc (.cells A ty)) (.own H.next 0 k k 1 false) (.slice (some ⟨w.heap.size,0,none⟩) k cap')/\HR P μ' F (a.put H.next (.cells cs ty true)) (w1.alloc (.cells A ty)) /\
   Stp (fun x=>x=H.next) P μ F a w μ' F (a.put H.next (.cells cs ty true)) (w1.alloc (.cells A ty)):=by
 have hcl:cs.length=k:=hl.1.trans f;obtain ⟨q1,q2⟩:=mp (I:=fun x=>x=H.next) hH e zO rfl (sz:=1) (arr:=A) (cs:=cs) hs zO
  (fun i c v hc b=>by
   have hi:i<k:=by rw [<- hcl]; exact (Wi.1 hc).1
   rw [hA i hi] at b;exact hl.2 i c v hc b) w1 h1 n g l
 exact ⟨_,.own H.next 0 k k 1 false _ cap' (upd_same _ _) rfl (V6 _) d (fun h=>by cases h) (by simp [m]),q1,q2⟩
def Ry {b ty:Nat} {L:CU} {a cs:List AV} {V:List Value} {A:Array Value} {w':World} {k cap:Nat} (hH:HR P μ F H w) (hb:H.get b=some (.cells a ty true)) (hL:μ b=some L) (o:L.sz=1)
  (hl:LR μ F w cs V) (s:V.length=k) (hA:∀ j,j<k->A[j]? = V[j]?) (q:k<=cap) (B:A.size=L.N) (N:cap<=L.N)
  (D:w'.heap[L.blk]? = some (.cells A ty (0,0))) (u:∀ c,c≠L.blk->w'.heap[c]? = w.heap[c]?) (z:w'.heap.size=w.heap.size) (C:Tp w w') (t:w'.os=w.os) (y:w'.output=w.output) :
  ∃ μ',VR μ' F w' (.own H.next 0 k k 1 false) (.slice (some ⟨L.blk,0,none⟩) k cap)/\HR P μ' F (({ H with next:=H.next+1 }.kill b).put H.next (.cells cs ty true)) w' /\
   Stp tG P μ F H w μ' F (({ H with next:=H.next+1 }.kill b).put H.next (.cells cs ty true)) w':=by
 have hcl:cs.length=k:=hl.1.trans s;have r:μ H.next=none:=kF hH (V6 _)
 have n:=hH.bump 1;have p:({ H with next:=H.next+1 }:Heap).get b=some (.cells a ty true):=hb;obtain ⟨arr,fr,E,G,g,J,K,l,M⟩:=gh hH hb hL;obtain ⟨p1,p2⟩:=jc (I:=fun x=>x=H.next) (e:=.cells cs ty true) n p rfl hL w' u z C t y
  (fun m=>⟨A,(0,0),D,B,g,zO,fun i c v hc d=>by
   have hi:i<k:=by rw [<- hcl]; exact (Wi.1 hc).1
   rw [hA i hi] at d;exact (hl.2 i c v hc d).mono (fun _ _ h=>h) (fun _ h=>h) m,fun _=>⟨(l rfl).1,rfl⟩,fun h=>by cases h⟩) rfl
 obtain ⟨q4,q5⟩:=vV (I:=fun x=>x=H.next) p1 (b:=b) (id:=H.next) (L:=L) (by rw [Heap.get_put,if_pos rfl]) hL r (by show H.next<H.next+1; omega) rfl;refine ⟨μ.upd H.next L,.own H.next 0 k k 1 false L cap (upd_same _ _) o (V6 _) q (fun h=>by cases h) (by simp; omega),?_,?_⟩
 ·refine q4.congr rfl fun x=>?_;simp only [Heap.get_put,Heap.get_kill];split
  ·rfl
  ·split
   ·rfl
   ·rename_i hx; rfl
 ·refine B0 ((p2.trans q5).congr rfl fun x e he=>⟨e,?_,rfl⟩);simp only [Heap.get_put,Heap.get_kill] at he ⊢;split at he
  ·rename_i hx; rw [if_pos hx]; exact he
  ·rename_i hx;rw [if_neg hx];split at he
   ·cases he
   ·rename_i f; rw [if_neg f,if_neg f]; exact he
end
def wF {vs:List Value} {w:World} {F:Fence} {rd:Bool} {n:Nat} {R:Value->World->Prop} (a:FenceOK F rd) (h:Calls Tryz.prog 224 vs.toArray w fun e w'=>∃ u,e=.returned u/\R u w'):Runs F n Tryz.prog ((callFunc 224 vs.toArray).run Tryz.prog w) R:=by
 rw [tu (P:=Tryz.prog) (f:=224) Tryz.func224 (by kernel_rfl) (of_decide_eq_true (by kernel_rfl))];unfold Runs;simp only;have key:CallsIn Fence.wide n Tryz.prog 224 vs.toArray w fun e w'=>∃ u,e=.returned u/\R u w':=callsIn_wide.2 h;rcases a with ⟨_,rfl⟩ | ⟨_,l,rfl⟩
 ·exact key
 ·exact key
def vZ {w:World} {b:Nat} {arr:Array Value} {ty:TypeId} (h:w.heap[b]? = some (.cells arr ty (0,0))) (o:Nat):w.frozen? ⟨b,o,none⟩=false:=by
 simp [World.frozen?,h]
def Rz {H H':Heap} {size bytes ty:Nat} {args:List AV} {v:AV} (h:wM H (.insert size bytes ty) args=some (v,H')) :
  (∃ d f m e g JB a,args=[.nilSl,.int .i64 (.ofNat 0),.own d f m e g JB]/\aP H size m (.own d f m e g JB)=some a/\0<m/\m*bytes<=2^46/\m<2^62/\a.all AV.one=true /\
   v=.own H.next 0 m m size false/\H'=({ H with next:=H.next+1 }:Heap).put H.next (.cells a ty true)) \/
  (∃ b n c ex i d f m e g JB a cs p ty2,args=[.own b 0 n c size ex,.int .i64 (.ofNat i),.own d f m e g JB]/\aP H size m (.own d f m e g JB)=some a/\H.get b=some (.cells cs ty true)/\H.get d=some (.cells p ty2 true) /\
   b≠d/\0<m/\i<=n/\cs.length=n*size/\(n+m)*bytes<=2^46/\n+m<2^62/\a.all AV.one=true/\cs.all AV.one=true /\
   v=.own H.next 0 (n+m) (n+m) size false/\H'=(({ H with next:=H.next+1 }:Heap).kill b).put H.next (.cells (cs.take (i*size)++a++cs.drop (i*size)) ty true)):=by
 unfold wM at h;split at h
 all_goals first | contradiction | skip
 ·rename_i heq;cases heq;split at h
  ·rename_i a q;split at h
   ·rename_i hc;obtain ⟨j,k,l,c4,o⟩:=hc;cases h;subst j;exact .inl ⟨_,_,_,_,_,_,a,rfl,q,k,l,c4,o,rfl,rfl⟩
   ·cases h
  ·cases h
 ·rename_i heq;cases heq;split at h
  ·rename_i a cs y p ty2 q hb x;split at h
   ·rename_i hc;obtain ⟨j,k,l,c4,o,c6,t,u,w,r,s⟩:=hc;cases h;subst j;subst k;subst w;exact .inr ⟨_,_,_,_,_,_,_,_,_,_,_,a,cs,p,ty2,rfl,q,hb,x,l,c4,o,c6,t,u,r,s,rfl,rfl⟩
   ·cases h
  ·cases h
 all_goals (cases h)
def GS {P:Program} {μ:Mu} {F:Nat->Prop} {H:Heap} {w:World} {f a m p t:Nat} {JB:Bool} {s:List AV} {z:Value} (hH:HR P μ F H w) (hz:VR μ F w (.own f a m p t JB) z) (e:aP H 1 m (.own f a m p t JB)=some s) :
  ∃ d n b ty2 g o l,μ f=some d/\z=.slice (some ⟨d.blk,a,none⟩) m n/\H.get f=some (.cells o ty2 l)/\w.heap[d.blk]? = some (.cells b ty2 g)/\a+m<=b.size/\(l=true->g=(0,0)) /\
   ((b.toList.drop a).take m).length=m/\LR μ F w s ((b.toList.drop a).take m)/\∀ j u,((b.toList.drop a).take m)[j]? = some u->w.cell? ⟨d.blk,a+j,none⟩=some u:=by
 cases hz with
 | own _ _ _ _ _ _ d n k1 k2 K L M N =>
 simp only [aP] at e;split at e
 ·rename_i o ty2 l r;split at e
  ·rename_i y;obtain ⟨C,D,e3⟩:=y;cases e;obtain ⟨b,g,q,E,G,I,v,x,J⟩:=gh hH r k1;have B:((b.toList.drop a).take m).length=m:=by simp; omega
   refine ⟨d,n,b,ty2,g,o,l,k1,rfl,r,q,zO,fun h=>(x h).2,B,⟨by simp; omega,fun i c u hi k=>?_⟩,fun j u hj=>?_⟩
   ·rw [Wt] at hi k;rw [Xy] at hi;split at hi
    ·rename_i A;rw [if_pos A] at k;rw [Wu] at hi k;exact v _ c u hi (by simpa using k)
    ·cases hi
   ·rw [qp q];rw [Wt] at hj;split at hj
    ·rw [Wu] at hj; simpa using hj
    ·cases hj
  ·cases e
 ·cases e
def Q9 {μ:Mu} {F:Nat->Prop} {w:World} {b n c sz:Nat} {ex:Bool} {x:Value} (h:VR μ F w (.own b 0 n c sz ex) x):∃ L cap,μ b=some L/\L.sz=sz/\n<=c/\c<=cap/\cap*sz<=L.N/\x=.slice (some ⟨L.blk,0,none⟩) n cap:=by
 cases h with
 | own _ _ _ _ _ _ L cap k1 k2 a d e f=>exact ⟨L,cap,k1,k2,a,d,zO,rfl⟩
def AW {μ:Mu} {F:Nat->Prop} {w:World} {vs:List Value} {a b c:AV} (h:LR μ F w [a,b,c] vs):∃ x y z,vs=[x,y,z]/\VR μ F w a x/\VR μ F w b y/\VR μ F w c z:=by
 have hl:=h.1
 match vs,hl with
 | [x,y,z],_=>exact ⟨x,y,z,rfl,h.head,h.tail.head,h.tail.tail.head⟩
set_option maxRecDepth 100000 in
def extOK_insert:ExtOK Tryz.prog 224 (.insert 1 24 24):=by
 intro H args v H' h μ F w vs fence rd nn G hH hl;have af:sizeOf? Tryz.prog 24=some 1:=by
  obtain ⟨i0,hi,h0,h1,h2⟩:=info_parts Ins224.iE;simp [sizeOf?,hi,h1]
 have ae:μ H.next=none:=kF hH (V6 _)
 have J:∀ k,(Builtin.zeroCells (Value.slice none 0 0).cells k).size=k:=fun k=>by rw [Ap]; simp [Value.cells]
 rcases Rz h with ⟨b2,f,m,c2,ap,JB,R,rfl,V,h1,h2,h3,h4,rfl,rfl⟩ | ⟨b,n,c,ex,i,b2,f,m,c2,ap,JB,R,cs,ah,ty2,rfl,V,hb,ad,h1,h2,h3,h4,h5,h6,M,h8,rfl,rfl⟩
 ·obtain ⟨x,y,z,rfl,hx,hy,hz⟩:=AW hl;cases hx;cases hy;obtain ⟨o,t,q,ty2,aj,ah,ao,k1,rfl,Y,K,g2,-,s,p,B⟩:=GS hH hz V;refine wF G ((Ins224.end_grow none 0 0 o.blk f m t [] ((q.toList.drop f).take m) w h1 (V6 _) zO zO rfl s (fun _=>rfl) (fun a h=>by cases h) B (p.one h4)).mono fun e w' ⟨he,g⟩=>?_);subst g;rw [WT] at he;have hge:=Go.grownCap_ge w m 0 24;simp only [WT,Ys];obtain ⟨μ',q1,q2,q3⟩:=KJ (P:=Tryz.prog) (H:=H) (A:=((q.toList.drop f).take m).toArray++Builtin.zeroCells (Value.slice none 0 0).cells (grownCap w m 0 24-m)) (w1:=w.drew) (k:=m) (cap':=grownCap w m 0 24) (hH.bump 1) rfl ae af p s
   (fun j hj=>by rw [Xp (by simp [s]; omega)]; simp) hge (by simp only [Yn,YC,s,J]; omega) rfl Tp.draw rfl rfl
  exact ⟨_,he,μ',q1,q2,B0 q3⟩
 ·obtain ⟨x,y,z,rfl,hx,hy,hz⟩:=AW hl;obtain ⟨L,cap,r1,r2,r3,r4,r5,rfl⟩:=Q9 hx;cases hy;obtain ⟨o,t,q,ar,aj,aq,ao,k1,rfl,Y,K,g2,al,s,p,B⟩:=GS hH hz V;rw [ad] at Y;cases Y;have am:=al rfl;subst am;obtain ⟨arr,fr,p1,p2,p3,p4,p5,p6,p7⟩:=gh hH hb r1;obtain ⟨-,rfl⟩:=p6 rfl;rw [Xy] at h4 r5;have hne:o.blk≠L.blk:=fun e=>h1 (hH.inj b b2 _ _ L o hb ad r1 k1 e.symm);have X:(arr.toList.take n).length=n:=by simp; omega
  have O:LR μ F w cs (arr.toList.take n):=by
   refine ⟨by simp; omega,fun i c u hi Q=>?_⟩;rw [Wt] at Q;split at Q
   ·exact p5 i c u hi (by simpa using Q)
   ·cases Q
  have T:∀ j u,(arr.toList.take n)[j]? = some u->w.cell? ⟨L.blk,0+j,none⟩=some u:=fun j u hj=>by
   rw [qp p1,WT];rw [Wt] at hj;split at hj
   ·simpa using hj
   ·cases hj
  have hV:LR μ F w (cs.take (i*1)++R++cs.drop (i*1)) ((arr.toList.take n).take i++(q.toList.drop f).take m++(arr.toList.take n).drop i):=by
   rw [Xy];exact ((O.take i).append p).append (O.drop i)
  have aa:((arr.toList.take n).take i++(q.toList.drop f).take m++(arr.toList.take n).drop i).length=n+m:=by
   simp only [Wm,WE,Xm,s,X]
   have:=X
   rw [WE] at this;omega
  generalize hC:arr.toList.take n=C at *
  generalize hD:(q.toList.drop f).take m=D at *
  have d:=X;have l:=s;have ab:∀ j,j<n->arr[j]? = C[j]?:=fun j hj=>by rw [<- hC,Wt,if_pos hj]; simp
  have N:∀ j,j<n+m->(C.take i++D++C.drop i)[j]? = if j<i then C[j]? else if j<i+m then D[j-i]? else C[j-m]?:=by
   intro j hj;have r:(C.take i).length=i:=by rw [WE]; omega
   by_cases q1:j<i
   ·rw [if_pos q1,WH (by rw [Wm,r]; omega),WH zO,Wt,if_pos q1]
   ·rw [if_neg q1];by_cases q2:j<i+m
    ·rw [if_pos q2,WH (by rw [Wm,r]; omega),WZ zO,r]
    ·rw [if_neg q2,WZ (by rw [Wm,r]; omega),Wm,r,Wu];congr 1; omega
  have ag:∀ j,j<cap->(w.cell? ⟨L.blk,0+j,none⟩).isSome=true:=fun j hj=>by
   rw [qp p1,WT,Xj zO]; rfl
  by_cases W:n+m<=cap
  ·
   have fin:∀ (A:Array Value) (w':World),A.size=L.N->(∀ j,j<n+m->A[j]? = (C.take i++D++C.drop i)[j]?)->w'.heap[L.blk]? = some (.cells A 24 (0,0))->(∀ c,c≠L.blk->w'.heap[c]? = w.heap[c]?)->w'.heap.size=w.heap.size->Tp w w'->w'.os=w.os->w'.output=w.output ->
     ∃ μ',iJ tG Tryz.prog μ F H w (.own H.next 0 (n+m) (n+m) 1 false) (({ H with next:=H.next+1 }:Heap).kill b |>.put H.next (.cells (cs.take (i*1)++R++cs.drop (i*1)) 24 true)) (.slice (some ⟨L.blk,0,none⟩) (n+m) cap) w' μ':=by
    intro A w' E a2 a3 a4 a5 S a7 a8;obtain ⟨μ',q1,q2,q3⟩:=Ry (P:=Tryz.prog) (A:=A) (w':=w') (k:=n+m) (cap:=cap) hH hb r1 r2 hV aa a2 W E r5 a3 a4 a5 S a7 a8;exact ⟨μ',q1,q2,q3⟩
   by_cases U:i=n
   ·subst U;refine wF G ((Ins224.end_room L.blk 0 i cap o.blk f m t D w h2 W zO l (fun j hj=>by rw [W9]; exact ag _ zO) (fun j _=>vZ p1 _) B (p.one M)).mono fun e w' ⟨he,g⟩=>?_);subst g;obtain ⟨s1,s2,Z,s4,s5,s6⟩:=ny L.blk D (0+i) w arr 24 (0,0) p1;obtain ⟨μ',hd⟩:=fin _ _ ((jf _ _ _).trans p2) (fun j hj=>by
     rw [oW _ _ _ _ zO,N j hj,l,WT];by_cases q1:j<i
     ·rw [if_neg zO,if_pos q1,ab j q1]
     ·rw [if_pos zO,if_neg q1,if_pos zO]) s1 s2 Z s4 s5 s6
    exact ⟨_,he,μ',hd⟩
   ·refine wF G ((Ins224.shift L.blk 0 n cap i o.blk f m t C D w zO h2 W zO hne d l T (fun j hj=>ag j zO) (fun j _=>vZ p1 _) B (O.one h8) (p.one M)
     ty2 24 q.size arr.size (by simp [World.shape?,K]) (by simp [World.shape?,p1]) zO (vZ K _) (vZ K _)).mono fun e w' ⟨he,g⟩=>?_)
    subst g;obtain ⟨s1,s2,Z,s4,s5,s6⟩:=ny L.blk (C.drop i) (0+(i+m)) w.drew arr 24 (0,0) p1;obtain ⟨t1,t2,t3,t4,t5,t6⟩:=ny L.blk D (0+i) _ _ 24 (0,0) s1;obtain ⟨μ',hd⟩:=fin _ _ (by rw [jf,jf]; exact p2) (fun j hj=>by
     rw [oW _ _ _ _ (by rw [jf]; omega),oW _ _ _ _ zO,N j hj,l,WT,WT,Xm,d];by_cases q1:j<i
     ·rw [if_neg zO,if_neg zO,if_pos q1,ab j zO]
     ·by_cases q2:j<i+m
      ·rw [if_pos zO,if_neg q1,if_pos q2]
      ·rw [if_neg zO,if_pos zO,if_neg q1,if_neg q2,Wu];congr 1; omega) t1 (fun c hc=>(t2 c hc).trans (s2 c hc)) (t3.trans Z) ((Tp.draw.trans s4).trans t4) (t5.trans s5) (t6.trans s6)
    exact ⟨_,he,μ',hd⟩
  ·
   have hge:=Go.grownCap_ge w (n+m) cap 24;obtain ⟨z1,z2⟩:=uY (I:=fun x=>x=H.next) (hH.bump 1) b;have fin:∀ (A:Array Value) (w1:World),A.size=grownCap w (n+m) cap 24->(∀ j,j<n+m->A[j]? = (C.take i++D++C.drop i)[j]?)->w1.heap=w.heap->Tp w w1->w1.os=w.os->w1.output=w.output ->
     ∃ μ',iJ tG Tryz.prog μ F H w (.own H.next 0 (n+m) (n+m) 1 false) (({ H with next:=H.next+1 }:Heap).kill b |>.put H.next (.cells (cs.take (i*1)++R++cs.drop (i*1)) 24 true)) (.slice (some ⟨w.heap.size,0,none⟩) (n+m) (grownCap w (n+m) cap 24)) (w1.alloc (.cells A 24)) μ':=by
    intro A w1 E a2 a3 a4 a5 S;obtain ⟨μ',q1,q2,q3⟩:=KJ (P:=Tryz.prog) (H:=H) (A:=A) (w1:=w1) (k:=n+m) (cap':=grownCap w (n+m) cap 24) z1 rfl ae af hV aa a2 hge E a3 a4 a5 S;exact ⟨μ',q1,q2,B0 (z2.trans q3)⟩
   by_cases U:i=n
   ·subst U;refine wF G ((Ins224.end_grow (some ⟨L.blk,0,none⟩) i cap o.blk f m t C D w h2 zO zO zO d l (fun h=>by cases h) (fun a ha j u hj=>by cases ha; rw [jR]; exact T j u hj) B (p.one M)).mono fun e w' ⟨he,g⟩=>?_);subst g;obtain ⟨μ',hd⟩:=fin ((C++D).toArray++Builtin.zeroCells (Value.slice none 0 0).cells (grownCap w (i+m) cap 24-(i+m))) w.drew (by simp only [Yn,YC,Wm,d,l,J]; omega) (fun j hj=>by
     rw [Xp (by simp [d,l]; omega),N j hj];have e0:(C++D).toArray[j]? = (C++D)[j]?:=by simp
     rw [e0];by_cases q1:j<i
     ·rw [if_pos q1,WH zO]
     ·rw [if_neg q1,if_pos zO,WZ zO,d]) rfl Tp.draw rfl rfl
    exact ⟨_,he,μ',hd⟩
   ·refine wF G ((Ins224.grow L.blk 0 n cap i o.blk f m t C D w zO h2 zO zO zO d l T B (O.one h8) (p.one M)).mono fun e w' ⟨he,g⟩=>?_);have r:∀ A:Array Value,(((w.alloc (.cells A 24)).drew.setCells w.heap.size i D).drew).setCells w.heap.size (i+m) (C.drop i)=w.drew.drew.alloc (.cells (tN (tN A i D) (i+m) (C.drop i)) 24):=fun A=>by
     have E:(w.alloc (.cells A 24)).drew=w.drew.alloc (.cells A 24):=rfl;have a2:(w.drew.alloc (.cells A 24)).setCells w.heap.size i D=w.drew.alloc (.cells (tN A i D) 24):=ni w.drew 24 D i A;have a3:(w.drew.alloc (.cells (tN A i D) 24)).drew=w.drew.drew.alloc (.cells (tN A i D) 24):=rfl;rw [E,a2,a3];exact ni w.drew.drew 24 (C.drop i) (i+m) (tN A i D)
    rw [r] at g;subst g;obtain ⟨μ',hd⟩:=fin (tN (tN ((C.take i).toArray++Builtin.zeroCells (Value.slice none 0 0).cells (n+m-i)++Builtin.zeroCells (Value.slice none 0 0).cells (grownCap w (n+m) cap 24-(n+m))) i D) (i+m) (C.drop i)) w.drew.drew (by
      rw [jf,jf];simp only [Yn,YC,WE,d,J]; omega) (fun j hj=>by
     have hA0:((C.take i).toArray++Builtin.zeroCells (Value.slice none 0 0).cells (n+m-i)++Builtin.zeroCells (Value.slice none 0 0).cells (grownCap w (n+m) cap 24-(n+m))).size=grownCap w (n+m) cap 24:=by
      simp only [Yn,YC,WE,d,J]; omega
     rw [oW _ _ _ _ (by rw [jf,hA0]; omega),oW _ _ _ _ (by rw [hA0]; omega),N j hj,l,Xm,d];by_cases q1:j<i
     ·rw [if_neg zO,if_neg zO,if_pos q1,Xp (by simp only [Yn,YC,WE,d,J]; omega),Xp (by simp only [YC,WE,d]; omega)];simp [q1]
     ·by_cases q2:j<i+m
      ·rw [if_neg zO,if_pos zO,if_neg q1,if_pos q2]
      ·rw [if_pos zO,if_neg q1,if_neg q2,Wu];congr 1; omega) rfl (Tp.draw.trans Tp.draw) rfl rfl
    exact ⟨_,he,μ',hd⟩
end Go.Proofs.YteaefaohjlmjdaaGreat.Ev.Ok224
namespace Go.Proofs.YteaefaohjlmjdaaGreat.Ev.So156
open Go Go.RowKit Go.Sort Go.Shelf Go.Lib Go.Proofs.YteaefaohjlmjdaaGreat.Ev
set_option maxRecDepth 100000
def Iw:Go.Shelf.Ren:=⟨fun | 6=>156 | 15=>190 | 14=>189 | 28=>216 | 29=>217 | 20=>208 | 21=>209 | 22=>210 | 23=>211 | 24=>212 | 25=>213 | 26=>214 | 27=>215 | 46=>229 | 47=>230 | 48=>231 | 49=>232 | 50=>233 | 57=>239 | n=>n,fun | 22=>153 | 24=>24 | 25=>123 | 3=>3 | 39=>220 | 0=>0 | 53=>252 | 55=>115 | 4=>4 | 46=>245 | 45=>244 | 50=>249 | 5=>5 | 9=>9 | 66=>265 | 70=>269 | 76=>276 | 77=>277 | n=>n,fun | n=>n⟩
def Ok:Go.Proofs.SlLaysF.n6 Tryz.prog Iw:={
 mixed:=by kernel_rfl
 f6:=⟨Tryz.f156.name,by decide,Tryz.func156.trans (congrArg some (by kernel_rfl))⟩
 f14:=⟨Tryz.f189.name,by decide,Tryz.func189.trans (congrArg some (by kernel_rfl))⟩
 f15:=Tryz.func190.trans (congrArg some (by kernel_rfl))
 f20:=⟨Tryz.f208.name,by decide,Tryz.func208.trans (congrArg some (by kernel_rfl))⟩
 f21:=⟨Tryz.f209.name,by decide,Tryz.func209.trans (congrArg some (by kernel_rfl))⟩
 f22:=⟨Tryz.f210.name,by decide,Tryz.func210.trans (congrArg some (by kernel_rfl))⟩
 f23:=⟨Tryz.f211.name,by decide,Tryz.func211.trans (congrArg some (by kernel_rfl))⟩
 f24:=⟨Tryz.f212.name,by decide,Tryz.func212.trans (congrArg some (by kernel_rfl))⟩
 f25:=⟨Tryz.f213.name,by decide,Tryz.func213.trans (congrArg some (by kernel_rfl))⟩
 f26:=⟨Tryz.f214.name,by decide,Tryz.func214.trans (congrArg some (by kernel_rfl))⟩
 f27:=⟨Tryz.f215.name,by decide,Tryz.func215.trans (congrArg some (by kernel_rfl))⟩
 f28:=Tryz.func216.trans (congrArg some (by kernel_rfl))
 f29:=Tryz.func217.trans (congrArg some (by kernel_rfl))
 f46:=⟨Tryz.f229.name,by decide,Tryz.func229.trans (congrArg some (by kernel_rfl))⟩
 f47:=Tryz.func230.trans (congrArg some (by kernel_rfl))
 f48:=Tryz.func231.trans (congrArg some (by kernel_rfl))
 f49:=⟨Tryz.f232.name,by decide,Tryz.func232.trans (congrArg some (by kernel_rfl))⟩
 f50:=⟨Tryz.f233.name,by decide,Tryz.func233.trans (congrArg some (by kernel_rfl))⟩
 f57:=⟨Tryz.f239.name,by decide,Tryz.func239.trans (congrArg some (by kernel_rfl))⟩
 t0:=Tryz.underlying0
 a0:=Tryz.isAgg0
 z0:=Tryz.sizeOf0
 v0:=Tryz.zeroValue0
 t3:=Tryz.underlying3
 a3:=Tryz.isAgg3
 z3:=Tryz.sizeOf3
 v3:=Tryz.zeroValue3
 t4:=Tryz.underlying4
 a4:=Tryz.isAgg4
 z4:=Tryz.sizeOf4
 v4:=Tryz.zeroValue4
 t5:=Tryz.underlying5
 a5:=Tryz.isAgg5
 z5:=Tryz.sizeOf5
 v5:=Tryz.zeroValue5
 t9:=Tryz.underlying9
 a9:=Tryz.isAgg9
 z9:=Tryz.sizeOf9
 v9:=Tryz.zeroValue9
 t22:=Tryz.underlying153
 a22:=Tryz.isAgg153
 z22:=Tryz.sizeOf153
 v22:=Tryz.zeroValue153
 a24:=Tryz.isAgg24
 z24:=Tryz.sizeOf24
 t25:=Tryz.underlying123
 a25:=Tryz.isAgg123
 z25:=Tryz.sizeOf123
 v25:=Tryz.zeroValue123
 t39:=Tryz.underlying220
 a39:=Tryz.isAgg220
 z39:=Tryz.sizeOf220
 v39:=Tryz.zeroValue220
 t45:=Tryz.underlying244
 a45:=Tryz.isAgg244
 z45:=Tryz.sizeOf244
 v45:=Tryz.zeroValue244
 t46:=Tryz.underlying245
 a46:=Tryz.isAgg245
 z46:=Tryz.sizeOf245
 v46:=Tryz.zeroValue245
 t50:=Tryz.underlying249
 a50:=Tryz.isAgg249
 z50:=Tryz.sizeOf249
 v50:=Tryz.zeroValue249
 t53:=Tryz.underlying252
 a53:=Tryz.isAgg252
 z53:=Tryz.sizeOf252
 v53:=Tryz.zeroValue252
 t55:=Tryz.underlying115
 a55:=Tryz.isAgg115
 z55:=Tryz.sizeOf115
 v55:=Tryz.zeroValue115
 t66:=Tryz.underlying265
 a66:=Tryz.isAgg265
 z66:=Tryz.sizeOf265
 v66:=Tryz.zeroValue265
 t70:=Tryz.underlying269
 a70:=Tryz.isAgg269
 z70:=Tryz.sizeOf269
 v70:=Tryz.zeroValue269
 t76:=Tryz.underlying276
 a76:=Tryz.isAgg276
 z76:=Tryz.sizeOf276
 v76:=Tryz.zeroValue276
 t77:=Tryz.underlying277
 a77:=Tryz.isAgg277
 z77:=Tryz.sizeOf277
 v77:=Tryz.zeroValue277 }
def S7:JV Tryz.prog 156 [157]:=by
 refine ⟨⟨Tryz.f156,Tryz.func156,by kernel_rfl,by decide +kernel⟩,trivial,?_,?_,?_⟩
 ·intro g hg args w;simp only [Wz,List.not_mem_nil,or_false] at hg;subst hg;exact enters_of Tryz.func157 (by kernel_rfl) rfl args w
 ·intro p cap c w;exact AnyF.slices_SortFunc_none { Ok with } p cap c w
 ·intro k enc a g cb blk cap w hg h1 d hT f hH e i;have b:∀ args w,(callFunc g args).run Tryz.prog w=.ok (.enter g args) w:=by
   intro args w;simp only [Wz,List.not_mem_nil,or_false] at hg;subst hg;exact enters_of Tryz.func157 (by kernel_rfl) rfl args w
  have hs:(List.finRange (k+1)).toArray.size=k+1:=by simp
  have h:=Any.slices_SortFunc_total Ok enc h1 a d g cb blk 0 cap (List.finRange (k+1)).toArray w b (by rw [hs]; exact f) hH e (by rw [hs]; exact i) hT;rw [hs] at h
  change Calls Tryz.prog 156 _ _ _ at h
  exact h
def extOK:ExtOK Tryz.prog 156 (.sortF 24 [157]):=S7
end Go.Proofs.YteaefaohjlmjdaaGreat.Ev.So156
namespace Go.Proofs.YteaefaohjlmjdaaGreat.Ev
open Go
set_option maxRecDepth 1000000
set_option maxHeartbeats 8000000
def look:List (Nat × aA)->Nat->Option aA
 | [],_=>none
 | p :: r,f=>if f=p.1 then some p.2 else look r f
def GI:∀ {L:List (Nat × aA)} {f:Nat} {a:aA},look L f=some a->(f,a)∈L
 | p :: r,f,a,h=>by
  unfold look at h;split at h
  ·rename_i e; cases h; subst e; exact Wc ..
  ·exact V8 _ (GI h)
def az {f:Nat} {fn:Func} {a:aA} (b:Tryz.prog.funcs[f]? = some fn) (hc:TN Tryz.prog fn=some a:=by kernel_rfl) (he:a.ext.isNone=true:=by rfl):Ia Tryz.prog f a:=Oe b hc he
abbrev Rw (l:List (Nat × aA)):Prop:=∀ p∈l,Ia Tryz.prog p.1 p.2
def Nj:Rw []:=fun p hp=>by cases hp
def bp {f:Nat} {a:aA} {l:List (Nat × aA)} (h:Ia Tryz.prog f a) (hl:Rw l):Rw ((f,a) :: l):=List.forall_mem_cons.2 ⟨h,hl⟩
def VE:List (Nat × aA):=[(dz,c_facetroomlaw23_ImagePoints),(fI,jM),(gy,ke),(fH,jL),(dO,gZ),(kU,zY),(gc,uz),(jy,xq),(mQ,Cv),(o0,Eb),(iF,c_facetroomlaw23_at),(BG,HF),(eY,iP),(iC,lO),(iD,lP),(dQ,h9),(pa,Ed),(fD,jH),(fG,jK),(fF,jJ)]
def VD:List (Nat × aA):=[(lB,qP),(nA,zJ),(rH,zR),(oD,uy),(fj,su),(iL,c_image_moved),(pW,xp),(il,xo),(rL,Ac),(cO,eA),(cZ,fm),(uM,Cq),(xU,DV),(pS,xh),(nC,Ae),(pR,xg),(ik,xf),(kL,uj),(yc,Ea),(oC,ux)]
def VC:List (Nat × aA):=[(uR,CA),(sZ,DW),(ry,zA),(pN,Ct),(rA,zC),(BM,HK),(gm,jY),(fK,jO),(e9,uC),(kW,Aa),(oF,c_dual_points),(rJ,Ab),(fE,jI),(cm,dx),(mN,sn),(ya,D9),(rz,zB),(fS,qO),(fJ,jN),(eZ,uB)]
def VB:List (Nat × aA):=[(mR,CB),(rK,c_dual_cons),(BI,HH),(pL,wS),(oh,ul),(pO,wW),(mJ,Cr),(rM,Ad),(rD,zL),(nB,zP),(nW,uk),(xT,DU),(lA,qN),(xZ,D7),(oi,um),(ru,zx),(BL,HJ),(gq,jZ),(eJ,iy),(bR,cX)]
def VA:List (Nat × aA):=[(eI,iw),(rI,zZ),(rO,c_cone_Gens),(bP,cV),(kw,pu),(pX,xu),(cI,dW),(rv,zy),(pK,wR),(js,wU),(eH,iv),(bQ,cW),(eF,iu),(uN,Cu),(pT,Cw),(gP,sw),(gO,sv),(aX,bL),(aW,bJ),(pM,wT)]
def Vz:List (Nat × aA):=[(iB,lM),(oB,uw),(cA,ft),(xX,DZ),(xW,DY),(eE,ir),(eD,iq),(ck,dw),(mS,c_cone_checked),(rN,Ah),(uV,CI),(da,c_P_cone_under_add),(mP,sq),(oy,uu),(dE,dF),(jA,sA),(cd,dt),(dq,fq),(cj,du),(bj,bZ)]
def Vy:List (Nat × aA):=[(cF,fV),(pV,xm),(rG,zQ),(xY,D6),(uQ,Cz),(BJ,HI),(oA,uv),(pU,xl),(jx,nP),(jt,nL),(gt,j8),(lV,xe),(gB,kh),(iY,c_P_cone_under_cut),(iG,c_P_cone_under_fold),(oo,ur),(iX,ng),(xV,DX),(ju,nM),(uP,Cy)]
def Vx:List (Nat × aA):=[(rE,zM),(gu,j9),(p8,CH),(lc,Af),(fg,lS),(nE,Ag),(pY,CE),(pZ,CF),(nz,zH),(cN,ee),(cJ,dX),(gD,c_P_rows_form_put),(rB,zI),(pQ,xd),(mO,so),(bg,bV),(pP,xc),(gN,sr),(gw,ka),(rC,c_sat_Signs)]
def Vw:List (Nat × aA):=[(uU,CG),(rx,zz),(mL,sf),(ot,ut),(cH,dV),(oj,uo),(mM,sj),(ol,uq),(yd,Ec),(nV,ui),(fh,pq),(oE,uA),(ye,Ee),(kv,po),(oG,uD),(uT,CD),(dN,gY),(BH,HG),(gA,kg),(gQ,lq)]
def Vv:List (Nat × aA):=[(gR,lu),(uS,CC),(uO,Cx),(cQ,eU),(jw,nO),(jv,nN),(rF,zN),(bh,dJ)]
def VT:Rw VE:=bp (az Tryz.func5)<|bp (az Tryz.func17)<|bp (az Tryz.func18)<|bp (az Tryz.func19)<|bp (az Tryz.func10)<|bp (az Tryz.func22)<|bp (az Tryz.func23)<|bp (az Tryz.func21)<|bp (az Tryz.func16)<|bp (az Tryz.func24)<|bp (az Tryz.func25)<|bp (az Tryz.func26)<|bp (az Tryz.func49)<|bp (az Tryz.func20)<|bp (az Tryz.func50)<|bp (az Tryz.func9)<|bp (az Tryz.func36)<|bp (az Tryz.func12)<|bp (az Tryz.func38)<|bp (az Tryz.func27)<|Nj
def VS:Rw VD:=bp (az Tryz.func52)<|bp (az Tryz.func56)<|bp (az Tryz.func57)<|bp (az Tryz.func53)<|bp (az Tryz.func58)<|bp (az Tryz.func59)<|bp (az Tryz.func60)<|bp (az Tryz.func61)<|bp (az Tryz.func62)<|bp (az Tryz.func63)<|bp (az Tryz.func54)<|bp (az Tryz.func29)<|bp (az Tryz.func55)<|bp (az Tryz.func39)<|bp (az Tryz.func48)<|bp (az Tryz.func43)<|bp (az Tryz.func44)<|bp (az Tryz.func64)<|bp (az Tryz.func66)<|bp (az Tryz.func65)<|Nj
def VQ:Rw VC:=bp (az Tryz.func67)<|bp (az Tryz.func68)<|bp (az Tryz.func69)<|bp (az Tryz.func70)<|bp (az Tryz.func71)<|bp (az Tryz.func51)<|bp (az Tryz.func15)<|bp (az Tryz.func78)<|bp (az Tryz.func79)<|bp (az Tryz.func80)<|bp (az Tryz.func82)<|bp (az Tryz.func81)<|bp (az Tryz.func41)<|bp (az Tryz.func99)<|bp (az Tryz.func100)<|bp (az Tryz.func101)<|bp (az Tryz.func102)<|bp (az Tryz.func103)<|bp (az Tryz.func89)<|bp (az Tryz.func90)<|Nj
def VP:Rw VB:=bp (az Tryz.func91)<|bp (az Tryz.func92)<|bp (az Tryz.func75)<|bp (az Tryz.func74)<|bp (az Tryz.func94)<|bp (az Tryz.func96)<|bp (az Tryz.func95)<|bp (az Tryz.func83)<|bp (az Tryz.func84)<|bp (az Tryz.func105)<|bp (az Tryz.func98)<|bp (az Tryz.func97)<|bp (az Tryz.func106)<|bp (az Tryz.func107)<|bp (az Tryz.func108)<|bp (az Tryz.func110)<|bp (az Tryz.func93)<|bp (az Tryz.func47)<|bp (az Tryz.func116)<|bp (az Tryz.func115)<|Nj
def VO:Rw VA:=bp (az Tryz.func117)<|bp (az Tryz.func118)<|bp (az Tryz.func119)<|bp (az Tryz.func120)<|bp (az Tryz.func121)<|bp (az Tryz.func122)<|bp (az Tryz.func137)<|bp (az Tryz.func138)<|bp (az Tryz.func139)<|bp (az Tryz.func104)<|bp (az Tryz.func135)<|bp (az Tryz.func134)<|bp (az Tryz.func136)<|bp (az Tryz.func124)<|bp (az Tryz.func112)<|bp (az Tryz.func123)<|bp (az Tryz.func125)<|bp (az Tryz.func126)<|bp (az Tryz.func127)<|bp (az Tryz.func128)<|Nj
def VN:Rw Vz:=bp (az Tryz.func142)<|bp (az Tryz.func141)<|bp (az Tryz.func109)<|bp (az Tryz.func143)<|bp (az Tryz.func144)<|bp (az Tryz.func87)<|bp (az Tryz.func88)<|bp (az Tryz.func149)<|bp (az Tryz.func150)<|bp (az Tryz.func151)<|bp (az Tryz.func152)<|bp (az Tryz.func153)<|bp (az Tryz.func154)<|bp (az Tryz.func155)<|bp (sO rfl rfl So156.extOK)<|bp (az Tryz.func157)<|bp (az Tryz.func159)<|bp (az Tryz.func140)<|bp (az Tryz.func170)<|bp (az Tryz.func160)<|Nj
def VM:Rw Vy:=bp (az Tryz.func148)<|bp (az Tryz.func171)<|bp (az Tryz.func172)<|bp (az Tryz.func174)<|bp (az Tryz.func173)<|bp (az Tryz.func175)<|bp (az Tryz.func176)<|bp (az Tryz.func177)<|bp (sO rfl rfl (Ha Tryz.func178 (by kernel_rfl) (by kernel_rfl) (by kernel_rfl) (by kernel_rfl)))<|bp (sO rfl rfl (G9 Tryz.func179 (by kernel_rfl) (by kernel_rfl) (by kernel_rfl) (by kernel_rfl)))<|bp (az Tryz.func133)<|bp (az Tryz.func181)<|bp (az Tryz.func182)<|bp (az Tryz.func185)<|bp (az Tryz.func186)<|bp (az Tryz.func187)<|bp (az Tryz.func188)<|bp (az Tryz.func158)<|bp (az Tryz.func194)<|bp (az Tryz.func195)<|Nj
def VL:Rw Vx:=bp (az Tryz.func196)<|bp (az Tryz.func169)<|bp (az Tryz.func184)<|bp (az Tryz.func183)<|bp (az Tryz.func197)<|bp (az Tryz.func198)<|bp (az Tryz.func200)<|bp (az Tryz.func199)<|bp (az Tryz.func201)<|bp (az Tryz.func203)<|bp (az Tryz.func202)<|bp (az Tryz.func204)<|bp (az Tryz.func205)<|bp (az Tryz.func207)<|bp (az Tryz.func206)<|bp (az Tryz.func191)<|bp (az Tryz.func192)<|bp (az Tryz.func218)<|bp (az Tryz.func193)<|bp (az Tryz.func219)<|Nj
def VK:Rw Vw:=bp (az Tryz.func220)<|bp (az Tryz.func221)<|bp (az Tryz.func222)<|bp (az Tryz.func223)<|bp (sO rfl rfl Ok224.extOK_insert)<|bp (az Tryz.func225)<|bp (az Tryz.func226)<|bp (az Tryz.func228)<|bp (az Tryz.func236)<|bp (az Tryz.func227)<|bp (az Tryz.func238)<|bp (az Tryz.func241)<|bp (az Tryz.func242)<|bp (az Tryz.func237)<|bp (az Tryz.func244)<|bp (az Tryz.func245)<|bp (az Tryz.func246)<|bp (az Tryz.func247)<|bp (az Tryz.func248)<|bp (az Tryz.func249)<|Nj
def VJ:Rw Vv:=bp (az Tryz.func250)<|bp (az Tryz.func252)<|bp (az Tryz.func251)<|bp (az Tryz.func253)<|bp (az Tryz.func254)<|bp (az Tryz.func217)<|bp (az Tryz.func255)<|bp (az Tryz.func256)<|Nj
def S2:List (Nat × aA):=VE++VD++VC++VB++VA++Vz++Vy++Vx++Vw++Vv
def QY {l m:List (Nat × aA)} (h:Rw l) (h2:Rw m):Rw (l++m):=fun p hp=>(Wp.1 hp).elim (h p) (h2 p)
def QS:Rw S2:=(QY (QY (QY (QY (QY (QY (QY (QY (QY VT VS) VQ) VP) VO) VN) VM) VL) VK) VJ)
def tabOK:Lf Tryz.prog (look S2):=fun _ _ h=>QS _ (GI h)
theorem code:Code (look S2):=by constructor <;> kernel_rfl
end Go.Proofs.YteaefaohjlmjdaaGreat.Ev
