/- A part. -/
import Derived.Test.YtiigaeehghcjiaaGreatA0
import Derived.Test.YtiigaeehghcjiaaGreatFew
import Derived.Test.YtiigaeehghcjiaaGreatN48
import Derived.WideShapes
import Derived.Test.YtiigaeehghcjiaaGreatEvDraw5
import Derived.KernelRfl
import Derived.WalkKit
import Derived.ProofKit
import Derived.Test.YtiigaeehghcjiaaGreatProg
import Derived.Lib.Walk
import Derived.Lib.SliceRun
import Derived.Lib.JoinLaws
import Derived.Lib.AppendZeros
import Derived.Lib.AppendZerosOnto
import Derived.Lib.Overlaps
import Derived.Laws.Externs
import Derived.Laws.IdiomCopy
import Derived.Laws.NewBlocks
import Derived.Shelf.RegionOpenPlain
import Derived.Shelf.SlSortCmp.NoneTotal
import Derived.Ground.SlsfProg
set_option linter.all false
namespace Go.Proofs.YtiigaeehghcjiaaGreat.Lin
section
variable {n:Nat} {K K' l:List (V × Bool)} {G G':List (Nat × V)} {o:List Nat}
def ts (hl:∀ c∈l,c.1.length=n+1) (hne:gensP n l≠[]) {c:V × Bool}:mm n (consP n (gensP n l)) c ↔ mm n l c :=
 ⟨fun h x hx=>h x ((y8 hl hne x).2 hx),fun h x hx=>h x ((y8 hl hne x).1 hx)⟩
def NO (y:Nat × V):Nat × V:=(y.1,y.2++[0])
def F8 (n:Nat) (G:List (Nat × V)):List (Nat × V):=G.map NO++[(1,List.replicate (n+1) 0++[1])]
def ye (a:ValidG n G):ValidG (n+1) (F8 n G):=fun y hy=>by
 rcases WQ.1 hy with hy | hy
 ·obtain ⟨x,hx,rfl⟩:=DT.1 hy;obtain ⟨h1,h2,h3⟩:=a x hx;exact ⟨by simp [NO,h1],fun h=>by rw [NO,AM h1]; exact h2 h,fun h=>by rw [NO,AM h1]; exact h3 h⟩
 ·rw [WL] at hy;subst hy;exact ⟨by simp,fun (h:(1:Nat)=3)=>absurd h (by decide),fun _=>rfl⟩
def B9 (a:∀ c∈K,c.1.length=n+1):de n K (List.replicate (n+1) 0) :=
 keepP_iff.2 ⟨by simp,Yy _,fun c hc=>by rw [dot_comm,sR]; exact ⟨fun _=>rfl,fun _=>Yy _⟩⟩
def Lz (a:Own n K G) (i:G≠[]):gensP (n+1) (K.map padC)=gensP (n+1) (consP (n+1) (F8 n G)):=by
 have o:=ye a.valid;have hne:=(zi a.rows).2 (by rw [a.gens]; exact i);have hp:=a.point i;have h3:(F8 n G).any (fun y=>y.1 == 3)=true:=by
  rw [W7] at hp ⊢;obtain ⟨x,hx,h⟩:=hp;exact ⟨NO x,XK _ (DT.2 ⟨x,hx,rfl⟩),h⟩
 refine ((own_of (qZ a.rows)).same_valid (own_span o) fun c hc=>?_).2;obtain ⟨d,z,hd,e⟩:=ze hc;obtain ⟨p,b⟩:=c;simp only at hc e;subst e;rw [ts (qZ a.rows) hne,tY o h3 hc];have f:∀ s w,s.length=n+1->dot (d++[z]) (s++[w])=dot d s+z*w:=fun s w hs=>vP (by rw [hd,hs]);have m:dot d (List.replicate (n+1) 0)=0:=by rw [dot_comm,sR]
 constructor
 ·intro h;have l:z=0:=by
   have h1:=(h _ ((ju a.rows (by simp) 1).2 (B9 a.rows))).2;have h2:=(h _ ((ju a.rows (by simp) (-1)).2 (B9 a.rows))).2;simp only at h1 h2;rw [f _ _ (by simp),m] at h1 h2;omega
  subst l;have k:mm n K (d,b):=fun s hs=>by
   have:=h _ ((ju a.rows (keepP_iff.1 hs).1 0).2 hs)
   simp only at this;rw [f _ _ (keepP_iff.1 hs).1,ZI,Int.add_zero] at this;exact this
  have j:=(a.valid_iff i).2 k;intro y hy;rcases WQ.1 hy with hy | hy
  ·obtain ⟨x,hx,rfl⟩:=DT.1 hy
   have:=j x hx
   rw [cO] at this ⊢;show if b=true\/x.1=1 then dot (d++[0]) (x.2++[0])=0 else 0<=dot (d++[0]) (x.2++[0])
   rw [f _ _ (a.valid x hx).1,ZI,Int.add_zero];exact this
  ·rw [WL] at hy;subst hy;rw [cO,if_pos (.inr rfl)];show dot (d++[0]) (List.replicate (n+1) 0++[1])=0;rw [f _ _ (by simp),m]; rfl
 ·intro h;have l:z=0:=by
   have:=h _ (Yb _ (WL.2 rfl))
   rw [cO,if_pos (.inr rfl)] at this;have this:dot (d++[z]) (List.replicate (n+1) 0++[1])=0:=this;rw [f _ _ (by simp),m] at this;omega
  subst l;have j:∀ g∈G,keepsP (d,b) g=true:=fun x hx=>by
   have:=h _ (XK _ (DT.2 ⟨x,hx,rfl⟩))
   rw [cO] at this ⊢;have this:if b=true\/x.1=1 then dot (d++[0]) (x.2++[0])=0 else 0<=dot (d++[0]) (x.2++[0]):=this
   rw [f _ _ (a.valid x hx).1,ZI,Int.add_zero] at this;exact this
  have k:=(a.valid_iff i).1 j;intro r hr;obtain ⟨s,w,hs,rfl⟩:=ze (keepP_iff.1 hr).1
  have:=k s ((ju a.rows hs w).1 hr)
  simp only;rw [f _ _ hs,Int.zero_mul,Int.add_zero];exact this
def grow_few (a:Own n K G):(gensP (n+1) (K.map padC)).length<=G.length+n+3:=by
 by_cases b:G=[]
 ·have:gensP (n+1) (K.map padC)=[]:=W0 fun h=>(zi a.rows).1 h (by rw [a.gens]; exact b)
  rw [this]; simp
 ·rw [Lz a b]
  have:=span_len (ye a.valid)
  unfold F8 at this;rw [WM,Nj] at this;simp only [List.length_singleton] at this;unfold F8;omega
def Qv (o:List Nat) (y:Nat × V):Nat × V:=(y.1,mvO o y.2)
def Aw (h:Ord n o) (a:ValidG n G):ValidG n (G.map (Qv o)):=fun y hy=>by
 obtain ⟨x,hx,rfl⟩:=DT.1 hy;obtain ⟨h1,h2,h3⟩:=a x hx;exact ⟨mvO_len h _,fun e=>h2 e,fun e=>h3 e⟩
def Ax (h:Ord n o) {d:V} {b:Bool} {x:Nat × V} (hd:d.length=n+1) (hx:x.2.length=n+1):keepsP (mvO o d,b) (Qv o x)=keepsP (d,b) x:=by
 rw [Xo,cO,cO];show (if b=true\/x.1=1 then dot (mvO o d) (mvO o x.2)=0 else 0<=dot (mvO o d) (mvO o x.2)) ↔ _;rw [vu h hd hx]
def Li (h:Ord n o) (a:Own n K G) (f:G≠[]):movG n o K=gensP n (consP n (G.map (Qv o))):=by
 have g:=Aw h a.valid;have hne:=(kP h a.rows).2 (by rw [a.gens]; exact f);have hp:=a.point f;have h3:(G.map (Qv o)).any (fun y=>y.1 == 3)=true:=by rw [List.any_map]; exact hp
 refine ((mov_own (K:=K) h).same_valid (own_span g) fun c hc=>?_).2;obtain ⟨i,b⟩:=c;obtain ⟨d,hd,e⟩:=h.onto hc;simp only at hc e;subst e;unfold movK;rw [ts (mv_rows h) hne,tY g h3 hc];have key:mm n (K.map (mvC o)) (mvO o d,b) ↔ mm n K (d,b):=by
  constructor
  ·intro hq s hs
   have:=hq _ ((pi h a.rows (keepP_iff.1 hs).1).2 hs)
   simp only at this;rw [vu h hd (keepP_iff.1 hs).1] at this;exact this
  ·intro hq r hr;obtain ⟨s,hs,rfl⟩:=h.onto (keepP_iff.1 hr).1
   have:=hq s ((pi h a.rows hs).1 hr)
   simp only;rw [vu h hd hs];exact this
 rw [key,<- a.valid_iff f];constructor
 ·intro hq y hy;obtain ⟨x,hx,rfl⟩:=DT.1 hy;rw [Ax h hd (a.valid x hx).1];exact hq x hx
 ·intro hq x hx;rw [<- Ax h hd (a.valid x hx).1];exact hq _ (DT.2 ⟨x,hx,rfl⟩)
def move_few (h:Ord n o) (a:Own n K G):(movG n o K).length<=G.length+n+1:=by
 by_cases b:G=[]
 ·have:movG n o K=[]:=W0 fun q=>(kP h a.rows).1 q (by rw [a.gens]; exact b)
  rw [this]; simp
 ·rw [Li h a b]
  have:=span_len (Aw h a.valid)
  rw [Nj] at this;exact this
def move_told (h:Ord n o) (hl:∀ c∈l,c.1.length=n+1):movK n o (consP n (gensP n l))=movK n o l/\movG n o (consP n (gensP n l))=movG n o l:=by
 have b:=own_of hl;have f:=mov_own (K:=consP n (gensP n l)) h;have g:=mov_own (K:=l) h;by_cases a:gensP n l=[]
 ·have d:movG n o (consP n (gensP n l))=[]:=W0 fun q=>(kP h b.rows).1 q (by rw [b.gens]; exact a);have e:movG n o l=[]:=W0 fun q=>(kP h hl).1 q a;refine ⟨?_,by rw [d,e]⟩;rw [<- f.cons,<- g.cons,d,e]
 ·refine f.same g fun r=>?_;constructor
  ·intro hr;obtain ⟨s,hs,rfl⟩:=h.onto (keepP_iff.1 hr).1;rw [pj h b.rows (by rw [b.gens]; exact a) hs,y8 hl a] at hr;rw [pj h hl a hs]; exact hr
  ·intro hr;obtain ⟨s,hs,rfl⟩:=h.onto (keepP_iff.1 hr).1;rw [pj h hl a hs] at hr;rw [pj h b.rows (by rw [b.gens]; exact a) hs,y8 hl a]; exact hr
def ordX (m x:Nat):List Nat:=(List.range (m+1)).map fun k=>if k=x then m else if x<k then k-1 else k
def ordX_ord {m x:Nat} (hm:m<=2) (hx:x<m+1):Ord (m+1) (ordX m x):=by
 unfold Ord
 match m,hm,x,hx with
 | 0,_,0,_=>decide
 | 1,_,0,_=>decide
 | 1,_,1,_=>decide
 | 2,_,0,_=>decide
 | 2,_,1,_=>decide
 | 2,_,2,_=>decide
def Wb {m x:Nat} (hm:m<=2) (hx:x<m+1) {r:V} (hr:r.length=(m+1)+1):mvO (ordX m x) (delR x r++[r.getD (x+1) 0])=r:=by
 match m,hm,x,hx,r,hr with
 | 0,_,0,_,[a,b],_=>rfl
 | 1,_,0,_,[a,b,c],_=>rfl
 | 1,_,1,_,[a,b,c],_=>rfl
 | 2,_,0,_,[a,b,c,d],_=>rfl
 | 2,_,1,_,[a,b,c,d],_=>rfl
 | 2,_,2,_,[a,b,c,d],_=>rfl
def free_in {m x:Nat} (hm:m<=2) (hx:x<m+1) (b:Own (m+1) K G):inP G (movK (m+1) (ordX m x) (consP (m+1) (gensP (m+1) ((consP m (G.map (delG x))).map padC))))=true:=by
 have g:=ordX_ord hm hx;have a:=own_span (del_valid (x:=x) b.valid hx);have h:=own_of (qZ a.rows);have i:=mov_own (K:=consP (m+1) (gensP (m+1) ((consP m (G.map (delG x))).map padC))) g;rw [b.in_iff i];by_cases c:G=[]
 ·exact .inl c
 refine .inr fun r hr=>?_;have hl:=(keepP_iff.1 hr).1;have hd:=VO b c hx hr;have f:=(keepP_iff.1 hd).1;have hne:gensP m (consP m (G.map (delG x)))≠[]:=fun e=>c ((drop_none b hx).1 e);have d:=(zi a.rows).2 hne
 have:=(ju a.rows f (r.getD (x+1) 0)).2 hd
 rw [<- y8 (qZ a.rows) d] at this;rw [<- pj g h.rows (by rw [h.gens]; exact d) (by simp [f]),Wb hm hx hl] at this;exact this
end
def likeK:List (V × Bool):=[([-1,1,0],false),([3,-1,0],false),([0,1,-1],true)]
def gl:gensP 2 likeK=[(3,[1,1,1]),(3,[1,3,3])]:=by
 have r:(gensU 3 [[0,1,-1]] [[1,0,0],[-1,1,0],[3,-1,0]]).rays.map (restF (gensL 3 [[0,1,-1]] [[1,0,0],[-1,1,0],[3,-1,0]]))=[[1,1,1],[1,3,3]]:=by decide +kernel
 have e:gensL 3 [[0,1,-1]] [[1,0,0],[-1,1,0],[3,-1,0]]=[]:=by decide +kernel
 have g:gensR 3 [[0,1,-1]] [[1,0,0],[-1,1,0],[3,-1,0]]=[[1,1,1],[1,3,3]]:=by
  unfold gensR;rw [r]; simp [List.mergeSort,List.MergeSort.Internal.splitInTwo,cmpV]
 have h1:eqsOf likeK=[[0,1,-1]]:=rfl;have h2:ineqsOf 2 likeK=[[1,0,0],[-1,1,0],[3,-1,0]]:=rfl;unfold gensP;rw [h1,h2,e,g];rfl
def kl:consP 2 [(3,[1,1,1]),(3,[1,3,3])]=[([0,1,-1],true),([-1,0,1],false),([3,0,-1],false)]:=by
 have r:(gensU 3 [] [[1,1,1],[1,3,3]]).rays.map (restF (gensL 3 [] [[1,1,1],[1,3,3]]))=[[3,0,-1],[-1,0,1]]:=by decide +kernel
 have e:gensL 3 [] [[1,1,1],[1,3,3]]=[[0,1,-1]]:=by decide +kernel
 have g:gensR 3 [] [[1,1,1],[1,3,3]]=[[-1,0,1],[3,0,-1]]:=by
  unfold gensR;rw [r]; simp [List.mergeSort,List.MergeSort.Internal.splitInTwo,cmpV]
 have h1:linesOf ([(3,[1,1,1]),(3,[1,3,3])]:List (Nat × V))=[]:=rfl;have h2:raysOf ([(3,[1,1,1]),(3,[1,3,3])]:List (Nat × V))=[[1,1,1],[1,3,3]]:=rfl;unfold consP;rw [h1,h2,e,g];decide
def gb2:gensP 2 [([-1,1,0],false),([3,-1,0],false)]=[(1,[0,0,1]),(3,[1,1,0]),(3,[1,3,0])]:=by
 have r:(gensU 3 [] [[1,0,0],[-1,1,0],[3,-1,0]]).rays.map (restF (gensL 3 [] [[1,0,0],[-1,1,0],[3,-1,0]]))=[[1,1,0],[1,3,0]]:=by decide +kernel
 have e:gensL 3 [] [[1,0,0],[-1,1,0],[3,-1,0]]=[[0,0,1]]:=by decide +kernel
 have g:gensR 3 [] [[1,0,0],[-1,1,0],[3,-1,0]]=[[1,1,0],[1,3,0]]:=by
  unfold gensR;rw [r]; simp [List.mergeSort,List.MergeSort.Internal.splitInTwo,cmpV]
 have h1:eqsOf ([([-1,1,0],false),([3,-1,0],false)]:List (V × Bool))=[]:=rfl;have h2:ineqsOf 2 ([([-1,1,0],false),([3,-1,0],false)]:List (V × Bool))=[[1,0,0],[-1,1,0],[3,-1,0]]:=rfl;unfold gensP;rw [h1,h2,e,g];rfl
def kb2:consP 2 [(1,[0,0,1]),(3,[1,1,0]),(3,[1,3,0])]=[([-1,1,0],false),([3,-1,0],false)]:=by
 have r:(gensU 3 [[0,0,1]] [[1,1,0],[1,3,0]]).rays.map (restF (gensL 3 [[0,0,1]] [[1,1,0],[1,3,0]]))=[[3,-1,0],[-1,1,0]]:=by decide +kernel
 have e:gensL 3 [[0,0,1]] [[1,1,0],[1,3,0]]=[]:=by decide +kernel
 have g:gensR 3 [[0,0,1]] [[1,1,0],[1,3,0]]=[[-1,1,0],[3,-1,0]]:=by
  unfold gensR;rw [r]; simp [List.mergeSort,List.MergeSort.Internal.splitInTwo,cmpV]
 have h1:linesOf ([(1,[0,0,1]),(3,[1,1,0]),(3,[1,3,0])]:List (Nat × V))=[[0,0,1]]:=rfl;have h2:raysOf ([(1,[0,0,1]),(3,[1,1,0]),(3,[1,3,0])]:List (Nat × V))=[[1,1,0],[1,3,0]]:=rfl;unfold consP;rw [h1,h2,e,g];decide
end Go.Proofs.YtiigaeehghcjiaaGreat.Lin
namespace Go.Proofs.YtiigaeehghcjiaaGreat.Ev
open Go Nn
def uz:∀ c∈Lin.likeK,c.1.length=2+1/\Lin.Bd (2^4) c.1:=fun c hc=>by
 unfold Lin.likeK at hc;rcases WV.1 hc with rfl | hc
 ·exact ⟨rfl,Lin.bd_small4 zU⟩
 rcases WV.1 hc with rfl | hc
 ·exact ⟨rfl,Lin.bd_small4 zU⟩
 ·rw [WL] at hc; subst hc; exact ⟨rfl,Lin.bd_small4 zU⟩
def ok2 {n:Nat} {K:List (List Int × Bool)} {G:List (Nat × List Int)} (hn:n<=4) (b:Lin.Own n K G) (h:(K.all (fun x=>x.1.all (fun a=>decide (a.natAbs<=16))) && G.all (fun x=>x.2.all (fun a=>decide (a.natAbs<=16))) && decide (K.length<=60) && decide (G.length<60))=true):PolyOK n 4 4 K G:=by
 simp only [W6,WT,decide_eq_true_eq] at h;obtain ⟨⟨⟨h3,h4⟩,h5⟩,d⟩:=h;exact ⟨b,hn,.inl h5,zO,fun c hc=>Lin.bd_small4 (WT.2 fun a ha=>decide_eq_true (h3 c hc a ha)),fun x hx=>Lin.bd_small4 (WT.2 fun a ha=>decide_eq_true (h4 x hx a ha)),zO,zO⟩
def Jn:PolyOK 2 4 4 [([0,1,-1],true),([-1,0,1],false),([3,0,-1],false)] [(3,[1,1,1]),(3,[1,3,3])] :=
 ok2 zO (by have:=Lin.own_of (n:=2) (l:=Lin.likeK) fun c hc=>(uz c hc).1; rw [Lin.gl,Lin.kl] at this; exact this) zU
def ok_b2:PolyOK 2 4 4 [([-1,1,0],false),([3,-1,0],false)] [(1,[0,0,1]),(3,[1,1,0]),(3,[1,3,0])] :=
 ok2 zO ⟨fun c hc=>(C2 (n:=2) (.inr rfl) c hc).1,Lin.gb2,Lin.kb2⟩ zU
section
variable {n x:Nat} {K:List (List Int × Bool)} {G:List (Nat × List Int)} {o:List Nat} {e f:Nat}
def Jo (h:PolyOK n e f K G) (hn:n<=3) (g:f<=64) (k:K.length<=50) (j:G.length<=100):PolyOK (n+1) (64*(f+4)) (64*(64*(f+4)+4)) (Lin.consP (n+1) (Lin.gensP (n+1) (K.map Lin.padC))) (Lin.gensP (n+1) (K.map Lin.padC)):=by
 have hr:∀ c∈K.map Lin.padC,c.1.length=(n+1)+1/\Lin.Bd (2^f) c.1:=fun c hc=>by
  obtain ⟨b,hb,rfl⟩:=DT.1 hc;exact ⟨by show (b.1++[0]).length=_; rw [WM,(h.rowK b hb).1]; rfl,NN (h.rowK b hb).2⟩
 have a:=Vh zO hr;have d:=A2 zO a;have l1:=Lin.own_len fun c hc=>(hr c hc).1;have i:=Lin.grow_few h.own;rw [Nj] at l1;exact ⟨Lin.own_of fun c hc=>(hr c hc).1,zO,.inl zO,zO,fun c hc=>(d c hc).2,fun x hx=>(a x hx).2,zO,zO⟩
def VV (h:PolyOK n e f K G) (hn:n<=2) (g:f<=1088) (k:K.length<=50) (j:G.length<=100):PolyOK (n+1) (16*(f+4)) (16*(16*(f+4)+4)) (Lin.consP (n+1) (Lin.gensP (n+1) (K.map Lin.padC))) (Lin.gensP (n+1) (K.map Lin.padC)):=by
 have hr:∀ c∈K.map Lin.padC,c.1.length=(n+1)+1/\Lin.Bd (2^f) c.1:=fun c hc=>by
  obtain ⟨b,hb,rfl⟩:=DT.1 hc;exact ⟨by show (b.1++[0]).length=_; rw [WM,(h.rowK b hb).1]; rfl,NN (h.rowK b hb).2⟩
 have a:=xu zO hr;have d:=CM zO a;have l1:=Lin.own_len fun c hc=>(hr c hc).1;have i:=Lin.grow_few h.own;rw [Nj] at l1;exact ⟨Lin.own_of fun c hc=>(hr c hc).1,zO,.inl zO,zO,fun c hc=>(d c hc).2,fun x hx=>(a x hx).2,zO,zO⟩
def N6 {m:Nat} {a:List Int} (h:Lin.Bd (2^m) a):Lin.Bd (2^m) (Lin.mvO o a):=xJ fun y hy=>by
 have hg:∀ i,(a.getD i 0).natAbs<=2^m:=fun i=>h i;rcases WV.1 hy with rfl | hy
 ·cases a with
  | nil=>exact WG _
  | cons b a=>exact Lin.Bd.mem h b (WH ..)
 ·obtain ⟨i,-,rfl⟩:=DT.1 hy;exact hg _
def OG {L:List (Nat × List Int)} (c:Lin.ValidG n L) (hn:n<=2) (hL:L.length<=6):(Lin.consP n L).length<=26:=by
 have d:∀ a∈Lin.linesOf L,a.length=n+1:=fun a ha=>(c _ (Lin.mem_lines.1 ha)).1;have b:∀ a∈Lin.raysOf L,a.length=n+1:=fun a ha=>by obtain ⟨k,-,h⟩:=Lin.mem_rays.1 ha; exact (c _ h).1
 have t:=Lin.gens_told d b;have h1:=t.dd.count4 b;have h2:=ech_len t.form;have h3:=DJ L;have h4:Lin.subN (Lin.raysOf L).length (n+1-1)<=Lin.subN 6 2:=WK (Lin.subN_le zO) (Lin.subN_less zO);have h5:Lin.subN 6 2=22:=by decide
 unfold Lin.consP;split
 ·rw [WM,Nj,Nj]
  have:=XO (fun r:Lin.V=>!decide (r=Lin.unitC n 1)) (Lin.gensR (n+1) (Lin.linesOf L) (Lin.raysOf L))
  omega
 ·show 1<=_;omega
def za (h:PolyOK (n+1) e f K G) (hn:n<=2) (hx:x<n+1) (he:e<=64) (j:G.length<=6):PolyOK n (16*(16*(e+4)+4)) (16*(e+4)) (Lin.consP n (G.map (Lin.delG x))) (Lin.gensP n (Lin.consP n (G.map (Lin.delG x))))/\(Lin.consP n (G.map (Lin.delG x))).length<=26/\(Lin.gensP n (Lin.consP n (G.map (Lin.delG x)))).length<=9:=by
 have a:=Lin.del_valid (x:=x) h.own.valid hx;have hr:∀ c∈G.map (Lin.delG x),c.2.length=n+1/\Lin.Bd (2^e) c.2:=fun c hc=>by
  refine ⟨(a c hc).1,?_⟩;obtain ⟨b,hb,rfl⟩:=DT.1 hc;exact OO (h.bG b hb)
 have d:=CM zO hr;have g:=xu zO d;have l1:=OG a hn (by rw [Nj]; exact j);have i:=Lin.span_len a;rw [Nj] at i;exact ⟨⟨Lin.own_span a,zO,.inl zO,zO,fun c hc=>(d c hc).2,fun x hx=>(g x hx).2,zO,zO⟩,l1,zO⟩
end
section
variable {tab:Nat->Option au} {H:Heap}
def TB {H:Heap} {b:Nat} {v w u:AV} {x y z:List Int} {p q o r:Bool} (h:H.get b=some (.cells [v,.bool p,w,.bool q,u,.bool o] t_api_Con r)) (c:RowV H v x) (d:RowV H w y) (a:RowV H u z):SlV conE t_api_Con H (.own b 0 3 3 2 true) [(x,p),(y,q),(z,o)] :=
 ⟨[_,_,_,_,_,_],Rd.own h rfl (Jv _),fun _ _ _ _ _ _ e=>by cases e; exact ⟨_,_,h⟩,((Cells.one (E:=conE) ⟨v,rfl,c⟩).append (Cells.one (E:=conE) ⟨w,rfl,d⟩)).append (Cells.one (E:=conE) ⟨u,rfl,a⟩)⟩
def QO {z1 z2 z3 z4 z5 z6 a b c d e f:AV} (ha:One a) (hb:One b) (hc:One c) (hd:One d) (he:One e) (g:One f):cP [z1,z2,z3,z4,z5,z6] [((0,2),.agg [a,b]),((2,2),.agg [c,d]),((4,2),.agg [e,f])]=some [a,b,c,d,e,f]:=by
 simp [cP,ha.1,ha.2,hb.1,hb.2,hc.1,hc.2,hd.1,hd.2,he.1,he.2,g.1,g.2,AV.cells]
set_option maxHeartbeats 4000000 in
def AF (C:Code tab) (Y:Wf H) :
  Ans tab (.fn gG []) H fun v H'=>PolyV H' v 2 [([0,1,-1],true),([-1,0,1],false),([3,0,-1],false)] [(3,[1,1,1]),(3,[1,3,3])]/\Kp H H':=by
 refine TL C.q12 fun T hl=>?_;refine zW hl ?_;have e0:Emp (H.up 18) H.next (H.next+18):=Emp.start Y
 refine AnsH.use (wH C (l:=[-1,1,0]) zF (nP (m:=[-1,1,0]) (am _ _ _)) (by simp) (by simp)) ?_;rintro v3 H2 ⟨r3,i⟩;obtain ⟨k2,_,w2⟩:=zT H zK i;have d0:H2.get H.next=some (.cells [.int .i64 0,.nilSl,.nilSl] aj true):=i.get (cY)
 have h:Emp H2 (H.next+2) (H.next+18):=(((e0.put (p:=H.next) (a':=H.next+1) zO zO).put zO zO).keep i)
 have n2:=h.1;have F:=r3.one;refine zW (aB hl (ww F)) ?_;refine AnsH.use (wH C (l:=[3,-1,0]) zF (nP (m:=[3,-1,0]) (am _ _ _)) (by simp) (by simp)) ?_;rintro v5 g ⟨K,j⟩;obtain ⟨k3,_,w3⟩:=zT H zK j;have e3:Emp g (H.next+5) (H.next+18):=(h.put zO zO).keep j;have n3:=e3.1;have M:Sub H2 g:=(h.sub (p:=H.next+4) zO zO).trans j.sub;have I:=K.one;have S:=M.get _ _ d0;refine zW (aB hl (ww I)) ?_;refine AnsH.use (wH C (l:=[0,1,-1]) zF (nP (m:=[0,1,-1]) (am _ _ _)) (by simp) (by simp)) ?_;rintro v6 d ⟨L,k⟩;obtain ⟨k4,_,w4⟩:=zT H zK k;have e4:Emp d (H.next+8) (H.next+18):=(e3.put zO zO).keep k;have n4:=e4.1;have q:Sub g d:=(e3.sub (p:=H.next+7) zO zO).trans k.sub;have J:=L.one;have U:=q.get _ _ S;have R:=EK (x:=.nilSl) (y:=.bool false) J (aF true);have W:=QO (z1:=.nilSl) (z2:=.bool false) (z3:=.nilSl) (z4:=.bool false) (z5:=.nilSl) (z6:=.bool false) F (aF false) I (aF false) J (aF true);refine zW (aC hl @R W) ?_;obtain ⟨G4,c⟩:∃ G,G=d.put (H.next+10) (.cells [v3,.bool false,v5,.bool false,v6,.bool true] t_api_Con true):=⟨_,rfl⟩
 rw [<- c];have u:Emp G4 (H.next+11) (H.next+18):=by rw [c]; exact e4.put zO zO
 have f:Sub d G4:=by rw [c]; exact e4.sub zO zO
 have B:Kp H G4:=by rw [c]; exact zK
 have ae:=B.wf;have ad:=u.1;have V:=f.get _ _ U;have Q:SlV conE t_api_Con G4 (.own (H.next+10) 0 3 3 2 true) Lin.likeK:=TB (by rw [c]; exact am _ _ _) (r3.mono (M.trans (q.trans f))) (K.mono (q.trans f)) (L.mono f);have X:=Vh (n:=2) zO uz;refine AnsH.use (kT C (n:=2) (m:=4) (m2:=64*(4+4)) zF Q zO (by simp [Lin.likeK]) uz zO (fun x hx=>(X x hx).2) zO) ?_;rintro v7 a ⟨A,o⟩;have D:Kp H a:=B.trans o;have aa:=D.le;have w7:=D.wf;have w:Emp a (H.next+11) (H.next+18):=u.keep o;have n7:=w.1;have s:=o.get V;rw [Lin.gl] at A;obtain ⟨N,O,rfl,hc,hg⟩:=vA A Jn;have oc:=hc.one;have og:=hg.one;obtain ⟨b,e⟩:∃ P,P=((a.up 2).put (H.next+15) (.cells [.int .i64 0,.nilSl,.nilSl] aj true)).put (H.next+15) (.cells [.int .i64 ((2:Nat):Int),N,O] aj true):=⟨_,rfl⟩
 have z:=w.2 (H.next+15) zO zO;have r:Sub a b:=by rw [e]; exact ((Sub.bump a 2).put z _).put z _
 have t:=r.get _ _ s;have Z:Kp H b:=by rw [e]; exact zK
 have ab:=Z.le;have n8:b.next=a.next+2:=by rw [e]; rfl
 refine zW (aC hl @oQ s) ?_;rw [<- e];refine ⟨⟨N,O,rfl,?_,?_⟩,zK⟩
 ·have m3:NoTy (t_api_Con :: conE.tys) b H.next:=NoTy.ty t zU
  exact SlV.monoT (E:=conE) zS (hc.mono r)
 ·have m3:NoTy (al :: genE.tys) b H.next:=NoTy.ty t zU
  exact SlV.monoT (E:=genE) zS (hg.mono r)
def Pm (H:Heap) (v:AV) (d:Int):Prop :=
 (∃ a,v=.tup [a,.bool false]/\Ue a) \/
 ∃ (n:Nat) (p:AV) (K:List (List Int × Bool)) (G:List (Nat × List Int)),d=(n:Int)/\n<=3/\v=.tup [p,.bool true]/\PolyV H p n K G/\PolyOK n 64 64 K G/\K.length<=6/\G.length<=6
set_option maxHeartbeats 4000000 in
def Im (C:Code tab) (Y:Wf H) {s1:AV} {d:Int} {l:List wA} (hs:SlV conQE t_api_Con H s1 l) (gl:∀ r∈l,my r.1) :
  Ans tab (.fn gF [.int .i64 d,s1]) H fun v H'=>Pm H' v d/\Kp H H':=by
 refine bE C.q2 zU fun T hl a e=>?_;refine zW (aC hl a e) ?_;refine AnsH.eq (qB C (n:=6) zF (hs.mono (zG H)) zO) fun H2 D=>?_;obtain ⟨k2,_,w2⟩:=zT H zK D;have d0:H2.get H.next=some (.cells [.int .i64 0,.nilSl,.nilSl] aj true):=D.get (cY)
 have ab:=w2 _ _ d0;cases q1:U2 6 l with
 | true =>
  refine zW (cn hl a e d0 @oQ) ?_;exact ⟨.inl ⟨_,rfl,DO⟩,zK⟩
 | false =>
 by_cases q3:3<d
 ·refine zW (fy hl a e d0 q3 @oQ) ?_;exact ⟨.inl ⟨_,rfl,DO⟩,zK⟩
 refine zW (aZ hl a e q3) ?_;refine AnsH.use (Om C zF ((hs.mono k2.sub).mono (zG H2)) gl q1 q3) ?_;rintro v f ⟨q,p,z,rfl,⟨x,u,w,rfl,S,U⟩,O⟩;obtain ⟨F,_,_⟩:=zT H2 zK q;have I:Kp H f:=k2.trans F;have aa:=I.le;have w4:=I.wf;have n4:H2.next+9<=f.next:=q.le
 have f4:f.get (H2.next+6)=none:=q.free (show H2.next+6<H2.next+9 by omega) (w2.fresh (b:=H2.next+6) zO);refine zW (aZ hl a e @oQ) ?_;obtain ⟨G4,h⟩:∃ G4,G4=(f.put (H2.next+6) (.cells [.int .i64 0,.nilSl,.nilSl] aj true)).put (H2.next+6) (.cells [.int .i64 x,u,w] aj true):=⟨_,rfl⟩
 have J:Sub f G4:=by rw [h]; exact (aH f4).put f4 _
 have s:Kp H2 G4:=by rw [h]; exact (F.put zO zO).put zO (by rw [next_put]; omega)
 have dp:G4.get (H2.next+6)=some (.cells [.int .i64 x,u,w] aj true):=by rw [h]; exact am _ _ _
 rw [<- h];clear h;have W:=s.wf;have P:Kp H G4:=k2.trans s;have o:=s.get d0;refine EX (fun T'=>T'.length=29/\ad T' 4=.ptr H.next 0/\ad T' 6=.ptr (H2.next+6) 0/\ad T' 7=.int .i64 z) (zV (aC hl a e)) ?_;clear hl;rintro T' ⟨hl,t4,j,k⟩;refine aJ ?_;by_cases y:z=0
 ·subst y;obtain ⟨K,G,n,rfl,n3,⟨vc,vg,N,hc,hg⟩,M,lK,lG⟩:=O rfl;cases N;have A:=hc.mono J;have B:=hg.mono J;refine zX (lp hl a e t4 j k dp @aS) ?_;refine AnsH.eq (FZ C (n:=n) zF ⟨u,w,rfl,A.mono (zG G4),B.mono (zG G4)⟩) fun m L=>?_;obtain ⟨i,_,V⟩:=zT G4 zK L;have g:=i.get o;have t:=i.get dp;have Q:=hc.one;have R:=hg.one;have Z:Kp H m:=P.trans i;have af:=V _ _ g;cases hL:(oN K G || decide (4<n) || decide (6<K.length) || decide (6<G.length) || decide (3<n)) with
  | true =>
   refine zX (mo hl a e t4 j k dp t g @aS @oQ) ?_;exact ⟨.inl ⟨_,rfl,⟨_,_,_,rfl,Q,R⟩⟩,zK⟩
  | false =>
   simp only [Yz,decide_eq_false_iff_not] at hL;obtain ⟨⟨X,a2⟩,a3,a4⟩:=El hL.1.1.1.1;have p1:PolyOK n 64 64 K G:=⟨M,zO,.inl zO,zO,fun c hc=>(a2 c hc).2,fun x hx=>(a4 x hx).2,zO,zO⟩
   refine zX (mo hl a e t4 j k dp t g @aS @oQ) ?_;refine ⟨.inr ⟨n,_,K,G,rfl,zO,rfl,⟨u,w,rfl,?_,?_⟩,p1,zO,zO⟩,zK⟩
   ·have m3:NoTy (t_api_Con :: conE.tys) m H.next:=NoTy.ty g zU
    exact SlV.monoT (E:=conE) zS (A.mono i.sub)
   ·have m3:NoTy (al :: genE.tys) m H.next:=NoTy.ty g zU
    exact SlV.monoT (E:=genE) zS (B.mono i.sub)
 ·refine zX (mo hl a e t4 j k dp o y @aS @oQ) ?_;have ae:=W _ _ o;exact ⟨.inl ⟨_,rfl,⟨_,_,_,rfl,S,U⟩⟩,zK⟩
def EB (C:Code tab) (i:Wf H) {v:AV} {n e f x:Nat} {K:List (List Int × Bool)} {G:List (Nat × List Int)} (hp:PolyV H v (n+1) K G) (a:PolyOK (n+1) e f K G) (hn:n<=2) (he:e<=64) (b:G.length<=6) (hx:x<n+1) :
  Ans tab (.fn lz [v,.int .i64 (x:Int)]) H fun r H'=>(∃ d g,r=.tup [.agg [.int .i64 (n:Int),d,g],.int .i64 0]/\SlV conE t_api_Con H' d (Lin.consP n (G.map (Lin.delG x)))/\SlV genE al H' g (Lin.gensP n (Lin.consP n (G.map (Lin.delG x)))))/\Kp H H':=by
 refine (CK C (m2:=16*(e+4)) (m3:=16*(16*(e+4)+4)) i hp a zO (fun y _ hy c hc=>(za a hn hy he b).1.bK c hc) zO (fun y _ hy c hc=>(za a hn hy he b).1.bG c hc) zO (fun y _ hy=>(za a hn hy he b).1.lenK)).mono ?_;rintro r H' ⟨hd,h⟩;refine ⟨?_,h⟩;rcases hd with ⟨-,-,hs⟩ | ⟨j,-⟩
 ·rw [Yo] at hs;exact Jf hs (za a hn hx he b).1
 ·omega
def vQ (C:Code tab) (h:Wf H) {v:AV} {n e f:Nat} {K:List (List Int × Bool)} {G:List (Nat × List Int)} (hp:PolyV H v n K G) (a:PolyOK n e f K G) (hn:n<=3) (d:f<=64) (j:K.length<=50) (i:G.length<=100) :
  Ans tab (.fn nM [v]) H fun r H'=>(∃ b c,r=.tup [.agg [.int .i64 ((n+1:Nat):Int),b,c],.int .i64 0]/\SlV conE t_api_Con H' b (Lin.consP (n+1) (Lin.gensP (n+1) (K.map Lin.padC)))/\SlV genE al H' c (Lin.gensP (n+1) (K.map Lin.padC)))/\Kp H H':=by
 have ok:=Jo a hn d j i;refine (LU C (m2:=64*(f+4)) h hp a hn zO (fun x hx=>ok.bG x hx) zO).mono ?_;rintro r H' ⟨hm,g⟩;exact ⟨vA hm ok,g⟩
def VM (C:Code tab) (h:Wf H) {v:AV} {n e f:Nat} {K:List (List Int × Bool)} {G:List (Nat × List Int)} (hp:PolyV H v n K G) (a:PolyOK n e f K G) (hn:n<=2) (d:f<=1088) (j:K.length<=50) (i:G.length<=100) :
  Ans tab (.fn nM [v]) H fun r H'=>(∃ b c,r=.tup [.agg [.int .i64 ((n+1:Nat):Int),b,c],.int .i64 0]/\SlV conE t_api_Con H' b (Lin.consP (n+1) (Lin.gensP (n+1) (K.map Lin.padC)))/\SlV genE al H' c (Lin.gensP (n+1) (K.map Lin.padC)))/\Kp H H':=by
 have ok:=VV a hn d j i;refine (LU C (m2:=16*(f+4)) h hp a zO zO (fun x hx=>ok.bG x hx) zO).mono ?_;rintro r H' ⟨hm,g⟩;exact ⟨vA hm ok,g⟩
set_option maxHeartbeats 4000000 in
def F2 (C:Code tab) (hw:Wf H):Ans tab (.fn fQ []) H fun v H'=>v=.bool true/\Kp H H':=by
 refine TL C.q1 fun T hl=>?_;refine zW hl ?_;refine AnsH.use (wH C (l:=[1]) zF (nP (m:=[1]) (am _ _ _)) (by simp) (by simp)) ?_;rintro v1 c ⟨r1,ag⟩;obtain ⟨k1,_,w1⟩:=zT H zK ag;have z1:lenV v1=some (.int .i64 1):=r1.lenV;refine zW (aB hl z1) ?_;refine AnsH.use (AF C zF) ?_;rintro _ H2 ⟨⟨vc,vg,rfl,hc,hg⟩,D⟩;obtain ⟨O,_,_⟩:=zT c zK D;have k2:=k1.trans O;have w2:=k2.wf;have oc:=hc.one;have og:=hg.one;refine zW hl ?_;refine AnsH.use (EB C (x:=0) (n:=1) zF ⟨vc,vg,rfl,hc,hg⟩ Jn zO zO zU zO) ?_;rintro _ d ⟨⟨va,u,rfl,ha,hb⟩,ah⟩;have W:Lin.consP 1 ([(3,[1,1,1]),(3,[1,3,3])].map (Lin.delG 0))=[([-1,1],false),([3,-1],false)]:=Lin.k13;rw [W] at ha hb;rw [Lin.g13] at hb;obtain ⟨k23,_,_⟩:=zT H2 zK ah;have k13:=O.trans k23;have k3:=k1.trans k13;have w3:=k3.wf;have oa:=ha.one;have ob:=hb.one;have n2:c.next+8<=H2.next:=D.le
 have n3:=k23.le;have f3:d.get (c.next+5)=none:=k23.free (show c.next+5<H2.next by omega) (D.free (show c.next+5<c.next+8 by omega) (w1.fresh (b:=c.next+5) zO));obtain ⟨G3,g⟩:∃ G,G=((d.up 8).put (c.next+5) (.cells [.int .i64 0,.nilSl,.nilSl] aj true)).put (c.next+5) (.cells [.int .i64 ((1:Nat):Int),va,u] aj true):=⟨_,rfl⟩
 have S:Sub d G3:=by rw [g]; exact ((Sub.bump d 8).put f3 _).put f3 _
 have Q:Kp H G3:=by rw [g]; exact zK
 have ay:=Q.wf;have az:G3.next=d.next+8:=by rw [g]; rfl
 have I:G3.get (c.next+5)=some (.cells [.int .i64 ((1:Nat):Int),va,u] aj true):=by rw [g,am]
 have Z:G3.get (d.next+5)=none:=by rw [g,aw zO,aw zO]; exact w3.fresh zO
 refine zW (aB hl @oQ) ?_;rw [<- g];obtain ⟨A,hA⟩:∃ A,A=c.next+5:=⟨_,rfl⟩
 rw [<- hA] at I;rw [<- hA];clear g;have M:=ha.mono S;have N:=hb.mono S;refine AnsH.use (vQ C (n:=1) (f:=4) ay ⟨va,u,rfl,M,N⟩ ok13 zO zO zU zU) ?_;rintro _ y ⟨⟨vd,w,rfl,hd,he⟩,h⟩;have X:Lin.gensP (1+1) ([([-1,1],false),([3,-1],false)].map Lin.padC)=[(1,[0,0,1]),(3,[1,1,0]),(3,[1,3,0])]:=Lin.gb2;rw [X] at hd he;have Y:Lin.consP (1+1) [(1,[0,0,1]),(3,[1,1,0]),(3,[1,3,0])]=[([-1,1,0],false),([3,-1,0],false)]:=Lin.kb2;rw [Y] at hd;have k4:=Q.trans h;have w4:=k4.wf;have od:=hd.one;have oe:=he.one;have n4:=h.le;have f4:y.get (d.next+5)=none:=h.free zO Z;obtain ⟨G4,p⟩:∃ G,G=(y.put (d.next+5) (.cells [.int .i64 0,.nilSl,.nilSl] aj true)).put (d.next+5) (.cells [.int .i64 ((1+1:Nat):Int),vd,w] aj true):=⟨_,rfl⟩
 have r:Sub y G4:=by rw [p]; exact (aH f4).put f4 _
 have R:Kp H G4:=by rw [p]; exact zK
 have aA:=R.wf;have a:G4.get (d.next+5)=some (.cells [.int .i64 ((1+1:Nat):Int),vd,w] aj true):=by rw [p,am]
 have e:=r.get _ _ (h.get I);refine zW (aC hl @oQ @aD) ?_;rw [<- p];obtain ⟨B,L⟩:∃ B,B=d.next+5:=⟨_,rfl⟩
 rw [<- L] at a;rw [<- L];clear p;have aa:=(M.mono h.sub).mono r;have ab:=(N.mono h.sub).mono r;have ae:=hd.mono r;have af:=he.mono r;have a:G4.get B=some (.cells [.int .i64 ((2:Nat):Int),vd,w] aj true):=a;refine EX (fun T'=>T'.length=35/\ad T' 1=.ptr A 0/\ad T' 2=.int .i64 0/\ad T' 3=.ptr B 0/\ad T' 4=.int .i64 0) (zV hl) ?_;clear hl;rintro T' ⟨hl,t1,j,t3,t4⟩;refine aJ ?_;refine zD (cn hl t1 j t3 t4) ?_;refine AnsH.use (AF C zF) ?_;rintro _ U ⟨⟨p1,p2,rfl,h1,h2⟩,ak⟩;obtain ⟨E,_,w5⟩:=zT G4 zK ak;have o1:=h1.one;have o2:=h2.one;have z2:lenV p2=some (.int .i64 2):=h2.lenV;have k:=E.get e;have o:=E.get a;refine zX (mo hl t1 j t3 t4 z2 e k a o @aS) ?_;refine AnsH.use (tu C (n:=1) zF (.inl rfl) Lin.g13 Lin.k13 zU zU) ?_;rintro _ H6 ⟨⟨q1,q2,rfl,h3,h4⟩,al⟩;obtain ⟨av,_,_⟩:=zT U zK al;have i:=E.trans av;have w6:=i.wf;have o3:=h3.one;have o4:=h4.one;have s:=i.get e;have t:=i.get a;refine zX (E0 hl t1 j t3 t4 z2 e k s a o t @aS) ?_;refine AnsH.eq (F0 C (n:=1) (n':=1) w6 ⟨va,u,rfl,aa.mono i.sub,ab.mono i.sub⟩ ⟨q1,q2,rfl,h3,h4⟩ zU ok13.smK zU ok13.smG) fun V ao=>?_;rw [decide_eq_true ⟨rfl,rfl,rfl⟩];have F:=i.trans ao;have w7:=F.wf;have z:=F.get a;refine zX (Dd hl t1 j t3 t4 z2 e k s a o t z @aS) ?_;refine AnsH.use (tu C (n:=2) zF (.inr rfl) Lin.gb2 Lin.kb2 zU zU) ?_;rintro _ H8 ⟨⟨q3,q4,rfl,h5,K⟩,aq⟩;obtain ⟨ax,_,_⟩:=zT V zK aq;have q:=F.trans ax;have w8:=q.wf;have o5:=h5.one;have o6:=K.one;have J:=q.get a;refine zX (ME hl t1 j t3 t4 z2 e k s a o t z J @aS) ?_;refine AnsH.eq (F0 C (n:=2) (n':=2) w8 ⟨vd,w,rfl,ae.mono q.sub,af.mono q.sub⟩ ⟨q3,q4,rfl,h5,K⟩ zU ok_b2.smK zU ok_b2.smG) fun H9 ar=>?_;rw [decide_eq_true ⟨rfl,rfl,rfl⟩];have P:=q.trans ar;have w9:=P.wf;refine zX (ME hl t1 j t3 t4 z2 e k s a o t z J @aS) ?_;exact R.trans P
end
section
variable {tab:Nat->Option au} {H:Heap} {s:AV}
set_option maxHeartbeats 2000000 in
def Ez (C:Code tab) (z:Wf H) {r:List Int} {o:List Nat} {bo n:Nat} {so:AV} (hs:RowV H s r) (hr:r.length=n+1) (hA:H.get bo=some (.cells [so] dy true)) (u:pC (gK .i64) aL H so (o.map fun i:Nat=>(i:Int))) (hi:∀ i∈o,i<n) (hn:n<=60) (Y:o.length<=60) :
  Ans tab (.fn g8 [s,.ptr bo 0]) H fun v H'=>RowV H' v (Lin.mvO o r)/\Kp H H':=by
 have ae:=z _ _ hA;refine bE C.q32 zU fun T hl e g=>?_;obtain ⟨cs,⟨p,rfl,hp⟩,-,-,l⟩:=hs.at (zh (show 0<r.length by omega));have L:cG 2 s (.int .i64 0)=some (az s 0):=hs.idx .i64 0 zO;have l:bc H (some 2) (az s 0)=some (.agg [.bool (decide (r[0]<0)),p]):=l;have op:=hp.one;have ld:=Ldd.of z l;have I:=AR (p:=.bool false) (q:=.nilSl) (aF (decide (r[0]<0))) op;have Q:lenV so=some (.int .i64 (o.length:Int)):=by have:=u.lenV; rwa [Nj] at this
 refine zW (lh hl e g L l ld.put I hA Q) ?_;obtain ⟨X,k⟩:∃ X,X=(H.up 9).put (H.next+4) (.cells [.bool (decide (r[0]<0)),p] aa true):=⟨_,rfl⟩
 rw [<- k];have B:Kp H X:=by rw [k]; exact ((Kp.refl z).up 9).put zO (show _<H.next+9 by omega)
 have E:X.get (H.next+4)=some (.cells [.bool (decide (r[0]<0)),p] aa true):=by rw [k,am]
 clear k;have e0:Lin.hd1 r=r[0]:=by cases r with | nil=>simp at hr | cons a r=>rfl
 have q0:Bq intE aa H X (.own (H.next+4) 0 1 1 2 true) [r[0]]:=.inr ⟨H.next+4,true,_,rfl,E,⟨rfl,fun i a hi=>by
  match i with
  | 0=>simp at hi; subst hi; exact ⟨p,rfl,hp.mono B.sub⟩
  | i+1=>simp at hi⟩,zO⟩
 refine aq H [4] (fun j vs H'=>∃ v,vs=[v]/\Bq intE aa H H' v (r[0] :: (o.take j).map fun i=>r.getD (i+1) 0)) (a:=0) (N:=o.length) rfl (by refine zW (aC hl e g) ?_; rfl) (zV (aC hl e g)) (WG _) zO (by simp only [jL,hl]; rfl) rfl (fun j _ H' m ⟨v,h1,h2⟩=>⟨v,h1,h2.mono (Sub.bump H' m)⟩) B ⟨_,by refine zW (aC hl e g) ?_; rfl,by rw [Y6]; exact q0⟩ ?_ ?_
 ·rintro j T1 c _ hj f K y d ⟨v,h,hq⟩;have w1:=d.wf;have ab:=d.le;have Z:=d.le;simp only [SA,WF,Ud,and_true] at h;have t0:ad T1 0=s:=(y.at_ 0 zU).trans (zV (aB hl e));have U:ad T1 11=so:=(y.at_ 11 zU).trans (zV (aC hl e g));have W:o[j]<n:=hi _ (EL hj);obtain ⟨w,x,P⟩:=SlV.at1 (u.mono d.sub) (i:=j) (a:=(o[j]:Int)) (by simp [hj]);have x:w=.int .i64 (o[j]:Int):=x;subst x;have M:=SlV.idx1 u .i64 j (by rw [Nj]; exact hj);have hlt:o[j]+1<r.length:=zO;obtain ⟨ds,⟨p2,rfl,A⟩,-,-,t⟩:=(hs.mono d.sub).at (zh hlt);have t:bc c (some 2) (az s ((o[j]+1)*2))=some (.agg [.bool (decide (r[o[j]+1]<0)),p2]):=t;have O:cG 2 s (.int .i64 ((o[j]+1:Nat):Int))=some (az s ((o[j]+1)*2)):=hs.idx .i64 (o[j]+1) hlt;have G:IntKind.i64.wrap ((o[j]:Int)+1)=((o[j]+1:Nat):Int):=by rw [wrap_i64] <;> omega
  have S:=A.one;have J:=AR (p:=.bool false) (q:=.nilSl) (aF (decide (r[o[j]+1]<0))) S;have V:(o.take j).length<=60:=by rw [WU]; omega
  simp only [jL,hl] at f;refine zW (mo f h t0 U K M P O t G J) ?_;obtain ⟨N,D,e4,q4,R,n4,-⟩:=Bq.push (ty2:=aa) (bytes:=32) (id:=c.next+10) (id2:=c.next+9) (cs:=[.bool (decide (r[o[j]+1]<0)),p2]) (a:=r[o[j]+1]) (hq.mono (Sub.bump c 12)) zU (d.up 12) ⟨p2,rfl,A.mono (Sub.bump c 12)⟩ zO (show _<c.next+12 by omega) (w1.fresh (b:=c.next+10) zO) zO (show _<c.next+12 by omega) (w1.fresh (b:=c.next+9) zO) zO (by rw [W5,Nj]; omega) (by rw [W5,Nj]; omega);have e4:dq ((c.up 12).put (c.next+9) (.cells [.bool (decide (r[o[j]+1]<0)),p2] aa true)) (c.next+10) 2 32 aa v (.own (c.next+9) 0 1 1 2 true)=some (.own (c.next+10) 0 N N 2 false,D):=e4;refine zW (aB f e4) ?_;refine ⟨R,_,rfl,?_⟩;rw [TY hj,Xd];have F:r.getD (o[j]+1) 0=r[o[j]+1]:=by rw [qf,zh hlt]; rfl
  simp only [SA,WF,F];exact q4
 ·rintro T1 c f y d ⟨v,h,hq⟩;simp only [SA,WF,Ud,and_true] at h;simp only [jL,hl] at f;rw [WZ] at hq;refine zW (aB f h) ?_;unfold Lin.mvO;rw [e0];exact ⟨hq.sl.mono (Sub.bump c _),d.up _⟩
end
def dL (o:List Nat):List Int:=o.map fun i:Nat=>(i:Int)
def NT {a b:List Nat} (h:dL a=dL b):a=b:=by
 have key:∀ c:List Nat,(dL c).map Int.toNat=c:=fun c=>by
  unfold dL;rw [Yw];exact (X0 (g:=id) fun z d=>rfl).trans (Zq _)
 rw [<- key a,h,key b]
def Qo {n:Nat} {l m:List Int} (hp:m.Perm l) (hs:Mx m) (hl:l.length=n):(∀ i (h:i<m.length),m[i]=(i:Int)) ↔ ∃ o,l=dL o/\Lin.Ord n o:=by
 have f:m.length=n:=by rw [hp.length_eq,hl]
 constructor
 ·intro h;have e:m=dL (List.range n):=by
   apply X1
   ·rw [f]; simp [dL]
   ·intro i h1 h2;rw [h i h1]; simp [dL]
  have d:l=dL (l.map Int.toNat):=by
   unfold dL;rw [Yw];refine ((X0 (g:=id) fun z c=>?_).trans (Zq _)).symm
   have:=hp.mem_iff.2 c
   rw [e] at this;obtain ⟨k,-,rfl⟩:=DT.1 this;rfl
  refine ⟨l.map Int.toNat,d,?_⟩
  have:=(hp.symm.map Int.toNat)
  rw [e] at this;unfold dL at this;rw [Yw] at this;have e3:(List.range n).map (Int.toNat ∘ fun i:Nat=>(i:Int))=List.range n:=(X0 (g:=id) fun z c=>rfl).trans (Zq _);rw [e3] at this;exact this
 ·rintro ⟨o,rfl,j⟩ i h;have p:m.Perm (dL (List.range n)):=hp.trans (j.map _);have q:List.Pairwise (fun x y:Int=>x<=y) (dL (List.range n)):=by
   unfold dL;rw [Xu];exact List.pairwise_le_range.imp fun h=>by omega
  have e:m=dL (List.range n):=ZM (fun a b _ _ h1 h2=>Int.le_antisymm h1 h2) hs q p;subst e;simp [dL]
def Ru (H:Heap) (r:AV) (n:Nat) (l:List Int) (K:List (List Int × Bool)):Prop :=
 (∃ o,l=dL o/\Lin.Ord n o/\sj H r n (Lin.movG n o K))\/(¬ (∃ o,l=dL o/\Lin.Ord n o)/\r=.tup [wT,.int .i64 2])
section
variable {tab:Nat->Option au} {H:Heap} {s:AV}
def Mp (C:Code tab) (j:Wf H) {L:List (List Int × Bool)} {o:List Nat} {bo n:Nat} {so:AV} (hs:SlV conE t_api_Con H s L) (d:L.length<=2000) (h:∀ c∈L,c.1.length=n+1) (hA:H.get bo=some (.cells [so] dy true)) (f:pC (gK .i64) aL H so (dL o)) (hi:∀ i∈o,i<n) (hn:n<=60) (g:o.length<=60) :
  Ans tab (.fn dC [s,.fn (.func gf) [.fn (.func g8) [] [.ptr bo 0]] []]) H fun v H'=>SlV conE t_api_Con H' v (L.map (Lin.mvC o))/\Kp H H' :=
 Gk C j (Lin.mvC o) hs d fun c hc H' cs b hr=>by
  obtain ⟨w,rfl,k⟩:=hr;refine AnsH.use (Ff C b.wf (l':=Lin.mvO o c.1) k fun H2 a h2=>?_) ?_
  ·exact Ez C a.wf h2 (h c hc) ((b.trans a).get hA) (f.mono (b.trans a).sub) hi hn g
  ·rintro r H2 ⟨⟨w',e,h'⟩,a⟩;exact ⟨⟨_,e,w',rfl,h'⟩,a⟩
set_option maxHeartbeats 4000000 in
def CJ (C:Code tab) (hw:Wf H) {v so:AV} {n e f m2:Nat} {K:List (List Int × Bool)} {G:List (Nat × List Int)} {l:List Int} (hp:PolyV H v n K G) (D:PolyOK n e f K G) (aM:K.length<=60) (I:pC (gK .i64) aL H so l) (hG:∀ o,Lin.Ord n o->∀ x∈Lin.movG n o K,Lin.Bd (2^m2) x.2) (ay:m2<=300000) :
  Ans tab (.fn nL [v,so]) H fun r H'=>Ru H' r n l K/\Kp H H':=by
 obtain ⟨vc,vg,rfl,hc,hg⟩:=hp;have oc:=hc.one;have og:=hg.one;have os:=I.one;have ar:=D.dim;refine bE C.q9 zU fun T hl d g=>?_;refine zW (cn hl d g (py oc og) (BA os)) ?_;refine AnsH.eq (uj C (n:=n) (K:=K) (G:=G) zF ⟨vc,vg,rfl,hc.mono (zG H),hg.mono (zG H)⟩ D) fun H2 O=>?_;obtain ⟨k2,_,w2⟩:=zT H zK O;have d0:H2.get H.next=some (.cells [.int .i64 (n:Int),vc,vg] aj true):=O.get (cY)
 have R:H2.get (H.next+1)=some (.cells [so] dy true):=O.get (cY);have d1:H2.get (H.next+2)=some (.cells [.int .i64 0,.nilSl,.nilSl] aj true):=O.get (cY);have aS:=w2 _ _ d1;by_cases q1:l.length=n
 case neg =>
  have Y:¬ (l.length:Int)=(n:Int):=zO;refine zW (lh hl d g d0 d1 R I.lenV Y @oQ) ?_;exact ⟨.inr ⟨fun ⟨o,e,h⟩=>q1 (by rw [e]; simp [dL,h.len]),rfl⟩,zK⟩
 have Y:(l.length:Int)=(n:Int):=zO;refine zW (ip hl d g d0 R I.lenV Y) ?_;refine AnsH.use (uQ C zF os) ?_;rintro _ H3 ⟨rfl,Q,n3,av⟩;obtain ⟨k23,_,_⟩:=zT H2 zK av;have k3:=k2.trans k23;have w3:=k3.wf;refine zW (aC hl d g) ?_;have Q:H3.get (H2.next+12)=some (.cells [so] dy true):=Q;refine AnsH.use (IW C w3 Q (I.mono k3.sub) zO) ?_;rintro v4 Z ⟨⟨m,hm,ak,aG⟩,aw⟩;have J:Kp H2 Z:=k23.trans aw;have aQ:=J.le;have X:=k2.trans J;have w4:=X.wf;have aN:m.length=n:=by rw [ak.length_eq,q1]
 have am:=Qo ak aG q1;have e0:=J.get d0;have ex:=J.get R;have e1:=J.get d1;refine zW (aZ hl d g hm.lenV) ?_;refine aq Z [] (fun j _ _=>∀ i (h:i<m.length),i<j->m[i]=(i:Int)) (a:=0) (N:=m.length) (by simp only [jL]; exact hl) (by refine zW (aC hl d g) ?_; rfl) (zV (aC hl d g)) (WG _) zO rfl rfl (fun _ _ _ _ h=>h) (Kp.refl w4) (fun k _ h=>by omega) ?_ ?_
 ·intro j T1 y _ hj A ag t s S;have w1:=s.wf;have aH:=s.le;have t4:ad T1 4=.ptr (H.next+2) 0:=(t.at_ 4 zU).trans (zV (aC hl d g));have ao:ad T1 24=v4:=(t.at_ 24 zU).trans (zV (aC hl d g));obtain ⟨w,W,P⟩:=SlV.at1 (hm.mono s.sub) (zh hj);have W:w=.int .i64 m[j]:=W;subst W;have ah:=SlV.idx1 hm .i64 j hj;have f1:=s.get e1;have aR:=w1 _ _ f1;by_cases q:m[j]=(j:Int)
  ·rw [q] at P;refine zW (cn A ao ag ah P) ?_;exact ⟨zK,fun k h hk=>by
    by_cases e:k=j
    ·subst e; exact q
    ·exact S k h zO⟩
  ·have az:¬ ∃ o,l=dL o/\Lin.Ord n o:=fun h=>q (am.2 h j hj);obtain ⟨z,hz⟩:∃ z,z=m[j]:=⟨_,rfl⟩
   rw [<- hz] at P q;have q:¬ (j:Int)=z:=fun e=>q e.symm;have kf:Kp H y:=X.trans s;refine zW (lh A t4 ao ag ah P q f1 @oQ) ?_;exact ⟨.inr ⟨az,rfl⟩,zK⟩
 ·intro T1 y A t s S;obtain ⟨o,rfl,F⟩:=am.1 fun i h=>S i h h;have w1:=s.wf;have aH:=s.le;have k1:Kp H y:=X.trans s;have aO:=k1.le;have u:ad T1 2=.ptr H.next 0:=(t.at_ 2 zU).trans (zV (aC hl d g))
  have t3:ad T1 3=.ptr (H.next+1) 0:=(t.at_ 3 zU).trans (zV (aC hl d g));have t4:ad T1 4=.ptr (H.next+2) 0:=(t.at_ 4 zU).trans (zV (aC hl d g));have d:=s.get e0;have gx:=s.get ex;have g:=s.get e1;have aA:o.length<=60:=by rw [F.len]; omega
  refine zW (aC A t3 @aD) ?_;refine EX (fun T'=>T'.length=47/\ad T' 2=.ptr H.next 0/\ad T' 4=.ptr (H.next+2) 0/\ad T' 9=.fn (.func g8) [] [.ptr (H.next+1) 0]) (zV (aC A u t4)) ?_;clear hl A u t3 t4 t;rintro T' ⟨hl,u,t4,t9⟩;refine aJ ?_;refine zD (fy hl u t4 t9 d g) ?_;refine AnsH.use (Mp C (n:=n) (o:=o) (bo:=H.next+1) (so:=so) ((w1.bump 2).bump 12) ((hc.mono k1.sub).mono ((Sub.bump y 2).trans (Sub.bump _ 12))) zO (fun c hc=>(D.rowK c hc).1) gx ((I.mono k1.sub).mono ((Sub.bump y 2).trans (Sub.bump _ 12))) (fun i hi=>F.mem.1 hi) zO aA) ?_;rintro v5 H5 ⟨aB,ax⟩;have k15:Kp y H5:=Kp.trans (((Kp.refl w1).up 2).up 12) ax;have aP:=k15.le;have k5:=k1.trans k15;have w5:=k5.wf;have L:=k15.get d;have M:=k15.get g;have aE:∀ c∈K.map (Lin.mvC o),c.1.length=n+1/\Lin.Bd (2^f) c.1:=fun c hc=>by
   obtain ⟨b,hb,rfl⟩:=DT.1 hc;exact ⟨Lin.mvO_len F _,N6 (D.rowK b hb).2⟩
  refine zD (lp hl u t4 t9 d g L M) ?_;refine AnsH.use (kT C (n:=n) (m:=f) (m2:=m2) w5 aB ar (by rw [Nj]; omega) aE D.f3 (hG o F) ay) ?_;rintro _ H6 ⟨V,U⟩;have k6:=k5.trans U;have w6:=k6.wf;have aa:=U.get L;have B:=U.get M;have aT:=w6 _ _ B;have ae:∀ H' r,sj H' r n (Lin.movG n o K)->Ru H' r n (dL o) K:=fun H' r h=>.inl ⟨o,rfl,F,h⟩;rcases V with ⟨rfl,V⟩ | ⟨p,rfl,⟨aI,aK,rfl,ab,af⟩,h1,h2⟩
  ·refine zD (mo hl u t4 t9 d g L M aa B @oQ) ?_;exact ⟨ae _ _ (.inl ⟨rfl,V⟩),zK⟩
  ·have aU:=ab.one;have aV:=af.one;refine zD (mo hl u t4 t9 d g L M aa B @oQ) ?_;refine ⟨ae _ _ (.inr ⟨_,rfl,⟨aI,aK,rfl,?_,?_⟩,h1,h2⟩),zK⟩
   ·have m3:NoTy (t_api_Con :: conE.tys) H6 (H.next+2):=NoTy.ty B zU;exact SlV.monoT (E:=conE) zS ab
   ·have m3:NoTy (al :: genE.tys) H6 (H.next+2):=NoTy.ty B zU;exact SlV.monoT (E:=genE) zS af
end
def NS (l:List Nat) (i k:Nat):(dL l).set i (k:Int)=dL (l.set i k):=by
 unfold dL;exact (Zd (f:=fun i:Nat=>(i:Int))).symm
def mX (l:List Nat):(dL l).length=l.length:=Nj _
def Ot (l:List Int) (i:Nat) (z:Int):(aQ l).set i (.int .i64 z)=aQ (l.set i z):=(Zd (f:=fun z:Int=>AV.int .i64 z)).symm
def Hf (n:Nat):(List.replicate n [AV.int .i64 0]).flatten=aQ (dL (List.replicate n 0)):=by
 induction n with
 | zero=>rfl
 | succ n a=>rw [Xt,Zc,a]; rfl
section
variable {tab:Nat->Option au} {H:Heap} {s1 s2:AV}
def Lq {v:AV} {d:Int} (h:Pm H v d):∃ x u w b,v=.tup [.agg [.int .i64 x,u,w],.bool b]/\One u/\One w:=by
 rcases h with ⟨_,rfl,x,u,w,rfl,a,c⟩ | ⟨n,p,K,G,-,-,rfl,⟨e,f,rfl,hc,hg⟩,-⟩
 ·exact ⟨_,_,_,_,rfl,a,c⟩
 ·exact ⟨_,_,_,_,rfl,hc.one,hg.one⟩
end
section
variable {tab:Nat->Option au} {H:Heap}
end
section
variable {tab:Nat->Option au} {H:Heap} {s:AV}
def VL (C:Code tab) (h:Wf H) {n:Int} {l:List GY} (hs:SlV genQE al H s l) (d:∀ c∈l,xI c.2) (e:∀ c∈l,∀ z∈c.2,Lim z.2/\z.2.length<=1048576) (g:l.length<4611686018427387904) (hc:jQ n l≠0) :
  Ans tab (.fn Vf [.int .i64 n,s]) H fun v H'=>v=.tup [.nilSl,.int .i64 (jQ n l)]/\Kp H H':=by
 refine bE C.q20 zU fun T hl a b=>?_;refine zW (aC hl a b) ?_;refine AnsH.eq (xz C zF (hs.mono (zG H)) d e g) fun H2 f=>?_;obtain ⟨k2,_,_⟩:=zT H zK f;have hc:¬ jQ n l=0:=hc;refine zW (aZ hl a b hc) ?_;exact zK
def VT (C:Code tab) (u:Wf H) {n m:Nat} {g:List (Nat × List Int)} (hs:SlV genE al H s g) (hn:n<=4) (r:g.length<=60) (h:Lin.ValidG n g) (o:∀ x∈g,x.1=1\/x.1=2\/x.1=3) (d:∀ c∈g,Lin.Bd (2^m) c.2) (hm:m<=300000) :
  Ans tab (.fn Vf [.int .i64 (n:Int),s]) H fun v H'=>(∃ w,v=.tup [w,.int .i64 0]/\SlV conE t_api_Con H' w (Lin.consP n g))/\Kp H H':=by
 have f:∀ c∈g,c.2.length=n+1/\Lin.Bd (2^m) c.2:=fun c hc=>⟨(h c hc).1,d c hc⟩
 have l:∀ c∈g.map fun c=>(c.1,c.2.map fd),∀ z∈c.2,Lim z.2/\z.2.length<=1048576:=fun c hc z e=>by
  obtain ⟨x,hx,rfl⟩:=DT.1 hc;obtain ⟨y,hy,rfl⟩:=DT.1 e;have hb:=ml (d x hx) y hy;exact ⟨bI _,Oi (n:=y.natAbs) (k:=1048576) (m:=m+1) hb zO⟩
 refine bE C.q20 zU fun T hl a b=>?_;refine zW (aC hl a b) ?_;refine AnsH.eq (xz C zF ((Ga hs).mono (zG H)) (Q7 (n:=n) zO fun c hc=>⟨(f c hc).1,fun z e=>(ml (d c hc) z e).sm zO⟩) l (by rw [Nj]; omega)) fun H2 p=>?_;rw [GD zO r h o];obtain ⟨k2,_,w2⟩:=zT H zK p;refine zW (aC hl a b) ?_;refine AnsH.use (CG C zF ((hs.mono k2.sub).mono (zG H2)) hn zO (K2 zO hn) f zO) ?_;rintro v i ⟨j,q⟩;have t:Kp H i:=k2.trans (Kp.trans zK q);have A:=t.le;refine zW (aC hl a b) ?_;exact ⟨⟨v,rfl,j⟩,zK⟩
def Vm (C:Code tab) (E:Wf H) {v w:AV} {n e f e' k:Nat} {K:List (List Int × Bool)} {G:List (Nat × List Int)} {r:List Int} (hp:PolyV H v n K G) (b:PolyOK n e f K G) (hr:RowV H w r) (p:Lin.ValidG n [(k,r)]) (t:k=1\/k=2\/k=3) (hb:Lin.Bd (2^e') r) (he:e'<=300000) :
  Ans tab (.fn Vd [v,.agg [.int .u8 (k:Int),w]]) H fun x H'=>x=.tup [.bool (Lin.inP [(k,r)] K),.int .i64 0]/\Kp H H':=by
 have D:=hp;obtain ⟨i,j,rfl,hc,hg⟩:=hp;have A:=hc.one;have B:=hg.one;have q:=hr.one;have l:im [.int .u8 0,.nilSl] [((0,2),.agg [.int .u8 (k:Int),w])]=some (.agg [.int .u8 (k:Int),w]):=by simp [im,cP,AV.cells,q.2,(bi .u8 (k:Int)).2]
 refine bE C.q4 zU fun T hl d g=>?_;refine zW (fy hl d g (py A B) (GM q) @oQ) ?_;refine AnsH.eq (uj C zF ⟨i,j,rfl,hc.mono (zG H),hg.mono (zG H)⟩ b) fun H2 h=>?_;obtain ⟨k2,_,w2⟩:=zT H zK h;have d0:H2.get H.next=some (.cells [.int .i64 (n:Int),i,j] aj true):=h.get (cY)
 have d1:H2.get (H.next+1)=some (.cells [.int .u8 (k:Int),w] al true):=h.get (cY);refine zW (fy hl d g d0 d1 l) ?_;refine AnsH.use (VT C (n:=n) (m:=e') zF (Wn (am _ _ _) ((hr.mono k2.sub).mono (zG H2))) b.dim (by simp) p (fun x hx=>by rw [WL] at hx; subst hx; exact t) (fun x hx=>by rw [WL] at hx; subst hx; exact hb) he) ?_;rintro x a ⟨⟨u,rfl,-⟩,o⟩;obtain ⟨k23,_,_⟩:=zT H2 zK o;have c:Kp H a:=k2.trans k23;have I:=c.le;have M:=c.wf;have L:H2.next+12<=a.next:=o.le
 have d0:a.get H.next=some (.cells [.int .i64 (n:Int),i,j] aj true):=k23.get d0
 have d1:a.get (H.next+1)=some (.cells [.int .u8 (k:Int),w] al true):=k23.get d1;have F:=b.lenK;have f3:=b.f3;have hn:=b.dim;refine zW (fy hl d g d0 d1 l) ?_;refine AnsH.eq (VH C (n:=n) (e:=e') (f:=f) zF (Wn (am _ _ _) ((hr.mono c.sub).mono (zG a))) ((hc.mono c.sub).mono (zG a)) (fun x hx=>by rw [WL] at hx; subst hx; exact ⟨(p _ (WL.2 rfl)).1,hb⟩) b.rowK zO (by simp) zO zO) fun s y=>?_;have z:Kp H s:=c.trans (Kp.trans zK y);have J:=z.le;refine zW (aC hl d g) ?_;exact zK
def VS (C:Code tab) (D:Wf H) {v w:AV} {n e f:Nat} {K:List (List Int × Bool)} {G:List (Nat × List Int)} {r:GY} (hp:PolyV H v n K G) (A:PolyOK n e f K G) (hr:SlV rawE aa H w r.2) (t:xI r.2) (u:∀ z∈r.2,Lim z.2/\z.2.length<=1048576) (hc:jQ n [r]≠0) :
  Ans tab (.fn Vd [v,.agg [.int .u8 (r.1:Int),w]]) H fun x H'=>x=.tup [.bool false,.int .i64 (jQ n [r])]/\Kp H H':=by
 obtain ⟨o,p,rfl,k,hg⟩:=hp;have F:=k.one;have I:=hg.one;have m:=hr.one;have s:im [.int .u8 0,.nilSl] [((0,2),.agg [.int .u8 (r.1:Int),w])]=some (.agg [.int .u8 (r.1:Int),w]):=by simp [im,cP,AV.cells,m.2,(bi .u8 (r.1:Int)).2]
 refine bE C.q4 zU fun T hl d g=>?_;refine zW (fy hl d g (py F I) (GM m) @oQ) ?_;refine AnsH.eq (uj C zF ⟨o,p,rfl,k.mono (zG H),hg.mono (zG H)⟩ A) fun H2 j=>?_;obtain ⟨k2,_,w2⟩:=zT H zK j;have d0:H2.get H.next=some (.cells [.int .i64 (n:Int),o,p] aj true):=j.get (cY)
 have d1:H2.get (H.next+1)=some (.cells [.int .u8 (r.1:Int),w] al true):=j.get (cY);refine zW (fy hl d g d0 d1 s) ?_;have B:Sub H ((H2.up 12).put (H2.next+5) (.cells [.int .u8 (r.1:Int),w] al true)):=((k2.sub.trans (Sub.bump H2 12)).put (D.fresh (b:=H2.next+5) (by have:=k2.le; omega)) _)
 refine AnsH.eq (VL C (n:=(n:Int)) (l:=[r]) zF ⟨_,Rd.own (am _ _ _) rfl (Jv _),fun _ _ _ _ _ _ e=>by cases e; exact ⟨_,_,am _ _ _⟩,rfl,fun i a hi=>by
  match i with
  | 0=>simp at hi; subst hi; exact ⟨w,rfl,hr.mono B⟩
  | i+1=>simp at hi⟩ (fun c h=>by rw [WL] at h; subst h; exact t) (fun c h=>by rw [WL] at h; subst h; exact u) (by simp) hc) fun q y=>?_
 have E:Kp H q:=k2.trans (Kp.trans zK y);have J:=E.le;have hc:¬ jQ n [r]=0:=hc;refine zW (aZ hl d g hc) ?_;exact zK
end
def V6 {n:Nat} {x:GY} (c:my x.2) (hg:nu 1 [x]=false) (hn:n<=4) :
  jQ n [x]≠0\/(Lin.ValidG n [Wo x]/\(x.1=1\/x.1=2\/x.1=3)/\Lin.Bd (2^64) (Wo x).2/\∀ z∈x.2,r8 z=false/\Lim z.2):=by
 by_cases hc:jQ n [x]=0
 ·refine .inr ?_;obtain ⟨-,h2⟩:=AN hg;unfold jQ at hc;split at hc
  ·omega
  split at hc
  ·omega
  split at hc
  ·omega
  split at hc
  ·omega
  rename_i q1 q2 q3 q4;have q3:HS x=false:=by
   cases d:HS x with
   | false=>rfl
   | true=>exact absurd (W7.2 ⟨x,WL.2 rfl,d⟩) q3
  have hl:(x.2.length:Int)=n+1:=by
   apply W0
   intro hn;exact q4 (W7.2 ⟨x,WL.2 rfl,by simpa using hn⟩)
  unfold HS at q3;rw [Yz] at q3;have ok:BH x.2=true:=by simpa using q3.1
  have a:=q3.2;unfold HU at a;refine ⟨fun y hy=>?_,?_,So fun z b=>⟨(c.1 z b).1,(h2 x (WL.2 rfl)).2 z b⟩,fun z b=>⟨Qq ok z b,(c.1 z b).1⟩⟩
  ·rw [WL] at hy;subst hy;refine ⟨by show (x.2.map fV).length=_; rw [Nj]; omega,fun e=>?_,fun e=>?_⟩
   ·have e:x.1=3:=e;rw [if_neg (by simp only; omega),if_pos e] at a
    have:=of_decide_eq_false a
    show 0<Lin.hd1 (x.2.map fV);simp only at this;omega
   ·have e:x.1≠3:=e;split at a
    ·have:=of_decide_eq_false a
     show Lin.hd1 (x.2.map fV)=0;simp only at this;omega
    ·cases a
  ·split at a
   ·rename_i h; simp only at h; omega
   ·split at a
    ·rename_i h; simp only at h; omega
    ·cases a
 ·exact .inl hc
def Wt {H:Heap} {b:Nat} {v:AV} {g:GY} {r:Bool} (h:H.get b=some (.cells [.int .u8 (g.1:Int),v] al r)) (c:SlV rawE aa H v g.2):SlV genQE al H (.own b 0 1 1 2 true) [g] :=
 ⟨_,Rd.own h rfl (Jv _),fun _ _ _ _ _ _ e=>by cases e; exact ⟨_,_,h⟩,rfl,fun i a hi=>by
  match i with
  | 0=>simp at hi; subst hi; exact ⟨v,rfl,c⟩
  | i+1=>simp at hi⟩
section
variable {tab:Nat->Option au} {H:Heap}
def VN (C:Code tab) (d:Wf H) {v w:AV} {n e f:Nat} {K:List (List Int × Bool)} {G:List (Nat × List Int)} {r:GY} (hp:PolyV H v n K G) (b:PolyOK n e f K G) (hr:SlV rawE aa H w r.2) (c:my r.2) (hg:nu 1 [r]=false) :
  Ans tab (.fn Vd [v,.agg [.int .u8 (r.1:Int),w]]) H fun x H'=>x=.tup [.bool (decide (jQ n [r]=0) && Lin.inP [(r.1,r.2.map fV)] K),.int .i64 (jQ n [r])]/\Kp H H':=by
 have hn:=b.dim;by_cases hc:jQ n [r]=0
 ·rcases V6 (n:=n) c hg hn with h | ⟨i,g,hb,a⟩
  ·exact absurd hc h
  refine (Vm C d hp b (SlV.int hr a) i g hb zO).mono ?_;rintro x H' ⟨rfl,k⟩;exact ⟨by rw [hc]; simp,k⟩
 ·refine (VS C d hp b hr (V5 hg _ (WL.2 rfl)) (fun z a=>⟨(c.1 z a).1,by have:=((AN hg).2 r (WL.2 rfl)).2 z a; omega⟩) hc).mono ?_;rintro x H' ⟨rfl,k⟩;exact ⟨by simp [hc],k⟩
section
variable {n x:Nat} {a:List Int} {K:List (List Int × Bool)} {G:List (Nat × List Int)}
end
end
section
variable {tab:Nat->Option au} {H:Heap} {s:AV}
def Wj {α:Type} {E:gr α} {ty:Nat} {v:AV} {l:List α} (d:Wf H) (hs:SlV E ty H v l) {b off m c z:Nat} {x:Bool} (e:v=.own b off m c z x):b<H.next:=by
 obtain ⟨_,_,a,_⟩:=hs;obtain ⟨cs,r,hb⟩:=a _ _ _ _ _ _ e;exact d _ _ hb
set_option maxHeartbeats 1000000 in
def Vu (C:Code tab) (o:Wf H) {l:List Int} {x n:Nat} (hs:RowV H s l) (D:l.length=(n+1)+1) (hx:x<n+1) (B:n<=60) :
  Ans tab (.fn vS [s,.int .i64 (x:Int)]) H fun v H'=>RowV H' v (Lin.delR x l)/\Kp H H':=by
 refine bE C.q8 zU fun T hl j k=>?_;have q:IntKind.i64.wrap ((x:Int)+1)=((x+1:Nat):Int):=by rw [wrap_i64] <;> omega
 have r:IntKind.i64.wrap ((x:Int)+2)=((x+2:Nat):Int):=by rw [wrap_i64] <;> omega
 obtain ⟨w1,e,r1⟩:=SlV.hi hs .i64 (x+1) zO;obtain ⟨w2,f,r2⟩:=SlV.lo hs .i64 (x+2) zO;have e:bU 2 s none (some (.int .i64 ((x+1:Nat):Int))) none=some w1:=e;have f:bU 2 s (some (.int .i64 ((x+2:Nat):Int))) none none=some w2:=f;have q0:Bl intE aa H (H.up 9) .nilSl []:=Bl.nil;obtain ⟨v3,a,e3,i,g,w,p3,-⟩:=q0.app (ty2:=aa) (bytes:=32) (id:=H.next+7) zU zK (r1.mono (Sub.bump H 9)) zO (show H.next+7<H.next+9 by omega) (o.fresh (b:=H.next+7) zO) (fun b n h=>by cases h) (by rw [XZ,WU]; omega) (by rw [XZ,WU]; omega);have e3:dq (H.up 9) (H.next+7) 2 32 aa .nilSl w1=some (v3,a):=e3;refine zW (fy hl j k q e e3) ?_;have y:=g.wf;have F:a.next=H.next+9:=w
 obtain ⟨v4,p,e4,d,u,G,-,-⟩:=(i.mono (Sub.bump a 7)).app (ty2:=aa) (bytes:=32) (id:=a.next+5) zU (g.up 7) ((r2.mono g.sub).mono (Sub.bump a 7)) zO (show a.next+5<a.next+7 by omega) (y.fresh (b:=a.next+5) zO) (fun b n h off m c z x t=>by
  have h1:=Wj o r2 t;rcases i with ⟨h2,-⟩ | ⟨b',cells,h2,A,-,E⟩
  ·rw [h2] at h; cases h
  ·rw [h2] at h; cases h; omega) (by rw [XS,WU,XF]; omega) (by rw [XS,WU,XF]; omega)
 have e4:dq (a.up 7) (a.next+5) 2 32 aa v3 w2=some (v4,p):=e4;refine zW (fy hl j k r f e4) ?_;refine ⟨?_,u⟩;have d:=d.sl;rw [XS] at d;unfold Lin.delR;rw [Yj];exact d
set_option maxHeartbeats 1000000 in
def V3 (C:Code tab) (D:Wf H) {l:List (Bool × List Nat)} {z:Bool × List Nat} {p:AV} {n:Nat} (hs:SlV rawE aa H s l) (F:Lb H p z.2) (S:l.length=n+1) (R:n<=60) :
  Ans tab (.fn U4 [s,.int .i64 (n:Int),.agg [.bool z.1,p]]) H fun v H'=>SlV rawE aa H' v (l++[z])/\Kp H H':=by
 have op:=F.one;refine mz C.q6 zU fun T hl g i t=>?_;have B:IntKind.i64.wrap ((n:Int)+1)=((n+1:Nat):Int):=by rw [wrap_i64] <;> omega
 obtain ⟨w1,u,r1⟩:=SlV.hi hs .i64 (n+1) zO;obtain ⟨w2,w,r2⟩:=SlV.lo hs .i64 (n+1) zO;rw [WS zO] at r1;rw [YQ zO] at r2;have u:bU 2 s none (some (.int .i64 ((n+1:Nat):Int))) none=some w1:=u;have w:bU 2 s (some (.int .i64 ((n+1:Nat):Int))) none none=some w2:=w;obtain ⟨X,f⟩:∃ X,X=(H.up 10).put H.next (.cells [.bool z.1,p] aa true):=⟨_,rfl⟩
 have G:Kp H X:=by rw [f]; exact zK
 have L:X.get H.next=some (.cells [.bool z.1,p] aa true):=by rw [f,am]
 have U:X.next=H.next+10:=by rw [f]; rfl
 have M:X.get (H.next+8)=none:=by rw [f,aw zO]; exact D.fresh zO
 obtain ⟨v3,d,e3,y,j,V,p3,-⟩:=Bl.app (E:=rawE) (ty:=aa) (ty2:=aa) (bytes:=32) (id:=H.next+8) (H0:=H) (H:=X) (v:=.nilSl) (l:=[]) Bl.nil zU G (r1.mono G.sub) zO zO M (fun b n h=>by cases h) (by rw [XZ]; omega) (by rw [XZ]; omega);have e3:dq X (H.next+8) 2 32 aa .nilSl w1=some (v3,d):=e3;have K:=p3 _ _ L (fun n h=>by cases h);rw [XS] at y;have Z:=j.wf;refine zW (ip hl g i t (TX (aF z.1) op) B u) ?_;rw [<- f];refine zW (ip hl g i t e3 K (AR (p:=.bool false) (q:=.nilSl) (aF z.1) op)) ?_;obtain ⟨N,e,e4,J,o,W,-⟩:=y.push (ty2:=aa) (bytes:=32) (k:=5) (id:=d.next+3) (id2:=d.next+2) (cs:=[.bool z.1,p]) (a:=z) zU j ⟨p,rfl,F.mono j.sub⟩ zO zO zO zO zO zO zO;have e4:dq ((d.up 5).put (d.next+2) (.cells [.bool z.1,p] aa true)) (d.next+3) 2 32 aa v3 (.own (d.next+2) 0 1 1 2 true)=some (.own (d.next+3) 0 N N 2 false,e):=e4;have Q:=o.wf;refine zW (fy hl e4 g i B w) ?_;obtain ⟨v5,I,r,A,P,Y,-,-⟩:=(J.mono (Sub.bump e 7)).app (ty2:=aa) (bytes:=32) (id:=e.next+5) zU (o.up 7) ((r2.mono o.sub).mono (Sub.bump e 7)) (by have:=o.le; omega) (show e.next+5<e.next+7 by omega) (Q.fresh (b:=e.next+5) zO) (fun b n h off m c z x O=>by
  have h1:=Wj D r2 O;cases h
  have:=j.le
  omega) (by rw [WM]; simp only [W5,XZ]; omega) (by rw [WM]; simp only [W5,XZ]; omega)
 have r:dq (e.up 7) (e.next+5) 2 32 aa (.own (d.next+3) 0 N N 2 false) w2=some (v5,I):=r;refine zW (cn hl g i t r) ?_;rw [Xx] at A;exact ⟨A.sl,P⟩
end
def Vx (m x:Nat):Nat->List Nat
 | 0=>List.replicate (m+1) 0
 | i+1=>(Vx m x i).set i (if i=x then m else if x<i then i-1 else i)
def VI (m x:Nat):∀ i,(Vx m x i).length=m+1
 | 0=>Yu
 | i+1=>by rw [Vx,jL,VI m x i]
def Wk {m x:Nat} (hm:m<=2) (hx:x<m+1):Vx m x (m+1)=Lin.ordX m x:=by
 match m,hm,x,hx with
 | 0,_,0,_=>decide
 | 1,_,0,_=>decide
 | 1,_,1,_=>decide
 | 2,_,0,_=>decide
 | 2,_,1,_=>decide
 | 2,_,2,_=>decide
def V4 {g:GY} {z:Bool × List Nat} {k:Nat} (h:nu 1 [g]=false) (hl:g.2.length<=4) (a:z.2.length<=1):nu 1 [(k,g.2++[z])]=false:=by
 have h2:=((AN h).2 g (WL.2 rfl)).2;unfold nu jN;simp only [List.any_cons,List.any_nil,Bool.or_false,Yz,decide_eq_false_iff_not,W5,XZ,WM,XV,decide_eq_true_eq];refine ⟨zO,zO,fun y hy=>?_⟩;rcases WQ.1 hy with hy | hy
 ·have:=h2 y hy; omega
 ·rw [WL] at hy; subst hy; omega
def VU {H:Heap} {b k N id id2:Nat} {z:Int} {l:List Int} (hb:H.get b=some (.cells (aQ l) aL true)) (h2:H.get id2=some (.cells [.int .i64 z] aL true)) (hc:l.length=N) (e:k<N) (d:N<=1000):dq H id 1 8 aL (.own b 0 k N 1 true) (.own id2 0 1 1 1 true)=some (.own b 0 (k+1) N 1 true,H.put b (.cells (aQ (l.set k z)) aL true)):=by
 have hcl:(aQ l).length=N:=by unfold aQ; rw [Nj,hc]
 have a:aK H 1 1 (.own id2 0 1 1 1 true)=some [.int .i64 z]:=by
  simp only [aK,h2];rw [if_pos ⟨trivial,Jv _,by simp⟩];rfl
 have c:[AV.int .i64 z].all AV.one=true:=rfl;unfold dq;simp only [gJ];rw [a];simp only [cM,hb];rw [if_pos ⟨trivial,zO,zO,trivial,zO⟩,if_pos zO,if_neg zO,if_pos ⟨trivial,c⟩];rw [<- Ot,YL,if_pos zO]
 simp
section
variable {tab:Nat->Option au} {H:Heap} {s1:AV}
def VJ (C:Code tab) (w:Wf H) {v so:AV} {m x e0 f0:Nat} {a:List (List Int × Bool)} {g:List (Nat × List Int)} (hq:PolyOK m e0 f0 a g) (q:f0<=1088) (E:a.length<=26) (D:g.length<=9) (hm:m<=2) (hx:x<m+1) (hp:PolyV H v (m+1) (Lin.consP (m+1) (Lin.gensP (m+1) (a.map Lin.padC))) (Lin.gensP (m+1) (a.map Lin.padC))) (u:pC (gK .i64) aL H so (dL (Lin.ordX m x))) :
  Ans tab (.fn nL [v,so]) H fun r H'=>(∃ k p,r=.tup [.agg [.int .i64 ((m+1:Nat):Int),k,p],.int .i64 0]/\SlV conE t_api_Con H' k (Lin.movK (m+1) (Lin.ordX m x) (Lin.consP (m+1) (Lin.gensP (m+1) (a.map Lin.padC))))/\SlV genE al H' p (Lin.movG (m+1) (Lin.ordX m x) (Lin.consP (m+1) (Lin.gensP (m+1) (a.map Lin.padC)))))/\PolyOK (m+1) (16*(f0+4)) (16*(16*(f0+4)+4)) (Lin.movK (m+1) (Lin.ordX m x) (Lin.consP (m+1) (Lin.gensP (m+1) (a.map Lin.padC)))) (Lin.movG (m+1) (Lin.ordX m x) (Lin.consP (m+1) (Lin.gensP (m+1) (a.map Lin.padC))))/\Kp H H':=by
 have j:=VV hq hm q zO zO;have f:∀ c∈a.map Lin.padC,c.1.length=(m+1)+1/\Lin.Bd (2^f0) c.1:=fun c hc=>by
  obtain ⟨b,hb,rfl⟩:=DT.1 hc;exact ⟨by show (b.1++[0]).length=_; rw [WM,(hq.rowK b hb).1]; rfl,NN (hq.rowK b hb).2⟩
 have d:=Lin.ordX_ord hm hx;have hb:∀ o,Lin.Ord (m+1) o->∀ y∈Lin.movG (m+1) o (Lin.consP (m+1) (Lin.gensP (m+1) (a.map Lin.padC))),Lin.Bd (2^(16*(f0+4))) y.2:=fun o i y hy=>by
  rw [(Lin.move_told i fun c hc=>(f c hc).1).2] at hy;exact (xu zO (fun c hc=>by
   obtain ⟨b,hb,rfl⟩:=DT.1 hc;exact ⟨Lin.mvO_len i _,N6 (f b hb).2⟩) y hy).2
 have l1:=Lin.own_len fun c hc=>(f c hc).1;rw [Nj] at l1;have A:=Lin.own_len (n:=m+1) (l:=(Lin.consP (m+1) (Lin.gensP (m+1) (a.map Lin.padC))).map (Lin.mvC (Lin.ordX m x))) (Lin.mv_rows d);rw [Nj] at A;have l3:=Lin.move_few d j.own;have B:=Lin.grow_few hq.own;have h:∀ y∈Lin.movG (m+1) (Lin.ordX m x) (Lin.consP (m+1) (Lin.gensP (m+1) (a.map Lin.padC))),y.2.length=(m+1)+1/\Lin.Bd (2^(16*(f0+4))) y.2:=fun y hy=>⟨((Lin.mov_own d).valid y hy).1,hb _ d y hy⟩
 have z:=CM (n:=m+1) zO h;have ok:PolyOK (m+1) (16*(f0+4)) (16*(16*(f0+4)+4)) (Lin.movK (m+1) (Lin.ordX m x) (Lin.consP (m+1) (Lin.gensP (m+1) (a.map Lin.padC)))) (Lin.movG (m+1) (Lin.ordX m x) (Lin.consP (m+1) (Lin.gensP (m+1) (a.map Lin.padC)))):=⟨Lin.mov_own d,zO,.inr ⟨show (Lin.movK (m+1) (Lin.ordX m x) (Lin.consP (m+1) (Lin.gensP (m+1) (a.map Lin.padC)))).length<=1022 by unfold Lin.movK; omega,zO⟩,zO,fun c hc=>(z c hc).2,fun y hy=>(h y hy).2,zO,zO⟩
 refine (CJ C w hp j zO u hb zO).mono ?_;rintro r H' ⟨e,s⟩;refine ⟨?_,ok,s⟩;rcases e with ⟨F,e',-,e⟩ | ⟨t,-⟩
 ·have e':=NT e';subst e';exact vA e ok
 ·exact absurd ⟨_,rfl,d⟩ t
set_option maxHeartbeats 16000000 in
def law24_DimsPoints (C:Code tab) (hw:Wf H) {d x:Int} {l:List wA} {O:Bool × List Nat} {pn:AV} {D:GY} {dJ:List AV} (I:SlV conQE t_api_Con H s1 l) (fL:genQE.R H dJ D) (eO:Lb H pn O.2) (gl:∀ r∈l,my r.1) (gg:my D.2/\D.1<256) (fF:Em O) (_ : -9223372036854775808<=d/\d<9223372036854775808) (_ : -9223372036854775808<=x/\x<9223372036854775808) :
  Ans tab (.fn ol [.int .i64 d,s1,.int .i64 x,.agg dJ,.agg [.bool O.1,pn]]) H fun v H'=>v=.bool true/\Kp H H':=by
 obtain ⟨wg,rfl,cT⟩:=fL;have ow:=cT.one;have gf:=eO.one;refine B0 C.q0 rfl rfl zU fun T hl g=>?_;have hl:T.length=232:=hl;have aW:c_facetroomlaw24_DimsPoints.results=[(10,none)]:=rfl;have g0:ad T 0=.int .i64 d:=g 0 (by simp);have g1:ad T 1=s1:=g 1 (by simp);have g2:ad T 2=.int .i64 x:=g 2 (by simp);have g3:ad T 3=.agg [.int .u8 (D.1:Int),wg]:=g 3 (by simp);have g4:ad T 4=.agg [.bool O.1,pn]:=g 4 (by simp);clear g;refine bf ?_;refine zW (fy hl g3 g4 (GM ow) (TX (aF O.1) gf) @aD) ?_;obtain ⟨H1,br⟩:∃ X,X=((H.up 3).put H.next (.cells [.int .u8 (D.1:Int),wg] al true)).put (H.next+1) (.cells [.bool O.1,pn] aa true):=⟨_,rfl⟩
 have c8:Kp H H1:=by rw [br]; exact zK
 have cg:H1.get H.next=some (.cells [.int .u8 (D.1:Int),wg] al true):=by rw [br,aw zO,am]
 have cm:H1.get (H.next+1)=some (.cells [.bool O.1,pn] aa true):=by rw [br,am]
 have w1:=c8.wf;rw [<- br];clear br;obtain ⟨GB,er⟩:∃ q,q=H.next:=⟨_,rfl⟩
 obtain ⟨NB,es⟩:∃ q,q=H.next+1:=⟨_,rfl⟩
 rw [<- es] at cm;rw [<- es,<- er];rw [<- er] at cg;refine ka (fun T'=>T'.length=232/\ad T' 0=.int .i64 d/\ad T' 1=s1/\ad T' 2=.int .i64 x/\ad T' 8=.ptr GB 0/\ad T' 9=.ptr NB 0) (zV (aZ hl g0 g1 g2)) ?_;clear hl g0 g1 g2 g3 g4;rintro T ⟨hl,g0,g1,g2,t,t9⟩;refine bf ?_;refine zW hl ?_;refine AnsH.eq (F2 C zF) fun H2 fR=>?_;obtain ⟨k2,_,w2⟩:=zT H1 zK fR;refine zW (aB hl @aD) ?_;refine bf ?_;refine zW (aC hl g0 g1) ?_;refine AnsH.use (Im C zF ((I.mono (c8.trans k2).sub).mono (zG H2)) gl) ?_;rintro v3 H3 ⟨hs,c0⟩;obtain ⟨y,u,z,b,c6,ou,oz⟩:=Lq hs;obtain ⟨k3,_,w3⟩:=zT H2 zK c0;have e3:Emp H3 H2.next (H2.next+9):=(Emp.start w2 (k:=9)).keep c0
 have n3:=e3.1;have fA:=e3.2 (H2.next+6) zO zO;obtain ⟨G3,bq⟩:∃ G3,G3=(H3.put (H2.next+6) (.cells [.int .i64 0,.nilSl,.nilSl] aj true)).put (H2.next+6) (.cells [.int .i64 y,u,z] aj true):=⟨_,rfl⟩
 have e6:Kp H2 G3:=by rw [bq]; exact zK
 have gm:Sub H3 G3:=by rw [bq]; exact (aH fA).put fA _
 have gs:=e6.wf;have df:G3.get (H2.next+6)=some (.cells [.int .i64 y,u,z] aj true):=by rw [bq,am]
 refine zW (aZ hl c6 @oQ @aD) ?_;rw [<- bq];clear bq;obtain ⟨P,hP⟩:∃ P,P=H2.next+6:=⟨_,rfl⟩
 rw [<- hP] at df;rw [<- hP];have k13:Kp H1 G3:=k2.trans e6;have gU:=k13.le;have b3:Kp H G3:=c8.trans k13;have gT:=b3.le;have cj:=k13.get cg;have dU:=k13.get cm;have fU:Pm G3 v3 d:=by
  rcases hs with h | ⟨n,p,K,G,h1,h2,h3,h4,h5⟩
  ·exact .inl h
  ·exact .inr ⟨n,p,K,G,h1,h2,h3,h4.mono gm,h5⟩
 clear hs c0 e3 fA n3 cg cm;refine ka (fun T'=>T'.length=232/\ad T' 2=.int .i64 x/\ad T' 8=.ptr GB 0/\ad T' 9=.ptr NB 0/\ad T' 11=.bool true/\ad T' 12=.ptr P 0/\ad T' 13=.bool b) (zV (aZ hl g2 t t9)) ?_;clear hl g0 g1 g2 t t9;rintro T ⟨hl,g2,t,t9,bF,j,fk⟩;refine bf ?_;rcases fU with ⟨_,h,-⟩ | ⟨n,p,K,G,rfl,eM,h,⟨vc,vg,fX,cq,cF⟩,W,lK,lG⟩
 ·rw [c6] at h;cases h;have gN:=b3.le;refine zW (fy hl bF j fk @qU aW) ?_;exact zK
 rw [c6] at h;cases h;cases fX;have hO:=cq.one;have hK:=cF.one;have fH:=AR (p:=.int .u8 0) (q:=.nilSl) (bi .u8 (D.1:Int)) ow;have tg:bN [AV.int .u8 (D.1:Int),wg] 0 (some 2)=some (.agg [.int .u8 (D.1:Int),wg]):=rfl;refine zW (ip hl t bF fk cj fH tg) ?_;have f4:G3.get (G3.next+4)=none:=gs.fresh zO;refine AnsH.eq (yT C (ls:=[D]) (n:=1) zF (Wt (am _ _ _) (((cT.mono b3.sub).mono (Sub.bump G3 17)).mono (aH (show (G3.up 17).get (G3.next+4)=none from f4)))) zO) fun H4 eG=>?_;obtain ⟨k4,_,w4⟩:=zT G3 zK eG;have bD:=b3.trans k4;have gO:=bD.le;cases b2:nu 1 [D] with
 | true =>
  refine zW (aZ hl bF @qU aW) ?_;exact zK
 | false =>
 have bp:=k4.get dU;have bQ:=k4.get cj;have bz:=eO.mono bD.sub;have tn:bN [AV.bool O.1,pn] 1 none=some pn:=rfl;by_cases gJ:1<O.2.length
 ·have c7:(1:Int)<(O.2.length:Int):=zO;refine zW (lh hl t9 bF bp tn bz.lenV c7 @qU aW) ?_;exact zK
 have c7:¬ (1:Int)<(O.2.length:Int):=zO;refine zW (lp hl t9 bF bp tn bz.lenV c7 @aD) ?_;have b4:=k4;obtain ⟨X4,cP⟩:∃ X,X=H4:=⟨_,rfl⟩
 rw [<- cP] at b4 bp bQ bz w4 bD;rw [<- cP];clear cP;have cU:=cT.mono bD.sub;have hj:=w4;have K4:=bD;have dg:=b4.get df;have cr:=cq.mono b4.sub;have cH:=cF.mono b4.sub;clear df cq cF cj dU eG f4;refine ka (fun T'=>T'.length=232/\ad T' 2=.int .i64 x/\ad T' 8=.ptr GB 0/\ad T' 9=.ptr NB 0/\ad T' 12=.ptr P 0) (zV (cn hl g2 t t9 j)) ?_;clear hl g2 t t9 j;rintro T ⟨hl,s,t,t9,j⟩;refine bf ?_;refine zW (fy hl t j dg bQ tg) ?_;refine AnsH.eq (VN C (n:=n) zF ⟨u,z,rfl,cr.mono (zG X4),cH.mono (zG X4)⟩ W (cU.mono (zG X4)) gg.1 b2) fun X5 eJ=>?_;have aN:Kp X4 X5:=Kp.trans zK eJ;have K5:=K4.trans aN;have gx:=K5.wf;have fc:=aN.get dg;have d4:=cr.mono aN.sub;have ek:=cH.mono aN.sub;have bR:=aN.get bQ;have dV:=aN.get bp;have eA:=cU.mono aN.sub;have eP:=bz.mono aN.sub;refine zW (aB hl @aD) ?_;clear dg cr cH bQ bp cU bz eJ;refine ka (fun T'=>T'.length=232/\ad T' 2=.int .i64 x/\ad T' 8=.ptr GB 0/\ad T' 9=.ptr NB 0/\ad T' 12=.ptr P 0/\ad T' 14=.bool (decide (jQ n [D]=0) && Lin.inP [(D.1,D.2.map fV)] K)/\ad T' 15=.int .i64 (jQ n [D])) (zV (cn hl s t t9 j)) ?_;clear hl s t t9 j;rintro T ⟨hl,s,t,t9,j,E,dp⟩;refine bf ?_;have tk:bN [AV.int .u8 (D.1:Int),wg] 0 none=some (.int .u8 (D.1:Int)):=rfl;by_cases q1:jQ n [D]=0
 case neg =>
  have f8:=K5.le;refine zW (cn hl dp q1 @qU aW) ?_;exact zK
 by_cases q2:(D.1:Int)=3
 case neg =>
  have f8:=K5.le;refine zW (lh hl t dp q1 bR tk q2 @qU aW) ?_;exact zK
 refine zW (lp hl t dp q1 bR tk q2 @aD) ?_;have ec:D.1=3:=zO;rcases V6 (n:=n) gg.1 b2 zO with h | ⟨bd,gI,bY,fO⟩
 ·exact absurd q1 h
 obtain ⟨r,hr⟩:∃ r,r=D.2.map fV:=⟨_,rfl⟩
 have bd:Lin.ValidG n [(D.1,D.2.map fV)]:=bd;have bY:Lin.Bd (2^64) (D.2.map fV):=bY;rw [ec,<- hr] at bd;rw [<- hr] at bY;have bA:r.length=n+1:=(bd _ (WL.2 rfl)).1;have eS:0<Lin.hd1 r:=(bd _ (WL.2 rfl)).2.1 rfl;have fK:D.2.length=n+1:=by rw [hr,Nj] at bA; exact bA
 have hG:(decide (jQ n [D]=0) && Lin.inP [(D.1,D.2.map fV)] K)=Lin.inP [(3,r)] K:=by rw [decide_eq_true q1,ec,<- hr]; rfl
 rw [hG] at E;obtain ⟨ae,cX⟩:∃ q,q=Lin.inP [(3,r)] K:=⟨_,rfl⟩
 rw [<- cX] at E;obtain ⟨V,cR⟩:∃ X,X=X5.up 7:=⟨_,rfl⟩
 rw [<- cR];have aO:Kp X5 V:=by rw [cR]; exact (Kp.refl gx).up 7
 clear cR;have K6:=K5.trans aO;have gy:=K6.wf;have dh:=aO.get fc;have cs:=d4.mono aO.sub;have cI:=ek.mono aO.sub;have dS:=aO.get bR;have dW:=aO.get dV;have cV:=eA.mono aO.sub;have eQ:=eP.mono aO.sub;have eV:RowV V wg r:=by rw [hr]; exact SlV.int cV fO
 clear fc d4 ek bR dV eA eP;refine ka (fun T'=>T'.length=232/\ad T' 2=.int .i64 x/\ad T' 8=.ptr GB 0/\ad T' 9=.ptr NB 0/\ad T' 12=.ptr P 0/\ad T' 14=.bool ae) (zV (fy hl s t t9 j E)) ?_;clear hl s t t9 j E;rintro T ⟨hl,s,t,t9,j,E⟩;refine bf ?_;refine zW (ip hl s t t9 j E dh) ?_;refine AnsH.use (vQ C (n:=n) (f:=64) zF ⟨u,z,rfl,cs.mono (zG V),cI.mono (zG V)⟩ W eM zO zO zO) ?_;rintro _ H7 ⟨⟨dt,du,rfl,cc,cA⟩,b1⟩;obtain ⟨k7,_,w7⟩:=zT V zK b1;have n7:V.next+8<=H7.next:=b1.le
 have gV:=cc.one;have gW:=cA.one;have f7:H7.get (V.next+5)=none:=b1.free (show V.next+5<V.next+8 by omega) (gy.fresh (b:=V.next+5) zO);obtain ⟨X7,bw⟩:∃ Y,Y=(H7.put (V.next+5) (.cells [.int .i64 0,.nilSl,.nilSl] aj true)).put (V.next+5) (.cells [.int .i64 ((n+1:Nat):Int),dt,du] aj true):=⟨_,rfl⟩
 have s7:Sub H7 X7:=by rw [bw]; exact (aH f7).put f7 _
 have aM:Kp V X7:=by rw [bw]; exact zK
 have a1:X7.get (V.next+5)=some (.cells [.int .i64 ((n+1:Nat):Int),dt,du] aj true):=by rw [bw,am]
 refine zW (aC hl @oQ @aD) ?_;rw [<- bw];clear bw;obtain ⟨A,hA⟩:∃ Y,Y=V.next+5:=⟨_,rfl⟩
 rw [<- hA] at a1;rw [<- hA];have K7:Kp H X7:=K6.trans aM;have hk:=K7.wf;have cb:=cc.mono s7;have cz:=cA.mono s7;have bl:=aM.get dh;have d5:=cs.mono aM.sub;have el:=cI.mono aM.sub;have a8:=aM.get dS;have a9:=aM.get dW;have cW:=cV.mono aM.sub;have c3:=eQ.mono aM.sub;have eW:=eV.mono aM.sub;clear dh cs cI dS dW cV eQ eV b1 f7 n7 cc cA hA;refine ka (fun T'=>T'.length=232/\ad T' 2=.int .i64 x/\ad T' 8=.ptr GB 0/\ad T' 9=.ptr NB 0/\ad T' 12=.ptr P 0/\ad T' 14=.bool ae/\ad T' 16=.ptr A 0/\ad T' 17=.int .i64 0) (zV (fy hl s t t9 j E)) ?_;clear hl s t t9 j E;rintro T ⟨hl,s,t,t9,j,E,a3,bn⟩;have gd:=Jo W eM zO zO zO;have tw:bN [AV.int .u8 (D.1:Int),wg] 1 none=some wg:=rfl;have tz:bN [AV.bool O.1,pn] 0 (some 2)=some (.agg [.bool O.1,pn]):=rfl;have gH:=(AN b2).2 D (WL.2 rfl);have fM:=V4 (z:=O) (k:=3) b2 zO zO;have fE:my (D.2++[O]):=⟨fun y hy=>by
  rcases WQ.1 hy with hy | hy
  ·exact gg.1.1 y hy
  ·rw [WL] at hy; subst hy; exact fF,by rw [WM]; exact WK (by simp only [W5,XZ]; omega:_<=5) zU⟩
 refine bf ?_;refine aJ ?_;refine zD (mo hl t t9 j a3 bl a1 a8 a9 tw tz) ?_;refine AnsH.use (V3 C (n:=n) (z:=O) (p:=pn) zF (cW.mono (zG X7)) (c3.mono (zG X7)) fK zO) ?_;rintro v8 H8 ⟨e2,eH⟩;obtain ⟨k8,_,w8⟩:=zT X7 zK eH;have hD:=e2.one;have dj:=k8.get bl;have da:=k8.get a1;have cl:=k8.get a8;have cp:=k8.get a9;have dM:=EK (x:=.int .u8 0) (y:=.nilSl) (bi .u8 3) hD;refine zD (Ug hl t t9 j a3 bl a1 a8 a9 dj da cl cp tw tz dM) ?_;refine AnsH.eq (VN C (n:=n+1) (r:=(3,D.2++[O])) w8 ⟨dt,du,rfl,cb.mono k8.sub,cz.mono k8.sub⟩ gd e2 fE fM) fun X8 eK=>?_;have ah:Kp X7 X8:=k8.trans eK;have K8:=K7.trans ah;have gz:=K8.wf;have di:=ah.get bl;have d6:=d5.mono ah.sub;have em:=el.mono ah.sub;have c9:=ah.get a1;have dP:=cb.mono ah.sub;have hz:=cz.mono ah.sub;have ck:=ah.get a8;have co:=ah.get a9;have eB:=cW.mono ah.sub;have eR:=c3.mono ah.sub;have eX:=eW.mono ah.sub;refine zD (Te hl t t9 j a3 bl a1 a8 a9 dj da cl cp di c9 ck co tw tz dM @aD) ?_;have eb:jQ ((n+1:Nat):Int) [(3,D.2++[O])]=0->(decide (jQ ((n+1:Nat):Int) [(3,D.2++[O])]=0) && Lin.inP [(3,(D.2++[O]).map fV)] (Lin.consP (n+1) (Lin.gensP (n+1) (K.map Lin.padC))))=ae:=fun h=>by
  rw [decide_eq_true h,cX,<- Lin.grow_pt W.own.rows bA eS (fV O),hr];simp only [Xd,SA,WF,Bool.true_and]
 clear bl d5 el a1 cb cz a8 a9 cW c3 eW eK eH dj da cl cp;obtain ⟨dO,ew⟩:∃ q,q=jQ ((n+1:Nat):Int) [(3,D.2++[O])]:=⟨_,rfl⟩
 obtain ⟨ft,ev⟩:∃ q,q=(decide (jQ ((n+1:Nat):Int) [(3,D.2++[O])]=0) && Lin.inP [(3,(D.2++[O]).map fV)] (Lin.consP (n+1) (Lin.gensP (n+1) (K.map Lin.padC)))):=⟨_,rfl⟩
 rw [<- ev,<- ew] at eb;have eD:=ev;have eE:=ew;refine ka (fun T'=>T'.length=232/\ad T' 2=.int .i64 x/\ad T' 8=.ptr GB 0/\ad T' 9=.ptr NB 0/\ad T' 12=.ptr P 0/\ad T' 14=.bool ae/\ad T' 16=.ptr A 0/\ad T' 17=.int .i64 0/\ad T' 18=.bool ft/\ad T' 19=.int .i64 dO) (zV (pD hl s t t9 j E a3 bn eD eE)) ?_;clear hl s t t9 j E a3 bn eD eE;rintro T ⟨hl,s,t,t9,j,E,a3,bn,dq,dr⟩;have bx:∀ b:Bool,(b == b)=true:=fun b=>by cases b <;> rfl
 refine cZ (fun _ X=>X=X8.up 11) rfl ?_ ?_
 ·by_cases qc:dO=0
  ·rw [eb qc] at dq;exact zV (lp hl E bn dq dr qc bx @aV)
  ·exact zV (cn hl bn dr qc @aV)
 rintro T1 R I eu;have aq:T1.length=232:=I.len.trans hl;have ak:Kp X8 R:=by rw [eu]; exact (Kp.refl gz).up 11
 clear eu;have K9:Kp H R:=K8.trans ak;have gA:=K9.wf;have b7:=ak.get di;have bT:=d6.mono ak.sub;have bU:=em.mono ak.sub;have gj:=ak.get c9;have fu:=dP.mono ak.sub;have fB:=hz.mono ak.sub;have dT:=ak.get ck;have fx:=ak.get co;have eC:=eB.mono ak.sub;have fY:=eR.mono ak.sub;have eY:=eX.mono ak.sub;have u2:ad T1 2=.int .i64 x:=(I.at_ 2 zU).trans s;have u8:ad T1 8=.ptr GB 0:=(I.at_ 8 zU).trans t;have av:ad T1 12=.ptr P 0:=(I.at_ 12 zU).trans j;have fm:ad T1 14=.bool ae:=(I.at_ 14 zU).trans E;clear di d6 em c9 dP hz ck co eB eR eX;refine ka (fun T'=>T'.length=232/\ad T' 2=.int .i64 x/\ad T' 8=.ptr GB 0/\ad T' 12=.ptr P 0/\ad T' 14=.bool ae) ⟨aq,u2,u8,av,fm⟩ ?_;clear hl aq s t t9 j E a3 bn dq dr u2 u8 av fm I;clear gj fu fB fx fY;rintro T ⟨hl,s,t,j,E⟩;by_cases hx:0<=x/\x<(n:Int)
 case neg =>
  refine bf ?_;refine zW (aZ hl s j b7) ?_;refine AnsH.use (CK C (n:=n) (x:=x) (m2:=0) (m3:=0) zF ⟨u,z,rfl,bT.mono (zG R),bU.mono (zG R)⟩ W zO (fun y e hy=>absurd ⟨zO,zO⟩ hx) zO (fun y e hy=>absurd ⟨zO,zO⟩ hx) zO (fun y e hy=>absurd ⟨zO,zO⟩ hx)) ?_;rintro _ a5 ⟨hd,aU⟩;obtain ⟨e5,_,gq⟩:=zT R zK aU;have e7:R.next+9<=a5.next:=aU.le
  have gM:=K9.trans e5;have l9:=K9.le;rcases hd with ⟨h1,h2,-⟩ | ⟨-,rfl⟩
  ·exact absurd ⟨h1,h2⟩ hx
  refine zW (aC hl @oQ @aD) ?_;refine bf ?_;refine zW (aC hl @qU aW) ?_;exact zK
 case pos =>
 obtain ⟨o,rfl⟩:∃ o:Nat,x=(o:Int):=⟨x.toNat,zO⟩
 obtain ⟨m,rfl⟩:∃ m,n=m+1:=⟨n-1,zO⟩
 have ag:o<m+1:=zO;have bg:m<=2:=zO;obtain ⟨ho,ga,f9⟩:=za W bg ag zO lG;refine bf ?_;refine zW (fy hl s t j E b7) ?_;refine AnsH.use (EB C (n:=m) (x:=o) zF ⟨u,z,rfl,bT.mono (zG R),bU.mono (zG R)⟩ W bg zO lG ag) ?_;rintro _ a5 ⟨⟨bI,bK,rfl,cw,cN⟩,aU⟩;obtain ⟨e5,_,gq⟩:=zT R zK aU;have e7:R.next+9<=a5.next:=aU.le
 have hI:=cw.one;have hJ:=cN.one;have cx:a5.get (R.next+6)=none:=aU.free (show R.next+6<R.next+9 by omega) (gA.fresh (b:=R.next+6) zO);obtain ⟨a6,bt⟩:∃ Y,Y=(a5.put (R.next+6) (.cells [.int .i64 0,.nilSl,.nilSl] aj true)).put (R.next+6) (.cells [.int .i64 (m:Int),bI,bK] aj true):=⟨_,rfl⟩
 have fh:Sub a5 a6:=by rw [bt]; exact (aH cx).put cx _
 have aX:Kp R a6:=by rw [bt]; exact zK
 have dk:a6.get (R.next+6)=some (.cells [.int .i64 (m:Int),bI,bK] aj true):=by rw [bt,am]
 refine zW (aC hl @oQ @aD) ?_;rw [<- bt];clear bt;obtain ⟨Q,hQ⟩:∃ Y,Y=R.next+6:=⟨_,rfl⟩
 rw [<- hQ] at dk;rw [<- hQ];have dz:Kp H a6:=K9.trans aX;have gt:=dz.wf;have d7:=cw.mono fh;have eo:=cN.mono fh;have e9:=aX.get b7;have dX:=bT.mono aX.sub;have ef:=bU.mono aX.sub;have dR:=aX.get dT;have ex:=eC.mono aX.sub;have eT:=eY.mono aX.sub;clear b7 bT bU dT eC eY aU cx e7 cw cN hQ;refine ka (fun T'=>T'.length=232/\ad T' 2=.int .i64 (o:Int)/\ad T' 8=.ptr GB 0/\ad T' 12=.ptr P 0/\ad T' 14=.bool ae/\ad T' 20=.ptr Q 0/\ad T' 21=.int .i64 0) (zV (cn hl s t j E)) ?_;clear hl s t j E;rintro T ⟨hl,s,t,j,E,J,ds⟩;refine bf ?_;refine zW (aC hl ds @aD) ?_;obtain ⟨bo,cO⟩:∃ X,X=a6.up 2:=⟨_,rfl⟩
 try rw [<- cO]
 have ax:Kp a6 bo:=by rw [cO]; exact (Kp.refl gt).up 2
 clear cO;have dA:Kp H bo:=dz.trans ax;have hb:=dA.wf;have fa:=ax.get e9;have dY:=dX.mono ax.sub;have eg:=ef.mono ax.sub;have bm:=ax.get dk;have ct:=d7.mono ax.sub;have cJ:=eo.mono ax.sub;have a7:=ax.get dR;have ey:=ex.mono ax.sub;have c5:=eT.mono ax.sub;clear e9 dX ef dk d7 eo dR ex eT;refine ka (fun T'=>T'.length=232/\ad T' 2=.int .i64 (o:Int)/\ad T' 8=.ptr GB 0/\ad T' 12=.ptr P 0/\ad T' 14=.bool ae/\ad T' 20=.ptr Q 0) (zV (ip hl s t j E J ds)) ?_;clear hl s t j E J ds;rintro T ⟨hl,s,t,j,E,J⟩;have cS:Lin.ValidG m [(3,Lin.delR o r)]:=Lin.del_valid (n:=m) (x:=o) bd ag;have fG:Lin.Bd (2^64) (Lin.delR o r):=OO bY;refine bf ?_;refine aJ ?_;refine zD (ip hl s t J bm a7 tw) ?_;refine AnsH.use (Vu C (n:=m) (x:=o) zF (c5.mono (zG bo)) bA ag zO) ?_;rintro g8 gC ⟨eZ,eF⟩;obtain ⟨bE,_,gr⟩:=zT bo zK eF;have hE:=eZ.one;have dl:=bE.get bm;have ci:=bE.get a7;have dK:=EK (x:=.int .u8 0) (y:=.nilSl) (bi .u8 3) hE;refine zD (pD hl s t J bm a7 dl ci tw dK) ?_;refine AnsH.eq (Vm C (n:=m) (k:=3) (e':=64) gr ⟨bI,bK,rfl,ct.mono bE.sub,cJ.mono bE.sub⟩ ho eZ cS zU fG zO) fun ca eI=>?_;have ay:Kp bo ca:=bE.trans eI;have dB:=dA.trans ay;have gu:=dB.wf;have bj:=ay.get fa;have dZ:=dY.mono ay.sub;have ba:=eg.mono ay.sub;have a2:=ay.get bm;have d8:=ct.mono ay.sub;have bb:=cJ.mono ay.sub;have ch:=ay.get a7;have ez:=ey.mono ay.sub;have eU:=c5.mono ay.sub;refine zD (E0 hl s t J bm a7 dl ci a2 ch tw dK @aD) ?_;clear fa dY eg bm ct cJ a7 ey c5 eI eF dl ci;refine ka (fun T'=>T'.length=232/\ad T' 2=.int .i64 (o:Int)/\ad T' 8=.ptr GB 0/\ad T' 12=.ptr P 0/\ad T' 14=.bool ae/\ad T' 20=.ptr Q 0/\ad T' 22=.bool (Lin.inP [(3,Lin.delR o r)] (Lin.consP m (G.map (Lin.delG o))))/\ad T' 23=.int .i64 0) (zV (fy hl s t j E J)) ?_;clear hl s t j E J;rintro T ⟨hl,s,t,j,E,J,t22,bG⟩;have aT:ae=true->Lin.inP [(3,Lin.delR o r)] (Lin.consP m (G.map (Lin.delG o)))=true:=fun h=>Lin.drop_pt W.own ag bA eS (by rw [<- cX]; exact h);have eN:=Lin.drop_none W.own ag;have aR:∀ a b c:AV,bN [a,b,c] 2 none=some c:=fun _ _ _=>rfl;refine cZ (fun _ X=>X=ca.up 20) rfl ?_ ?_
 ·by_cases qg:G=[]
  ·have l1:(G.length:Int)=0:=by rw [qg]; rfl
   have l2:((Lin.gensP m (Lin.consP m (G.map (Lin.delG o)))).length:Int)=0:=by rw [eN.2 qg]; rfl
   cases ae with
   | true =>
    rw [aT rfl] at t22;exact zV (ME hl j E J t22 bG bj a2 aR ba.lenV bb.lenV l1 l2 bx @aV)
   | false =>
    exact zV (ME hl j E J t22 bG bj a2 aR ba.lenV bb.lenV l1 l2 bx @aV)
  ·have l1:¬ (G.length:Int)=0:=by have:=List.length_pos_iff.2 qg; omega
   have l2:¬ ((Lin.gensP m (Lin.consP m (G.map (Lin.delG o)))).length:Int)=0:=by have:=List.length_pos_iff.2 (fun h=>qg (eN.1 h)); omega
   cases ae with
   | true =>
    rw [aT rfl] at t22;exact zV (ME hl j E J t22 bG bj a2 aR ba.lenV bb.lenV l1 l2 bx @aV)
   | false =>
    exact zV (ME hl j E J t22 bG bj a2 aR ba.lenV bb.lenV l1 l2 bx @aV)
 rintro T1 bP I et;have aq:T1.length=232:=I.len.trans hl;have aA:Kp ca bP:=by rw [et]; exact (Kp.refl gu).up 20
 clear et;have dC:Kp H bP:=dB.trans aA;have he:=dC.wf;have dd:=aA.get bj;have d0:=dZ.mono aA.sub;have cE:=ba.mono aA.sub;have dm:=aA.get a2;have cu:=d8.mono aA.sub;have cL:=bb.mono aA.sub;have fw:=aA.get ch;have fN:=ez.mono aA.sub;have fZ:=eU.mono aA.sub;have u2:ad T1 2=.int .i64 (o:Int):=(I.at_ 2 zU).trans s;have av:ad T1 12=.ptr P 0:=(I.at_ 12 zU).trans j;have bH:ad T1 20=.ptr Q 0:=(I.at_ 20 zU).trans J;clear bj dZ ba a2 d8 bb ch ez eU;refine ka (fun T'=>T'.length=232/\ad T' 2=.int .i64 (o:Int)/\ad T' 12=.ptr P 0/\ad T' 20=.ptr Q 0) ⟨aq,u2,av,bH⟩ ?_;clear hl aq s t j E J t22 bG u2 av bH I;clear fw fN fZ;rintro T ⟨hl,s,j,J⟩;refine cZ (fun _ X=>Kp bP X) rfl ?_ ?_
 ·refine zW hl ?_;refine bk bP [24] (fun k vs _=>∃ i:Nat,vs=[.int .i64 (i:Int)]/\i+k=G.length) G.length (by simp only [jL]; exact hl) rfl zK ⟨0,by refine zW hl ?_; rfl,zO⟩ ?_;rintro k T2 X af bh ao ⟨i,hv,fP⟩;have wX:=ao.wf;simp only [SA,WF,Ud,and_true] at hv;have y2:ad T2 2=.int .i64 (o:Int):=(bh.at_ 2 zU).trans (zV (aB hl s));have aS:ad T2 12=.ptr P 0:=(bh.at_ 12 zU).trans (zV (aB hl j));have gB:ad T2 20=.ptr Q 0:=(bh.at_ 20 zU).trans (zV (aB hl J));have pX:=ao.get dd;have qX:=ao.get dm;have gX:=cE.mono ao.sub;by_cases hi:i<G.length
  ·have aK:(i:Int)<(G.length:Int):=zO;have ei:IntKind.i64.wrap ((i:Int)+1)=((i+1:Nat):Int):=by rw [wrap_i64] <;> omega
   obtain ⟨_,⟨w,rfl,bC⟩,-,L1,L⟩:=gX.at (zh hi);have L0:bc X none (az z (i*2))=some (.int .u8 (G[i].1:Int)):=L1 0 _ rfl;have L1:bc X none (az z (i*2+1))=some w:=L1 1 _ rfl;have ix:cG 2 z (.int .i64 (i:Int))=some (az z (i*2)):=SlV.idx gX .i64 i hi;have c4:=W.rowG _ (EL hi);have e4:=W.own.valid _ (EL hi);have eL:=W.kinds _ (EL hi);have aT:=Lin.drop_gen W.own ag (EL hi);have g5:=bC.one;have bC:RowV X w G[i].2:=bC;obtain ⟨gi,fJ⟩:∃ q,q=G[i]:=⟨_,rfl⟩
   rw [<- fJ] at L0 c4 e4 eL aT bC;have cS:Lin.ValidG m [(gi.1,Lin.delR o gi.2)]:=Lin.del_valid (n:=m) (x:=o) (G:=[gi]) (fun y hy=>by rw [WL] at hy; subst hy; exact e4) ag;have f0:BI 0 (az z (i*2))=some (az z (i*2)):=gX.fa zO 0 (i*2);have f1:BI 1 (az z (i*2))=some (az z (i*2+1)):=gX.fa zO 1 (i*2);refine zW (BL af hv y2 aS pX aR gX.lenV hi aK ix f1 L1) ?_;refine AnsH.use (Vu C (n:=m) (x:=o) zF (bC.mono (zG X)) c4.1 ag zO) ?_;rintro v5 H5 ⟨hC,fS⟩;obtain ⟨k5,_,w5⟩:=zT X zK fS;have gh:=hC.one;have ff:=k5.get pX;have fg:=k5.get qX;have L5:bc H5 none (az z (i*2))=some (.int .u8 (gi.1:Int)):=bV k5.sub L0;have f6:=ao.trans k5;refine zW (aB af hv) ?_;refine EX (fun T'=>T'.length=232/\ad T' 12=.ptr P 0/\ad T' 20=.ptr Q 0/\ad T' 24=.int .i64 (i:Int)/\ad T' 25=v5) (zV (aZ af hv aS gB)) ?_;rintro T3 ⟨hp,fq,fr,z24,z25⟩;refine aJ ?_;have b5:=EK (x:=.int .u8 0) (y:=.nilSl) (bi .u8 (gi.1:Int)) gh;refine zD (BL hp fq fr z24 z25 ff fg aR ix f0 L5 b5) ?_;refine AnsH.eq (Vm C (n:=m) (k:=gi.1) (e':=64) zF ⟨bI,bK,rfl,((cu.mono ao.sub).mono k5.sub).mono (zG H5),((cL.mono ao.sub).mono k5.sub).mono (zG H5)⟩ ho (hC.mono (zG H5)) cS eL (OO c4.2) zO) fun H6 fT=>?_;have aT:Lin.inP [(gi.1,Lin.delR o gi.2)] (Lin.consP m (G.map (Lin.delG o)))=true:=aT;rw [aT];obtain ⟨k6,_,_⟩:=zT H5 zK fT;have hH:=f6.trans k6;have w6:=hH.wf;refine zD (BL hp fq fr z24 z25 ff fg aR ix f0 L5 b5) ?_;refine zW (aC hp z24 ei) ?_;exact ⟨zK,k-1,zO,i+1,rfl,zO⟩
  ·have aK:¬ (i:Int)<(G.length:Int):=zO;refine zW (pD af hv aS pX aR gX.lenV hi aK @aV @pt) ?_;exact zK
 rintro T1 Z I aY;have aq:T1.length=232:=I.len.trans (zV hl);have dD:Kp H Z:=dC.trans aY;have gv:=dD.wf;have de:=aY.get dd;have d1:=d0.mono aY.sub;have eh:=cE.mono aY.sub;have dn:=aY.get dm;have cv:=cu.mono aY.sub;have cM:=cL.mono aY.sub;have u2:ad T1 2=.int .i64 (o:Int):=(I.at_ 2 zU).trans (zV (aB hl s));have av:ad T1 12=.ptr P 0:=(I.at_ 12 zU).trans (zV (aB hl j));have bH:ad T1 20=.ptr Q 0:=(I.at_ 20 zU).trans (zV (aB hl J));refine ka (fun T'=>T'.length=232/\ad T' 2=.int .i64 (o:Int)/\ad T' 12=.ptr P 0/\ad T' 20=.ptr Q 0) ⟨aq,u2,av,bH⟩ ?_;clear dd d0 cE dm cu cL hl aq s j J u2 av bH I;rintro T ⟨hl,s,j,J⟩;refine bf ?_;refine zW (fy hl s j J de dn) ?_;refine AnsH.use (VM C (n:=m) (f:=16*(64+4)) zF ⟨bI,bK,rfl,cv.mono (zG Z),cM.mono (zG Z)⟩ ho bg zO zO zO) ?_;rintro _ hn ⟨⟨dv,dw,rfl,ce,cC⟩,bZ⟩;obtain ⟨k15,_,g9⟩:=zT Z zK bZ;have gb:Z.next+8<=hn.next:=bZ.le
 have hL:=ce.one;have gY:=cC.one;have f15:hn.get (Z.next+5)=none:=bZ.free (show Z.next+5<Z.next+8 by omega) (gv.fresh (b:=Z.next+5) zO);obtain ⟨U,bu⟩:∃ Y,Y=(hn.put (Z.next+5) (.cells [.int .i64 0,.nilSl,.nilSl] aj true)).put (Z.next+5) (.cells [.int .i64 ((m+1:Nat):Int),dv,dw] aj true):=⟨_,rfl⟩
 have fi:Sub hn U:=by rw [bu]; exact (aH f15).put f15 _
 have a0:Kp Z U:=by rw [bu]; exact zK
 have db:U.get (Z.next+5)=some (.cells [.int .i64 ((m+1:Nat):Int),dv,dw] aj true):=by rw [bu,am]
 refine zW (aC hl @oQ @aD) ?_;rw [<- bu];clear bu;obtain ⟨B,hB⟩:∃ Y,Y=Z.next+5:=⟨_,rfl⟩
 rw [<- hB] at db;rw [<- hB];have dE:Kp H U:=dD.trans a0;have hf:=dE.wf;have dQ:=ce.mono fi;have ee:=cC.mono fi;have b6:=a0.get de;have d2:=d1.mono a0.sub;have ht:=eh.mono a0.sub;have fd:=a0.get dn;have d9:=cv.mono a0.sub;have ep:=cM.mono a0.sub;clear de d1 eh dn cv cM bZ f15 gb ce cC hB;refine ka (fun T'=>T'.length=232/\ad T' 2=.int .i64 (o:Int)/\ad T' 12=.ptr P 0/\ad T' 20=.ptr Q 0/\ad T' 28=.ptr B 0/\ad T' 29=.int .i64 0) (zV (aZ hl s j J)) ?_;clear hl s j J;rintro T ⟨hl,s,j,J,ar,ab⟩;have fW:∀ H':Heap,Hb H' (U.next+2) aL 1 8 [.int .i64 0] (.int .i64 0) (.int .i64 ((m+1:Nat):Int))=some (.own (U.next+2) 0 0 (m+1) 1 true,H'.put (U.next+2) (.cells (aQ (dL (List.replicate (m+1) 0))) aL true)):=fun H'=>by
  rw [<- Hf];have e0:qm (.int .i64 ((m+1:Nat):Int))=some (m+1):=oS _ _;have e1:qm (.int .i64 0)=some 0:=rfl;unfold Hb;rw [e0,e1];simp only;rw [if_pos ⟨WG _,zO,zO,rfl⟩]
 refine bf ?_;refine zW (cn hl j b6 fW @aD) ?_;obtain ⟨dI,bW⟩:∃ X,X=(U.up 4).put (U.next+2) (.cells (aQ (dL (List.replicate (m+1) 0))) aL true):=⟨_,rfl⟩
 rw [<- bW];have f5:Kp U dI:=by rw [bW]; exact zK
 have dN:dI.get (U.next+2)=some (.cells (aQ (dL (Vx m o 0))) aL true):=by rw [bW,am]; rfl
 clear bW;obtain ⟨M,hM⟩:∃ X,X=U.next+2:=⟨_,rfl⟩
 rw [<- hM] at dN;rw [<- hM];have hm:=f5.wf;have gR:U.next<=M:=zO
 refine ka (fun T'=>T'.length=232/\ad T' 2=.int .i64 (o:Int)/\ad T' 12=.ptr P 0/\ad T' 28=.ptr B 0/\ad T' 29=.int .i64 0/\ad T' 30=.own M 0 0 (m+1) 1 true) (zV (fy hl s j J ar ab)) ?_;clear hl s j J ar ab;rintro T ⟨hl,s,j,ar,ab,aP⟩;have en:IntKind.i64.wrap (((m+1:Nat):Int)-1)=(m:Int):=by rw [wrap_i64] <;> omega
 refine cZ (fun T' X=>Kp U X/\ad T' 30=.own M 0 (m+1) (m+1) 1 true/\X.get M=some (.cells (aQ (dL (Vx m o (m+1)))) aL true)) rfl ?_ ?_
 ·refine zW hl ?_;refine bk U [30,31] (fun k vs X=>∃ i:Nat,vs=[.own M 0 i (m+1) 1 true,.int .i64 (i:Int)]/\i+k=m+1/\X.get M=some (.cells (aQ (dL (Vx m o i))) aL true)) (m+1) (by simp only [jL]; exact hl) rfl zK ⟨0,by refine zW (aB hl aP) ?_; rfl,zO,dN⟩ ?_;rintro k T2 X af bh ao ⟨i,hv,fP,bs⟩;have wX:=ao.wf;simp only [SA,WF,Ud,and_true] at hv;obtain ⟨b9,a4⟩:=hv;have y2:ad T2 2=.int .i64 (o:Int):=(bh.at_ 2 zU).trans (zV (aB hl s));have aS:ad T2 12=.ptr P 0:=(bh.at_ 12 zU).trans (zV (aB hl j));have pX:=ao.get b6;have gQ:=wX _ _ bs;have gS:=ao.le;by_cases hi:i<m+1
  ·have aK:(i:Int)<((m+1:Nat):Int):=zO;have ei:IntKind.i64.wrap ((i:Int)+1)=((i+1:Nat):Int):=by rw [wrap_i64] <;> omega
   have key:∀ q:Nat,(if i=o then m else if o<i then i-1 else i)=q->(dL (Vx m o i)).set i (q:Int)=dL (Vx m o (i+1)):=fun q hq=>by rw [NS,Vx,hq]
   have hcl:(dL (Vx m o i)).length=m+1:=by rw [mX,VI]
   rcases Y1 i o with hc | hc | hc
   ·have c1:¬ (i:Int)=(o:Int):=zO;have c2:¬ (o:Int)<(i:Int):=zO;have kq:=key i (by rw [if_neg zO,if_neg zO]);refine zW (pD af b9 a4 y2 aS pX hi aK @c1 @c2) ?_;have ea:=VU (H:=(X.up 17).put (X.next+14) (.cells [.int .i64 (i:Int)] aL true)) (b:=M) (k:=i) (N:=m+1) (id:=X.next+15) (id2:=X.next+14) (z:=(i:Int)) (l:=dL (Vx m o i)) (by rw [aw zO]; exact bs) (am _ _ _) hcl hi zO;rw [kq] at ea;refine zW (aZ af a4 ea ei) ?_;exact ⟨zK,k-1,zO,i+1,rfl,zO,rfl⟩
   ·have c1:((i:Int)=(o:Int))=True:=eq_true zO;have kq:=key m (by rw [if_pos hc]);refine zW (pD af b9 a4 y2 aS pX hi aK @c1 en) ?_;have ea:=VU (H:=(X.up 18).put (X.next+15) (.cells [.int .i64 (m:Int)] aL true)) (b:=M) (k:=i) (N:=m+1) (id:=X.next+16) (id2:=X.next+15) (z:=(m:Int)) (l:=dL (Vx m o i)) (by rw [aw zO]; exact bs) (am _ _ _) hcl hi zO;rw [kq] at ea;refine zW (aZ af a4 ea ei) ?_;exact ⟨zK,k-1,zO,i+1,rfl,zO,rfl⟩
   ·have c1:¬ (i:Int)=(o:Int):=zO;have c2:(o:Int)<(i:Int):=zO;have ed:IntKind.i64.wrap ((i:Int)-1)=((i-1:Nat):Int):=by rw [wrap_i64] <;> omega
    have kq:=key (i-1) (by rw [if_neg zO,if_pos hc]);refine zW (mo af b9 a4 y2 aS pX hi aK @c1 @c2 ed) ?_;have ea:=VU (H:=(X.up 20).put (X.next+17) (.cells [.int .i64 ((i-1:Nat):Int)] aL true)) (b:=M) (k:=i) (N:=m+1) (id:=X.next+18) (id2:=X.next+17) (z:=((i-1:Nat):Int)) (l:=dL (Vx m o i)) (by rw [aw zO]; exact bs) (am _ _ _) hcl hi zO;rw [kq] at ea;refine zW (aZ af a4 ea ei) ?_;exact ⟨zK,k-1,zO,i+1,rfl,zO,rfl⟩
  ·have aK:¬ (i:Int)<((m+1:Nat):Int):=zO
   have:i=m+1:=zO
   subst this;refine zW (lh af b9 a4 aS pX hi aK @aV @pt) ?_;exact ⟨zK,bs⟩
 rintro T1 S I ⟨aE,fp,bM⟩;have aq:T1.length=232:=I.len.trans (zV hl);have dF:Kp H S:=dE.trans aE;have gw:=dF.wf;have f2:pC (gK .i64) aL S (.own M 0 (m+1) (m+1) 1 true) (dL (Lin.ordX m o)):=by
  have:=nP (xf:=true) bM
  rw [mX,VI,Wk bg ag] at this;exact this
 have fb:=aE.get b6;have d3:=d2.mono aE.sub;have ej:=ht.mono aE.sub;have fe:=aE.get fd;have hu:=d9.mono aE.sub;have eq:=ep.mono aE.sub;have dc:=aE.get db;have cd:=dQ.mono aE.sub;have cB:=ee.mono aE.sub;have av:ad T1 12=.ptr P 0:=(I.at_ 12 zU).trans (zV (aB hl j));have fn:ad T1 28=.ptr B 0:=(I.at_ 28 zU).trans (zV (aB hl ar));have fo:ad T1 29=.int .i64 0:=(I.at_ 29 zU).trans (zV (aB hl ab));refine ka (fun T'=>T'.length=232/\ad T' 12=.ptr P 0/\ad T' 28=.ptr B 0/\ad T' 29=.int .i64 0/\ad T' 30=.own M 0 (m+1) (m+1) 1 true) ⟨aq,av,fn,fo,fp⟩ ?_;clear b6 d2 ht fd d9 ep db dQ ee hl aq s j ar ab aP av fn fo fp I;rintro T ⟨hl,j,ar,ab,aP⟩;refine bf ?_;refine zW (aZ hl ar aP dc) ?_;refine AnsH.use (VJ C (m:=m) (x:=o) zF ho zO ga f9 bg ag ⟨dv,dw,rfl,cd.mono (zG S),cB.mono (zG S)⟩ (f2.mono (zG S))) ?_;rintro _ bO ⟨⟨dx,dy,rfl,cf,cD⟩,ge,b0⟩;obtain ⟨gL,_,ha⟩:=zT S zK b0;have gc:S.next+9<=bO.next:=b0.le
 have gZ:=cf.one;have hN:=cD.one;have cy:bO.get (S.next+6)=none:=b0.free (show S.next+6<S.next+9 by omega) (gw.fresh (b:=S.next+6) zO);obtain ⟨aI,bv⟩:∃ Y,Y=(bO.put (S.next+6) (.cells [.int .i64 0,.nilSl,.nilSl] aj true)).put (S.next+6) (.cells [.int .i64 ((m+1:Nat):Int),dx,dy] aj true):=⟨_,rfl⟩
 have fj:Sub bO aI:=by rw [bv]; exact (aH cy).put cy _
 have aG:Kp S aI:=by rw [bv]; exact zK
 have e8:aI.get (S.next+6)=some (.cells [.int .i64 ((m+1:Nat):Int),dx,dy] aj true):=by rw [bv,am]
 refine zW (aC hl @oQ @aD) ?_;rw [<- bv];clear bv;obtain ⟨F,hF⟩:∃ Y,Y=S.next+6:=⟨_,rfl⟩
 rw [<- hF] at e8;rw [<- hF];have dG:Kp H aI:=dF.trans aG;have hg:=dG.wf;have fv:=cf.mono fj;have fC:=cD.mono fj;have gk:=aG.get fb;have fz:=d3.mono aG.sub;have fD:=ej.mono aG.sub;have g7:=aG.get fe;have gE:=hu.mono aG.sub;have gG:=eq.mono aG.sub;have g6:=aG.get dc;have gD:=cd.mono aG.sub;have gF:=cB.mono aG.sub;clear fb d3 ej fe hu eq dc cd cB b0 cy gc cf cD hF;refine ka (fun T'=>T'.length=232/\ad T' 12=.ptr P 0/\ad T' 28=.ptr B 0/\ad T' 29=.int .i64 0/\ad T' 30=.own M 0 (m+1) (m+1) 1 true/\ad T' 33=.ptr F 0/\ad T' 34=.int .i64 0) (zV (cn hl j ar ab aP)) ?_;clear hl j ar ab aP;rintro T ⟨hl,j,ar,ab,aP,fl,b8⟩;have fI:=Lin.free_in bg ag W.own;refine bf ?_;refine zW (cn hl j fl gk e8) ?_;refine AnsH.eq (Wl C (n:=m+1) zF ⟨u,z,rfl,fz.mono (zG aI),fD.mono (zG aI)⟩ ⟨dx,dy,rfl,fv.mono (zG aI),fC.mono (zG aI)⟩ W ge) fun fs fQ=>?_;rw [fI];have f3:Kp aI fs:=Kp.trans zK fQ;have dH:=dG.trans f3;have hh:=dH.wf;refine zW (aB hl @aD) ?_;refine ka (fun T'=>T'.length=232/\ad T' 29=.int .i64 0/\ad T' 34=.int .i64 0/\ad T' 35=.bool true/\ad T' 36=.int .i64 0) (zV (aC hl ab b8)) ?_;clear hl j ar ab aP fl b8;rintro T ⟨hl,ab,b8,gn,gp⟩;refine bf ?_;refine zW (fy hl ab b8 gn gp @aD) ?_;refine WC.wb ?_;refine zW (aB hl aW) ?_;have gP:=dH.le;exact zK
end
end Go.Proofs.YtiigaeehghcjiaaGreat.Ev
namespace Go.Proofs.YtiigaeehghcjiaaGreat.Ev
open Go Go.WideShapes Nn
section
variable {HT:Type} {enc:TypeId × Value->HT} {P:Program} {w:World} {base base':Nat} {sp:Nat->Bool} {held:Bool} {μ:Mu} {F:Nat->Prop} {H:Heap}
def We {a:List AV} {cs:Array Value} (h:LR μ F w a cs.toList):VR μ F w (.agg a) (.agg cs):=.agg a cs (by simpa using h.1) fun i c v h1 h2=>h.2 i c v h1 (by simpa using h2)
def open_gen {tgs tg tvs tv ti te:TypeId} (b:GenTys P tgs tg tv) (j:RowTys P tvs tv ti te) (i:∀ c,c<w.heap.size->F c) {r:Reach} {v:Value} {d:DataW HT} {ps:List MemPlace} (hval:Value.okWide P w r base' tg v) (hd:DataW.Trod enc P w base sp held tg v d ps) :
  ∃ a z,VR μ F w (.agg a) v/\genQE.R H a z/\my z.2/\z.1<256:=by
 obtain ⟨f0,f1,k,-⟩:=b.g;obtain ⟨cs,rfl,m⟩:=okWide_struct k hval;obtain ⟨l,h⟩:=hd;obtain ⟨a,z,e,f,g⟩:=Wh (H:=H) (μ:=μ) b j i h;exact ⟨a,z,We e,f,g⟩
def VZ {tvs tv ti te:TypeId} (d:RowTys P tvs tv ti te) (s:∀ c,c<w.heap.size->F c) {m:Nat} {cs:List Value} {x:DataW HT × List MemPlace} (h:DataW.trod enc P w base sp held m ti cs=some x) :
  ∃ (b:Bool) (v:Value) (a:AV) (l:List Nat),cs=[.bool b,v]/\VR μ F w a v/\Lb H a l/\Em (b,l):=by
 obtain ⟨f0,f1,t,u,y,z,A,B,C⟩:=d.i;obtain ⟨xs,n,-,ex,hl,i,hx⟩:=DataW.trod_struct t h;have i:xs.length=2:=by simpa using i
 rw [d.ci] at hl
 match cs,hl with
 | [j,k],_ =>
  have e0:=hx 0 f0 rfl;have e:=hx 1 f1 rfl;rw [zh zO,u,A] at e0;rw [zh zO,y,C] at e;obtain ⟨b,f,-⟩:=DataW.trod_bool z e0;obtain ⟨v,a,zs,g,o,p,q,r,-⟩:=Ni (H:=H) (μ:=μ) s B d.e d.ce e;have q0:j=.bool b:=by simpa using f
  have q1:k=v:=by simpa using g
  clear f g;subst q0; subst q1;exact ⟨b,_,a,zs,rfl,o,p,q,r⟩
def open_whole {tvs tv ti te:TypeId} (e:RowTys P tvs tv ti te) (n:∀ c,c<w.heap.size->F c) {r:Reach} {v:Value} {d:DataW HT} {ps:List MemPlace} (hval:Value.okWide P w r base' ti v) (hd:DataW.Trod enc P w base sp held ti v d ps) :
  ∃ (a:List AV) (z:Bool × List Nat) (p:AV),VR μ F w (.agg a) v/\a=[.bool z.1,p]/\Lb H p z.2/\Em z:=by
 obtain ⟨f0,f1,o,-⟩:=e.i;obtain ⟨cs,rfl,q⟩:=okWide_struct o hval;obtain ⟨g,h⟩:=hd;have h:DataW.trod enc P w base sp held g ti cs.toList=_:=h;obtain ⟨b,v,f,l,i,j,k,m⟩:=VZ (H:=H) (μ:=μ) e n h;refine ⟨_,(b,l),f,We ?_,rfl,k,m⟩;rw [i];exact LR.cons (.bool _) (LR.cons j LR.nil)
end
open Go
def N3 {P:Program}:IX P fe:=trivial
def Qp {P:Program} {w:World} (a:GlobW w):HR P (fun _=>none) (fun c=>c<w.heap.size) (Heap.nil 0) w:=by
 have h:=Nt (P:=P) a;refine ⟨h.dom,fun c hc=>hc,fun b e hb=>?_,h.inj,fun g cs hg=>(h.gl g cs hg).mono (fun _ _ h=>h) (fun c hc=>h.fb c hc) fun _ _=>rfl⟩;rw [Tr.nil_get] at hb; cases hb
def open_calls {P:Program} (i:P.follows .mixedOrders=true) {tab:Nat->Option au} (j:Kd P tab) {f:Nat} {afn:au} (g:tab f=some afn) (d:afn.ext=none) {args:List AV} {vs:List Value} {w:World} (o:GlobW w)
  (hl:LR (fun _=>none) (fun c=>c<w.heap.size) w args vs) (h:Ans tab (.fn f args) (Heap.nil 0) fun v _=>v=.bool true) :
  Calls P f vs.toArray w fun e w'=>e=.returned (.bool true)/\w'.os=w.os/\w'.output=w.output/\w.heap.size<=w'.heap.size/\∀ c,c<w.heap.size->w'.heap[c]? = w.heap[c]?:=by
 obtain ⟨v,H',⟨N,p⟩,rfl⟩:=h;have h1:=p (N+1) (N+1) zO zO;simp only [mp,kh,g,d] at h1;obtain ⟨-,s⟩:=j f afn g;obtain ⟨fn,q,hc⟩:=s fun e h=>by rw [d] at h; cases h
 obtain ⟨l,m,n,c4,-⟩:=EJ hc d;have hH:=Qp (P:=P) o;have r:=qW (Af N3 i j N) i q l m n c4 h1 hl hH 0 (fence:=Fence.wide) (rd:=false) (.inl ⟨rfl,rfl⟩);refine (r.calls fun k=>room_wide k).mono fun e w' ⟨u,he,μ',t,_,a⟩=>?_;cases t;refine ⟨he,a.os,a.out,a.size,fun c hc=>a.keep c hc fun b L ⟨e,h,_⟩=>?_⟩;rw [Tr.nil_get] at h; cases h
def Oo {w w':World} (h1:w'.os=w.os) (h2:w'.output=w.output) (h:∀ c,c<w.heap.size->w'.heap[c]? = w.heap[c]?) (d:MemPlace->Prop):w.keptBut w' d:=by
 refine ⟨h1,h2,fun i hi=>?_⟩;rw [h i hi];split
 ·rename_i a b;cases a.symm.trans b;exact ⟨rfl,rfl,rfl,fun _ _=>rfl⟩
 ·rename_i a b;cases a.symm.trans b;exact .inr ⟨rfl,rfl⟩
 ·rfl
section
open Go.ChangeShapes Go.WideShapes Go.ChangeAt Go.RowKit
variable {HT:Type} {enc:TypeId × Value->HT} {P:Program}
def stays {t:TypeId} (hl:laidOutB P=true) (hr:P.readableRec t=true) (e:t<P.types.size) {W W':World} {sp:Nat->Bool} {v:Value} {d:DataW HT} {ps:List MemPlace}
  (h:DataW.Trod enc P W 0 (fun _=>true) true t v d ps) (a:∀ c,c<W.heap.size->W'.heap[c]? = W.heap[c]?) (hlt:∀ x∈ps,x.block<W.heap.size) (hs:∀ p∈ps,sp p.block=true):DataW.Trod enc P W' 0 sp true t v d ps :=
 WideElems.Trod_stays hl hr e h (fun p hp=>by
  have hb:=a p.block (hlt p hp);cases p with
  | cell b o=>exact World.cell?_of_block (w:=W) hb
  | map b=>exact hb) hs
def post_kept {f:Func} {s:ChangeSpec} {apart fresh k i:Bool} {W W':World} {args:Array Value} {v:Value} {ds gs:List (DataW HT)} {before:List MemPlace}
  (hW:DataW.Whole enc P f.params.toList s.vars apart W args.toList ds gs before)
  (g:∀ (b:Nat) (sp:Nat->Bool) (hd:Bool),DataW.TrodAll enc P W' b sp hd f.resultTypes.toList (v.resultList f.resultTypes.size) (s.fn HT (ds++gs)).results [])
  (hargs:∀ sp:Nat->Bool,(∀ p∈before,sp p.block=true)->DataW.TrodAll enc P W' 0 sp true f.params.toList args.toList (s.fn HT (ds++gs)).args before)
  (h:∀ sp:Nat->Bool,DataW.TrodVars enc P W' sp s.vars (s.fn HT (ds++gs)).vars [])
  (h1:W'.os=W.os) (h2:W'.output=W.output) (a:∀ c,c<W.heap.size->W'.heap[c]? = W.heap[c]?)
  (l:∀ (j:Nat) (t:TypeId) (r:Value),f.resultTypes[j]? = some t->(v.resultList f.resultTypes.size)[j]? = some r->Value.okWide P W' .any 0 t r) :
  s.post enc P f apart fresh k i W args v W':=by
 have m:∀ p∈before,(fun b=>decide (b<W.heap.size)) p.block=true:=fun p hp=>by simpa using hW.lt p hp
 have hlt:∀ p∈before,p.block<W.heap.size:=fun p hp=>hW.lt p hp;refine ⟨ds,gs,before,[],before,[],hW,g _ _ _,hargs _ m,h _,Oo h1 h2 a _,fun _=>?_⟩;obtain ⟨_,_,_,_,e,n,hn⟩:=hW;refine ⟨l,_,_,([]++before)++[],⟨[]++before,[],trodAll_append (hargs _ (fun _ _=>rfl)) (g _ _ _),h _,rfl,?_,?_⟩,?_⟩
 ·intro b off hp;have d:MemPlace.cell b off∈before:=by simpa using hp
  have hb:=hlt _ d;rw [World.frozen?_of_block (w:=W) (a b hb)];exact n b off d
 ·intro ha
  have:=hn ha
  simpa using this
 ·intro p hp _
  simpa using hp
end
end Go.Proofs.YtiigaeehghcjiaaGreat.Ev
namespace Go.Proofs.YtiigaeehghcjiaaGreat.Ins182
open Go Go.RowKit Go.Lib Go.Proofs
variable {P:Program}
theorem tS:Tryz.prog.underlying 101=some (.slice 38):=by kernel_rfl
theorem iE:(Tryz.prog.info? 38).map (fun i=>(i.zero,i.size,i.bytes))=some (some (Value.slice none 0 0),1,24):=by kernel_rfl
def zE:∀ w,(Go.sizeOf 38).run Tryz.prog w=.ok 1 w:=fun w=>by
 obtain ⟨a,hi,h0,h1,h2⟩:=info_parts iE;simp [Go.sizeOf,typeInfo,hi,h1]
theorem tI:Tryz.prog.underlying 3=some (.int .i64):=by kernel_rfl
theorem DZ:Tryz.prog.follows .mixedOrders=true:=by kernel_rfl
def Dg (w:World) {o:Oper} {a:Act} {K:Act->World->Prop} {Q:Exit->Act->World->Prop} (d s:Operand) (t b:TypeId)
  (e:o.op=.call { callee:=.builtin .copy,args:=#[d,s],argTypes:=#[t,b] }) (v u:Value) (hd:a.eval d=v) (hs:a.eval s=u) {c:Value} {w':World}
  (hr:(Builtin.copy_ #[t,b] o.type #[v,u]).run P w=.ok c w') (h:K (a.put o.dst c) w'):o.wp P a w K Q:=by
 unfold Oper.wp execOp;simp only [e,resolve,invoke,builtin,Sem.run_bind,Sem.run_pure,Result.andThen_ok,List.map_toArray,SA,WF,hd,hs,hr];exact h
def kE (w:World) {ops:Array Oper} {rest:List Oper} {o:Oper} {a:Act} {Q:Exit->Act->World->Prop} (f:o.guard=none) (d s:Operand) (t b:TypeId)
  (g:o.op=.call { callee:=.builtin .copy,args:=#[d,s],argTypes:=#[t,b] }) (v u:Value) (hd:a.eval d=v) (hs:a.eval s=u) {c:Value} {w':World}
  (hr:(Builtin.copy_ #[t,b] o.type #[v,u]).run P w=.ok c w') (h:wpList P ops Q rest (a.put o.dst c) w'):wpList P ops Q (o :: rest) a w :=
 wpList_plain f fun _ e=>Dg w d s t b g v u hd hs hr (e _ _ h)
def qT {ops:Array Oper} {o:Oper} {a:Act} {w:World} {K:Act->World->Prop} {Q:Exit->Act->World->Prop} {E:Prop}
  (hg:o.guard=none) (d x:Operand) (b c:TypeId) (g:o.op=Op.call { callee:=Callee.builtin Builtin.copy,args:=#[d,x],argTypes:=#[b,c] })
  (v u:Value) (hd:a.eval d=v) (hx:a.eval x=u) {e:Value} {w':World} (hr:(Builtin.copy_ #[b,c] o.type #[v,u]).run P w=.ok e w') (f:K (a.put o.dst e) w') :
  if Region.wanted o (yielded ops a.tmps)=true then Oper.wp P o a w K Q else E:=by
 have h:Region.wanted o (yielded ops a.tmps)=true:=by simp [Region.wanted,hg]
 rw [if_pos h];unfold Oper.wp;simp [execOp,g,resolve,invoke,builtin,hd,hx,hr,Result.andThen];exact f
def qE (b:Nat) (vs:List Value) (o:Nat) (w:World) (h:∀ j,j<vs.length->(w.cell? ⟨b,o+j,none⟩).isSome=true) (k:Nat) (a:(w.cell? ⟨b,k,none⟩).isSome=true):((w.setCells b o vs).cell? ⟨b,k,none⟩).isSome=true:=by
 by_cases c:o<=k/\k<o+vs.length
 ·have:=World.cell?_setCells_in b vs o w h (k-o) zO
  rw [show o+(k-o)=k by omega] at this;rw [this]; rfl
 ·rw [World.cell?_setCells_out b vs o w ⟨b,k,none⟩ (fun _ _=>by show k<o\/o+vs.length<=k; omega)];exact a
set_option maxHeartbeats 4000000 in
set_option maxRecDepth 100000 in
def shift (b off n c i a f m o:Nat) (cs vs:List Value) (w:World) (hi:i<n) (hm:0<m) (af:n+m<=c) (ad:n+m<=9223372036854775807) (C:a≠b)
  (hcl:cs.length=n) (V:vs.length=m)
  (J:∀ j v,cs[j]? = some v->w.cell? ⟨b,off+j,none⟩=some v) (q:∀ j,j<n+m->(w.cell? ⟨b,off+j,none⟩).isSome=true) (A:∀ j,j<n+m->w.frozen? ⟨b,off+j,none⟩=false)
  (X:∀ j v,vs[j]? = some v->w.cell? ⟨a,f+j,none⟩=some v) (F:∀ v∈cs,v.oneCell'=true) (G:∀ v∈vs,v.oneCell'=true)
  (D E:TypeId) (r s:Nat) (R:w.shape? a=some (D,r)) (S:w.shape? b=some (E,s)) (P:s≠0) (L:w.frozen? ⟨a,f,none⟩=false) (M:w.frozen? ⟨a,r,none⟩=false) :
  Calls Tryz.prog 182 #[.slice (some ⟨b,off,none⟩) n c,.int .i64 i,.slice (some ⟨a,f,none⟩) m o] w fun e w' =>
   e=.returned (.slice (some ⟨b,off,none⟩) (n+m) c)/\w'=(w.drew.setCells b (off+(i+m)) (cs.drop i)).setCells b (off+i) vs:=by
 have aj:¬ ((m:Int)=0):=zO;have ak:¬ ((i:Int)=(n:Int)):=zO;have B:(Tryz.prog.info? 38).map (·.size)=some 1:=by
  obtain ⟨i0,N,h0,h1,h2⟩:=info_parts iE;rw [N]; simp [h1]
 have Q:∀ t p,(callFunc 195 #[.slice (some ⟨a,f,none⟩) m o,.slice (some ⟨b,off+(i+m),none⟩) t p]).run Tryz.prog w=.ok (.value (.bool false)) w:=fun t p=>by
  rw [run_callFunc_extern Tryz.func195 (by kernel_rfl) (by kernel_rfl) (by kernel_rfl) (e:=Extern.SlicesOverlaps.overlaps #[101,101] #[4]) (by kernel_rfl),
   Lib.run_overlaps_apart w 101 4 38 tS 1 zE ⟨a,f,none⟩ ⟨b,off+(i+m),none⟩ m o t p C D E r s R S P L M]
  rfl
 have K:(cs.drop i).length=n-i:=by rw [XF,hcl]
 have ah:IntKind.i64.wrap ((i:Int)+(m:Int))=(i:Int)+(m:Int):=by rw [IntKind.wrap_i64]; omega
 have Y:(0:Int)<=(i:Int)+(m:Int):=zO;have ae:i<=n:=zO;have ag:((i:Int)+(m:Int)).toNat=i+m:=zO;have Z:¬ (c=i+m):=zO;have aa:(i:Int)<=(n:Int)+(m:Int):=zO;have ab:¬ (c=i):=zO;have z:∀ ty d u,(Builtin.copy_ #[101,101] ty #[.slice (some ⟨b,off+(i+m),none⟩) (n+m-(i+m)) d,.slice (some ⟨b,off+i,none⟩) (n+m-i) u]).run Tryz.prog w.drew=.ok (goInt (cs.drop i).length) (w.drew.setCells b (off+(i+m)) (cs.drop i)):=fun ty d u =>
  run_copy_cells w.drew _ _ ty 38 b (off+(i+m)) (n+m-(i+m)) d ⟨b,off+i,none⟩ (n+m-i) u (cs.drop i) tS B (by rw [K]; simp only [Nat.min_def]; split <;> omega)
   (fun j v hj=>by rw [Addr.add_lit,Xz]; exact J (i+j) v (by rwa [WX] at hj))
   (fun j hj=>by rw [Xz]; exact q _ zO) (fun j hj=>by rw [Xz]; exact A _ zO) (fun v U=>F v (YZ U))
 obtain ⟨g,l⟩:∃ g,g=w.drew.setCells b (off+(i+m)) (cs.drop i):=⟨_,rfl⟩
 have T:∀ k,k<n+m->(g.cell? ⟨b,off+k,none⟩).isSome=true:=fun k O=>by
  rw [l];exact qE b _ _ _ (fun j hj=>by rw [Xz]; exact q _ zO) _ (q k O)
 have I:∀ (W:World),(∀ x,W.cell? x=g.cell? x)->(∀ x,W.frozen? x=g.frozen? x)->∀ ty d,(Builtin.copy_ #[101,101] ty #[.slice (some ⟨b,off+i,none⟩) (n+m-i) d,.slice (some ⟨a,f,none⟩) m o]).run Tryz.prog W=.ok (goInt vs.length) (W.setCells b (off+i) vs):=fun W y H ty d =>
  run_copy_cells W _ _ ty 38 b (off+i) (n+m-i) d ⟨a,f,none⟩ m o vs tS B (by rw [V]; simp only [Nat.min_def]; split <;> omega)
   (fun j v hj=>by
    rw [Addr.add_lit,y,l,World.cell?_setCells_out b _ _ _ _ (fun h _=>absurd h C)];exact X j v hj)
   (fun j hj=>by rw [y,Xz]; exact T _ zO) (fun j hj=>by rw [H,l,World.frozen?_setCells,Xz]; exact A _ zO) G
 rw [<- l] at z;have mixed:=DZ
 go_enter Tryz.func182,Tryz.ntmps182
 go_wp2_with (simp only [Q])
 go_region_law_o (refine qT rfl _ _ 101 101 rfl _ _ (by simp [Act.eval,Act.put]) (by simp [Act.eval,Act.put]) (z _ _ _) ?_)
 go_wp2_with (at_builtin; refine kE _ rfl _ _ 101 101 rfl _ _ rfl rfl (I _ (fun _=>rfl) (fun _=>rfl) _ _) ?_)
 go_ret
 first | exact ⟨rfl,rfl⟩ | exact ⟨rfl,by rw [l]⟩
set_option maxHeartbeats 4000000 in
set_option maxRecDepth 100000 in
def end_room (b off n c a d m f:Nat) (vs:List Value) (w:World) (hm:0<m) (k:n+m<=c) (q:n+m<=9223372036854775807)
  (g:vs.length=m) (l:∀ j,j<m->(w.cell? ⟨b,off+n+j,none⟩).isSome=true) (i:∀ j,j<m->w.frozen? ⟨b,off+n+j,none⟩=false)
  (p:∀ j v,vs[j]? = some v->w.cell? ⟨a,d+j,none⟩=some v) (h:∀ v∈vs,v.oneCell'=true) :
  Calls Tryz.prog 182 #[.slice (some ⟨b,off,none⟩) n c,.int .i64 n,.slice (some ⟨a,d,none⟩) m f] w fun e w' =>
   e=.returned (.slice (some ⟨b,off,none⟩) (n+m) c)/\w'=w.setCells b (off+n) vs:=by
 have r:¬ ((m:Int)=0):=zO;have o:Src Tryz.prog 1 101 (.slice (some ⟨a,d,none⟩) m f) m vs w:=Src.ofSlice w tS ⟨a,d,none⟩ m f vs zO (fun j u hj=>by rw [Addr.add_lit]; exact p j u hj) h;have mixed:=DZ
 go_enter Tryz.func182,Tryz.ntmps182
 go_wp2_with (at_builtin; refine wpList_append_room1 _ rfl _ _ 101 101 rfl 38 _ _ tS iE b off n c rfl _ rfl m vs o k (by rw [g]; exact l) (by rw [g]; exact i) ?_)
 go_ret
 exact ⟨rfl,rfl⟩
set_option maxHeartbeats 4000000 in
set_option maxRecDepth 100000 in
def end_grow (base:Option Addr) (n c b d m f:Nat) (cs vs:List Value) (w:World) (hm:0<m) (D:n<=c) (i:c<n+m) (p:(n+m)*24<=140737488355328)
  (hcl:cs.length=n) (E:vs.length=m) (h:base=none->n=0)
  (q:∀ a,base=some a->∀ j v,cs[j]? = some v->w.cell? (a.add j)=some v)
  (x:∀ j v,vs[j]? = some v->w.cell? ⟨b,d+j,none⟩=some v) (o:∀ v∈vs,v.oneCell'=true) :
  Calls Tryz.prog 182 #[.slice base n c,.int .i64 n,.slice (some ⟨b,d,none⟩) m f] w fun e w' =>
   e=.returned (.slice (some ⟨w.heap.size,0,none⟩) (n+m) (grownCap w (n+m) c 38)) /\
   w'=w.drew.alloc (.cells ((cs++vs).toArray++Builtin.zeroCells (Value.slice none 0 0).cells (grownCap w (n+m) c 38-(n+m))) 38):=by
 obtain ⟨g,r,y,l,z⟩:=info_parts iE;have F:¬ ((m:Int)=0):=zO;have t:Src Tryz.prog g.size 101 (.slice (some ⟨b,d,none⟩) m f) m vs w:=by
  rw [l];exact Src.ofSlice w tS ⟨b,d,none⟩ m f vs zO (fun j u hj=>by rw [Addr.add_lit]; exact x j u hj) o
 have s:(Builtin.firstCells g.size n (.slice base n c)).run Tryz.prog w.drew=.ok cs.toArray w.drew:=by
  rw [l];cases base with
  | none =>
   have h0:=h rfl;subst h0;rw [XM.1 hcl];exact run_firstCells_none w.drew 1 0 0 c
  | some a=>exact run_firstCells_some w.drew 1 n a n c cs zO (fun j v hj=>q a rfl j v hj)
 have k:∀ ty,(Builtin.append_ #[101,101] ty #[.slice base n c,.slice (some ⟨b,d,none⟩) m f]).run Tryz.prog w=_:=fun ty =>
  run_append_grow_src w 101 101 ty 38 g _ tS r y base n c cs s _ m vs t i zO (by rw [z]; exact growslice_fits i p)
 have mixed:=DZ
 go_enter Tryz.func182,Tryz.ntmps182
 cases base with
 | none =>
  have h0:=h rfl;subst h0
  go_wp2_with (at_builtin; refine Lib.wpList_append_run _ rfl _ _ _ _ rfl _ _ rfl rfl _ _ (k _) ?_)
  go_ret
  exact ⟨rfl,rfl⟩
 | some a =>
  obtain ⟨A,B,C⟩:=a
  go_wp2_with (at_builtin; refine Lib.wpList_append_run _ rfl _ _ _ _ rfl _ _ rfl rfl _ _ (k _) ?_)
  all_goals (go_ret; exact ⟨rfl,rfl⟩)
set_option maxHeartbeats 4000000 in
set_option maxRecDepth 100000 in
def grow (b off n c i f q m B:Nat) (cs vs:List Value) (w:World) (hi:i<n) (hm:0<m) (av:n<=c) (ad:c<n+m) (Y:(n+m)*24<=140737488355328)
  (hcl:cs.length=n) (ae:vs.length=m)
  (y:∀ j v,cs[j]? = some v->w.cell? ⟨b,off+j,none⟩=some v)
  (J:∀ j v,vs[j]? = some v->w.cell? ⟨f,q+j,none⟩=some v) (N:∀ v∈cs,v.oneCell'=true) (O:∀ v∈vs,v.oneCell'=true) :
  Calls Tryz.prog 182 #[.slice (some ⟨b,off,none⟩) n c,.int .i64 i,.slice (some ⟨f,q,none⟩) m B] w fun e w' =>
   e=.returned (.slice (some ⟨w.heap.size,0,none⟩) (n+m) (grownCap w (n+m) c 38)) /\
   w'=(((w.alloc (.cells ((cs.take i).toArray++Builtin.zeroCells (Value.slice none 0 0).cells (n+m-i)++Builtin.zeroCells (Value.slice none 0 0).cells (grownCap w (n+m) c 38-(n+m))) 38)).drew.setCells w.heap.size i vs).drew).setCells w.heap.size (i+m) (cs.drop i):=by
 obtain ⟨M,E,ag,L,K⟩:=info_parts iE;have ay:¬ ((m:Int)=0):=zO;have az:¬ ((i:Int)=(n:Int)):=zO;have aA:(c:Int)<(n:Int)+(m:Int):=zO;have I:(Tryz.prog.info? 38).map (·.size)=some 1:=by rw [E]; simp [L]
 have Z:b<w.heap.size:=block_lt_of_cell (y 0 _ (zh zO));have af:f<w.heap.size:=block_lt_of_cell (J 0 _ (zh zO));have F:(n:Int)+(m:Int)-(i:Int)=((n+m-i:Nat):Int):=zO;have z:i+(n+m-i)=n+m:=zO;have H:(Builtin.firstCells M.size i (.slice (some ⟨b,off,none⟩) i c)).run Tryz.prog w.drew=.ok (cs.take i).toArray w.drew:=by
  rw [L];exact run_firstCells_some w.drew 1 i ⟨b,off,none⟩ i c (cs.take i) (by rw [WU]; omega) (fun j v hj=>by
   rw [Addr.add_lit];rw [WW] at hj;split at hj
   ·exact y j v hj
   ·cases hj)
 have p:∀ ty,(Builtin.append_ #[101,3] ty #[.slice (some ⟨b,off,none⟩) i c,.int .i64 ((n:Int)+(m:Int)-(i:Int))]).run Tryz.prog w =
   .ok (.slice (some ⟨w.heap.size,0,none⟩) (n+m) (grownCap w (n+m) c 38)) (w.drew.alloc (.cells ((cs.take i).toArray++Builtin.zeroCells (Value.slice none 0 0).cells (n+m-i)++Builtin.zeroCells (Value.slice none 0 0).cells (grownCap w (n+m) c 38-(n+m))) 38)):=fun ty=>by
  have h:=Lib.run_append_grow_zeros w 101 3 ty 38 M _ .i64 .i64 tS tI E ag (some ⟨b,off,none⟩) i c (cs.take i) H (n+m-i) zO zO zO zO (by rw [K]; omega) (by rw [K,z]; exact growslice_fits ad Y);rw [z] at h;rw [F];exact h
 obtain ⟨G,o⟩:∃ G,G=grownCap w (n+m) c 38:=⟨_,rfl⟩
 obtain ⟨a,s⟩:∃ a:Array Value,a=(cs.take i).toArray++Builtin.zeroCells (Value.slice none 0 0).cells (n+m-i)++Builtin.zeroCells (Value.slice none 0 0).cells (G-(n+m)):=⟨_,rfl⟩
 rw [<- o] at p ⊢;rw [<- s] at p ⊢;have V:n+m<=a.size:=by
  rw [s];simp [Builtin.zeroCells,Value.cells];omega
 obtain ⟨d,k⟩:∃ d,d=w.drew.alloc (.cells a 38):=⟨_,rfl⟩
 rw [<- k] at p;have r:∀ j,j<n+m->(d.cell? ⟨w.heap.size,j,none⟩).isSome=true:=fun j hj=>by
  rw [k,World.cell?_alloc_at (w:=w.drew) a _ w.heap.size j rfl,XN zO]; rfl
 have C:∀ j,d.frozen? ⟨w.heap.size,j,none⟩=false:=fun j=>by rw [k]; exact World.frozen?_alloc_at (w:=w.drew) a _ w.heap.size j rfl
 have T:∀ j v,w.cell? ⟨b,j,none⟩=some v->d.cell? ⟨b,j,none⟩=some v:=fun j v h=>by rw [k,World.cell?_alloc_past (w:=w.drew) _ b j Z]; exact h
 have U:∀ j v,w.cell? ⟨f,j,none⟩=some v->d.cell? ⟨f,j,none⟩=some v:=fun j v h=>by rw [k,World.cell?_alloc_past (w:=w.drew) _ f j af]; exact h
 have aa:∀ (W:World),(∀ x,W.cell? x=d.cell? x)->(∀ x,W.frozen? x=d.frozen? x)->∀ ty g,(Builtin.copy_ #[101,101] ty #[.slice (some ⟨w.heap.size,i,none⟩) (n+m-i) g,.slice (some ⟨f,q,none⟩) m B]).run Tryz.prog W=.ok (goInt vs.length) (W.setCells w.heap.size i vs):=fun W l u ty g =>
  run_copy_cells W _ _ ty 38 w.heap.size i (n+m-i) g ⟨f,q,none⟩ m B vs tS I (by rw [ae]; simp only [Nat.min_def]; split <;> omega)
   (fun j v hj=>by rw [Addr.add_lit,l]; exact U _ v (J j v hj))
   (fun j hj=>by rw [l]; exact r _ zO) (fun j hj=>by rw [u]; exact C _) O
 have al:n+m<=G:=by rw [o]; exact grownCap_ge w _ _ _
 have ah:G<=9223372036854775807:=by
  have:=grownCap_le_maxLen w (n+m) c 38 (by unfold maxLen; omega)
  rw [<- o] at this;unfold maxLen at this;omega
 have aj:¬ (G=i):=zO;have ak:¬ (G=i+m):=zO;have aq:¬ (c=i):=zO;have X:b≠w.heap.size:=zO;have ab:(cs.drop i).length=n-i:=by rw [XF,hcl]
 have D:∀ (W:World),(∀ x,W.cell? x=(d.setCells w.heap.size i vs).cell? x)->(∀ x,W.frozen? x=(d.setCells w.heap.size i vs).frozen? x)->∀ ty g A,(Builtin.copy_ #[101,101] ty #[.slice (some ⟨w.heap.size,i+m,none⟩) (n+m-(i+m)) g,.slice (some ⟨b,off+i,none⟩) (n-i) A]).run Tryz.prog W=.ok (goInt (cs.drop i).length) (W.setCells w.heap.size (i+m) (cs.drop i)):=fun W l u ty g A =>
  run_copy_cells W _ _ ty 38 w.heap.size (i+m) (n+m-(i+m)) g ⟨b,off+i,none⟩ (n-i) A (cs.drop i) tS I (by rw [ab]; simp only [Nat.min_def]; split <;> omega)
   (fun j v hj=>by
    rw [Addr.add_lit,l,World.cell?_setCells_out _ _ _ _ _ (fun h _=>absurd h X),Xz];exact T _ v (y (i+j) v (by rwa [WX] at hj)))
   (fun j hj=>by rw [l]; exact qE _ _ _ _ (fun t ht=>r _ zO) _ (r _ zO))
   (fun j hj=>by rw [u,World.frozen?_setCells]; exact C _) (fun v hv=>N v (YZ hv))
 subst k;have P:∀ x,((w.alloc (.cells a 38)).drew).cell? x=(w.drew.alloc (.cells a 38)).cell? x:=fun x=>rfl;have Q:∀ x,((w.alloc (.cells a 38)).drew).frozen? x=(w.drew.alloc (.cells a 38)).frozen? x:=fun x=>rfl;have R:∀ x,(((w.alloc (.cells a 38)).drew.setCells w.heap.size i vs).drew).cell? x=((w.drew.alloc (.cells a 38)).setCells w.heap.size i vs).cell? x:=fun x=>rfl;have S:∀ x,(((w.alloc (.cells a 38)).drew.setCells w.heap.size i vs).drew).frozen? x=((w.drew.alloc (.cells a 38)).setCells w.heap.size i vs).frozen? x:=fun x=>rfl;have ax:IntKind.i64.wrap ((i:Int)+(m:Int))=(i:Int)+(m:Int):=by rw [IntKind.wrap_i64]; omega
 have am:(0:Int)<=(i:Int)+(m:Int):=zO;have ar:i<=n:=zO;have aw:((i:Int)+(m:Int)).toNat=i+m:=zO;have ao:(i:Int)<=(n:Int):=zO;clear F z H s o V;have mixed:=DZ
 go_enter Tryz.func182,Tryz.ntmps182
 go_wp2_with (first
  | (at_builtin; refine Lib.wpList_append_run _ rfl _ _ _ _ rfl _ _ rfl rfl _ _ (p _) ?_)
  | (at_builtin; refine kE _ rfl _ _ 101 101 rfl _ _ rfl rfl (aa _ P Q _ _) ?_)
  | (at_builtin; refine kE _ rfl _ _ 101 101 rfl _ _ rfl rfl (D _ (fun _=>rfl) (fun _=>rfl) _ _ _) ?_))
 go_region_law_o (refine qT rfl _ _ 101 101 rfl (.slice (some ⟨w.heap.size,i+m,none⟩) (n+m-(i+m)) (G-(i+m))) (.slice (some ⟨b,off+i,none⟩) (n-i) (c-i)) (by simp [Act.eval,Act.put]) (by simp [Act.eval,Act.put]) (D _ R S 3 (G-(i+m)) (c-i)) ?_)
 go_wp2
 go_ret
 exact ⟨rfl,rfl⟩
end Go.Proofs.YtiigaeehghcjiaaGreat.Ins182
namespace Go.Proofs.YtiigaeehghcjiaaGreat.Ev.Ok182
open Go Go.Proofs.YtiigaeehghcjiaaGreat.Ev
def tj (A:Array Value):Nat->List Value->Array Value
 | _,[]=>A
 | o,v :: r=>tj (A.setIfInBounds o v) (o+1) r
def jm:∀ (vs:List Value) (o:Nat) (A:Array Value),(tj A o vs).size=A.size
 | [],o,A=>rfl
 | v :: r,o,A=>by rw [tj,jm r]; simp
def pb:∀ (vs:List Value) (o:Nat) (A:Array Value) (j:Nat),j<A.size->(tj A o vs)[j]? = if o<=j/\j<o+vs.length then vs[j-o]? else A[j]?
 | [],o,A,j,hj=>by rw [tj,if_neg (by simp only [XZ]; omega)]
 | v :: r,o,A,j,hj=>by
  rw [tj,pb r (o+1) _ j (by simpa using hj)];by_cases h1:o+1<=j/\j<o+1+r.length
  ·rw [if_pos h1,if_pos (by simp; omega),show j-o=(j-(o+1))+1 by omega,Yc]
  ·rw [if_neg h1];by_cases h2:j=o
   ·subst h2;rw [if_pos (by simp),ZF,XW,Array.getElem?_setIfInBounds_self_of_lt hj]
   ·rw [if_neg (by simp; omega),Array.getElem?_setIfInBounds_ne zO]
def nG (b:Nat):∀ (vs:List Value) (o:Nat) (w:World) (arr:Array Value) (ty:TypeId) (fr:Nat × Nat),w.heap[b]? = some (.cells arr ty fr) ->
  (w.setCells b o vs).heap[b]? = some (.cells (tj arr o vs) ty fr)/\(∀ c,c≠b->(w.setCells b o vs).heap[c]? = w.heap[c]?)/\(w.setCells b o vs).heap.size=w.heap.size /\
   Tp w (w.setCells b o vs)/\(w.setCells b o vs).os=w.os/\(w.setCells b o vs).output=w.output
 | [],o,w,arr,ty,fr,h=>⟨h,fun _ _=>rfl,rfl,Tp.same rfl rfl,rfl,rfl⟩
 | v :: r,o,w,arr,ty,fr,h=>by
  have h1:(w.setCell ⟨b,o,none⟩ v).heap[b]? = some (.cells (arr.setIfInBounds o v) ty fr):=by
   simp [World.setCell,YD,h]
  obtain ⟨k1,k2,a,d,e,f⟩:=nG b r (o+1) (w.setCell ⟨b,o,none⟩ v) _ ty fr h1;refine ⟨k1,fun c hc=>(k2 c hc).trans ?_,a.trans ?_,(Tp.same rfl rfl).trans d,e,f⟩
  ·simp [World.setCell,YD,Ne.symm hc]
  ·simp [World.setCell]
def nA (w:World) (ty:TypeId):∀ (vs:List Value) (o:Nat) (A:Array Value),(w.alloc (.cells A ty)).setCells w.heap.size o vs=w.alloc (.cells (tj A o vs) ty)
 | [],o,A=>rfl
 | v :: r,o,A=>by
  have h1:(w.alloc (.cells A ty)).setCell ⟨w.heap.size,o,none⟩ v=w.alloc (.cells (A.setIfInBounds o v) ty):=by
   simp only [World.setCell,World.alloc];congr 1
   apply Array.ext_getElem?
   intro j;rw [YD];by_cases hj:w.heap.size=j
   ·subst hj; simp
   ·rw [if_neg hj,Zi,Zi,if_neg (Ne.symm hj),if_neg (Ne.symm hj)]
  rw [World.setCells,h1,nA w ty r (o+1) _]; rfl
section
variable {P:Program} {μ:Mu} {F:Nat->Prop} {H:Heap} {w:World}
def AL {μ':Mu} {H':Heap} {w':World} (h:Stp (fun x=>x=H.next) P μ F { H with next:=H.next+1 } w μ' F H' w'):Stp sZ P μ F H w μ' F H' w' :=
 ⟨h.mu,h.fr,h.size,h.keep,h.rw,WK (W3 _ _) h.next,fun b hb _ hn=>h.new b (WP hb (W3 _ _)) zO hn,h.rng,
  fun b e hb hl _=>h.old b e hb (WP hl (W3 _ _)) zO,h.alv,h.tape,h.os,h.out⟩
def JK {ty:Nat} {cs:List AV} {V:List Value} {A:Array Value} {w1:World} {k cap':Nat} {a:Heap} (hH:HR P μ F a w) (o:a.next=H.next+1) (e:μ H.next=none) (hs:sizeOf? P ty=some 1)
  (hl:LR μ F w cs V) (f:V.length=k) (hA:∀ j,j<k->A[j]? = V[j]?) (d:k<=cap') (m:A.size=cap')
  (h1:w1.heap=w.heap) (n:Tp w w1) (g:w1.os=w.os) (l:w1.output=w.output) :
  ∃ μ',VR μ' F (w1.alloc (.cells A ty)) (.own H.next 0 k k 1 false) (.slice (some ⟨w.heap.size,0,none⟩) k cap')/\HR P μ' F (a.put H.next (.cells cs ty true)) (w1.alloc (.cells A ty)) /\
   Stp (fun x=>x=H.next) P μ F a w μ' F (a.put H.next (.cells cs ty true)) (w1.alloc (.cells A ty)):=by
 have hcl:cs.length=k:=hl.1.trans f;obtain ⟨q1,q2⟩:=mJ (I:=fun x=>x=H.next) hH e zO rfl (sz:=1) (arr:=A) (cs:=cs) hs zO
  (fun i c v hc b=>by
   have hi:i<k:=by rw [<- hcl]; exact (WI.1 hc).1
   rw [hA i hi] at b;exact hl.2 i c v hc b) w1 h1 n g l
 exact ⟨_,.own H.next 0 k k 1 false _ cap' (upd_same _ _) rfl (Jv _) d (fun h=>by cases h) (by simp [m]),q1,q2⟩
def QH {b ty:Nat} {L:BJ} {a cs:List AV} {V:List Value} {A:Array Value} {w':World} {k cap:Nat} (hH:HR P μ F H w) (hb:H.get b=some (.cells a ty true)) (hL:μ b=some L) (o:L.sz=1)
  (hl:LR μ F w cs V) (s:V.length=k) (hA:∀ j,j<k->A[j]? = V[j]?) (q:k<=cap) (B:A.size=L.N) (N:cap<=L.N)
  (D:w'.heap[L.blk]? = some (.cells A ty (0,0))) (u:∀ c,c≠L.blk->w'.heap[c]? = w.heap[c]?) (z:w'.heap.size=w.heap.size) (C:Tp w w') (t:w'.os=w.os) (y:w'.output=w.output) :
  ∃ μ',VR μ' F w' (.own H.next 0 k k 1 false) (.slice (some ⟨L.blk,0,none⟩) k cap)/\HR P μ' F (({ H with next:=H.next+1 }.kill b).put H.next (.cells cs ty true)) w' /\
   Stp sZ P μ F H w μ' F (({ H with next:=H.next+1 }.kill b).put H.next (.cells cs ty true)) w':=by
 have hcl:cs.length=k:=hl.1.trans s;have r:μ H.next=none:=kS hH (Jv _)
 have n:=hH.bump 1;have p:({ H with next:=H.next+1 }:Heap).get b=some (.cells a ty true):=hb;obtain ⟨arr,fr,E,G,g,J,K,l,M⟩:=gw hH hb hL;obtain ⟨p1,p2⟩:=jj (I:=fun x=>x=H.next) (e:=.cells cs ty true) n p rfl hL w' u z C t y
  (fun m=>⟨A,(0,0),D,B,g,zO,fun i c v hc d=>by
   have hi:i<k:=by rw [<- hcl]; exact (WI.1 hc).1
   rw [hA i hi] at d;exact (hl.2 i c v hc d).mono (fun _ _ h=>h) (fun _ h=>h) m,fun _=>⟨(l rfl).1,rfl⟩,fun h=>by cases h⟩) rfl
 obtain ⟨q4,q5⟩:=uW (I:=fun x=>x=H.next) p1 (b:=b) (id:=H.next) (L:=L) (by rw [Heap.get_put,if_pos rfl]) hL r (by show H.next<H.next+1; omega) rfl;refine ⟨μ.upd H.next L,.own H.next 0 k k 1 false L cap (upd_same _ _) o (Jv _) q (fun h=>by cases h) (by simp; omega),?_,?_⟩
 ·refine q4.congr rfl fun x=>?_;simp only [Heap.get_put,Heap.get_kill];split
  ·rfl
  ·split
   ·rfl
   ·rename_i hx; rfl
 ·refine AL ((p2.trans q5).congr rfl fun x e he=>⟨e,?_,rfl⟩);simp only [Heap.get_put,Heap.get_kill] at he ⊢;split at he
  ·rename_i hx; rw [if_pos hx]; exact he
  ·rename_i hx;rw [if_neg hx];split at he
   ·cases he
   ·rename_i f; rw [if_neg f,if_neg f]; exact he
end
def vG {vs:List Value} {w:World} {F:Fence} {rd:Bool} {n:Nat} {R:Value->World->Prop} (a:FenceOK F rd) (h:Calls Tryz.prog 182 vs.toArray w fun e w'=>∃ u,e=.returned u/\R u w'):Runs F n Tryz.prog ((callFunc 182 vs.toArray).run Tryz.prog w) R:=by
 rw [sP (P:=Tryz.prog) (f:=182) Tryz.func182 (by kernel_rfl) (of_decide_eq_true (by kernel_rfl))];unfold Runs;simp only;have key:CallsIn Fence.wide n Tryz.prog 182 vs.toArray w fun e w'=>∃ u,e=.returned u/\R u w':=callsIn_wide.2 h;rcases a with ⟨_,rfl⟩ | ⟨_,l,rfl⟩
 ·exact key
 ·exact key
def u3 {w:World} {b:Nat} {arr:Array Value} {ty:TypeId} (h:w.heap[b]? = some (.cells arr ty (0,0))) (o:Nat):w.frozen? ⟨b,o,none⟩=false:=by
 simp [World.frozen?,h]
def QI {H H':Heap} {size bytes ty:Nat} {args:List AV} {v:AV} (h:vL H (.insert size bytes ty) args=some (v,H')) :
  (∃ d f m e g IA a,args=[.nilSl,.int .i64 (.ofNat 0),.own d f m e g IA]/\aK H size m (.own d f m e g IA)=some a/\0<m/\m*bytes<=2^46/\m<2^62/\a.all AV.one=true /\
   v=.own H.next 0 m m size false/\H'=({ H with next:=H.next+1 }:Heap).put H.next (.cells a ty true)) \/
  (∃ b n c ex i d f m e g IA a cs p ty2,args=[.own b 0 n c size ex,.int .i64 (.ofNat i),.own d f m e g IA]/\aK H size m (.own d f m e g IA)=some a/\H.get b=some (.cells cs ty true)/\H.get d=some (.cells p ty2 true) /\
   b≠d/\0<m/\i<=n/\cs.length=n*size/\(n+m)*bytes<=2^46/\n+m<2^62/\a.all AV.one=true/\cs.all AV.one=true /\
   v=.own H.next 0 (n+m) (n+m) size false/\H'=(({ H with next:=H.next+1 }:Heap).kill b).put H.next (.cells (cs.take (i*size)++a++cs.drop (i*size)) ty true)):=by
 unfold vL at h;split at h
 all_goals first | contradiction | skip
 ·rename_i heq;cases heq;split at h
  ·rename_i a q;split at h
   ·rename_i hc;obtain ⟨j,k,l,c4,o⟩:=hc;cases h;subst j;exact .inl ⟨_,_,_,_,_,_,a,rfl,q,k,l,c4,o,rfl,rfl⟩
   ·cases h
  ·cases h
 ·rename_i heq;cases heq;split at h
  ·rename_i a cs z p ty2 q hb y;split at h
   ·rename_i hc;obtain ⟨j,k,l,c4,o,t,u,w,x,r,s⟩:=hc;cases h;subst j;subst k;subst x;exact .inr ⟨_,_,_,_,_,_,_,_,_,_,_,a,cs,p,ty2,rfl,q,hb,y,l,c4,o,t,u,w,r,s,rfl,rfl⟩
   ·cases h
  ·cases h
 all_goals (cases h)
def F4 {P:Program} {μ:Mu} {F:Nat->Prop} {H:Heap} {w:World} {f a m p t:Nat} {IA:Bool} {s:List AV} {z:Value} (hH:HR P μ F H w) (C:VR μ F w (.own f a m p t IA) z) (e:aK H 1 m (.own f a m p t IA)=some s) :
  ∃ d n b ty2 g o l,μ f=some d/\z=.slice (some ⟨d.blk,a,none⟩) m n/\H.get f=some (.cells o ty2 l)/\w.heap[d.blk]? = some (.cells b ty2 g)/\a+m<=b.size/\(l=true->g=(0,0)) /\
   ((b.toList.drop a).take m).length=m/\LR μ F w s ((b.toList.drop a).take m)/\∀ j u,((b.toList.drop a).take m)[j]? = some u->w.cell? ⟨d.blk,a+j,none⟩=some u:=by
 cases C with
 | own _ _ _ _ _ _ d n k1 k2 L M N O =>
 simp only [aK] at e;split at e
 ·rename_i o ty2 l r;split at e
  ·rename_i y;obtain ⟨D,E,e3⟩:=y;cases e;obtain ⟨b,g,q,G,I,J,v,x,K⟩:=gw hH r k1;have B:((b.toList.drop a).take m).length=m:=by simp; omega
   refine ⟨d,n,b,ty2,g,o,l,k1,rfl,r,q,zO,fun h=>(x h).2,B,⟨by simp; omega,fun i c u hi k=>?_⟩,fun j u hj=>?_⟩
   ·rw [WW] at hi k;rw [XP] at hi;split at hi
    ·rename_i A;rw [if_pos A] at k;rw [WX] at hi k;exact v _ c u hi (by simpa using k)
    ·cases hi
   ·rw [qh q];rw [WW] at hj;split at hj
    ·rw [WX] at hj; simpa using hj
    ·cases hj
  ·cases e
 ·cases e
def Qm {μ:Mu} {F:Nat->Prop} {w:World} {b n c sz:Nat} {ex:Bool} {x:Value} (h:VR μ F w (.own b 0 n c sz ex) x):∃ L cap,μ b=some L/\L.sz=sz/\n<=c/\c<=cap/\cap*sz<=L.N/\x=.slice (some ⟨L.blk,0,none⟩) n cap:=by
 cases h with
 | own _ _ _ _ _ _ L cap k1 k2 a d e f=>exact ⟨L,cap,k1,k2,a,d,zO,rfl⟩
def zI {μ:Mu} {F:Nat->Prop} {w:World} {vs:List Value} {a b c:AV} (h:LR μ F w [a,b,c] vs):∃ x y z,vs=[x,y,z]/\VR μ F w a x/\VR μ F w b y/\VR μ F w c z:=by
 have hl:=h.1
 match vs,hl with
 | [x,y,z],_=>exact ⟨x,y,z,rfl,h.head,h.tail.head,h.tail.tail.head⟩
set_option maxRecDepth 100000 in
def extOK_insert:ExtOK Tryz.prog 182 (.insert 1 24 38):=by
 intro H args v H' h μ F w vs fence rd nn G hH hl;have af:sizeOf? Tryz.prog 38=some 1:=by
  obtain ⟨i0,hi,h0,h1,h2⟩:=info_parts Ins182.iE;simp [sizeOf?,hi,h1]
 have ae:μ H.next=none:=kS hH (Jv _)
 have J:∀ k,(Builtin.zeroCells (Value.slice none 0 0).cells k).size=k:=fun k=>by rw [yX]; simp [Value.cells]
 rcases QI h with ⟨b2,f,m,c2,ao,IA,R,rfl,V,h1,h2,h3,h4,rfl,rfl⟩ | ⟨b,n,c,ex,i,b2,f,m,c2,ao,IA,R,cs,ah,ty2,rfl,V,hb,ad,h1,h2,h3,h4,h5,h6,M,h8,rfl,rfl⟩
 ·obtain ⟨x,y,z,rfl,hx,hy,Y⟩:=zI hl;cases hx;cases hy;obtain ⟨o,t,q,ty2,aj,ah,am,k1,rfl,Z,K,g2,-,s,p,B⟩:=F4 hH Y V;refine vG G ((Ins182.end_grow none 0 0 o.blk f m t [] ((q.toList.drop f).take m) w h1 (Jv _) zO zO rfl s (fun _=>rfl) (fun a h=>by cases h) B (p.one h4)).mono fun e w' ⟨he,g⟩=>?_);subst g;rw [Xg] at he;have hge:=Go.grownCap_ge w m 0 38;simp only [Xg,XS];obtain ⟨μ',q1,q2,q3⟩:=JK (P:=Tryz.prog) (H:=H) (A:=((q.toList.drop f).take m).toArray++Builtin.zeroCells (Value.slice none 0 0).cells (grownCap w m 0 38-m)) (w1:=w.drew) (k:=m) (cap':=grownCap w m 0 38) (hH.bump 1) rfl ae af p s
   (fun j hj=>by rw [XT (by simp [s]; omega)]; simp) hge (by simp only [YM,Y2,s,J]; omega) rfl Tp.draw rfl rfl
  exact ⟨_,he,μ',q1,q2,AL q3⟩
 ·obtain ⟨x,y,z,rfl,hx,hy,Y⟩:=zI hl;obtain ⟨L,cap,r1,r2,r3,r4,r5,rfl⟩:=Qm hx;cases hy;obtain ⟨o,t,q,ar,aj,aq,am,k1,rfl,Z,K,g2,ak,s,p,B⟩:=F4 hH Y V;rw [ad] at Z;cases Z;have al:=ak rfl;subst al;obtain ⟨arr,fr,p1,p2,p3,p4,p5,p6,p7⟩:=gw hH hb r1;obtain ⟨-,rfl⟩:=p6 rfl;rw [XP] at h4 r5;have hne:o.blk≠L.blk:=fun e=>h1 (hH.inj b b2 _ _ L o hb ad r1 k1 e.symm);have X:(arr.toList.take n).length=n:=by simp; omega
  have O:LR μ F w cs (arr.toList.take n):=by
   refine ⟨by simp; omega,fun i c u hi Q=>?_⟩;rw [WW] at Q;split at Q
   ·exact p5 i c u hi (by simpa using Q)
   ·cases Q
  have T:∀ j u,(arr.toList.take n)[j]? = some u->w.cell? ⟨L.blk,0+j,none⟩=some u:=fun j u hj=>by
   rw [qh p1,Xg];rw [WW] at hj;split at hj
   ·simpa using hj
   ·cases hj
  have hV:LR μ F w (cs.take (i*1)++R++cs.drop (i*1)) ((arr.toList.take n).take i++(q.toList.drop f).take m++(arr.toList.take n).drop i):=by
   rw [XP];exact ((O.take i).append p).append (O.drop i)
  have aa:((arr.toList.take n).take i++(q.toList.drop f).take m++(arr.toList.take n).drop i).length=n+m:=by
   simp only [WM,WU,XF,s,X]
   have:=X
   rw [WU] at this;omega
  generalize hC:arr.toList.take n=C at *
  generalize hD:(q.toList.drop f).take m=D at *
  have d:=X;have l:=s;have ab:∀ j,j<n->arr[j]? = C[j]?:=fun j hj=>by rw [<- hC,WW,if_pos hj]; simp
  have N:∀ j,j<n+m->(C.take i++D++C.drop i)[j]? = if j<i then C[j]? else if j<i+m then D[j-i]? else C[j-m]?:=by
   intro j hj;have r:(C.take i).length=i:=by rw [WU]; omega
   by_cases q1:j<i
   ·rw [if_pos q1,W4 (by rw [WM,r]; omega),W4 zO,WW,if_pos q1]
   ·rw [if_neg q1];by_cases q2:j<i+m
    ·rw [if_pos q2,W4 (by rw [WM,r]; omega),Xm zO,r]
    ·rw [if_neg q2,Xm (by rw [WM,r]; omega),WM,r,WX];congr 1; omega
  have ag:∀ j,j<cap->(w.cell? ⟨L.blk,0+j,none⟩).isSome=true:=fun j hj=>by
   rw [qh p1,Xg,XN zO]; rfl
  by_cases W:n+m<=cap
  ·
   have fin:∀ (A:Array Value) (w':World),A.size=L.N->(∀ j,j<n+m->A[j]? = (C.take i++D++C.drop i)[j]?)->w'.heap[L.blk]? = some (.cells A 38 (0,0))->(∀ c,c≠L.blk->w'.heap[c]? = w.heap[c]?)->w'.heap.size=w.heap.size->Tp w w'->w'.os=w.os->w'.output=w.output ->
     ∃ μ',iS sZ Tryz.prog μ F H w (.own H.next 0 (n+m) (n+m) 1 false) (({ H with next:=H.next+1 }:Heap).kill b |>.put H.next (.cells (cs.take (i*1)++R++cs.drop (i*1)) 38 true)) (.slice (some ⟨L.blk,0,none⟩) (n+m) cap) w' μ':=by
    intro A w' E a2 a3 a4 a5 S a7 a8;obtain ⟨μ',q1,q2,q3⟩:=QH (P:=Tryz.prog) (A:=A) (w':=w') (k:=n+m) (cap:=cap) hH hb r1 r2 hV aa a2 W E r5 a3 a4 a5 S a7 a8;exact ⟨μ',q1,q2,q3⟩
   by_cases U:i=n
   ·subst U;refine vG G ((Ins182.end_room L.blk 0 i cap o.blk f m t D w h2 W zO l (fun j hj=>by rw [Xz]; exact ag _ zO) (fun j _=>u3 p1 _) B (p.one M)).mono fun e w' ⟨he,g⟩=>?_);subst g;obtain ⟨s1,s2,s3,s4,s5,s6⟩:=nG L.blk D (0+i) w arr 38 (0,0) p1;obtain ⟨μ',hd⟩:=fin _ _ ((jm _ _ _).trans p2) (fun j hj=>by
     rw [pb _ _ _ _ zO,N j hj,l,Xg];by_cases q1:j<i
     ·rw [if_neg zO,if_pos q1,ab j q1]
     ·rw [if_pos zO,if_neg q1,if_pos zO]) s1 s2 s3 s4 s5 s6
    exact ⟨_,he,μ',hd⟩
   ·refine vG G ((Ins182.shift L.blk 0 n cap i o.blk f m t C D w zO h2 W zO hne d l T (fun j hj=>ag j zO) (fun j _=>u3 p1 _) B (O.one h8) (p.one M)
     ty2 38 q.size arr.size (by simp [World.shape?,K]) (by simp [World.shape?,p1]) zO (u3 K _) (u3 K _)).mono fun e w' ⟨he,g⟩=>?_)
    subst g;obtain ⟨s1,s2,s3,s4,s5,s6⟩:=nG L.blk (C.drop i) (0+(i+m)) w.drew arr 38 (0,0) p1;obtain ⟨t1,t2,t3,t4,t5,t6⟩:=nG L.blk D (0+i) _ _ 38 (0,0) s1;obtain ⟨μ',hd⟩:=fin _ _ (by rw [jm,jm]; exact p2) (fun j hj=>by
     rw [pb _ _ _ _ (by rw [jm]; omega),pb _ _ _ _ zO,N j hj,l,Xg,Xg,XF,d];by_cases q1:j<i
     ·rw [if_neg zO,if_neg zO,if_pos q1,ab j zO]
     ·by_cases q2:j<i+m
      ·rw [if_pos zO,if_neg q1,if_pos q2]
      ·rw [if_neg zO,if_pos zO,if_neg q1,if_neg q2,WX];congr 1; omega) t1 (fun c hc=>(t2 c hc).trans (s2 c hc)) (t3.trans s3) ((Tp.draw.trans s4).trans t4) (t5.trans s5) (t6.trans s6)
    exact ⟨_,he,μ',hd⟩
  ·
   have hge:=Go.grownCap_ge w (n+m) cap 38;obtain ⟨z1,z2⟩:=uA (I:=fun x=>x=H.next) (hH.bump 1) b;have fin:∀ (A:Array Value) (w1:World),A.size=grownCap w (n+m) cap 38->(∀ j,j<n+m->A[j]? = (C.take i++D++C.drop i)[j]?)->w1.heap=w.heap->Tp w w1->w1.os=w.os->w1.output=w.output ->
     ∃ μ',iS sZ Tryz.prog μ F H w (.own H.next 0 (n+m) (n+m) 1 false) (({ H with next:=H.next+1 }:Heap).kill b |>.put H.next (.cells (cs.take (i*1)++R++cs.drop (i*1)) 38 true)) (.slice (some ⟨w.heap.size,0,none⟩) (n+m) (grownCap w (n+m) cap 38)) (w1.alloc (.cells A 38)) μ':=by
    intro A w1 E a2 a3 a4 a5 S;obtain ⟨μ',q1,q2,q3⟩:=JK (P:=Tryz.prog) (H:=H) (A:=A) (w1:=w1) (k:=n+m) (cap':=grownCap w (n+m) cap 38) z1 rfl ae af hV aa a2 hge E a3 a4 a5 S;exact ⟨μ',q1,q2,AL (z2.trans q3)⟩
   by_cases U:i=n
   ·subst U;refine vG G ((Ins182.end_grow (some ⟨L.blk,0,none⟩) i cap o.blk f m t C D w h2 zO zO zO d l (fun h=>by cases h) (fun a ha j u hj=>by cases ha; rw [j9]; exact T j u hj) B (p.one M)).mono fun e w' ⟨he,g⟩=>?_);subst g;obtain ⟨μ',hd⟩:=fin ((C++D).toArray++Builtin.zeroCells (Value.slice none 0 0).cells (grownCap w (i+m) cap 38-(i+m))) w.drew (by simp only [YM,Y2,WM,d,l,J]; omega) (fun j hj=>by
     rw [XT (by simp [d,l]; omega),N j hj];have e0:(C++D).toArray[j]? = (C++D)[j]?:=by simp
     rw [e0];by_cases q1:j<i
     ·rw [if_pos q1,W4 zO]
     ·rw [if_neg q1,if_pos zO,Xm zO,d]) rfl Tp.draw rfl rfl
    exact ⟨_,he,μ',hd⟩
   ·refine vG G ((Ins182.grow L.blk 0 n cap i o.blk f m t C D w zO h2 zO zO zO d l T B (O.one h8) (p.one M)).mono fun e w' ⟨he,g⟩=>?_);have r:∀ A:Array Value,(((w.alloc (.cells A 38)).drew.setCells w.heap.size i D).drew).setCells w.heap.size (i+m) (C.drop i)=w.drew.drew.alloc (.cells (tj (tj A i D) (i+m) (C.drop i)) 38):=fun A=>by
     have E:(w.alloc (.cells A 38)).drew=w.drew.alloc (.cells A 38):=rfl;have a2:(w.drew.alloc (.cells A 38)).setCells w.heap.size i D=w.drew.alloc (.cells (tj A i D) 38):=nA w.drew 38 D i A;have a3:(w.drew.alloc (.cells (tj A i D) 38)).drew=w.drew.drew.alloc (.cells (tj A i D) 38):=rfl;rw [E,a2,a3];exact nA w.drew.drew 38 (C.drop i) (i+m) (tj A i D)
    rw [r] at g;subst g;obtain ⟨μ',hd⟩:=fin (tj (tj ((C.take i).toArray++Builtin.zeroCells (Value.slice none 0 0).cells (n+m-i)++Builtin.zeroCells (Value.slice none 0 0).cells (grownCap w (n+m) cap 38-(n+m))) i D) (i+m) (C.drop i)) w.drew.drew (by
      rw [jm,jm];simp only [YM,Y2,WU,d,J]; omega) (fun j hj=>by
     have hA0:((C.take i).toArray++Builtin.zeroCells (Value.slice none 0 0).cells (n+m-i)++Builtin.zeroCells (Value.slice none 0 0).cells (grownCap w (n+m) cap 38-(n+m))).size=grownCap w (n+m) cap 38:=by
      simp only [YM,Y2,WU,d,J]; omega
     rw [pb _ _ _ _ (by rw [jm,hA0]; omega),pb _ _ _ _ (by rw [hA0]; omega),N j hj,l,XF,d];by_cases q1:j<i
     ·rw [if_neg zO,if_neg zO,if_pos q1,XT (by simp only [YM,Y2,WU,d,J]; omega),XT (by simp only [Y2,WU,d]; omega)];simp [q1]
     ·by_cases q2:j<i+m
      ·rw [if_neg zO,if_pos zO,if_neg q1,if_pos q2]
      ·rw [if_pos zO,if_neg q1,if_neg q2,WX];congr 1; omega) rfl (Tp.draw.trans Tp.draw) rfl rfl
    exact ⟨_,he,μ',hd⟩
end Go.Proofs.YtiigaeehghcjiaaGreat.Ev.Ok182
namespace Go.Proofs.YtiigaeehghcjiaaGreat.Ev.So100
open Go Go.RowKit Go.Sort Go.Shelf Go.Lib Go.Proofs.YtiigaeehghcjiaaGreat.Ev
set_option maxRecDepth 100000
def Wy:Go.Shelf.Ren:=⟨fun | 6=>100 | 15=>85 | 14=>135 | 28=>117 | 29=>118 | 20=>163 | 21=>164 | 22=>165 | 23=>166 | 24=>167 | 25=>168 | 26=>169 | 27=>170 | 46=>187 | 47=>142 | 48=>143 | 49=>188 | 50=>189 | 57=>200 | n=>n,fun | 22=>101 | 24=>38 | 25=>94 | 3=>3 | 39=>116 | 0=>0 | 53=>153 | 55=>98 | 4=>4 | 46=>145 | 45=>144 | 50=>150 | 5=>5 | 9=>9 | 66=>173 | 70=>177 | 76=>202 | 77=>203 | n=>n,fun | n=>n⟩
def Wz:Go.Proofs.SlLaysF.n6 Tryz.prog Wy:={
 mixed:=by kernel_rfl
 f6:=⟨Tryz.f100.name,by decide,Tryz.func100.trans (congrArg some (by kernel_rfl))⟩
 f14:=⟨Tryz.f135.name,by decide,Tryz.func135.trans (congrArg some (by kernel_rfl))⟩
 f15:=Tryz.func85.trans (congrArg some (by kernel_rfl))
 f20:=⟨Tryz.f163.name,by decide,Tryz.func163.trans (congrArg some (by kernel_rfl))⟩
 f21:=⟨Tryz.f164.name,by decide,Tryz.func164.trans (congrArg some (by kernel_rfl))⟩
 f22:=⟨Tryz.f165.name,by decide,Tryz.func165.trans (congrArg some (by kernel_rfl))⟩
 f23:=⟨Tryz.f166.name,by decide,Tryz.func166.trans (congrArg some (by kernel_rfl))⟩
 f24:=⟨Tryz.f167.name,by decide,Tryz.func167.trans (congrArg some (by kernel_rfl))⟩
 f25:=⟨Tryz.f168.name,by decide,Tryz.func168.trans (congrArg some (by kernel_rfl))⟩
 f26:=⟨Tryz.f169.name,by decide,Tryz.func169.trans (congrArg some (by kernel_rfl))⟩
 f27:=⟨Tryz.f170.name,by decide,Tryz.func170.trans (congrArg some (by kernel_rfl))⟩
 f28:=Tryz.func117.trans (congrArg some (by kernel_rfl))
 f29:=Tryz.func118.trans (congrArg some (by kernel_rfl))
 f46:=⟨Tryz.f187.name,by decide,Tryz.func187.trans (congrArg some (by kernel_rfl))⟩
 f47:=Tryz.func142.trans (congrArg some (by kernel_rfl))
 f48:=Tryz.func143.trans (congrArg some (by kernel_rfl))
 f49:=⟨Tryz.f188.name,by decide,Tryz.func188.trans (congrArg some (by kernel_rfl))⟩
 f50:=⟨Tryz.f189.name,by decide,Tryz.func189.trans (congrArg some (by kernel_rfl))⟩
 f57:=⟨Tryz.f200.name,by decide,Tryz.func200.trans (congrArg some (by kernel_rfl))⟩
 t0:=Tryz.underlying0
 a0:=Tryz.isAgg0
 z0:=Tryz.sizeOf0
 v0:=Tryz.zeroValue0
 t3:=Tryz.underlying3
 a3:=Tryz.isAgg3
 z3:=Tryz.sizeOf3
 v3:=Tryz.zeroValue3
 t4:=Tryz.underlying4
 a4:=Tryz.isAgg4
 z4:=Tryz.sizeOf4
 v4:=Tryz.zeroValue4
 t5:=Tryz.underlying5
 a5:=Tryz.isAgg5
 z5:=Tryz.sizeOf5
 v5:=Tryz.zeroValue5
 t9:=Tryz.underlying9
 a9:=Tryz.isAgg9
 z9:=Tryz.sizeOf9
 v9:=Tryz.zeroValue9
 t22:=Tryz.underlying101
 a22:=Tryz.isAgg101
 z22:=Tryz.sizeOf101
 v22:=Tryz.zeroValue101
 a24:=Tryz.isAgg38
 z24:=Tryz.sizeOf38
 t25:=Tryz.underlying94
 a25:=Tryz.isAgg94
 z25:=Tryz.sizeOf94
 v25:=Tryz.zeroValue94
 t39:=Tryz.underlying116
 a39:=Tryz.isAgg116
 z39:=Tryz.sizeOf116
 v39:=Tryz.zeroValue116
 t45:=Tryz.underlying144
 a45:=Tryz.isAgg144
 z45:=Tryz.sizeOf144
 v45:=Tryz.zeroValue144
 t46:=Tryz.underlying145
 a46:=Tryz.isAgg145
 z46:=Tryz.sizeOf145
 v46:=Tryz.zeroValue145
 t50:=Tryz.underlying150
 a50:=Tryz.isAgg150
 z50:=Tryz.sizeOf150
 v50:=Tryz.zeroValue150
 t53:=Tryz.underlying153
 a53:=Tryz.isAgg153
 z53:=Tryz.sizeOf153
 v53:=Tryz.zeroValue153
 t55:=Tryz.underlying98
 a55:=Tryz.isAgg98
 z55:=Tryz.sizeOf98
 v55:=Tryz.zeroValue98
 t66:=Tryz.underlying173
 a66:=Tryz.isAgg173
 z66:=Tryz.sizeOf173
 v66:=Tryz.zeroValue173
 t70:=Tryz.underlying177
 a70:=Tryz.isAgg177
 z70:=Tryz.sizeOf177
 v70:=Tryz.zeroValue177
 t76:=Tryz.underlying202
 a76:=Tryz.isAgg202
 z76:=Tryz.sizeOf202
 v76:=Tryz.zeroValue202
 t77:=Tryz.underlying203
 a77:=Tryz.isAgg203
 z77:=Tryz.sizeOf203
 v77:=Tryz.zeroValue203 }
def WA:Pg Tryz.prog 100 [101]:=by
 refine ⟨⟨Tryz.f100,Tryz.func100,by kernel_rfl,by decide +kernel⟩,trivial,?_,?_,?_⟩
 ·intro g hg args w;simp only [WV,List.not_mem_nil,or_false] at hg;subst hg;exact enters_of Tryz.func101 (by kernel_rfl) rfl args w
 ·intro p cap d w;exact AnyF.slices_SortFunc_none { Wz with } p cap d w
 ·intro k enc b g a blk cap w hg h1 e hT i hH f j;have c:∀ args w,(callFunc g args).run Tryz.prog w=.ok (.enter g args) w:=by
   intro args w;simp only [WV,List.not_mem_nil,or_false] at hg;subst hg;exact enters_of Tryz.func101 (by kernel_rfl) rfl args w
  have hs:(List.finRange (k+1)).toArray.size=k+1:=by simp
  have h:=Any.slices_SortFunc_total Wz enc h1 b e g a blk 0 cap (List.finRange (k+1)).toArray w c (by rw [hs]; exact i) hH f (by rw [hs]; exact j) hT;rw [hs] at h
  change Calls Tryz.prog 100 _ _ _ at h
  exact h
def extOK:ExtOK Tryz.prog 100 (.sortF 38 [101]):=WA
end Go.Proofs.YtiigaeehghcjiaaGreat.Ev.So100
