/- A part. -/
import Derived.Test.YtiigaeehghcjiaaGreatA0
import Derived.Test.YtiigaeehghcjiaaGreatN48
import Derived.Test.YtiigaeehghcjiaaGreatN38
import Derived.Test.YtiigaeehghcjiaaGreatN22
import Derived.Test.YtiigaeehghcjiaaGreatGens
import Derived.Test.YtiigaeehghcjiaaGreatN6
set_option linter.all false
namespace Go.Proofs.YtiigaeehghcjiaaGreat.Lin
def JM {α:Type} {P:α->V->Prop}:∀ (l:List α) (I:List V),l.Nodup->(∀ b∈l,∃ i∈I,P b i)->(∀ b∈l,∀ b'∈l,∀ i,P b i->P b' i->b=b')->l.length<=I.length
 | [],I,_,_,_=>by simp
 | b :: l,I,hn,h,hj=>by
  obtain ⟨i,hi,hp⟩:=h b (WH ..);obtain ⟨d,j⟩:=Y3.1 hn;have h1:=JM l (I.erase i) j (fun b' a=>by
   obtain ⟨g,f,c⟩:=h b' (SO _ a);refine ⟨g,(List.mem_erase_of_ne fun e=>?_).2 f,c⟩;rw [e] at c
   have:=hj b (WH ..) b' (SO _ a) i hp c
   rw [this] at d;exact d a) fun x hx y hy=>hj x (SO _ hx) y (SO _ hy)
  rw [List.length_erase_of_mem hi] at h1
  have:=List.length_pos_of_mem hi
  rw [W5];omega
def QP {d:Nat} {E I L R A B:List V} (K:∀ a∈E,a.length=d) (o:∀ a∈I,a.length=d) (h:DD d (· ∈ E) (· ∈ I) (· ∈ L) R) (h':DD d (· ∈ L) (· ∈ R) (· ∈ A) B) {b:V} (hb:b∈B) :
  ∃ i∈I,∀ s∈R,dot s i=0 ↔ dot s b=0:=by
 have m:=h'.keep b hb;have J:∀ i∈I,Keep d (· ∈ L) (· ∈ R) i:=fun i hi=>⟨o i hi,fun l hl=>by rw [dot_comm]; exact h.lineI l hl i hi,fun r hr=>by rw [dot_comm]; exact (h.keep r hr).ge i hi⟩
 obtain ⟨z,g,Q⟩:=h'.off b hb;have P:=m.ge z g;have G:∃ i∈I,(∀ s∈R,dot s b=0->dot s i=0)/\∃ s∈R,dot s i≠0:=by
  apply W0
  intro C;obtain ⟨act,p⟩:∃ act,act=R.filter fun a=>decide (dot a b=0):=⟨_,rfl⟩
  have ha:∀ a∈act,a∈R/\dot a b=0:=fun a h=>by rw [p,WO] at h; exact ⟨h.1,of_decide_eq_true h.2⟩
  have f:∀ a∈act,a.length=d:=fun a h1=>h.lenR a (ha a h1).1;obtain ⟨N,v,u⟩:=zR (fun s=>dot z s) I;have q:=uO f;have n:(zM d act).length=z.length:=q.trans (h.lenR z g).symm;have hy:Keep d (· ∈ E) (· ∈ I) (mix N (zM d act) (-1) z):=by
   refine ⟨mix_length q (h.lenR z g),fun e he=>?_,fun i hi=>?_⟩
   ·rw [aW _ _ _ n,sA f fun a h1=>(h.keep a (ha a h1).1).eq e he,(h.keep z g).eq e he]
    simp
   ·rw [aW _ _ _ n];by_cases hs:∃ s∈R,dot s i≠0
    ·have hp:∃ s∈R,dot s b=0/\dot s i≠0:=by
      apply W0
      intro hn;exact C ⟨i,hi,fun s hs h0=>W0 fun h1=>hn ⟨s,hs,h0,h1⟩,hs⟩
     obtain ⟨s,hs,h0,h1⟩:=hp;have D:=(xV (x:=i) f fun a h1=>(h.keep a (ha a h1).1).ge i hi).2 ⟨s,by rw [p,WO]; exact ⟨hs,by simpa using h0⟩,by rw [dot_comm]; exact h1⟩;have M:=u i hi;rw [dot_comm i z]
     have:=Int.mul_le_mul_of_nonneg_left D v
     omega
    ·have h0:∀ s∈R,dot s i=0:=fun s j=>W0 fun h1=>hs ⟨s,j,h1⟩;rw [sA f fun a h1=>by rw [dot_comm]; exact h0 a (ha a h1).1,dot_comm i z,h0 z g]
     simp
  have h1:=(h.all _ hy).dot_nonneg (a:=b) h.lenL h.lenR (fun l hl=>by rw [dot_comm]; exact m.eq l hl) (fun r hr=>by rw [dot_comm]; exact m.ge r hr);rw [aW _ _ _ n,sA f fun a h1=>by rw [dot_comm]; exact (ha a h1).2,dot_comm b z] at h1;omega
 obtain ⟨i,hi,hs,t,F,y⟩:=G;refine ⟨i,hi,fun s j=>⟨fun h0=>?_,hs s j⟩⟩;obtain ⟨k,c,O,hc,H⟩:=h'.ext b hb i (J i hi) hs;have key:∀ s∈R,k*dot s i=c*dot s b:=fun s hs=>by
  have:=Con.dot_zero (a:=s) h'.lenL (fun r h=>h.elim) (fun x hx=>h'.lineI x hx s hs) (fun r h=>h.elim) H
  rw [aW _ _ _ ((o i hi).trans m.len.symm),Int.neg_mul] at this;omega
 have w:c≠0:=fun e=>by
  have:=key t F
  rw [e] at this;rcases W2.1 (show k*dot t i=0 by omega) with h1 | h1
  ·omega
  ·exact y h1
 have:=key s j
 rw [h0] at this;rcases W2.1 (show c*dot s b=0 by omega) with h1 | h1
 ·exact absurd h1 w
 ·exact h1
def CC {d:Nat} {E I L R A B:List V} (c:∀ a∈E,a.length=d) (e:∀ a∈I,a.length=d) (h:DD d (· ∈ E) (· ∈ I) (· ∈ L) R) (h':yV d (· ∈ L) (· ∈ R) A B):B.length<=I.length:=by
 refine JM (P:=fun b i=>∀ s∈R,dot s i=0 ↔ dot s b=0) B I (told_nodup h') (fun b hb=>QP c e h h'.dd hb) fun b hb b' f i h1 h2=>?_
 apply W0
 intro hne;obtain ⟨s,hs,h3,h4⟩:=Hv h' f hb hne;exact h4 ((h1 s hs).1 ((h2 s hs).2 h3))
section
variable {n:Nat} {l:List (V × Bool)}
def own_len (h:∀ c∈l,c.1.length=n+1):(consP n (gensP n l)).length<=l.length+n+2:=by
 by_cases hs:(gensR (n+1) (eqsOf l) (ineqsOf n l)).any (fun r=>decide (0<hd1 r))=true
 ·obtain ⟨p1,p2,p3⟩:=nw hs;have t1:=gens_told (eqs_len h) (ineqs_len h);have a:=gens_told t1.dd.lenL t1.dd.lenR;have h1:=CC (eqs_len h) (ineqs_len h) t1.dd a;have h2:=Ev.ech_len a.form;have h3:(ineqsOf n l).length<=l.length+1:=by
   unfold ineqsOf;rw [W5,Nj]
   have:=XO (fun c:V × Bool=>!c.2) l
   omega
  unfold consP;rw [if_pos p3,p1,p2,WM,Nj,Nj]
  have:=XO (fun r:V=>!decide (r=unitC n 1)) (gensR (n+1) (gensL (n+1) (eqsOf l) (ineqsOf n l)) (gensR (n+1) (eqsOf l) (ineqsOf n l)))
  omega
 ·have e:gensP n l=[]:=by unfold gensP; rw [if_neg hs]
  rw [e];show 1<=_;omega
def span_len {g:List (Nat × V)} (hg:ValidG n g):(gensP n (consP n g)).length<=g.length+n+1:=by
 by_cases h3:g.any (fun x=>x.1 == 3)=true
 ·have c:∀ a∈linesOf g,a.length=n+1:=fun a ha=>(hg _ (mem_lines.1 ha)).1;have d:∀ a∈raysOf g,a.length=n+1:=fun a ha=>by obtain ⟨k,-,h⟩:=mem_rays.1 ha; exact (hg _ h).1
  have t:=gens_told c d;have hl:=lD (n:=n) (g:=g) fun x hx=>(hg x hx).1;have m:=gens_told (eqs_len hl) (ineqs_len hl);have t3:=gens_told t.dd.lenL t.dd.lenR;have i:∀ x,de n (consP n g) x ↔ Keep (n+1) (· ∈ gensL (n+1) (linesOf g) (raysOf g)) (· ∈ gensR (n+1) (linesOf g) (raysOf g)) x:=fun x=>by
   rw [mO h3];refine ⟨fun h=>h.2,fun h=>⟨?_,h⟩⟩;have hc:=(CF c d t.dd t3.dd)
   have j:Keep (n+1) (· ∈ linesOf g) (· ∈ raysOf g) (unitC n 1):=by
    refine ⟨unitC_len n 1,fun a ha=>?_,fun b hb=>?_⟩
    ·rw [dot_comm,iC];obtain ⟨-,-,q⟩:=hg _ (mem_lines.1 ha)
     have:hd1 a=0:=q (show ¬ (1:Nat)=3 by omega)
     omega
    ·rw [dot_comm,iC];obtain ⟨k,-,hm⟩:=mem_rays.1 hb;obtain ⟨-,q1,q2⟩:=hg _ hm;by_cases f:k=3
     ·have:0<hd1 b:=q1 f
      omega
     ·have:hd1 b=0:=q2 f
      omega
   have:=(t.dd.all _ j).dot_nonneg (a:=x) t.dd.lenL t.dd.lenR (fun l hl=>by rw [dot_comm]; exact h.eq l hl) (fun r hr=>by rw [dot_comm]; exact h.ge r hr)
   rw [dot_comm,iC] at this;omega
  obtain ⟨q1,q2⟩:=qQ m t3 i;have h1:=CC c d t.dd t3;have h2:=Ev.ech_len t3.form;have h4:(raysOf g).length<=g.length:=by
   unfold raysOf;rw [Nj];exact XO _ _
  unfold gensP;split
  ·rw [q1,q2,WM,Nj,Nj];omega
  ·show 0<=_;omega
 ·have e:consP n g=[(unitC n (-1),false)]:=by unfold consP; rw [if_neg h3]
  rw [e,pK];show 0<=_;omega
end
section
variable {n:Nat} {l m:List (V × Bool)}
def sX (hne:gensP n l≠[]):(gensR (n+1) (eqsOf l) (ineqsOf n l)).any (fun r=>decide (0<hd1 r))=true:=by
 cases hs:(gensR (n+1) (eqsOf l) (ineqsOf n l)).any (fun r=>decide (0<hd1 r)) with
 | true=>rfl
 | false=>exact absurd (by unfold gensP; rw [if_neg (by rw [hs]; decide)]) hne
def mL (h:∀ c∈l,c.1.length=n+1):gensP n l≠[] ↔ ∃ x,de n l x/\0<hd1 x:=by
 constructor
 ·intro hne
  have:=sX hne
  rw [W7] at this;obtain ⟨r,hr,h0⟩:=this;exact ⟨r,NK h hr,of_decide_eq_true h0⟩
 ·rintro ⟨x,hx,h0⟩ he;have hs:¬ (gensR (n+1) (eqsOf l) (ineqsOf n l)).any (fun r=>decide (0<hd1 r))=true:=fun hs=>by
   have:=(nw hs).2.2
   rw [he] at this;cases this
  have t:=gens_told (eqs_len h) (ineqs_len h);have h1:∀ r∈gensR (n+1) (eqsOf l) (ineqsOf n l),dot (unitC n 1) r=0:=fun r hr=>by
   rw [iC];have h2:=(keepP_iff.1 (NK h hr)).2.1;have h3:¬ 0<hd1 r:=fun h3=>hs (W7.2 ⟨r,hr,by simpa using h3⟩);omega
  have h2:∀ r∈gensL (n+1) (eqsOf l) (ineqsOf n l),dot (unitC n 1) r=0:=fun r hr=>t.dd.lineI r hr _ (mem_ineqs.2 (.inl rfl))
  have:=(t.dd.all x hx).dot_zero t.dd.lenL t.dd.lenR h2 h1
  rw [iC] at this;omega
def cO {c:V × Bool} {g:Nat × V}:keepsP c g=true ↔ (if c.2=true\/g.1=1 then dot c.1 g.2=0 else 0<=dot c.1 g.2):=by
 unfold keepsP;by_cases h:c.2=true\/g.1=1
 ·rw [if_pos h,if_pos (by simpa using h)]; simp
 ·rw [if_neg h,if_neg (by simpa using h)]; simp
def zy (h:∀ c∈l,c.1.length=n+1) (hne:gensP n l≠[]) {c:V × Bool}:(∀ g∈gensP n l,keepsP c g=true) ↔ mm n l c:=by
 constructor
 ·intro b x hx;have t:=gens_told (eqs_len h) (ineqs_len h);have hs:=sX hne;have e:gensP n l=(gensL (n+1) (eqsOf l) (ineqsOf n l)).map (fun r=>(1,r))++(gensR (n+1) (eqsOf l) (ineqsOf n l)).map (fun r=>(kindOf r,r)):=by
   unfold gensP; rw [if_pos hs]
  have hL:∀ r∈gensL (n+1) (eqsOf l) (ineqsOf n l),dot c.1 r=0:=fun r hr=>by
   have:=b (1,r) (by rw [e]; exact XK _ (DT.2 ⟨r,hr,rfl⟩))
   rw [cO,if_pos (.inr rfl)] at this;exact this
  have a:∀ r∈gensR (n+1) (eqsOf l) (ineqsOf n l),(c.2=true->dot c.1 r=0)/\0<=dot c.1 r:=fun r hr=>by
   have:=b (kindOf r,r) (by rw [e]; exact Yb _ (DT.2 ⟨r,hr,rfl⟩))
   rw [cO] at this;split at this
   ·exact ⟨fun _=>this,by simp only at this; omega⟩
   ·rename_i hc;exact ⟨fun e=>absurd (.inl e) hc,this⟩
  exact ⟨fun hb=>(t.dd.all x hx).dot_zero t.dd.lenL t.dd.lenR hL fun r hr=>(a r hr).1 hb,(t.dd.all x hx).dot_nonneg t.dd.lenL t.dd.lenR hL fun r hr=>(a r hr).2⟩
 ·intro d g hg;obtain ⟨k1,k2⟩:=Ve h hg;exact p8 d k1 k2
def inP (G:List (Nat × V)) (K:List (V × Bool)):Bool:=G.all fun g=>K.all fun c=>keepsP c g
def inP_iff {G:List (Nat × V)} {K:List (V × Bool)}:inP G K=true ↔ ∀ g∈G,∀ c∈K,keepsP c g=true:=by
 unfold inP;rw [WT];exact ⟨fun h g hg=>WT.1 (h g hg),fun h g hg=>WT.2 (h g hg)⟩
def vE {x:V} (hx:de n l x) (a:∀ c∈m,mm n l c):de n m x:=by
 have:=keepP_iff.1 hx
 exact keepP_iff.2 ⟨this.1,this.2.1,fun c hc=>⟨(a c hc x hx).1,fun _=>(a c hc x hx).2⟩⟩
def in_iff (hl:∀ c∈l,c.1.length=n+1) (hm:∀ c∈m,c.1.length=n+1):inP (gensP n l) (consP n (gensP n m))=true ↔ (gensP n l=[]\/∀ x,de n l x->de n m x):=by
 rw [inP_iff];by_cases he:gensP n l=[]
 ·rw [he]; simp
 constructor
 ·intro h
  right
  have d:∀ c∈consP n (gensP n m),mm n l c:=fun c hc=>(zy hl he).1 fun g hg=>h g hg c hc;obtain ⟨a,f,p0⟩:=(mL hl).1 he;have b:gensP n m≠[]:=fun e=>by
   rw [e] at d
   have:=(d (unitC n (-1),false) (WL.2 rfl) a f).2
   rw [iC] at this;omega
  intro x hx;exact (FJ hm (sX b) x).1 (vE hx d)
 ·rintro (h | h)
  ·exact absurd h he
  obtain ⟨a,f,p0⟩:=(mL hl).1 he;have b:gensP n m≠[]:=(mL hm).2 ⟨a,h a f,p0⟩;intro g hg c hc;exact (zy hl he).2 (fun x hx=>Ce hc x ((FJ hm (sX b) x).2 (h x hx))) g hg
structure Own (n:Nat) (K:List (V × Bool)) (G:List (Nat × V)):Prop where
 rows:∀ c∈K,c.1.length=n+1
 gens:gensP n K=G
 cons:consP n G=K
def own_of (h:∀ c∈l,c.1.length=n+1):Own n (consP n (gensP n l)) (gensP n l):=⟨lD (sO h),K3 h,rfl⟩
def Own.valid {K:List (V × Bool)} {G:List (Nat × V)} (h:Own n K G):ValidG n G:=by rw [<- h.gens]; exact Gd h.rows
def Own.point {K:List (V × Bool)} {G:List (Nat × V)} (h:Own n K G) (hne:G≠[]):G.any (fun x=>x.1 == 3)=true:=by
 have:=h.gens; rw [<- this] at hne ⊢; exact HN hne
def Own.in_iff {K K':List (V × Bool)} {G G':List (Nat × V)} (h:Own n K G) (h':Own n K' G'):inP G K'=true ↔ (G=[]\/∀ x,de n K x->de n K' x):=by
 have:=Lin.in_iff (n:=n) h.rows h'.rows
 rw [h.gens,h'.gens,h'.cons] at this;exact this
section
variable {K K' Kr:List (V × Bool)} {G G' Gr:List (Nat × V)}
end
section
variable {g g':List (Nat × V)}
def wL (hg:ValidG n g) (h3:g.any (fun x=>x.1 == 3)=true):gensP n (consP n g)≠[]:=by
 have h4:=h3;rw [W7] at h4;obtain ⟨x,hx,e⟩:=h4;refine (mL (lD fun x hx=>(hg x hx).1)).2 ⟨x.2,(sC hg h3 hx).1,(hg x hx).2.1 (by simpa using e)⟩
def N0 (h3:¬ g.any (fun x=>x.1 == 3)=true):consP n g=[(unitC n (-1),false)]:=by
 unfold consP; rw [if_neg h3]
def KH (hg:ValidG n g):consP n (gensP n (consP n g))=consP n g:=by
 by_cases h3:g.any (fun x=>x.1 == 3)=true
 ·have d:∀ a∈linesOf g,a.length=n+1:=fun a ha=>(hg _ (mem_lines.1 ha)).1;have e:∀ a∈raysOf g,a.length=n+1:=fun a ha=>by obtain ⟨k,-,h⟩:=mem_rays.1 ha; exact (hg _ h).1
  have t:=gens_told d e;have hl:=lD (n:=n) (g:=g) fun x hx=>(hg x hx).1;have c:=gens_told (eqs_len hl) (ineqs_len hl);have hne:=wL hg h3;obtain ⟨p1,p2,p3⟩:=nw (sX hne);have t3:=gens_told c.dd.lenL c.dd.lenR;have f:∀ y,Keep (n+1) (· ∈ gensL (n+1) (eqsOf (consP n g)) (ineqsOf n (consP n g))) (· ∈ gensR (n+1) (eqsOf (consP n g)) (ineqsOf n (consP n g))) y ↔ Keep (n+1) (· ∈ linesOf g) (· ∈ raysOf g) y:=fun y=>by
   constructor
   ·intro hy;have key:∀ x,de n (consP n g) x->0<=dot y x:=fun x hx=>(c.dd.all x hx).dot_nonneg c.dd.lenL c.dd.lenR (fun l hl=>by rw [dot_comm]; exact hy.eq l hl) (fun r hr=>by rw [dot_comm]; exact hy.ge r hr);refine ⟨hy.len,fun a ha=>?_,fun b hb=>?_⟩
    ·obtain ⟨q1,q2⟩:=sC hg h3 (mem_lines.1 ha);have r1:=key _ q1;have r2:=key _ (q2 rfl);rw [dot_scl] at r2;rw [dot_comm];simp only at r1 r2;omega
    ·obtain ⟨k,-,hm⟩:=mem_rays.1 hb
     have:=key _ (sC hg h3 hm).1
     rw [dot_comm]; exact this
   ·intro hy;have hc:=t.dd.all y hy;have key:∀ x,de n (consP n g) x->0<=dot x y:=fun x hx=>by
     have:=((mO h3 x).1 hx).2
     exact hc.dot_nonneg t.dd.lenL t.dd.lenR (fun l hl=>by rw [dot_comm]; exact this.eq l hl) (fun r hr=>by rw [dot_comm]; exact this.ge r hr)
    refine ⟨hy.len,fun a ha=>?_,fun b hb=>?_⟩
    ·obtain ⟨q1,q2⟩:=Oh hl ha;have r1:=key _ q1;have r2:=key _ q2;rw [eS] at r2;omega
    ·exact key _ (NK hl hb)
  obtain ⟨u1,i⟩:=qQ t3 t f;show (if (gensP n (consP n g)).any (fun x=>x.1 == 3)=true then _ else _)=(if g.any (fun x=>x.1 == 3)=true then _ else _);rw [if_pos p3,if_pos h3,p1,p2,u1,i]
 ·rw [N0 h3,pK]; rfl
def own_span (hg:ValidG n g):Own n (consP n g) (gensP n (consP n g)):=⟨lD fun x hx=>(hg x hx).1,rfl,KH hg⟩
def Qb (hg:ValidG n g) (h3:g=[]\/g.any (fun x=>x.1 == 3)=true) {K:List (V × Bool)} (i:∀ c∈K,c.1.length=n+1):inP (gensP n (consP n g)) K=inP g K:=by
 rcases h3 with rfl | h3
 ·rw [show consP n []=[(unitC n (-1),false)] from rfl,pK]
 have o:∀ a∈linesOf g,a.length=n+1:=fun a ha=>(hg _ (mem_lines.1 ha)).1;have p:∀ a∈raysOf g,a.length=n+1:=fun a ha=>by obtain ⟨k,-,h⟩:=mem_rays.1 ha; exact (hg _ h).1
 have t:=gens_told o p;have hl:=lD (n:=n) (g:=g) fun x hx=>(hg x hx).1;rw [Xo,inP_iff,inP_iff];constructor
 ·intro h x hx c hc;have f:=(zy hl (wL hg h3)).1 fun g hg=>h g hg c hc;obtain ⟨q1,q2⟩:=sC hg h3 hx;exact p8 f q1 q2
 ·intro h x hx c hc;have f:mm n (consP n g) c:=fun y hy=>by
   have d:=((mO h3 y).1 hy).2;have j:∀ r∈linesOf g,dot c.1 r=0:=fun r hr=>by
    have:=h _ (mem_lines.1 hr) c hc
    rw [cO,if_pos (.inr rfl)] at this;exact this
   have m:∀ r∈raysOf g,(c.2=true->dot c.1 r=0)/\0<=dot c.1 r:=fun r hr=>by
    obtain ⟨k,d,hm⟩:=mem_rays.1 hr
    have:=h _ hm c hc
    rw [cO] at this;split at this
    ·exact ⟨fun _=>this,by simp only at this; omega⟩
    ·rename_i q;exact ⟨fun e=>absurd (.inl e) q,this⟩
   have k1:Keep (n+1) (· ∈ linesOf g) (· ∈ raysOf g) c.1:=⟨i c hc,fun a ha=>by rw [dot_comm]; exact j a ha,fun b hb=>by rw [dot_comm]; exact (m b hb).2⟩
   have p1:0<=dot c.1 y:=by
    have:=(t.dd.all _ k1).dot_nonneg (a:=y) t.dd.lenL t.dd.lenR (fun l hl=>by rw [dot_comm]; exact d.eq l hl) (fun r hr=>by rw [dot_comm]; exact d.ge r hr)
    rw [dot_comm]; exact this
   refine ⟨fun hb=>?_,p1⟩;have k2:Keep (n+1) (· ∈ linesOf g) (· ∈ raysOf g) (scl (-1) c.1):=⟨ag (i c hc),fun a ha=>by rw [dot_scl,dot_comm,j a ha]; rfl,fun b s=>by rw [dot_scl,dot_comm,(m b s).1 hb]; exact Yy _⟩
   have:=(t.dd.all _ k2).dot_nonneg (a:=y) t.dd.lenL t.dd.lenR (fun l hl=>by rw [dot_comm]; exact d.eq l hl) (fun r hr=>by rw [dot_comm]; exact d.ge r hr)
   rw [dot_scl,dot_comm] at this;omega
  obtain ⟨q1,q2⟩:=Ve hl hx;exact p8 f q1 q2
end
section
variable {K K' Kr:List (V × Bool)} {G G' Gr:List (Nat × V)}
end
end
end Go.Proofs.YtiigaeehghcjiaaGreat.Lin
namespace Go.Proofs.YtiigaeehghcjiaaGreat.Ev
open Go Nn
section
variable {tab:Nat->Option au} {H:Heap} {s:AV}
theorem GN {v:AV} (ov:One v) (b:Bool):io (.agg [v,.bool b])=some [v,.bool b]:=by simp [io,AV.cells,ov.2]; rfl
theorem GM {v:AV} (ov:One v) (k:Int):io (.agg [.int .u8 k,v])=some [.int .u8 k,v]:=by simp [io,AV.cells,ov.2]; rfl
def Ew (C:Code tab) (m:Wf H) {cs g:List AV} {x y:List Int × Bool} (hx:conE.R H cs x) (hy:conE.R H g y) (j:x.1.length<1099511627776) (l:∀ z∈x.1,fm z) :
  Ans tab (.fn gZ [.agg cs,.agg g]) H fun v H'=>v=.bool (decide (x=y))/\Kp H H':=by
 obtain ⟨v,rfl,c⟩:=hx;obtain ⟨w,rfl,d⟩:=hy;have ov:=c.one;have h:=d.one;obtain ⟨a,p⟩:=x;obtain ⟨b,q⟩:=y;have c:RowV H v a:=c;have d:RowV H w b:=d;refine bE C.q67 zU fun T hl e f=>?_;by_cases hb:p=q
 ·subst hb;refine zW (fy hl e f (GN ov) (GN h) (beq_self_eq_true (α:=Bool))) ?_;refine AnsH.eq (zw C zF (c.mono (zG H)) (d.mono (zG H)) j l) fun H2 i=>?_;obtain ⟨k2,_,_⟩:=zT H zK i;refine zW (aC hl e f) ?_;exact ⟨by simp,zK⟩
 ·have k:(p == q)=false:=by simpa using hb
  refine zW (fy hl e f (GN ov) (GN h) k) ?_;exact ⟨by simp [hb],zK⟩
def Eu (C:Code tab) (m:Wf H) {cs g:List AV} {x y:Nat × List Int} (hx:genE.R H cs x) (hy:genE.R H g y) (j:x.2.length<1099511627776) (l:∀ z∈x.2,fm z) :
  Ans tab (.fn gY [.agg cs,.agg g]) H fun v H'=>v=.bool (decide (x=y))/\Kp H H':=by
 obtain ⟨v,rfl,c⟩:=hx;obtain ⟨w,rfl,d⟩:=hy;have ov:=c.one;have h:=d.one;obtain ⟨p,a⟩:=x;obtain ⟨q,b⟩:=y;have c:RowV H v a:=c;have d:RowV H w b:=d;refine bE C.q68 zU fun T hl e f=>?_;by_cases hb:p=q
 ·subst hb;refine zW (cn hl e f (GM ov) (GM h)) ?_;refine AnsH.eq (zw C zF (c.mono (zG H)) (d.mono (zG H)) j l) fun H2 i=>?_;obtain ⟨k2,_,_⟩:=zT H zK i;refine zW (aC hl e f) ?_;exact ⟨by simp,zK⟩
 ·have k:¬ (p:Int)=(q:Int):=zO;refine zW (fy hl e f (GM ov) (GM h) k) ?_;exact ⟨by simp [hb],zK⟩
def B7 (C:Code tab) (R:Wf H) {a b:AV} {l m:List (List Int × Bool)} (ha:SlV conE t_api_Con H a l) (hb:SlV conE t_api_Con H b m) (P:l.length<1099511627776) (t:∀ r∈l,r.1.length<1099511627776/\∀ z∈r.1,fm z) :
  Ans tab (.fn aY [a,b,.fn (.func gZ) [] []]) H fun v H'=>v=.bool (decide (l=m))/\Kp H H':=by
 refine mz C.q69 zU fun T hl c d f=>?_;by_cases he:l.length=m.length
 ·have K:lenV b=some (.int .i64 (l.length:Int)):=by rw [hb.lenV,he]
  refine zW (fy hl c d f ha.lenV K) ?_;refine aq H [] (fun j _ _=>∀ q (h:q<l.length) (h':q<m.length),q<j->l[q]=m[q]) (a:=0) (N:=l.length) rfl (by refine zW (aZ hl c d f) ?_; rfl) (zV (aZ hl c d f)) (WG _) zO (by simp only [jL,hl]; rfl) rfl (fun _ _ _ _ h=>h) zK (fun q _ _ h=>by omega) ?_ ?_
  ·intro j T1 i _ hj g F n k o;have w1:=k.wf;have S:=k.le;have p:j<m.length:=zO;have M:ad T1 15=a:=(n.at_ 15 zU).trans (zV (aB hl c));have t1:ad T1 1=b:=(n.at_ 1 zU).trans (zV (cn hl c d f d));have O:ad T1 2=.fn (.func gZ) [] []:=(n.at_ 2 zU).trans (zV (cn hl c d f f));obtain ⟨_,⟨v,rfl,hr⟩,-,-,L⟩:=(ha.mono k.sub).at (zh hj);obtain ⟨_,⟨w,rfl,s⟩,-,-,L'⟩:=(hb.mono k.sub).at (zh p);have L:bc i (some 2) (az a (j*2))=some (.agg [v,.bool l[j].2]):=L;have L':bc i (some 2) (az b (j*2))=some (.agg [w,.bool m[j].2]):=L';have G:cG 2 a (.int .i64 (j:Int))=some (az a (j*2)):=SlV.idx ha .i64 j hj;have I:cG 2 b (.int .i64 (j:Int))=some (az b (j*2)):=SlV.idx hb .i64 j p;have ov:=hr.one;have U:=s.one;have D:=(Ldd.of w1 L).put;have A:=(Ldd.of w1 L).ld;have B:=(Ldd.of w1 L').put;have u:=(Ldd.of w1 L').ld;simp only [jL,hl] at g;refine zW (mo g M t1 O F G I D A B u) ?_;refine AnsH.eq (Ew C (x:=l[j]) (y:=m[j]) zF ⟨v,rfl,hr.mono (zG i)⟩ ⟨w,rfl,s.mono (zG i)⟩ (t _ (EL hj)).1 (t _ (EL hj)).2) fun H2 J=>?_;obtain ⟨k2,_,_⟩:=zT H zK J;cases hq:decide (l[j]=m[j]) with
   | true =>
    have hq:=of_decide_eq_true hq;refine zW g ?_;refine ⟨zK,fun q h h' Q=>?_⟩;by_cases e:q=j
    ·subst e; exact hq
    ·exact o q h h' zO
   | false =>
    have hq:=of_decide_eq_false hq;refine zW g ?_;refine ⟨?_,zK⟩;rw [decide_eq_false];intro e; subst e; exact hq rfl
  ·intro T1 i g n k o;simp only [jL,hl] at g;refine zW g ?_;exact ⟨by rw [decide_eq_true (jq he fun q h h'=>o q h h' h)],zK⟩
 ·have E:¬ (l.length:Int)=(m.length:Int):=zO;refine zW (lp hl c d f ha.lenV hb.lenV E he) ?_;refine ⟨?_,zK⟩;rw [decide_eq_false];intro e; subst e; exact he rfl
def B6 (C:Code tab) (R:Wf H) {a b:AV} {l m:List (Nat × List Int)} (ha:SlV genE al H a l) (hb:SlV genE al H b m) (P:l.length<1099511627776) (t:∀ r∈l,r.2.length<1099511627776/\∀ z∈r.2,fm z) :
  Ans tab (.fn aX [a,b,.fn (.func gY) [] []]) H fun v H'=>v=.bool (decide (l=m))/\Kp H H':=by
 refine mz C.q70 zU fun T hl c d f=>?_;by_cases he:l.length=m.length
 ·have K:lenV b=some (.int .i64 (l.length:Int)):=by rw [hb.lenV,he]
  refine zW (fy hl c d f ha.lenV K) ?_;refine aq H [] (fun j _ _=>∀ q (h:q<l.length) (h':q<m.length),q<j->l[q]=m[q]) (a:=0) (N:=l.length) rfl (by refine zW (aZ hl c d f) ?_; rfl) (zV (aZ hl c d f)) (WG _) zO (by simp only [jL,hl]; rfl) rfl (fun _ _ _ _ h=>h) zK (fun q _ _ h=>by omega) ?_ ?_
  ·intro j T1 i _ hj g F n k o;have w1:=k.wf;have S:=k.le;have p:j<m.length:=zO;have M:ad T1 15=a:=(n.at_ 15 zU).trans (zV (aB hl c));have t1:ad T1 1=b:=(n.at_ 1 zU).trans (zV (cn hl c d f d));have O:ad T1 2=.fn (.func gY) [] []:=(n.at_ 2 zU).trans (zV (cn hl c d f f));obtain ⟨_,⟨v,rfl,hr⟩,-,-,L⟩:=(ha.mono k.sub).at (zh hj);obtain ⟨_,⟨w,rfl,s⟩,-,-,L'⟩:=(hb.mono k.sub).at (zh p);have L:bc i (some 2) (az a (j*2))=some (.agg [.int .u8 (l[j].1:Int),v]):=L;have L':bc i (some 2) (az b (j*2))=some (.agg [.int .u8 (m[j].1:Int),w]):=L';have G:cG 2 a (.int .i64 (j:Int))=some (az a (j*2)):=SlV.idx ha .i64 j hj;have I:cG 2 b (.int .i64 (j:Int))=some (az b (j*2)):=SlV.idx hb .i64 j p;have ov:=hr.one;have U:=s.one;have D:=(Ldd.of w1 L).put;have A:=(Ldd.of w1 L).ld;have B:=(Ldd.of w1 L').put;have u:=(Ldd.of w1 L').ld;simp only [jL,hl] at g;refine zW (mo g M t1 O F G I D A B u) ?_;refine AnsH.eq (Eu C (x:=l[j]) (y:=m[j]) zF ⟨v,rfl,hr.mono (zG i)⟩ ⟨w,rfl,s.mono (zG i)⟩ (t _ (EL hj)).1 (t _ (EL hj)).2) fun H2 J=>?_;obtain ⟨k2,_,_⟩:=zT H zK J;cases hq:decide (l[j]=m[j]) with
   | true =>
    have hq:=of_decide_eq_true hq;refine zW g ?_;refine ⟨zK,fun q h h' Q=>?_⟩;by_cases e:q=j
    ·subst e; exact hq
    ·exact o q h h' zO
   | false =>
    have hq:=of_decide_eq_false hq;refine zW g ?_;refine ⟨?_,zK⟩;rw [decide_eq_false];intro e; subst e; exact hq rfl
  ·intro T1 i g n k o;simp only [jL,hl] at g;refine zW g ?_;exact ⟨by rw [decide_eq_true (jq he fun q h h'=>o q h h' h)],zK⟩
 ·have E:¬ (l.length:Int)=(m.length:Int):=zO;refine zW (lp hl c d f ha.lenV hb.lenV E he) ?_;refine ⟨?_,zK⟩;rw [decide_eq_false];intro e; subst e; exact he rfl
def CH (C:Code tab) (K:Wf H) {v q:AV} {n n':Nat} {c h:List (List Int × Bool)} {g g':List (Nat × List Int)} (hp:PolyV H v n c g) (D:PolyV H q n' h g') (t:c.length<1099511627776) (u:∀ r∈c,r.1.length<1099511627776/\∀ z∈r.1,fm z) (w:g.length<1099511627776) (y:∀ r∈g,r.2.length<1099511627776/\∀ z∈r.2,fm z) :
  Ans tab (.fn ry [v,q]) H fun x H'=>x=.bool (decide (n=n'/\c=h/\g=g'))/\Kp H H':=by
 obtain ⟨F,I,rfl,hc,hg⟩:=hp;obtain ⟨G,J,rfl,j,k⟩:=D;have l:=hc.one;have o:=hg.one;have m:=j.one;have p:=k.one;refine bE C.q43 zU fun T hl a d=>?_;by_cases hn:n=n'
 ·subst hn;refine zW (cn hl a d (py l o) (py m p)) ?_;refine AnsH.eq (B7 C zF (hc.mono (zG H)) (j.mono (zG H)) t u) fun H2 i=>?_;obtain ⟨k2,_,w2⟩:=zT H zK i;have d0:=i.get (b:=H.next) (e:=.cells [.int .i64 (n:Int),F,I] aj true) (cY);have d1:=i.get (b:=H.next+1) (e:=.cells [.int .i64 (n:Int),G,J] aj true) (cY);by_cases f:c=h
  ·rw [decide_eq_true f];refine zW (cn hl a d d0 d1) ?_;refine AnsH.eq (B6 C zF ((hg.mono k2.sub).mono (zG H2)) ((k.mono k2.sub).mono (zG H2)) w y) fun s A=>?_;have E:Kp H s:=k2.trans (Kp.trans zK A);have L:=E.le;refine zW (aC hl a d) ?_;exact ⟨by simp [f],zK⟩
  ·rw [decide_eq_false f];refine zW (aC hl a d) ?_;exact ⟨by simp [f],zK⟩
 ·have B:¬ (n:Int)=(n':Int):=zO;refine zW (fy hl a d (py l o) (py m p) B) ?_;exact ⟨by simp [hn],zK⟩
def Wa (C:Code tab) (u:Wf H) {v w:AV} {a r:List Int} {e f:Nat} (ha:RowV H v a) (hr:RowV H w r) (k:a.length=r.length) (i:a.length<=64) (j:∀ z∈a,Bt e z) (m:∀ z∈r,Bt f z) (l:e+f+7<=8796093022208) :
  Ans tab (.fn Vn [v,w]) H fun x H'=>x=.int .i64 (jx (Lin.dot a r))/\Kp H H':=by
 refine bE C.q48 zU fun T hl c d=>?_;refine zW (aC hl c d) ?_;refine AnsH.use (zx C zF (ha.mono (zG H)) (hr.mono (zG H)) k i j m l) ?_;rintro x H2 ⟨q,rfl,⟨p,rfl,hp⟩,h⟩;obtain ⟨k2,_,w2⟩:=zT H zK h;have op:=hp.one;have B:H.next+10<=H2.next:=h.le
 have fr:H2.get (H.next+7)=none:=h.free (show H.next+7<H.next+10 by omega) (u.fresh (b:=H.next+7) zO);obtain ⟨G,g⟩:∃ G,G=((H2.up 7).put (H.next+7) (.cells [.bool false,.nilSl] aa true)).put (H.next+7) (.cells [.bool (decide (Lin.dot a r<0)),p] aa true):=⟨_,rfl⟩
 have n:Kp H G:=by rw [g]; exact zK
 have t:cm G p (Lin.dot a r).natAbs:=by
  rw [g];exact hp.mono (((Sub.bump H2 7).put fr _).put fr _)
 refine zW (aC hl c d) ?_;rw [<- g];refine AnsH.eq (tW C (x:=Lin.dot a r) n.wf ⟨p,rfl,t⟩ ((rH j m k i).sm l)) fun o s=>?_;have y:Kp H o:=n.trans s;have A:=y.le;refine zW (aC hl c d) ?_;exact zK
def poly_keeps (C:Code tab) (q:Wf H) {v w:AV} {b:Bool} {k:Nat} {a r:List Int} {e f:Nat} (ha:RowV H v a) (hr:RowV H w r) (j:a.length=r.length) (o:a.length<=64) (i:∀ z∈a,Bt e z) (m:∀ z∈r,Bt f z) (p:e+f+7<=8796093022208) :
  Ans tab (.fn U6 [.agg [.int .u8 (k:Int),w],.agg [v,.bool b]]) H fun x H'=>x=.bool (Lin.keepsP (a,b) (k,r))/\Kp H H':=by
 have ov:=ha.one;have n:=hr.one;refine bE C.q22 zU fun T hl c d=>?_;refine zW (cn hl c d (GN ov) (GM n)) ?_;refine AnsH.eq (Wa C (e:=f) (f:=e) zF (hr.mono (zG H)) (ha.mono (zG H)) j.symm zO m i zO) fun H2 g=>?_;obtain ⟨k2,_,w2⟩:=zT H zK g;have d1:H2.get H.next=some (.cells [.int .u8 (k:Int),w] al true):=g.get (cY)
 have d2:H2.get (H.next+1)=some (.cells [v,.bool b] t_api_Con true):=g.get (cY);have hd:=Lin.dot_comm r a;cases b with
 | true =>
  refine zW (cn hl c d d1 d2) ?_;refine ⟨?_,zK⟩;congr 1;rw [Xo];simp [Lin.keepsP,lq,hd]
 | false =>
  by_cases h:k=1
  ·subst h;have d1:H2.get H.next=some (.cells [.int .u8 1,w] al true):=d1
   refine zW (cn hl c d d1 d2) ?_;refine ⟨?_,zK⟩;congr 1;rw [Xo];simp [Lin.keepsP,lq,hd]
  ·have l:¬ (k:Int)=1:=zO;refine zW (fy hl c d d1 d2 l) ?_;refine ⟨?_,zK⟩;congr 1;rw [Xo];simp [Lin.keepsP,V2,hd,h]
def VY {α:Type} {p:α->Bool} {l:List α} {j:Nat} (hj:j<l.length):(l.take (j+1)).all p=((l.take j).all p && p l[j]):=by
 rw [List.take_succ,zh hj,List.all_append]; simp
def VH (C:Code tab) (hw:Wf H) {a b:AV} {n e f:Nat} {G:List (Nat × List Int)} {K:List (List Int × Bool)} (ha:SlV genE al H a G) (hb:SlV conE t_api_Con H b K) (Q:∀ x∈G,x.2.length=n+1/\Lin.Bd (2^e) x.2) (F:∀ c∈K,c.1.length=n+1/\Lin.Bd (2^f) c.1) (hn:n<=60) (ar:G.length<1099511627776) (av:K.length<1099511627776) (ao:e+f<=4398046511104) :
  Ans tab (.fn Vi [a,b,.fn (.func U6) [] []]) H fun v H'=>v=.bool (Lin.inP G K)/\Kp H H':=by
 refine mz C.q21 zU fun T hl o p q=>?_;refine zW (cn hl o p q ha.lenV) ?_;refine aq H [] (fun j _ _=>Lin.inP (G.take j) K=true) (a:=0) (N:=G.length) rfl (by refine zW (aZ hl o p q) ?_; rfl) (zV (aZ hl o p q)) (WG _) zO (by simp only [jL,hl]; rfl) rfl (fun _ _ _ _ h=>h) zK rfl ?_ ?_
 ·intro j T1 g _ hj d Z A s u;have w1:=s.wf;have ax:=s.le;have ah:ad T1 11=a:=(A.at_ 11 zU).trans (zV (aB hl o));have t1:ad T1 1=b:=(A.at_ 1 zU).trans (zV (cn hl o p q p));have t2:ad T1 2=.fn (.func U6) [] []:=(A.at_ 2 zU).trans (zV (cn hl o p q q));obtain ⟨_,⟨v,rfl,hr⟩,-,-,L⟩:=(ha.mono s.sub).at (zh hj);have L:bc g (some 2) (az a (j*2))=some (.agg [.int .u8 (G[j].1:Int),v]):=L;have ab:cG 2 a (.int .i64 (j:Int))=some (az a (j*2)):=SlV.idx ha .i64 j hj;have hr:RowV g v G[j].2:=hr;have ov:=hr.one;have X:=(Ldd.of w1 L).put;have V:=(Ldd.of w1 L).ld;have M:=EL hj;simp only [jL,hl] at d;refine zW (lp d ah t1 Z ab X V hb.lenV) ?_;obtain ⟨H2,E⟩:∃ H2,H2=((g.up 7).put (g.next+2) (.cells [.int .u8 0,.nilSl] al true)).put (g.next+2) (.cells [.int .u8 (G[j].1:Int),v] al true):=⟨_,rfl⟩
  have J:Kp g H2:=by rw [E]; exact zK
  have aA:=J.le;have k2:Kp H H2:=s.trans J;have aC:=k2.le;have w2:=k2.wf;have Y:H2.get (g.next+2)=some (.cells [.int .u8 (G[j].1:Int),v] al true):=by rw [E]; exact am _ _ _
  rw [<- E];refine aq H2 [] (fun i _ _=>(K.take i).all (fun c=>Lin.keepsP c G[j])=true) (a:=0) (N:=K.length) rfl (by refine zW d ?_; rfl) (zV d) (WG _) zO (by simp only [jL,d]; rfl) rfl (fun _ _ _ _ h=>h) zK rfl ?_ ?_
  ·intro i T2 l _ hi m aa B t y;have O:=t.wf;have ay:=t.le;have aj:ad T2 17=b:=(B.at_ 17 zU).trans (zV (aB d t1));have ak:ad T2 2=.fn (.func U6) [] []:=(B.at_ 2 zU).trans (zV (aB d t2));have t8:ad T2 8=.ptr (g.next+2) 0:=(B.at_ 8 zU).trans (zV d);have P:=t.get Y;have aE:=O _ _ P;have R:Sub g l:=J.sub.trans t.sub;obtain ⟨_,⟨w,rfl,hc⟩,-,-,L'⟩:=((hb.mono s.sub).mono R).at (zh hi);have L':bc l (some 2) (az b (i*2))=some (.agg [w,.bool K[i].2]):=L';have ae:cG 2 b (.int .i64 (i:Int))=some (az b (i*2)):=SlV.idx hb .i64 i hi;have hc:RowV l w K[i].1:=hc;have ow:=hc.one;have W:=(Ldd.of O L').put;have U:=(Ldd.of O L').ld;have D:=EL hi;have ag:=hr.mono R;simp only [jL,d] at m;refine zW (lh m aj ak t8 aa ae W U P) ?_;refine AnsH.eq (poly_keeps C (e:=f+1) (f:=e+1) (b:=K[i].2) (k:=G[j].1) (a:=K[i].1) (r:=G[j].2) zF (hc.mono (zG l)) (ag.mono (zG l)) ((F _ D).1.trans (Q _ M).1.symm) (by rw [(F _ D).1]; omega) (fun z I=>ml (F _ D).2 z I) (fun z I=>ml (Q _ M).2 z I) zO) fun S af=>?_;obtain ⟨k4,_,_⟩:=zT H2 zK af;have aw:Kp H S:=k2.trans k4;cases hq:Lin.keepsP (K[i].1,K[i].2) (G[j].1,G[j].2) with
   | true =>
    refine zW m ?_;refine ⟨zK,?_⟩;rw [VY hi,y];exact hq
   | false =>
    refine zW m ?_;refine ⟨?_,zK⟩
    have:Lin.inP G K=false:=by
     cases h:Lin.inP G K with
     | false=>rfl
     | true =>
      have:=Lin.inP_iff.1 h _ M _ D
      exact absurd (this.symm.trans hq) zU
    rw [this]
  ·intro T2 l m B t y;rw [WZ] at y;simp only [jL,d] at m;have k3:Kp H l:=k2.trans t;have aD:=k3.le;refine zW m ?_;refine ⟨zK,?_⟩;unfold Lin.inP at u ⊢;rw [VY hj,u];exact y
 ·intro T1 g d A s u;simp only [jL,hl] at d;rw [WZ] at u;refine zW d ?_;exact ⟨by rw [u],zK⟩
end
section
open Lin
def Cj {r:V} (h:∀ z∈r.map fd,z.2.length<=1):Bd (2^64) r:=fun i=>by
 unfold at_;rw [qf];cases hi:r[i]? with
 | none=>simp
 | some z =>
  have h1:=h (fd z) (DT.2 ⟨z,WN hi,rfl⟩);have h2:z.natAbs<B^1:=xo (n:=z.natAbs) h1;have h3:B^1=2^64:=by decide
  simp only [XG];omega
def El {c:List (V × Bool)} {g:List (Nat × V)} (h:oN c g=false):(c.length<=9/\∀ x∈c,x.1.length<=5/\Bd (2^64) x.1)/\g.length<=9/\∀ x∈g,x.2.length<=5/\Bd (2^64) x.2:=by
 unfold oN at h;rw [Yz] at h;obtain ⟨h1,h2⟩:=jO h.1;obtain ⟨h3,h4⟩:=AN h.2;rw [Nj] at h1 h3;refine ⟨⟨h1,fun x hx=>?_⟩,h3,fun x hx=>?_⟩
 ·obtain ⟨q1,q2⟩:=h2 _ (DT.2 ⟨x,hx,rfl⟩);simp only [Nj] at q1;exact ⟨q1,Cj q2⟩
 ·obtain ⟨q1,q2⟩:=h4 _ (DT.2 ⟨x,hx,rfl⟩);simp only [Nj] at q1;exact ⟨q1,Cj q2⟩
def LC {n:Nat} {l:List (V × Bool)}:∀ x∈gensP n l,x.1=1\/x.1=2\/x.1=3:=fun x hx=>by
 unfold gensP at hx;split at hx
 ·rcases WQ.1 hx with hx | hx
  ·obtain ⟨r,hr,rfl⟩:=DT.1 hx;exact .inl rfl
  ·obtain ⟨r,hr,rfl⟩:=DT.1 hx;show kindOf r=1\/kindOf r=2\/kindOf r=3;unfold kindOf;split <;> simp
 ·cases hx
end
section
variable {tab:Nat->Option au} {H:Heap} {s:AV}
structure PolyOK (n e f:Nat) (K:List (List Int × Bool)) (G:List (Nat × List Int)):Prop where
 own:Lin.Own n K G
 dim:n<=4
 few:K.length<=60\/K.length<=1022/\G.length<=60
 many:G.length<1024
 bK:∀ c∈K,Lin.Bd (2^f) c.1
 bG:∀ x∈G,Lin.Bd (2^e) x.2
 e3:e<=300000
 f3:f<=300000
section
variable {n e f:Nat} {K:List (List Int × Bool)} {G:List (Nat × List Int)}
def PolyOK.rowK (h:PolyOK n e f K G):∀ c∈K,c.1.length=n+1/\Lin.Bd (2^f) c.1:=fun c hc=>⟨h.own.rows c hc,h.bK c hc⟩
def PolyOK.rowG (h:PolyOK n e f K G):∀ x∈G,x.2.length=n+1/\Lin.Bd (2^e) x.2:=fun x hx=>⟨(h.own.valid x hx).1,h.bG x hx⟩
def PolyOK.kinds (h:PolyOK n e f K G):∀ x∈G,x.1=1\/x.1=2\/x.1=3:=fun x hx=>LC (n:=n) (l:=K) x (by rw [h.own.gens]; exact hx)
def PolyOK.smK (h:PolyOK n e f K G):∀ r∈K,r.1.length<1099511627776/\∀ z∈r.1,fm z:=fun r hr=>⟨by rw [(h.rowK r hr).1]; have:=h.dim; omega,fun z a=>(ml (h.rowK r hr).2 z a).sm (by have:=h.f3; omega)⟩
def PolyOK.smG (h:PolyOK n e f K G):∀ r∈G,r.2.length<1099511627776/\∀ z∈r.2,fm z:=fun r hr=>⟨by rw [(h.rowG r hr).1]; have:=h.dim; omega,fun z a=>(ml (h.rowG r hr).2 z a).sm (by have:=h.e3; omega)⟩
def PolyOK.lenK (h:PolyOK n e f K G):K.length<=1022:=by rcases h.few with h | h <;> omega
end
set_option maxHeartbeats 4000000 in
def uj (C:Code tab) (D:Wf H) {v:AV} {n e f:Nat} {K:List (List Int × Bool)} {G:List (Nat × List Int)} (hp:PolyV H v n K G) (a:PolyOK n e f K G) :
  Ans tab (.fn pR [v]) H fun x H'=>x=.int .i64 0/\Kp H H':=by
 obtain ⟨w,y,rfl,hc,hg⟩:=hp;have E:=hc.one;have F:=hg.one;have I:=a.lenK;have Q:=a.many;have u:Lin.gensP n K=G:=a.own.gens;have k:Lin.consP n G=K:=a.own.cons;have e3:=a.e3;have f3:=a.f3;have smK:=a.smK;have smG:=a.smG;refine cz C.q19 zU fun T hl l=>?_;by_cases q1:(K.length:Int)<=60
 ·refine zW (cn hl l (py E F) hc.lenV q1) ?_;refine AnsH.use (kT C (n:=n) (m:=f) (m2:=e) zF (hc.mono (zG H)) a.dim zO a.rowK f3 (by rw [u]; exact a.bG) e3) ?_;rintro v H2 ⟨hm,d⟩;obtain ⟨k2,_,w2⟩:=zT H zK d;have M:H.next+17<=H2.next:=d.le
  have d0:H2.get H.next=some (.cells [.int .i64 (n:Int),w,y] aj true):=d.get (cY)
  have o:H2.get (H.next+14)=none:=d.free (show H.next+14<H.next+17 by omega) (by rw [aw zO]; exact D.fresh (b:=H.next+14) zO);rw [u] at hm;unfold sj at hm;rw [k] at hm;rcases hm with ⟨-,hm⟩ | ⟨p,rfl,⟨s,t,rfl,q,r⟩,-,-⟩
  ·omega
  have N:=q.one;have O:=r.one;obtain ⟨c,i⟩:∃ c,c=((H2.up 7).put (H.next+14) (.cells [.int .i64 0,.nilSl,.nilSl] aj true)).put (H.next+14) (.cells [.int .i64 (n:Int),s,t] aj true):=⟨_,rfl⟩
  have g:Sub H2 c:=by rw [i]; exact ((Sub.bump H2 7).put o _).put o _
  have j:Kp H c:=by rw [i]; exact zK
  have J:=j.le;have P:=j.wf;refine zW (aZ hl l @oQ d0) ?_;rw [<- i];refine AnsH.eq (CH C zF ⟨w,y,rfl,(hc.mono k2.sub).mono g,(hg.mono k2.sub).mono g⟩ ⟨s,t,rfl,q.mono g,r.mono g⟩ zO smK zO smG) fun z A=>?_;have B:Kp H z:=j.trans A;have L:=B.le;rw [decide_eq_true ⟨rfl,rfl,rfl⟩];refine zW (aB hl l) ?_;exact zK
 ·have q2:(G.length:Int)<=60:=by rcases a.few with h | h <;> omega
  refine zW (ip hl l (py E F) hc.lenV q1 hg.lenV q2) ?_;refine AnsH.use (vO C (n:=n) (m:=e) (m2:=f) (m3:=e) zF (hg.mono (zG H)) a.dim zO a.own.valid a.kinds a.bG e3 (by rw [k]; exact a.bK) f3 (by rw [k,u]; exact a.bG) e3 (by rw [k]; exact .inl I)) ?_;rintro v H2 ⟨hm,d⟩;obtain ⟨k2,_,w2⟩:=zT H zK d;have M:H.next+21<=H2.next:=d.le
  have d0:H2.get H.next=some (.cells [.int .i64 (n:Int),w,y] aj true):=d.get (cY)
  have o:H2.get (H.next+18)=none:=d.free (show H.next+18<H.next+21 by omega) (by rw [aw zO]; exact D.fresh (b:=H.next+18) zO);unfold Db sj at hm;rw [k,u,k] at hm;rcases hm with ⟨-,hm⟩ | ⟨-,hm⟩ | ⟨p,rfl,⟨s,t,rfl,q,r⟩,-,-⟩
  ·omega
  ·omega
  have N:=q.one;have O:=r.one;obtain ⟨c,i⟩:∃ c,c=((H2.up 7).put (H.next+18) (.cells [.int .i64 0,.nilSl,.nilSl] aj true)).put (H.next+18) (.cells [.int .i64 (n:Int),s,t] aj true):=⟨_,rfl⟩
  have g:Sub H2 c:=by rw [i]; exact ((Sub.bump H2 7).put o _).put o _
  have j:Kp H c:=by rw [i]; exact zK
  have J:=j.le;have P:=j.wf;refine zW (aZ hl l @oQ d0) ?_;rw [<- i];refine AnsH.eq (CH C zF ⟨w,y,rfl,(hc.mono k2.sub).mono g,(hg.mono k2.sub).mono g⟩ ⟨s,t,rfl,q.mono g,r.mono g⟩ zO smK zO smG) fun z A=>?_;have B:Kp H z:=j.trans A;have L:=B.le;rw [decide_eq_true ⟨rfl,rfl,rfl⟩];refine zW (aB hl l) ?_;exact zK
end
abbrev Wv:=Nat × List (List Int × Bool) × List (Nat × List Int)
def Wm:gr Wv where
 sz:=3
 tys:=(t_api_Con :: conE.tys)++(al :: genE.tys)
 R H cs x:=∃ c d,cs=[.int .i64 (x.1:Int),c,d]/\SlV conE t_api_Con H c x.2.1/\SlV genE al H d x.2.2
 pos:=zO
 len:=by rintro H cs x ⟨v,w,rfl,h,h'⟩; exact ⟨rfl,by simp [h.one.2,h'.one.2]; rfl⟩
 mono:=by
  rintro H H' cs x hs ⟨v,w,rfl,h,h'⟩;exact ⟨v,w,rfl,h.monoT fun b cs t r a=>hs b cs t r (XK _ a),h'.monoT fun b cs t r a=>hs b cs t r (Yb _ a)⟩
section
variable {tab:Nat->Option au} {H:Heap} {s:AV}
def Wu {a2 a3 a b:AV} (h2:One a2) (h3:One a3) (h5:One a) (d:One b) (x1 e x3 y1 f y3:AV) (k c:IntKind) (n n':Int):cP [x1,e,x3,y1,f,y3] [((0,3),.agg [.int k n,a2,a3]),((3,3),.agg [.int c n',a,b])]=some [.int k n,a2,a3,.int c n',a,b]:=by
 simp [cP,AV.cells,(bi k n).2,(bi c n').2,h2.2,h3.2,h5.2,d.2]
set_option maxHeartbeats 4000000 in
def VQ (C:Code tab) (V:Wf H) {n:Nat} {l:List Wv} (hs:SlV Wm aj H s l) (U:l.length<1000) (h:∀ x∈l,x.1=n/\∃ e f,PolyOK n e f x.2.1 x.2.2) :
  Ans tab (.fn Vc [s]) H fun x H'=>x=.int .i64 0/\Kp H H':=by
 refine cz C.q33 zU fun T hl i=>?_;refine zW (aC hl i hs.lenV) ?_;refine aq H [] (fun _ _ _=>True) (a:=0) (N:=l.length) rfl (by refine zW (aB hl i) ?_; rfl) (zV (aB hl i)) (WG _) zO (by simp only [jL,hl]; rfl) rfl (fun _ _ _ _ h=>h) zK trivial ?_ ?_
 ·intro j T1 k _ hj b D u c _;have w1:=c.wf;have J:=c.le;have Q:ad T1 8=s:=(u.at_ 8 zU).trans (zV (aB hl i));obtain ⟨_,⟨o,p,rfl,hc,hg⟩,-,-,L⟩:=(hs.mono c.sub).at (zh hj);have L:bc k (some 3) (az s (j*3))=some (.agg [.int .i64 (l[j].1:Int),o,p]):=L;have t:cG 3 s (.int .i64 (j:Int))=some (az s (j*3)):=SlV.idx hs .i64 j hj;have K:=hc.one;have M:=hg.one;have r:=(Ldd.of w1 L).put;have q:=(Ldd.of w1 L).ld;obtain ⟨hn,e,f,ok⟩:=h _ (EL hj);simp only [jL,hl] at b;refine zW (ip b Q D t r q @oQ) ?_;rw [hn];refine AnsH.eq (uj C zF ⟨o,p,rfl,hc.mono (zG k),hg.mono (zG k)⟩ ok) fun H2 d=>?_;obtain ⟨k2,_,_⟩:=zT H zK d;refine zW b ?_;exact zK
 ·intro T1 k b u c _;have w1:=c.wf;have J:=c.le;have t0:ad T1 0=s:=(u.at_ 0 zU).trans (zV (aB hl i));have I:=hs.mono c.sub;simp only [jL,hl] at b;refine zW (aC b t0 I.lenV) ?_;refine aq H [] (fun _ _ _=>True) (a:=0) (N:=l.length) rfl (by refine zW b ?_; rfl) (zV b) (WG _) zO (by simp only [jL,b]; rfl) rfl (fun _ _ _ _ h=>h) zK trivial ?_ ?_
  ·intro j T2 H2 _ hj g E v d _;have w2:=d.wf;have W:=d.le;have P:ad T2 20=s:=(v.at_ 20 zU).trans (zV (aB b t0));have O:ad T2 0=s:=(v.at_ 0 zU).trans (zV (aB b t0));have w:=hs.mono d.sub;have h0:0<l.length:=zO;obtain ⟨_,⟨o,p,rfl,hc,hg⟩,-,-,L⟩:=w.at (zh hj);have L:bc H2 (some 3) (az s (j*3))=some (.agg [.int .i64 (l[j].1:Int),o,p]):=L;obtain ⟨_,⟨X,Y,rfl,R,S⟩,-,m,-⟩:=w.at (zh h0);have m:bc H2 none (az s 0)=some (.int .i64 (l[0].1:Int)):=m 0 _ rfl;have t:cG 3 s (.int .i64 (j:Int))=some (az s (j*3)):=SlV.idx hs .i64 j hj;have B:cG 3 s (.int .i64 0)=some (az s 0):=SlV.idx hs .i64 0 h0;have A:BI 0 (az s 0)=some (az s 0):=hs.fa h0 0 0;have K:=hc.one;have M:=hg.one;have r:=(Ldd.of w2 L).put;have q:=(Ldd.of w2 L).ld;have z:=(Ldd.of w2 m).put;have y:=(Ldd.of w2 m).ld;have hn:=(h _ (EL hj)).1;have F:=(h _ (EL h0)).1;have G:((l[j].1:Nat):Int)=(l[0].1:Int):=by rw [hn,F]
   simp only [jL,b] at g;refine zW (ip g P E t r q @oQ) ?_;refine aJ ?_;refine zD (ip g O B A z y G) ?_;exact zK
  ·intro T2 H2 g v d _;simp only [jL,b] at g;refine zW g ?_;exact zK
def Wc {H:Heap} {b:Nat} {c f d g:AV} {x y:Wv} {r:Bool} (h:H.get b=some (.cells [.int .i64 (x.1:Int),c,f,.int .i64 (y.1:Int),d,g] aj r)) (h1:SlV conE t_api_Con H c x.2.1) (h2:SlV genE al H f x.2.2) (h3:SlV conE t_api_Con H d y.2.1) (h4:SlV genE al H g y.2.2):SlV Wm aj H (.own b 0 2 2 3 true) [x,y] :=
 ⟨_,Rd.own h rfl (Jv _),fun _ _ _ _ _ _ e=>by cases e; exact ⟨_,_,h⟩,rfl,fun i a hi=>by
  match i with
  | 0=>simp at hi; subst hi; exact ⟨c,f,rfl,h1,h2⟩
  | 1=>simp at hi; subst hi; exact ⟨d,g,rfl,h3,h4⟩
  | i+2=>simp at hi⟩
def Wp {n e f e' a:Nat} {K K':List (List Int × Bool)} {G G':List (Nat × List Int)} (b:PolyOK n e f K G) (c:PolyOK n e' a K' G'):∀ x∈[((n,K,G):Wv),(n,K',G')],x.1=n/\∃ e f,PolyOK n e f x.2.1 x.2.2:=fun x hx=>by
 rcases WV.1 hx with rfl | hx
 ·exact ⟨rfl,_,_,b⟩
 ·rcases WV.1 hx with rfl | hx
  ·exact ⟨rfl,_,_,c⟩
  ·cases hx
set_option maxHeartbeats 4000000 in
def Wl (C:Code tab) (A:Wf H) {v w:AV} {n e f e' i:Nat} {K K':List (List Int × Bool)} {G G':List (Nat × List Int)} (hp:PolyV H v n K G) (hq:PolyV H w n K' G') (a:PolyOK n e f K G) (b:PolyOK n e' i K' G') :
  Ans tab (.fn VB [v,w]) H fun x H'=>x=.tup [.bool (Lin.inP G K'),.int .i64 0]/\Kp H H':=by
 obtain ⟨t,y,rfl,hc,hg⟩:=hp;obtain ⟨u,z,rfl,g,j⟩:=hq;have k:=hc.one;have o:=hg.one;have m:=g.one;have p:=j.one;refine bE C.q10 zU fun T hl c d=>?_;refine zW (fy hl c d (py k o) (py m p) (Wu k o m p)) ?_;refine AnsH.eq (VQ C (n:=n) (l:=[(n,K,G),(n,K',G')]) zF (Wc (am _ _ _) (hc.mono (zG H)) (hg.mono (zG H)) (g.mono (zG H)) (j.mono (zG H))) (by simp) (Wp a b)) fun H2 h=>?_;obtain ⟨k2,_,w2⟩:=zT H zK h;have d0:H2.get H.next=some (.cells [.int .i64 (n:Int),t,y] aj true):=h.get (cY)
 have d1:H2.get (H.next+1)=some (.cells [.int .i64 (n:Int),u,z] aj true):=h.get (cY);have e3:=a.e3;have f3:=b.f3;have hn:=a.dim;have l1:=a.many;have B:=b.lenK;refine zW (cn hl c d d0 d1) ?_;refine AnsH.eq (VH C (n:=n) (e:=e) (f:=i) zF ((hg.mono k2.sub).mono (zG H2)) ((g.mono k2.sub).mono (zG H2)) a.rowG b.rowK zO zO zO zO) fun q r=>?_;have s:Kp H q:=k2.trans (Kp.trans zK r);have D:=s.le;refine zW (aC hl c d) ?_;exact zK
end
end Go.Proofs.YtiigaeehghcjiaaGreat.Ev
namespace Go.Proofs.YtiigaeehghcjiaaGreat.Lin
def g13:gensP 1 [([-1,1],false),([3,-1],false)]=[(3,[1,1]),(3,[1,3])]:=by
 have r:(gensU 2 [] [[1,0],[-1,1],[3,-1]]).rays.map (restF (gensL 2 [] [[1,0],[-1,1],[3,-1]]))=[[1,1],[1,3]]:=by decide +kernel
 have e:gensL 2 [] [[1,0],[-1,1],[3,-1]]=[]:=by decide +kernel
 have g:gensR 2 [] [[1,0],[-1,1],[3,-1]]=[[1,1],[1,3]]:=by
  unfold gensR;rw [r]; simp [List.mergeSort,List.MergeSort.Internal.splitInTwo,cmpV]
 have h1:eqsOf ([([-1,1],false),([3,-1],false)]:List (V × Bool))=[]:=rfl;have h2:ineqsOf 1 ([([-1,1],false),([3,-1],false)]:List (V × Bool))=[[1,0],[-1,1],[3,-1]]:=rfl;unfold gensP;rw [h1,h2,e,g];rfl
def k13:consP 1 [(3,[1,1]),(3,[1,3])]=[([-1,1],false),([3,-1],false)]:=by
 have r:(gensU 2 [] [[1,1],[1,3]]).rays.map (restF (gensL 2 [] [[1,1],[1,3]]))=[[3,-1],[-1,1]]:=by decide +kernel
 have e:gensL 2 [] [[1,1],[1,3]]=[]:=by decide +kernel
 have g:gensR 2 [] [[1,1],[1,3]]=[[-1,1],[3,-1]]:=by
  unfold gensR;rw [r]; simp [List.mergeSort,List.MergeSort.Internal.splitInTwo,cmpV]
 have h1:linesOf ([(3,[1,1]),(3,[1,3])]:List (Nat × V))=[]:=rfl;have h2:raysOf ([(3,[1,1]),(3,[1,3])]:List (Nat × V))=[[1,1],[1,3]]:=rfl;unfold consP;rw [h1,h2,e,g];decide
def b0:gensP 1 [([-1,1],false),([3,-1],false),([-4,1],false),([9,-1],false)]=[]:=by
 have r:(gensU 2 [] [[1,0],[-1,1],[3,-1],[-4,1],[9,-1]]).rays.map (restF (gensL 2 [] [[1,0],[-1,1],[3,-1],[-4,1],[9,-1]]))=[]:=by decide +kernel
 have e:gensL 2 [] [[1,0],[-1,1],[3,-1],[-4,1],[9,-1]]=[]:=by decide +kernel
 have g:gensR 2 [] [[1,0],[-1,1],[3,-1],[-4,1],[9,-1]]=[]:=by
  unfold gensR;rw [r]; simp
 have h1:eqsOf ([([-1,1],false),([3,-1],false),([-4,1],false),([9,-1],false)]:List (V × Bool))=[]:=rfl;have h2:ineqsOf 1 ([([-1,1],false),([3,-1],false),([-4,1],false),([9,-1],false)]:List (V × Bool))=[[1,0],[-1,1],[3,-1],[-4,1],[9,-1]]:=rfl;unfold gensP;rw [h1,h2,e,g];rfl
def k23:consP 1 [(3,[1,2]),(3,[1,3])]=[([-2,1],false),([3,-1],false)]:=by
 have r:(gensU 2 [] [[1,2],[1,3]]).rays.map (restF (gensL 2 [] [[1,2],[1,3]]))=[[3,-1],[-2,1]]:=by decide +kernel
 have e:gensL 2 [] [[1,2],[1,3]]=[]:=by decide +kernel
 have g:gensR 2 [] [[1,2],[1,3]]=[[-2,1],[3,-1]]:=by
  unfold gensR;rw [r]; simp [List.mergeSort,List.MergeSort.Internal.splitInTwo,cmpV]
 have h1:linesOf ([(3,[1,2]),(3,[1,3])]:List (Nat × V))=[]:=rfl;have h2:raysOf ([(3,[1,2]),(3,[1,3])]:List (Nat × V))=[[1,2],[1,3]]:=rfl;unfold consP;rw [h1,h2,e,g];decide
def k15:consP 1 [(3,[1,1]),(3,[1,5])]=[([-1,1],false),([5,-1],false)]:=by
 have r:(gensU 2 [] [[1,1],[1,5]]).rays.map (restF (gensL 2 [] [[1,1],[1,5]]))=[[5,-1],[-1,1]]:=by decide +kernel
 have e:gensL 2 [] [[1,1],[1,5]]=[]:=by decide +kernel
 have g:gensR 2 [] [[1,1],[1,5]]=[[-1,1],[5,-1]]:=by
  unfold gensR;rw [r]; simp [List.mergeSort,List.MergeSort.Internal.splitInTwo,cmpV]
 have h1:linesOf ([(3,[1,1]),(3,[1,5])]:List (Nat × V))=[]:=rfl;have h2:raysOf ([(3,[1,1]),(3,[1,5])]:List (Nat × V))=[[1,1],[1,5]]:=rfl;unfold consP;rw [h1,h2,e,g];decide
def bd_small4 {x:V} (h:x.all (fun a=>decide (a.natAbs<=16))=true):Bd (2^4) x:=fun i=>by
 by_cases hi:i<x.length
 ·have:at_ x i=x[i]:=by simp [at_,hi]
  rw [this]
  simpa using WT.1 h _ (EL hi)
 ·have:at_ x i=0:=by simp [at_,hi]
  rw [this]; simp
end Go.Proofs.YtiigaeehghcjiaaGreat.Lin
namespace Go.Proofs.YtiigaeehghcjiaaGreat.Ev
open Go Nn
section
variable {tab:Nat->Option au} {H:Heap} {s:AV}
def FC (C:Code tab) (k:Wf H) {v:AV} {n:Nat} {c:List (List Int × Bool)} {g:List (Nat × List Int)} (hp:PolyV H v n c g) :
  Ans tab (.fn fM [v]) H fun x H'=>x=.bool (oN c g || decide (4<n))/\Kp H H':=by
 obtain ⟨f,h,rfl,hc,hg⟩:=hp;have i:=hc.one;have j:=hg.one;refine cz C.q42 zU fun T hl a=>?_;refine zW (aC hl a (py i j)) ?_;refine AnsH.eq (FD C (n:=n) (c:=c) (g:=g) zF ⟨f,h,rfl,hc.mono (zG H),hg.mono (zG H)⟩) fun H2 d=>?_;obtain ⟨k2,_,_⟩:=zT H zK d;have d0:=d.get (b:=H.next) (e:=.cells [.int .i64 (n:Int),f,h] aj true) (cY);have e:decide ((4:Int)<(n:Int))=decide (4<n):=by rw [Xo]; simp; omega
 cases hq:oN c g with
 | true =>
  refine zW (aB hl a) ?_;exact ⟨by simp,zK⟩
 | false =>
  refine zW (aC hl a d0) ?_;exact ⟨by simp [e],zK⟩
def pI (C:Code tab) (B:Wf H) {v h:AV} {n n':Nat} {c a:List (List Int × Bool)} {g g':List (Nat × List Int)} (hp:PolyV H v n c g) (o:PolyV H h n' a g') (i:c.length<1099511627776) (j:∀ r∈c,r.1.length<1099511627776/\∀ z∈r.1,fm z) (k:g.length<1099511627776) (l:∀ r∈g,r.2.length<1099511627776/\∀ z∈r.2,fm z) :
  Ans tab (.fn gy [v,h]) H fun x H'=>x=.bool (decide (n=n'/\c=a/\g=g'))/\Kp H H':=by
 obtain ⟨u,y,rfl,hc,hg⟩:=hp;obtain ⟨w,A,rfl,e,f⟩:=o;have p:=hc.one;have s:=hg.one;have q:=e.one;have t:=f.one;refine bE C.q36 zU fun T hl b d=>?_;refine zW (cn hl b d (py p s) (py q t)) ?_;refine AnsH.eq (HH C (n:=n) (n':=n') zF ⟨u,y,rfl,hc.mono (zG H),hg.mono (zG H)⟩ ⟨w,A,rfl,e.mono (zG H),f.mono (zG H)⟩ i j k l) fun H2 m=>?_;obtain ⟨k2,_,_⟩:=zT H zK m;refine zW (aC hl b d) ?_;exact zK
end
open Go
def EX {tab:Nat->Option au} {rd:Bool} {c:ACode} {T:Tm} {H:Heap} {K:Ex->Tm->Heap->Prop} (p:Tm->Prop) (hp:p T) (h:∀ T',p T'->WC tab rd c T' H K):WC tab rd c T H K:=h T hp
def ka {tab:Nat->Option au} {rd:Bool} {c:ACode} {T:Tm} {H:Heap} {K:Ex->Tm->Heap->Prop} (p:Tm->Prop) (hp:p T) (h:∀ T',p T'->WB tab rd c T' H K):WB tab rd c T H K:=h T hp
structure Kx (b:Nat) (H H':Heap):Prop where
 wf0:Wf H
 wf:Wf H'
 le:H.next<=H'.next
 same:∀ c,c<H.next->c≠b->H'.get c=H.get c
section
variable {b:Nat} {H0 H H' H'':Heap}
def Kx.of (h:Kp H H'):Kx b H H':=⟨h.wf0,h.wf,h.le,fun c hc _=>h.same c hc⟩
def Kx.trans (h:Kx b H H') (h':Kx b H' H''):Kx b H H'':=⟨h.wf0,h'.wf,WK h.le h'.le,fun c hc hb=>(h'.same c (WP hc h.le) hb).trans (h.same c hc hb)⟩
def Kx.put (h:Kx b H H') (hb:b<H'.next) (e:Ent):Kx b H (H'.put b e):=⟨h.wf0,h.wf.put hb e,h.le,fun c hc hne=>by rw [aw hne]; exact h.same c hc hne⟩
def Kx.up (h:Kx b H H') (k:Nat):Kx b H (H'.up k):=⟨h.wf0,h.wf.bump k,WK h.le (W3 _ _),h.same⟩
def Kx.kp (h:Kx b H H') (a:Kp H0 H) (hb:H0.next<=b):Kp H0 H':=⟨a.wf0,h.wf,WK a.le h.le,fun c hc=>(h.same c (WP hc a.le) zO).trans (a.same c hc)⟩
def Kx.get (h:Kx b H H') {c:Nat} {e:Ent} (hc:H.get c=some e) (hb:c≠b):H'.get c=some e:=(h.same c (h.wf0 _ _ hc) hb).trans hc
def Kx.subT (h:Kx b H H') {tys:List Nat} {cs:List AV} {ty:Nat} {r:Bool} (hb:H.get b=some (.cells cs ty r)) (a:ty ∉ tys):SubT tys H H':=fun c ds t d hm hc=>h.get hc fun e=>by
 subst e; rw [hb] at hc; cases hc; exact a hm
end
section
variable {tab:Nat->Option au} {H:Heap}
def PlcV (H:Heap) (v:AV) (be x:Int):Prop:=∃ p,v=.agg [.int .i64 be,.bool (decide (x<0)),p]/\cm H p x.natAbs
def ItvV (H:Heap) (v:AV) (n:Bool) (x:Int) (n':Bool) (y:Int):Prop:=∃ p q,v=.agg [.bool n,.bool (decide (x<0)),p,.bool n',.bool (decide (y<0)),q]/\cm H p x.natAbs/\cm H q y.natAbs
def ItvV.mono {H H':Heap} (hs:Sub H H') {v:AV} {n n':Bool} {x y:Int} (h:ItvV H v n x n' y):ItvV H' v n x n' y:=by
 obtain ⟨p,q,rfl,h1,h2⟩:=h;exact ⟨p,q,rfl,h1.mono hs,h2.mono hs⟩
def PlcV.mono {H H':Heap} (hs:Sub H H') {v:AV} {be x:Int} (h:PlcV H v be x):PlcV H' v be x:=by
 obtain ⟨p,rfl,h1⟩:=h;exact ⟨p,rfl,h1.mono hs⟩
end
end Go.Proofs.YtiigaeehghcjiaaGreat.Ev
namespace Go.Proofs.YtiigaeehghcjiaaGreat.Lin
section
variable {n x:Nat} {a:V}
def V9 {g:List (Nat × V)} (hg:ValidG n g) (h3:g.any (fun y=>y.1 == 3)=true) {y:Nat × V} (hy:y∈g) {c:V × Bool} (hc:c∈consP n g):keepsP c y=true :=
 p8 (Ce hc) (sC hg h3 hy).1 (sC hg h3 hy).2
end
end Go.Proofs.YtiigaeehghcjiaaGreat.Lin
namespace Go.Proofs.YtiigaeehghcjiaaGreat.Ev
open Go Nn
section
variable {tab:Nat->Option au} {H:Heap} {s:AV}
def Dc (C:Code tab) (i:Wf H) {l:List Int} (hs:RowV H s l) (h0:0<l.length) (k:l.length<1099511627776):Ans tab (.fn da [s]) H fun v H'=>Kp H H'/\∃ b,Own intE aa H H' b false v l:=by
 refine cz C.q49 zU fun T hl a=>?_;rcases hs.nilcase with ⟨rfl,rfl⟩ | hne
 ·simp at h0
 ·have e:cP ([]:List AV) []=some []:=rfl;refine zW (aZ hl a hne e) ?_;have k1:Kp H ((H.up 7).put (H.next+3) (.cells [] aa true)):=zK;have o:=k1.le;have f:Own intE aa H ((H.up 7).put (H.next+3) (.cells [] aa true)) (H.next+3) true (.own (H.next+3) 0 0 0 2 true) ([]:List Int):=⟨_,rfl,am _ _ _,Cells.nil _ _,zO⟩
  obtain ⟨j,H2,c,h2,g,m,n,h⟩:=SlV.app (l:=[]) (id:=H.next+5) (bytes:=32) f.sl k1 (hs.mono k1.sub) zO (by show _<H.next+7; omega) (by rw [aw zO]; exact i.fresh (b:=H.next+5) zO) (by simp; omega) (by simp; omega);have d:dq ((H.up 7).put (H.next+3) (.cells [] aa true)) (H.next+5) 2 32 aa (.own (H.next+3) 0 0 0 2 true) s=some (j,H2):=c;refine zW (aC hl a d) ?_;exact ⟨g,_,h h0⟩
end
section
variable {tab:Nat->Option au} {H:Heap}
def BW (C:Code tab) (b:Wf H) {x:Int}:Ans tab (.fn lW [.int .i64 x]) H fun r H'=>r=.bool false/\Kp H H':=by
 refine cz C.q135 zU fun T hl a=>?_;have e:(x≠x)=False:=by simp
 refine zW (aB hl a) ?_;exact zK
def EH (C:Code tab) (d:Wf H) {x y:Int}:Ans tab (.fn nk [.int .i64 x,.int .i64 y]) H fun r H'=>r=.bool (decide (x<y))/\Kp H H':=by
 refine bE C.q111 zU fun T hl a b=>?_;refine zW (aC hl a b) ?_;refine AnsH.eq (BW C zF) fun H2 c=>?_;obtain ⟨k2,_,w2⟩:=zT H zK c;refine zW (aC hl a b) ?_;exact zK
def aQ (l:List Int):List AV:=l.map fun z=>.int .i64 z
def JE {l:List Int} {b j:Nat} (h:H.get b=some (.cells (aQ l) aL true)) (hj:j<l.length):bc H none (.ptr b j)=some (.int .i64 l[j]):=by
 rw [Eg,h,Cv];show (aQ l)[j]? = _;simp [aQ,hj]
def Je {l:List Int} {j:Nat} {z:Int} (hj:j<l.length):y5 (some (.cells (aQ l) aL true)) 1 j (.int .i64 z)=some (.cells (aQ (l.set j z)) aL true):=by
 rw [Ts (bi _ _),if_pos (by simpa [aQ] using hj)];simp [aQ,Zd]
def JI {b n c j:Nat} {xf:Bool} (hj:j<n):cG 1 (.own b 0 n c 1 xf) (.int .i64 (j:Int))=some (.ptr b j):=by
 have:=iB (b:=b) (off:=0) (n:=n) (c:=c) (sz:=1) (x:=xf) (k:=.i64) (j:=j) hj
 simpa using this
abbrev Mx (l:List Int):Prop:=l.Pairwise (· <= ·)
def Nu {A B:List Int} {x:Int} (h:Mx (A++B)) (hA:∀ y∈A,y<=x) (c:∀ y∈B,x<=y):Mx (A++x :: B):=by
 have h:=Yi.1 h;refine Yi.2 ⟨h.1,Yp.2 ⟨c,h.2.1⟩,fun a ha b hb=>?_⟩;rcases WV.1 hb with rfl | hb
 ·exact hA a ha
 ·exact h.2.2 a ha b hb
set_option maxHeartbeats 4000000 in
def BT (C:Code tab) {H0:Heap} {b n c:Nat} {xf:Bool} {l:List Int} (hk:Kp H0 H) (hb:H0.next<=b) (h:H.get b=some (.cells (aQ l) aL true)) (hn:l.length=n) (aH:n<=1000) :
  Ans tab (.fn br [.own b 0 n c 1 xf,.int .i64 0,.int .i64 (n:Int)]) H fun _ H'=>(∃ m,H'.get b=some (.cells (aQ m) aL true)/\m.Perm l/\Mx m)/\Kp H0 H':=by
 have hw:=hk.wf;refine mz C.q105 zU fun T hl u v w=>?_;have aj:IntKind.i64.wrap (0+1)=((1:Nat):Int):=by decide
 refine zW (cn hl u v w aj) ?_;refine bk H0 [6] (fun k vs H'=>∃ i m,vs=[.int .i64 ((i:Nat):Int)]/\1<=i/\i<=n+1/\k=n+1-i/\H'.get b=some (.cells (aQ m) aL true)/\m.Perm l/\Mx (m.take i)) n (by simp only [jL]; exact hl) rfl (hk.up _) ⟨1,l,by refine zW (aZ hl u v w) ?_; rfl,Jv _,zO,zO,h,List.Perm.refl _,by
  match l with
  | []=>exact List.Pairwise.nil
  | a :: l=>simp⟩ ?_
 rintro k T1 H1 f D Y ⟨i,m,N,i1,i2,aG,ag,hp,hs⟩;have w1:=Y.wf;have aM:=Y.le;simp only [SA,WF,Ud,and_true] at N;have t0:ad T1 0=.own b 0 n c 1 xf:=(D.at_ 0 zU).trans (zV (aB hl u));have t1:ad T1 1=.int .i64 0:=(D.at_ 1 zU).trans (zV (cn hl u v w v));have t2:ad T1 2=.int .i64 (n:Int):=(D.at_ 2 zU).trans (zV (cn hl u v w w));have aI:m.length=n:=by rw [<- hn]; exact hp.length_eq
 by_cases hi:i<n
 case neg =>
  have W:¬ (i:Int)<(n:Int):=zO;refine zW (aZ f N t2 W) ?_;refine ⟨⟨m,ag,hp,?_⟩,zK⟩;rw [WS zO] at hs;exact hs
 have W:(i:Int)<(n:Int):=zO;refine zW (aZ f N t2 W) ?_;obtain ⟨X,t,S,aa,hA0⟩:∃ X t S,m=t++X :: S/\t.length=i:=by
  refine ⟨m[i],m.take i,m.drop (i+1),?_,by rw [WU]; omega⟩;rw [List.getElem_cons_drop,Z6]
 have ax:Mx t:=by
  rw [aa,XU zO,WS zO] at hs;exact hs
 refine bk H0 [7] (fun k vs H'=>∃ j A x B R,vs=[.int .i64 ((j:Nat):Int)]/\k=j/\A.length=j/\A.length+B.length=i/\Mx (A++B)/\(∀ y∈B,x<=y)/\(A++x :: (B++R)).Perm l/\H'.get b=some (.cells (aQ (A++x :: (B++R))) aL true)) i (by simp only [jL]; exact f) rfl (Y.up _) ⟨i,t,X,[],S,by exact zV f,rfl,hA0,by simp [hA0],by rw [Xx]; exact ax,fun y hy=>(by cases hy),by rw [XS,<- aa]; exact hp,by rw [XS,<- aa]; exact ag⟩ ?_;rintro k2 T2 H2 g K Z ⟨j,A,x,B,R,o,aE,V,al,L,ae,ab,p⟩;have w2:=Z.wf;have aN:=Z.le;simp only [SA,WF,Ud,and_true] at o;have s:ad T2 0=.own b 0 n c 1 xf:=(K.at_ 0 zU).trans (zV (aB f t0));have u1:ad T2 1=.int .i64 0:=(K.at_ 1 zU).trans (zV (aB f t1));have u2:ad T2 2=.int .i64 (n:Int):=(K.at_ 2 zU).trans (zV (aB f t2));have u6:ad T2 6=.int .i64 (i:Int):=(K.at_ 6 zU).trans (zV (aB f N));have U:IntKind.i64.wrap ((i:Int)+1)=((i+1:Nat):Int):=by rw [wrap_i64] <;> omega
 have av:(A++x :: (B++R)).length=n:=by rw [<- hn]; exact ab.length_eq
 have fin:∀ H':Heap,H'.get b=some (.cells (aQ (A++x :: (B++R))) aL true)->Mx (A++x :: B)->∃ G m,[AV.int .i64 ((i+1:Nat):Int)]=[AV.int .i64 ((G:Nat):Int)]/\1<=G/\G<=n+1/\n+1-(i+1)=n+1-G/\H'.get b=some (.cells (aQ m) aL true)/\m.Perm l/\Mx (m.take G):=fun H' h1 h2=>by
  refine ⟨i+1,_,rfl,zO,zO,rfl,h1,ab,?_⟩;have e:(A++x :: (B++R)).take (i+1)=A++x :: B:=by
   rw [show A++x :: (B++R)=(A++x :: B)++R by simp,XU (by simp; omega),WS (by simp; omega)]
  rw [e]; exact h2
 refine zW g ?_;refine aJ ?_;by_cases hj:0<j
 case neg =>
  have z:¬ (0:Int)<(j:Int):=zO;have hA:A=[]:=Xl zO;refine zX (lp g o s u1 u6 z @aS U) ?_;subst hA;exact ⟨zK,n+1-(i+1),zO,fin _ p (Nu (A:=[]) L (fun y hy=>(by cases hy)) ae)⟩
 case pos =>
 have z:(0:Int)<(j:Int):=zO;obtain ⟨d,y,rfl⟩:∃ d y,A=d++[y]:=⟨A.dropLast,A.getLast (by intro h; rw [h] at V; simp at V; omega),(List.dropLast_concat_getLast _).symm⟩
 have ak:d.length+1=j:=by simpa using V
 have I:IntKind.i64.wrap ((j:Int)-1)=((d.length:Nat):Int):=by rw [wrap_i64] <;> omega
 have E:SF (H2.get b) none j=some (.int .i64 x):=by
  rw [<- Eg,JE p zO];congr 2;rw [Y8 (by simp; omega)];simp [ak]
 have F:SF (H2.get b) none d.length=some (.int .i64 y):=by
  rw [<- Eg,JE p zO];congr 2;rw [ZN (by simp),Y8 (by simp)]
  simp
 have O:cG 1 (.own b 0 n c 1 xf) (.int .i64 (j:Int))=some (.ptr b j):=JI zO;have P:cG 1 (.own b 0 n c 1 xf) (.int .i64 ((d.length:Nat):Int))=some (.ptr b d.length):=JI zO;refine zX (mo g o s u1 z @aS I E F O P) ?_;refine AnsH.eq (EH C (x:=x) (y:=y) zF) fun Q aq=>?_;obtain ⟨k3,_,w3⟩:=zT H2 zK aq;have aK:=Z.trans k3;have r:=k3.get p;by_cases ah:x<y
 case neg =>
  have af:decide (x<y)=false:=decide_eq_false ah;rw [af];refine zX (E0 g o s u1 z @aS I E F O P u6 U) ?_;refine ⟨zK,n+1-(i+1),zO,fin _ r (Nu L (fun q hq=>?_) ae)⟩;have D:=(Yi.1 L).1;rcases WQ.1 hq with h | h
  ·have:=(Yi.1 D).2.2 q h y (by simp)
   omega
  ·rw [WL] at h; subst h; omega
 case pos =>
  have af:decide (x<y)=true:=decide_eq_true ah;rw [af];refine zX (E0 g o s u1 z @aS I E F O P u6 U) ?_;obtain ⟨M,J⟩:∃ M,M=(d++[y])++x :: (B++R):=⟨_,rfl⟩
  rw [<- J] at r av;have am:M.set j y=d++y :: y :: (B++R):=by
   rw [J,List.set_append_right _ _ (by simp; omega)]
   have:j-(d++[y]).length=0:=by simp; omega
   rw [this]; simp
  have ao:(M.set j y).set d.length x=d++x :: ((y :: B)++R):=by
   rw [am,List.set_append_right _ _ (Jv _)]; simp
  have ay:SF (Q.get b) none j=some (.int .i64 x):=by rw [r]; rw [p,<- J] at E; exact E
  have az:SF (Q.get b) none d.length=some (.int .i64 y):=by rw [r]; rw [p,<- J] at F; exact F
  have aA:y5 (Q.get b) 1 j (.int .i64 y)=some (.cells (aQ (M.set j y)) aL true):=by rw [r]; exact Je zO
  have aD:y5 (some (.cells (aQ (M.set j y)) aL true)) 1 d.length (.int .i64 x)=some (.cells (aQ ((M.set j y).set d.length x)) aL true):=Je (by rw [jL]; omega);have aO:=w3 _ _ r;refine EX (fun T'=>T'.length=49/\ad T' 0=.own b 0 n c 1 xf/\ad T' 7=.int .i64 (j:Int)) (zV (aC g s o)) ?_;clear g s o;rintro T3 ⟨ar,v0,v7⟩;refine aJ ?_;refine zD (pD ar v0 v7 I ay az aA aD O P) ?_;have aw:(d++x :: ((y :: B)++R)).Perm l:=by
   refine List.Perm.trans ?_ ab;rw [show (d++[y])++x :: (B++R)=d++(y :: x :: (B++R)) by simp,show d++x :: ((y :: B)++R)=d++(x :: y :: (B++R)) by simp];exact List.Perm.append_left _ (List.Perm.swap y x _)
  refine ⟨zK,d.length,zO,d.length,d,x,y :: B,R,rfl,rfl,rfl,by simp at al ⊢; omega,by simpa using L,fun q hq=>?_,aw,by rw [ao]⟩;rcases WV.1 hq with rfl | hq
  ·omega
  ·exact ae q hq
set_option maxRecDepth 20000 in
def EM (C:Code tab) (e:Wf H):Ans tab (.fn gL [.int .u64 0]) H fun v H'=>(∃ L:Int,v=.int .i64 L)/\Kp H H':=by
 refine cz C.q104 zU fun T hl c=>?_;obtain ⟨L,a,d,-,-⟩:=Cu (x:=0) zU;have b:SL (.str ⟨#[0,1,2,2,3,3,3,3,4,4,4,4,4,4,4,4,5,5,5,5,5,5,5,5,5,5,5,5,5,5,5,5,6,6,6,6,6,6,6,6,6,6,6,6,6,6,6,6,6,6,6,6,6,6,6,6,6,6,6,6,6,6,6,6,7,7,7,7,7,7,7,7,7,7,7,7,7,7,7,7,7,7,7,7,7,7,7,7,7,7,7,7,7,7,7,7,7,7,7,7,7,7,7,7,7,7,7,7,7,7,7,7,7,7,7,7,7,7,7,7,7,7,7,7,7,7,7,7,8,8,8,8,8,8,8,8,8,8,8,8,8,8,8,8,8,8,8,8,8,8,8,8,8,8,8,8,8,8,8,8,8,8,8,8,8,8,8,8,8,8,8,8,8,8,8,8,8,8,8,8,8,8,8,8,8,8,8,8,8,8,8,8,8,8,8,8,8,8,8,8,8,8,8,8,8,8,8,8,8,8,8,8,8,8,8,8,8,8,8,8,8,8,8,8,8,8,8,8,8,8,8,8,8,8,8,8,8,8,8,8,8,8,8,8,8,8,8,8,8,8,8,8,8,8,8,8]⟩) (.int .u8 (IntKind.u8.wrap 0))=some (.int .u8 (L:Int)):=a;simp -dsimp (maxSteps:=1000000) (disch:=(first | omega | assumption | exact aF _ | exact bi _ _ | exact bB | exact cK _ _ _ | exact bS _ _ | exact bJ _ _ _ _ _ _ | exact cQ _ _ | exact bX _)) only [↓wD,wC,Nat.reduceLT,Nat.reduceEqDiff,Nat.reduceAdd,reduceIte,reduceCtorEq,Nat.reduceBEq,Int.reduceEq,Int.reduceLT,Int.reduceLE,Int.reduceAdd,Int.reduceSub,hl,c,qA,yS,↓cN,b];exact ⟨⟨_,rfl⟩,zK⟩
def GO (C:Code tab) (c:Wf H) {n:Nat} (hn:n<=1000):Ans tab (.fn lV [.int .u64 (n:Int)]) H fun v H'=>(∃ L:Int,v=.int .i64 L)/\Kp H H':=by
 refine cz C.q78 zU fun T hl a=>?_;refine zW (aB hl a) ?_;by_cases h0:n=0
 ·subst h0;refine AnsH.use (EM C zF) ?_;rintro _ H2 ⟨⟨L,rfl⟩,b⟩;obtain ⟨k2,_,_⟩:=zT H zK b;refine zW (aB hl a) ?_;exact ⟨⟨L,rfl⟩,zK⟩
 ·refine AnsH.use (BB C (w:=n) zF zO zO) ?_;rintro _ H2 ⟨⟨L,rfl,-⟩,b⟩;obtain ⟨k2,_,_⟩:=zT H zK b;refine zW (aB hl a) ?_;exact ⟨⟨(L:Int),rfl⟩,zK⟩
def Jk (C:Code tab) {H0:Heap} (f:Kp H0 H) {v:AV} {n:Nat} (hn:n<=12) {Z:Int} (R:Heap->Prop) (hi:∀ m,Ans tab (.fn br [v,.int .i64 0,.int .i64 (n:Int)]) (H.up m) fun _ H'=>R H'/\Kp H0 H') (r:∀ H' m,R H'->R (H'.up m)) :
  Ans tab (.fn dF [v,.int .i64 0,.int .i64 (n:Int),.int .i64 Z]) H fun _ H'=>R H'/\Kp H0 H':=by
 have s:=f.wf;refine Ox C.q79 zU fun T hl a b c d=>?_;refine zW (cn hl a b c d) ?_;refine bk H0 [1,2] (fun k vs H'=>vs=[.int .i64 0,.int .i64 (n:Int)]/\H'=H.up 2) 0 (by simp only [jL]; exact hl) zU (f.up _) ⟨by exact zV (ip hl a b c d b c),rfl⟩ ?_;rintro k T1 p g l q ⟨h,rfl⟩;simp only [SA,WF,Ud,and_true] at h;obtain ⟨t1,o⟩:=h;have t0:ad T1 0=v:=(l.at_ 0 zU).trans (zV (aB hl a));have e:IntKind.i64.wrap ((n:Int)-0)=(n:Int):=by rw [wrap_i64] <;> omega
 have i:(n:Int)<=12:=zO;refine zW (fy g t0 t1 o e i) ?_;refine AnsH.use (hi 12) ?_;rintro _ H2 ⟨hr,j⟩;refine zW g ?_;exact ⟨hr,j⟩
def Pi (C:Code tab) {H0:Heap} (d:Kp H0 H) {b n c:Nat} {xf:Bool} {l:List Int} (hb:H0.next<=b) (h:H.get b=some (.cells (aQ l) aL true)) (hn:l.length=n) (j:n<=12) :
  Ans tab (.fn dj [.own b 0 n c 1 xf]) H fun _ H'=>(∃ m,H'.get b=some (.cells (aQ m) aL true)/\m.Perm l/\Mx m)/\Kp H0 H':=by
 have o:=d.wf;refine cz C.q53 zU fun T hl a=>?_;have i:lenV (.own b 0 n c 1 xf)=some (.int .i64 (n:Int)):=by simp [lenV,gJ]
 have e:IntKind.u64.wrap (n:Int)=(n:Int):=by show (n:Int) % 18446744073709551616=n; omega
 refine zW (aZ hl a i e) ?_;refine AnsH.use (GO C (n:=n) zF zO) ?_;rintro _ H2 ⟨⟨L,rfl⟩,f⟩;obtain ⟨k2,_,w2⟩:=zT H zK f;have h2:=k2.get h;refine zW (aB hl a) ?_;refine AnsH.use (Jk C (H0:=H0) (d.trans k2) (n:=n) j (fun H'=>∃ m,H'.get b=some (.cells (aQ m) aL true)/\m.Perm l/\Mx m) (fun m=>BT C ((d.trans k2).up m) hb h2 hn zO) (fun H' m h=>h)) ?_;rintro _ k ⟨hr,g⟩;refine zW (aB hl a) ?_;exact ⟨hr,g⟩
def BS (C:Code tab) {H0:Heap} (d:Kp H0 H) {v:AV} :
  Ans tab (.fn br [v,.int .i64 0,.int .i64 ((0:Nat):Int)]) H fun _ H'=>True/\Kp H0 H':=by
 have m:=d.wf;refine mz C.q105 zU fun T hl b c a=>?_;have f:IntKind.i64.wrap (0+1)=((1:Nat):Int):=by decide
 refine zW (cn hl b c a f) ?_;refine bk H0 [6] (fun k vs H'=>vs=[.int .i64 ((1:Nat):Int)]) 0 (by simp only [jL]; exact hl) rfl (d.up _) (by refine zW (aZ hl b c a) ?_; rfl) ?_;rintro k T1 l h i g e;simp only [SA,WF,Ud,and_true] at e;have j:ad T1 2=.int .i64 ((0:Nat):Int):=(i.at_ 2 zU).trans (zV (cn hl b c a a));refine zW (aC h e j) ?_;exact g.up _
def Ph (C:Code tab) (g:Wf H) :
  Ans tab (.fn dj [.nilSl]) H fun _ H'=>Kp H H':=by
 refine cz C.q53 zU fun T hl a=>?_;have d:lenV .nilSl=some (.int .i64 0):=rfl;have e:IntKind.u64.wrap 0=0:=rfl;refine zW (aZ hl a d e) ?_;refine AnsH.use (GO C (n:=0) zF zO) ?_;rintro _ H2 ⟨⟨L,rfl⟩,b⟩;obtain ⟨k2,_,w2⟩:=zT H zK b;refine zW (aB hl a) ?_;refine AnsH.use (Jk C (H0:=H) k2 (n:=0) zO (fun _=>True) (fun m=>BS C (k2.up m)) (fun _ _ _=>trivial)) ?_;rintro _ f ⟨-,c⟩;refine zW (aB hl a) ?_;exact c
def uQ (C:Code tab) (b:Wf H) {sa:AV} (ha:One sa) :
  Ans tab (.fn dO [sa]) H fun v H'=>v=.fn (.func aO) [] [.ptr H.next 0]/\H'.get H.next=some (.cells [sa] dy true)/\H.next+1<=H'.next/\Kp H H':=by
 refine cz C.q30 zU fun T hl a=>?_;refine zW (aC hl a (BA ha)) ?_;exact ⟨zO,zK⟩
def Hr (C:Code tab) {H0:Heap} {o p:Nat} {l:List Int} {sa:AV} (J:Nat->Heap->Prop) (A:l.length<4611686018427387904)
  (q:Kp H0 H) (h0:J 0 H) (n:∀ k H m,J k H->J k (H.up m)) (hA:H.get p=some (.cells [sa] dy true)) (hs:∀ k H,J k H->pC (gK .i64) aL H sa l) (z:pC (gK .i64) aL H sa l)
  (hr:∀ k (h:k<l.length) H,Kp H0 H->J k H->Ans tab (.round o [.int .i64 l[k]]) H fun v H'=>v=.bool true/\Kp H0 H'/\J (k+1) H') :
  Ans tab (.ent aO [.loopv o,.ptr p 0]) H fun _ H'=>Kp H0 H'/\J l.length H':=by
 have B:=q.wf;refine ST C.q51 zU fun T hl c f=>?_;refine zW (cn hl c f hA z.lenV) ?_;refine aq H0 [] (fun j _ H'=>J j H') (a:=0) (N:=l.length) rfl (by refine zW (aC hl c f) ?_; rfl) (zV (aC hl c f)) (WG _) zO (by simp only [jL,hl]; rfl) rfl (fun j _ H' m h=>n _ _ _ h) (q.up _) (n _ _ _ h0) ?_ ?_
 ·intro j T1 r _ hj b t i e d;have w1:=e.wf;have D:=e.le;have t0:ad T1 0=.loopv o:=(i.at_ 0 zU).trans (zV (aB hl c));have t5:ad T1 5=sa:=(i.at_ 5 zU).trans (zV (aC hl c f));obtain ⟨w,g,y⟩:=SlV.at1 (hs _ _ d) (zh hj);have g:w=.int .i64 l[j]:=g;subst g;have u:=SlV.idx1 (hs _ _ d) .i64 j hj;simp only [jL,hl] at b;refine zW (fy b t0 t5 t u y) ?_;refine AnsH.use (hr j hj _ (e.up 7) (n _ _ _ d)) ?_;rintro _ H2 ⟨rfl,x,s⟩;refine zW b ?_;exact ⟨x,s⟩
 ·intro T1 r b i e d;simp only [jL,hl] at b;refine zW b ?_;exact ⟨e,d⟩
set_option maxHeartbeats 2000000 in
def B8 (C:Code tab) (w:Wf H) {bv:Nat} {sa:AV} {l:List Int} (hA:H.get bv=some (.cells [sa] dy true)) (hs:pC (gK .i64) aL H sa l) (L:l.length<=1000) :
  Ans tab (.fn dm [.nilSl,.fn (.func aO) [] [.ptr bv 0]]) H fun v H'=>Bl (bz (gK .i64)) aL H H' v l/\Kp H H':=by
 have V:=w _ _ hA;refine bE C.q77 zU fun T hl g i=>?_;refine zW (aC hl g i) ?_;refine pJ (fi:=aO) (args:=[.loopv (H.next+3),.ptr bv 0]) (by refine zW (aC hl g i) ?_; rfl) ?_;have D:((H.up 3).put H.next (.cells [.nilSl] dy true)).next=H.next+3:=rfl
 rw [D]
 generalize he:Ent.loop _ _ _ _ _ _=e0
 have m:Kp H ((((H.up 3).put H.next (.cells [.nilSl] dy true)).up 1).put (H.next+3) e0):=((((Kp.refl w).up 3).put (Jv _) (show H.next<H.next+3 by omega)).up 1).put (show H.next<=H.next+3 by omega) (show H.next+3<H.next+3+1 by omega);have P:=m.le;refine (Hr C (H0:=H) (l:=l) (sa:=sa) (fun k H'=>H'.get (H.next+3)=some e0/\(∃ o,H'.get H.next=some (.cells [o] dy true)/\Bl (bz (gK .i64)) aL H H' o (l.take k))/\pC (gK .i64) aL H' sa l) zO m
  ⟨by exact cY,⟨.nilSl,by exact cY,by rw [Y6]; exact Bl.nil⟩,hs.mono m.sub⟩ (fun _ _ _ h=>h) (m.get hA) (fun k H' h=>h.2.2) (hs.mono m.sub) ?_).mono ?_
 ·rintro k B b p ⟨c,⟨o,j,f⟩,O⟩;rw [<- he] at c;refine qp c rfl ?_;refine zW (cn hl g i c j) ?_
  generalize t:Ent.loop _ _ _ _ LoopState.busy none=d
  have hlt:=p.wf _ _ c;have K:=p.le;have U:=p.wf _ _ j;have x:Kp H ((b.up 1).put (H.next+3) d):=(p.up 1).put zO (show _<b.next+1 by omega);have Q:=x.le;have q1:Bl (bz (gK .i64)) aL H ((b.up 1).put (H.next+3) d) o (l.take k):=Bl.put (show Bl _ _ _ (b.up 1) _ _ from f) (f.ne c fun cs h=>by cases h) (SubT.nil _ _);have M:(l.take k).length<=1000:=by rw [WU]; omega
  obtain ⟨n,e,z,q2,F,E,hp⟩:=q1.push (ty2:=aL) (bytes:=8) (id:=b.next+4) (id2:=b.next+3) (k:=5) (cs:=[.int .i64 l[k]]) (a:=l[k]) (fun h=>by cases h) x ⟨_,rfl,rfl⟩
   (by show b.next+1<=_; omega) (by show _<b.next+1+5; omega) (by show b.next+1<=_; omega) (by show _<b.next+1+5; omega) zO zO zO
  have A:dq (((b.up 6).put (H.next+3) d).put (b.next+3) (.cells [.int .i64 l[k]] aL true)) (b.next+4) 1 8 aL o (.own (b.next+3) 0 1 1 1 true)=some (.own (b.next+4) 0 n n 1 false,e):=z;have J:∀ {G:AV} {cs:List AV},Ent.cells [G] dy true ≠ .cells cs aL true:=fun h=>by injection h with _ h2; exact absurd h2 zU
  have s:((b.up 1).put (H.next+3) d).get H.next=some (.cells [o] dy true):=by rw [aw zO]; exact j
  have I:e.get H.next=some (.cells [o] dy true):=hp H.next _ s (q1.ne s fun cs=>J)
  have r:((b.up 1).put (H.next+3) d).get (H.next+3)=some d:=am _ _ _;have r0:e.get (H.next+3)=some d:=hp (H.next+3) d r (q1.ne r fun cs h=>by rw [<- t] at h; cases h);have N:e.next=b.next+6:=E
  have q:Kp H ((e.put H.next (.cells [.own (b.next+4) 0 n n 1 false] dy true)).put (H.next+3) e0):=(F.put (Jv _) zO).put zO (show _<e.next by omega);have R:=q.le;refine zW (cn hl g i A I) ?_;rw [uU];refine zW (aC t he r0) ?_;refine ⟨q,⟨_,rfl,?_⟩,hs.mono q.sub⟩;rw [TY B];exact (q2.put (fun n' h=>by injection h; omega) (SubT.nil _ _)).put (fun n' h=>by injection h; omega) (SubT.nil _ _)
 ·rintro _ H' ⟨u,c,⟨o,j,f⟩,-⟩;have hlt:=u.wf _ _ c;refine .inl ⟨c,?_⟩;rw [WZ] at f;refine zW (aZ hl g i j) ?_;have y:Kp H ((H'.up 2).kill (H.next+3)):=(u.up 2).kill zO;have S:=y.le;exact ⟨Bl.kill (show Bl _ _ _ (H'.up 2) _ _ from f) (f.ne c fun cs h=>by rw [<- he] at h; cases h) (SubT.nil _ _),y⟩
def Ha (C:Code tab) (i:Wf H) {bv:Nat} {sa:AV} {l:List Int} (hA:H.get bv=some (.cells [sa] dy true)) (hs:pC (gK .i64) aL H sa l) (f:l.length<=1000) :
  Ans tab (.fn gW [.fn (.func aO) [] [.ptr bv 0]]) H fun v H'=>Bl (bz (gK .i64)) aL H H' v l/\Kp H H':=by
 refine cz C.q52 zU fun T hl a=>?_;refine zW (aB hl a) ?_;refine AnsH.use (B8 C zF (bv:=bv) (sa:=sa) (l:=l) hA (hs.mono (Sub.bump H _)) f) ?_;rintro v H2 ⟨g,c⟩;obtain ⟨k2,_,_⟩:=zT H zK c;refine zW (aB hl a) ?_;refine ⟨?_,k2⟩;rcases g with h | ⟨b,cells,e,hb,hc,d⟩
 ·exact .inl h
 ·exact .inr ⟨b,cells,e,hb,hc,WK (W3 _ _) d⟩
def IO:∀ {cells:List AV} {l:List Int},Cells (bz (gK .i64)) H cells l->cells=aQ l:=by
 intro cells l h;have hl:cells.length=l.length:=by have:=h.1; rw [show (bz (gK .i64)).sz=1 from rfl,XP] at this; exact this
 unfold aQ
 apply X1
 ·rw [Nj]; exact hl
 ·intro i h1 h2;have hi:i<l.length:=zO;obtain ⟨w,a,b⟩:=h.2 i l[i] (zh hi);have b:w=.int .i64 l[i]:=b;subst b;rw [show (bz (gK .i64)).sz=1 from rfl,XP,List.drop_eq_getElem_cons h1] at a;have a:[cells[i]]=[AV.int .i64 l[i]]:=a
  simpa using a
def nP {b:Nat} {m:List Int} {xf:Bool} (h:H.get b=some (.cells (aQ m) aL true)):pC (gK .i64) aL H (.own b 0 m.length m.length 1 xf) m :=
 (show Own (bz (gK .i64)) aL (Heap.nil 0) H b xf _ _ from ⟨_,rfl,h,⟨by rw [show (bz (gK .i64)).sz=1 from rfl]; simp [aQ],fun i a hi=>by
  obtain ⟨c,rfl⟩:=WI.1 hi;refine ⟨.int .i64 m[i],?_,rfl⟩;have h1:i<(aQ m).length:=by simpa [aQ] using c
  rw [show (bz (gK .i64)).sz=1 from rfl,XP,List.drop_eq_getElem_cons h1];show [(aQ m)[i]]=_;simp [aQ]⟩,WG _⟩).sl
def IW (C:Code tab) (q:Wf H) {bv:Nat} {sa:AV} {l:List Int} (hA:H.get bv=some (.cells [sa] dy true)) (hs:pC (gK .i64) aL H sa l) (j:l.length<=12) :
  Ans tab (.fn iL [.fn (.func aO) [] [.ptr bv 0]]) H fun v H'=>(∃ m,pC (gK .i64) aL H' v m/\m.Perm l/\Mx m)/\Kp H H':=by
 refine cz C.q31 zU fun T hl d=>?_;refine zW (aB hl d) ?_;refine AnsH.use (Ha C zF (bv:=bv) (sa:=sa) (l:=l) hA (hs.mono (Sub.bump H _)) zO) ?_;rintro v H2 ⟨o,g⟩;obtain ⟨k2,_,w2⟩:=zT H zK g;rcases o with ⟨rfl,rfl⟩ | ⟨b,cells,rfl,hb,hc,i⟩
 ·refine zW (aB hl d) ?_;refine AnsH.use (Ph C zF) ?_;rintro _ f h;have a:Kp H f:=k2.trans (Kp.trans zK h);have r:=a.le;have p:=a.wf;refine zW (aB hl d) ?_;exact ⟨⟨[],SlV.nil _ _ _,List.Perm.refl _,List.Pairwise.nil⟩,a.up _⟩
 ·have e:=IO hc;subst e;refine zW (aB hl d) ?_;refine AnsH.use (Pi C (H0:=H) (k2.up _) (b:=b) (n:=l.length) (c:=l.length) (xf:=false) (l:=l) (by have:H.next<=b:=WK (W3 _ _) i; exact this) hb rfl j) ?_;rintro _ f ⟨⟨m,hm,hp,k⟩,a⟩;have p:=a.wf;refine zW (aB hl d) ?_;have h4:=nP (xf:=false) hm;rw [hp.length_eq] at h4;exact ⟨⟨m,h4.mono (Sub.bump f _),hp,k⟩,a.up _⟩
end
section
open Lin
variable {n m:Nat}
def Ji {d m:Nat} (hd:d<=4):(2*d*2^m)^2^d<=2^(16*(m+4)):=by
 have h1:2*d*2^m<=2^(m+4):=by
  rw [Xw,WR (2^m)];exact WJ _ zO
 have h2:2^d<=2^4:=W8 (by decide) hd;have h3:2^d*(m+4)<=16*(m+4):=WJ _ h2
 calc (2*d*2^m)^2^d<=(2^(m+4))^2^d:=YC h1 _
  _=2^((m+4)*2^d):=(ZC ..).symm
  _<=2^(16*(m+4)):=W8 (by decide) (by rw [WR]; exact h3)
def Rt {a b:Nat} {x:V} (h:Bd a x) (c:a<=b):Bd b x:=fun i=>WK (h i) c
def Fh {d:Nat} {E I:List V} (g:0<d) (hd:d<=4) (b:∀ a∈E,a.length=d/\Bd (2^m) a) (c:∀ a∈I,a.length=d/\Bd (2^m) a) :
  (∀ l∈gensL d E I,Bd (2^(16*(m+4))) l)/\(∀ r∈gensR d E I,Bd (2^(16*(m+4))) r):=by
 have t:=gens_told (d:=d) (fun a ha=>(b a ha).1) (fun a ha=>(c a ha).1);obtain ⟨e,f⟩:=told_bd g (Xh (by decide)) t b c;exact ⟨fun l hl=>Rt (e l hl) (Ji hd),fun r hr=>Rt (f r hr) (Ji hd)⟩
def xu {l:List (V × Bool)} (hn:n<=3) (h:∀ c∈l,c.1.length=n+1/\Bd (2^m) c.1):∀ x∈gensP n l,x.2.length=n+1/\Bd (2^(16*(m+4))) x.2:=fun x hx=>by
 have f:∀ a∈eqsOf l,a.length=n+1/\Bd (2^m) a:=fun a ha=>h _ (mem_eqs.1 ha);have g:∀ a∈ineqsOf n l,a.length=n+1/\Bd (2^m) a:=fun a ha=>by
  rcases mem_ineqs.1 ha with rfl | ha
  ·exact ⟨unitC_len n 1,Dp n m⟩
  ·exact h _ ha
 refine ⟨sO (fun c hc=>(h c hc).1) x hx,?_⟩;obtain ⟨b,e⟩:=Fh (d:=n+1) (m:=m) zO zO f g;unfold gensP at hx;split at hx
 ·rcases WQ.1 hx with hx | hx
  ·obtain ⟨r,hr,rfl⟩:=DT.1 hx;exact b r hr
  ·obtain ⟨r,hr,rfl⟩:=DT.1 hx;exact e r hr
 ·cases hx
def CM {g:List (Nat × V)} (hn:n<=3) (h:∀ x∈g,x.2.length=n+1/\Bd (2^m) x.2):∀ c∈consP n g,c.1.length=n+1/\Bd (2^(16*(m+4))) c.1:=fun x hx=>by
 refine ⟨lD (fun y hy=>(h y hy).1) x hx,?_⟩;have hb:=(A2 (m:=m) zO h x hx).2;have f:∀ a∈linesOf g,a.length=n+1/\Bd (2^m) a:=fun a ha=>h _ (mem_lines.1 ha);have j:∀ a∈raysOf g,a.length=n+1/\Bd (2^m) a:=fun a ha=>by
  obtain ⟨y,hy,rfl⟩:=VC ha;exact h _ hy
 obtain ⟨b,e⟩:=Fh (d:=n+1) (m:=m) zO zO f j;unfold consP at hx;split at hx
 ·rcases WQ.1 hx with hx | hx
  ·obtain ⟨r,hr,rfl⟩:=DT.1 hx;exact b r hr
  ·obtain ⟨r,hr,rfl⟩:=DT.1 hx;exact e r (WO.1 hr).1
 ·rw [WL] at hx;subst hx;intro i
  have:∀ i,(at_ (unitC n (-1)) i).natAbs<=1:=fun i=>by
   unfold at_ unitC;cases i with
   | zero=>simp
   | succ i=>simp [qf,Xv]; split <;> simp
  exact WK (this i) (Nat.one_le_two_pow)
end
section
variable {tab:Nat->Option au} {H:Heap}
end
section
variable {P:Nat->Prop} {H0 D H H':Heap} {b:Nat} {l:List (Nat × List Int)}
variable {tab:Nat->Option au}
end
section
open Lin
variable {n x:Nat} {a:List Int} {rn rn':Bool} {lo hi:Int} {G:List (Nat × List Int)}
def xJ {M:Nat} {r:List Int} (h:∀ z∈r,z.natAbs<=M):Bd M r:=fun i=>by
 unfold at_;rw [qf];cases h1:r[i]? with
 | none=>exact WG _
 | some z=>exact h z (WN h1)
end
section
variable {tab:Nat->Option au} {H:Heap}
end
section
variable {tab:Nat->Option au} {H:Heap} {s:AV}
end
end Go.Proofs.YtiigaeehghcjiaaGreat.Ev
namespace Go.Proofs.YtiigaeehghcjiaaGreat.Lin
section
variable {n x:Nat} {a r:V} {K:List (V × Bool)} {G:List (Nat × V)}
def Wd {c:V × Bool} {y:Nat × V} (h:keepsP c y=true):(c.2=true->dot c.1 y.2=0)/\0<=dot c.1 y.2:=by
 rw [cO] at h;split at h
 ·exact ⟨fun _=>h,zO⟩
 ·rename_i q;exact ⟨fun e=>absurd (.inl e) q,h⟩
def V8 {c:V × Bool} {k:Nat} (a:k≠1) (h:(c.2=true->dot c.1 r=0)/\0<=dot c.1 r):keepsP c (k,r)=true:=by
 rw [cO];split
 ·rename_i q;rcases q with q | q
  ·exact h.1 q
  ·exact absurd q a
 ·exact h.2
def Vp {l:List (V × Bool)} (hr:r.length=n+1) (h0:0<hd1 r):inP [(3,r)] l=true ↔ de n l r:=by
 rw [inP_iff,keepP_iff];constructor
 ·intro h;refine ⟨hr,zO,fun c hc=>?_⟩
  have:=Wd (h (3,r) (WL.2 rfl) c hc)
  exact ⟨this.1,fun _=>this.2⟩
 ·rintro ⟨-,-,h⟩ y hy c hc;rw [WL] at hy; subst hy;refine V8 (by decide) ⟨(h c hc).1,?_⟩;cases hb:c.2 with
  | false=>exact (h c hc).2 hb
  | true=>have:=(h c hc).1 hb; omega
def Wq {l:List (V × Bool)} (hl:∀ c∈l,c.1.length=n+1) (hr:r.length=n+1) (h0:0<hd1 r):inP [(3,r)] (consP n (gensP n l))=inP [(3,r)] l:=by
 rw [Xo,Vp hr h0,Vp hr h0];by_cases he:gensP n l=[]
 ·constructor
  ·intro h;rw [he] at h
   have:=((keepP_iff.1 h).2.2 (unitC n (-1),false) (WL.2 rfl)).2 rfl
   rw [iC] at this;omega
  ·intro h;exact absurd he ((mL hl).2 ⟨r,h,h0⟩)
 ·exact FJ hl (sX he) r
def Own.ne (o:Own n K G) (hr:de n K r) (h0:0<hd1 r):G≠[]:=by
 have:=(mL o.rows).2 ⟨r,hr,h0⟩
 rw [o.gens] at this; exact this
end
section
variable {n:Nat} {K K':List (V × Bool)} {G G':List (Nat × V)}
def Own.same (o:Own n K G) (a:Own n K' G') (h:∀ r,de n K r ↔ de n K' r):K=K'/\G=G':=by
 have e:G=G':=by rw [<- o.gens,<- a.gens]; exact AO o.rows a.rows h
 exact ⟨by rw [<- o.cons,<- a.cons,e],e⟩
def Own.same_valid (o:Own n K G) (a:Own n K' G') (h:∀ c:V × Bool,c.1.length=n+1->(mm n K c ↔ mm n K' c)):K=K'/\G=G' :=
 o.same a fun r=>⟨fun hr=>vE hr fun c hc=>(h c (a.rows c hc)).2 (Ce hc),fun hr=>vE hr fun c hc=>(h c (o.rows c hc)).1 (Ce hc)⟩
def Own.valid_iff (o:Own n K G) (a:G≠[]) {c:V × Bool}:(∀ g∈G,keepsP c g=true) ↔ mm n K c:=by
 have:=zy (n:=n) (c:=c) o.rows (by rw [o.gens]; exact a)
 rw [o.gens] at this; exact this
def tY {g:List (Nat × V)} (hg:ValidG n g) (h3:g.any (fun y=>y.1 == 3)=true) {c:V × Bool} (hc:c.1.length=n+1):mm n (consP n g) c ↔ ∀ y∈g,keepsP c y=true:=by
 have o:=own_span hg;rw [<- o.valid_iff (wL hg h3)]
 have:=Qb hg (.inr h3) (K:=[c]) (fun d hd=>by rw [WL] at hd; subst hd; exact hc)
 rw [Xo,inP_iff,inP_iff] at this;constructor
 ·intro h y hy;exact this.1 (fun g hg d hd=>by rw [WL] at hd; subst hd; exact h g hg) y hy c (WL.2 rfl)
 ·intro h y hy;exact this.2 (fun g hg d hd=>by rw [WL] at hd; subst hd; exact h g hg) y hy c (WL.2 rfl)
def y8 {l:List (V × Bool)} (hl:∀ c∈l,c.1.length=n+1) (hne:gensP n l≠[]) (r:V):de n (consP n (gensP n l)) r ↔ de n l r:=FJ hl (sX hne) r
def padC (c:V × Bool):V × Bool:=(c.1++[0],c.2)
def vP:∀ {c r:V} {a b:Int},c.length=r.length->dot (c++[a]) (r++[b])=dot c r+a*b
 | [],[],a,b,_=>by simp [dot]
 | x :: c,y :: r,a,b,h=>by
  have:=vP (c:=c) (r:=r) (a:=a) (b:=b) (by simpa using h)
  simp only [Yn,dot,this]; omega
def AM {r:V} {n:Nat} (h:r.length=n+1) (s:V):hd1 (r++s)=hd1 r:=by
 cases r with
 | nil=>simp at h
 | cons a r=>rfl
def qZ (a:∀ c∈K,c.1.length=n+1):∀ c∈K.map padC,c.1.length=(n+1)+1:=fun c hc=>by
 obtain ⟨d,hd,rfl⟩:=DT.1 hc;simp [padC,a d hd]
def ju (a:∀ c∈K,c.1.length=n+1) {r:V} (hr:r.length=n+1) (z:Int):de (n+1) (K.map padC) (r++[z]) ↔ de n K r:=by
 have hd:∀ c∈K,dot (c.1++[0]) (r++[z])=dot c.1 r:=fun c hc=>by rw [vP (by rw [a c hc,hr])]; omega
 rw [keepP_iff,keepP_iff,AM hr];constructor
 ·rintro ⟨-,h2,h3⟩;refine ⟨hr,h2,fun c hc=>?_⟩
  have:=h3 (padC c) (DT.2 ⟨c,hc,rfl⟩)
  rw [show (padC c).1=c.1++[0] from rfl,hd c hc] at this;exact this
 ·rintro ⟨-,h2,h3⟩;refine ⟨by simp [hr],h2,fun d b=>?_⟩;obtain ⟨c,hc,rfl⟩:=DT.1 b;rw [show (padC c).1=c.1++[0] from rfl,hd c hc];exact h3 c hc
def ze {r:V} (hr:r.length=(n+1)+1):∃ s z,s.length=n+1/\r=s++[z]:=by
 refine ⟨r.dropLast,r.getLast (by intro h; rw [h] at hr; cases hr),by rw [List.length_dropLast]; omega,(List.dropLast_concat_getLast _).symm⟩
def zi (a:∀ c∈K,c.1.length=n+1):gensP (n+1) (K.map padC)≠[] ↔ gensP n K≠[]:=by
 rw [mL (qZ a),mL a];constructor
 ·rintro ⟨r,hr,h0⟩;obtain ⟨s,z,hs,rfl⟩:=ze (keepP_iff.1 hr).1;rw [AM hs] at h0;exact ⟨s,(ju a hs z).1 hr,h0⟩
 ·rintro ⟨r,hr,h0⟩;have hl:=(keepP_iff.1 hr).1;exact ⟨r++[0],(ju a hl 0).2 hr,by rw [AM hl]; exact h0⟩
def grow_pt (a:∀ c∈K,c.1.length=n+1) {r:V} (hr:r.length=n+1) (h0:0<hd1 r) (z:Int):inP [(3,r++[z])] (consP (n+1) (gensP (n+1) (K.map padC)))=inP [(3,r)] K:=by
 have hl:(r++[z]).length=(n+1)+1:=by simp [hr]
 have h1:0<hd1 (r++[z]):=by rw [AM hr]; exact h0
 rw [Wq (qZ a) hl h1,Xo,Vp hl h1,Vp hr h0];exact ju a hr z
end
section
variable {n x:Nat} {K K':List (V × Bool)} {G G':List (Nat × V)}
def delR (x:Nat) (r:V):V:=r.eraseIdx (x+1)
def delG (x:Nat) (g:Nat × V):Nat × V:=(g.1,delR x g.2)
def Ou (x:Nat) (c:V):V:=c.take (x+1)++0 :: c.drop (x+1)
def JU:∀ (x:Nat) (c r:V),x<=c.length->r.length=c.length+1->dot (c.take x++0 :: c.drop x) r=dot c (r.eraseIdx x)
 | 0,c,b :: r,_,_=>by simp [dot]
 | x+1,a :: c,b :: r,h,h'=>by
  have:=JU x c r (by simpa using h) (by simpa using h')
  simp only [List.take_succ_cons,List.drop_succ_cons,Yn,List.eraseIdx_cons_succ,dot,this]
 | x+1,[],r,h,_=>by simp at h
def QR {r:V} (hr:r.length=(n+1)+1) (hx:x<n+1):(delR x r).length=n+1:=by
 unfold delR; rw [ZE zO]; omega
def ON {r:V} (x:Nat):hd1 (delR x r)=hd1 r:=by
 cases r with
 | nil=>rfl
 | cons a r=>rfl
def Cz {c:V × Bool} {g:Nat × V} (hc:c.1.length=n+1) (hg:g.2.length=(n+1)+1) (hx:x<n+1):keepsP (Ou x c.1,c.2) g=keepsP c (delG x g):=by
 have e:dot (Ou x c.1) g.2=dot c.1 (delR x g.2):=JU (x+1) c.1 g.2 zO (by rw [hc,hg]);rw [Xo,cO,cO,e];exact ZZ
def del_valid (a:ValidG (n+1) G) (hx:x<n+1):ValidG n (G.map (delG x)):=fun y hy=>by
 obtain ⟨g,hg,rfl⟩:=DT.1 hy;obtain ⟨h1,h2,h3⟩:=a g hg;exact ⟨QR h1 hx,fun h=>by rw [delG,ON]; exact h2 h,fun h=>by rw [delG,ON]; exact h3 h⟩
def QT (G:List (Nat × V)) (x:Nat):(G.map (delG x)).any (fun y=>y.1 == 3)=G.any fun y=>y.1 == 3:=by
 rw [List.any_map]; rfl
def ID (o:Own (n+1) K G) (a:G≠[]) (hx:x<n+1) {c:V × Bool} (hc:c.1.length=n+1):mm n (consP n (G.map (delG x))) c ↔ mm (n+1) K (Ou x c.1,c.2):=by
 rw [tY (del_valid o.valid hx) (by rw [QT]; exact o.point a) hc,<- o.valid_iff a];constructor
 ·intro h g hg;rw [Cz hc (o.valid g hg).1 hx];exact h _ (DT.2 ⟨g,hg,rfl⟩)
 ·intro h y hy;obtain ⟨g,hg,rfl⟩:=DT.1 hy;rw [<- Cz hc (o.valid g hg).1 hx];exact h g hg
def VO (o:Own (n+1) K G) (d:G≠[]) (hx:x<n+1) {r:V} (hr:de (n+1) K r):de n (consP n (G.map (delG x))) (delR x r):=by
 have hl:=keepP_iff.1 hr;have a:=(own_span (del_valid (x:=x) o.valid hx)).rows;refine keepP_iff.2 ⟨QR hl.1 hx,by rw [ON]; exact hl.2.1,fun c hc=>?_⟩;have b:=(ID o d hx (a c hc)).1 (Ce hc) r hr;have e:dot (Ou x c.1) r=dot c.1 (delR x r):=JU (x+1) c.1 r (by rw [a c hc]; omega) (by rw [a c hc,hl.1]);rw [e] at b;exact ⟨b.1,fun _=>b.2⟩
def drop_pt (o:Own (n+1) K G) (hx:x<n+1) {r:V} (hr:r.length=(n+1)+1) (h0:0<hd1 r) (h:inP [(3,r)] K=true):inP [(3,delR x r)] (consP n (G.map (delG x)))=true:=by
 have a:=(Vp hr h0).1 h;exact (Vp (QR hr hx) (by rw [ON]; exact h0)).2 (VO o (o.ne a h0) hx a)
def drop_gen (o:Own (n+1) K G) (hx:x<n+1) {g:Nat × V} (hg:g∈G):inP [delG x g] (consP n (G.map (delG x)))=true:=by
 rw [inP_iff];intro y hy c hc;rw [WL] at hy; subst hy;have a:G≠[]:=fun e=>by rw [e] at hg; cases hg
 exact V9 (del_valid o.valid hx) (by rw [QT]; exact o.point a) (DT.2 ⟨g,hg,rfl⟩) hc
def drop_none (o:Own (n+1) K G) (hx:x<n+1):gensP n (consP n (G.map (delG x)))=[] ↔ G=[]:=by
 constructor
 ·intro h;refine W0 fun a=>wL (del_valid o.valid hx) (by rw [QT]; exact o.point a) h
 ·rintro rfl;show gensP n (consP n [])=[];rw [N0 (by simp)];exact pK
end
section
variable {n:Nat} {K K':List (V × Bool)} {G G':List (Nat × V)} {o:List Nat}
def Ord (n:Nat) (o:List Nat):Prop:=o.Perm (List.range n)
def mvO (o:List Nat) (r:V):V:=hd1 r :: o.map fun i=>r.getD (i+1) 0
def mvC (o:List Nat) (c:V × Bool):V × Bool:=(mvO o c.1,c.2)
def Ord.len (h:Ord n o):o.length=n:=by have:=List.Perm.length_eq h; simpa using this
def Ord.mem (h:Ord n o) {i:Nat}:i∈o ↔ i<n:=by rw [List.Perm.mem_iff h,XC]
def mvO_len (h:Ord n o) (r:V):(mvO o r).length=n+1:=by simp [mvO,h.len]
theorem Sy (o:List Nat) (r:V):hd1 (mvO o r)=hd1 r:=rfl
def Dw:List Int->Int
 | []=>0
 | a :: l=>a+Dw l
def Nr {l m:List Int} (h:l.Perm m):Dw l=Dw m:=by
 induction h with
 | nil=>rfl
 | cons a _ c=>simp only [Dw,c]
 | swap a b l=>simp only [Dw]; omega
 | trans _ _ h1 h2=>exact h1.trans h2
def Ey:∀ (l:List Nat) (f g:Nat->Int),dot (l.map f) (l.map g)=Dw (l.map fun i=>f i*g i)
 | [],_,_=>rfl
 | a :: l,f,g=>by simp only [SA,dot,Dw,Ey l f g]
def UX:∀ {n:Nat} {r:V},r.length=n->(List.range n).map (fun i=>r.getD i 0)=r
 | n,r,h=>by
  apply X1
  ·simp [h]
  ·intro i h1 h2;simp [qf,h2]
def Ib {r:V} (hr:r.length=n+1):mvO (List.range n) r=r:=by
 cases r with
 | nil=>simp at hr
 | cons a r =>
  have hr:r.length=n:=by simpa using hr
  have:=UX hr
  unfold mvO;show a :: _=_;rw [show (fun i=>(a :: r).getD (i+1) 0)=fun i=>r.getD i 0 from by funext i; simp,this]
def vu (h:Ord n o) {c r:V} (hc:c.length=n+1) (hr:r.length=n+1):dot (mvO o c) (mvO o r)=dot c r:=by
 have b:dot (mvO o c) (mvO o r)=hd1 c*hd1 r+Dw (o.map fun i=>c.getD (i+1) 0*r.getD (i+1) 0):=by
  unfold mvO;rw [<- Ey]; rfl
 have a:dot (mvO (List.range n) c) (mvO (List.range n) r)=hd1 c*hd1 r+Dw ((List.range n).map fun i=>c.getD (i+1) 0*r.getD (i+1) 0):=by
  unfold mvO;rw [<- Ey]; rfl
 rw [Ib hc,Ib hr] at a;rw [b,a,Nr (h.map _)]
def mv_rows (h:Ord n o):∀ c∈K.map (mvC o),c.1.length=n+1:=fun c hc=>by
 obtain ⟨d,-,rfl⟩:=DT.1 hc;exact mvO_len h _
def pi (h:Ord n o) (a:∀ c∈K,c.1.length=n+1) {r:V} (hr:r.length=n+1):de n (K.map (mvC o)) (mvO o r) ↔ de n K r:=by
 rw [keepP_iff,keepP_iff,Sy];constructor
 ·rintro ⟨-,h2,h3⟩;refine ⟨hr,h2,fun c hc=>?_⟩
  have:=h3 (mvC o c) (DT.2 ⟨c,hc,rfl⟩)
  rw [show (mvC o c).1=mvO o c.1 from rfl,vu h (a c hc) hr] at this;exact this
 ·rintro ⟨-,h2,h3⟩;refine ⟨mvO_len h r,h2,fun d hd=>?_⟩;obtain ⟨c,hc,rfl⟩:=DT.1 hd;rw [show (mvC o c).1=mvO o c.1 from rfl,vu h (a c hc) hr];exact h3 c hc
def movK (n:Nat) (o:List Nat) (K:List (V × Bool)):List (V × Bool):=consP n (gensP n (K.map (mvC o)))
def movG (n:Nat) (o:List Nat) (K:List (V × Bool)):List (Nat × V):=gensP n (K.map (mvC o))
def mov_own (h:Ord n o):Own n (movK n o K) (movG n o K):=own_of (mv_rows h)
def Ord.onto (h:Ord n o) {r:V} (hr:r.length=n+1):∃ s,s.length=n+1/\mvO o s=r:=by
 let g:List Nat:=(List.range n).map fun i=>o.findIdx (· == i)
 have f:∀ i,i<n->o.findIdx (· == i)<n:=fun i hi=>by
  have:=Z2 (p:=(· == i)) (xs:=o) ⟨i,h.mem.2 hi,by simp⟩
  rwa [h.len] at this
 refine ⟨hd1 r :: (List.range n).map fun i=>r.getD (o.findIdx (· == i)+1) 0,by simp,?_⟩;unfold mvO;show hd1 r :: _=r;cases r with
 | nil=>simp at hr
 | cons a r =>
  have hr:r.length=n:=by simpa using hr
  show a :: _=_;congr 1
  apply X1
  ·simp [h.len,hr]
  ·intro i h1 h2;have b:i<o.length:=by rw [h.len]; omega
   have e:o[i]<n:=h.mem.1 (EL b);have d:o.Nodup:=(List.Perm.nodup_iff h).2 List.nodup_range;have c:o.findIdx (· == o[i])=i:=by
    have hlt:=Z2 (p:=(· == o[i])) (xs:=o) ⟨o[i],EL b,by simp⟩;have hp:=List.findIdx_getElem (w:=hlt);exact (List.getElem_inj (h₀:=hlt) (h₁:=b) d).1 (by simpa using hp)
   simp [qf,e,c,h2]
def kP (h:Ord n o) (a:∀ c∈K,c.1.length=n+1):movG n o K≠[] ↔ gensP n K≠[]:=by
 unfold movG;rw [mL (mv_rows h),mL a];constructor
 ·rintro ⟨r,hr,h0⟩;obtain ⟨s,hs,rfl⟩:=h.onto (keepP_iff.1 hr).1;exact ⟨s,(pi h a hs).1 hr,h0⟩
 ·rintro ⟨r,hr,h0⟩;exact ⟨mvO o r,(pi h a (keepP_iff.1 hr).1).2 hr,h0⟩
def pj (h:Ord n o) (a:∀ c∈K,c.1.length=n+1) (hne:gensP n K≠[]) {r:V} (hr:r.length=n+1):de n (movK n o K) (mvO o r) ↔ de n K r:=by
 unfold movK;rw [y8 (mv_rows h) ((kP h a).2 hne)];exact pi h a hr
end
end Go.Proofs.YtiigaeehghcjiaaGreat.Lin
namespace Go.Proofs.YtiigaeehghcjiaaGreat.Ev
open Go Nn
section
variable {tab:Nat->Option au} {H:Heap} {s:AV}
def EA (C:Code tab) (f:Wf H) {l:List Int} (hs:RowV H s l) (h0:0<l.length) (m:l.length<=1000) :
  Ans tab (.fn jI [s]) H fun v H'=>RowV H' v (l++[0])/\Kp H H':=by
 refine cz C.q23 zU fun T hl d=>?_;refine zW (aB hl d) ?_;refine AnsH.use (Dc C zF (hs.mono (zG H)) h0 zO) ?_;rintro v H2 ⟨c,b,hq⟩;obtain ⟨k2,_,w2⟩:=zT H zK c;have n:H.next+7<=H2.next:=c.le
 have f4:H2.get (H.next+4)=none:=c.free (show H.next+4<H.next+7 by omega) (f.fresh (b:=H.next+4) zO);have h:H2.get (H.next+5)=none:=c.free (show H.next+5<H.next+7 by omega) (f.fresh (b:=H.next+5) zO);have q:Bl intE aa H H2 v l:=by
  obtain ⟨cells,e,hb,hc,j⟩:=hq;exact .inr ⟨b,cells,e,hb,hc,WK (W3 _ _) j⟩
 have bb:im [.bool false,.nilSl] []=some (.agg [.bool false,.nilSl]):=rfl;have i:=AR (p:=.bool false) (q:=.nilSl) (aF false) bB;obtain ⟨N,g,e3,q3,k,o,-⟩:=Bl.push2 (ty2:=aa) (bytes:=32) (id:=H.next+5) (id2:=H.next+4) (cs:=[.bool false,.nilSl]) (a:=0) q zU k2 ⟨.nilSl,by simp,eM _⟩ zO zO h zO zO f4 zO zO zO;have e3:dq (H2.put (H.next+4) (.cells [.bool false,.nilSl] aa true)) (H.next+5) 2 32 aa v (.own (H.next+4) 0 1 1 2 true)=some (.own (H.next+5) 0 N N 2 false,g):=e3;refine zW (cn hl d bb i e3) ?_;exact ⟨q3.sl,k⟩
def Ff (C:Code tab) (o:Wf H) {fi:Nat} {first caps:List AV} {w:AV} {b:Bool} {l l':List Int} (hs:RowV H w l) (i:∀ H',Kp H H'->RowV H' w l->Ans tab (.fn fi (first++[w]++caps)) H' fun v H2=>RowV H2 v l'/\Kp H' H2) :
  Ans tab (.fn gf [.fn (.func fi) first caps,.agg [w,.bool b]]) H fun r H'=>(∃ w',r=.agg [w',.bool b]/\RowV H' w' l')/\Kp H H':=by
 have n:=hs.one;refine bE C.q24 zU fun T hl e h=>?_;refine zW (aZ hl e h (GN n)) ?_;obtain ⟨X,a⟩:∃ X,X=((H.up 2).put H.next (.cells [w,.bool b] t_api_Con true)).put (H.next+1) (.cells [.nilSl,.bool false] t_api_Con true):=⟨_,rfl⟩
 rw [<- a];have c:Kp H X:=by rw [a]; exact zK
 have d:X.get H.next=some (.cells [w,.bool b] t_api_Con true):=by rw [a,aw zO,am]
 have g:X.get (H.next+1)=some (.cells [.nilSl,.bool false] t_api_Con true):=by rw [a,am]
 clear a;have p:=c.wf;refine aJ ?_;refine zD (aC hl e d) ?_;refine AnsH.use (i _ (c.up _) ((hs.mono c.sub).mono (Sub.bump X _))) ?_;rintro v H2 ⟨f,j⟩;obtain ⟨k2,_,w2⟩:=zT X zK j;have ov:=f.one;have d0:=k2.get d;have d1:=k2.get g;have m:=w2 _ _ d1;have k:=c.trans k2;have bb:=EK (x:=.nilSl) (y:=.bool false) ov (aF b);refine zD (fy hl e d d0 d1 bb) ?_;exact ⟨⟨v,rfl,f.monoT (SubT.put_ty d1 zU)⟩,k.put zO m⟩
def Nf (C:Code tab) (o:Wf H) {fi:Nat} {first caps:List AV} {w:AV} {k:Nat} {l l':List Int} (hs:RowV H w l) (h:∀ H',Kp H H'->RowV H' w l->Ans tab (.fn fi (first++[w]++caps)) H' fun v H2=>RowV H2 v l'/\Kp H' H2) :
  Ans tab (.fn i9 [.fn (.func fi) first caps,.agg [.int .u8 (k:Int),w]]) H fun r H'=>(∃ w',r=.agg [.int .u8 (k:Int),w']/\RowV H' w' l')/\Kp H H':=by
 have n:=hs.one;refine bE C.q27 zU fun T hl d g=>?_;refine zW (aZ hl d g (GM n)) ?_;obtain ⟨X,a⟩:∃ X,X=((H.up 2).put H.next (.cells [.int .u8 (k:Int),w] al true)).put (H.next+1) (.cells [.int .u8 0,.nilSl] al true):=⟨_,rfl⟩
 rw [<- a];have b:Kp H X:=by rw [a]; exact zK
 have c:X.get H.next=some (.cells [.int .u8 (k:Int),w] al true):=by rw [a,aw zO,am]
 have f:X.get (H.next+1)=some (.cells [.int .u8 0,.nilSl] al true):=by rw [a,am]
 clear a;have p:=b.wf;refine aJ ?_;refine zD (aC hl d c) ?_;refine AnsH.use (h _ (b.up _) ((hs.mono b.sub).mono (Sub.bump X _))) ?_;rintro v H2 ⟨e,i⟩;obtain ⟨k2,_,w2⟩:=zT X zK i;have ov:=e.one;have d0:=k2.get c;have d1:=k2.get f;have m:=w2 _ _ d1;have j:=b.trans k2;have bb:=EK (x:=.int .u8 0) (y:=.nilSl) (bi .u8 (k:Int)) ov;refine zD (fy hl d c d0 d1 bb) ?_;exact ⟨⟨v,rfl,e.monoT (SubT.put_ty d1 zU)⟩,j.put zO m⟩
set_option maxHeartbeats 2000000 in
def Gk (C:Code tab) (X:Wf H) {fi:Nat} {first caps:List AV} {L:List (List Int × Bool)} (f:List Int × Bool->List Int × Bool) (hs:SlV conE t_api_Con H s L) (ah:L.length<=2000)
  (O:∀ c∈L,∀ H' cs,Kp H H'->conE.R H' cs c->Ans tab (.fn fi (first++[.agg cs]++caps)) H' fun r H2=>(∃ z,r=.agg z/\conE.R H2 z (f c))/\Kp H' H2) :
  Ans tab (.fn dC [s,.fn (.func fi) first caps]) H fun v H'=>SlV conE t_api_Con H' v (L.map f)/\Kp H H':=by
 refine bE C.q25 zU fun T hl h g=>?_;obtain ⟨cells,A⟩:∃ cells,cells=(List.replicate L.length [AV.nilSl,AV.bool false]).flatten:=⟨_,rfl⟩
 have U:∀ H':Heap,Hb H' (H.next+3) t_api_Con 2 32 [.nilSl,.bool false] (.int .i64 (L.length:Int)) (.int .i64 (L.length:Int))=some (.own (H.next+3) 0 L.length L.length 2 true,H'.put (H.next+3) (.cells cells t_api_Con true)):=fun H'=>by rw [A]; exact iy _ _ _ _ _ _ _ _ _ zO zO rfl
 refine zW (cn hl h g hs.lenV U) ?_;have Y:conE.R H [.nilSl,.bool false] ([],false):=⟨.nilSl,rfl,SlV.nil _ _ _⟩
 have K:Cells conE H cells (List.replicate L.length ([],false)):=by rw [A]; exact mH Y _
 have F:Kp H ((H.up 8).put (H.next+3) (.cells cells t_api_Con true)):=((Kp.refl X).up 8).put zO (show _<H.next+8 by omega);refine aq H [] (fun j _ H'=>∃ cs,H'.get (H.next+3)=some (.cells cs t_api_Con true)/\Cells conE H' cs ((L.take j).map f++List.replicate (L.length-j) ([],false))) (a:=0) (N:=L.length) rfl (by refine zW (aC hl h g) ?_; rfl) (zV (aC hl h g)) (WG _) zO (by simp only [jL,hl]; rfl) rfl (fun j _ H' m ⟨cs,h1,h2⟩=>⟨cs,h1,Cells.mono (E:=conE) ((Sub.bump H' m).t _) h2⟩) F ⟨cells,am _ _ _,by
  rw [Y6,WF,XS,ZS];exact Cells.mono (E:=conE) (F.sub.t _) K⟩ ?_ ?_
 ·rintro j T1 l _ hj o P q d ⟨cs,t,p⟩;have w1:=d.wf;have aa:=d.le;have aj:=d.le;have ak:=w1 _ _ t;have ae:ad T1 11=s:=(q.at_ 11 zU).trans (zV (aC hl h g));have t5:ad T1 5=.own (H.next+3) 0 L.length L.length 2 true:=(q.at_ 5 zU).trans (zV (aC hl h g));have t1:ad T1 1=.fn (.func fi) first caps:=(q.at_ 1 zU).trans (zV (aZ hl h g g))
  obtain ⟨ds,⟨w,rfl,hr⟩,-,-,u⟩:=(hs.mono d.sub).at (zh hj);have R:cG 2 s (.int .i64 (j:Int))=some (az s (j*2)):=hs.idx .i64 j hj;have u:bc l (some 2) (az s (j*2))=some (.agg [w,.bool (L[j]).2]):=u;have ow:=hr.one;have ob:=aF (L[j]).2;have ld:=Ldd.of w1 u;have Q:cG 2 (.own (H.next+3) 0 L.length L.length 2 true) (.int .i64 (j:Int))=some (.ptr (H.next+3) (j*2)):=by
   have:=iB (b:=H.next+3) (off:=0) (n:=L.length) (c:=L.length) (sz:=2) (x:=true) (k:=.i64) (j:=j) hj
   simpa using this
  simp only [jL,hl] at o;refine zW (lp o ae t5 t1 P R u ld.put) ?_;refine AnsH.use (O _ (EL hj) _ [w,.bool (L[j]).2] zK ⟨w,rfl,hr.mono (zG l)⟩) ?_;rintro _ H2 ⟨⟨af,rfl,V⟩,S⟩;obtain ⟨k2,_,w2⟩:=zT l zK S;have Z:=d.trans k2;have y:=k2.get t;have ab:=w2 _ _ y;obtain ⟨w',M,D⟩:=V;have ag:cs.length=L.length*2:=by
   have:=p.1
   rw [WM,Nj,WU,Yu] at this;have e:conE.sz=2:=rfl;rw [e] at this;rw [this]; congr 1; omega
  subst M;have W:y5 (some (.cells cs t_api_Con true)) 2 (j*2) (.agg [w',.bool (f L[j]).2])=some (.cells (cs.take (j*2)++[w',.bool (f L[j]).2]++cs.drop (j*2+2)) t_api_Con true):=fY (yg D.one (aF _)) zO;have B:Cells conE H2 (cs.take (j*2)++[w',.bool (f L[j]).2]++cs.drop (j*2+2)) (((L.take j).map f++List.replicate (L.length-j) ([],false)).set j (f L[j])):=(Cells.mono (E:=conE) (k2.sub.t _) p).set (i:=j) (by simp; omega) ⟨w',rfl,D⟩;have J:((L.take j).map f++List.replicate (L.length-j) ([],false)).set j (f L[j])=(L.take (j+1)).map f++List.replicate (L.length-(j+1)) ([],false):=by
   have G:L.length-j=(L.length-(j+1))+1:=zO;have I:j-(List.map f (List.take j L)).length=0:=by simp; omega
   rw [G,Xt,List.set_append,if_neg (by simp; omega),I,List.set_cons_zero,TY hj,Xd,Yf];rfl
  rw [J] at B;refine zW (aZ o Q y W) ?_;exact ⟨Z.put zO ab,_,rfl,Cells.mono (E:=conE) (SubT.put_ty y zU) B⟩
 ·rintro T1 l o q d ⟨cs,t,p⟩;have w1:=d.wf;have aa:=d.le;have t5:ad T1 5=.own (H.next+3) 0 L.length L.length 2 true:=(q.at_ 5 zU).trans (zV (aC hl h g));simp only [jL,hl] at o;refine zW (aB o t5) ?_;refine ⟨?_,d.up _⟩;rw [WZ,ZF,List.replicate_zero,Xx] at p;have h1:Own conE t_api_Con (Heap.nil 0) l (H.next+3) true (.own (H.next+3) 0 L.length L.length 2 true) (L.map f):=⟨cs,by rw [Nj]; rfl,t,p,WG _⟩
  exact h1.sl.mono (Sub.bump l _)
set_option maxHeartbeats 2000000 in
def OE (C:Code tab) (X:Wf H) {fi:Nat} {first caps:List AV} {L:List (Nat × List Int)} (f:Nat × List Int->Nat × List Int) (hs:SlV genE al H s L) (ah:L.length<=2000)
  (O:∀ c∈L,∀ H' cs,Kp H H'->genE.R H' cs c->Ans tab (.fn fi (first++[.agg cs]++caps)) H' fun r H2=>(∃ z,r=.agg z/\genE.R H2 z (f c))/\Kp H' H2) :
  Ans tab (.fn fo [s,.fn (.func fi) first caps]) H fun v H'=>SlV genE al H' v (L.map f)/\Kp H H':=by
 refine bE C.q28 zU fun T hl h g=>?_;obtain ⟨cells,A⟩:∃ cells,cells=(List.replicate L.length [AV.int .u8 0,AV.nilSl]).flatten:=⟨_,rfl⟩
 have U:∀ H':Heap,Hb H' (H.next+3) al 2 32 [.int .u8 0,.nilSl] (.int .i64 (L.length:Int)) (.int .i64 (L.length:Int))=some (.own (H.next+3) 0 L.length L.length 2 true,H'.put (H.next+3) (.cells cells al true)):=fun H'=>by rw [A]; exact iy _ _ _ _ _ _ _ _ _ zO zO rfl
 refine zW (cn hl h g hs.lenV U) ?_;have Y:genE.R H [.int .u8 0,.nilSl] (0,[]):=⟨.nilSl,rfl,SlV.nil _ _ _⟩
 have K:Cells genE H cells (List.replicate L.length (0,[])):=by rw [A]; exact mH Y _
 have F:Kp H ((H.up 8).put (H.next+3) (.cells cells al true)):=((Kp.refl X).up 8).put zO (show _<H.next+8 by omega);refine aq H [] (fun j _ H'=>∃ cs,H'.get (H.next+3)=some (.cells cs al true)/\Cells genE H' cs ((L.take j).map f++List.replicate (L.length-j) (0,[]))) (a:=0) (N:=L.length) rfl (by refine zW (aC hl h g) ?_; rfl) (zV (aC hl h g)) (WG _) zO (by simp only [jL,hl]; rfl) rfl (fun j _ H' m ⟨cs,h1,h2⟩=>⟨cs,h1,Cells.mono (E:=genE) ((Sub.bump H' m).t _) h2⟩) F ⟨cells,am _ _ _,by
  rw [Y6,WF,XS,ZS];exact Cells.mono (E:=genE) (F.sub.t _) K⟩ ?_ ?_
 ·rintro j T1 l _ hj o P q d ⟨cs,t,p⟩;have w1:=d.wf;have aa:=d.le;have aj:=d.le;have ak:=w1 _ _ t;have ae:ad T1 11=s:=(q.at_ 11 zU).trans (zV (aC hl h g));have t5:ad T1 5=.own (H.next+3) 0 L.length L.length 2 true:=(q.at_ 5 zU).trans (zV (aC hl h g));have t1:ad T1 1=.fn (.func fi) first caps:=(q.at_ 1 zU).trans (zV (aZ hl h g g))
  obtain ⟨ds,⟨w,rfl,hr⟩,-,-,u⟩:=(hs.mono d.sub).at (zh hj);have R:cG 2 s (.int .i64 (j:Int))=some (az s (j*2)):=hs.idx .i64 j hj;have u:bc l (some 2) (az s (j*2))=some (.agg [.int .u8 ((L[j]).1:Int),w]):=u;have ow:=hr.one;have ob:=bi .u8 ((L[j]).1:Int);have ld:=Ldd.of w1 u;have Q:cG 2 (.own (H.next+3) 0 L.length L.length 2 true) (.int .i64 (j:Int))=some (.ptr (H.next+3) (j*2)):=by
   have:=iB (b:=H.next+3) (off:=0) (n:=L.length) (c:=L.length) (sz:=2) (x:=true) (k:=.i64) (j:=j) hj
   simpa using this
  simp only [jL,hl] at o;refine zW (lp o ae t5 t1 P R u ld.put) ?_;refine AnsH.use (O _ (EL hj) _ [.int .u8 ((L[j]).1:Int),w] zK ⟨w,rfl,hr.mono (zG l)⟩) ?_;rintro _ H2 ⟨⟨af,rfl,V⟩,S⟩;obtain ⟨k2,_,w2⟩:=zT l zK S;have Z:=d.trans k2;have y:=k2.get t;have ab:=w2 _ _ y;obtain ⟨w',M,D⟩:=V;have ag:cs.length=L.length*2:=by
   have:=p.1
   rw [WM,Nj,WU,Yu] at this;have e:genE.sz=2:=rfl;rw [e] at this;rw [this]; congr 1; omega
  subst M;have W:y5 (some (.cells cs al true)) 2 (j*2) (.agg [.int .u8 ((f L[j]).1:Int),w'])=some (.cells (cs.take (j*2)++[.int .u8 ((f L[j]).1:Int),w']++cs.drop (j*2+2)) al true):=fY (yg (bi _ _) D.one) zO;have B:Cells genE H2 (cs.take (j*2)++[.int .u8 ((f L[j]).1:Int),w']++cs.drop (j*2+2)) (((L.take j).map f++List.replicate (L.length-j) (0,[])).set j (f L[j])):=(Cells.mono (E:=genE) (k2.sub.t _) p).set (i:=j) (by simp; omega) ⟨w',rfl,D⟩;have J:((L.take j).map f++List.replicate (L.length-j) (0,[])).set j (f L[j])=(L.take (j+1)).map f++List.replicate (L.length-(j+1)) (0,[]):=by
   have G:L.length-j=(L.length-(j+1))+1:=zO;have I:j-(List.map f (List.take j L)).length=0:=by simp; omega
   rw [G,Xt,List.set_append,if_neg (by simp; omega),I,List.set_cons_zero,TY hj,Xd,Yf];rfl
  rw [J] at B;refine zW (aZ o Q y W) ?_;exact ⟨Z.put zO ab,_,rfl,Cells.mono (E:=genE) (SubT.put_ty y zU) B⟩
 ·rintro T1 l o q d ⟨cs,t,p⟩;have w1:=d.wf;have aa:=d.le;have t5:ad T1 5=.own (H.next+3) 0 L.length L.length 2 true:=(q.at_ 5 zU).trans (zV (aC hl h g));simp only [jL,hl] at o;refine zW (aB o t5) ?_;refine ⟨?_,d.up _⟩;rw [WZ,ZF,List.replicate_zero,Xx] at p;have h1:Own genE al (Heap.nil 0) l (H.next+3) true (.own (H.next+3) 0 L.length L.length 2 true) (L.map f):=⟨cs,by rw [Nj]; rfl,t,p,WG _⟩
  exact h1.sl.mono (Sub.bump l _)
def OP {H':Heap} {b n i:Nat} {cells:List AV} (hb:H'.get b=some (.cells cells aa true)) (hn:cells.length=n*2) (hi:i<n) (j:n<1099511627776) (d:cells.all AV.one=true) :
  ∃ y H2 a,bU 2 (.own b 0 n n 2 false) (some (.int .i64 ((i+1:Nat):Int))) none none=some y/\(∀ id,dq H' id 2 32 aa (.own b 0 i n 2 false) y=some (.own b 0 (n-1) n 2 false,H2))/\H2.get b=some (.cells a aa true)/\a.take ((n-1)*2)=cells.take (i*2)++cells.drop ((i+1)*2)/\a.length=n*2/\(∀ c,c≠b->H2.get c=H'.get c)/\H2.next=H'.next:=by
 by_cases h:i+1<n
 ·refine ⟨.own b (0+(i+1)*2) (n-(i+1)) (n-(i+1)) 2 false,H'.put b (.cells (cells.take (0+i*2)++cells.drop ((i+1)*2)++cells.drop (0+i*2+(n-(i+1))*2)) aa true),_,?_,fun id=>?_,am _ _ _,?_,?_,fun c hc=>aw hc,rfl⟩
  ·show bA 2 (.own b 0 n n 2 false) (some (.int .i64 ((i+1:Nat):Int))) none none=_;simp only [bA,oS,ne_eq,not_true_eq_false,if_false,C6,Xr,X2,XY,XX,XG];rw [if_pos ⟨Jv _,zO⟩,if_pos (.inl h)]
  ·have f:aK H' 2 (n-(i+1)) (.own b (0+(i+1)*2) (n-(i+1)) (n-(i+1)) 2 false)=some (cells.drop ((i+1)*2)):=by
    simp only [aK,hb];rw [if_pos ⟨trivial,Jv _,zO⟩];rw [WS (by simp; omega)]
    simp
   have g:(cells.drop ((i+1)*2)).all AV.one=true:=by
    rw [WT] at d ⊢;exact fun x hx=>d x (YZ hx)
   unfold dq;simp only [gJ];rw [f];simp only [cM,hb];rw [if_pos ⟨trivial,zO,zO,trivial,zO⟩,if_pos zO,if_neg zO,if_pos ⟨trivial,g⟩];congr 3;omega
  ·rw [XU (by simp; omega),WS (by simp; omega)]
   simp
  ·simp; omega
 ·have k:n=i+1:=zO;refine ⟨.sl [] 0,H',cells,?_,fun id=>?_,hb,?_,hn,fun _ _=>rfl,rfl⟩
  ·show bA 2 (.own b 0 n n 2 false) (some (.int .i64 ((i+1:Nat):Int))) none none=_;simp only [bA,oS,ne_eq,not_true_eq_false,if_false,C6,Xr,X2,XY,XX,XG];rw [if_pos ⟨Jv _,zO⟩,if_neg zO]
   simp
  ·unfold dq;simp only [gJ,aK];simp only [cM,hb]
   simp
   refine ⟨zO,?_⟩;have e:n-1=i:=zO;rw [if_pos zO,e]
  ·rw [@YQ _ cells _ zO,Xx];congr 1;omega
def IY (C:Code tab) {H0:Heap} {v:AV} {l:List Int} {i b:Nat} (u:Kp H0 H) (hs:Own intE aa H0 H b false v l) (hi:i<l.length) (o:l.length<1099511627776) :
  Ans tab (.fn cR [v,.int .i64 (i:Int),.int .i64 ((i+1:Nat):Int)]) H fun Q H'=>RowV H' Q (l.eraseIdx i)/\Kp H0 H':=by
 obtain ⟨cells,g,hb,hcl,F⟩:=hs;have g:v=.own b 0 l.length l.length 2 false:=g;subst g;have hn:cells.length=l.length*2:=hcl.1;have hlt:=u.wf _ _ hb;have L:=hcl.ones;obtain ⟨n,w⟩:∃ n,l.length=n:=⟨_,rfl⟩
 rw [w] at hn hi o ⊢;refine mz C.q50 zU fun T hl j k m=>?_;have B:bU 2 (.own b 0 n n 2 false) (some (.int .i64 (i:Int))) (some (.int .i64 ((i+1:Nat):Int))) (some (.int .i64 (n:Int)))=some (.own b (0+i*2) (i+1-i) (n-i) 2 true):=by
  simp only [bU,bA,oS,ne_eq,not_true_eq_false,if_false,C6,Xr,X2,XY,XX,XG];rw [if_pos ⟨Jv _,zO,zO⟩,if_neg zO]
 have J:¬ (i:Int)=((i+1:Nat):Int):=zO;have K:¬ i=i+1:=zO;have R:=DQ b 0 n n 2 i false .i64 (Yx hi);obtain ⟨y,H2,d,hy,E,q2,P,Y,z,x⟩:=OP (H':=H.up 21) (b:=b) (i:=i) hb hn hi o L;have M:bU 2 (.own b 0 (n-1) n 2 false) (some (.int .i64 ((n-1:Nat):Int))) (some (.int .i64 (n:Int))) none=some (.own b ((n-1)*2) 1 1 2 false):=by
  simp only [bU,bA,oS,ne_eq,not_true_eq_false,if_false,C6,Xr,X2,XY,XX,XG];rw [if_pos ⟨Jv _,zO⟩,if_pos (.inl zO)];congr 2 <;> omega
 have G:∀ X:Heap,X.get b=some (.cells d aa true)->oP X 2 [.bool false,.nilSl] (.own b ((n-1)*2) 1 1 2 false)=some (X.put b (.cells (d.take ((n-1)*2)++(List.replicate 1 [AV.bool false,AV.nilSl]).flatten++d.drop ((n-1)*2+1*2)) aa true)):=fun X D=>by
  simp only [oP,D];rw [if_neg zO,if_pos ⟨trivial,zO,rfl,rfl⟩]
 have I:=G (H2.up 6) q2;refine zW (ip hl j k m B J K) ?_;refine aJ ?_;simp -dsimp (maxSteps:=1000000) (disch:=(first | omega | assumption | exact aF _ | exact bi _ _ | exact bB | exact cK _ _ _ | exact bS _ _ | exact bJ _ _ _ _ _ _ | exact cQ _ _ | exact bX _)) only [↓wD,wC,↓Tc,Tb,Nat.reduceLT,Nat.reduceEqDiff,Nat.reduceAdd,reduceIte,reduceCtorEq,Nat.reduceBEq,Int.reduceEq,Int.reduceLT,Int.reduceLE,Int.reduceAdd,Int.reduceSub,hl,j,k,m,R,hy,E,Ef,M,↓E4,I];obtain ⟨a,f⟩:∃ c,c=d.take ((n-1)*2)++(List.replicate 1 [AV.bool false,AV.nilSl]).flatten++d.drop ((n-1)*2+2):=⟨_,rfl⟩
 rw [<- f];have k2:Kp H0 H2:=(u.up 21).at_ z x F (by show b<H.next+21; omega);have V:=k2.le;have W:b<H2.next:=by rw [x]; show _<H.next+21; omega
 have A:SubT intE.tys H ((H2.up 8).put b (.cells a aa true)):=fun c cs t r N hc=>by
  have q:c≠b:=fun e=>by
   subst e;rw [hb] at hc; cases hc
   revert N; decide
  rw [aw q];exact (z c q).trans hc
 have O:a.take ((n-1)*2)=cells.take (i*2)++cells.drop ((i+1)*2):=by
  rw [f,Yf,XU (by simp; omega),WS (by simp; omega),P]
 have S:a.length=n*2:=by rw [f]; simp; omega
 refine ⟨?_,zK⟩;have h1:=(hcl.mono A).take (n:=i) zO;have h2:=(hcl.mono A).drop (i+1);have h3:=h1.append h2;have es:intE.sz=2:=rfl;rw [es,<- Yj,<- O] at h3;have U:(l.eraseIdx i).length=n-1:=by rw [List.length_eraseIdx]; rw [if_pos zO,w]
 have p:((H2.up 8).put b (.cells a aa true)).get b=some (.cells a aa true):=am _ _ _;refine ⟨a.take ((n-1)*2),⟨(show n-1<=n by omega),fun s h=>(by cases h),n-1,rfl,?_⟩,fun _ _ _ _ _ _ e=>(by cases e; exact ⟨_,_,p⟩),h3⟩;simp only [aK,p];rw [es,if_pos ⟨rfl,Jv _,zO⟩,List.drop_zero]
def EC (C:Code tab) (o:Wf H) {l:List Int} {x bo n:Nat} (hs:RowV H s l) (m:l.length=(n+1)+1) (hx:x<n+1) (k:n<=60) (hA:H.get bo=some (.cells [.int .i64 (x:Int)] aL true)) :
  Ans tab (.fn jJ [s,.ptr bo 0]) H fun v H'=>RowV H' v (Lin.delR x l)/\Kp H H':=by
 refine bE C.q26 zU fun T hl a c=>?_;refine zW (aC hl a c) ?_;refine aJ ?_;refine zD (aZ hl a c hA) ?_;refine AnsH.use (Dc C zF (hs.mono (zG H)) zO zO) ?_;rintro v H2 ⟨g,b,hq⟩;obtain ⟨k2,_,w2⟩:=zT H zK g;have e:IntKind.i64.wrap ((x:Int)+1)=((x+1:Nat):Int):=by rw [wrap_i64] <;> omega
 have f:IntKind.i64.wrap ((x:Int)+2)=((x+1+1:Nat):Int):=by rw [wrap_i64] <;> omega
 have d:=k2.get hA;refine zD (ip hl a c hA d e f) ?_;refine AnsH.use (IY C g hq zO zO) ?_;rintro v3 j ⟨hr,h⟩;obtain ⟨i,_,_⟩:=zT H zK h;refine zD (ip hl a c hA d e f) ?_;exact ⟨hr,i⟩
def NN {m:Nat} {a:List Int} (h:Lin.Bd (2^m) a):Lin.Bd (2^m) (a++[0]):=xJ fun y hy=>by
 rcases WQ.1 hy with hy | hy
 ·exact Lin.Bd.mem h y hy
 ·rw [WL] at hy;subst hy;exact WG _
def OO {m x:Nat} {a:List Int} (h:Lin.Bd (2^m) a):Lin.Bd (2^m) (Lin.delR x a):=xJ fun y hy=>Lin.Bd.mem h y (W9 hy)
def Mq (C:Code tab) (g:Wf H) {L:List (List Int × Bool)} (hs:SlV conE t_api_Con H s L) (f:L.length<=2000) (b:∀ c∈L,0<c.1.length/\c.1.length<=1000) :
  Ans tab (.fn dC [s,.fn (.func gf) [.fn (.func jI) [] []] []]) H fun v H'=>SlV conE t_api_Con H' v (L.map Lin.padC)/\Kp H H' :=
 Gk C g Lin.padC hs f fun c hc H' cs d hr=>by
  obtain ⟨w,rfl,h⟩:=hr;refine AnsH.use (Ff C d.wf (l':=c.1++[0]) h fun H2 a h2=>?_) ?_
  ·exact EA C a.wf h2 (b c hc).1 (b c hc).2
  ·rintro r H2 ⟨⟨w',e,h'⟩,a⟩;exact ⟨⟨_,e,w',rfl,h'⟩,a⟩
def Ms (C:Code tab) (g:Wf H) {L:List (Nat × List Int)} {x bo n:Nat} (hs:SlV genE al H s L) (d:L.length<=2000) (f:∀ c∈L,c.2.length=(n+1)+1) (hx:x<n+1) (hn:n<=60) (hA:H.get bo=some (.cells [.int .i64 (x:Int)] aL true)) :
  Ans tab (.fn fo [s,.fn (.func i9) [.fn (.func jJ) [] [.ptr bo 0]] []]) H fun v H'=>SlV genE al H' v (L.map (Lin.delG x))/\Kp H H' :=
 OE C g (Lin.delG x) hs d fun c hc H' cs b hr=>by
  obtain ⟨w,rfl,h⟩:=hr;refine AnsH.use (Nf C b.wf (k:=c.1) (l':=Lin.delR x c.2) h fun H2 a h2=>?_) ?_
  ·exact EC C a.wf h2 (f c hc) hx hn ((b.trans a).get hA)
  ·rintro r H2 ⟨⟨w',e,h'⟩,a⟩;exact ⟨⟨_,e,w',rfl,h'⟩,a⟩
set_option maxHeartbeats 4000000 in
def LU (C:Code tab) (W:Wf H) {v:AV} {n e f m2:Nat} {K:List (List Int × Bool)} {G:List (Nat × List Int)} (hp:PolyV H v n K G) (d:PolyOK n e f K G) (hn:n<=3) (V:K.length<=60) (D:∀ x∈Lin.gensP (n+1) (K.map Lin.padC),Lin.Bd (2^m2) x.2) (J:m2<=300000) :
  Ans tab (.fn nM [v]) H fun r H'=>sj H' r (n+1) (Lin.gensP (n+1) (K.map Lin.padC))/\Kp H H':=by
 obtain ⟨A,B,rfl,hc,hg⟩:=hp;have O:=hc.one;have P:=hg.one;refine cz C.q5 zU fun T hl a=>?_;refine zW (aC hl a (py O P)) ?_;refine AnsH.eq (uj C (n:=n) (K:=K) (G:=G) zF ⟨A,B,rfl,hc.mono (zG H),hg.mono (zG H)⟩ d) fun H2 o=>?_;obtain ⟨k2,_,w2⟩:=zT H zK o;have d0:H2.get H.next=some (.cells [.int .i64 (n:Int),A,B] aj true):=o.get (cY)
 have d1:H2.get (H.next+1)=some (.cells [.int .i64 0,.nilSl,.nilSl] aj true):=o.get (cY);have aa:=w2 _ _ d1;have N:¬ (n:Int)=8:=zO;have j:IntKind.i64.wrap ((n:Int)+1)=((n+1:Nat):Int):=by rw [wrap_i64] <;> omega
 refine zW (cn hl a d0 N @aD) ?_;refine aJ ?_;refine zD (cn hl a d0 d1 j) ?_;refine AnsH.use (Mq C (w2.bump 18) ((hc.mono k2.sub).mono (Sub.bump H2 18)) zO fun c hc=>⟨by have:=(d.rowK c hc).1; omega,by have:=(d.rowK c hc).1; omega⟩) ?_;rintro v3 k ⟨L,F⟩;have k23:Kp H2 k:=Kp.trans ((Kp.refl w2).up 18) F;have X:=k23.le;have s:Kp H k:=k2.trans k23;have Y:=s.le;have S:=s.wf;have h:=k23.get d0;have i:=k23.get d1;refine zD (ip hl a d0 d1 h i j) ?_;have M:∀ c∈K.map Lin.padC,c.1.length=(n+1)+1/\Lin.Bd (2^f) c.1:=fun c hc=>by
  obtain ⟨b,hb,rfl⟩:=DT.1 hc;exact ⟨by show (b.1++[0]).length=_; rw [WM,(d.rowK b hb).1]; rfl,NN (d.rowK b hb).2⟩
 refine AnsH.use (kT C (n:=n+1) (m:=f) (m2:=m2) S L zO (by rw [Nj]; omega) M d.f3 D J) ?_;rintro _ l ⟨q,I⟩;obtain ⟨t,_,_⟩:=zT k zK I;have z:Kp H l:=s.trans t;have Z:=z.le;have U:=z.wf;have u:=t.get h;have g:=t.get i;have ab:=U _ _ g;rcases q with ⟨rfl,q⟩ | ⟨p,rfl,⟨Q,R,rfl,w,y⟩,h1,h2⟩
 ·refine zD (pD hl a d0 d1 h i u g j @oQ) ?_;exact ⟨.inl ⟨rfl,q⟩,zK⟩
 ·have ad:=w.one;have ae:=y.one;refine zD (pD hl a d0 d1 h i u g j @oQ) ?_;refine ⟨.inr ⟨_,rfl,⟨Q,R,rfl,?_,?_⟩,h1,h2⟩,zK⟩
  ·have m3:NoTy (t_api_Con :: conE.tys) l (H.next+1):=NoTy.ty g zU;exact SlV.monoT (E:=conE) zS w
  ·have m3:NoTy (al :: genE.tys) l (H.next+1):=NoTy.ty g zU;exact SlV.monoT (E:=genE) zS y
def Rx (H:Heap) (r:AV) (n:Nat) (x:Int) (G:List (Nat × List Int)):Prop :=
 (0<=x/\x<(n:Int)/\Db H r (n-1) (G.map (Lin.delG x.toNat)))\/(¬ (0<=x/\x<(n:Int))/\r=.tup [wT,.int .i64 2])
set_option maxHeartbeats 4000000 in
def CK (C:Code tab) (hw:Wf H) {v:AV} {n e f m2 m3:Nat} {x:Int} {K:List (List Int × Bool)} {G:List (Nat × List Int)} (hp:PolyV H v n K G) (j:PolyOK n e f K G) (W:G.length<=60)
  (P:∀ y:Nat,x=(y:Int)->y<n->∀ c∈Lin.consP (n-1) (G.map (Lin.delG y)),Lin.Bd (2^m2) c.1) (Y:m2<=300000) (Q:∀ y:Nat,x=(y:Int)->y<n->∀ c∈Lin.gensP (n-1) (Lin.consP (n-1) (G.map (Lin.delG y))),Lin.Bd (2^m3) c.2) (Z:m3<=300000) (X:∀ y:Nat,x=(y:Int)->y<n->(Lin.consP (n-1) (G.map (Lin.delG y))).length<=1022) :
  Ans tab (.fn lz [v,.int .i64 x]) H fun r H'=>Rx H' r n x G/\Kp H H':=by
 obtain ⟨N,O,rfl,hc,hg⟩:=hp;have oc:=hc.one;have og:=hg.one;refine bE C.q7 zU fun T hl d i=>?_;refine zW (aZ hl d i (py oc og)) ?_;refine AnsH.eq (uj C (n:=n) (K:=K) (G:=G) zF ⟨N,O,rfl,hc.mono (zG H),hg.mono (zG H)⟩ j) fun H2 u=>?_;obtain ⟨k2,_,w2⟩:=zT H zK u;have d0:H2.get H.next=some (.cells [.int .i64 (n:Int),N,O] aj true):=u.get (cY)
 have a:H2.get (H.next+1)=some (.cells [.int .i64 x] aL true):=u.get (cY);have d1:H2.get (H.next+2)=some (.cells [.int .i64 0,.nilSl,.nilSl] aj true):=u.get (cY);have am:=w2 _ _ d1;by_cases q1:x<0
 ·refine zW (lp hl d i d0 d1 a q1 @oQ) ?_;exact ⟨.inr ⟨zO,rfl⟩,zK⟩
 by_cases q2:(n:Int)<=x
 ·refine zW (lh hl d i d0 d1 a q1 q2 @oQ) ?_;exact ⟨.inr ⟨zO,rfl⟩,zK⟩
 have af:=j.dim;obtain ⟨y,hy⟩:∃ y:Nat,x=(y:Int):=⟨x.toNat,zO⟩
 subst hy;obtain ⟨n',aa⟩:∃ n',n=n'+1:=⟨n-1,zO⟩
 subst aa;have hy:y<n'+1:=zO;have s:IntKind.i64.wrap (((n'+1:Nat):Int)-1)=(n':Int):=by rw [wrap_i64] <;> omega
 refine zW (lp hl d i d0 a q1 q2 @aD) ?_;refine aJ ?_;refine zD (ip hl d i d0 d1 a s) ?_;refine AnsH.use (Ms C (n:=n') (x:=y) (bo:=H.next+1) (w2.bump 24) ((hg.mono k2.sub).mono (Sub.bump H2 24)) zO (fun c hc=>(j.rowG c hc).1) hy zO a) ?_;rintro v3 z ⟨ab,S⟩;have k23:Kp H2 z:=Kp.trans ((Kp.refl w2).up 24) S;have ag:=k23.le;have I:Kp H z:=k2.trans k23;have ah:=I.le;have w3:=I.wf;have l:=k23.get d0;have o:=k23.get d1;have q:=k23.get a;refine zD (pD hl d i d0 d1 a l o q s) ?_;have hv:=Lin.del_valid (n:=n') (x:=y) (G:=G) j.own.valid hy;have V:∀ g∈G.map (Lin.delG y),g.1=1\/g.1=2\/g.1=3:=fun g hg=>by
  obtain ⟨b,hb,rfl⟩:=DT.1 hg;exact j.kinds b hb
 have R:∀ g∈G.map (Lin.delG y),Lin.Bd (2^e) g.2:=fun g hg=>by
  obtain ⟨b,hb,rfl⟩:=DT.1 hg;exact OO (j.bG b hb)
 refine AnsH.use (vO C (n:=n') (m:=e) (m2:=m2) (m3:=m3) w3 ab zO (by rw [Nj]; exact W) hv V R j.e3 (P y rfl hy) Y (Q y rfl hy) Z (.inl (X y rfl hy))) ?_;rintro _ A ⟨t,U⟩;obtain ⟨w,_,_⟩:=zT z zK U;have M:Kp H A:=I.trans w;have ak:=M.le;have w4:=M.wf;have B:=w.get l;have k:=w.get o;have D:=w.get q;have ao:=w4 _ _ k;have F:∀ H' r,Db H' r n' (G.map (Lin.delG y))->Rx H' r (n'+1) (y:Int) G:=fun H' r h=>.inl ⟨zO,zO,by rw [Yo]; exact h⟩;rcases t with ⟨rfl,t⟩ | ⟨rfl,t⟩ | ⟨p,rfl,⟨ad,ae,rfl,J,L⟩,h1,h2⟩
 ·refine zD (Dd hl d i d0 d1 a l o q B k D s @oQ) ?_;exact ⟨F _ _ (.inl ⟨rfl,t⟩),zK⟩
 ·refine zD (Dd hl d i d0 d1 a l o q B k D s @oQ) ?_;exact ⟨F _ _ (.inr (.inl ⟨rfl,t⟩)),zK⟩
 ·have aq:=J.one;have ar:=L.one;refine zD (Dd hl d i d0 d1 a l o q B k D s @oQ) ?_;refine ⟨F _ _ (.inr (.inr ⟨_,rfl,⟨ad,ae,rfl,?_,?_⟩,h1,h2⟩)),zK⟩
  ·have m3:NoTy (t_api_Con :: conE.tys) A (H.next+2):=NoTy.ty k zU;exact SlV.monoT (E:=conE) zS J
  ·have m3:NoTy (al :: genE.tys) A (H.next+2):=NoTy.ty k zU;exact SlV.monoT (E:=genE) zS L
end
section
variable {tab:Nat->Option au} {H:Heap}
end
section
variable {tab:Nat->Option au} {H:Heap} {s:AV}
end
section
variable {tab:Nat->Option au} {H:Heap}
end
section
variable {tab:Nat->Option au} {H:Heap} {s:AV}
def ok1 {K:List (List Int × Bool)} {G:List (Nat × List Int)} (h1:Lin.gensP 1 K=G) (h2:Lin.consP 1 G=K) (h:(K.all (fun x=>decide (x.1.length=2) && x.1.all (fun a=>decide (a.natAbs<=16))) && G.all (fun x=>x.2.all (fun a=>decide (a.natAbs<=16))) && decide (K.length<=60) && decide (G.length<60))=true):PolyOK 1 4 4 K G:=by
 simp only [W6,WT,decide_eq_true_eq] at h;obtain ⟨⟨⟨h3,h4⟩,h5⟩,b⟩:=h;exact ⟨⟨fun c hc=>(h3 c hc).1,h1,h2⟩,zO,.inl h5,zO,fun c hc=>Lin.bd_small4 (WT.2 fun a ha=>decide_eq_true ((h3 c hc).2 a ha)),fun x hx=>Lin.bd_small4 (WT.2 fun a ha=>decide_eq_true (h4 x hx a ha)),zO,zO⟩
def ok13:PolyOK 1 4 4 [([-1,1],false),([3,-1],false)] [(3,[1,1]),(3,[1,3])]:=ok1 Lin.g13 Lin.k13 zU
def Ue (a:AV):Prop:=∃ x u w,a=.agg [.int .i64 x,u,w]/\One u/\One w
def DO:Ue wT:=⟨0,.nilSl,.nilSl,rfl,bB,bB⟩
def TellP (H:Heap) (d:Int) (p:AV) (K:List (List Int × Bool)) (G:List (Nat × List Int)):Prop :=
 ∃ n:Nat,d=(n:Int)/\n<=3/\PolyV H p n K G/\Lin.Own n K G/\K.length<1024/\G.length<1024
def TellP.mono {H H':Heap} {d:Int} {p:AV} {K:List (List Int × Bool)} {G:List (Nat × List Int)} (h:TellP H d p K G) (hs:Sub H H'):TellP H' d p K G:=by
 obtain ⟨n,h1,h2,h3,h4⟩:=h;exact ⟨n,h1,h2,h3.mono hs,h4⟩
def TellP.pag {H:Heap} {d:Int} {p:AV} {K:List (List Int × Bool)} {G:List (Nat × List Int)} (h:TellP H d p K G):Ue p:=by
 obtain ⟨n,h1,h2,⟨a,b,rfl,hc,hg⟩,h4⟩:=h;exact ⟨_,_,_,rfl,hc.one,hg.one⟩
def Om (C:Code tab) (i:Wf H) {d:Int} {l:List wA} (hs:SlV conQE t_api_Con H s l) (gl:∀ r∈l,my r.1) (hg:U2 6 l=false) (h3:¬ 3<d) :
  Ans tab (.fn ph [.int .i64 d,s]) H fun v H'=>Kp H H'/\∃ p f,v=.tup [p,.int .i64 f]/\Ue p/\(f=0->∃ K G,TellP H' d p K G):=by
 rcases LZ (d:=d) (n:=6) hs gl hg zO zO with g | ⟨n,rfl,o,k,ll,b⟩
 ·refine (Gl C i hs (Iu hg) (by have:=(jO hg).1; omega) g).mono ?_;rintro v H2 ⟨rfl,a⟩;exact ⟨a,_,_,rfl,DO,fun e=>absurd e g⟩
 ·have j:=Vh zO b;refine (kT C (n:=n) (m:=64) (m2:=64*(64+4)) i k zO (by rw [Nj]; omega) b zO (fun x hx=>(j x hx).2) zO).mono ?_;rintro v H2 ⟨hm,a⟩;rcases hm with ⟨rfl,-⟩ | ⟨p,rfl,hp,h1,h2⟩
  ·exact ⟨a,_,_,rfl,DO,fun e=>by cases e⟩
  ·have h:TellP H2 (n:Int) p _ _:=⟨n,rfl,zO,hp,Lin.own_of fun c hc=>(b c hc).1,h2,h1⟩
   exact ⟨a,p,0,rfl,h.pag,fun _=>⟨_,_,h⟩⟩
section
open Lin
end
section
variable {n:Nat} {K K':List (List Int × Bool)} {G G':List (Nat × List Int)}
def vA {H:Heap} {v:AV} {e f:Nat} (hm:sj H v n G) (h:PolyOK n e f K G):∃ a b,v=.tup [.agg [.int .i64 (n:Int),a,b],.int .i64 0]/\SlV conE t_api_Con H a K/\SlV genE al H b G:=by
 have c:=h.own.cons;have h1:=h.many;have h2:=h.lenK;unfold sj at hm;rw [c] at hm;rcases hm with ⟨-,hm⟩ | ⟨p,rfl,⟨a,b,rfl,hc,hg⟩,-,-⟩
 ·omega
 ·exact ⟨a,b,rfl,hc,hg⟩
def Jf {H:Heap} {v:AV} {e f:Nat} {g:List (Nat × List Int)} (hm:Db H v n g) (h:PolyOK n e f (Lin.consP n g) (Lin.gensP n (Lin.consP n g))):∃ a b,v=.tup [.agg [.int .i64 (n:Int),a,b],.int .i64 0]/\SlV conE t_api_Con H a (Lin.consP n g)/\SlV genE al H b (Lin.gensP n (Lin.consP n g)):=by
 have h2:=h.lenK;rcases hm with ⟨-,hm⟩ | hm
 ·omega
 ·exact vA hm h
end
end
section
variable {tab:Nat->Option au} {H:Heap}
set_option maxHeartbeats 1000000 in
def FZ (C:Code tab) (m:Wf H) {v:AV} {n:Nat} {c:List (List Int × Bool)} {g:List (Nat × List Int)} (hp:PolyV H v n c g) :
  Ans tab (.fn fP [v]) H fun x H'=>x=.bool (oN c g || decide (4<n) || decide (6<c.length) || decide (6<g.length) || decide (3<n))/\Kp H H':=by
 obtain ⟨h,i,rfl,hc,hg⟩:=hp;have j:=hc.one;have k:=hg.one;refine cz C.q17 zU fun T hl a=>?_;refine zW (aC hl a (py j k)) ?_;refine AnsH.eq (FC C (n:=n) (c:=c) (g:=g) zF ⟨h,i,rfl,hc.mono (zG H),hg.mono (zG H)⟩) fun H2 f=>?_;obtain ⟨k2,_,w2⟩:=zT H zK f;have d0:H2.get H.next=some (.cells [.int .i64 (n:Int),h,i] aj true):=f.get (cY)
 generalize l:(oN c g || decide (4<n))=q1
 cases q1 with
 | true =>
  refine zW (aB hl a) ?_;exact ⟨by simp,zK⟩
 | false =>
 by_cases h2:6<c.length
 ·have b:(6:Int)<(c.length:Int):=zO;refine zW (cn hl a d0 hc.lenV b) ?_;exact ⟨by simp [h2],zK⟩
 have b:¬ (6:Int)<(c.length:Int):=zO;by_cases h3:6<g.length
 ·have d:(6:Int)<(g.length:Int):=zO;refine zW (ip hl a d0 hc.lenV b hg.lenV d) ?_;exact ⟨by simp [h3],zK⟩
 have d:¬ (6:Int)<(g.length:Int):=zO;by_cases h4:3<n
 ·have e:(3:Int)<(n:Int):=zO;refine zW (lp hl a d0 hc.lenV b hg.lenV d e) ?_;exact ⟨by simp [h4],zK⟩
 have e:¬ (3:Int)<(n:Int):=zO;refine zW (lp hl a d0 hc.lenV b hg.lenV d e) ?_;exact ⟨by simp [h2,h3,h4],zK⟩
def F0 (C:Code tab) (D:Wf H) {v i:AV} {n n':Nat} {c a:List (List Int × Bool)} {g g':List (Nat × List Int)} (hp:PolyV H v n c g) (p:PolyV H i n' a g') (j:c.length<1099511627776) (k:∀ r∈c,r.1.length<1099511627776/\∀ z∈r.1,fm z) (l:g.length<1099511627776) (m:∀ r∈g,r.2.length<1099511627776/\∀ z∈r.2,fm z) :
  Ans tab (.fn iP [v,.int .i64 0,i]) H fun x H'=>x=.bool (decide (n=n'/\c=a/\g=g'))/\Kp H H':=by
 obtain ⟨w,A,rfl,hc,hg⟩:=hp;obtain ⟨y,B,rfl,f,h⟩:=p;have q:=hc.one;have t:=hg.one;have s:=f.one;have u:=h.one;refine mz C.q14 zU fun T hl b d e=>?_;refine zW (fy hl b d e (py q t) (py s u)) ?_;refine AnsH.eq (pI C (n:=n) (n':=n') zF ⟨w,A,rfl,hc.mono (zG H),hg.mono (zG H)⟩ ⟨y,B,rfl,f.mono (zG H),h.mono (zG H)⟩ j k l m) fun H2 o=>?_;obtain ⟨k2,_,_⟩:=zT H zK o;refine zW (aZ hl b d e) ?_;exact zK
def QX (n:Nat):List (List Int × Bool):=[((Lin.unitC n (-1)).set 1 1,false),((Lin.unitC n 3).set 1 (-1),false)]
def C2 {n:Nat} (hn:n=1\/n=2):∀ c∈QX n,c.1.length=n+1/\Lin.Bd (2^4) c.1:=fun c hc=>by
 rcases hn with rfl | rfl <;> rcases WV.1 hc with rfl | hc
 ·exact ⟨rfl,Lin.bd_small4 zU⟩
 ·rw [WL] at hc; subst hc; exact ⟨rfl,Lin.bd_small4 zU⟩
 ·exact ⟨rfl,Lin.bd_small4 zU⟩
 ·rw [WL] at hc; subst hc; exact ⟨rfl,Lin.bd_small4 zU⟩
set_option maxHeartbeats 4000000 in
def tu (C:Code tab) (hw:Wf H) {n:Nat} (hn:n=1\/n=2) {g:List (Nat × List Int)} {K:List (List Int × Bool)} (hG:Lin.gensP n (QX n)=g) (hK:Lin.consP n g=K) (lg:g.length<1024) (lK:K.length<1024) :
  Ans tab (.fn eY [.int .i64 (n:Int)]) H fun v H'=>PolyV H' v n K g/\Kp H H':=by
 have es:intE.sz=2:=rfl;refine cz C.q13 zU fun T hl z=>?_;refine zW (aB hl z) ?_;refine AnsH.use (xX C (n:=n) (k:=-1) zF zO zU zU) ?_;rintro v3 H2 ⟨aW,aq⟩;obtain ⟨k2,_,w2⟩:=zT H zK aq;have d0:H2.get H.next=some (.cells [.int .i64 0,.nilSl,.nilSl] aj true):=aq.get (cY)
 have bm:=w2 _ _ d0;rcases aW with ⟨-,h⟩ | ⟨f,x3,e,rfl,ae,ak,aU⟩
 ·simp [Lin.unitC] at h
 have l3:(Lin.unitC n (-1)).length=n+1:=Lin.unitC_len ..;rw [l3,es];rw [next_put,bL] at aU;refine zW (aB hl z) ?_;refine AnsH.use (xX C (n:=n) (k:=3) zF zO zU zU) ?_;rintro v4 J ⟨aX,ar⟩;obtain ⟨k23,_,_⟩:=zT H2 zK ar;have k3:=k2.trans k23;have w3:=k3.wf;have aD:=k23.get d0;have aM:=k23.get ae;rcases aX with ⟨-,h⟩ | ⟨o,x4,c4,rfl,ag,ao,aV⟩
 ·simp [Lin.unitC] at h
 have N:(Lin.unitC n 3).length=n+1:=Lin.unitC_len ..;rw [N,es];have bh:=w2 _ _ ae;rw [bL] at aV;refine zW (aB hl z) ?_;have a5:=ar.le;rw [bL] at a5;have q1:pC (gK .i64) aL ((J.up 7).put (J.next+1) (.cells [.int .i64 1] aL true)) (.own (J.next+1) 0 1 1 1 true) [1]:=nP (m:=[1]) (am _ _ _);refine AnsH.use (wH C (l:=[1]) zF q1 (by simp) (by simp)) ?_;rintro v5 s ⟨Q,aT⟩;obtain ⟨u,_,_⟩:=zT J zK aT;have k4:=k3.trans u;have w4:=k4.wf;have aE:=u.get aD;have af:=u.get aM;have aQ:=u.get ag;have bj:=w3 _ _ ag;obtain ⟨r,ax,O,-⟩:=jM Q (i:=0) (by simp);have a1:cG 2 v5 (.int .i64 0)=some (az v5 0):=SlV.idx Q .i64 0 (by simp);have O:bc s (some 2) (az v5 0)=some (.agg [.bool false,r]):=O;have a6:=ax.one;have L5:=(Ldd.of w4 O).put;have bb:e.length=(n+1)*2:=by have:=ak.1; rw [l3,es] at this; exact this
 have bd:c4.length=(n+1)*2:=by have:=ao.1; rw [N,es] at this; exact this
 have aY:cG 2 (.own f 0 (n+1) (n+1) 2 x3) (.int .i64 1)=some (.ptr f 2):=by
  have:=iB (b:=f) (off:=0) (n:=n+1) (c:=n+1) (sz:=2) (x:=x3) (k:=.i64) (j:=1) zO
  simpa using this
 have a8:y5 (some (.cells e aa true)) 2 2 (.agg [.bool false,r])=some (.cells (e.take 2++[.bool false,r]++e.drop 4) aa true):=fY (yg (aF _) a6) zO;refine zW (lp hl z a1 O L5 aY af a8) ?_;obtain ⟨G4,t⟩:∃ G,G=(s.up 7).put f (.cells (e.take 2++[.bool false,r]++e.drop 4) aa true):=⟨_,rfl⟩
 rw [<- t];have n4:G4.next=s.next+7:=by rw [t]; rfl
 have a3:Kp H G4:=by rw [t]; exact (k4.up 7).put zO (by rw [bL]; omega)
 have bn:=a3.wf;have aG:G4.get H.next=some (.cells [.int .i64 0,.nilSl,.nilSl] aj true):=by rw [t,aw zO]; exact aE
 have aN:G4.get f=some (.cells (e.take 2++[.bool false,r]++e.drop 4) aa true):=by rw [t,am]
 have aR:G4.get o=some (.cells c4 aa true):=by rw [t,aw zO]; exact aQ
 have t4:SubT intE.tys s G4:=by rw [t]; exact SubT.trans ((Sub.bump s 7).t _) (SubT.put_ty af zU)
 have f4:G4.get (s.next+1)=none:=by rw [t,aw zO]; exact w4.fresh zO
 have X:Cells intE G4 (e.take 2++[.bool false,r]++e.drop 4) ((Lin.unitC n (-1)).set 1 1):=Cells.mono (E:=intE) t4 ((Cells.mono (E:=intE) ((k23.sub.trans u.sub).t _) ak).set (i:=1) (by rw [l3]; omega) ⟨r,rfl,ax⟩);have Y:Cells intE G4 c4 (Lin.unitC n 3):=Cells.mono (E:=intE) t4 (Cells.mono (E:=intE) (u.sub.t _) ao);have q2:pC (gK .i64) aL (G4.put (s.next+1) (.cells [.int .i64 (-1)] aL true)) (.own (s.next+1) 0 1 1 1 true) [-1]:=nP (m:=[-1]) (am _ _ _);have bf:=u.le;refine AnsH.use (wH C (l:=[-1]) zF q2 (by simp) (by simp)) ?_;rintro V d ⟨R,av⟩;have B:Sub G4 d:=(aH f4).trans av.sub;obtain ⟨k5,_,W⟩:=zT H zK av;have aI:=B.get _ _ aG;have aO:=B.get _ _ aN;have ah:=B.get _ _ aR;obtain ⟨w,ay,P,-⟩:=jM R (i:=0) (by simp);have a2:cG 2 V (.int .i64 0)=some (az V 0):=SlV.idx R .i64 0 (by simp);have P:bc d (some 2) (az V 0)=some (.agg [.bool true,w]):=P;have a7:=ay.one;have L6:=(Ldd.of W P).put;have a0:cG 2 (.own o 0 (n+1) (n+1) 2 x4) (.int .i64 1)=some (.ptr o 2):=by
  have:=iB (b:=o) (off:=0) (n:=n+1) (c:=n+1) (sz:=2) (x:=x4) (k:=.i64) (j:=1) zO
  simpa using this
 have a9:y5 (some (.cells c4 aa true)) 2 2 (.agg [.bool true,w])=some (.cells (c4.take 2++[.bool true,w]++c4.drop 4) aa true):=fY (yg (aF _) a7) zO;have bg:=B.1;refine zW (lh hl z a2 P L6 a0 ah a9 @ww) ?_;obtain ⟨a,q⟩:∃ G,G=(d.up 13).put o (.cells (c4.take 2++[.bool true,w]++c4.drop 4) aa true):=⟨_,rfl⟩
 rw [<- q];have n5:a.next=d.next+13:=by rw [q]; rfl
 have a4:Kp H a:=by rw [q]; exact (k5.up 13).put zO (by rw [bL]; omega)
 have bo:=a4.wf;have aJ:a.get H.next=some (.cells [.int .i64 0,.nilSl,.nilSl] aj true):=by rw [q,aw zO]; exact aI
 have aP:a.get f=some (.cells (e.take 2++[.bool false,r]++e.drop 4) aa true):=by rw [q,aw zO]; exact aO
 have aS:a.get o=some (.cells (c4.take 2++[.bool true,w]++c4.drop 4) aa true):=by rw [q,am]
 have t5:SubT intE.tys d a:=by rw [q]; exact SubT.trans ((Sub.bump d 13).t _) (SubT.put_ty ah zU)
 have Z:Cells intE a (e.take 2++[.bool false,r]++e.drop 4) ((Lin.unitC n (-1)).set 1 1):=Cells.mono (E:=intE) t5 (Cells.mono (E:=intE) (B.t _) X);have D4:Cells intE a (c4.take 2++[.bool true,w]++c4.drop 4) ((Lin.unitC n 3).set 1 (-1)):=Cells.mono (E:=intE) t5 ((Cells.mono (E:=intE) (B.t _) Y).set (i:=1) (by rw [N]; omega) ⟨w,rfl,ay⟩);have R3:RowV a (.own f 0 (n+1) (n+1) 2 x3) ((Lin.unitC n (-1)).set 1 1):=(show Own intE aa (Heap.nil 0) a f x3 (.own f 0 (n+1) (n+1) 2 x3) _ from ⟨_,by rw [jL,l3]; rfl,aP,Z,WG _⟩).sl;have R4:RowV a (.own o 0 (n+1) (n+1) 2 x4) ((Lin.unitC n 3).set 1 (-1)):=(show Own intE aa (Heap.nil 0) a o x4 (.own o 0 (n+1) (n+1) 2 x4) _ from ⟨_,by rw [jL,N]; rfl,aS,D4,WG _⟩).sl;clear L5 L6 X Y Z D4 t4 t5 q1 q2 Q R;have f5:a.get (d.next+5)=none:=by rw [q,aw zO]; exact W.fresh zO
 have f6:a.get (d.next+10)=none:=by rw [q,aw zO]; exact W.fresh zO
 obtain ⟨y,A⟩:∃ G,G=a.put (d.next+5) (.cells [.own f 0 (n+1) (n+1) 2 x3,.bool false,.own o 0 (n+1) (n+1) 2 x4,.bool false] t_api_Con true):=⟨_,rfl⟩
 rw [<- A];have S:Sub a y:=by rw [A]; exact aH f5
 have aA:Kp H y:=by rw [A]; exact zK
 have ba:=aA.wf;have n6:y.next=d.next+13:=by rw [A]; exact n5
 have f6:y.get (d.next+10)=none:=by rw [A,aw zO]; exact f6
 have aK:=S.get _ _ aJ;have R1:SlV conE t_api_Con y (.own (d.next+5) 0 2 2 2 true) (QX n):=TC (by rw [A]; exact am _ _ _) (R3.mono S) (R4.mono S);have sb:=C2 hn;have gb:=Vh (n:=n) zO sb;refine AnsH.use (kT C (n:=n) (m:=4) (m2:=64*(4+4)) ba R1 zO (by simp [QX]) sb zO (fun x hx=>(gb x hx).2) zO) ?_;rintro v7 D ⟨I,M⟩;have k7:Kp H D:=aA.trans M;have bk:=k7.le;have w7:=k7.wf;have ab:=M.get aK;have l7:=M.le;have f7:=M.free (show d.next+10<y.next by omega) f6;rw [hG] at I;unfold sj at I;rw [hK] at I;rcases I with ⟨-,I⟩ | ⟨p,rfl,⟨vc,vg,rfl,hc,hg⟩,-,-⟩
 ·omega
 have oc:=hc.one;have og:=hg.one;obtain ⟨F,L⟩:∃ aC,aC=((D.up 2).put (d.next+10) (.cells [.int .i64 0,.nilSl,.nilSl] aj true)).put (d.next+10) (.cells [.int .i64 (n:Int),vc,vg] aj true):=⟨_,rfl⟩
 have U:Sub D F:=by rw [L]; exact ((Sub.bump D 2).put f7 _).put f7 _
 have ad:=U.get _ _ ab;have k8:Kp H F:=by rw [L]; exact zK
 have bl:=k8.le;have n8:F.next=D.next+2:=by rw [L]; rfl
 refine zW (aZ hl z @oQ ab) ?_;rw [<- L];refine ⟨⟨vc,vg,rfl,?_,?_⟩,zK⟩
 ·have m3:NoTy (t_api_Con :: conE.tys) F H.next:=NoTy.ty ad zU
  exact SlV.monoT (E:=conE) zS (hc.mono U)
 ·have m3:NoTy (al :: genE.tys) F H.next:=NoTy.ty ad zU
  exact SlV.monoT (E:=genE) zS (hg.mono U)
end
end Go.Proofs.YtiigaeehghcjiaaGreat.Ev
namespace Go.Proofs.YtiigaeehghcjiaaGreat.Lin
end Go.Proofs.YtiigaeehghcjiaaGreat.Lin
namespace Go.Proofs.YtiigaeehghcjiaaGreat.Ev
open Go Nn
section
variable {tab:Nat->Option au} {H:Heap}
end
section
variable {tab:Nat->Option au} {H:Heap} {n x:Nat} {a:List Int} {K:List (List Int × Bool)} {G:List (Nat × List Int)}
end
end Go.Proofs.YtiigaeehghcjiaaGreat.Ev
namespace Go.Proofs.YtiigaeehghcjiaaGreat.Lin
def subN:Nat->Nat->Nat
 | _,0=>1
 | 0,_+1=>1
 | n+1,k+1=>subN n (k+1)+subN n k
def Fk:∀ n k,1<=subN n k
 | _,0=>by unfold subN; exact Jv _
 | 0,_+1=>by unfold subN; exact Jv _
 | n+1,k+1=>by
  have:=Fk n (k+1)
  unfold subN; omega
def subN_le {k:Nat}:∀ {n m:Nat},n<=m->subN n k<=subN m k
 | n,m,h=>by
  induction h with
  | refl=>exact Jv _
  | step _ a =>
   refine WK a ?_;cases k with
   | zero=>unfold subN; exact Jv _
   | succ k=>rw [subN]; exact W3 _ _
def subN_less {n:Nat}:∀ {k j:Nat},k<=j->subN n k<=subN n j
 | k,j,h=>by
  induction n generalizing k j with
  | zero=>cases k <;> cases j <;> simp [subN]
  | succ n a =>
   cases k with
   | zero=>rw [subN]; exact Fk _ _
   | succ k =>
    cases j with
    | zero=>omega
    | succ j=>rw [subN,subN]; exact Nat.add_le_add (a _ _ zO) (a _ _ zO)
def zN {α:Type} [DecidableEq α]:∀ (A:List α) (k:Nat) (l:List (List α)),l.Nodup->(∀ b∈l,b.length<=k/\b.Sublist A)->l.length<=subN A.length k
 | A,0,l,hn,h=>by
  have h0:∀ b∈l,b=[]:=fun b hb=>Xl (by have:=(h b hb).1; omega);unfold subN
  match l,hn,h0 with
  | [],_,_=>simp
  | [a],_,_=>simp
  | a :: b :: l,hn,h0 =>
   have f:=h0 a (by simp);have g:=h0 b (by simp);subst f; subst g;simp at hn
 | [],k+1,l,hn,h=>by
  have h0:∀ b∈l,b=[]:=fun b hb=>List.sublist_nil.1 (h b hb).2;show _<=1
  match l,hn,h0 with
  | [],_,_=>simp
  | [a],_,_=>simp
  | a :: b :: l,hn,h0 =>
   have f:=h0 a (by simp);have g:=h0 b (by simp);subst f; subst g;simp at hn
 | a :: A,k+1,l,hn,h=>by
  have h1:=zN A (k+1) (l.filter fun b=>b.isSublist A) (YY _ hn) fun b hb=>by
   obtain ⟨hb,e⟩:=WO.1 hb;exact ⟨(h b hb).1,List.isSublist_iff_sublist.1 e⟩
  have hc:∀ b∈l.filter fun b=>!b.isSublist A,∃ c,b=a :: c/\c.Sublist A/\c.length<=k:=fun b hb=>by
   obtain ⟨hb,e⟩:=WO.1 hb;obtain ⟨h1,h2⟩:=h b hb;cases h2 with
   | cons _ h2=>rw [List.isSublist_iff_sublist.2 h2] at e; cases e
   | cons_cons _ h2=>exact ⟨_,rfl,h2,by simp at h1; omega⟩
  have h2:=zN A k ((l.filter fun b=>!b.isSublist A).map List.tail) (by
   refine Xu.2 (YX (fun {x y} hx hy hne e=>hne ?_) (YY _ hn));obtain ⟨c,rfl,-,-⟩:=hc x hx;obtain ⟨d,rfl,-,-⟩:=hc y hy;simp at e; rw [e]) fun b hb=>by
    obtain ⟨x,hx,rfl⟩:=DT.1 hb;obtain ⟨c,rfl,h3,h4⟩:=hc x hx;exact ⟨h4,h3⟩
  rw [Nj] at h2;have h3:l.length=(l.filter fun b=>b.isSublist A).length+(l.filter fun b=>!b.isSublist A).length:=by
   rw [<- Yr,<- Yr,Zg (p:=fun b:List α=>b.isSublist A)];congr 1;refine List.countP_congr fun b _=>?_;cases b.isSublist A <;> simp
  rw [W5,subN];omega
def IS:∀ (l F:List V),(fz F l).Sublist l
 | [],_=>List.Sublist.refl _
 | a :: l,F=>by
  unfold fz;split
  ·exact (IS l F).cons a
  ·exact (IS l _).cons_cons a
def DD.count4 {d:Nat} {E L:V->Prop} {c R:List V} (h:DD d E (· ∈ c) L R) (k:∀ i∈c,i.length=d):R.length<=subN c.length (d-1):=by
 obtain ⟨T,hT⟩:∃ T:V->List V,T=fun r=>c.filter fun i=>decide (dot i r=0):=⟨_,rfl⟩
 have f:∀ r i,i∈T r ↔ i∈c/\dot i r=0:=fun r i=>by rw [hT,WO]; simp
 have g:∀ r,∀ i∈T r,i.length=d:=fun r i hi=>k i ((f r i).1 hi).1;have o:∀ r,(T r).Sublist c:=fun r=>by rw [hT]; exact List.filter_sublist
 have hn:(R.map fun r=>fz [] (T r)).Nodup:=by
  have j:∀ r s:V,fz [] (T r)=fz [] (T s)->∀ i,i∈c->dot i r=0->dot i s=0:=fun r s e i hi n=>by
   have h1:Spn d (· ∈ fz [] (T r)) i:=((ES (g r)).2 i).2 (dK (k i hi) ((f r i).2 ⟨hi,n⟩));rw [dot_comm];refine Con.dot_zero (fun l hl=>g r l (mE _ _ l hl)) (fun r h=>h.elim) (fun l hl=>?_) (fun r h=>h.elim) h1;have h2:l∈fz [] (T s):=by rw [<- e]; exact hl
   rw [dot_comm]; exact ((f s l).1 (mE _ _ l h2)).2
  exact Xu.2 (h.apart.imp fun hne e=>hne fun i hi=>⟨j _ _ e i hi,j _ _ e.symm i hi⟩)
 have:=zN c (d-1) _ hn fun b hb=>by
  obtain ⟨r,hr,rfl⟩:=DT.1 hb;obtain ⟨i,hi,m⟩:=h.off r hr;have h1:=GQ (g r) (h.lenR r hr) (fun a ha=>((f r a).1 ha).2) m;exact ⟨zO,(IS _ _).trans (o r)⟩
 simpa using this
section
variable {n x:Nat} {a r:V} {K K':List (V × Bool)} {G G':List (Nat × V)}
end
end Go.Proofs.YtiigaeehghcjiaaGreat.Lin
