/- A part. -/
import Derived.Test.YteaefaohjlmjdaaGreatA0
import Derived.Test.YteaefaohjlmjdaaGreatN48
import Derived.Test.YteaefaohjlmjdaaGreatN22
import Derived.Test.YteaefaohjlmjdaaGreatGens
set_option linter.all false
namespace Go.Proofs.YteaefaohjlmjdaaGreat.Lin
section
variable {n:Nat} {l m:List (V × Bool)}
def tE (hne:gensP n l≠[]):(gensR (n+1) (eqsOf l) (ineqsOf n l)).any (fun r=>decide (0<hd1 r))=true:=by
 cases hs:(gensR (n+1) (eqsOf l) (ineqsOf n l)).any (fun r=>decide (0<hd1 r)) with
 | true=>rfl
 | false=>exact absurd (by unfold gensP; rw [if_neg (by rw [hs]; decide)]) hne
def yn (h:∀ c∈l,c.1.length=n+1):gensP n l≠[] ↔ ∃ x,qq n l x/\0<hd1 x:=by
 constructor
 ·intro hne
  have:=tE hne
  rw [OL] at this;obtain ⟨r,hr,h0⟩:=this;exact ⟨r,OC h hr,of_decide_eq_true h0⟩
 ·rintro ⟨x,hx,h0⟩ he;have hs:¬ (gensR (n+1) (eqsOf l) (ineqsOf n l)).any (fun r=>decide (0<hd1 r))=true:=fun hs=>by
   have:=(m6 hs).2.2
   rw [he] at this;cases this
  have t:=gens_told (eqs_len h) (ineqs_len h);have h1:∀ r∈gensR (n+1) (eqsOf l) (ineqsOf n l),dot (unitC n 1) r=0:=fun r hr=>by
   rw [fl];have h2:=(keepP_iff.1 (OC h hr)).2.1;have h3:¬ 0<hd1 r:=fun h3=>hs (OL.2 ⟨r,hr,by simpa using h3⟩);omega
  have h2:∀ r∈gensL (n+1) (eqsOf l) (ineqsOf n l),dot (unitC n 1) r=0:=fun r hr=>t.dd.lineI r hr _ (mem_ineqs.2 (.inl rfl))
  have:=(t.dd.all x hx).dot_zero t.dd.lenL t.dd.lenR h2 h1
  rw [fl] at this;omega
def gU {c:V × Bool} {g:Nat × V}:keepsP c g=true ↔ (if c.2=true\/g.1=1 then dot c.1 g.2=0 else 0<=dot c.1 g.2):=by
 unfold keepsP;by_cases h:c.2=true\/g.1=1
 ·rw [if_pos h,if_pos (by simpa using h)]; simp
 ·rw [if_neg h,if_neg (by simpa using h)]; simp
def Ir (h:∀ c∈l,c.1.length=n+1) (hne:gensP n l≠[]) {c:V × Bool}:(∀ g∈gensP n l,keepsP c g=true) ↔ P2 n l c:=by
 constructor
 ·intro b x hx;have t:=gens_told (eqs_len h) (ineqs_len h);have hs:=tE hne;have e:gensP n l=(gensL (n+1) (eqsOf l) (ineqsOf n l)).map (fun r=>(1,r))++(gensR (n+1) (eqsOf l) (ineqsOf n l)).map (fun r=>(kindOf r,r)):=by
   unfold gensP; rw [if_pos hs]
  have hL:∀ r∈gensL (n+1) (eqsOf l) (ineqsOf n l),dot c.1 r=0:=fun r hr=>by
   have:=b (1,r) (by rw [e]; exact XF _ (nC.2 ⟨r,hr,rfl⟩))
   rw [gU,if_pos (.inr rfl)] at this;exact this
  have a:∀ r∈gensR (n+1) (eqsOf l) (ineqsOf n l),(c.2=true->dot c.1 r=0)/\0<=dot c.1 r:=fun r hr=>by
   have:=b (kindOf r,r) (by rw [e]; exact XV _ (nC.2 ⟨r,hr,rfl⟩))
   rw [gU] at this;split at this
   ·exact ⟨fun _=>this,by simp only at this; omega⟩
   ·rename_i hc;exact ⟨fun e=>absurd (.inl e) hc,this⟩
  exact ⟨fun hb=>(t.dd.all x hx).dot_zero t.dd.lenL t.dd.lenR hL fun r hr=>(a r hr).1 hb,(t.dd.all x hx).dot_nonneg t.dd.lenL t.dd.lenR hL fun r hr=>(a r hr).2⟩
 ·intro d g hg;obtain ⟨k1,k2⟩:=qi h hg;exact qc d k1 k2
def inP (G:List (Nat × V)) (K:List (V × Bool)):Bool:=G.all fun g=>K.all fun c=>keepsP c g
def inP_iff {G:List (Nat × V)} {K:List (V × Bool)}:inP G K=true ↔ ∀ g∈G,∀ c∈K,keepsP c g=true:=by
 unfold inP;rw [GR];exact ⟨fun h g hg=>GR.1 (h g hg),fun h g hg=>GR.2 (h g hg)⟩
def WI {x:V} (hx:qq n l x) (a:∀ c∈m,P2 n l c):qq n m x:=by
 have:=keepP_iff.1 hx
 exact keepP_iff.2 ⟨this.1,this.2.1,fun c hc=>⟨(a c hc x hx).1,fun _=>(a c hc x hx).2⟩⟩
def in_iff (hl:∀ c∈l,c.1.length=n+1) (hm:∀ c∈m,c.1.length=n+1):inP (gensP n l) (consP n (gensP n m))=true ↔ (gensP n l=[]\/∀ x,qq n l x->qq n m x):=by
 rw [inP_iff];by_cases he:gensP n l=[]
 ·rw [he]; simp
 constructor
 ·intro h
  right
  have d:∀ c∈consP n (gensP n m),P2 n l c:=fun c hc=>(Ir hl he).1 fun g hg=>h g hg c hc;obtain ⟨a,f,p0⟩:=(yn hl).1 he;have b:gensP n m≠[]:=fun e=>by
   rw [e] at d
   have:=(d (unitC n (-1),false) (Ld.2 rfl) a f).2
   rw [fl] at this;omega
  intro x hx;exact (Bz hm (tE b) x).1 (WI hx d)
 ·rintro (h | h)
  ·exact absurd h he
  obtain ⟨a,f,p0⟩:=(yn hl).1 he;have b:gensP n m≠[]:=(yn hm).2 ⟨a,h a f,p0⟩;intro g hg c hc;exact (Ir hl he).2 (fun x hx=>xH hc x ((Bz hm (tE b) x).2 (h x hx))) g hg
structure Own (n:Nat) (K:List (V × Bool)) (G:List (Nat × V)):Prop where
 rows:∀ c∈K,c.1.length=n+1
 gens:gensP n K=G
 cons:consP n G=K
def own_of (h:∀ c∈l,c.1.length=n+1):Own n (consP n (gensP n l)) (gensP n l):=⟨jG (ts h),L8 h,rfl⟩
def Own.valid {K:List (V × Bool)} {G:List (Nat × V)} (h:Own n K G):ValidG n G:=by rw [<- h.gens]; exact GZ h.rows
def Own.point {K:List (V × Bool)} {G:List (Nat × V)} (h:Own n K G) (hne:G≠[]):G.any (fun x=>x.1 == 3)=true:=by
 have:=h.gens; rw [<- this] at hne ⊢; exact IT hne
def Own.in_iff {K K':List (V × Bool)} {G G':List (Nat × V)} (h:Own n K G) (h':Own n K' G'):inP G K'=true ↔ (G=[]\/∀ x,qq n K x->qq n K' x):=by
 have:=Lin.in_iff (n:=n) h.rows h'.rows
 rw [h.gens,h'.gens,h'.cons] at this;exact this
section
variable {K K' Kr:List (V × Bool)} {G G' Gr:List (Nat × V)}
end
section
variable {g g':List (Nat × V)}
def LH (hg:ValidG n g) (h3:g.any (fun x=>x.1 == 3)=true):gensP n (consP n g)≠[]:=by
 have h4:=h3;rw [OL] at h4;obtain ⟨x,hx,e⟩:=h4;refine (yn (jG fun x hx=>(hg x hx).1)).2 ⟨x.2,(oQ hg h3 hx).1,(hg x hx).2.1 (by simpa using e)⟩
def OS (h3:¬ g.any (fun x=>x.1 == 3)=true):consP n g=[(unitC n (-1),false)]:=by
 unfold consP; rw [if_neg h3]
def LI (hg:ValidG n g):consP n (gensP n (consP n g))=consP n g:=by
 by_cases h3:g.any (fun x=>x.1 == 3)=true
 ·have d:∀ a∈linesOf g,a.length=n+1:=fun a ha=>(hg _ (mem_lines.1 ha)).1;have e:∀ a∈raysOf g,a.length=n+1:=fun a ha=>by obtain ⟨k,-,h⟩:=mem_rays.1 ha; exact (hg _ h).1
  have t:=gens_told d e;have hl:=jG (n:=n) (g:=g) fun x hx=>(hg x hx).1;have c:=gens_told (eqs_len hl) (ineqs_len hl);have hne:=LH hg h3;obtain ⟨p1,p2,p3⟩:=m6 (tE hne);have t3:=gens_told c.dd.lenL c.dd.lenR;have f:∀ y,Keep (n+1) (· ∈ gensL (n+1) (eqsOf (consP n g)) (ineqsOf n (consP n g))) (· ∈ gensR (n+1) (eqsOf (consP n g)) (ineqsOf n (consP n g))) y ↔ Keep (n+1) (· ∈ linesOf g) (· ∈ raysOf g) y:=fun y=>by
   constructor
   ·intro hy;have key:∀ x,qq n (consP n g) x->0<=dot y x:=fun x hx=>(c.dd.all x hx).dot_nonneg c.dd.lenL c.dd.lenR (fun l hl=>by rw [dot_comm]; exact hy.eq l hl) (fun r hr=>by rw [dot_comm]; exact hy.ge r hr);refine ⟨hy.len,fun a ha=>?_,fun b hb=>?_⟩
    ·obtain ⟨q1,q2⟩:=oQ hg h3 (mem_lines.1 ha);have r1:=key _ q1;have r2:=key _ (q2 rfl);rw [dot_scl] at r2;rw [dot_comm];simp only at r1 r2;omega
    ·obtain ⟨k,-,hm⟩:=mem_rays.1 hb
     have:=key _ (oQ hg h3 hm).1
     rw [dot_comm]; exact this
   ·intro hy;have hc:=t.dd.all y hy;have key:∀ x,qq n (consP n g) x->0<=dot x y:=fun x hx=>by
     have:=((pk h3 x).1 hx).2
     exact hc.dot_nonneg t.dd.lenL t.dd.lenR (fun l hl=>by rw [dot_comm]; exact this.eq l hl) (fun r hr=>by rw [dot_comm]; exact this.ge r hr)
    refine ⟨hy.len,fun a ha=>?_,fun b hb=>?_⟩
    ·obtain ⟨q1,q2⟩:=O8 hl ha;have r1:=key _ q1;have r2:=key _ q2;rw [eT] at r2;omega
    ·exact key _ (OC hl hb)
  obtain ⟨u1,i⟩:=qY t3 t f;show (if (gensP n (consP n g)).any (fun x=>x.1 == 3)=true then _ else _)=(if g.any (fun x=>x.1 == 3)=true then _ else _);rw [if_pos p3,if_pos h3,p1,p2,u1,i]
 ·rw [OS h3,uL]; rfl
def own_span (hg:ValidG n g):Own n (consP n g) (gensP n (consP n g)):=⟨jG fun x hx=>(hg x hx).1,rfl,LI hg⟩
def WR (hg:ValidG n g) (h3:g=[]\/g.any (fun x=>x.1 == 3)=true) {K:List (V × Bool)} (i:∀ c∈K,c.1.length=n+1):inP (gensP n (consP n g)) K=inP g K:=by
 rcases h3 with rfl | h3
 ·rw [show consP n []=[(unitC n (-1),false)] from rfl,uL]
 have o:∀ a∈linesOf g,a.length=n+1:=fun a ha=>(hg _ (mem_lines.1 ha)).1;have p:∀ a∈raysOf g,a.length=n+1:=fun a ha=>by obtain ⟨k,-,h⟩:=mem_rays.1 ha; exact (hg _ h).1
 have t:=gens_told o p;have hl:=jG (n:=n) (g:=g) fun x hx=>(hg x hx).1;rw [XQ,inP_iff,inP_iff];constructor
 ·intro h x hx c hc;have f:=(Ir hl (LH hg h3)).1 fun g hg=>h g hg c hc;obtain ⟨q1,q2⟩:=oQ hg h3 hx;exact qc f q1 q2
 ·intro h x hx c hc;have f:P2 n (consP n g) c:=fun y hy=>by
   have d:=((pk h3 y).1 hy).2;have j:∀ r∈linesOf g,dot c.1 r=0:=fun r hr=>by
    have:=h _ (mem_lines.1 hr) c hc
    rw [gU,if_pos (.inr rfl)] at this;exact this
   have m:∀ r∈raysOf g,(c.2=true->dot c.1 r=0)/\0<=dot c.1 r:=fun r hr=>by
    obtain ⟨k,d,hm⟩:=mem_rays.1 hr
    have:=h _ hm c hc
    rw [gU] at this;split at this
    ·exact ⟨fun _=>this,by simp only at this; omega⟩
    ·rename_i q;exact ⟨fun e=>absurd (.inl e) q,this⟩
   have k1:Keep (n+1) (· ∈ linesOf g) (· ∈ raysOf g) c.1:=⟨i c hc,fun a ha=>by rw [dot_comm]; exact j a ha,fun b hb=>by rw [dot_comm]; exact (m b hb).2⟩
   have p1:0<=dot c.1 y:=by
    have:=(t.dd.all _ k1).dot_nonneg (a:=y) t.dd.lenL t.dd.lenR (fun l hl=>by rw [dot_comm]; exact d.eq l hl) (fun r hr=>by rw [dot_comm]; exact d.ge r hr)
    rw [dot_comm]; exact this
   refine ⟨fun hb=>?_,p1⟩;have k2:Keep (n+1) (· ∈ linesOf g) (· ∈ raysOf g) (scl (-1) c.1):=⟨aj (i c hc),fun a ha=>by rw [dot_scl,dot_comm,j a ha]; rfl,fun b s=>by rw [dot_scl,dot_comm,(m b s).1 hb]; exact Yx _⟩
   have:=(t.dd.all _ k2).dot_nonneg (a:=y) t.dd.lenL t.dd.lenR (fun l hl=>by rw [dot_comm]; exact d.eq l hl) (fun r hr=>by rw [dot_comm]; exact d.ge r hr)
   rw [dot_scl,dot_comm] at this;omega
  obtain ⟨q1,q2⟩:=qi hl hx;exact qc f q1 q2
end
section
variable {K K' Kr:List (V × Bool)} {G G' Gr:List (Nat × V)}
end
end
end Go.Proofs.YteaefaohjlmjdaaGreat.Lin
namespace Go.Proofs.YteaefaohjlmjdaaGreat.Ev
open Go Nn
section
variable {tab:Nat->Option aA} {H:Heap} {s:AV}
theorem HO {v:AV} (ov:One v) (b:Bool):fW (.agg [v,.bool b])=some [v,.bool b]:=by simp [fW,AV.cells,ov.2]; rfl
theorem sB {v:AV} (ov:One v) (k:Int):fW (.agg [.int .u8 k,v])=some [.int .u8 k,v]:=by simp [fW,AV.cells,ov.2]; rfl
def FB (C:Code tab) (l:Wf H) {cs g:List AV} {x y:List Int × Bool} (hx:conE.R H cs x) (hy:conE.R H g y) (j:x.1.length<1099511627776) (hz:∀ z∈x.1,dD z) :
  Ans tab (.fn gP [.agg cs,.agg g]) H fun v H'=>v=.bool (decide (x=y))/\Kp H H':=by
 obtain ⟨v,rfl,c⟩:=hx;obtain ⟨w,rfl,d⟩:=hy;have ov:=c.one;have h:=d.one;obtain ⟨a,p⟩:=x;obtain ⟨b,q⟩:=y;have c:RowV H v a:=c;have d:RowV H w b:=d;refine bA C.q91 zU fun T hl e f=>?_;by_cases hb:p=q
 ·subst hb;refine zW (dj hl e f (HO ov) (HO h) (beq_self_eq_true (α:=Bool))) ?_;refine AnsH.eq (AM C zF (c.mono (zG H)) (d.mono (zG H)) j hz) fun H2 i=>?_;obtain ⟨k2,_,_⟩:=zT H zK i;refine zW (aD hl e f) ?_;exact ⟨by simp,zK⟩
 ·have k:(p == q)=false:=by simpa using hb
  refine zW (dj hl e f (HO ov) (HO h) k) ?_;exact ⟨by simp [hb],zK⟩
def FA (C:Code tab) (l:Wf H) {cs g:List AV} {x y:Nat × List Int} (hx:genE.R H cs x) (hy:genE.R H g y) (j:x.2.length<1099511627776) (hz:∀ z∈x.2,dD z) :
  Ans tab (.fn gO [.agg cs,.agg g]) H fun v H'=>v=.bool (decide (x=y))/\Kp H H':=by
 obtain ⟨v,rfl,c⟩:=hx;obtain ⟨w,rfl,d⟩:=hy;have ov:=c.one;have h:=d.one;obtain ⟨p,a⟩:=x;obtain ⟨q,b⟩:=y;have c:RowV H v a:=c;have d:RowV H w b:=d;refine bA C.q92 zU fun T hl e f=>?_;by_cases hb:p=q
 ·subst hb;refine zW (bB hl e f (sB ov) (sB h)) ?_;refine AnsH.eq (AM C zF (c.mono (zG H)) (d.mono (zG H)) j hz) fun H2 i=>?_;obtain ⟨k2,_,_⟩:=zT H zK i;refine zW (aD hl e f) ?_;exact ⟨by simp,zK⟩
 ·have k:¬ (p:Int)=(q:Int):=zO;refine zW (dj hl e f (sB ov) (sB h) k) ?_;exact ⟨by simp [hb],zK⟩
def Df (C:Code tab) (R:Wf H) {a b:AV} {l m:List (List Int × Bool)} (ha:SlV conE t_api_Con H a l) (hb:SlV conE t_api_Con H b m) (P:l.length<1099511627776) (hz:∀ r∈l,r.1.length<1099511627776/\∀ z∈r.1,dD z) :
  Ans tab (.fn aX [a,b,.fn (.func gP) [] []]) H fun v H'=>v=.bool (decide (l=m))/\Kp H H':=by
 refine lC C.q93 zU fun T hl c d f=>?_;by_cases he:l.length=m.length
 ·have K:lenV b=some (.int .i64 (l.length:Int)):=by rw [hb.lenV,he]
  refine zW (dj hl c d f ha.lenV K) ?_;refine aq H [] (fun j _ _=>∀ q (h:q<l.length) (h':q<m.length),q<j->l[q]=m[q]) (a:=0) (N:=l.length) rfl (by refine zW (aO hl c d f) ?_; rfl) (zV (aO hl c d f)) (xq _) zO (by simp only [dz,hl]; rfl) rfl (fun _ _ _ _ h=>h) zK (fun q _ _ h=>by omega) ?_ ?_
  ·intro j T1 k _ hj g F o n p;have w1:=n.wf;have S:=n.le;have s:j<m.length:=zO;have M:ad T1 15=a:=(o.at_ 15 zU).trans (zV (aE hl c));have t1:ad T1 1=b:=(o.at_ 1 zU).trans (zV (bB hl c d f d));have O:ad T1 2=.fn (.func gP) [] []:=(o.at_ 2 zU).trans (zV (bB hl c d f f));obtain ⟨_,⟨v,rfl,hr⟩,-,-,L⟩:=(ha.mono n.sub).at (eA hj);obtain ⟨_,⟨w,rfl,t⟩,-,-,L'⟩:=(hb.mono n.sub).at (eA s);have L:bk k (some 2) (aB a (j*2))=some (.agg [v,.bool l[j].2]):=L;have L':bk k (some 2) (aB b (j*2))=some (.agg [w,.bool m[j].2]):=L';have G:cS 2 a (.int .i64 (j:Int))=some (aB a (j*2)):=SlV.idx ha .i64 j hj;have I:cS 2 b (.int .i64 (j:Int))=some (aB b (j*2)):=SlV.idx hb .i64 j s;have ov:=hr.one;have U:=t.one;have D:=(Ldd.of w1 L).put;have A:=(Ldd.of w1 L).ld;have B:=(Ldd.of w1 L').put;have u:=(Ldd.of w1 L').ld;simp only [dz,hl] at g;refine zW (ia g M t1 O F G I D A B u) ?_;refine AnsH.eq (FB C (x:=l[j]) (y:=m[j]) zF ⟨v,rfl,hr.mono (zG k)⟩ ⟨w,rfl,t.mono (zG k)⟩ (hz _ (mQ hj)).1 (hz _ (mQ hj)).2) fun H2 J=>?_;obtain ⟨k2,_,_⟩:=zT H zK J;cases i:decide (l[j]=m[j]) with
   | true =>
    have i:=of_decide_eq_true i;refine zW g ?_;refine ⟨zK,fun q h h' Q=>?_⟩;by_cases e:q=j
    ·subst e; exact i
    ·exact p q h h' zO
   | false =>
    have i:=of_decide_eq_false i;refine zW g ?_;refine ⟨?_,zK⟩;rw [decide_eq_false];intro e; subst e; exact i rfl
  ·intro T1 k g o n p;simp only [dz,hl] at g;refine zW g ?_;exact ⟨by rw [decide_eq_true (jg he fun q h h'=>p q h h' h)],zK⟩
 ·have E:¬ (l.length:Int)=(m.length:Int):=zO;refine zW (fX hl c d f ha.lenV hb.lenV E he) ?_;refine ⟨?_,zK⟩;rw [decide_eq_false];intro e; subst e; exact he rfl
def De (C:Code tab) (R:Wf H) {a b:AV} {l m:List (Nat × List Int)} (ha:SlV genE ag H a l) (hb:SlV genE ag H b m) (P:l.length<1099511627776) (hz:∀ r∈l,r.2.length<1099511627776/\∀ z∈r.2,dD z) :
  Ans tab (.fn aW [a,b,.fn (.func gO) [] []]) H fun v H'=>v=.bool (decide (l=m))/\Kp H H':=by
 refine lC C.q94 zU fun T hl c d f=>?_;by_cases he:l.length=m.length
 ·have K:lenV b=some (.int .i64 (l.length:Int)):=by rw [hb.lenV,he]
  refine zW (dj hl c d f ha.lenV K) ?_;refine aq H [] (fun j _ _=>∀ q (h:q<l.length) (h':q<m.length),q<j->l[q]=m[q]) (a:=0) (N:=l.length) rfl (by refine zW (aO hl c d f) ?_; rfl) (zV (aO hl c d f)) (xq _) zO (by simp only [dz,hl]; rfl) rfl (fun _ _ _ _ h=>h) zK (fun q _ _ h=>by omega) ?_ ?_
  ·intro j T1 k _ hj g F o n p;have w1:=n.wf;have S:=n.le;have s:j<m.length:=zO;have M:ad T1 15=a:=(o.at_ 15 zU).trans (zV (aE hl c));have t1:ad T1 1=b:=(o.at_ 1 zU).trans (zV (bB hl c d f d));have O:ad T1 2=.fn (.func gO) [] []:=(o.at_ 2 zU).trans (zV (bB hl c d f f));obtain ⟨_,⟨v,rfl,hr⟩,-,-,L⟩:=(ha.mono n.sub).at (eA hj);obtain ⟨_,⟨w,rfl,t⟩,-,-,L'⟩:=(hb.mono n.sub).at (eA s);have L:bk k (some 2) (aB a (j*2))=some (.agg [.int .u8 (l[j].1:Int),v]):=L;have L':bk k (some 2) (aB b (j*2))=some (.agg [.int .u8 (m[j].1:Int),w]):=L';have G:cS 2 a (.int .i64 (j:Int))=some (aB a (j*2)):=SlV.idx ha .i64 j hj;have I:cS 2 b (.int .i64 (j:Int))=some (aB b (j*2)):=SlV.idx hb .i64 j s;have ov:=hr.one;have U:=t.one;have D:=(Ldd.of w1 L).put;have A:=(Ldd.of w1 L).ld;have B:=(Ldd.of w1 L').put;have u:=(Ldd.of w1 L').ld;simp only [dz,hl] at g;refine zW (ia g M t1 O F G I D A B u) ?_;refine AnsH.eq (FA C (x:=l[j]) (y:=m[j]) zF ⟨v,rfl,hr.mono (zG k)⟩ ⟨w,rfl,t.mono (zG k)⟩ (hz _ (mQ hj)).1 (hz _ (mQ hj)).2) fun H2 J=>?_;obtain ⟨k2,_,_⟩:=zT H zK J;cases i:decide (l[j]=m[j]) with
   | true =>
    have i:=of_decide_eq_true i;refine zW g ?_;refine ⟨zK,fun q h h' Q=>?_⟩;by_cases e:q=j
    ·subst e; exact i
    ·exact p q h h' zO
   | false =>
    have i:=of_decide_eq_false i;refine zW g ?_;refine ⟨?_,zK⟩;rw [decide_eq_false];intro e; subst e; exact i rfl
  ·intro T1 k g o n p;simp only [dz,hl] at g;refine zW g ?_;exact ⟨by rw [decide_eq_true (jg he fun q h h'=>p q h h' h)],zK⟩
 ·have E:¬ (l.length:Int)=(m.length:Int):=zO;refine zW (fX hl c d f ha.lenV hb.lenV E he) ?_;refine ⟨?_,zK⟩;rw [decide_eq_false];intro e; subst e; exact he rfl
def DN (C:Code tab) (K:Wf H) {v q:AV} {n n':Nat} {c h:List (List Int × Bool)} {g g':List (Nat × List Int)} (hp:PolyV H v n c g) (D:PolyV H q n' h g') (t:c.length<1099511627776) (u:∀ r∈c,r.1.length<1099511627776/\∀ z∈r.1,dD z) (w:g.length<1099511627776) (y:∀ r∈g,r.2.length<1099511627776/\∀ z∈r.2,dD z) :
  Ans tab (.fn rM [v,q]) H fun x H'=>x=.bool (decide (n=n'/\c=h/\g=g'))/\Kp H H':=by
 obtain ⟨F,I,rfl,hc,hg⟩:=hp;obtain ⟨G,J,rfl,j,k⟩:=D;have l:=hc.one;have o:=hg.one;have m:=j.one;have p:=k.one;refine bA C.q58 zU fun T hl a d=>?_;by_cases hn:n=n'
 ·subst hn;refine zW (bB hl a d (jS l o) (jS m p)) ?_;refine AnsH.eq (Df C zF (hc.mono (zG H)) (j.mono (zG H)) t u) fun H2 i=>?_;obtain ⟨k2,_,M⟩:=zT H zK i;have d0:=i.get (b:=H.next) (e:=.cells [.int .i64 (n:Int),F,I] am true) (cC);have d1:=i.get (b:=H.next+1) (e:=.cells [.int .i64 (n:Int),G,J] am true) (cC);by_cases f:c=h
  ·rw [decide_eq_true f];refine zW (bB hl a d d0 d1) ?_;refine AnsH.eq (De C zF ((hg.mono k2.sub).mono (zG H2)) ((k.mono k2.sub).mono (zG H2)) w y) fun s A=>?_;have E:Kp H s:=k2.trans (Kp.trans zK A);have L:=E.le;refine zW (aD hl a d) ?_;exact ⟨by simp [f],zK⟩
  ·rw [decide_eq_false f];refine zW (aD hl a d) ?_;exact ⟨by simp [f],zK⟩
 ·have B:¬ (n:Int)=(n':Int):=zO;refine zW (dj hl a d (jS l o) (jS m p) B) ?_;exact ⟨by simp [hn],zK⟩
def L7 (C:Code tab) (u:Wf H) {v w:AV} {a r:List Int} {e f:Nat} (ha:RowV H v a) (hr:RowV H w r) (k:a.length=r.length) (i:a.length<=64) (j:∀ z∈a,Bt e z) (m:∀ z∈r,Bt f z) (l:e+f+7<=8796093022208) :
  Ans tab (.fn rD [v,w]) H fun x H'=>x=.int .i64 (gJ (Lin.dot a r))/\Kp H H':=by
 refine bA C.q59 zU fun T hl c d=>?_;refine zW (aD hl c d) ?_;refine AnsH.use (mB C zF (ha.mono (zG H)) (hr.mono (zG H)) k i j m l) ?_;rintro x H2 ⟨q,rfl,⟨p,rfl,hp⟩,h⟩;obtain ⟨k2,_,D⟩:=zT H zK h;have op:=hp.one;have B:H.next+10<=H2.next:=h.le
 have fr:H2.get (H.next+7)=none:=h.free (show H.next+7<H.next+10 by omega) (u.fresh (b:=H.next+7) zO);obtain ⟨G,g⟩:∃ G,G=((H2.up 7).put (H.next+7) (.cells [.bool false,.nilSl] aa true)).put (H.next+7) (.cells [.bool (decide (Lin.dot a r<0)),p] aa true):=⟨_,rfl⟩
 have n:Kp H G:=by rw [g]; exact zK
 have t:bO G p (Lin.dot a r).natAbs:=by
  rw [g];exact hp.mono (((Sub.bump H2 7).put fr _).put fr _)
 refine zW (aD hl c d) ?_;rw [<- g];refine AnsH.eq (pD C (x:=Lin.dot a r) n.wf ⟨p,rfl,t⟩ ((nf j m k i).sm l)) fun o s=>?_;have y:Kp H o:=n.trans s;have A:=y.le;refine zW (aD hl c d) ?_;exact zK
def poly_keeps (C:Code tab) (q:Wf H) {v w:AV} {b:Bool} {k:Nat} {a r:List Int} {e f:Nat} (ha:RowV H v a) (hr:RowV H w r) (j:a.length=r.length) (o:a.length<=64) (i:∀ z∈a,Bt e z) (m:∀ z∈r,Bt f z) (p:e+f+7<=8796093022208) :
  Ans tab (.fn ik [.agg [.int .u8 (k:Int),w],.agg [v,.bool b]]) H fun x H'=>x=.bool (Lin.keepsP (a,b) (k,r))/\Kp H H':=by
 have ov:=ha.one;have n:=hr.one;refine bA C.q32 zU fun T hl c d=>?_;refine zW (bB hl c d (HO ov) (sB n)) ?_;refine AnsH.eq (L7 C (e:=f) (f:=e) zF (hr.mono (zG H)) (ha.mono (zG H)) j.symm zO m i zO) fun H2 g=>?_;obtain ⟨k2,_,s⟩:=zT H zK g;have d1:H2.get H.next=some (.cells [.int .u8 (k:Int),w] ag true):=g.get (cC)
 have d2:H2.get (H.next+1)=some (.cells [v,.bool b] t_api_Con true):=g.get (cC);have hd:=Lin.dot_comm r a;cases b with
 | true =>
  refine zW (bB hl c d d1 d2) ?_;refine ⟨?_,zK⟩;congr 1;rw [XQ];simp [Lin.keepsP,iK,hd]
 | false =>
  by_cases h:k=1
  ·subst h;have d1:H2.get H.next=some (.cells [.int .u8 1,w] ag true):=d1
   refine zW (bB hl c d d1 d2) ?_;refine ⟨?_,zK⟩;congr 1;rw [XQ];simp [Lin.keepsP,iK,hd]
  ·have l:¬ (k:Int)=1:=zO;refine zW (dj hl c d d1 d2 l) ?_;refine ⟨?_,zK⟩;congr 1;rw [XQ];simp [Lin.keepsP,IB,hd,h]
def HX {α:Type} {p:α->Bool} {l:List α} {j:Nat} (hj:j<l.length):(l.take (j+1)).all p=((l.take j).all p && p l[j]):=by
 rw [List.take_succ,eA hj,List.all_append]; simp
def IU (C:Code tab) (hw:Wf H) {a b:AV} {n e f:Nat} {G:List (Nat × List Int)} {K:List (List Int × Bool)} (ha:SlV genE ag H a G) (hb:SlV conE t_api_Con H b K) (O:∀ x∈G,x.2.length=n+1/\Lin.Bd (2^e) x.2) (F:∀ c∈K,c.1.length=n+1/\Lin.Bd (2^f) c.1) (hn:n<=60) (ap:G.length<1099511627776) (ar:K.length<1099511627776) (ao:e+f<=4398046511104) :
  Ans tab (.fn pR [a,b,.fn (.func ik) [] []]) H fun v H'=>v=.bool (Lin.inP G K)/\Kp H H':=by
 refine lC C.q31 zU fun T hl o p q=>?_;refine zW (bB hl o p q ha.lenV) ?_;refine aq H [] (fun j _ _=>Lin.inP (G.take j) K=true) (a:=0) (N:=G.length) rfl (by refine zW (aO hl o p q) ?_; rfl) (zV (aO hl o p q)) (xq _) zO (by simp only [dz,hl]; rfl) rfl (fun _ _ _ _ h=>h) zK rfl ?_ ?_
 ·intro j T1 g _ hj d Y A s u;have w1:=s.wf;have av:=s.le;have ah:ad T1 11=a:=(A.at_ 11 zU).trans (zV (aE hl o));have t1:ad T1 1=b:=(A.at_ 1 zU).trans (zV (bB hl o p q p));have t2:ad T1 2=.fn (.func ik) [] []:=(A.at_ 2 zU).trans (zV (bB hl o p q q));obtain ⟨_,⟨v,rfl,hr⟩,-,-,L⟩:=(ha.mono s.sub).at (eA hj);have L:bk g (some 2) (aB a (j*2))=some (.agg [.int .u8 (G[j].1:Int),v]):=L;have aa:cS 2 a (.int .i64 (j:Int))=some (aB a (j*2)):=SlV.idx ha .i64 j hj;have hr:RowV g v G[j].2:=hr;have ov:=hr.one;have W:=(Ldd.of w1 L).put;have U:=(Ldd.of w1 L).ld;have J:=mQ hj;simp only [dz,hl] at d;refine zW (fX d ah t1 Y aa W U hb.lenV) ?_;obtain ⟨H2,E⟩:∃ H2,H2=((g.up 7).put (g.next+2) (.cells [.int .u8 0,.nilSl] ag true)).put (g.next+2) (.cells [.int .u8 (G[j].1:Int),v] ag true):=⟨_,rfl⟩
  have I:Kp g H2:=by rw [E]; exact zK
  have ax:=I.le;have k2:Kp H H2:=s.trans I;have ay:=k2.le;have w2:=k2.wf;have X:H2.get (g.next+2)=some (.cells [.int .u8 (G[j].1:Int),v] ag true):=by rw [E]; exact al _ _ _
  rw [<- E];refine aq H2 [] (fun i _ _=>(K.take i).all (fun c=>Lin.keepsP c G[j])=true) (a:=0) (N:=K.length) rfl (by refine zW d ?_; rfl) (zV d) (xq _) zO (by simp only [dz,d]; rfl) rfl (fun _ _ _ _ h=>h) zK rfl ?_ ?_
  ·intro i T2 l _ hi m Z B t y;have w3:=t.wf;have aw:=t.le;have aj:ad T2 17=b:=(B.at_ 17 zU).trans (zV (aE d t1));have am:ad T2 2=.fn (.func ik) [] []:=(B.at_ 2 zU).trans (zV (aE d t2));have t8:ad T2 8=.ptr (g.next+2) 0:=(B.at_ 8 zU).trans (zV d);have M:=t.get X;have aD:=w3 _ _ M;have Q:Sub g l:=I.sub.trans t.sub;obtain ⟨_,⟨w,rfl,hc⟩,-,-,L'⟩:=((hb.mono s.sub).mono Q).at (eA hi);have L':bk l (some 2) (aB b (i*2))=some (.agg [w,.bool K[i].2]):=L';have ab:cS 2 b (.int .i64 (i:Int))=some (aB b (i*2)):=SlV.idx hb .i64 i hi;have hc:RowV l w K[i].1:=hc;have ow:=hc.one;have V:=(Ldd.of w3 L').put;have S:=(Ldd.of w3 L').ld;have D:=mQ hi;have af:=hr.mono Q;simp only [dz,d] at m;refine zW (jU m aj am t8 Z ab V S M) ?_;refine AnsH.eq (poly_keeps C (e:=f+1) (f:=e+1) (b:=K[i].2) (k:=G[j].1) (a:=K[i].1) (r:=G[j].2) zF (hc.mono (zG l)) (af.mono (zG l)) ((F _ D).1.trans (O _ J).1.symm) (by rw [(F _ D).1]; omega) (fun z hz=>fu (F _ D).2 z hz) (fun z hz=>fu (O _ J).2 z hz) zO) fun R ae=>?_;obtain ⟨k4,_,_⟩:=zT H2 zK ae;have au:Kp H R:=k2.trans k4;cases P:Lin.keepsP (K[i].1,K[i].2) (G[j].1,G[j].2) with
   | true =>
    refine zW m ?_;refine ⟨zK,?_⟩;rw [HX hi,y];exact P
   | false =>
    refine zW m ?_;refine ⟨?_,zK⟩
    have:Lin.inP G K=false:=by
     cases h:Lin.inP G K with
     | false=>rfl
     | true =>
      have:=Lin.inP_iff.1 h _ J _ D
      exact absurd (this.symm.trans P) zU
    rw [this]
  ·intro T2 l m B t y;rw [KO] at y;simp only [dz,d] at m;have k3:Kp H l:=k2.trans t;have aC:=k3.le;refine zW m ?_;refine ⟨zK,?_⟩;unfold Lin.inP at u ⊢;rw [HX hj,u];exact y
 ·intro T1 g d A s u;simp only [dz,hl] at d;rw [KO] at u;refine zW d ?_;exact ⟨by rw [u],zK⟩
end
section
open Lin
def Do {r:V} (h:∀ z∈r.map bF,z.2.length<=1):Bd (2^64) r:=fun i=>by
 unfold at_;rw [iF];cases hi:r[i]? with
 | none=>simp
 | some z =>
  have h1:=h (bF z) (nC.2 ⟨z,Cv hi,rfl⟩);have h2:z.natAbs<B^1:=yj (n:=z.natAbs) h1;have h3:B^1=2^64:=by decide
  simp only [Yc];omega
def Ft {c:List (V × Bool)} {g:List (Nat × V)} (h:mZ c g=false):(c.length<=9/\∀ x∈c,x.1.length<=5/\Bd (2^64) x.1)/\g.length<=9/\∀ x∈g,x.2.length<=5/\Bd (2^64) x.2:=by
 unfold mZ at h;rw [Yq] at h;obtain ⟨h1,h2⟩:=jD h.1;obtain ⟨h3,h4⟩:=jC h.2;rw [rR] at h1 h3;refine ⟨⟨h1,fun x hx=>?_⟩,h3,fun x hx=>?_⟩
 ·obtain ⟨q1,q2⟩:=h2 _ (nC.2 ⟨x,hx,rfl⟩);simp only [rR] at q1;exact ⟨q1,Do q2⟩
 ·obtain ⟨q1,q2⟩:=h4 _ (nC.2 ⟨x,hx,rfl⟩);simp only [rR] at q1;exact ⟨q1,Do q2⟩
def Mz {n:Nat} {l:List (V × Bool)}:∀ x∈gensP n l,x.1=1\/x.1=2\/x.1=3:=fun x hx=>by
 unfold gensP at hx;split at hx
 ·rcases Eu.1 hx with hx | hx
  ·obtain ⟨r,hr,rfl⟩:=nC.1 hx;exact .inl rfl
  ·obtain ⟨r,hr,rfl⟩:=nC.1 hx;show kindOf r=1\/kindOf r=2\/kindOf r=3;unfold kindOf;split <;> simp
 ·cases hx
end
section
variable {tab:Nat->Option aA} {H:Heap} {s:AV}
structure PolyOK (n e f:Nat) (K:List (List Int × Bool)) (G:List (Nat × List Int)):Prop where
 own:Lin.Own n K G
 dim:n<=4
 few:K.length<=60\/K.length<=1022/\G.length<=60
 many:G.length<1024
 bK:∀ c∈K,Lin.Bd (2^f) c.1
 bG:∀ x∈G,Lin.Bd (2^e) x.2
 e3:e<=300000
 f3:f<=300000
section
variable {n e f:Nat} {K:List (List Int × Bool)} {G:List (Nat × List Int)}
def PolyOK.rowK (h:PolyOK n e f K G):∀ c∈K,c.1.length=n+1/\Lin.Bd (2^f) c.1:=fun c hc=>⟨h.own.rows c hc,h.bK c hc⟩
def PolyOK.rowG (h:PolyOK n e f K G):∀ x∈G,x.2.length=n+1/\Lin.Bd (2^e) x.2:=fun x hx=>⟨(h.own.valid x hx).1,h.bG x hx⟩
def PolyOK.kinds (h:PolyOK n e f K G):∀ x∈G,x.1=1\/x.1=2\/x.1=3:=fun x hx=>Mz (n:=n) (l:=K) x (by rw [h.own.gens]; exact hx)
def PolyOK.smK (h:PolyOK n e f K G):∀ r∈K,r.1.length<1099511627776/\∀ z∈r.1,dD z:=fun r hr=>⟨by rw [(h.rowK r hr).1]; have:=h.dim; omega,fun z hz=>(fu (h.rowK r hr).2 z hz).sm (by have:=h.f3; omega)⟩
def PolyOK.smG (h:PolyOK n e f K G):∀ r∈G,r.2.length<1099511627776/\∀ z∈r.2,dD z:=fun r hr=>⟨by rw [(h.rowG r hr).1]; have:=h.dim; omega,fun z hz=>(fu (h.rowG r hr).2 z hz).sm (by have:=h.e3; omega)⟩
def PolyOK.lenK (h:PolyOK n e f K G):K.length<=1022:=by rcases h.few with h | h <;> omega
end
set_option maxHeartbeats 4000000 in
def uJ (C:Code tab) (D:Wf H) {v:AV} {n e f:Nat} {K:List (List Int × Bool)} {G:List (Nat × List Int)} (hp:PolyV H v n K G) (a:PolyOK n e f K G) :
  Ans tab (.fn pS [v]) H fun x H'=>x=.int .i64 0/\Kp H H':=by
 obtain ⟨w,y,rfl,hc,hg⟩:=hp;have E:=hc.one;have F:=hg.one;have I:=a.lenK;have Q:=a.many;have u:Lin.gensP n K=G:=a.own.gens;have k:Lin.consP n G=K:=a.own.cons;have e3:=a.e3;have f3:=a.f3;have smK:=a.smK;have smG:=a.smG;refine cT C.q28 zU fun T hl l=>?_;by_cases q1:(K.length:Int)<=60
 ·refine zW (bB hl l (jS E F) hc.lenV q1) ?_;refine AnsH.use (qj C (n:=n) (m:=f) (m2:=e) zF (hc.mono (zG H)) a.dim zO a.rowK f3 (by rw [u]; exact a.bG) e3) ?_;rintro v H2 ⟨hm,d⟩;obtain ⟨k2,_,P⟩:=zT H zK d;have M:H.next+17<=H2.next:=d.le
  have d0:H2.get H.next=some (.cells [.int .i64 (n:Int),w,y] am true):=d.get (cC)
  have o:H2.get (H.next+14)=none:=d.free (show H.next+14<H.next+17 by omega) (by rw [au zO]; exact D.fresh (b:=H.next+14) zO);rw [u] at hm;unfold py at hm;rw [k] at hm;rcases hm with ⟨-,hm⟩ | ⟨p,rfl,⟨s,t,rfl,q,r⟩,-,-⟩
  ·omega
  have N:=q.one;have O:=r.one;obtain ⟨c,i⟩:∃ c,c=((H2.up 7).put (H.next+14) (.cells [.int .i64 0,.nilSl,.nilSl] am true)).put (H.next+14) (.cells [.int .i64 (n:Int),s,t] am true):=⟨_,rfl⟩
  have g:Sub H2 c:=by rw [i]; exact ((Sub.bump H2 7).put o _).put o _
  have j:Kp H c:=by rw [i]; exact zK
  have J:=j.le;have w3:=j.wf;refine zW (aO hl l @jj d0) ?_;rw [<- i];refine AnsH.eq (DN C zF ⟨w,y,rfl,(hc.mono k2.sub).mono g,(hg.mono k2.sub).mono g⟩ ⟨s,t,rfl,q.mono g,r.mono g⟩ zO smK zO smG) fun z A=>?_;have B:Kp H z:=j.trans A;have L:=B.le;rw [decide_eq_true ⟨rfl,rfl,rfl⟩];refine zW (aE hl l) ?_;exact zK
 ·have q2:(G.length:Int)<=60:=by rcases a.few with h | h <;> omega
  refine zW (fo hl l (jS E F) hc.lenV q1 hg.lenV q2) ?_;refine AnsH.use (l8 C (n:=n) (m:=e) (m2:=f) (m3:=e) zF (hg.mono (zG H)) a.dim zO a.own.valid a.kinds a.bG e3 (by rw [k]; exact a.bK) f3 (by rw [k,u]; exact a.bG) e3 (by rw [k]; exact .inl I)) ?_;rintro v H2 ⟨hm,d⟩;obtain ⟨k2,_,P⟩:=zT H zK d;have M:H.next+21<=H2.next:=d.le
  have d0:H2.get H.next=some (.cells [.int .i64 (n:Int),w,y] am true):=d.get (cC)
  have o:H2.get (H.next+18)=none:=d.free (show H.next+18<H.next+21 by omega) (by rw [au zO]; exact D.fresh (b:=H.next+18) zO);unfold xz py at hm;rw [k,u,k] at hm;rcases hm with ⟨-,hm⟩ | ⟨-,hm⟩ | ⟨p,rfl,⟨s,t,rfl,q,r⟩,-,-⟩
  ·omega
  ·omega
  have N:=q.one;have O:=r.one;obtain ⟨c,i⟩:∃ c,c=((H2.up 7).put (H.next+18) (.cells [.int .i64 0,.nilSl,.nilSl] am true)).put (H.next+18) (.cells [.int .i64 (n:Int),s,t] am true):=⟨_,rfl⟩
  have g:Sub H2 c:=by rw [i]; exact ((Sub.bump H2 7).put o _).put o _
  have j:Kp H c:=by rw [i]; exact zK
  have J:=j.le;have w3:=j.wf;refine zW (aO hl l @jj d0) ?_;rw [<- i];refine AnsH.eq (DN C zF ⟨w,y,rfl,(hc.mono k2.sub).mono g,(hg.mono k2.sub).mono g⟩ ⟨s,t,rfl,q.mono g,r.mono g⟩ zO smK zO smG) fun z A=>?_;have B:Kp H z:=j.trans A;have L:=B.le;rw [decide_eq_true ⟨rfl,rfl,rfl⟩];refine zW (aE hl l) ?_;exact zK
end
abbrev Xw:=Nat × List (List Int × Bool) × List (Nat × List Int)
def Xh:fQ Xw where
 sz:=3
 tys:=(t_api_Con :: conE.tys)++(ag :: genE.tys)
 R H cs x:=∃ c d,cs=[.int .i64 (x.1:Int),c,d]/\SlV conE t_api_Con H c x.2.1/\SlV genE ag H d x.2.2
 pos:=zO
 len:=by rintro H cs x ⟨v,w,rfl,h,h'⟩; exact ⟨rfl,by simp [h.one.2,h'.one.2]; rfl⟩
 mono:=by
  rintro H H' cs x hs ⟨v,w,rfl,h,h'⟩;exact ⟨v,w,rfl,h.monoT fun b cs t r a=>hs b cs t r (XF _ a),h'.monoT fun b cs t r a=>hs b cs t r (XV _ a)⟩
section
variable {tab:Nat->Option aA} {H:Heap} {s:AV}
def Xn {a a3 b c:AV} (h2:One a) (h3:One a3) (h5:One b) (h6:One c) (x1 x2 e y1 y2 f:AV) (k d:IntKind) (n n':Int):cB [x1,x2,e,y1,y2,f] [((0,3),.agg [.int k n,a,a3]),((3,3),.agg [.int d n',b,c])]=some [.int k n,a,a3,.int d n',b,c]:=by
 simp [cB,AV.cells,(bo k n).2,(bo d n').2,h2.2,h3.2,h5.2,h6.2]
set_option maxHeartbeats 4000000 in
def WH (C:Code tab) (W:Wf H) {n:Nat} {l:List Xw} (hs:SlV Xh am H s l) (V:l.length<1000) (h:∀ x∈l,x.1=n/\∃ e f,PolyOK n e f x.2.1 x.2.2) :
  Ans tab (.fn wG [s]) H fun x H'=>x=.int .i64 0/\Kp H H':=by
 refine cT C.q30 zU fun T hl i=>?_;refine zW (aD hl i hs.lenV) ?_;refine aq H [] (fun _ _ _=>True) (a:=0) (N:=l.length) rfl (by refine zW (aE hl i) ?_; rfl) (zV (aE hl i)) (xq _) zO (by simp only [dz,hl]; rfl) rfl (fun _ _ _ _ h=>h) zK trivial ?_ ?_
 ·intro j T1 k _ hj b E v c _;have w1:=c.wf;have K:=c.le;have R:ad T1 8=s:=(v.at_ 8 zU).trans (zV (aE hl i));obtain ⟨_,⟨o,p,rfl,hc,hg⟩,-,-,L⟩:=(hs.mono c.sub).at (eA hj);have L:bk k (some 3) (aB s (j*3))=some (.agg [.int .i64 (l[j].1:Int),o,p]):=L;have u:cS 3 s (.int .i64 (j:Int))=some (aB s (j*3)):=SlV.idx hs .i64 j hj;have M:=hc.one;have O:=hg.one;have t:=(Ldd.of w1 L).put;have r:=(Ldd.of w1 L).ld;obtain ⟨hn,e,f,ok⟩:=h _ (mQ hj);simp only [dz,hl] at b;refine zW (fo b R E u t r @jj) ?_;rw [hn];refine AnsH.eq (uJ C zF ⟨o,p,rfl,hc.mono (zG k),hg.mono (zG k)⟩ ok) fun H2 d=>?_;obtain ⟨k2,_,_⟩:=zT H zK d;refine zW b ?_;exact zK
 ·intro T1 k b v c _;have w1:=c.wf;have K:=c.le;have t0:ad T1 0=s:=(v.at_ 0 zU).trans (zV (aE hl i));have J:=hs.mono c.sub;simp only [dz,hl] at b;refine zW (aD b t0 J.lenV) ?_;refine aq H [] (fun _ _ _=>True) (a:=0) (N:=l.length) rfl (by refine zW b ?_; rfl) (zV b) (xq _) zO (by simp only [dz,b]; rfl) rfl (fun _ _ _ _ h=>h) zK trivial ?_ ?_
  ·intro j T2 H2 _ hj g F w d _;have q:=d.wf;have X:=d.le;have Q:ad T2 20=s:=(w.at_ 20 zU).trans (zV (aE b t0));have P:ad T2 0=s:=(w.at_ 0 zU).trans (zV (aE b t0));have y:=hs.mono d.sub;have h0:0<l.length:=zO;obtain ⟨_,⟨o,p,rfl,hc,hg⟩,-,-,L⟩:=y.at (eA hj);have L:bk H2 (some 3) (aB s (j*3))=some (.agg [.int .i64 (l[j].1:Int),o,p]):=L;obtain ⟨_,⟨Y,Z,rfl,S,U⟩,-,m,-⟩:=y.at (eA h0);have m:bk H2 none (aB s 0)=some (.int .i64 (l[0].1:Int)):=m 0 _ rfl;have u:cS 3 s (.int .i64 (j:Int))=some (aB s (j*3)):=SlV.idx hs .i64 j hj;have D:cS 3 s (.int .i64 0)=some (aB s 0):=SlV.idx hs .i64 0 h0;have B:CT 0 (aB s 0)=some (aB s 0):=hs.fa h0 0 0;have M:=hc.one;have O:=hg.one;have t:=(Ldd.of q L).put;have r:=(Ldd.of q L).ld;have A:=(Ldd.of q m).put;have z:=(Ldd.of q m).ld;have hn:=(h _ (mQ hj)).1;have G:=(h _ (mQ h0)).1;have I:((l[j].1:Nat):Int)=(l[0].1:Int):=by rw [hn,G]
   simp only [dz,b] at g;refine zW (fo g Q F u t r @jj) ?_;refine aF ?_;refine zD (fo g P D B A z I) ?_;exact zK
  ·intro T2 H2 g w d _;simp only [dz,b] at g;refine zW g ?_;exact zK
def WX {H:Heap} {b:Nat} {c f d g:AV} {x y:Xw} {r:Bool} (h:H.get b=some (.cells [.int .i64 (x.1:Int),c,f,.int .i64 (y.1:Int),d,g] am r)) (h1:SlV conE t_api_Con H c x.2.1) (h2:SlV genE ag H f x.2.2) (h3:SlV conE t_api_Con H d y.2.1) (h4:SlV genE ag H g y.2.2):SlV Xh am H (.own b 0 2 2 3 true) [x,y] :=
 ⟨_,Rd.own h rfl (o0 _),fun _ _ _ _ _ _ e=>by cases e; exact ⟨_,_,h⟩,rfl,fun i a hi=>by
  match i with
  | 0=>simp at hi; subst hi; exact ⟨c,f,rfl,h1,h2⟩
  | 1=>simp at hi; subst hi; exact ⟨d,g,rfl,h3,h4⟩
  | i+2=>simp at hi⟩
def Xj {n e f e' a:Nat} {K K':List (List Int × Bool)} {G G':List (Nat × List Int)} (b:PolyOK n e f K G) (c:PolyOK n e' a K' G'):∀ x∈[((n,K,G):Xw),(n,K',G')],x.1=n/\∃ e f,PolyOK n e f x.2.1 x.2.2:=fun x hx=>by
 rcases FC.1 hx with rfl | hx
 ·exact ⟨rfl,_,_,b⟩
 ·rcases FC.1 hx with rfl | hx
  ·exact ⟨rfl,_,_,c⟩
  ·cases hx
set_option maxHeartbeats 4000000 in
def WT (C:Code tab) (B:Wf H) {v w:AV} {n e f e' i:Nat} {K K':List (List Int × Bool)} {G G':List (Nat × List Int)} (hp:PolyV H v n K G) (s:PolyV H w n K' G') (a:PolyOK n e f K G) (b:PolyOK n e' i K' G') :
  Ans tab (.fn Wg [v,w]) H fun x H'=>x=.tup [.bool (Lin.inP G K'),.int .i64 0]/\Kp H H':=by
 obtain ⟨u,z,rfl,hc,hg⟩:=hp;obtain ⟨y,A,rfl,g,j⟩:=s;have k:=hc.one;have o:=hg.one;have m:=g.one;have p:=j.one;refine bA C.q8 zU fun T hl c d=>?_;refine zW (dj hl c d (jS k o) (jS m p) (Xn k o m p)) ?_;refine AnsH.eq (WH C (n:=n) (l:=[(n,K,G),(n,K',G')]) zF (WX (al _ _ _) (hc.mono (zG H)) (hg.mono (zG H)) (g.mono (zG H)) (j.mono (zG H))) (by simp) (Xj a b)) fun H2 h=>?_;obtain ⟨k2,_,E⟩:=zT H zK h;have d0:H2.get H.next=some (.cells [.int .i64 (n:Int),u,z] am true):=h.get (cC)
 have d1:H2.get (H.next+1)=some (.cells [.int .i64 (n:Int),y,A] am true):=h.get (cC);have e3:=a.e3;have f3:=b.f3;have hn:=a.dim;have l1:=a.many;have l2:=b.lenK;refine zW (bB hl c d d0 d1) ?_;refine AnsH.eq (IU C (n:=n) (e:=e) (f:=i) zF ((hg.mono k2.sub).mono (zG H2)) ((g.mono k2.sub).mono (zG H2)) a.rowG b.rowK zO zO zO zO) fun q r=>?_;have t:Kp H q:=k2.trans (Kp.trans zK r);have D:=t.le;refine zW (aD hl c d) ?_;exact zK
def Xu {a b:Nat} {x:List Int} (h:Lin.Bd (2^a) x) (c:a<=b):Lin.Bd (2^b) x:=fun i=>B5 (h i) (JR zU c)
end
end Go.Proofs.YteaefaohjlmjdaaGreat.Ev
namespace Go.Proofs.YteaefaohjlmjdaaGreat.Lin
def g13:gensP 1 [([-1,1],false),([3,-1],false)]=[(3,[1,1]),(3,[1,3])]:=by
 have r:(gensU 2 [] [[1,0],[-1,1],[3,-1]]).rays.map (restF (gensL 2 [] [[1,0],[-1,1],[3,-1]]))=[[1,1],[1,3]]:=by decide +kernel
 have e:gensL 2 [] [[1,0],[-1,1],[3,-1]]=[]:=by decide +kernel
 have g:gensR 2 [] [[1,0],[-1,1],[3,-1]]=[[1,1],[1,3]]:=by
  unfold gensR;rw [r]; simp [List.mergeSort,List.MergeSort.Internal.splitInTwo,cmpV]
 have h1:eqsOf ([([-1,1],false),([3,-1],false)]:List (V × Bool))=[]:=rfl;have h2:ineqsOf 1 ([([-1,1],false),([3,-1],false)]:List (V × Bool))=[[1,0],[-1,1],[3,-1]]:=rfl;unfold gensP;rw [h1,h2,e,g];rfl
def k13:consP 1 [(3,[1,1]),(3,[1,3])]=[([-1,1],false),([3,-1],false)]:=by
 have r:(gensU 2 [] [[1,1],[1,3]]).rays.map (restF (gensL 2 [] [[1,1],[1,3]]))=[[3,-1],[-1,1]]:=by decide +kernel
 have e:gensL 2 [] [[1,1],[1,3]]=[]:=by decide +kernel
 have g:gensR 2 [] [[1,1],[1,3]]=[[-1,1],[3,-1]]:=by
  unfold gensR;rw [r]; simp [List.mergeSort,List.MergeSort.Internal.splitInTwo,cmpV]
 have h1:linesOf ([(3,[1,1]),(3,[1,3])]:List (Nat × V))=[]:=rfl;have h2:raysOf ([(3,[1,1]),(3,[1,3])]:List (Nat × V))=[[1,1],[1,3]]:=rfl;unfold consP;rw [h1,h2,e,g];decide
def b0:gensP 1 [([-1,1],false),([3,-1],false),([-4,1],false),([9,-1],false)]=[]:=by
 have r:(gensU 2 [] [[1,0],[-1,1],[3,-1],[-4,1],[9,-1]]).rays.map (restF (gensL 2 [] [[1,0],[-1,1],[3,-1],[-4,1],[9,-1]]))=[]:=by decide +kernel
 have e:gensL 2 [] [[1,0],[-1,1],[3,-1],[-4,1],[9,-1]]=[]:=by decide +kernel
 have g:gensR 2 [] [[1,0],[-1,1],[3,-1],[-4,1],[9,-1]]=[]:=by
  unfold gensR;rw [r]; simp
 have h1:eqsOf ([([-1,1],false),([3,-1],false),([-4,1],false),([9,-1],false)]:List (V × Bool))=[]:=rfl;have h2:ineqsOf 1 ([([-1,1],false),([3,-1],false),([-4,1],false),([9,-1],false)]:List (V × Bool))=[[1,0],[-1,1],[3,-1],[-4,1],[9,-1]]:=rfl;unfold gensP;rw [h1,h2,e,g];rfl
def k23:consP 1 [(3,[1,2]),(3,[1,3])]=[([-2,1],false),([3,-1],false)]:=by
 have r:(gensU 2 [] [[1,2],[1,3]]).rays.map (restF (gensL 2 [] [[1,2],[1,3]]))=[[3,-1],[-2,1]]:=by decide +kernel
 have e:gensL 2 [] [[1,2],[1,3]]=[]:=by decide +kernel
 have g:gensR 2 [] [[1,2],[1,3]]=[[-2,1],[3,-1]]:=by
  unfold gensR;rw [r]; simp [List.mergeSort,List.MergeSort.Internal.splitInTwo,cmpV]
 have h1:linesOf ([(3,[1,2]),(3,[1,3])]:List (Nat × V))=[]:=rfl;have h2:raysOf ([(3,[1,2]),(3,[1,3])]:List (Nat × V))=[[1,2],[1,3]]:=rfl;unfold consP;rw [h1,h2,e,g];decide
def bd_small4 {x:V} (h:x.all (fun a=>decide (a.natAbs<=16))=true):Bd (2^4) x:=fun i=>by
 by_cases hi:i<x.length
 ·have:at_ x i=x[i]:=by simp [at_,hi]
  rw [this]
  simpa using GR.1 h _ (mQ hi)
 ·have:at_ x i=0:=by simp [at_,hi]
  rw [this]; simp
end Go.Proofs.YteaefaohjlmjdaaGreat.Lin
namespace Go.Proofs.YteaefaohjlmjdaaGreat.Ev
open Go Nn
section
variable {tab:Nat->Option aA} {H:Heap} {s:AV}
def yU (C:Code tab) (l:Wf H) {v:AV} {n:Nat} {c:List (List Int × Bool)} {g:List (Nat × List Int)} (hp:PolyV H v n c g) :
  Ans tab (.fn fD [v]) H fun x H'=>x=.bool (mZ c g || decide (4<n))/\Kp H H':=by
 obtain ⟨f,h,rfl,hc,hg⟩:=hp;have i:=hc.one;have j:=hg.one;refine cT C.q17 zU fun T hl a=>?_;refine zW (aD hl a (jS i j)) ?_;refine AnsH.eq (Gn C (n:=n) (c:=c) (g:=g) zF ⟨f,h,rfl,hc.mono (zG H),hg.mono (zG H)⟩) fun H2 d=>?_;obtain ⟨k2,_,_⟩:=zT H zK d;have d0:=d.get (b:=H.next) (e:=.cells [.int .i64 (n:Int),f,h] am true) (cC);have e:decide ((4:Int)<(n:Int))=decide (4<n):=by rw [XQ]; simp; omega
 cases k:mZ c g with
 | true =>
  refine zW (aE hl a) ?_;exact ⟨by simp,zK⟩
 | false =>
  refine zW (aD hl a d0) ?_;exact ⟨by simp [e],zK⟩
def IK (C:Code tab) (B:Wf H) {v h:AV} {n n':Nat} {c a:List (List Int × Bool)} {g g':List (Nat × List Int)} (hp:PolyV H v n c g) (o:PolyV H h n' a g') (i:c.length<1099511627776) (j:∀ r∈c,r.1.length<1099511627776/\∀ z∈r.1,dD z) (k:g.length<1099511627776) (l:∀ r∈g,r.2.length<1099511627776/\∀ z∈r.2,dD z) :
  Ans tab (.fn gm [v,h]) H fun x H'=>x=.bool (decide (n=n'/\c=a/\g=g'))/\Kp H H':=by
 obtain ⟨u,y,rfl,hc,hg⟩:=hp;obtain ⟨w,A,rfl,e,f⟩:=o;have p:=hc.one;have s:=hg.one;have q:=e.one;have t:=f.one;refine bA C.q13 zU fun T hl b d=>?_;refine zW (bB hl b d (jS p s) (jS q t)) ?_;refine AnsH.eq (IL C (n:=n) (n':=n') zF ⟨u,y,rfl,hc.mono (zG H),hg.mono (zG H)⟩ ⟨w,A,rfl,e.mono (zG H),f.mono (zG H)⟩ i j k l) fun H2 m=>?_;obtain ⟨k2,_,_⟩:=zT H zK m;refine zW (aD hl b d) ?_;exact zK
def HV {α:Type} {E:fQ α} {ty ty2 bytes id b:Nat} {H:Heap} {w:AV} {cs:List AV} (hb:H.get b=some (.cells cs ty true)) (hy:SlV E ty2 H w []):dr H id E.sz bytes ty (.own b 0 0 0 E.sz true) w=some (.own b 0 0 0 E.sz true,H):=by
 obtain ⟨g,hr,-,hc⟩:=hy;obtain ⟨m',a,e⟩:=hr.length;obtain ⟨-,-,m2,c,d⟩:=hr;rw [a] at c; cases c;have f:m'=0:=YB E.pos (by rw [<- e,hc.1]; rfl);subst f;unfold dr;rw [a];simp only;rw [d];simp only [cU,hb]
 simp
def Bq.weak {α:Type} {E:fQ α} {ty:Nat} {H0 a H:Heap} {v:AV} {l:List α} (h:Bq E ty H0 H v l) (hn:a.next<=H0.next):Bq E ty a H v l:=by
 rcases h with h | ⟨b,ex,cells,h1,h2,h3,h4⟩
 ·exact .inl h
 ·exact .inr ⟨b,ex,cells,h1,h2,h3,B5 hn h4⟩
def WF (C:Code tab) (k:Wf H) {l:List (List Int × Bool)} (hs:SlV conE t_api_Con H s l) (n:l.length<1099511627776):Ans tab (.fn gn [s]) H fun v H'=>Kp H H'/\Bq conE t_api_Con H H' v l:=by
 refine cT C.q29 zU fun T hl a=>?_;rcases hs.nilcase with ⟨rfl,rfl⟩ | hne
 ·have e:bY .eql .sl .nilSl .nilSl=some (.bool true):=rfl;refine zW (aD hl a e) ?_;exact ⟨zK,Bq.nil⟩
 ·have g:cB ([]:List AV) []=some []:=rfl;refine zW (aO hl a hne g) ?_;have k1:Kp H ((H.up 7).put (H.next+3) (.cells [] t_api_Con true)):=zK;have q:=k1.le;have d:Own conE t_api_Con H ((H.up 7).put (H.next+3) (.cells [] t_api_Con true)) (H.next+3) true (.own (H.next+3) 0 0 0 2 true) ([]:List (List Int × Bool)):=⟨_,rfl,al _ _ _,Cells.nil _ _,zO⟩
  by_cases h0:0<l.length
  ·obtain ⟨m,H2,f,h2,h,o,p,j⟩:=SlV.app (l:=[]) (id:=H.next+5) (bytes:=32) d.sl k1 (hs.mono k1.sub) zO (by show _<H.next+7; omega) (by rw [au zO]; exact k.fresh (b:=H.next+5) zO) (by simp; omega) (by simp; omega);have c:dr ((H.up 7).put (H.next+3) (.cells [] t_api_Con true)) (H.next+5) 2 32 t_api_Con (.own (H.next+3) 0 0 0 2 true) s=some (m,H2):=f;refine zW (aD hl a c) ?_;exact ⟨h,.inr ⟨_,_,j h0⟩⟩
  ·have i:l=[]:=OK zO;subst i;have c:dr ((H.up 7).put (H.next+3) (.cells [] t_api_Con true)) (H.next+5) 2 32 t_api_Con (.own (H.next+3) 0 0 0 2 true) s=some (.own (H.next+3) 0 0 0 2 true,(H.up 7).put (H.next+3) (.cells [] t_api_Con true)):=HV (E:=conE) (al _ _ _) (hs.mono k1.sub);refine zW (aD hl a c) ?_;exact ⟨k1,.inr ⟨_,_,d⟩⟩
set_option maxHeartbeats 4000000 in
def WV (C:Code tab) (hw:Wf H) {v w:AV} {n e f m m2:Nat} {K:List (List Int × Bool)} {G:List (Nat × List Int)} {a:List Int} {b:Bool} (hp:PolyV H v n K G) (r:PolyOK n e f K G) (ha:RowV H w a) (X:a.length=n+1) (W:Lin.Bd (2^m) a) (Z:K.length+1<=60) (hm:f<=m) (ab:m<=300000) (V:∀ x∈Lin.gensP n (K++[(a,b)]),Lin.Bd (2^m2) x.2) (aa:m2<=300000) :
  Ans tab (.fn y8 [v,.agg [w,.bool b]]) H fun x H'=>py H' x n (Lin.gensP n (K++[(a,b)]))/\Kp H H':=by
 obtain ⟨R,S,rfl,hc,hg⟩:=hp;have oc:=hc.one;have og:=hg.one;have oa:=ha.one;refine bA C.q7 zU fun T hl g i=>?_;refine zW (bB hl g i (jS oc og) (HO oa)) ?_;refine AnsH.eq (uJ C (n:=n) (K:=K) (G:=G) zF ⟨R,S,rfl,hc.mono (zG H),hg.mono (zG H)⟩ r) fun H2 o=>?_;obtain ⟨k2,_,J⟩:=zT H zK o;have d0:H2.get H.next=some (.cells [.int .i64 (n:Int),R,S] am true):=o.get (cC)
 have d1:H2.get (H.next+1)=some (.cells [w,.bool b] t_api_Con true):=o.get (cC);have d2:H2.get (H.next+2)=some (.cells [.int .i64 0,.nilSl,.nilSl] am true):=o.get (cC);have ao:=J _ _ d2;refine zW (aO hl g i @aw) ?_;refine aF ?_;refine zD (dj hl g i d0 d1 d2) ?_;refine AnsH.use (WF C zF ((hc.mono k2.sub).mono (zG H2)) zO) ?_;rintro v3 d ⟨q,ad⟩;obtain ⟨k23,_,_⟩:=zT H2 zK q;have F:Kp H d:=k2.trans k23;have ah:=F.le;have w3:=F.wf;have t:=k23.get d0;have u:=k23.get d1;have y:=k23.get d2;have n3:H2.next+15<=d.next:=q.le
 have f6:d.get (H2.next+8)=none:=q.free (show H2.next+8<H2.next+15 by omega) (J.fresh (b:=H2.next+8) zO);have U:d.get (H2.next+9)=none:=q.free (show H2.next+9<H2.next+15 by omega) (J.fresh (b:=H2.next+9) zO);have q3:Bq conE t_api_Con H2 d v3 K:=ad.weak (by show H2.next<=H2.next+15; omega);obtain ⟨N,k,A,q4,D,n4,-,-⟩:=Bq.push (ty2:=t_api_Con) (bytes:=32) (id:=H2.next+9) (id2:=H2.next+8) (cs:=[w,.bool b]) (a:=(a,b)) q3 zU k23 ⟨w,rfl,ha.mono F.sub⟩ zO zO U zO zO f6 zO zO zO;have A:dr (d.put (H2.next+8) (.cells [w,.bool b] t_api_Con true)) (H2.next+9) 2 32 t_api_Con v3 (.own (H2.next+8) 0 1 1 2 true)=some (.own (H2.next+9) 0 N N 2 false,k):=A;have I:Kp H k:=k2.trans D;have aj:=I.le;have w4:=I.wf;have L:=D.get d0;have z:=D.get d2;refine zD (oK hl g i d0 d1 d2 t u y A) ?_;refine AnsH.use (qj C (n:=n) (m:=m) (m2:=m2) (l:=K++[(a,b)]) zF (q4.sl.mono (zG k)) r.dim (by rw [C5]; exact Z) (fun c hc=>(Eu.1 hc).elim (fun h=>⟨(r.rowK c h).1,Xu (r.rowK c h).2 hm⟩) fun h=>by rw [Ld] at h; subst h; exact ⟨X,W⟩) ab V aa) ?_;rintro v5 s ⟨B,Y⟩;obtain ⟨P,_,_⟩:=zT k zK Y;have Q:Kp H s:=I.trans P;have al:=Q.le;have w5:=Q.wf;have j:=P.get z;have ap:=w5 _ _ j;rcases B with ⟨rfl,B⟩ | ⟨p,rfl,⟨ae,af,rfl,M,O⟩,h1,h2⟩
 ·refine zD (Ih hl g i d0 d1 d2 t u y L z j @jj) ?_;exact ⟨.inl ⟨rfl,B⟩,zK⟩
 ·have aq:=M.one;have ar:=O.one;refine zD (Ih hl g i d0 d1 d2 t u y L z j @jj) ?_;refine ⟨.inr ⟨_,rfl,⟨ae,af,rfl,?_,?_⟩,h1,h2⟩,zK⟩
  ·have m3:NoTy (t_api_Con :: conE.tys) s (H.next+2):=NoTy.ty j zU;exact SlV.monoT (E:=conE) zS M
  ·have m3:NoTy (ag :: genE.tys) s (H.next+2):=NoTy.ty j zU;exact SlV.monoT (E:=genE) zS O
end
open Go
def TX {tab:Nat->Option aA} {rd:Bool} {c:ACode} {T:Tm} {H:Heap} {K:Ex->Tm->Heap->Prop} (p:Tm->Prop) (hp:p T) (h:∀ T',p T'->WC tab rd c T' H K):WC tab rd c T H K:=h T hp
def dC {tab:Nat->Option aA} {rd:Bool} {c:ACode} {T:Tm} {H:Heap} {K:Ex->Tm->Heap->Prop} (p:Tm->Prop) (hp:p T) (h:∀ T',p T'->WB tab rd c T' H K):WB tab rd c T H K:=h T hp
structure Kx (b:Nat) (H H':Heap):Prop where
 wf0:Wf H
 wf:Wf H'
 le:H.next<=H'.next
 same:∀ c,c<H.next->c≠b->H'.get c=H.get c
section
variable {b:Nat} {H0 H H' H'':Heap}
def Kx.of (h:Kp H H'):Kx b H H':=⟨h.wf0,h.wf,h.le,fun c hc _=>h.same c hc⟩
def Kx.trans (h:Kx b H H') (h':Kx b H' H''):Kx b H H'':=⟨h.wf0,h'.wf,B5 h.le h'.le,fun c hc hb=>(h'.same c (Eb hc h.le) hb).trans (h.same c hc hb)⟩
def Kx.put (h:Kx b H H') (hb:b<H'.next) (e:Ent):Kx b H (H'.put b e):=⟨h.wf0,h.wf.put hb e,h.le,fun c hc hne=>by rw [au hne]; exact h.same c hc hne⟩
def Kx.up (h:Kx b H H') (k:Nat):Kx b H (H'.up k):=⟨h.wf0,h.wf.bump k,B5 h.le (Ob _ _),h.same⟩
def Kx.kp (h:Kx b H H') (a:Kp H0 H) (hb:H0.next<=b):Kp H0 H':=⟨a.wf0,h.wf,B5 a.le h.le,fun c hc=>(h.same c (Eb hc a.le) zO).trans (a.same c hc)⟩
def Kx.get (h:Kx b H H') {c:Nat} {e:Ent} (hc:H.get c=some e) (hb:c≠b):H'.get c=some e:=(h.same c (h.wf0 _ _ hc) hb).trans hc
def Kx.subT (h:Kx b H H') {tys:List Nat} {cs:List AV} {ty:Nat} {r:Bool} (hb:H.get b=some (.cells cs ty r)) (a:ty ∉ tys):SubT tys H H':=fun c ds t d hm hc=>h.get hc fun e=>by
 subst e; rw [hb] at hc; cases hc; exact a hm
end
theorem Up (a b c d:AV) (l:List AV):bf (a :: b :: c :: d :: l) 3 none=some d:=rfl
theorem Vt (a b c d e f:AV) (l:List AV):bf (a :: b :: c :: d :: e :: f :: l) 5 none=some f:=rfl
def Xk (z:Int):(gJ z<0) ↔ z<0:=by unfold gJ; split <;> (try split) <;> omega
def Ol (z:Int):(0<gJ z) ↔ 0<z:=by unfold gJ; split <;> (try split) <;> omega
def qe {H:Heap} {z:Bool × List Nat} {w:AV} (hb:gG z=false) (hl:Lim z.2) (h:Lb H w z.2):IntV H (.agg [.bool z.1,w]) (aR z):=by
 have e:=sS hb hl;have a:decide (aR z<0)=z.1:=congrArg Prod.fst e;have b:ah (aR z).natAbs=z.2:=congrArg Prod.snd e;refine ⟨w,by rw [a],?_⟩;show Lb H w (ah (aR z).natAbs);rw [b]; exact h
def uW (n:Bool) (z:Bool × List Nat):Bool:=if n then !z.1 && decide (z.2.length=0) else !gG z
def eM (n:Bool) (z:Bool × List Nat) (n':Bool) (z':Bool × List Nat):Bool:=uW n z && uW n' z' && (n || n' || decide (aR z<=aR z'))
def PP {a b c:AV} (ha:One a) (hb:One b) (hc:One c):fW (.agg [a,b,c])=some [a,b,c]:=Sk ha hb hc
def CM {a b c d e f:AV} (ha:One a) (hb:One b) (hc:One c) (hd:One d) (he:One e) (g:One f):fW (.agg [a,b,c,d,e,f])=some [a,b,c,d,e,f]:=by
 simp [fW,AV.cells,ha.2,hb.2,hc.2,hd.2,he.2,g.2]
def qG (a b c:AV) (l:List AV):bf (a :: b :: c :: l) 0 (some 3)=some (.agg [a,b,c]):=by simp [bf]
theorem xK (a b c d e f:AV):bf [a,b,c,d,e,f] 3 (some 3)=some (.agg [d,e,f]):=rfl
theorem jq (a b c d e f:AV):bf [a,b,c,d,e,f] 0 (some 6)=some (.agg [a,b,c,d,e,f]):=rfl
def Aj (a b c:AV) (l:List AV):bf (a :: b :: c :: l) 1 (some 2)=some (.agg [b,c]):=by simp [bf]
theorem Uo (a b c d e f:AV):bf [a,b,c,d,e,f] 4 (some 2)=some (.agg [e,f]):=rfl
section
variable {tab:Nat->Option aA} {H:Heap}
def KH (C:Code tab) (g:Wf H) {n:Bool} {z:Bool × List Nat} {w:AV} (hz:Lb H w z.2) (c:z.2.length<4611686018427387904) :
  Ans tab (.fn ya [.agg [.bool n,.bool z.1,w]]) H fun v H'=>v=.bool (uW n z)/\Kp H H':=by
 obtain ⟨b,l⟩:=z;have f:=hz.one;have bx:=PP (ai n) (ai b) f;refine cT C.q47 zU fun T hl a=>?_;cases n with
 | true =>
  have q:((l.length:Int)=0) ↔ l.length=0:=zO;cases b with
  | true =>
   refine zW (aO hl a bx @Aj) ?_;exact ⟨by simp [uW],zK⟩
  | false =>
   refine zW (bB hl a bx @Aj hz.lenV) ?_;exact ⟨by simp [uW,q],zK⟩
 | false =>
  refine zW (aO hl a bx @Aj) ?_;refine AnsH.eq (qU C zF (hz.mono (zG H)) c) fun H2 d=>?_;obtain ⟨k2,_,_⟩:=zT H zK d;cases hb:gG (b,l) with
  | true =>
   have e:(if true=true then (8:Int) else 0)=8:=rfl;refine zW (aD hl a e) ?_;exact ⟨by simp [uW,hb],zK⟩
  | false =>
   have e:(if false=true then (8:Int) else 0)=0:=rfl;refine zW (aD hl a e) ?_;exact ⟨by simp [uW,hb],zK⟩
set_option maxHeartbeats 1000000 in
def tj (C:Code tab) (y:Wf H) {n n':Bool} {z z':Bool × List Nat} {w w':AV} (hz:Lb H w z.2) (e:Lb H w' z'.2) (i:Lim z.2) (j:Lim z'.2) (l:z.2.length<=1048576) (m:z'.2.length<=1048576) :
  Ans tab (.fn rH [.agg [.bool n,.bool z.1,w,.bool n',.bool z'.1,w']]) H fun v H'=>v=.int .i64 (if eM n z n' z' then 0 else 8)/\Kp H H':=by
 have u:=hz.one;have x:=e.one;have bx:=CM (ai n) (ai z.1) u (ai n') (ai z'.1) x;refine cT C.q21 zU fun T hl a=>?_;refine zW (aO hl a bx @qG) ?_;refine AnsH.eq (KH C zF (hz.mono (zG H)) zO) fun H2 g=>?_;obtain ⟨k2,_,B⟩:=zT H zK g;have d2:H2.get H.next=some (.cells [.bool n,.bool z.1,w,.bool n',.bool z'.1,w'] aV true):=g.get (cC)
 cases hm:uW n z with
 | false =>
  refine zW (aO hl a d2 @xK) ?_;exact ⟨by simp [eM,hm],zK⟩
 | true =>
 refine zW (aO hl a d2 @xK) ?_;refine AnsH.eq (KH C zF ((e.mono k2.sub).mono (zG H2)) zO) fun d h=>?_;obtain ⟨f,_,w3⟩:=zT H zK h;have d3:d.get H.next=some (.cells [.bool n,.bool z.1,w,.bool n',.bool z'.1,w'] aV true):=h.get d2
 cases b:uW n' z' with
 | false =>
  refine zW (aE hl a) ?_;exact ⟨by simp [eM,hm,b],zK⟩
 | true =>
 cases n with
 | true =>
  refine zW (aO hl a d3 @Up) ?_;exact ⟨by simp [eM,hm,b],zK⟩
 | false =>
 cases n' with
 | true =>
  refine zW (aO hl a d3 @Up) ?_;exact ⟨by simp [eM,hm,b],zK⟩
 | false =>
 have o:gG z=false:=by simpa [uW] using hm
 have p:gG z'=false:=by simpa [uW] using b
 have r:=qe o i hz;have s:=qe p j e;have s1:dD (aR z):=(qX i l).sm zO;have s2:dD (aR z'):=(qX j m).sm zO;refine zW (dj hl a d3 @Up @Aj @Uo) ?_;refine AnsH.eq (xE C zF ((r.mono f.sub).mono (zG d)) ((s.mono f.sub).mono (zG d)) s1 s2) fun k q=>?_;have t:Kp H k:=f.trans (Kp.trans zK q);have A:=t.le;by_cases c:0<gJ (aR z-aR z')
 ·refine zW (aD hl a c) ?_;refine ⟨?_,zK⟩;rw [Ol] at c;rw [if_neg];simp [eM]; omega
 ·refine zW (aD hl a c) ?_;refine ⟨?_,zK⟩;rw [Ol] at c;rw [if_pos];simp [eM,hm,b]; omega
def PlcV (H:Heap) (v:AV) (be x:Int):Prop:=∃ p,v=.agg [.int .i64 be,.bool (decide (x<0)),p]/\bO H p x.natAbs
def ItvV (H:Heap) (v:AV) (n:Bool) (x:Int) (n':Bool) (y:Int):Prop:=∃ p q,v=.agg [.bool n,.bool (decide (x<0)),p,.bool n',.bool (decide (y<0)),q]/\bO H p x.natAbs/\bO H q y.natAbs
def ItvV.mono {H H':Heap} (hs:Sub H H') {v:AV} {n n':Bool} {x y:Int} (h:ItvV H v n x n' y):ItvV H' v n x n' y:=by
 obtain ⟨p,q,rfl,h1,h2⟩:=h;exact ⟨p,q,rfl,h1.mono hs,h2.mono hs⟩
def PlcV.mono {H H':Heap} (hs:Sub H H') {v:AV} {be x:Int} (h:PlcV H v be x):PlcV H' v be x:=by
 obtain ⟨p,rfl,h1⟩:=h;exact ⟨p,rfl,h1.mono hs⟩
def Au (H:Heap):bO H .nilSl 0:=by
 show Lb H .nilSl (ah 0);rw [OK (l:=ah 0) (by have:=bN 0; omega)];exact SlV.nil _ _ _
def Rv (C:Code tab) (e:Wf H) {v:AV} {n n':Bool} {x y:Int} (h:ItvV H v n x n' y) :
  Ans tab (.fn yc [v]) H fun r H'=>PlcV H' r (if n then -1 else 0) (if n then 0 else x)/\Kp H H':=by
 obtain ⟨p,q,rfl,hp,c⟩:=h;have op:=hp.one;have d:=c.one;have bx:=CM (ai n) (ai (decide (x<0))) op (ai n') (ai (decide (y<0))) d;have bb:cE [.int .i64 0,.bool false,.nilSl] [((0,1),.int .i64 (-1))]=some (.agg [.int .i64 (-1),.bool false,.nilSl]):=rfl;have b:cE [.int .i64 0,.bool false,.nilSl] [((1,2),.agg [.bool (decide (x<0)),p])]=some (.agg [.int .i64 0,.bool (decide (x<0)),p]):=by simp [cE,cB,AV.cells,op.2,(ai (decide (x<0))).2]
 refine cT C.q60 zU fun T hl a=>?_;cases n with
 | true =>
  refine zW (bB hl a bx bb @jj) ?_;exact ⟨⟨.nilSl,rfl,Au _⟩,zK⟩
 | false =>
  refine zW (dj hl a bx @Aj b @jj) ?_;refine ⟨⟨p,rfl,hp.mono (zG H)⟩,zK⟩
def Pg (C:Code tab) (e:Wf H) {v:AV} {n n':Bool} {x y:Int} (h:ItvV H v n x n' y) :
  Ans tab (.fn uR [v]) H fun r H'=>PlcV H' r (if n' then 1 else 0) (if n' then 0 else y)/\Kp H H':=by
 obtain ⟨p,q,rfl,hp,b⟩:=h;have op:=hp.one;have c:=b.one;have bx:=CM (ai n) (ai (decide (x<0))) op (ai n') (ai (decide (y<0))) c;have bb:cE [.int .i64 0,.bool false,.nilSl] [((0,1),.int .i64 1)]=some (.agg [.int .i64 1,.bool false,.nilSl]):=rfl;have d:cE [.int .i64 0,.bool false,.nilSl] [((1,2),.agg [.bool (decide (y<0)),q])]=some (.agg [.int .i64 0,.bool (decide (y<0)),q]):=by simp [cE,cB,AV.cells,c.2,(ai (decide (y<0))).2]
 refine cT C.q61 zU fun T hl a=>?_;cases n' with
 | true =>
  refine zW (dj hl a bx @Up bb @jj) ?_;exact ⟨⟨.nilSl,rfl,Au _⟩,zK⟩
 | false =>
  refine zW (fo hl a bx @Up @Uo d @jj) ?_;refine ⟨⟨q,rfl,b.mono (zG H)⟩,zK⟩
def yZ (C:Code tab) (n:Wf H) {v g:AV} {be be' x x':Int} (h:PlcV H v be x) (h':PlcV H g be' x') (hx:dD x) (k:dD x') (hb : -1<=be/\be<=1) (m : -1<=be'/\be'<=1) :
  Ans tab (.fn oC [v,g]) H fun r H'=>r=.int .i64 (if be=be' then gJ (x-x') else be-be')/\Kp H H':=by
 obtain ⟨p,rfl,hp⟩:=h;obtain ⟨q,rfl,f⟩:=h';have op:=hp.one;have l:=f.one;have c:=PP (bo .i64 be) (ai (decide (x<0))) op;have d:=PP (bo .i64 be') (ai (decide (x'<0))) l;refine bA C.q97 zU fun T hl a b=>?_;by_cases e:be=be'
 ·rw [if_pos e];subst e;refine zW (dj hl a b c d @Aj) ?_;refine AnsH.eq (xE C (x:=x) (y:=x') zF ⟨p,rfl,hp.mono (zG H)⟩ ⟨q,rfl,f.mono (zG H)⟩ hx k) fun H2 j=>?_;obtain ⟨k2,_,_⟩:=zT H zK j;refine zW (aD hl a b) ?_;exact zK
 ·rw [if_neg e];have i:IntKind.i64.wrap (be-be')=be-be':=by rw [wrap_i64] <;> omega
  refine zW (fo hl a b c d e i) ?_;exact zK
end
end Go.Proofs.YteaefaohjlmjdaaGreat.Ev
namespace Go.Proofs.YteaefaohjlmjdaaGreat.Lin
def mvR (x:Nat) (a:V) (z:Int) (r:V):V:=r.set (x+1) (dot a r+hd1 r*z)
def mvG (x:Nat) (a:V) (z:Int) (g:Nat × V):Nat × V:=(g.1,mvR x a z g.2)
def Xv (x:Nat) (a:V) (c:V × Bool):V × Bool:=(mix 1 (c.1.set (x+1) 0) (c.1.getD (x+1) 0) a,c.2)
def mc:∀ (c r:V) (i:Nat) (z:Int),c.length=r.length->i<c.length->dot c (r.set i z)=dot (c.set i 0) r+c.getD i 0*z
 | [],_,i,z,_,h=>by simp at h
 | c :: cs,[],i,z,h,_=>by simp at h
 | c :: cs,r :: a,0,z,h,_=>by simp [dot]; omega
 | c :: cs,r :: a,i+1,z,h,hi=>by
  have:=mc cs a i z (by simpa using h) (by simpa using hi)
  simp only [List.set_cons_succ,dot,Yh,this];omega
theorem Pl (r:V) (x:Nat) (z:Int):hd1 (r.set (x+1) z)=hd1 r:=by cases r <;> rfl
def Xe (x:Nat) (a:V) (z:Int) (r:V):(mvR x a z r).length=r.length:=by simp [mvR]
def W5 (x:Nat) (a:V) (z:Int) (r:V):hd1 (mvR x a z r)=hd1 r:=Pl _ _ _
section
variable {n x:Nat} {a:V}
def PT {c r:V} {b:Bool} (hc:c.length=n+1) (hr:r.length=n+1) (ha:a.length=n+1) (hx:x<n):dot (Xv x a (c,b)).1 r=dot c (mvR x a 0 r):=by
 unfold Xv mvR;rw [mc c r _ _ zO zO];simp only;rw [dot_comm,aU _ _ _ (by rw [dz,hc,ha]),dot_comm r,dot_comm r a,Int.one_mul,Z8,Int.add_zero]
def Xp {c:V × Bool} (hc:c.1.length=n+1) (ha:a.length=n+1):(Xv x a c).1.length=n+1:=mix_length (by rw [dz,hc]) ha
def xM {g:List (Nat × V)} (hg:ValidG n g) (h3:g.any (fun y=>y.1 == 3)=true) {y:Nat × V} (hy:y∈g) {c:V × Bool} (hc:c∈consP n g):keepsP c y=true :=
 qc (xH hc) (oQ hg h3 hy).1 (oQ hg h3 hy).2
end
end Go.Proofs.YteaefaohjlmjdaaGreat.Lin
namespace Go.Proofs.YteaefaohjlmjdaaGreat.Ev
open Go Nn
def de (n:Nat) (x:Int):Int:=if x<0\/(n:Int)<=x then 2 else 0
def gC (n:Nat) (l:List (Bool × List Nat)):Int:=if tW l then (if l.length≠n+1 then 70 else 0) else 8
section
variable {tab:Nat->Option aA} {H:Heap} {s:AV}
def Ek (C:Code tab) (i:Wf H) {l:List Int} (hs:RowV H s l) (h0:0<l.length) (k:l.length<1099511627776):Ans tab (.fn cZ [s]) H fun v H'=>Kp H H'/\∃ b,Own intE aa H H' b false v l:=by
 refine cT C.q51 zU fun T hl a=>?_;rcases hs.nilcase with ⟨rfl,rfl⟩ | hne
 ·simp at h0
 ·have e:cB ([]:List AV) []=some []:=rfl;refine zW (aO hl a hne e) ?_;have k1:Kp H ((H.up 7).put (H.next+3) (.cells [] aa true)):=zK;have o:=k1.le;have f:Own intE aa H ((H.up 7).put (H.next+3) (.cells [] aa true)) (H.next+3) true (.own (H.next+3) 0 0 0 2 true) ([]:List Int):=⟨_,rfl,al _ _ _,Cells.nil _ _,zO⟩
  obtain ⟨j,H2,c,h2,g,m,n,h⟩:=SlV.app (l:=[]) (id:=H.next+5) (bytes:=32) f.sl k1 (hs.mono k1.sub) zO (by show _<H.next+7; omega) (by rw [au zO]; exact i.fresh (b:=H.next+5) zO) (by simp; omega) (by simp; omega);have d:dr ((H.up 7).put (H.next+3) (.cells [] aa true)) (H.next+5) 2 32 aa (.own (H.next+3) 0 0 0 2 true) s=some (j,H2):=c;refine zW (aD hl a d) ?_;exact ⟨g,_,h h0⟩
def gf (C:Code tab) (l:Wf H) {v:AV} {n e f:Nat} {K:List (List Int × Bool)} {G:List (Nat × List Int)} {x:Int} (hp:PolyV H v n K G) (i:PolyOK n e f K G) :
  Ans tab (.fn lB [v,.int .i64 x]) H fun r H'=>r=.int .i64 (de n x)/\Kp H H':=by
 obtain ⟨g,h,rfl,c,hg⟩:=hp;have j:=c.one;have k:=hg.one;refine bA C.q19 zU fun T hl b a=>?_;refine zW (aO hl b a (jS j k)) ?_;refine AnsH.eq (uJ C zF ⟨g,h,rfl,c.mono (zG H),hg.mono (zG H)⟩ i) fun H2 d=>?_;obtain ⟨k2,_,_⟩:=zT H zK d;have d0:H2.get H.next=some (.cells [.int .i64 (n:Int),g,h] am true):=d.get (cC)
 unfold de;by_cases h1:x<0
 ·rw [if_pos (.inl h1)];refine zW (dj hl b a a d0 h1) ?_;exact zK
 ·by_cases h2:(n:Int)<=x
  ·rw [if_pos (.inr h2)];refine zW (fo hl b a a d0 h1 h2) ?_;exact zK
  ·rw [if_neg zO];refine zW (fo hl b a a d0 h1 h2) ?_;exact zK
def nH (C:Code tab) (p:Wf H) {v w:AV} {n:Nat} {K:List (List Int × Bool)} {G:List (Nat × List Int)} {l:List (Bool × List Nat)} (hp:PolyV H v n K G) (hn:n<=60) (hs:SlV rawE aa H w l) (h:nr l) :
  Ans tab (.fn oD [v,w]) H fun r H'=>r=.int .i64 (gC n l)/\Kp H H':=by
 obtain ⟨k,m,rfl,g,hg⟩:=hp;have i:=g.one;have j:=hg.one;refine bA C.q22 zU fun T hl b a=>?_;refine zW (aO hl b a (jS i j)) ?_;refine AnsH.eq (mj C zF (hs.mono (zG H)) h) fun H2 d=>?_;obtain ⟨k2,_,_⟩:=zT H zK d;have d0:H2.get H.next=some (.cells [.int .i64 (n:Int),k,m] am true):=d.get (cC)
 have c:IntKind.i64.wrap ((n:Int)+1)=((n+1:Nat):Int):=by rw [wrap_i64] <;> omega
 unfold gC;cases o:tW l with
 | false =>
  have e:(if false=true then (0:Int) else 8)=8:=rfl;simp only [XC,if_false];refine zW (aD hl b a) ?_;exact zK
 | true =>
  simp only [if_true];by_cases f:l.length≠n+1
  ·have q:¬ ((l.length:Int)=((n+1:Nat):Int)):=zO;rw [if_pos f];refine zW (fX hl b a a d0 hs.lenV c q) ?_;exact zK
  ·have q:((l.length:Int)=((n+1:Nat):Int)):=zO;rw [if_neg f];refine zW (fX hl b a a d0 hs.lenV c q) ?_;exact zK
def unitX (n x:Nat) (k:Int):List Int:=(List.replicate (n+1) 0).set (x+1) k
def qf (C:Code tab) (M:Wf H) {n x:Nat} {p k:Int} (hn:n<=60) (hx:x<n) (D : -9223372036854775808<=k) (d:k<9223372036854775808) :
  Ans tab (.fn il [.int .i64 (n:Int),.int .i64 (x:Int),.int .u8 p,.int .i64 k]) H fun v H'=>(∃ w,v=.agg [.int .u8 p,w]/\RowV H' w (unitX n x k))/\Kp H H':=by
 obtain ⟨cells,m⟩:∃ cells,cells=(List.replicate (n+1) [AV.bool false,AV.nilSl]).flatten:=⟨_,rfl⟩
 have G:∀ H':Heap,Ja H' (H.next+3) aa 2 32 [.bool false,.nilSl] (.int .i64 ((n+1:Nat):Int)) (.int .i64 ((n+1:Nat):Int))=some (.own (H.next+3) 0 (n+1) (n+1) 2 true,H'.put (H.next+3) (.cells cells aa true)):=fun H'=>by rw [m]; exact iS _ _ _ _ _ _ _ _ _ zO zO rfl
 have y:IntKind.i64.wrap ((n:Int)+1)=((n+1:Nat):Int):=by rw [wrap_i64] <;> omega
 have ex:IntKind.i64.wrap ((x:Int)+1)=((x+1:Nat):Int):=by rw [wrap_i64] <;> omega
 refine Jw C.q26 zU fun T hl o q h r=>?_;refine zW (fX hl o q h r y ex G) ?_;refine AnsH.use (jk C (n:=k) zF D d) ?_;rintro v H2 ⟨⟨w,rfl,t⟩,d⟩;obtain ⟨k2,_,K⟩:=zT H zK d;have J:=t.one;have l:=d.get (b:=H.next+3) (e:=.cells cells aa true) (cC);have d2:H2.get H.next=some (.cells [.int .u8 0,.nilSl] ag true):=d.get (cC)
 have N:=K _ _ l;have L:cells.length=(n+1)*2:=by rw [m]; simp
 have u:CS (some (.cells cells aa true)) 2 ((x+1)*2) (.agg [.bool (decide (k<0)),w])=some (.cells (cells.take ((x+1)*2)++[.bool (decide (k<0)),w]++cells.drop ((x+1)*2+2)) aa true):=fR (zg (ai _) J) zO;have B:cS 2 (.own (H.next+3) 0 (n+1) (n+1) 2 true) (.int .i64 ((x+1:Nat):Int))=some (.ptr (H.next+3) ((x+1)*2)):=by
  have:=jB (b:=H.next+3) (off:=0) (n:=n+1) (c:=n+1) (sz:=2) (x:=true) (k:=.i64) (j:=x+1) zO
  simpa using this
 obtain ⟨f,s⟩:∃ c,c=cells.take ((x+1)*2)++[.bool (decide (k<0)),w]++cells.drop ((x+1)*2+2):=⟨_,rfl⟩
 rw [<- s] at u;have hz:intE.R H2 [.bool false,.nilSl] 0:=⟨.nilSl,by simp,eO H2⟩
 have hcl:Cells intE H2 cells (List.replicate (n+1) 0):=by rw [m]; exact mm hz _
 have z:Cells intE H2 f (unitX n x k):=by rw [s]; exact hcl.set (i:=x+1) (by simp; omega) ⟨w,rfl,t⟩
 refine zW (oK hl o q h r B l u d2 h) ?_;have m3:NoTy [ae] H2 (H.next+3):=NoTy.ty l zU;have O:NoTy [ae] H2 H.next:=NoTy.ty d2 zU
 obtain ⟨a,g⟩:∃ a,a=((H2.up 4).put (H.next+3) (.cells f aa true)).put H.next (.cells [.int .u8 p,.own (H.next+3) 0 (n+1) (n+1) 2 true] ag true):=⟨_,rfl⟩
 have A:Cells intE a f (unitX n x k):=by rw [g]; exact Cells.mono (E:=intE) zS z
 have I:Kp H a:=by rw [g]; exact zK
 have F:(unitX n x k).length=n+1:=by unfold unitX; simp
 have:Own intE aa H a (H.next+3) true (.own (H.next+3) 0 (n+1) (n+1) 2 true) (unitX n x k):=⟨f,by rw [F]; rfl,by rw [g,au zO]; exact al _ _ _,A,zO⟩
 rw [<- g];exact ⟨⟨_,rfl,this.sl⟩,I⟩
end
section
variable {tab:Nat->Option aA} {H:Heap}
set_option maxHeartbeats 2000000 in
def ze (C:Code tab) (hw:Wf H) {va w vb:AV} {k n x e f m:Nat} {a r:List Int} {z:Int} (ha:RowV H va a) (hr:RowV H w r) (hz:IntV H vb z) (bd:a.length=n+1) (bi:r.length=n+1) (hx:x<n) (hn:n<=60) (aC:∀ z∈a,Bt e z) (aq:∀ z∈r,Bt f z) (aQ:Bt m z) (bg:e+f+7<=100000000) (bf:f+m<=100000000) :
  Ans tab (.fn iL [.agg [.int .u8 (k:Int),w],.int .i64 (x:Int),va,vb]) H fun v H'=>(∃ w',v=.agg [.int .u8 (k:Int),w']/\RowV H' w' (Lin.mvR x a z r))/\Kp H H':=by
 obtain ⟨pz,rfl,aM⟩:=hz;have oz:=aM.one;have oa:=ha.one;have ow:=hr.one;refine Am C.q24 rfl rfl zU fun T hl g=>?_;have hl:T.length=47:=hl;have a8:c_image_moved.results=[(8,some (some 2))]:=rfl;have g0:ad T 0=.agg [.int .u8 (k:Int),w]:=g 0 (by simp);have o:ad T 1=.int .i64 (x:Int):=g 1 (by simp);have L:ad T 2=va:=g 2 (by simp);have g3:ad T 3=.agg [.bool (decide (z<0)),pz]:=g 3 (by simp);clear g;refine aI ?_;refine zW (dj hl g0 g3 (sB ow) (HN (ai (decide (z<0))) oz) @aw) ?_;obtain ⟨d,F⟩:∃ X,X=(((H.up 3).put H.next (.cells [.int .u8 (k:Int),w] ag true)).put (H.next+1) (.cells [.bool (decide (z<0)),pz] aa true)).put (H.next+2) (.cells [.int .u8 0,.nilSl] ag true):=⟨_,rfl⟩
 have k1:Kp H d:=by rw [F]; exact zK
 have bl:=k1.le;have w1:=k1.wf;have b0:d.get H.next=some (.cells [.int .u8 (k:Int),w] ag true):=by rw [F,au zO,au zO,al]
 have b1:d.get (H.next+1)=some (.cells [.bool (decide (z<0)),pz] aa true):=by rw [F,au zO,al]
 have b2:d.get (H.next+2)=some (.cells [.int .u8 0,.nilSl] ag true):=by rw [F,al]
 have n1:d.next=H.next+3:=by rw [F]; rfl
 rw [<- F];clear F;refine dC (fun T'=>T'.length=47/\ad T' 1=.int .i64 (x:Int)/\ad T' 2=va/\ad T' 4=.ptr H.next 0/\ad T' 7=.ptr (H.next+1) 0/\ad T' 8=.ptr (H.next+2) 0) (zV (aD hl o L)) ?_;clear hl g0 o L g3;rintro T ⟨hl,o,L,l,I,s⟩;have aL:a.length=r.length:=zO;have aK:=nf aC aq aL zO;refine aI ?_;refine zW (aO hl L l @b0) ?_;refine AnsH.use (mB C zF ((ha.mono k1.sub).mono (zG d)) ((hr.mono k1.sub).mono (zG d)) aL zO aC aq zO) ?_;rintro _ H2 ⟨_,rfl,⟨pn,rfl,ah⟩,Z⟩;obtain ⟨k2,_,w2⟩:=zT d zK Z;have on:=ah.one;have n2:d.next+10<=H2.next:=Z.le
 have f2:H2.get (d.next+7)=none:=Z.free (show d.next+7<d.next+10 by omega) (w1.fresh (b:=d.next+7) zO);obtain ⟨D,hD⟩:∃ D,D=Lin.dot a r:=⟨_,rfl⟩
 rw [<- hD] at ah aK ⊢;obtain ⟨h,N⟩:∃ X,X=(H2.put (d.next+7) (.cells [.bool false,.nilSl] aa true)).put (d.next+7) (.cells [.bool (decide (D<0)),pn] aa true):=⟨_,rfl⟩
 have ba:Sub H2 h:=by rw [N]; exact (aG f2).put f2 _
 have u:Kp d h:=by rw [N]; exact zK
 have e2:h.get (d.next+7)=some (.cells [.bool (decide (D<0)),pn] aa true):=by rw [N,al]
 have a3:=ah.mono ba;have U:=u.get b0;have c1:=u.get b1;have c2:=u.get b2;have ap:=hr.mono (k1.trans u).sub;have a6:=aM.mono (k1.trans u).sub;have bc:=u.wf;refine zW (aE hl @aw) ?_;rw [<- N];refine dC (fun T'=>T'.length=47/\ad T' 1=.int .i64 (x:Int)/\ad T' 4=.ptr H.next 0/\ad T' 7=.ptr (H.next+1) 0/\ad T' 8=.ptr (H.next+2) 0/\ad T' 9=.ptr (d.next+7) 0) (zV (bB hl o l I s)) ?_;clear hl o L l I s N f2 Z ah;rintro T ⟨hl,o,l,I,s,B⟩;have P:0<r.length:=zO;have ay:r[0]=Lin.hd1 r:=by
  cases r with
  | nil=>simp at P
  | cons _ _=>rfl
 have aR:cS 2 w (.int .i64 0)=some (aB w (0*2)):=SlV.idx ap .i64 0 P;obtain ⟨w0,aP,aj,-⟩:=iZ ap P;rw [ay] at aP aj;have ar:Bt f (Lin.hd1 r):=by rw [<- ay]; exact aq _ (mQ P)
 refine aI ?_;refine aF ?_;refine zD (fo hl l I U @c1 aR aj) ?_;refine AnsH.use (xD C (x:=Lin.hd1 r) (y:=z) zF ⟨w0,rfl,aP.mono (zG h)⟩ ⟨pz,rfl,a6.mono (zG h)⟩ (ar.len zO) (aQ.len zO)) ?_;rintro _ R ⟨_,rfl,⟨pm,rfl,af⟩,ab⟩;obtain ⟨M,hM⟩:∃ q,q=Lin.hd1 r*z:=⟨_,rfl⟩
 have aT:Bt (f+m) M:=by rw [hM]; exact ar.mul aQ
 rw [<- hM] at af ⊢;obtain ⟨k3,_,w3⟩:=zT h zK ab;have om:=af.one;have n3:h.next+12<=R.next:=ab.le
 have f3:R.get (h.next+9)=none:=ab.free (show h.next+9<h.next+12 by omega) (bc.fresh (b:=h.next+9) zO);obtain ⟨t,O⟩:∃ X,X=(R.put (h.next+9) (.cells [.bool false,.nilSl] aa true)).put (h.next+9) (.cells [.bool (decide (M<0)),pm] aa true):=⟨_,rfl⟩
 have bb:Sub R t:=by rw [O]; exact (aG f3).put f3 _
 have A:Kp h t:=by rw [O]; exact zK
 have m3:t.get (h.next+9)=some (.cells [.bool (decide (M<0)),pm] aa true):=by rw [O,al]
 have a1:=af.mono bb;have bp:=A.wf;have d0:=A.get U;have d2:=A.get c2;have e3:=A.get e2;have a4:=a3.mono A.sub;have a7:=ap.mono A.sub;have av:=k3.get U;have ax:=k3.get c1;have aS:=bD k3.sub aj;refine zD (ia hl l I U @c1 av ax aR aj aS @aw) ?_;rw [<- O];refine dC (fun T'=>T'.length=47/\ad T' 1=.int .i64 (x:Int)/\ad T' 4=.ptr H.next 0/\ad T' 8=.ptr (H.next+2) 0/\ad T' 9=.ptr (d.next+7) 0/\ad T' 11=.ptr (h.next+9) 0) (zE (bB hl o l s B)) ?_;clear hl o l I s B O f3 ab af av ax aS;rintro T ⟨hl,o,l,s,B,W⟩;refine aI ?_;refine zW (aD hl l d0) ?_;refine AnsH.use (Ek C zF (a7.mono (zG t)) P zO) ?_;rintro v4 H4 ⟨aZ,p,cells,rfl,aU,aJ,aX⟩;obtain ⟨G,_,w4⟩:=zT t zK aZ;have i0:=G.get d0;have i2:=G.get d2;have i9:=G.get e3;have a9:=G.get m3;have a5:=a4.mono G.sub;have a2:=a1.mono G.sub;have hge:t.next<=p:=by have:t.next+4<=p:=aX; omega
 refine zW (aE hl @aw) ?_;refine dC (fun T'=>T'.length=47/\ad T' 1=.int .i64 (x:Int)/\ad T' 4=.ptr H.next 0/\ad T' 8=.ptr (H.next+2) 0/\ad T' 9=.ptr (d.next+7) 0/\ad T' 11=.ptr (h.next+9) 0/\ad T' 13=.own p 0 r.length r.length 2 false) (by refine zW (dj hl o l s B W) ?_; rfl) ?_;clear hl o l s B W;rintro T ⟨hl,o,l,s,B,W,g13⟩;have ex:IntKind.i64.wrap ((x:Int)+1)=((x+1:Nat):Int):=by rw [wrap_i64] <;> omega
 have aY:cS 2 (.own p 0 r.length r.length 2 false) (.int .i64 ((x+1:Nat):Int))=some (.ptr p ((x+1)*2)):=by
  have:=jB (b:=p) (off:=0) (n:=r.length) (c:=r.length) (sz:=2) (x:=false) (k:=.i64) (j:=x+1) zO
  simpa using this
 have bh:cells.length=r.length*2:=aJ.1;refine aI ?_;refine zW (fX hl o B W @g13 ex i9 a9) ?_;refine AnsH.use (xF C (x:=D) (y:=M) zF ⟨pn,rfl,a5.mono (zG H4)⟩ ⟨pm,rfl,a2.mono (zG H4)⟩ (aK.sm zO) (aT.sm zO)) ?_;rintro _ J ⟨_,rfl,⟨ps,rfl,ao⟩,a0⟩;obtain ⟨S,hS⟩:∃ q,q=D+M:=⟨_,rfl⟩
 rw [<- hS] at ao ⊢;obtain ⟨Q,_,w5⟩:=zT H4 zK a0;have os:=ao.one;have am:=Q.get aU;have j0:=Q.get i0;have j2:=Q.get i2;have bn:=w5 _ _ am;have aN:CS (some (.cells cells aa true)) 2 ((x+1)*2) (.agg [.bool (decide (S<0)),ps])=some (.cells (cells.take ((x+1)*2)++[.bool (decide (S<0)),ps]++cells.drop ((x+1)*2+2)) aa true):=fR (zg (ai _) os) zO;obtain ⟨V,aH⟩:∃ c,c=cells.take ((x+1)*2)++[.bool (decide (S<0)),ps]++cells.drop ((x+1)*2+2):=⟨_,rfl⟩
 rw [<- aH] at aN;have aV:Cells intE J V (r.set (x+1) S):=by rw [aH]; exact (Cells.mono (E:=intE) (Q.sub.t _) aJ).set (i:=x+1) zO ⟨ps,rfl,ao⟩
 have bj:Kp H J:=k1.trans (u.trans (A.trans (G.trans Q)));have bk:H.next+3<=t.next:=by have:=u.le; have:=A.le; omega
 refine zW (dj hl @g13 aY am aN @aw) ?_;refine aI ?_;refine zW (fo hl l s @g13 j0 j2 @aw) ?_;refine WC.wb ?_;refine zW (aD hl s a8) ?_;have m4:NoTy [ae] J p:=NoTy.ty am zU;have m2:NoTy [ae] J (H.next+2):=NoTy.ty j2 zU;obtain ⟨K,Y⟩:∃ K,K=((J.up 5).put p (.cells V aa true)).put (H.next+2) (.cells [.int .u8 (k:Int),.own p 0 r.length r.length 2 false] ag true):=⟨_,rfl⟩
 have er:Lin.mvR x a z r=r.set (x+1) S:=by unfold Lin.mvR; rw [hS,hM,<- hD]
 have aW:Cells intE K V (r.set (x+1) S):=by rw [Y]; exact Cells.mono (E:=intE) zS aV
 have bm:=w5 _ _ j2;have kx:Kp H K:=by rw [Y]; exact zK
 have:Own intE aa H K p false (.own p 0 r.length r.length 2 false) (r.set (x+1) S):=⟨V,by rw [dz]; rfl,by rw [Y,au zO]; exact al _ _ _,aW,zO⟩
 rw [<- Y,er];exact ⟨⟨_,rfl,this.sl⟩,kx⟩
end
def endsL (n:Bool) (lo:Int) (n':Bool) (hi:Int):List Int:=if n && n' then [0] else if n then [hi] else if n' || decide (lo=hi) then [lo] else [lo,hi]
section
variable {tab:Nat->Option aA} {H:Heap}
def Jl (C:Code tab) (i:Wf H) {a b c d e f:AV} (ha:One a) (hb:One b) (hc:One c) (hd:One d) (he:One e) (h:One f) :
  Ans tab (.fn pW [.agg [a,b,c,d,e,f]]) H fun v H'=>v=.fn (.func fS) [] [.ptr H.next 0]/\H'.get H.next=some (.cells [a,b,c,d,e,f] aV true)/\H.next+1<=H'.next/\Kp H H':=by
 refine cT C.q25 zU fun T hl g=>?_;refine zW (aD hl g (CM ha hb hc hd he h)) ?_;exact ⟨zO,zK⟩
set_option maxHeartbeats 1000000 in
def Pu (C:Code tab) {H0:Heap} {I D:Nat} {n n':Bool} {lo hi:Int} {pl ph:AV} (J:Nat->Heap->Prop) (d:Kp H0 H) (h0:J 0 H) (w:∀ k H H',Kp H H'->J k H->J k H')
  (hA:H.get D=some (.cells [.bool n,.bool (decide (lo<0)),pl,.bool n',.bool (decide (hi<0)),ph] aV true)) (j:bO H pl lo.natAbs) (g:bO H ph hi.natAbs) (N:dD lo)
  (hr:∀ i z H p,(endsL n lo n' hi)[i]? = some z->Kp H0 H->J i H->bO H p z.natAbs->Ans tab (.round I [.agg [.bool (decide (z<0)),p]]) H fun v H'=>v=.bool true/\Kp H0 H'/\J (i+1) H'/\SubT [bu,ae] H H') :
  Ans tab (.ent fS [.loopv I,.ptr D 0]) H fun _ H'=>Kp H0 H'/\J (endsL n lo n' hi).length H':=by
 have l:=d.wf;have S:=j.one;have R:=g.one;have hlt:=l _ _ hA;have F:H.get (H.next+4)=none:=l.fresh zO;have f5:H.get (H.next+5)=none:=l.fresh zO;have m:∀ k,Sub H (((((H.up (k+8)).put (H.next+4) (.cells [.bool false,.bool false,.nilSl] bu true)).put (H.next+5) (.cells [.bool false,.bool false,.nilSl] bu true)).put (H.next+4) (.cells [.bool n,.bool (decide (lo<0)),pl] bu true)).put (H.next+5) (.cells [.bool n',.bool (decide (hi<0)),ph] bu true)):=fun k=>((((Sub.bump H (k+8)).put F _).put f5 _).put F _).put f5 _;have e:∀ k,Kp H (((((H.up (k+8)).put (H.next+4) (.cells [.bool false,.bool false,.nilSl] bu true)).put (H.next+5) (.cells [.bool false,.bool false,.nilSl] bu true)).put (H.next+4) (.cells [.bool n,.bool (decide (lo<0)),pl] bu true)).put (H.next+5) (.cells [.bool n',.bool (decide (hi<0)),ph] bu true)):=fun k=>by
  have Q:H.next+8<=(H.up (k+8)).next:=by show _<=H.next+(k+8); omega
  refine (((((Kp.refl l).up (k+8)).put ?_ ?_).put ?_ ?_).put ?_ ?_).put ?_ ?_
  all_goals (first | omega | (simp only [next_put]; omega))
 have s:∀ k,J 0 (((((H.up (k+8)).put (H.next+4) (.cells [.bool false,.bool false,.nilSl] bu true)).put (H.next+5) (.cells [.bool false,.bool false,.nilSl] bu true)).put (H.next+4) (.cells [.bool n,.bool (decide (lo<0)),pl] bu true)).put (H.next+5) (.cells [.bool n',.bool (decide (hi<0)),ph] bu true)):=fun k=>w _ _ _ (e k) h0;have z0:decide ((0:Int)<0)=false:=rfl;refine TJ C.q53 zU fun T hl a c=>?_;refine vH ?_;refine aF ?_;cases n with
 | true =>
  cases n' with
  | true =>
   refine zD (fo hl a c hA @qG @xK @jj) ?_;refine AnsH.eq (hr 0 0 _ .nilSl (by simp [endsL]) (d.trans (e _)) (s _) (Au _)) fun H2 h2=>?_;refine zD (aD hl a c) ?_;exact ⟨h2.1,h2.2.1⟩
  | false =>
   refine zD (fX hl a c hA @qG @xK @jj @Aj) ?_;refine AnsH.eq (hr 0 hi _ ph (by simp [endsL]) (d.trans (e _)) (s _) (g.mono (m _))) fun H2 h2=>?_;refine zD (aD hl a c) ?_;exact ⟨h2.1,h2.2.1⟩
 | false =>
  cases n' with
  | true =>
   refine zD (fX hl a c hA @qG @xK @jj @Aj) ?_;refine AnsH.eq (hr 0 lo _ pl (by simp [endsL]) (d.trans (e _)) (s _) (j.mono (m _))) fun H2 h2=>?_;refine zD (aD hl a c) ?_;exact ⟨h2.1,h2.2.1⟩
  | false =>
   refine zD (fX hl a c hA @qG @xK @jj @Aj) ?_;refine AnsH.eq (AH C (x:=lo) (y:=hi) (e _).wf ⟨pl,rfl,j.mono (m _)⟩ ⟨ph,rfl,g.mono (m _)⟩ N) fun H2 u=>?_;have k2:Kp H H2:=(e _).trans u;have P:=k2.le;have B:H2.get (H.next+4)=some (.cells [.bool false,.bool (decide (lo<0)),pl] bu true):=u.get (cC);have o:H2.get (H.next+5)=some (.cells [.bool false,.bool (decide (hi<0)),ph] bu true):=u.get (cC);have G:∀ k,bO (H2.up k) pl lo.natAbs:=fun k=>(j.mono k2.sub).mono (Sub.bump H2 k);have K:=g.mono k2.sub;cases f:decide (lo=hi) with
   | true =>
    refine zD (bB hl a B @o @Aj) ?_;refine AnsH.eq (hr 0 lo _ pl (by unfold endsL; rw [f]; rfl) (d.trans (k2.up _)) (w _ _ _ (k2.up _) h0) (G _)) fun A h3=>?_;have q:(endsL false lo false hi).length=1:=by unfold endsL; rw [f]; rfl
    rw [q];refine zD (aD hl a c) ?_;exact ⟨h3.1,h3.2.1⟩
   | false =>
    refine zD (bB hl a B @o @Aj) ?_;refine AnsH.eq (hr 0 lo _ pl (by unfold endsL; rw [f]; rfl) (d.trans (k2.up _)) (w _ _ _ (k2.up _) h0) (G _)) fun A h3=>?_;have w3:=h3.1.wf;have U:=h3.2.2 _ _ _ _ (by simp) (show (H2.up 10).get (H.next+5)=_ from o);have L:bO A ph hi.natAbs:=SlV.monoT (E:=bU gg) (fun b cs t r M hb=>h3.2.2 b cs t r (by rcases FC.1 M with rfl | h; exact tZ _ (Ld.2 rfl); cases h) hb) (K.mono (Sub.bump H2 10));refine zD (aO hl a U @Aj) ?_;refine AnsH.eq (hr 1 hi _ ph (by unfold endsL; rw [f]; rfl) h3.1 h3.2.1 L) fun O h4=>?_;have q:(endsL false lo false hi).length=2:=by unfold endsL; rw [f]; rfl
    rw [q];refine zD (aD hl a c) ?_;exact ⟨h4.1,h4.2.1⟩
def Fp (C:Code tab) (D:Wf H) {H0:Heap} {b k:Nat} {v w:AV} {l:List (Nat × List Int)} {r:List Int} (B:Kp H0 H) (z:H0.next<=b) (hb:H.get b=some (.cells [v] fC true)) (i:Bl genE ag H0 H v l) (hr:RowV H w r) (G:l.length<1000) :
  Ans tab (.fn fj [.agg [.int .u8 (k:Int),w],.ptr b 0]) H fun _ H'=>(∃ j,H'.get b=some (.cells [j] fC true)/\Bl genE ag H0 H' j (l++[(k,r)])/\∀ c,iz j=some c->H.next<=c)/\Kp H0 H'/\(∀ c e,H.get c=some e->c≠b->iz v≠some c->H'.get c=some e)/\H.next<=H'.next:=by
 have t:=hr.one;have ov:=i.sl.one;have hlt:=D _ _ hb;refine bA C.q23 zU fun T hl x y=>?_;obtain ⟨d,h⟩:∃ X,X=(H.up 1).put H.next (.cells [.int .u8 (k:Int),w] ag true):=⟨_,rfl⟩
 have a:Kp H d:=by rw [h]; exact zK
 have J:d.next=H.next+1:=by rw [h]; rfl
 obtain ⟨n,H2,g,u,k2,I,o,-⟩:=Bl.push1 (id:=H.next+4) (id2:=H.next+3) (k:=5) (bytes:=32) (ty2:=ag) (i.mono a.sub) zU (B.trans a) (show genE.R d [.int .u8 (k:Int),w] (k,r) from ⟨w,rfl,hr.mono a.sub⟩) zO zO zO zO zO zO zO;have g:dr (((H.up 6).put H.next (.cells [.int .u8 (k:Int),w] ag true)).put (H.next+3) (.cells [.int .u8 (k:Int),w] ag true)) (H.next+4) 2 32 ag v (.own (H.next+3) 0 1 1 2 true)=some (.own (H.next+4) 0 n n 2 false,H2):=by
  have:=g
  rw [h] at this;exact this
 have f:H2.get b=some (.cells [v] fC true):=o b _ (a.get hb) (by
  intro e;rcases i with ⟨rfl,-⟩ | ⟨b',cells,rfl,s,-,-⟩
  ·cases e
  ·cases e; rw [hb] at s; cases s)
 have F:=k2.wf;have A:=Fx (p:=.int .u8 0) (q:=.nilSl) (bo .u8 (k:Int)) t;refine zW (jU hl x y (sB t) hb A g f @bT) ?_;have E:=F _ _ f;refine ⟨⟨_,rfl,u.put (fun m e=>by cases e; omega) (SubT.put_ty f zU),fun c e=>by cases e; omega⟩,k2.put z E,fun c e hc h1 h2=>?_,zO⟩;rw [au h1];exact o c e (a.get hc) h2
end
section
open Lin
variable {n m:Nat}
def Ke {d m:Nat} (hd:d<=4):(2*d*2^m)^2^d<=2^(16*(m+4)):=by
 have h1:2*d*2^m<=2^(m+4):=by
  rw [Th,EV (2^m)];exact B2 _ zO
 have h2:2^d<=2^4:=JR (by decide) hd;have h3:2^d*(m+4)<=16*(m+4):=B2 _ h2
 calc (2*d*2^m)^2^d<=(2^(m+4))^2^d:=YI h1 _
  _=2^((m+4)*2^d):=(ZQ ..).symm
  _<=2^(16*(m+4)):=JR (by decide) (by rw [EV]; exact h3)
def Sn {a b:Nat} {x:V} (h:Bd a x) (c:a<=b):Bd b x:=fun i=>B5 (h i) c
def F5 {d:Nat} {E I:List V} (g:0<d) (hd:d<=4) (b:∀ a∈E,a.length=d/\Bd (2^m) a) (c:∀ a∈I,a.length=d/\Bd (2^m) a) :
  (∀ l∈gensL d E I,Bd (2^(16*(m+4))) l)/\(∀ r∈gensR d E I,Bd (2^(16*(m+4))) r):=by
 have t:=gens_told (d:=d) (fun a ha=>(b a ha).1) (fun a ha=>(c a ha).1);obtain ⟨e,f⟩:=told_bd g (Pm (by decide)) t b c;exact ⟨fun l hl=>Sn (e l hl) (Ke hd),fun r hr=>Sn (f r hr) (Ke hd)⟩
def tt {l:List (V × Bool)} (hn:n<=3) (h:∀ c∈l,c.1.length=n+1/\Bd (2^m) c.1):∀ x∈gensP n l,x.2.length=n+1/\Bd (2^(16*(m+4))) x.2:=fun x hx=>by
 have f:∀ a∈eqsOf l,a.length=n+1/\Bd (2^m) a:=fun a ha=>h _ (mem_eqs.1 ha);have g:∀ a∈ineqsOf n l,a.length=n+1/\Bd (2^m) a:=fun a ha=>by
  rcases mem_ineqs.1 ha with rfl | ha
  ·exact ⟨unitC_len n 1,EB n m⟩
  ·exact h _ ha
 refine ⟨ts (fun c hc=>(h c hc).1) x hx,?_⟩;obtain ⟨b,e⟩:=F5 (d:=n+1) (m:=m) zO zO f g;unfold gensP at hx;split at hx
 ·rcases Eu.1 hx with hx | hx
  ·obtain ⟨r,hr,rfl⟩:=nC.1 hx;exact b r hr
  ·obtain ⟨r,hr,rfl⟩:=nC.1 hx;exact e r hr
 ·cases hx
def yx {g:List (Nat × V)} (hn:n<=3) (h:∀ x∈g,x.2.length=n+1/\Bd (2^m) x.2):∀ c∈consP n g,c.1.length=n+1/\Bd (2^(16*(m+4))) c.1:=fun x hx=>by
 refine ⟨jG (fun y hy=>(h y hy).1) x hx,?_⟩;have hb:=(Hp (m:=m) zO h x hx).2;have f:∀ a∈linesOf g,a.length=n+1/\Bd (2^m) a:=fun a ha=>h _ (mem_lines.1 ha);have j:∀ a∈raysOf g,a.length=n+1/\Bd (2^m) a:=fun a ha=>by
  obtain ⟨y,hy,rfl⟩:=yi ha;exact h _ hy
 obtain ⟨b,e⟩:=F5 (d:=n+1) (m:=m) zO zO f j;unfold consP at hx;split at hx
 ·rcases Eu.1 hx with hx | hx
  ·obtain ⟨r,hr,rfl⟩:=nC.1 hx;exact b r hr
  ·obtain ⟨r,hr,rfl⟩:=nC.1 hx;exact e r (C4.1 hr).1
 ·rw [Ld] at hx;subst hx;intro i
  have:∀ i,(at_ (unitC n (-1)) i).natAbs<=1:=fun i=>by
   unfold at_ unitC;cases i with
   | zero=>simp
   | succ i=>simp [iF,XG]; split <;> simp
  exact B5 (this i) (Nat.one_le_two_pow)
end
def Ki {l:List Int} (h:l.length<=64):tW (l.map bF)=true:=by
 unfold tW;rw [Ky];refine ⟨by rw [rR]; exact decide_eq_true h,?_⟩;rw [XE,XW];intro z hz;obtain ⟨y,-,rfl⟩:=nC.1 hz;rw [xx]; simp
def HQ {l:List Int} (h:l.length<=64) (hz:∀ z∈l,dD z):nr (l.map bF):=⟨by rw [rR]; omega,fun z a=>by
 obtain ⟨y,hy,rfl⟩:=nC.1 a
 have:=hz y hy
 unfold dD Sm at this;show (ah y.natAbs).length<_;omega⟩
section
variable {tab:Nat->Option aA} {H:Heap}
end
structure PutS (P:Nat->Prop) (H0 D:Heap) (b:Nat) (H:Heap) (l:List (Nat × List Int)):Prop where
 le:D.next<=H.next
 keep:∀ c e,P c->D.get c=some e->H.get c=some e
 own:∃ v,H.get b=some (.cells [v] fC true)/\Bl genE ag H0 H v l/\∀ c,iz v=some c->¬ P c
section
variable {P:Nat->Prop} {H0 D H H':Heap} {b:Nat} {l:List (Nat × List Int)}
def PutS.mono (h:PutS P H0 D b H l) (a:Sub H H'):PutS P H0 D b H' l:=by
 obtain ⟨v,h1,h2,h3⟩:=h.own;exact ⟨B5 h.le a.1,fun c e hp hc=>a.get _ _ (h.keep c e hp hc),v,a.get _ _ h1,h2.mono a,h3⟩
def PutS.put (h:PutS P H0 D b H l) {c:Nat} {e:Ent} (hc:¬ P c) (hb:c≠b) (he:∀ cs r,H.get c≠some (.cells cs ag r)) (g:SubT genE.tys H (H.put c e)):PutS P H0 D b (H.put c e) l:=by
 obtain ⟨v,h1,h2,h3⟩:=h.own;refine ⟨h.le,fun d e' hp hd=>by rw [au (show d≠c from fun q=>hc (by rw [<- q]; exact hp))]; exact h.keep d e' hp hd,v,by rw [au (fun q=>hb q.symm)]; exact h1,h2.put (fun n a=>?_) g,h3⟩;rcases h2 with ⟨rfl,-⟩ | ⟨b',cells,rfl,f,-⟩
 ·cases a
 ·cases a; exact he _ _ f
variable {tab:Nat->Option aA}
def rp (C:Code tab) {k:Nat} {w:AV} {r:List Int} (d:Kp H0 H) (h0:H0.next<=b) (a:∀ c,P c->c<D.next/\c≠b) (hs:PutS P H0 D b H l) (hr:RowV H w r) (n:l.length<1000) :
  Ans tab (.fn fj [.agg [.int .u8 (k:Int),w],.ptr b 0]) H fun _ H'=>PutS P H0 D b H' (l++[(k,r)])/\Kp H0 H'/\∀ c e,H.get c=some e->(∀ cs r,e ≠ .cells cs ag r)->(∀ cs r,e ≠ .cells cs fC r)->H'.get c=some e:=by
 obtain ⟨v,h1,h2,h3⟩:=hs.own;refine (Fp C d.wf d h0 h1 h2 hr n).mono ?_;rintro _ H' ⟨⟨p,h,i,j⟩,o,fr,le⟩;refine ⟨⟨B5 hs.le le,fun c e hp hc=>fr c e (hs.keep c e hp hc) (a c hp).2 (fun q=>h3 c q hp),p,h,i,fun c hc hp=>?_⟩,o,fun c e hc f g=>fr c e hc (fun q=>?_) fun q=>?_⟩
 ·have:=j c hc; have:=(a c hp).1; have:=hs.le; omega
 ·subst q; rw [h1] at hc; cases hc; exact g _ _ rfl
 ·rcases h2 with ⟨rfl,-⟩ | ⟨b',cells,rfl,m,-⟩
  ·cases q
  ·cases q; rw [m] at hc; cases hc; exact f _ _ rfl
end
def putOne (x:Nat) (a:List Int) (n:Bool) (lo:Int) (n':Bool) (hi:Int) (g:Nat × List Int):List (Nat × List Int):=if g.1=3 then (endsL n lo n' hi).map fun z=>Lin.mvG x a z g else [Lin.mvG x a 0 g]
def putTail (d x:Nat) (n n':Bool):List (Nat × List Int):=if n && n' then [(1,unitX d x 1)] else if n then [(2,unitX d x (-1))] else if n' then [(2,unitX d x 1)] else []
def putL (d x:Nat) (a:List Int) (n:Bool) (lo:Int) (n':Bool) (hi:Int) (G:List (Nat × List Int)):List (Nat × List Int) :=
 G.flatMap (putOne x a n lo n' hi)++(if G=[] then [] else putTail d x n n')
def endsL_len (n:Bool) (lo:Int) (n':Bool) (hi:Int):1<=(endsL n lo n' hi).length/\(endsL n lo n' hi).length<=2:=by
 unfold endsL;cases n <;> cases n' <;> simp;by_cases h:lo=hi <;> simp [h]
def IR (x:Nat) (a:List Int) (n:Bool) (lo:Int) (n':Bool) (hi:Int) (g:Nat × List Int):1<=(putOne x a n lo n' hi g).length/\(putOne x a n lo n' hi g).length<=2:=by
 unfold putOne;split
 ·rw [rR]; exact endsL_len n lo n' hi
 ·simp
def oV (x:Nat) (a:List Int) (n:Bool) (lo:Int) (n':Bool) (hi:Int):∀ G:List (Nat × List Int),G.length<=(G.flatMap (putOne x a n lo n' hi)).length/\(G.flatMap (putOne x a n lo n' hi)).length<=2*G.length
 | []=>by simp
 | g :: G=>by
  have h1:=IR x a n lo n' hi g;have h2:=oV x a n lo n' hi G;rw [List.flatMap_cons,C5,Sb];omega
def Bx {x:Nat} {a:List Int} {n:Bool} {lo:Int} {n':Bool} {hi:Int} {G:List (Nat × List Int)} {j:Nat} (hj:j<G.length):(G.take (j+1)).flatMap (putOne x a n lo n' hi)=(G.take j).flatMap (putOne x a n lo n' hi)++putOne x a n lo n' hi G[j]:=by
 rw [List.take_succ,eA hj,List.flatMap_append]
 simp
section
open Lin
variable {n x:Nat} {a:List Int} {rn rn':Bool} {lo hi:Int} {G:List (Nat × List Int)}
def Hf {n n':Bool} {lo hi z:Int} {e:Nat} (h1:Bt e lo) (h2:Bt e hi) (hz:z∈endsL n lo n' hi):Bt e z:=by
 unfold endsL at hz;cases n <;> cases n'
 ·by_cases h:lo=hi
  ·simp [h] at hz; subst hz; exact h2
  ·simp [h] at hz; rcases hz with rfl | rfl
   ·exact h1
   ·exact h2
 ·simp at hz; subst hz; exact h1
 ·simp at hz; subst hz; exact h2
 ·simp at hz; subst hz; exact Bt.zero e
def Oh {y:Nat × List Int} (h:y∈putTail n x rn rn'):∃ k:Int,(k=1\/k = -1)/\y.2=unitX n x k/\(y.1=1\/y.1=2):=by
 unfold putTail at h;cases rn <;> cases rn' <;> simp at h
 ·subst h; exact ⟨1,.inl rfl,rfl,.inr rfl⟩
 ·subst h; exact ⟨-1,.inr rfl,rfl,.inr rfl⟩
 ·subst h; exact ⟨1,.inl rfl,rfl,.inl rfl⟩
def Wx (n x:Nat) (k:Int):(unitX n x k).length=n+1:=by simp [unitX]
def W2 (n x:Nat) (k:Int):hd1 (unitX n x k)=0:=by
 unfold unitX; rw [Pl]; rfl
def Bv {y:Nat × List Int} (h:y∈putL n x a rn lo rn' hi G):(∃ g∈G,∃ z,(z=0\/z∈endsL rn lo rn' hi)/\y=mvG x a z g)\/∃ k:Int,(k=1\/k = -1)/\y.2=unitX n x k/\(y.1=1\/y.1=2):=by
 unfold putL at h;rcases Eu.1 h with h | h
 ·obtain ⟨g,hg,h⟩:=Zi.1 h;unfold putOne at h;split at h
  ·obtain ⟨z,hz,rfl⟩:=nC.1 h;exact .inl ⟨g,hg,z,.inr hz,rfl⟩
  ·rw [Ld] at h;exact .inl ⟨g,hg,0,.inl rfl,h⟩
 ·split at h
  ·cases h
  ·exact .inr (Oh h)
def putL_valid (b:ValidG n G):ValidG n (putL n x a rn lo rn' hi G):=fun y hy=>by
 rcases Bv hy with ⟨g,hg,z,-,rfl⟩ | ⟨k,-,h2,h3⟩
 ·refine ⟨by rw [mvG,Xe]; exact (b g hg).1,fun h=>?_,fun h=>?_⟩
  ·rw [mvG,W5]; exact (b g hg).2.1 h
  ·rw [mvG,W5]; exact (b g hg).2.2 h
 ·rw [h2];exact ⟨Wx _ _ _,fun h=>by omega,fun _=>W2 _ _ _⟩
def L5 (b:∀ g∈G,g.1=1\/g.1=2\/g.1=3):∀ y∈putL n x a rn lo rn' hi G,y.1=1\/y.1=2\/y.1=3:=fun y hy=>by
 rcases Bv hy with ⟨g,hg,z,-,rfl⟩ | ⟨k,-,h2,h3⟩
 ·exact b g hg
 ·omega
def pw {M:Nat} {r:List Int} (h:∀ z∈r,z.natAbs<=M):Bd M r:=fun i=>by
 unfold at_;rw [iF];cases h1:r[i]? with
 | none=>exact xq _
 | some z=>exact h z (Cv h1)
def OW {e ea ez:Nat} {z:Int} {r:List Int} (hn:n<=3) (d:a.length=n+1) (ha:Bd (2^ea) a) (hr:Bd (2^e) r) (hz:z.natAbs<=2^ez):Bd (2^(e+ea+ez+3)) (mvR x a z r):=pw fun y hy=>by
 have p1:2^e<=2^(e+ea+ez+3):=JR (by decide) zO;rcases Yr hy with h | rfl
 ·exact B5 (hr.mem y h) p1
 ·have h1:=bd_dot d ha hr;have h2:(hd1 r).natAbs<=2^e:=by
   have:=hr 0
   cases r with
   | nil=>exact xq _
   | cons b r=>exact this
  have h3:(hd1 r*z).natAbs<=2^e*2^ez:=by rw [Zz]; exact X0 h2 hz
  have h4:(n+1)*(2^ea*2^e)<=4*(2^ea*2^e):=B2 _ zO;have h5:2^ea*2^e<=2^(e+ea+ez):=by rw [<- Th]; exact JR (by decide) zO
  have h6:2^e*2^ez<=2^(e+ea+ez):=by rw [<- Th]; exact JR (by decide) zO
  have c:2^(e+ea+ez+3)=2^(e+ea+ez)*8:=by rw [Th]
  have f:=Zr (dot a r) (hd1 r*z);rw [c];omega
def Kd {e ea ez:Nat} (hn:n<=3) (f:a.length=n+1) (ha:Bd (2^ea) a) (d:∀ g∈G,Bd (2^e) g.2) (b:Bt ez lo) (c:Bt ez hi):∀ y∈putL n x a rn lo rn' hi G,Bd (2^(e+ea+ez+3)) y.2:=fun y hy=>by
 rcases Bv hy with ⟨g,hg,z,hz,rfl⟩ | ⟨k,h1,h2,h3⟩
 ·refine OW hn f ha (d g hg) ?_;rcases hz with rfl | hz
  ·exact xq _
  ·exact Ys (Hf b c hz)
 ·rw [h2];refine pw fun z hz=>?_;have p1:1<=2^(e+ea+ez+3):=Pm (by decide);rcases Yr hz with h | rfl
  ·have:=Yw h
   subst this; exact xq _
  ·omega
def OF (b:G.length<=20):(putL n x a rn lo rn' hi G).length<=41:=by
 have h1:=oV x a rn lo rn' hi G;have h2:(putTail n x rn rn').length<=1:=by unfold putTail; cases rn <;> cases rn' <;> simp
 unfold putL;rw [C5];split
 ·simp only [YN]; omega
 ·omega
end
section
variable {tab:Nat->Option aA} {H:Heap}
def PutS.kill {P:Nat->Prop} {H0 D:Heap} {b:Nat} {l:List (Nat × List Int)} (h:PutS P H0 D b H l) {c:Nat} (hc:¬ P c) (hb:c≠b) (he:∀ cs t r,H.get c≠some (.cells cs t r)):PutS P H0 D b (H.kill c) l:=by
 obtain ⟨v,h1,h2,h3⟩:=h.own;refine ⟨h.le,fun d e' hp hd=>by rw [cM (show d≠c from fun q=>hc (by rw [<- q]; exact hp))]; exact h.keep d e' hp hd,v,by rw [cM (fun q=>hb q.symm)]; exact h1,h2.kill (fun n a=>?_) ((SubT.refl _ _).kills fun cs t r _ h=>he cs t r h),h3⟩;rcases h2 with ⟨rfl,-⟩ | ⟨b',cells,rfl,e,-⟩
 ·cases a
 ·cases a; exact he _ _ _ e
def PutS.back {P d:Nat->Prop} {H0 D a:Heap} {b:Nat} {l:List (Nat × List Int)} (h:PutS d H0 a b H l) (hn:D.next<=a.next) (hp:∀ c,P c->d c) (f:∀ c e,P c->D.get c=some e->a.get c=some e):PutS P H0 D b H l:=by
 obtain ⟨v,h1,h2,h3⟩:=h.own;exact ⟨B5 hn h.le,fun c e q hc=>h.keep c e (hp c q) (f c e q hc),v,h1,h2,fun c q hc=>h3 c q (hp c hc)⟩
theorem QT (a b c d e f:AV):bf [a,b,c,d,e,f] 3 none=some d:=rfl
set_option maxHeartbeats 4000000 in
def V6 (C:Code tab) (hw:Wf H) {v w vi:AV} {n e f ea ez m x:Nat} {K:List (List Int × Bool)} {G:List (Nat × List Int)} {a:List Int} {rn rn':Bool} {lo hi:Int} (hp:PolyV H v n K G) (ho:PolyOK n e f K G) (ha:RowV H w a) (a6:a.length=n+1) (bU:Lin.Bd (2^ea) a) (bl:ItvV H vi rn lo rn' hi) (bY:eM rn (bF lo) rn' (bF hi)=true) (a1:Bt ez lo) (bf:Bt ez hi) (hx:x<n) (bs:n<=3) (hG:G.length<=20) (cf:e+ea+ez<=100000) (vb:∀ y∈putL n x a rn lo rn' hi G,Lin.Bd (2^m) y.2) (hm:m<=1158) (bW:∀ g∈G,g.1=1\/g.1=2\/g.1=3) (bX:(Lin.consP n (putL n x a rn lo rn' hi G)).length<=1022\/1024<=(Lin.consP n (putL n x a rn lo rn' hi G)).length) :
  Ans tab (.fn kU [v,.int .i64 (x:Int),w,vi]) H fun r H'=>xz H' r n (putL n x a rn lo rn' hi G)/\Kp H H':=by
 obtain ⟨vc,vg,rfl,hC,hg⟩:=hp;have cc:=bl;obtain ⟨pl,ph,rfl,bb,ba⟩:=bl;have oc:=hC.one;have og:=hg.one;have oa:=ha.one;have bC:=bb.one;have bA:=ba.one;have a8:=fu bU;have bc:∀ z∈a,dD z:=fun z hz=>(a8 z hz).sm zO;have pc:de n (x:Int)=0:=by unfold de; rw [if_neg zO]
 have rc:gC n (a.map bF)=0:=by unfold gC; rw [Ki zO,if_pos rfl,if_neg (by rw [rR]; omega)]
 have bx:=CM (ai rn) (ai (decide (lo<0))) bC (ai rn') (ai (decide (hi<0))) bA;have ll:(ah lo.natAbs).length<=1048576:=iN (m:=ez) a1 zO;have lh:(ah hi.natAbs).length<=1048576:=iN (m:=ez) bf zO;refine Jw C.q6 (by decide) fun T hl I J M O=>?_;refine zW (fX hl I J M O (jS oc og) bx (CL oa)) ?_;refine AnsH.eq (gf C (n:=n) (x:=(x:Int)) zF ⟨vc,vg,rfl,hC.mono (Kp.sub (H:=H) zK),hg.mono (Kp.sub (H:=H) zK)⟩ ho) fun H2 aD=>?_;rw [pc];obtain ⟨k2,_,w2⟩:=zT H zK aD;have d0:H2.get H.next=some (.cells [.int .i64 (n:Int),vc,vg] am true):=aD.get (cC)
 have d1:H2.get (H.next+1)=some (.cells [.int .i64 (x:Int)] d9 true):=aD.get (cC);have d2:H2.get (H.next+2)=some (.cells [w] af true):=aD.get (cC);have d3:H2.get (H.next+3)=some (.cells [.bool rn,.bool (decide (lo<0)),pl,.bool rn',.bool (decide (hi<0)),ph] aV true):=aD.get (cC);have d4:H2.get (H.next+4)=some (.cells [.int .i64 0,.nilSl,.nilSl] am true):=aD.get (cC);refine zW (dj hl I J M O d2) ?_;refine AnsH.eq (pE C zF ((ha.mono k2.sub).mono (Kp.sub (H:=H2) zK)) zO bc) fun H3 bp=>?_;obtain ⟨k23,_,_⟩:=zT H2 zK bp;have k3:Kp H H3:=k2.trans k23;have ck:=k3.le;have w3:=k3.wf;have e3:=k23.get d3;refine zW (fo hl I J M O e3 @jq) ?_;refine AnsH.eq (tj C (n:=rn) (n':=rn') (z:=bF lo) (z':=bF hi) zF ((bb.mono k3.sub).mono (Kp.sub (H:=H3) zK)) ((ba.mono k3.sub).mono (Kp.sub (H:=H3) zK)) (aY _) (aY _) ll lh) fun H4 bq=>?_;rw [bY];have z0:(if true=true then (0:Int) else 8)=0:=rfl;obtain ⟨bv,_,_⟩:=zT H3 zK bq;have aQ:=k23.trans bv;have k4:Kp H H4:=k2.trans aQ;have cl:=k4.le;have w4:=k4.wf;have e0:=aQ.get d0;have e2:=aQ.get d2;refine zW (fX hl I J M O z0 e0 e2) ?_;refine AnsH.eq (nH C (n:=n) zF ⟨vc,vg,rfl,(hC.mono k4.sub).mono (Kp.sub (H:=H4) zK),(hg.mono k4.sub).mono (Kp.sub (H:=H4) zK)⟩ zO ((ha.raw.mono k4.sub).mono (Kp.sub (H:=H4) zK)) (HQ zO bc)) fun d br=>?_;rw [rc];obtain ⟨bw,_,_⟩:=zT H4 zK br;have aM:=aQ.trans bw;have k5:Kp H d:=k2.trans aM;have cm:=k5.le;have w5:=k5.wf;have f0:=aM.get d0;have f1:=aM.get d1;have f2:=aM.get d2;have f3:=aM.get d3;have f4:=aM.get d4;clear d0 d1 d2 d3 d4 e0 e2 e3 aD bp bq br k23 bv bw aQ;refine zW (fo hl I J M O f0 hg.lenV) ?_;obtain ⟨D,hD⟩:∃ X,X=(((d.up 10).put (d.next+2) (.cells [.nilSl] fC true)).put (d.next+4) (.cells [.nilFn] mC true)).put (d.next+4) (.cells [.fn (.func fj) [] [.ptr (d.next+2) 0]] mC true):=⟨_,rfl⟩
 rw [<- hD];have q2:d.get (d.next+2)=none:=w5.fresh zO;have q4:d.get (d.next+4)=none:=w5.fresh zO;have sD:Sub d D:=by rw [hD]; exact (((Sub.bump d 10).put q2 _).put q4 _).put q4 _
 have kD:Kp H D:=by rw [hD]; exact zK
 have nD:D.next=d.next+10:=by rw [hD]; rfl
 have wD:=kD.wf;have bM:D.get (d.next+2)=some (.cells [.nilSl] fC true):=by rw [hD,au zO,au zO,al]
 have bd:D.get (d.next+4)=some (.cells [.fn (.func fj) [] [.ptr (d.next+2) 0]] mC true):=by rw [hD,al]
 clear hD;have D0:=sD.get _ _ f0;have D1:=sD.get _ _ f1;have D2:=sD.get _ _ f2;have D3:=sD.get _ _ f3;have D4:=sD.get _ _ f4;have ch:=k5.le;have l4:=w5 _ _ f4;obtain ⟨P,hP⟩:∃ P:Nat->Prop,P=fun c=>c<D.next/\c≠d.next+2:=⟨_,rfl⟩
 have aJ:∀ c,P c->c<D.next/\c≠d.next+2:=fun c h=>by rw [hP] at h; exact h
 have ar:∀ c,c<D.next->c≠d.next+2->P c:=fun c h1 h2=>by rw [hP]; exact ⟨h1,h2⟩
 have s0:PutS P H D (d.next+2) D ((G.take 0).flatMap (putOne x a rn lo rn' hi)):=⟨o0 _,fun _ _ _ h=>h,.nilSl,bM,Bl.nil,fun c h=>by cases h⟩
 refine aq H [] (fun j _ H'=>PutS P H D (d.next+2) H' ((G.take j).flatMap (putOne x a rn lo rn' hi))) (a:=0) (N:=G.length) (by simp only [dz]; exact hl) (by refine zW (bB hl I J M O) ?_; rfl) (zV (bB hl I J M O)) (xq _) zO rfl rfl (fun _ _ _ m h=>h.mono (Sub.bump _ m)) kD s0 ?_ ?_
 ·intro j T1 l _ hj b bm ab aj F;have w1:=aj.wf;have b1:=aj.le;have t4:ad T1 4=.ptr H.next 0:=(ab.at_ 4 (by decide)).trans (zV (bB hl I J M O))
  have t5:ad T1 5=.ptr (H.next+1) 0:=(ab.at_ 5 (by decide)).trans (zV (bB hl I J M O));have t6:ad T1 6=.ptr (H.next+2) 0:=(ab.at_ 6 (by decide)).trans (zV (bB hl I J M O));have t7:ad T1 7=.ptr (H.next+3) 0:=(ab.at_ 7 (by decide)).trans (zV (bB hl I J M O));have U:ad T1 13=.ptr (d.next+4) 0:=(ab.at_ 13 (by decide)).trans (zV (bB hl I J M O));have bI:ad T1 42=vg:=(ab.at_ 42 (by decide)).trans (zV (bB hl I J M O));obtain ⟨_,⟨u,rfl,hr⟩,-,-,L⟩:=hg.at (eA hj);have L:bk l (some 2) (aB vg (j*2))=some (.agg [.int .u8 (G[j].1:Int),u]):=bD aj.sub L;have bn:cS 2 vg (.int .i64 (j:Int))=some (aB vg (j*2)):=SlV.idx hg .i64 j hj;have hr:RowV H u G[j].2:=hr;have ou:=hr.one;have aP:=ho.rowG _ (mQ hj);have a2:=fu aP.2;have ca:=oV x a rn lo rn' hi (G.take j);have hlt:(G.take j).length<=20:=by rw [L9]; omega
  have V:=F.keep _ _ (ar _ zO zO) D1;have E2:=F.keep _ _ (ar _ zO zO) D2;have E3:=F.keep _ _ (ar _ zO zO) D3;have W:=F.keep _ _ (ar _ zO zO) bd;have r2:l.get (l.next+2)=none:=w1.fresh zO;have bZ:=F.le;obtain ⟨g,a9⟩:∃ g,g=G[j]:=⟨_,rfl⟩
  rw [<- a9] at L hr aP a2;have cd:a.length=g.2.length:=by rw [a6,aP.1]
  by_cases h3:(g.1:Int)=3
  ·obtain ⟨v0,o1,o2,o3⟩:=F.own;obtain ⟨Y,hY⟩:∃ X,X=((l.up 9).put (l.next+2) (.cells [.int .u8 0,.nilSl] ag true)).put (l.next+2) (.cells [.int .u8 3,u] ag true):=⟨_,rfl⟩
   have sY:Sub l Y:=by rw [hY]; exact ((Sub.bump l 9).put r2 _).put r2 _
   have aR:Kp l Y:=by rw [hY]; exact zK
   have kY:=aj.trans aR;have aG:Y.get (l.next+2)=some (.cells [.int .u8 3,u] ag true):=by rw [hY,al]
   have nY:Y.next=l.next+9:=by rw [hY]; rfl
   have F1:=sY.get _ _ V;have F2:=sY.get _ _ E2;have aH:=sY.get _ _ W;have wY:=aR.wf;refine zW (jU b t7 bI bm bn L h3 E3 @jq) ?_;rw [<- hY];clear hY;refine AnsH.use (Jl C wY (ai rn) (ai (decide (lo<0))) bC (ai rn') (ai (decide (hi<0))) bA) ?_;rintro _ s ⟨rfl,be,ci,Q⟩;have w6:=Q.wf;have cj:=Q.le;have G1:=Q.get F1;have G2:=Q.get F2;have ao:=Q.get aH;have aS:=Q.get aG;have o:=kY.trans Q;have b3:=sY.trans Q.sub;refine zW b ?_;refine pJ (fi:=fS) (args:=[.loopv s.next,.ptr Y.next 0]) (by refine zW b ?_; rfl) ?_
   generalize he:Ent.loop _ _ _ _ _ _=e0
   obtain ⟨D',aI⟩:∃ X,X=(s.up 1).put s.next e0:=⟨_,rfl⟩
   rw [<- aI];have f6:s.get s.next=none:=w6.fresh (o0 _)
   have s6:Sub s D':=by rw [aI]; exact (Sub.bump s 1).put f6 _
   have aU:Kp H D':=by rw [aI]; exact zK
   have b0:D'.get s.next=some e0:=by rw [aI,al]
   have cn:D'.next=s.next+1:=by rw [aI]; rfl
   have b7:=aU.wf;clear aI;have aW:=b3.trans s6;obtain ⟨P',ay⟩:∃ P:Nat->Prop,P=fun c=>c<D'.next/\c≠d.next+2/\iz v0≠some c/\c≠s.next:=⟨_,rfl⟩
   have bP:∀ c,P' c->c<D'.next/\c≠d.next+2:=fun c h=>by rw [ay] at h; exact ⟨h.1,h.2.1⟩
   have a3:∀ c e',D'.get c=some e'->c≠d.next+2->c≠s.next->(∀ cs,e' ≠ .cells cs ag true)->P' c:=fun c e' h1 h2 h3 h4=>by
    rw [ay];refine ⟨b7 _ _ h1,h2,fun q=>?_,h3⟩;rcases o2 with ⟨rfl,-⟩ | ⟨b',cells,rfl,a7,-⟩
    ·cases q
    ·cases q;rw [aW.get _ _ a7] at h1; cases h1; exact h4 _ rfl
   have lY:=Q.le;refine (Pu C (H0:=H) (lo:=lo) (hi:=hi) (n:=rn) (n':=rn') (pl:=pl) (ph:=ph) (fun k H'=>H'.get s.next=some e0/\PutS P' H D' (d.next+2) H' ((G.take j).flatMap (putOne x a rn lo rn' hi)++((endsL rn lo rn' hi).take k).map fun z=>Lin.mvG x a z g)) aU ⟨b0,o0 _,fun _ _ _ h=>h,v0,aW.get _ _ o1,by simpa using o2.mono aW,fun c hc hp=>by rw [ay] at hp; exact hp.2.2.1 hc⟩ (fun k A B q h=>⟨q.get h.1,h.2.mono q.sub⟩) (s6.get _ _ be) (bb.mono aU.sub) (ba.mono aU.sub) (a1.sm zO) ?_).mono ?_
   ·rintro i z A p hz aN ⟨ax,a5⟩ bt;rw [<- he] at ax;have wA:=aN.wf;have cq:=wA _ _ ax;refine qB ax rfl ?_;have oz:=bt.one;refine zW (aE b ax) ?_
    generalize aL:Ent.loop _ _ _ _ LoopState.busy none=e2
    obtain ⟨X,hX⟩:∃ X',X'=(((A.up 2).put A.next (.cells [.bool false,.nilSl] aa true)).put A.next (.cells [.bool (decide (z<0)),p] aa true)):=⟨_,rfl⟩
    rw [<- hX];have fA:A.get A.next=none:=wA.fresh (o0 _)
    have sX:Sub A X:=by rw [hX]; exact ((Sub.bump A 2).put fA _).put fA _
    have kX:Kp H X:=by rw [hX]; exact zK
    have cr:X.get A.next=some (.cells [.bool (decide (z<0)),p] aa true):=by rw [hX,al]
    have nX:X.next=A.next+2:=by rw [hX]; rfl
    clear hX;have lX:=sX.get _ _ ax;obtain ⟨Z,hZ⟩:∃ X',X'=X.put s.next e2:=⟨_,rfl⟩
    rw [<- hZ];have kZ:Kp H Z:=by rw [hZ]; exact zK
    have np:¬ P' s.next:=fun h=>by rw [ay] at h; exact h.2.2.2 rfl
    have aK:=(a5.mono sX).put (c:=s.next) (e:=e2) np zO (fun cs r h=>by rw [lX] at h; cases h) (SubT.put fun cs t r _ h=>by rw [lX] at h; cases h);rw [<- hZ] at aK;have zb:Z.get s.next=some e2:=by rw [hZ,al]
    have a0:Z.get A.next=some (.cells [.bool (decide (z<0)),p] aa true):=by rw [hZ,au zO]; exact cr
    have nZ:Z.next=A.next+2:=by rw [hZ]; exact nX
    have bE:SubT [bu,ae] A Z:=by rw [hZ]; exact (sX.t _).trans (SubT.put fun cs t r _ h=>by rw [lX] at h; cases h)
    have wZ:=kZ.wf;clear hZ;have z1:=aK.keep _ _ (a3 _ _ (s6.get _ _ G1) zO zO (fun cs h=>by injection h with _ h2; exact absurd h2 (by decide))) (s6.get _ _ G1);have z2:=aK.keep _ _ (a3 _ _ (s6.get _ _ G2) zO zO (fun cs h=>by injection h with _ h2; exact absurd h2 (by decide))) (s6.get _ _ G2);have aX:=aK.keep _ _ (a3 _ _ (s6.get _ _ ao) zO zO (fun cs h=>by injection h with _ h2; exact absurd h2 (by decide))) (s6.get _ _ ao);have b2:P' (l.next+2):=by
     rw [ay];refine ⟨zO,zO,fun q=>?_,zO⟩;rcases o2 with ⟨rfl,-⟩ | ⟨b',cells,rfl,a7,-⟩
     ·cases q
     ·cases q
      have:=w1 _ _ a7
      omega
    have aZ:=aK.keep _ _ b2 (s6.get _ _ aS);have bz:=Hf a1 bf (Cv hz);refine aF ?_;refine zD (oK b t5 t6 U z1 z2 aX aZ a0 @ap) ?_;have bG:Sub H (Z.up 7):=kZ.sub.trans (Sub.bump Z 7);have ce:(((endsL rn lo rn' hi).take i).map fun z=>Lin.mvG x a z g).length<=2:=by
     have:=(endsL_len rn lo rn' hi).2
     rw [rR,L9]; omega
    have x1:Ans tab (.fn iL [.agg [.int .u8 (3:Int),u],.int .i64 (x:Int),w,.agg [.bool (decide (z<0)),p]]) (Z.up 7) _:=ze C (H:=Z.up 7) (n:=n) (x:=x) (k:=3) (z:=z) (m:=ez) (e:=ea+1) (f:=e+1) zF (ha.mono bG) (hr.mono bG) (IntV.monoT (SubT.of (SubT.upR (m:=7) bE) (by simp)) ⟨p,rfl,bt⟩) a6 aP.1 hx zO a8 a2 bz zO zO;refine AnsH.use x1 ?_;rintro _ H7 ⟨⟨w',rfl,aw⟩,bV⟩;obtain ⟨S,_,w7⟩:=zT Z zK bV;have y1:=S.get z1;have y2:=S.get z2;have bJ:=S.get aX;have bK:=S.get aZ;have bL:=S.get a0;have yb:=S.get zb;refine zD (Ny b t5 t6 U z1 z2 aX aZ a0 y1 y2 bJ bK bL @ap) ?_;refine AnsH.use (rp C (k:=3) (kZ.trans S) zO bP (aK.mono S.sub) aw (by rw [C5]; omega)) ?_;rintro _ H8 ⟨bR,k8,bg⟩;have w8:=k8.wf;have b8:H8.get s.next=some e2:=bg _ _ yb (fun cs r h=>by rw [<- aL] at h; cases h) (fun cs r h=>by rw [<- aL] at h; cases h)
    refine zD (Ny b t5 t6 U z1 z2 aX aZ a0 y1 y2 bJ bK bL @ap) ?_;rw [vS,aL,he];have e1:((endsL rn lo rn' hi).take (i+1)).map (fun z=>Lin.mvG x a z g)=((endsL rn lo rn' hi).take i).map (fun z=>Lin.mvG x a z g)++[(3,Lin.mvR x a z g.2)]:=by
     have h4:g.1=3:=zO;rw [List.take_succ,hz,Xz,<- h4]; rfl
    have b4:SubT [bu,ae] A H8:=bE.trans ((S.sub.t _).trans fun c cs t r ht h=>bg _ _ h (fun bN r' q=>by cases q; revert ht; decide) (fun bN r' q=>by cases q; revert ht; decide));refine ⟨b8,rfl,k8.put zO (w8 _ _ b8),⟨by rw [al],?_⟩,b4.trans (SubT.put fun cs t r _ h=>by rw [b8,<- aL] at h; cases h)⟩;rw [e1,<- YA];exact bR.put np zO (fun cs r h=>by rw [b8,<- aL] at h; cases h) (SubT.put fun cs t r _ h=>by rw [b8,<- aL] at h; cases h)
   ·rintro _ A ⟨aN,ax,a5⟩;have wA:=aN.wf;have cq:=wA _ _ ax;refine .inl ⟨ax,?_⟩;have np:¬ P' s.next:=fun h=>by rw [ay] at h; exact h.2.2.2 rfl
    have e1:putOne x a rn lo rn' hi g=(endsL rn lo rn' hi).map fun z=>Lin.mvG x a z g:=by unfold putOne; rw [if_pos zO]
    have bh:=a5.kill (c:=s.next) np zO (fun cs t r h=>by rw [ax,<- he] at h; cases h);rw [KO,<- e1,a9,<- Bx hj] at bh;have pp:∀ c,P c->P' c:=fun c h=>by
     have q1:=(aJ c h).1;have q2:=(aJ c h).2;rw [ay];exact ⟨zO,q2,fun q=>o3 c q h,zO⟩
    have bS:PutS P H D (d.next+2) _ _:=bh.back zO pp fun c e q hd=>aW.get _ _ (F.keep c e q hd);refine vH ?_;exact ⟨zK,bS⟩
  ·obtain ⟨Y,hY⟩:∃ X,X=((l.up 7).put (l.next+2) (.cells [.int .u8 0,.nilSl] ag true)).put (l.next+2) (.cells [.int .u8 (g.1:Int),u] ag true):=⟨_,rfl⟩
   have sY:Sub l Y:=by rw [hY]; exact ((Sub.bump l 7).put r2 _).put r2 _
   have aR:Kp l Y:=by rw [hY]; exact zK
   have kY:=aj.trans aR;have aG:Y.get (l.next+2)=some (.cells [.int .u8 (g.1:Int),u] ag true):=by rw [hY,al]
   have F1:=sY.get _ _ V;have F2:=sY.get _ _ E2;have aH:=sY.get _ _ W;have wY:=aR.wf;refine zW (dj b bI bm bn L h3) ?_;rw [<- hY];clear hY;refine aF ?_;refine zD (jU b t5 t6 U F1 F2 aH aG @ap) ?_;have x1:Ans tab (.fn iL [.agg [.int .u8 (g.1:Int),u],.int .i64 (x:Int),w,.agg [.bool false,.nilSl]]) (Y.up 7) _:=ze C (H:=Y.up 7) (n:=n) (x:=x) (k:=g.1) (z:=0) (m:=0) (e:=ea+1) (f:=e+1) zF (ha.mono (aj.sub.trans (sY.trans (Sub.bump Y 7)))) (hr.mono (aj.sub.trans (sY.trans (Sub.bump Y 7)))) ⟨.nilSl,rfl,Au _⟩ a6 aP.1 hx zO a8 a2 (Bt.zero 0) zO zO;refine AnsH.use x1 ?_;rintro _ s ⟨⟨w',rfl,aw⟩,Q⟩;obtain ⟨o,_,w6⟩:=zT Y zK Q;have ao:=o.get aH;have G1:=o.get F1;have G2:=o.get F2;have aS:=o.get aG;have bQ:=F.mono (sY.trans o.sub);refine zD (Ih b t5 t6 U F1 F2 aH aG ao G1 G2 aS @ap) ?_;refine AnsH.use (rp C (k:=g.1) (kY.trans o) zO aJ bQ aw zO) ?_;rintro _ H7 ⟨aC,S,-⟩;have w7:=S.wf;refine zD (Ih b t5 t6 U F1 F2 aH aG ao G1 G2 aS @ap) ?_;have e1:putOne x a rn lo rn' hi g=[(g.1,Lin.mvR x a 0 g.2)]:=by unfold putOne; rw [if_neg zO]; rfl
   exact ⟨zK,by rw [Bx hj,<- a9,e1]; exact aC⟩
 ·intro T1 l b ab aj F;have t4:ad T1 4=.ptr H.next 0:=(ab.at_ 4 (by decide)).trans (zV (bB hl I J M O))
  have t5:ad T1 5=.ptr (H.next+1) 0:=(ab.at_ 5 (by decide)).trans (zV (bB hl I J M O));have t7:ad T1 7=.ptr (H.next+3) 0:=(ab.at_ 7 (by decide)).trans (zV (bB hl I J M O));have t8:ad T1 8=.ptr (H.next+4) 0:=(ab.at_ 8 (by decide)).trans (zV (bB hl I J M O));have av:ad T1 12=.ptr (d.next+2) 0:=(ab.at_ 12 (by decide)).trans (zV (bB hl I J M O));have U:ad T1 13=.ptr (d.next+4) 0:=(ab.at_ 13 (by decide)).trans (zV (bB hl I J M O));rw [KO] at F;clear ab hl I J M O
  generalize hR:ACode.seq (ACode.region [_,_,_,_,_,_,_,_]) ACode.ret=R
  have fin:∀ (T9:Tm) (H9:Heap),T9.length=114->ad T9 4=.ptr H.next 0->ad T9 8=.ptr (H.next+4) 0->ad T9 12=.ptr (d.next+2) 0->Kp H H9->PutS P H D (d.next+2) H9 (putL n x a rn lo rn' hi G)->WC tab false R T9 H9 (vT [(8,some (some 3)),(9,none)] fun r H'=>xz H' r n (putL n x a rn lo rn' hi G)/\Kp H H'):=by
   intro T9 H9 l9 g4 g8 bO k9 a4;rw [<- hR];have w9:=k9.wf;have d0:=a4.keep _ _ (ar _ zO zO) D0;have d4:=a4.keep _ _ (ar _ zO zO) D4;obtain ⟨v9,o1,o2,-⟩:=a4.own;have vv:=putL_valid (x:=x) (a:=a) (rn:=rn) (rn':=rn') (lo:=lo) (hi:=hi) ho.own.valid;have cb:=yx bs (fun y hy=>⟨(vv y hy).1,vb y hy⟩);have gb:=tt bs cb;have os:=o2.sl.one;refine zW (bB l9 g4 bO d0 o1) ?_;refine AnsH.use (l8 C (n:=n) (m:=m) (m2:=16*(m+4)) (m3:=16*(16*(m+4)+4)) zF (o2.sl.mono (Kp.sub (H:=H9) zK)) zO (by have:=OF (n:=n) (x:=x) (a:=a) (rn:=rn) (rn':=rn') (lo:=lo) (hi:=hi) hG; omega) vv (L5 bW) vb zO (fun y hy=>(cb y hy).2) zO (fun y hy=>(gb y hy).2) zO bX) ?_;rintro v2 HA ⟨hm,aN⟩;have kA:Kp H9 HA:=Kp.trans zK aN;have wA:=kA.wf;have d8:=kA.get d4;have cq:=wA _ _ d8;have cg:=k9.trans kA;rcases hm with ⟨rfl,hm⟩ | ⟨rfl,hm⟩ | ⟨p,rfl,⟨b5,b6,rfl,bi,bj⟩,h1,h2⟩
   ·refine zW (aO l9 g8 d8 @jj) ?_;exact ⟨.inl ⟨rfl,hm⟩,zK⟩
   ·refine zW (aO l9 g8 d8 @jj) ?_;exact ⟨.inr (.inl ⟨rfl,hm⟩),zK⟩
   ·have co:=bi.one;have cp:=bj.one;refine zW (aO l9 g8 d8 @jj) ?_;refine ⟨.inr (.inr ⟨_,rfl,⟨b5,b6,rfl,?_,?_⟩,h1,h2⟩),zK⟩
    ·have m3:NoTy (t_api_Con :: conE.tys) HA (H.next+4):=NoTy.ty d8 (by decide);exact SlV.monoT (E:=conE) zS bi
    ·have m3:NoTy (ag :: genE.tys) HA (H.next+4):=NoTy.ty d8 (by decide);exact SlV.monoT (E:=genE) zS bj
  clear hR;obtain ⟨v0,o1,o2,o3⟩:=F.own;have ov:=o2.sl.one;have E0:=F.keep _ _ (ar _ zO zO) D0;have V:=F.keep _ _ (ar _ zO zO) D1;have E3:=F.keep _ _ (ar _ zO zO) D3;have W:=F.keep _ _ (ar _ zO zO) bd;have gl:=oV x a rn lo rn' hi G;have w1:=aj.wf;have b1:=aj.le;have bZ:=F.le;by_cases aT:G=[]
  ·have e1:putL n x a rn lo rn' hi G=G.flatMap (putOne x a rn lo rn' hi):=by unfold putL; rw [if_pos aT,X5]
   have e2:((G.flatMap (putOne x a rn lo rn' hi)).length:Int)=0:=by rw [aT]; rfl
   refine zW (bB b av o1 o2.sl.lenV e2) ?_;refine fin _ _ (zV b) (zV (aE b t4)) (zV (aE b t8)) (zV (aE b av)) zK ?_;rw [e1];exact F.mono (Sub.bump _ _)
  ·have e0:putL n x a rn lo rn' hi G=G.flatMap (putOne x a rn lo rn' hi)++putTail n x rn rn':=by unfold putL; rw [if_neg aT]
   have e2:¬ ((G.flatMap (putOne x a rn lo rn' hi)).length:Int)=0:=by
    have:0<G.length:=List.length_pos_iff.2 aT
    omega
   cases rn
   ·cases rn'
    ·refine zW (fX b av o1 o2.sl.lenV e2 t7 E3 @QT) ?_;refine fin _ _ (zV b) (zV (aE b t4)) (zV (aE b t8)) (zV (aE b av)) zK ?_;rw [e0,show putTail n x false false=[] from rfl,X5];exact F.mono (Sub.bump _ _)
    ·refine zW (fX b av o1 o2.sl.lenV e2 t7 E3 @QT) ?_;refine aF ?_;refine zD (fX b t4 t5 U E0 V W @ap) ?_;have x1:Ans tab (.fn il [.int .i64 (n:Int),.int .i64 (x:Int),.int .u8 2,.int .i64 (1)]) (l.up 27) _:=qf C (n:=n) (x:=x) zF zO hx (by decide) (by decide);refine AnsH.use x1 ?_;rintro _ s ⟨⟨w',rfl,aw⟩,Q⟩;obtain ⟨o,_,w6⟩:=zT l zK Q;have G0:=o.get E0;have G1:=o.get V;have ao:=o.get W;refine zD (ia b t4 t5 U E0 V W G0 G1 ao @ap) ?_;refine AnsH.use (rp C (k:=2) (aj.trans o) zO aJ (F.mono o.sub) aw zO) ?_;rintro _ H7 ⟨aC,S,-⟩;have w7:=S.wf;refine zD (ia b t4 t5 U E0 V W G0 G1 ao @ap) ?_;refine fin _ _ (zV b) (zV (aE b t4)) (zV (aE b t8)) (zV (aE b av)) zK ?_;rw [e0];exact aC
   ·cases rn'
    ·refine zW (fX b av o1 o2.sl.lenV e2 t7 E3 @QT) ?_;refine aF ?_;refine zD (fX b t4 t5 U E0 V W @ap) ?_;have x1:Ans tab (.fn il [.int .i64 (n:Int),.int .i64 (x:Int),.int .u8 2,.int .i64 (-1)]) (l.up 23) _:=qf C (n:=n) (x:=x) zF zO hx (by decide) (by decide);refine AnsH.use x1 ?_;rintro _ s ⟨⟨w',rfl,aw⟩,Q⟩;obtain ⟨o,_,w6⟩:=zT l zK Q;have G0:=o.get E0;have G1:=o.get V;have ao:=o.get W;refine zD (ia b t4 t5 U E0 V W G0 G1 ao @ap) ?_;refine AnsH.use (rp C (k:=2) (aj.trans o) zO aJ (F.mono o.sub) aw zO) ?_;rintro _ H7 ⟨aC,S,-⟩;have w7:=S.wf;refine zD (ia b t4 t5 U E0 V W G0 G1 ao @ap) ?_;refine fin _ _ (zV b) (zV (aE b t4)) (zV (aE b t8)) (zV (aE b av)) zK ?_;rw [e0];exact aC
    ·refine zW (fX b av o1 o2.sl.lenV e2 t7 E3 @QT) ?_;refine aF ?_;refine zD (fX b t4 t5 U E0 V W @ap) ?_;have x1:Ans tab (.fn il [.int .i64 (n:Int),.int .i64 (x:Int),.int .u8 1,.int .i64 (1)]) (l.up 19) _:=qf C (n:=n) (x:=x) zF zO hx (by decide) (by decide);refine AnsH.use x1 ?_;rintro _ s ⟨⟨w',rfl,aw⟩,Q⟩;obtain ⟨o,_,w6⟩:=zT l zK Q;have G0:=o.get E0;have G1:=o.get V;have ao:=o.get W;refine zD (ia b t4 t5 U E0 V W G0 G1 ao @ap) ?_;refine AnsH.use (rp C (k:=1) (aj.trans o) zO aJ (F.mono o.sub) aw zO) ?_;rintro _ H7 ⟨aC,S,-⟩;have w7:=S.wf;refine zD (ia b t4 t5 U E0 V W G0 G1 ao @ap) ?_;refine fin _ _ (zV b) (zV (aE b t4)) (zV (aE b t8)) (zV (aE b av)) zK ?_;rw [e0];exact aC
def wH (C:Code tab) (s:Wf H) {v w k:AV} {n e f ea ez x:Nat} {K:List (List Int × Bool)} {G:List (Nat × List Int)} {a:List Int} {rn rn':Bool} {lo hi:Int} (hp:PolyV H v n K G) (j:PolyOK n e f K G) (ha:RowV H w a) (h:a.length=n+1) (d:Lin.Bd (2^ea) a) (m:ItvV H k rn lo rn' hi) (q:eM rn (bF lo) rn' (bF hi)=true) (c:Bt ez lo) (b:Bt ez hi) (hx:x<n) (i:n<=3) (l:G.length<=20) (t:e+ea+ez<=1000) (o:∀ g∈G,g.1=1\/g.1=2\/g.1=3) (p:(Lin.consP n (putL n x a rn lo rn' hi G)).length<=1022\/1024<=(Lin.consP n (putL n x a rn lo rn' hi G)).length) :
  Ans tab (.fn kU [v,.int .i64 (x:Int),w,k]) H fun r H'=>xz H' r n (putL n x a rn lo rn' hi G)/\Kp H H' :=
 V6 C s hp j ha h d m q c b hx i l zO (Kd (x:=x) (rn:=rn) (rn':=rn') i h d (fun y hy=>(j.rowG y hy).2) c b) zO o p
def Uq {a b c d e f x1 x2 g x4 x5 x6:AV} {ty:Nat} (h1:One x1) (h2:One x2) (h3:One g) (h4:One x4) (h5:One x5) (h6:One x6):CS (some (.cells [a,b,c,d,e,f] ty true)) 6 0 (.agg [x1,x2,g,x4,x5,x6])=some (.cells [x1,x2,g,x4,x5,x6] ty true):=by
 simp [CS,AV.cells,h1.2,h2.2,h3.2,h4.2,h5.2,h6.2]
def UO {a b:AV} (ha:One a) (hb:One b):cB [.bool false,.bool false,.nilSl] [((1,2),.agg [a,b])]=some [.bool false,a,b]:=by simp [cB,ha.1,ha.2,hb.1,hb.2,AV.cells]
def Vk {a b:AV} (ha:One a) (hb:One b):cE [.bool false,.bool false,.nilSl] [((1,2),.agg [a,b])]=some (.agg [.bool false,a,b]):=by
 have:=UO ha hb
 simp [cE,this]
def Ph (C:Code tab) (e:Wf H) {v:AV} {z:Int} (hz:IntV H v z) (j:(ah z.natAbs).length<1099511627776) :
  Ans tab (.fn BL [v]) H fun r H'=>(∃ p,r=.agg [.bool false,.bool (decide (z<0)),p]/\bO H' p z.natAbs)/\Kp H H':=by
 obtain ⟨p,rfl,hp⟩:=hz;have op:=hp.one;have bx:=HN (ai (decide (z<0))) op;refine cT C.q64 (by decide) fun T hl c=>?_;refine zW (aD hl c bx) ?_;obtain ⟨X,a⟩:∃ h,h=(((H.up 2).put H.next (.cells [.bool (decide (z<0)),p] aa true)).put (H.next+1) (.cells [.bool false,.bool false,.nilSl] bu true)):=⟨_,rfl⟩
 rw [<- a];have f0:H.get H.next=none:=e.fresh zO
 have f1:H.get (H.next+1)=none:=e.fresh zO;have l:Sub H X:=by rw [a]; exact ((Sub.bump H 2).put f0 _).put f1 _
 have f:Kp H X:=by rw [a]; exact zK
 have d0:X.get H.next=some (.cells [.bool (decide (z<0)),p] aa true):=by rw [a,au zO,al]
 have d1:X.get (H.next+1)=some (.cells [.bool false,.bool false,.nilSl] bu true):=by rw [a,al]
 clear a;have s:=f.wf;refine aF ?_;refine zD (aO hl c d0 @ap) ?_;refine AnsH.use (ie C zF (hp.mono (l.trans (Sub.bump X 8))) j) ?_;rintro q H2 ⟨d,k⟩;obtain ⟨k2,_,m⟩:=zT X zK k;have e0:=k2.get d0;have b:=k2.get d1;have g:=d.one;have o:=m _ _ b;have n:=f.trans k2;have i:=Sg (x:=.bool false) (y:=.nilSl) (ai (decide (z<0))) g;have f3:=Vk (ai (decide (z<0))) g;refine zD (jU hl c d0 e0 b i f3 @jj @ap) ?_;exact ⟨⟨q,rfl,d.monoT (SubT.put_ty b (by decide))⟩,zK⟩
def Vj {a b c d e f:AV} (ha:One a) (hb:One b) (hc:One c) (hd:One d) (he:One e) (g:One f):cE [.bool false,.bool false,.nilSl,.bool false,.bool false,.nilSl] [((0,3),.agg [a,b,c]),((3,3),.agg [d,e,f])]=some (.agg [a,b,c,d,e,f]):=by
 have:cB [.bool false,.bool false,.nilSl,.bool false,.bool false,.nilSl] [((0,3),.agg [a,b,c]),((3,3),.agg [d,e,f])]=some [a,b,c,d,e,f]:=by simp [cB,ha.1,ha.2,hb.1,hb.2,hc.1,hc.2,hd.1,hd.2,he.1,he.2,g.1,g.2,AV.cells]
 simp [cE,this]
set_option maxHeartbeats 1000000 in
def TB (C:Code tab) (O:Wf H) {a b:Int} (h1 : -9223372036854775808<=a) (h2:b<9223372036854775808) (N:a<=b) :
  Ans tab (.fn BM [.int .i64 a,.int .i64 b]) H fun r H'=>(∃ v,r=.tup [v,.int .i64 0]/\ItvV H' v false a false b)/\Kp H H':=by
 refine bA C.q37 (by decide) fun T hl h g=>?_;have hn:¬ b<a:=zO;refine zW (aO hl h g hn) ?_;refine AnsH.use (jk C (n:=a) zF zO zO) ?_;rintro v1 H2 ⟨I,t⟩;obtain ⟨k2,_,U⟩:=zT H zK t;have d0:H2.get H.next=some (.cells [.bool false,.bool false,.nilSl,.bool false,.bool false,.nilSl] aV true):=t.get (cC)
 refine zW (aD hl h g) ?_;have A:(ah a.natAbs).length<1099511627776:=by
  have:=iN (n:=a.natAbs) (m:=64) (k:=1) (show a.natAbs<2^64 by omega) zO
  omega
 have bb:(ah b.natAbs).length<1099511627776:=by
  have:=iN (n:=b.natAbs) (m:=64) (k:=1) (show b.natAbs<2^64 by omega) zO
  omega
 refine AnsH.use (Ph C zF I A) ?_;rintro _ o ⟨⟨p,rfl,hp⟩,E⟩;have k23:Kp H2 o:=E;have P:=k23.le;have w:=k2.trans k23;have w3:=w.wf;have B:=k23.get d0;have op:=hp.one;refine zW (aO hl h g g) ?_;refine AnsH.use (jk C (n:=b) zF zO zO) ?_;rintro v2 s ⟨J,F⟩;have j:Kp o s:=F;have Q:=j.le;have x:=w.trans j;have V:=x.wf;have D:=j.get B;refine zW (aD hl h g) ?_;refine AnsH.use (Ph C zF J bb) ?_;rintro _ z ⟨⟨q,rfl,u⟩,G⟩;have l:Kp s z:=G;have R:=l.le;have K:=x.trans l;have M:=K.wf;have i:=l.get D;have y:=u.one;have S:=M _ _ i;have fb:=Vj (ai false) (ai (decide (a<0))) op (ai false) (ai (decide (b<0))) y;have L:=Uq (a:=.bool false) (b:=.bool false) (c:=.nilSl) (d:=.bool false) (e:=.bool false) (f:=.nilSl) (ty:=aV) (ai false) (ai (decide (a<0))) op (ai false) (ai (decide (b<0))) y;refine zW (fo hl h g fb i L @jq) ?_;exact ⟨⟨_,rfl,p,q,rfl,(hp.mono (j.sub.trans l.sub)).monoT (SubT.put_ty i (by decide)),u.monoT (SubT.put_ty i (by decide))⟩,zK⟩
end
def Xb:fQ (Int × Int) where
 sz:=3
 tys:=[ae]
 R H cs a:=∃ p,cs=[.int .i64 a.1,.bool (decide (a.2<0)),p]/\bO H p a.2.natAbs
 pos:=zO
 len:=by rintro H cs a ⟨p,rfl,h⟩; exact ⟨rfl,by have:=h.one.2; simp [this,(bo .i64 a.1).2,(ai (decide (a.2<0))).2]⟩
 mono:=by rintro H H' cs a hs ⟨p,rfl,h⟩; exact ⟨p,rfl,h.monoT hs⟩
def leP (p q:Int × Int):Prop:=p.1<q.1\/(p.1=q.1/\p.2<=q.2)
def W0 (p q:Int × Int):Int:=if p.1=q.1 then gJ (p.2-q.2) else p.1-q.1
def cmp_lt {p q:Int × Int}:W0 p q<0 ↔ ¬ leP q p:=by
 unfold W0 leP;split
 ·rw [Xk]; omega
 ·omega
def cmp_gt {p q:Int × Int}:0<W0 p q ↔ ¬ leP p q:=by
 unfold W0 leP;split
 ·rw [Ol]; omega
 ·omega
def leP.refl (p:Int × Int):leP p p:=.inr ⟨rfl,Yx _⟩
def leP.trans {p q r:Int × Int} (h:leP p q) (h':leP q r):leP p r:=by unfold leP at *; omega
def leP.total {p q:Int × Int} (h:¬ leP p q):leP q p:=by unfold leP at *; omega
section
variable {tab:Nat->Option aA} {H:Heap}
set_option maxHeartbeats 4000000 in
def V9 (C:Code tab) (E:Wf H) {v:AV} {L:List (Int × Int)} (hs:SlV Xb re H v L) (h0:0<L.length) (W:L.length<=1000) (hL:∀ p∈L,dD p.2 /\ -1<=p.1/\p.1<=1) :
  Ans tab (.fn dG [v,.fn (.func oC) [] []]) H fun r H'=>(∃ m∈L,PlcV H' r m.1 m.2/\∀ y∈L,leP m y)/\Kp H H':=by
 refine bA C.q96 (by decide) fun T hl b c=>?_;have hn:¬ (L.length:Int)<1:=zO;obtain ⟨cs,⟨p0,rfl,K⟩,-,-,s⟩:=hs.at (eA h0);have N:cS 3 v (.int .i64 0)=some (aB v 0):=hs.idx .i64 0 h0;have s:bk H (some 3) (aB v 0)=some (.agg [.int .i64 L[0].1,.bool (decide (L[0].2<0)),p0]):=s;have ld:=Ldd.of E s;have af:=K.one;refine zW (jU hl b c hs.lenV hn N s ld.put @jj) ?_;obtain ⟨X,l⟩:∃ X,X=((((H.up 10).put H.next (.cells [.int .i64 0,.bool false,.nilSl] re true)).put (H.next+7) (.cells [.int .i64 0,.bool false,.nilSl] re true)).put (H.next+7) (.cells [.int .i64 L[0].1,.bool (decide (L[0].2<0)),p0] re true)):=⟨_,rfl⟩
 rw [<- l];have f0:H.get H.next=none:=E.fresh zO
 have V:H.get (H.next+7)=none:=E.fresh zO;have M:Kp H X:=by rw [l]; exact zK
 have S:X.get H.next=some (.cells [.int .i64 0,.bool false,.nilSl] re true):=by rw [l,au zO,au zO,al]
 have U:X.get (H.next+7)=some (.cells [.int .i64 L[0].1,.bool (decide (L[0].2<0)),p0] re true):=by rw [l,al]
 clear l;refine cu H [6] (fun k vs H'=>∃ i:Nat,vs=[.int .i64 (i:Int)]/\1<=i/\i<=L.length/\k=L.length-i/\H'.get H.next=some (.cells [.int .i64 0,.bool false,.nilSl] re true)/\∃ m∈L,∃ p,H'.get (H.next+7)=some (.cells [.int .i64 m.1,.bool (decide (m.2<0)),p] re true)/\bO H' p m.2.natAbs/\∀ j,(h:j<L.length)->j<i->leP m L[j]) (L.length-1) (by simp only [dz]; exact hl) rfl M ⟨1,by refine zW (aD hl b c) ?_; rfl,o0 _,h0,rfl,S,L[0],mQ h0,p0,U,K.mono M.sub,fun j h hj=>by
  have:j=0:=zO
  subst this; exact leP.refl _⟩ ?_
 rintro k T1 a n t o ⟨i,f,Z,i2,Y,G,m,hm,p,g,hp,B⟩;have w1:=o.wf;have ab:=o.le;simp only [uz,B3,Ae,and_true] at f;have t0:ad T1 0=v:=(t.at_ 0 (by decide)).trans (zV (aE hl b));have t1:ad T1 1=.fn (.func oC) [] []:=(t.at_ 1 (by decide)).trans (zV (aO hl b c c));have t4:ad T1 4=.ptr H.next 0:=(t.at_ 4 (by decide)).trans (zV (aD hl b c))
 have t5:ad T1 5=.ptr (H.next+7) 0:=(t.at_ 5 (by decide)).trans (zV (aD hl b c));have op:=hp.one;have ae:=w1 _ _ g;by_cases hi:i<L.length
 ·have z:(i:Int)<(L.length:Int):=zO;obtain ⟨cs,⟨q,rfl,D⟩,-,-,d⟩:=(hs.mono o.sub).at (eA hi);have A:cS 3 v (.int .i64 (i:Int))=some (aB v (i*3)):=hs.idx .i64 i hi;have d:bk a (some 3) (aB v (i*3))=some (.agg [.int .i64 L[i].1,.bool (decide (L[i].2<0)),q]):=d;have oq:=D.one;have u:=Ldd.of w1 d;refine zW (bB n f t0 hs.lenV z) ?_;refine aF ?_;refine zD (jU n f t0 t1 t5 A d u.put g) ?_;refine AnsH.eq (yZ C (be:=L[i].1) (be':=m.1) (x:=L[i].2) (x':=m.2) zF ⟨q,rfl,D.mono (Kp.sub (H:=a) zK)⟩ ⟨p,rfl,hp.mono (Kp.sub (H:=a) zK)⟩ (hL _ (mQ hi)).1 (hL _ hm).1 (hL _ (mQ hi)).2 (hL _ hm).2) fun H2 O=>?_;obtain ⟨k2,_,w2⟩:=zT a zK O;have aa:=o.trans k2;have z0:=k2.get G;have I:=k2.get g;have R:=u.mono k2;have P:=R.ld;have J:IntKind.i64.wrap ((i:Int)+1)=((i+1:Nat):Int):=by rw [wrap_i64] <;> omega
  by_cases hc:W0 L[i] m<0
  ·have w:(if L[i].1=m.1 then gJ (L[i].2-m.2) else L[i].1-m.1)<0:=hc;have hlt:leP L[i] m:=leP.total (cmp_lt.1 hc);have F:∀ j,(h:j<L.length)->j<i+1->leP L[i] L[j]:=fun j h hj=>by
    by_cases e:j=i
    ·subst e; exact leP.refl _
    ·exact hlt.trans (B j h zO)
   refine zD (Ny n f t0 t1 t5 A d u.put g w P I z0 @jj J) ?_;exact ⟨zK,L.length-(i+1),zO,i+1,rfl,zO,zO,rfl,L[i],mQ hi,q,rfl,(D.mono k2.sub).monoT (SubT.put_ty I (by decide)),F⟩
  ·have w:¬ (if L[i].1=m.1 then gJ (L[i].2-m.2) else L[i].1-m.1)<0:=hc;have Q:leP m L[i]:=Nw fun q=>hc (cmp_lt.2 q);have F:∀ j,(h:j<L.length)->j<i+1->leP m L[j]:=fun j h hj=>by
    by_cases e:j=i
    ·subst e; exact Q
    ·exact B j h zO
   refine zD (ia n f t0 t1 t5 A d u.put g w J) ?_;exact ⟨zK,L.length-(i+1),zO,i+1,rfl,zO,zO,rfl,z0,m,hm,p,I,hp.mono (k2.sub.trans (Sub.bump H2 3)),F⟩
 ·have z:¬ (i:Int)<(L.length:Int):=zO;refine zW (oK n f t0 t4 t5 hs.lenV z g G @jj) ?_;refine ⟨⟨m,hm,⟨p,rfl,(hp.mono (Sub.bump a 6)).monoT (SubT.put_ty (show (a.up 6).get H.next=_ from G) (by decide))⟩,fun y hy=>?_⟩,zK⟩
  ·obtain ⟨j,hj,rfl⟩:=U0 hy;exact B j hj zO
set_option maxHeartbeats 4000000 in
def Wa (C:Code tab) (E:Wf H) {v:AV} {L:List (Int × Int)} (hs:SlV Xb re H v L) (h0:0<L.length) (W:L.length<=1000) (hL:∀ p∈L,dD p.2 /\ -1<=p.1/\p.1<=1) :
  Ans tab (.fn eh [v,.fn (.func oC) [] []]) H fun r H'=>(∃ m∈L,PlcV H' r m.1 m.2/\∀ y∈L,leP y m)/\Kp H H':=by
 refine bA C.q99 (by decide) fun T hl b c=>?_;have hn:¬ (L.length:Int)<1:=zO;obtain ⟨cs,⟨p0,rfl,K⟩,-,-,s⟩:=hs.at (eA h0);have N:cS 3 v (.int .i64 0)=some (aB v 0):=hs.idx .i64 0 h0;have s:bk H (some 3) (aB v 0)=some (.agg [.int .i64 L[0].1,.bool (decide (L[0].2<0)),p0]):=s;have ld:=Ldd.of E s;have af:=K.one;refine zW (jU hl b c hs.lenV hn N s ld.put @jj) ?_;obtain ⟨X,l⟩:∃ X,X=((((H.up 10).put H.next (.cells [.int .i64 0,.bool false,.nilSl] re true)).put (H.next+7) (.cells [.int .i64 0,.bool false,.nilSl] re true)).put (H.next+7) (.cells [.int .i64 L[0].1,.bool (decide (L[0].2<0)),p0] re true)):=⟨_,rfl⟩
 rw [<- l];have f0:H.get H.next=none:=E.fresh zO
 have V:H.get (H.next+7)=none:=E.fresh zO;have M:Kp H X:=by rw [l]; exact zK
 have S:X.get H.next=some (.cells [.int .i64 0,.bool false,.nilSl] re true):=by rw [l,au zO,au zO,al]
 have U:X.get (H.next+7)=some (.cells [.int .i64 L[0].1,.bool (decide (L[0].2<0)),p0] re true):=by rw [l,al]
 clear l;refine cu H [6] (fun k vs H'=>∃ i:Nat,vs=[.int .i64 (i:Int)]/\1<=i/\i<=L.length/\k=L.length-i/\H'.get H.next=some (.cells [.int .i64 0,.bool false,.nilSl] re true)/\∃ m∈L,∃ p,H'.get (H.next+7)=some (.cells [.int .i64 m.1,.bool (decide (m.2<0)),p] re true)/\bO H' p m.2.natAbs/\∀ j,(h:j<L.length)->j<i->leP L[j] m) (L.length-1) (by simp only [dz]; exact hl) rfl M ⟨1,by refine zW (aD hl b c) ?_; rfl,o0 _,h0,rfl,S,L[0],mQ h0,p0,U,K.mono M.sub,fun j h hj=>by
  have:j=0:=zO
  subst this; exact leP.refl _⟩ ?_
 rintro k T1 a n t o ⟨i,f,Z,i2,Y,G,m,hm,p,g,hp,B⟩;have w1:=o.wf;have ab:=o.le;simp only [uz,B3,Ae,and_true] at f;have t0:ad T1 0=v:=(t.at_ 0 (by decide)).trans (zV (aE hl b));have t1:ad T1 1=.fn (.func oC) [] []:=(t.at_ 1 (by decide)).trans (zV (aO hl b c c));have t4:ad T1 4=.ptr H.next 0:=(t.at_ 4 (by decide)).trans (zV (aD hl b c))
 have t5:ad T1 5=.ptr (H.next+7) 0:=(t.at_ 5 (by decide)).trans (zV (aD hl b c));have op:=hp.one;have ae:=w1 _ _ g;by_cases hi:i<L.length
 ·have z:(i:Int)<(L.length:Int):=zO;obtain ⟨cs,⟨q,rfl,D⟩,-,-,d⟩:=(hs.mono o.sub).at (eA hi);have A:cS 3 v (.int .i64 (i:Int))=some (aB v (i*3)):=hs.idx .i64 i hi;have d:bk a (some 3) (aB v (i*3))=some (.agg [.int .i64 L[i].1,.bool (decide (L[i].2<0)),q]):=d;have oq:=D.one;have u:=Ldd.of w1 d;refine zW (bB n f t0 hs.lenV z) ?_;refine aF ?_;refine zD (jU n f t0 t1 t5 A d u.put g) ?_;refine AnsH.eq (yZ C (be:=L[i].1) (be':=m.1) (x:=L[i].2) (x':=m.2) zF ⟨q,rfl,D.mono (Kp.sub (H:=a) zK)⟩ ⟨p,rfl,hp.mono (Kp.sub (H:=a) zK)⟩ (hL _ (mQ hi)).1 (hL _ hm).1 (hL _ (mQ hi)).2 (hL _ hm).2) fun H2 O=>?_;obtain ⟨k2,_,w2⟩:=zT a zK O;have aa:=o.trans k2;have z0:=k2.get G;have I:=k2.get g;have R:=u.mono k2;have P:=R.ld;have J:IntKind.i64.wrap ((i:Int)+1)=((i+1:Nat):Int):=by rw [wrap_i64] <;> omega
  by_cases hc:0<W0 L[i] m
  ·have w:0<(if L[i].1=m.1 then gJ (L[i].2-m.2) else L[i].1-m.1):=hc;have hlt:leP m L[i]:=leP.total (cmp_gt.1 hc);have F:∀ j,(h:j<L.length)->j<i+1->leP L[j] L[i]:=fun j h hj=>by
    by_cases e:j=i
    ·subst e; exact leP.refl _
    ·exact (B j h zO).trans hlt
   refine zD (Ny n f t0 t1 t5 A d u.put g w P I z0 @jj J) ?_;exact ⟨zK,L.length-(i+1),zO,i+1,rfl,zO,zO,rfl,L[i],mQ hi,q,rfl,(D.mono k2.sub).monoT (SubT.put_ty I (by decide)),F⟩
  ·have w:¬ 0<(if L[i].1=m.1 then gJ (L[i].2-m.2) else L[i].1-m.1):=hc;have Q:leP L[i] m:=Nw fun q=>hc (cmp_gt.2 q);have F:∀ j,(h:j<L.length)->j<i+1->leP L[j] m:=fun j h hj=>by
    by_cases e:j=i
    ·subst e; exact Q
    ·exact B j h zO
   refine zD (ia n f t0 t1 t5 A d u.put g w J) ?_;exact ⟨zK,L.length-(i+1),zO,i+1,rfl,zO,zO,rfl,z0,m,hm,p,I,hp.mono (k2.sub.trans (Sub.bump H2 3)),F⟩
 ·have z:¬ (i:Int)<(L.length:Int):=zO;refine zW (oK n f t0 t4 t5 hs.lenV z g G @jj) ?_;refine ⟨⟨m,hm,⟨p,rfl,(hp.mono (Sub.bump a 6)).monoT (SubT.put_ty (show (a.up 6).get H.next=_ from G) (by decide))⟩,fun y hy=>?_⟩,zK⟩
  ·obtain ⟨j,hj,rfl⟩:=U0 hy;exact B j hj zO
set_option maxHeartbeats 2000000 in
def C3 (C:Code tab) (hw:Wf H) {v w pl ph:AV} {n e f:Nat} {x:Int} {K:List (List Int × Bool)} {G:List (Nat × List Int)} {l:List (Bool × List Nat)} {rn rn':Bool} {zl zh:Bool × List Nat} (hp:PolyV H v n K G) (F:PolyOK n e f K G) (hs:SlV rawE aa H w l) (E:nr l) (J:Lb H pl zl.2) (I:Lb H ph zh.2) (ll:Lim zl.2) (X:Lim zh.2) (Z:zl.2.length<=1048576) (Y:zh.2.length<=1048576) (Q:de n x≠0\/tW l=false\/eM rn zl rn' zh=false\/gC n l≠0) :
  Ans tab (.fn kU [v,.int .i64 x,w,.agg [.bool rn,.bool zl.1,pl,.bool rn',.bool zh.1,ph]]) H fun r H'=>(∃ c:Int,c≠0/\r=.tup [rr,.int .i64 c])/\Kp H H':=by
 obtain ⟨u,y,rfl,t,hg⟩:=hp;have oc:=t.one;have og:=hg.one;have ow:=hs.one;have ad:=J.one;have ab:=I.one;have ae:=F.dim;have bx:=CM (ai rn) (ai zl.1) ad (ai rn') (ai zh.1) ab;refine Jw C.q6 (by decide) fun T hl a b d g=>?_;refine zW (fX hl a b d g (jS oc og) bx (CL ow)) ?_;refine AnsH.eq (gf C (n:=n) (x:=x) zF ⟨u,y,rfl,t.mono (Kp.sub (H:=H) zK),hg.mono (Kp.sub (H:=H) zK)⟩ F) fun H2 k=>?_;obtain ⟨k2,_,w2⟩:=zT H zK k;have d0:H2.get H.next=some (.cells [.int .i64 (n:Int),u,y] am true):=k.get (cC)
 have d2:H2.get (H.next+2)=some (.cells [w] af true):=k.get (cC);have d3:H2.get (H.next+3)=some (.cells [.bool rn,.bool zl.1,pl,.bool rn',.bool zh.1,ph] aV true):=k.get (cC);have d4:H2.get (H.next+4)=some (.cells [.int .i64 0,.nilSl,.nilSl] am true):=k.get (cC);have al:=w2 _ _ d4;by_cases o:de n x=0
 case neg =>
  refine zW (fX hl a b d g o d4 @jj) ?_;exact ⟨⟨_,o,rfl⟩,zK⟩
 refine zW (fo hl a b d g o d2) ?_;refine AnsH.eq (mj C zF ((hs.mono k2.sub).mono (Kp.sub (H:=H2) zK)) E) fun m R=>?_;obtain ⟨k23,_,_⟩:=zT H2 zK R;have q:Kp H m:=k2.trans k23;have ag:=q.le;have w3:=q.wf;have e3:=k23.get d3;have B:=k23.get d4;have ao:=w3 _ _ B;cases V:tW l with
 | false =>
  have A:(if false=true then (0:Int) else 8)=8:=rfl;refine zW (fX hl a b d g A B @jj) ?_;exact ⟨⟨8,by decide,rfl⟩,zK⟩
 | true =>
 have z0:(if true=true then (0:Int) else 8)=0:=rfl;refine zW (fX hl a b d g z0 e3 @jq) ?_;refine AnsH.eq (tj C (n:=rn) (n':=rn') (z:=zl) (z':=zh) zF ((J.mono q.sub).mono (Kp.sub (H:=m) zK)) ((I.mono q.sub).mono (Kp.sub (H:=m) zK)) ll X Z Y) fun j S=>?_;obtain ⟨W,_,_⟩:=zT m zK S;have p:=k23.trans W;have i:Kp H j:=k2.trans p;have ah:=i.le;have w4:=i.wf;have f0:=p.get d0;have P:=p.get d2;have s:=p.get d4;have ap:=w4 _ _ s;cases hm:eM rn zl rn' zh with
 | false =>
  have A:(if false=true then (0:Int) else 8)=8:=rfl;refine zW (fX hl a b d g A s @jj) ?_;exact ⟨⟨8,by decide,rfl⟩,zK⟩
 | true =>
 have L:¬ gC n l=0:=by
  rcases Q with h | h | h | h
  ·exact absurd o h
  ·rw [V] at h; cases h
  ·rw [hm] at h; cases h
  ·exact h
 refine zW (fX hl a b d g z0 f0 P) ?_;refine AnsH.eq (nH C (n:=n) zF ⟨u,y,rfl,(t.mono i.sub).mono (Kp.sub (H:=j) zK),(hg.mono i.sub).mono (Kp.sub (H:=j) zK)⟩ zO ((hs.mono i.sub).mono (Kp.sub (H:=j) zK)) E) fun O U=>?_;obtain ⟨M,_,_⟩:=zT j zK U;have N:Kp H O:=i.trans M;have aj:=N.le;have w5:=N.wf;have D:=M.get s;have aq:=w5 _ _ D;refine zW (fX hl a b d g L D @jj) ?_;exact ⟨⟨_,L,rfl⟩,zK⟩
end
section
variable {tab:Nat->Option aA} {H:Heap} {s:AV}
end
section
variable {tab:Nat->Option aA} {H:Heap}
end
section
variable {tab:Nat->Option aA} {H:Heap} {s:AV}
end
section
variable {tab:Nat->Option aA} {H:Heap}
set_option maxHeartbeats 1000000 in
def GM (C:Code tab) (s:Wf H) {a b:Int} (h1 : -9223372036854775808<=a) (h2:b<9223372036854775808) (r:a<=b) :
  Ans tab (.fn iC [.int .i64 a,.int .i64 b]) H fun v H'=>ItvV H' v false a false b/\Kp H H':=by
 refine bA C.q12 (by decide) fun T hl m n=>?_;refine zW (aD hl m n) ?_;refine AnsH.use (TB C (a:=a) (b:=b) zF h1 h2 r) ?_;rintro _ H2 ⟨⟨_,rfl,p,q,rfl,hp,o⟩,i⟩;obtain ⟨k2,_,A⟩:=zT H zK i;have x:H.next+10<=H2.next:=i.le
 have d0:H2.get H.next=some (.cells [.bool false,.bool false,.nilSl,.bool false,.bool false,.nilSl] aV true):=i.get (cC)
 have l:H2.get (H.next+7)=none:=i.free (show H.next+7<H.next+10 by omega) (by rw [au zO]; exact s.fresh (b:=H.next+7) zO);have op:=hp.one;have u:=o.one;have w:=Uq (a:=.bool false) (b:=.bool false) (c:=.nilSl) (d:=.bool false) (e:=.bool false) (f:=.nilSl) (ty:=aV) (ai false) (ai (decide (a<0))) op (ai false) (ai (decide (b<0))) u;obtain ⟨g,h⟩:∃ g,g=((H2.up 2).put (H.next+7) (.cells [.bool false,.bool false,.nilSl,.bool false,.bool false,.nilSl] aV true)).put (H.next+7) (.cells [.bool false,.bool (decide (a<0)),p,.bool false,.bool (decide (b<0)),q] aV true):=⟨_,rfl⟩
 have j:Sub H2 g:=by rw [h]; exact ((Sub.bump H2 2).put l _).put l _
 have k:=j.get _ _ d0;have d7:g.get (H.next+7)=some (.cells [.bool false,.bool (decide (a<0)),p,.bool false,.bool (decide (b<0)),q] aV true):=by rw [h,al]
 have t:Kp H g:=by rw [h]; exact zK
 have y:=t.le;have z:g.next=H2.next+2:=by rw [h]; rfl
 refine zW (dj hl m n w d0 @jq) ?_;rw [<- h];refine ⟨⟨p,q,rfl,(hp.mono j).monoT (SubT.put_ty k (by decide)),(o.mono j).monoT (SubT.put_ty k (by decide))⟩,zK⟩
def GN (C:Code tab) (D:Wf H) {v i:AV} {n n':Nat} {c a:List (List Int × Bool)} {g g':List (Nat × List Int)} (hp:PolyV H v n c g) (p:PolyV H i n' a g') (j:c.length<1099511627776) (k:∀ r∈c,r.1.length<1099511627776/\∀ z∈r.1,dD z) (l:g.length<1099511627776) (m:∀ r∈g,r.2.length<1099511627776/\∀ z∈r.2,dD z) :
  Ans tab (.fn iD [v,.int .i64 0,i]) H fun x H'=>x=.bool (decide (n=n'/\c=a/\g=g'))/\Kp H H':=by
 obtain ⟨w,A,rfl,hc,hg⟩:=hp;obtain ⟨y,B,rfl,f,h⟩:=p;have q:=hc.one;have t:=hg.one;have s:=f.one;have u:=h.one;refine lC C.q15 (by decide) fun T hl b d e=>?_;refine zW (dj hl b d e (jS q t) (jS s u)) ?_;refine AnsH.eq (IK C (n:=n) (n':=n') zF ⟨w,A,rfl,hc.mono (Kp.sub (H:=H) zK),hg.mono (Kp.sub (H:=H) zK)⟩ ⟨y,B,rfl,f.mono (Kp.sub (H:=H) zK),h.mono (Kp.sub (H:=H) zK)⟩ j k l m) fun H2 o=>?_;obtain ⟨k2,_,_⟩:=zT H zK o;refine zW (aO hl b d e) ?_;exact zK
end
section
variable {tab:Nat->Option aA} {H:Heap} {s:AV}
def LK {a b:Int} (ha:a.natAbs<=9) (hb:b.natAbs<=9):∀ c∈[(([-a,1]:List Int),false),([b,-1],false)],c.1.length=1+1/\Lin.Bd (2^4) c.1:=fun c hc=>by
 have key:∀ x y:Int,x.natAbs<=9->y.natAbs<=9->Lin.Bd (2^4) [x,y]:=fun x y hx hy i=>by
  match i with
  | 0=>show x.natAbs<=16; omega
  | 1=>show y.natAbs<=16; omega
  | i+2=>simp [Lin.at_]
 rcases FC.1 hc with rfl | hc
 ·exact ⟨rfl,key _ _ zO zO⟩
 ·rw [Ld] at hc; subst hc;exact ⟨rfl,key _ _ hb zO⟩
end
section
variable {tab:Nat->Option aA} {H:Heap}
set_option maxHeartbeats 2000000 in
def oH (C:Code tab) (S:Wf H) {a b:Int} (ha:a.natAbs<=9) (hb:b.natAbs<=9) {g:List (Nat × List Int)} {K:List (List Int × Bool)} (Q:Lin.gensP 1 [([-a,1],false),([b,-1],false)]=g) (R:Lin.consP 1 g=K) (lg:g.length<1024) (Y:K.length<1024) :
  Ans tab (.fn eY [.int .i64 a,.int .i64 b]) H fun v H'=>PolyV H' v 1 K g/\Kp H H':=by
 refine bA C.q14 zU fun T hl i j=>?_;have ea:IntKind.i64.wrap (0-a) = -a:=by rw [wrap_i64] <;> omega
 refine zW (aO hl i j ea) ?_;have e0:Emp (H.up 18) H.next (H.next+18):=Emp.start S
 refine AnsH.use (AN C (l:=[-a,1]) zF (wt (by refine vH ?_; rfl)) (by simp) (by simp; omega)) ?_;rintro v3 H2 ⟨r3,q⟩;obtain ⟨k2,_,w2⟩:=zT H zK q;have d0:H2.get H.next=some (.cells [.int .i64 0,.nilSl,.nilSl] am true):=q.get (cC)
 have o:Emp H2 (H.next+4) (H.next+18):=(((e0.put (p:=H.next) (a':=H.next+1) zO zO).put zO zO).keep q)
 have n2:=o.1;have V:=r3.one;refine zW (aO hl i j (Az V)) ?_;refine AnsH.use (AN C (l:=[b,-1]) zF (wt (by refine vH ?_; rfl)) (by simp) (by simp; omega)) ?_;rintro v5 h ⟨r5,r⟩;obtain ⟨X,_,w3⟩:=zT H zK r;have e3:Emp h (H.next+8) (H.next+18):=(o.put zO zO).keep r;have n3:=e3.1;have I:Sub H2 h:=(o.sub (p:=H.next+7) zO zO).trans r.sub;have W:=r5.one;have N:=I.get _ _ d0;refine zW (aO hl i j (Az W)) ?_;obtain ⟨G3,e⟩:∃ G,G=h.put (H.next+10) (.cells [v3,.bool false,v5,.bool false] t_api_Con true):=⟨_,rfl⟩
 rw [<- e];have z:Emp G3 (H.next+11) (H.next+18):=by rw [e]; exact e3.put zO zO
 have t:Sub h G3:=by rw [e]; exact e3.sub zO zO
 have D:Kp H G3:=by rw [e]; exact zK
 have ad:=D.wf;have ab:=z.1;have O:=t.get _ _ N;have M:SlV conE t_api_Con G3 (.own (H.next+10) 0 2 2 2 true) [([-a,1],false),([b,-1],false)]:=UB (by rw [e]; exact al _ _ _) (r3.mono (I.trans t)) (r5.mono t);have sb:=LK ha hb;have P:=wK (n:=1) zO sb;refine AnsH.use (qj C (n:=1) (m:=4) (m2:=64*(4+4)) zF M zO (by simp) sb zO (fun x hx=>(P x hx).2) zO) ?_;rintro v4 d ⟨f,s⟩;have F:Kp H d:=D.trans s;have Z:=F.le;have w4:=F.wf;have A:Emp d (H.next+11) (H.next+18):=z.keep s;have n4:=A.1;have w:=s.get O;rw [Q] at f;unfold py at f;rw [R] at f;rcases f with ⟨-,f⟩ | ⟨p,rfl,⟨J,L,rfl,hc,hg⟩,-,-⟩
 ·omega
 have oc:=hc.one;have og:=hg.one;obtain ⟨c,k⟩:∃ c,c=((d.up 2).put (H.next+15) (.cells [.int .i64 0,.nilSl,.nilSl] am true)).put (H.next+15) (.cells [.int .i64 ((1:Nat):Int),J,L] am true):=⟨_,rfl⟩
 have B:=A.2 (H.next+15) zO zO;have u:Sub d c:=by rw [k]; exact ((Sub.bump d 2).put B _).put B _
 have y:=u.get _ _ w;have U:Kp H c:=by rw [k]; exact zK
 have aa:=U.le;have n5:c.next=d.next+2:=by rw [k]; rfl
 refine zW (bB hl i j @jj w) ?_;rw [<- k];refine ⟨⟨J,L,rfl,?_,?_⟩,zK⟩
 ·have m3:NoTy (t_api_Con :: conE.tys) c H.next:=NoTy.ty y zU
  exact SlV.monoT (E:=conE) zS (hc.mono u)
 ·have m3:NoTy (ag :: genE.tys) c H.next:=NoTy.ty y zU
  exact SlV.monoT (E:=genE) zS (hg.mono u)
end
section
variable {tab:Nat->Option aA} {H:Heap} {s:AV}
def ok1 {K:List (List Int × Bool)} {G:List (Nat × List Int)} (h1:Lin.gensP 1 K=G) (h2:Lin.consP 1 G=K) (h:(K.all (fun x=>decide (x.1.length=2) && x.1.all (fun a=>decide (a.natAbs<=16))) && G.all (fun x=>x.2.all (fun a=>decide (a.natAbs<=16))) && decide (K.length<=60) && decide (G.length<60))=true):PolyOK 1 4 4 K G:=by
 simp only [Ky,GR,decide_eq_true_eq] at h;obtain ⟨⟨⟨h3,h4⟩,h5⟩,h6⟩:=h;exact ⟨⟨fun c hc=>(h3 c hc).1,h1,h2⟩,zO,.inl h5,zO,fun c hc=>Lin.bd_small4 (GR.2 fun a ha=>decide_eq_true ((h3 c hc).2 a ha)),fun x hx=>Lin.bd_small4 (GR.2 fun a ha=>decide_eq_true (h4 x hx a ha)),zO,zO⟩
def Va:PolyOK 1 4 4 [([-1,1],false),([3,-1],false)] [(3,[1,1]),(3,[1,3])]:=ok1 Lin.g13 Lin.k13 zU
def Uz {H:Heap} {x:AV} {K:List (List Int × Bool)} {G:List (Nat × List Int)} (h:py H x 1 G) (ok:PolyOK 1 4 4 K G):∃ a b,x=.tup [.agg [.int .i64 1,a,b],.int .i64 0]/\SlV conE t_api_Con H a K/\SlV genE ag H b G:=by
 have e:=ok.own.cons;have h1:=ok.many;have h2:=ok.lenK;unfold py at h;rw [e] at h;rcases h with ⟨-,h⟩ | ⟨p,rfl,⟨a,b,rfl,hc,hg⟩,-,-⟩
 ·omega
 ·exact ⟨a,b,rfl,hc,hg⟩
def U4 (a:AV):Prop:=∃ x u w,a=.agg [.int .i64 x,u,w]/\One u/\One w
def EW:U4 rr:=⟨0,.nilSl,.nilSl,rfl,bH,bH⟩
def TellP (H:Heap) (d:Int) (p:AV) (K:List (List Int × Bool)) (G:List (Nat × List Int)):Prop :=
 ∃ n:Nat,d=(n:Int)/\n<=3/\PolyV H p n K G/\Lin.Own n K G/\K.length<1024/\G.length<1024
def TellP.mono {H H':Heap} {d:Int} {p:AV} {K:List (List Int × Bool)} {G:List (Nat × List Int)} (h:TellP H d p K G) (hs:Sub H H'):TellP H' d p K G:=by
 obtain ⟨n,h1,h2,h3,h4⟩:=h;exact ⟨n,h1,h2,h3.mono hs,h4⟩
def TellP.pag {H:Heap} {d:Int} {p:AV} {K:List (List Int × Bool)} {G:List (Nat × List Int)} (h:TellP H d p K G):U4 p:=by
 obtain ⟨n,h1,h2,⟨a,b,rfl,hc,hg⟩,h4⟩:=h;exact ⟨_,_,_,rfl,hc.one,hg.one⟩
def Pc (C:Code tab) (i:Wf H) {d:Int} {l:List xA} (hs:SlV conQE t_api_Con H s l) (gl:∀ r∈l,dZ r.1) (hg:fT 6 l=false) (h3:¬ 3<d) :
  Ans tab (.fn pa [.int .i64 d,s]) H fun v H'=>Kp H H'/\∃ p f,v=.tup [p,.int .i64 f]/\U4 p/\(f=0->∃ K G,TellP H' d p K G):=by
 rcases MT (d:=d) (n:=6) hs gl hg zO zO with g | ⟨n,rfl,o,k,ll,b⟩
 ·refine (Hg C i hs (Js hg) (by have:=(jD hg).1; omega) g).mono ?_;rintro v H2 ⟨rfl,a⟩;exact ⟨a,_,_,rfl,EW,fun e=>absurd e g⟩
 ·have j:=wK zO b;refine (qj C (n:=n) (m:=64) (m2:=64*(64+4)) i k zO (by rw [rR]; omega) b zO (fun x hx=>(j x hx).2) zO).mono ?_;rintro v H2 ⟨hm,a⟩;rcases hm with ⟨rfl,-⟩ | ⟨p,rfl,hp,h1,h2⟩
  ·exact ⟨a,_,_,rfl,EW,fun e=>by cases e⟩
  ·have h:TellP H2 (n:Int) p _ _:=⟨n,rfl,zO,hp,Lin.own_of fun c hc=>(b c hc).1,h2,h1⟩
   exact ⟨a,p,0,rfl,h.pag,fun _=>⟨_,_,h⟩⟩
section
open Lin
end
section
variable {n:Nat} {K K':List (List Int × Bool)} {G G':List (Nat × List Int)}
def Kw {H:Heap} {v:AV} {e f:Nat} (hm:py H v n G) (h:PolyOK n e f K G):∃ a b,v=.tup [.agg [.int .i64 (n:Int),a,b],.int .i64 0]/\SlV conE t_api_Con H a K/\SlV genE ag H b G:=by
 have c:=h.own.cons;have h1:=h.many;have h2:=h.lenK;unfold py at hm;rw [c] at hm;rcases hm with ⟨-,hm⟩ | ⟨p,rfl,⟨a,b,rfl,hc,hg⟩,-,-⟩
 ·omega
 ·exact ⟨a,b,rfl,hc,hg⟩
def J9 {H:Heap} {v:AV} {e f:Nat} {g:List (Nat × List Int)} (hm:xz H v n g) (h:PolyOK n e f (Lin.consP n g) (Lin.gensP n (Lin.consP n g))):∃ a b,v=.tup [.agg [.int .i64 (n:Int),a,b],.int .i64 0]/\SlV conE t_api_Con H a (Lin.consP n g)/\SlV genE ag H b (Lin.gensP n (Lin.consP n g)):=by
 have h2:=h.lenK;rcases hm with ⟨-,hm⟩ | hm
 ·omega
 ·exact Kw hm h
end
end
end Go.Proofs.YteaefaohjlmjdaaGreat.Ev
