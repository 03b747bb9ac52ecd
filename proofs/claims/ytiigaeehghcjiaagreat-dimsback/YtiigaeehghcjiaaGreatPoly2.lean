/- A part. -/
import Derived.Test.YtiigaeehghcjiaaGreatA0
import Derived.Test.YtiigaeehghcjiaaGreatN48
import Derived.Test.YtiigaeehghcjiaaGreatN22
import Derived.Test.YtiigaeehghcjiaaGreatGens
import Derived.Test.YtiigaeehghcjiaaGreatN6
import Derived.Test.YtiigaeehghcjiaaGreatN38
set_option linter.all false
namespace Go.Proofs.YtiigaeehghcjiaaGreat.Lin
section
variable {n:Nat} {l m:List (V × Bool)}
def sX (hne:gensP n l≠[]):(gensR (n+1) (eqsOf l) (ineqsOf n l)).any (fun r=>decide (0<hd1 r))=true:=by
 cases hs:(gensR (n+1) (eqsOf l) (ineqsOf n l)).any (fun r=>decide (0<hd1 r)) with
 | true=>rfl
 | false=>exact absurd (by unfold gensP; rw [if_neg (by rw [hs]; decide)]) hne
def mL (h:∀ c∈l,c.1.length=n+1):gensP n l≠[] ↔ ∃ x,de n l x/\0<hd1 x:=by
 constructor
 ·intro hne
  have:=sX hne
  rw [VS] at this;obtain ⟨r,hr,h0⟩:=this;exact ⟨r,NK h hr,of_decide_eq_true h0⟩
 ·rintro ⟨x,hx,h0⟩ he;have hs:¬ (gensR (n+1) (eqsOf l) (ineqsOf n l)).any (fun r=>decide (0<hd1 r))=true:=fun hs=>by
   have:=(nw hs).2.2
   rw [he] at this;cases this
  have t:=gens_told (eqs_len h) (ineqs_len h);have h1:∀ r∈gensR (n+1) (eqsOf l) (ineqsOf n l),dot (unitC n 1) r=0:=fun r hr=>by
   rw [iC];have h2:=(keepP_iff.1 (NK h hr)).2.1;have h3:¬ 0<hd1 r:=fun h3=>hs (VS.2 ⟨r,hr,by simpa using h3⟩);omega
  have h2:∀ r∈gensL (n+1) (eqsOf l) (ineqsOf n l),dot (unitC n 1) r=0:=fun r hr=>t.dd.lineI r hr _ (mem_ineqs.2 (.inl rfl))
  have:=(t.dd.all x hx).dot_zero t.dd.lenL t.dd.lenR h2 h1
  rw [iC] at this;omega
def cO {c:V × Bool} {g:Nat × V}:jL c g=true ↔ (if c.2=true\/g.1=1 then dot c.1 g.2=0 else 0<=dot c.1 g.2):=by
 unfold jL;by_cases h:c.2=true\/g.1=1
 ·rw [if_pos h,if_pos (by simpa using h)]; simp
 ·rw [if_neg h,if_neg (by simpa using h)]; simp
def zy (h:∀ c∈l,c.1.length=n+1) (hne:gensP n l≠[]) {c:V × Bool}:(∀ g∈gensP n l,jL c g=true) ↔ mm n l c:=by
 constructor
 ·intro b x hx;have t:=gens_told (eqs_len h) (ineqs_len h);have hs:=sX hne;have e:gensP n l=(gensL (n+1) (eqsOf l) (ineqsOf n l)).map (fun r=>(1,r))++(gensR (n+1) (eqsOf l) (ineqsOf n l)).map (fun r=>(kindOf r,r)):=by
   unfold gensP; rw [if_pos hs]
  have hL:∀ r∈gensL (n+1) (eqsOf l) (ineqsOf n l),dot c.1 r=0:=fun r hr=>by
   have:=b (1,r) (by rw [e]; exact WG _ (Vc.2 ⟨r,hr,rfl⟩))
   rw [cO,if_pos (.inr rfl)] at this;exact this
  have a:∀ r∈gensR (n+1) (eqsOf l) (ineqsOf n l),(c.2=true->dot c.1 r=0)/\0<=dot c.1 r:=fun r hr=>by
   have:=b (kindOf r,r) (by rw [e]; exact WZ _ (Vc.2 ⟨r,hr,rfl⟩))
   rw [cO] at this;split at this
   ·exact ⟨fun _=>this,by simp only at this; omega⟩
   ·rename_i hc;exact ⟨fun e=>absurd (.inl e) hc,this⟩
  exact ⟨fun hb=>(t.dd.all x hx).dot_zero t.dd.lenL t.dd.lenR hL fun r hr=>(a r hr).1 hb,(t.dd.all x hx).dot_nonneg t.dd.lenL t.dd.lenR hL fun r hr=>(a r hr).2⟩
 ·intro d g hg;obtain ⟨k1,k2⟩:=qc h hg;exact p8 d k1 k2
def Ud (G:List (Nat × V)) (K:List (V × Bool)):Bool:=G.all fun g=>K.all fun c=>jL c g
def zh {G:List (Nat × V)} {K:List (V × Bool)}:Ud G K=true ↔ ∀ g∈G,∀ c∈K,jL c g=true:=by
 unfold Ud;rw [Vz];exact ⟨fun h g hg=>Vz.1 (h g hg),fun h g hg=>Vz.2 (h g hg)⟩
def vE {x:V} (hx:de n l x) (a:∀ c∈m,mm n l c):de n m x:=by
 have:=keepP_iff.1 hx
 exact keepP_iff.2 ⟨this.1,this.2.1,fun c hc=>⟨(a c hc x hx).1,fun _=>(a c hc x hx).2⟩⟩
structure Own (n:Nat) (K:List (V × Bool)) (G:List (Nat × V)):Prop where
 rows:∀ c∈K,c.1.length=n+1
 gens:gensP n K=G
 cons:consP n G=K
def own_of (h:∀ c∈l,c.1.length=n+1):Own n (consP n (gensP n l)) (gensP n l):=⟨lD (sO h),K3 h,rfl⟩
def Own.valid {K:List (V × Bool)} {G:List (Nat × V)} (h:Own n K G):ValidG n G:=by rw [<- h.gens]; exact Gd h.rows
def Own.point {K:List (V × Bool)} {G:List (Nat × V)} (h:Own n K G) (hne:G≠[]):G.any (fun x=>x.1 == 3)=true:=by
 have:=h.gens; rw [<- this] at hne ⊢; exact HN hne
section
variable {K K' Kr:List (V × Bool)} {G G' Gr:List (Nat × V)}
end
section
variable {g g':List (Nat × V)}
def wL (hg:ValidG n g) (h3:g.any (fun x=>x.1 == 3)=true):gensP n (consP n g)≠[]:=by
 have a:=h3;rw [VS] at a;obtain ⟨x,hx,e⟩:=a;refine (mL (lD fun x hx=>(hg x hx).1)).2 ⟨x.2,(sC hg h3 hx).1,(hg x hx).2.1 (by simpa using e)⟩
def N0 (h3:¬ g.any (fun x=>x.1 == 3)=true):consP n g=[(unitC n (-1),false)]:=by
 unfold consP; rw [if_neg h3]
def KH (hg:ValidG n g):consP n (gensP n (consP n g))=consP n g:=by
 by_cases h3:g.any (fun x=>x.1 == 3)=true
 ·have d:∀ a∈linesOf g,a.length=n+1:=fun a ha=>(hg _ (mem_lines.1 ha)).1;have e2:∀ a∈raysOf g,a.length=n+1:=fun a ha=>by obtain ⟨k,-,h⟩:=mem_rays.1 ha; exact (hg _ h).1
  have t:=gens_told d e2;have hl:=lD (n:=n) (g:=g) fun x hx=>(hg x hx).1;have c:=gens_told (eqs_len hl) (ineqs_len hl);have hne:=wL hg h3;obtain ⟨p1,p2,f⟩:=nw (sX hne);have t3:=gens_told c.dd.lenL c.dd.lenR;have e:∀ y,Keep (n+1) (· ∈ gensL (n+1) (eqsOf (consP n g)) (ineqsOf n (consP n g))) (· ∈ gensR (n+1) (eqsOf (consP n g)) (ineqsOf n (consP n g))) y ↔ Keep (n+1) (· ∈ linesOf g) (· ∈ raysOf g) y:=fun y=>by
   constructor
   ·intro hy;have key:∀ x,de n (consP n g) x->0<=dot y x:=fun x hx=>(c.dd.all x hx).dot_nonneg c.dd.lenL c.dd.lenR (fun l hl=>by rw [dot_comm]; exact hy.eq l hl) (fun r hr=>by rw [dot_comm]; exact hy.ge r hr);refine ⟨hy.len,fun a ha=>?_,fun b hb=>?_⟩
    ·obtain ⟨q1,q2⟩:=sC hg h3 (mem_lines.1 ha);have r1:=key _ q1;have r2:=key _ (q2 rfl);rw [dot_scl] at r2;rw [dot_comm];simp only at r1 r2;omega
    ·obtain ⟨k,-,hm⟩:=mem_rays.1 hb
     have:=key _ (sC hg h3 hm).1
     rw [dot_comm]; exact this
   ·intro hy;have hc:=t.dd.all y hy;have key:∀ x,de n (consP n g) x->0<=dot x y:=fun x hx=>by
     have:=((mO h3 x).1 hx).2
     exact hc.dot_nonneg t.dd.lenL t.dd.lenR (fun l hl=>by rw [dot_comm]; exact this.eq l hl) (fun r hr=>by rw [dot_comm]; exact this.ge r hr)
    refine ⟨hy.len,fun a ha=>?_,fun b hb=>?_⟩
    ·obtain ⟨q1,q2⟩:=Oh hl ha;have r1:=key _ q1;have r2:=key _ q2;rw [eS] at r2;omega
    ·exact key _ (NK hl hb)
  obtain ⟨u1,i⟩:=qQ t3 t e;show (if (gensP n (consP n g)).any (fun x=>x.1 == 3)=true then _ else _)=(if g.any (fun x=>x.1 == 3)=true then _ else _);rw [if_pos f,if_pos h3,p1,p2,u1,i]
 ·rw [N0 h3,pK]; rfl
def own_span (hg:ValidG n g):Own n (consP n g) (gensP n (consP n g)):=⟨lD fun x hx=>(hg x hx).1,rfl,KH hg⟩
def Qb (hg:ValidG n g) (h3:g=[]\/g.any (fun x=>x.1 == 3)=true) {K:List (V × Bool)} (i:∀ c∈K,c.1.length=n+1):Ud (gensP n (consP n g)) K=Ud g K:=by
 rcases h3 with rfl | h3
 ·rw [show consP n []=[(unitC n (-1),false)] from rfl,pK]
 have o:∀ a∈linesOf g,a.length=n+1:=fun a ha=>(hg _ (mem_lines.1 ha)).1;have e2:∀ a∈raysOf g,a.length=n+1:=fun a ha=>by obtain ⟨k,-,h⟩:=mem_rays.1 ha; exact (hg _ h).1
 have t:=gens_told o e2;have hl:=lD (n:=n) (g:=g) fun x hx=>(hg x hx).1;rw [WM,zh,zh];constructor
 ·intro h x hx c hc;have f:=(zy hl (wL hg h3)).1 fun g hg=>h g hg c hc;obtain ⟨q1,q2⟩:=sC hg h3 hx;exact p8 f q1 q2
 ·intro h x hx c hc;have f:mm n (consP n g) c:=fun y hy=>by
   have d:=((mO h3 y).1 hy).2;have j:∀ r∈linesOf g,dot c.1 r=0:=fun r hr=>by
    have:=h _ (mem_lines.1 hr) c hc
    rw [cO,if_pos (.inr rfl)] at this;exact this
   have m:∀ r∈raysOf g,(c.2=true->dot c.1 r=0)/\0<=dot c.1 r:=fun r hr=>by
    obtain ⟨k,d,hm⟩:=mem_rays.1 hr
    have:=h _ hm c hc
    rw [cO] at this;split at this
    ·exact ⟨fun _=>this,by simp only at this; omega⟩
    ·rename_i q;exact ⟨fun e=>absurd (.inl e) q,this⟩
   have k1:Keep (n+1) (· ∈ linesOf g) (· ∈ raysOf g) c.1:=⟨i c hc,fun a ha=>by rw [dot_comm]; exact j a ha,fun b hb=>by rw [dot_comm]; exact (m b hb).2⟩
   have p1:0<=dot c.1 y:=by
    have:=(t.dd.all _ k1).dot_nonneg (a:=y) t.dd.lenL t.dd.lenR (fun l hl=>by rw [dot_comm]; exact d.eq l hl) (fun r hr=>by rw [dot_comm]; exact d.ge r hr)
    rw [dot_comm]; exact this
   refine ⟨fun hb=>?_,p1⟩;have k2:Keep (n+1) (· ∈ linesOf g) (· ∈ raysOf g) (scl (-1) c.1):=⟨ag (i c hc),fun a ha=>by rw [dot_scl,dot_comm,j a ha]; rfl,fun b p=>by rw [dot_scl,dot_comm,(m b p).1 hb]; exact Xg _⟩
   have:=(t.dd.all _ k2).dot_nonneg (a:=y) t.dd.lenL t.dd.lenR (fun l hl=>by rw [dot_comm]; exact d.eq l hl) (fun r hr=>by rw [dot_comm]; exact d.ge r hr)
   rw [dot_scl,dot_comm] at this;omega
  obtain ⟨q1,q2⟩:=qc hl hx;exact p8 f q1 q2
end
section
variable {K K' Kr:List (V × Bool)} {G G' Gr:List (Nat × V)}
end
end
end Go.Proofs.YtiigaeehghcjiaaGreat.Lin
namespace Go.Proofs.YtiigaeehghcjiaaGreat.Ev
open Go Nn
section
variable {tab:Nat->Option au} {H:Heap} {s:AV}
theorem GN {v:AV} (ov:One v) (b:Bool):io (.agg [v,.bool b])=some [v,.bool b]:=by simp [io,AV.cells,ov.2]; rfl
theorem GM {v:AV} (ov:One v) (k:Int):io (.agg [.int .u8 k,v])=some [.int .u8 k,v]:=by simp [io,AV.cells,ov.2]; rfl
def Ew (C:Code tab) (m:Wf H) {cs g:List AV} {x y:List Int × Bool} (hx:conE.R H cs x) (hy:conE.R H g y) (j:x.1.length<1099511627776) (l:∀ z∈x.1,fm z) :
  Ans tab (.fn gZ [.agg cs,.agg g]) H fun v H'=>v=.bool (decide (x=y))/\Kp H H':=by
 obtain ⟨v,rfl,c⟩:=hx;obtain ⟨w,rfl,d⟩:=hy;have ov:=c.one;have h:=d.one;obtain ⟨a,p⟩:=x;obtain ⟨b,q⟩:=y;have c:RowV H v a:=c;have d:RowV H w b:=d;refine bE C.q59 zU fun T hl e f=>?_;by_cases hb:p=q
 ·subst hb;refine zW (fy hl e f (GN ov) (GN h) (beq_self_eq_true (α:=Bool))) ?_;refine AnsH.eq (zw C zF (c.mono (zG H)) (d.mono (zG H)) j l) fun H2 i=>?_;obtain ⟨k2,_,_⟩:=zT H zK i;refine zW (aC hl e f) ?_;exact ⟨by simp,zK⟩
 ·have k:(p == q)=false:=by simpa using hb
  refine zW (fy hl e f (GN ov) (GN h) k) ?_;exact ⟨by simp [hb],zK⟩
def Eu (C:Code tab) (m:Wf H) {cs g:List AV} {x y:Nat × List Int} (hx:genE.R H cs x) (hy:genE.R H g y) (j:x.2.length<1099511627776) (l:∀ z∈x.2,fm z) :
  Ans tab (.fn gY [.agg cs,.agg g]) H fun v H'=>v=.bool (decide (x=y))/\Kp H H':=by
 obtain ⟨v,rfl,c⟩:=hx;obtain ⟨w,rfl,d⟩:=hy;have ov:=c.one;have h:=d.one;obtain ⟨p,a⟩:=x;obtain ⟨q,b⟩:=y;have c:RowV H v a:=c;have d:RowV H w b:=d;refine bE C.q60 zU fun T hl e f=>?_;by_cases hb:p=q
 ·subst hb;refine zW (cn hl e f (GM ov) (GM h)) ?_;refine AnsH.eq (zw C zF (c.mono (zG H)) (d.mono (zG H)) j l) fun H2 i=>?_;obtain ⟨k2,_,_⟩:=zT H zK i;refine zW (aC hl e f) ?_;exact ⟨by simp,zK⟩
 ·have k:¬ (p:Int)=(q:Int):=zO;refine zW (fy hl e f (GM ov) (GM h) k) ?_;exact ⟨by simp [hb],zK⟩
def B7 (C:Code tab) (R:Wf H) {a b:AV} {l m:List (List Int × Bool)} (ha:SlV conE t_api_Con H a l) (hb:SlV conE t_api_Con H b m) (P:l.length<1099511627776) (t:∀ r∈l,r.1.length<1099511627776/\∀ z∈r.1,fm z) :
  Ans tab (.fn aY [a,b,.fn (.func gZ) [] []]) H fun v H'=>v=.bool (decide (l=m))/\Kp H H':=by
 refine mz C.q61 zU fun T hl c d f=>?_;by_cases he:l.length=m.length
 ·have K:lenV b=some (.int .i64 (l.length:Int)):=by rw [hb.lenV,he]
  refine zW (fy hl c d f ha.lenV K) ?_;refine aq H [] (fun j _ _=>∀ q (h:q<l.length) (h':q<m.length),q<j->l[q]=m[q]) (a:=0) (N:=l.length) rfl (by refine zW (aZ hl c d f) ?_; rfl) (zV (aZ hl c d f)) (Vn _) zO (by simp only [U7,hl]; rfl) rfl (fun _ _ _ _ h=>h) zK (fun q _ _ h=>by omega) ?_ ?_
  ·intro j T1 i _ hj g F n k o;have w1:=k.wf;have S:=k.le;have p:j<m.length:=zO;have M:ad T1 15=a:=(n.at_ 15 zU).trans (zV (aB hl c));have t1:ad T1 1=b:=(n.at_ 1 zU).trans (zV (cn hl c d f d));have O:ad T1 2=.fn (.func gZ) [] []:=(n.at_ 2 zU).trans (zV (cn hl c d f f));obtain ⟨_,⟨v,rfl,hr⟩,-,-,L⟩:=(ha.mono k.sub).at (Vb hj);obtain ⟨_,⟨w,rfl,s⟩,-,-,L'⟩:=(hb.mono k.sub).at (Vb p);have L:bc i (some 2) (az a (j*2))=some (.agg [v,.bool l[j].2]):=L;have L':bc i (some 2) (az b (j*2))=some (.agg [w,.bool m[j].2]):=L';have G:cG 2 a (.int .i64 (j:Int))=some (az a (j*2)):=SlV.idx ha .i64 j hj;have I:cG 2 b (.int .i64 (j:Int))=some (az b (j*2)):=SlV.idx hb .i64 j p;have ov:=hr.one;have U:=s.one;have D:=(Ldd.of w1 L).put;have A:=(Ldd.of w1 L).ld;have B:=(Ldd.of w1 L').put;have u:=(Ldd.of w1 L').ld;simp only [U7,hl] at g;refine zW (mo g M t1 O F G I D A B u) ?_;refine AnsH.eq (Ew C (x:=l[j]) (y:=m[j]) zF ⟨v,rfl,hr.mono (zG i)⟩ ⟨w,rfl,s.mono (zG i)⟩ (t _ (Vd hj)).1 (t _ (Vd hj)).2) fun H2 J=>?_;obtain ⟨k2,_,_⟩:=zT H zK J;cases hq:decide (l[j]=m[j]) with
   | true =>
    have hq:=of_decide_eq_true hq;refine zW g ?_;refine ⟨zK,fun q h h' Q=>?_⟩;by_cases e:q=j
    ·subst e; exact hq
    ·exact o q h h' zO
   | false =>
    have hq:=of_decide_eq_false hq;refine zW g ?_;refine ⟨?_,zK⟩;rw [decide_eq_false];intro e; subst e; exact hq rfl
  ·intro T1 i g n k o;simp only [U7,hl] at g;refine zW g ?_;exact ⟨by rw [decide_eq_true (jq he fun q h h'=>o q h h' h)],zK⟩
 ·have E:¬ (l.length:Int)=(m.length:Int):=zO;refine zW (lp hl c d f ha.lenV hb.lenV E he) ?_;refine ⟨?_,zK⟩;rw [decide_eq_false];intro e; subst e; exact he rfl
def B6 (C:Code tab) (R:Wf H) {a b:AV} {l m:List (Nat × List Int)} (ha:SlV genE al H a l) (hb:SlV genE al H b m) (P:l.length<1099511627776) (t:∀ r∈l,r.2.length<1099511627776/\∀ z∈r.2,fm z) :
  Ans tab (.fn aX [a,b,.fn (.func gY) [] []]) H fun v H'=>v=.bool (decide (l=m))/\Kp H H':=by
 refine mz C.q62 zU fun T hl c d f=>?_;by_cases he:l.length=m.length
 ·have K:lenV b=some (.int .i64 (l.length:Int)):=by rw [hb.lenV,he]
  refine zW (fy hl c d f ha.lenV K) ?_;refine aq H [] (fun j _ _=>∀ q (h:q<l.length) (h':q<m.length),q<j->l[q]=m[q]) (a:=0) (N:=l.length) rfl (by refine zW (aZ hl c d f) ?_; rfl) (zV (aZ hl c d f)) (Vn _) zO (by simp only [U7,hl]; rfl) rfl (fun _ _ _ _ h=>h) zK (fun q _ _ h=>by omega) ?_ ?_
  ·intro j T1 i _ hj g F n k o;have w1:=k.wf;have S:=k.le;have p:j<m.length:=zO;have M:ad T1 15=a:=(n.at_ 15 zU).trans (zV (aB hl c));have t1:ad T1 1=b:=(n.at_ 1 zU).trans (zV (cn hl c d f d));have O:ad T1 2=.fn (.func gY) [] []:=(n.at_ 2 zU).trans (zV (cn hl c d f f));obtain ⟨_,⟨v,rfl,hr⟩,-,-,L⟩:=(ha.mono k.sub).at (Vb hj);obtain ⟨_,⟨w,rfl,s⟩,-,-,L'⟩:=(hb.mono k.sub).at (Vb p);have L:bc i (some 2) (az a (j*2))=some (.agg [.int .u8 (l[j].1:Int),v]):=L;have L':bc i (some 2) (az b (j*2))=some (.agg [.int .u8 (m[j].1:Int),w]):=L';have G:cG 2 a (.int .i64 (j:Int))=some (az a (j*2)):=SlV.idx ha .i64 j hj;have I:cG 2 b (.int .i64 (j:Int))=some (az b (j*2)):=SlV.idx hb .i64 j p;have ov:=hr.one;have U:=s.one;have D:=(Ldd.of w1 L).put;have A:=(Ldd.of w1 L).ld;have B:=(Ldd.of w1 L').put;have u:=(Ldd.of w1 L').ld;simp only [U7,hl] at g;refine zW (mo g M t1 O F G I D A B u) ?_;refine AnsH.eq (Eu C (x:=l[j]) (y:=m[j]) zF ⟨v,rfl,hr.mono (zG i)⟩ ⟨w,rfl,s.mono (zG i)⟩ (t _ (Vd hj)).1 (t _ (Vd hj)).2) fun H2 J=>?_;obtain ⟨k2,_,_⟩:=zT H zK J;cases hq:decide (l[j]=m[j]) with
   | true =>
    have hq:=of_decide_eq_true hq;refine zW g ?_;refine ⟨zK,fun q h h' Q=>?_⟩;by_cases e:q=j
    ·subst e; exact hq
    ·exact o q h h' zO
   | false =>
    have hq:=of_decide_eq_false hq;refine zW g ?_;refine ⟨?_,zK⟩;rw [decide_eq_false];intro e; subst e; exact hq rfl
  ·intro T1 i g n k o;simp only [U7,hl] at g;refine zW g ?_;exact ⟨by rw [decide_eq_true (jq he fun q h h'=>o q h h' h)],zK⟩
 ·have E:¬ (l.length:Int)=(m.length:Int):=zO;refine zW (lp hl c d f ha.lenV hb.lenV E he) ?_;refine ⟨?_,zK⟩;rw [decide_eq_false];intro e; subst e; exact he rfl
def CH (C:Code tab) (K:Wf H) {v q:AV} {n n':Nat} {c h:List (List Int × Bool)} {g g':List (Nat × List Int)} (hp:PolyV H v n c g) (D:PolyV H q n' h g') (t:c.length<1099511627776) (u:∀ r∈c,r.1.length<1099511627776/\∀ z∈r.1,fm z) (w:g.length<1099511627776) (y:∀ r∈g,r.2.length<1099511627776/\∀ z∈r.2,fm z) :
  Ans tab (.fn ry [v,q]) H fun x H'=>x=.bool (decide (n=n'/\c=h/\g=g'))/\Kp H H':=by
 obtain ⟨F,I,rfl,hc,hg⟩:=hp;obtain ⟨G,J,rfl,j,k⟩:=D;have l:=hc.one;have o:=hg.one;have m:=j.one;have p:=k.one;refine bE C.q35 zU fun T hl a d=>?_;by_cases hn:n=n'
 ·subst hn;refine zW (cn hl a d (py l o) (py m p)) ?_;refine AnsH.eq (B7 C zF (hc.mono (zG H)) (j.mono (zG H)) t u) fun H2 i=>?_;obtain ⟨k2,_,M⟩:=zT H zK i;have d0:=i.get (b:=H.next) (e:=.cells [.int .i64 (n:Int),F,I] aj true) (cY);have d1:=i.get (b:=H.next+1) (e:=.cells [.int .i64 (n:Int),G,J] aj true) (cY);by_cases f:c=h
  ·rw [decide_eq_true f];refine zW (cn hl a d d0 d1) ?_;refine AnsH.eq (B6 C zF ((hg.mono k2.sub).mono (zG H2)) ((k.mono k2.sub).mono (zG H2)) w y) fun s A=>?_;have E:Kp H s:=k2.trans (Kp.trans zK A);have L:=E.le;refine zW (aC hl a d) ?_;exact ⟨by simp [f],zK⟩
  ·rw [decide_eq_false f];refine zW (aC hl a d) ?_;exact ⟨by simp [f],zK⟩
 ·have B:¬ (n:Int)=(n':Int):=zO;refine zW (fy hl a d (py l o) (py m p) B) ?_;exact ⟨by simp [hn],zK⟩
end
section
open Lin
def Cj {r:V} (h:∀ z∈r.map fd,z.2.length<=1):Bd (2^64) r:=fun i=>by
 unfold at_;rw [U8];cases hi:r[i]? with
 | none=>simp
 | some z =>
  have h1:=h (fd z) (Vc.2 ⟨z,Vr hi,rfl⟩);have h2:z.natAbs<B^1:=xo (n:=z.natAbs) h1;have h3:B^1=2^64:=by decide
  simp only [Wo];omega
def El {c:List (V × Bool)} {g:List (Nat × V)} (h:oN c g=false):(c.length<=9/\∀ x∈c,x.1.length<=5/\Bd (2^64) x.1)/\g.length<=9/\∀ x∈g,x.2.length<=5/\Bd (2^64) x.2:=by
 unfold oN at h;rw [XG] at h;obtain ⟨h1,h2⟩:=jO h.1;obtain ⟨h3,a⟩:=AN h.2;rw [Vf] at h1 h3;refine ⟨⟨h1,fun x hx=>?_⟩,h3,fun x hx=>?_⟩
 ·obtain ⟨q1,q2⟩:=h2 _ (Vc.2 ⟨x,hx,rfl⟩);simp only [Vf] at q1;exact ⟨q1,Cj q2⟩
 ·obtain ⟨q1,q2⟩:=a _ (Vc.2 ⟨x,hx,rfl⟩);simp only [Vf] at q1;exact ⟨q1,Cj q2⟩
def LC {n:Nat} {l:List (V × Bool)}:∀ x∈gensP n l,x.1=1\/x.1=2\/x.1=3:=fun x hx=>by
 unfold gensP at hx;split at hx
 ·rcases Vx.1 hx with hx | hx
  ·obtain ⟨r,hr,rfl⟩:=Vc.1 hx;exact .inl rfl
  ·obtain ⟨r,hr,rfl⟩:=Vc.1 hx;show kindOf r=1\/kindOf r=2\/kindOf r=3;unfold kindOf;split <;> simp
 ·cases hx
end
section
variable {tab:Nat->Option au} {H:Heap} {s:AV}
structure PolyOK (n e f:Nat) (K:List (List Int × Bool)) (G:List (Nat × List Int)):Prop where
 own:Lin.Own n K G
 dim:n<=4
 few:K.length<=60\/K.length<=1022/\G.length<=60
 many:G.length<1024
 bK:∀ c∈K,Lin.Bd (2^f) c.1
 bG:∀ x∈G,Lin.Bd (2^e) x.2
 e3:e<=300000
 f3:f<=300000
section
variable {n e f:Nat} {K:List (List Int × Bool)} {G:List (Nat × List Int)}
def PolyOK.rowK (h:PolyOK n e f K G):∀ c∈K,c.1.length=n+1/\Lin.Bd (2^f) c.1:=fun c hc=>⟨h.own.rows c hc,h.bK c hc⟩
def PolyOK.rowG (h:PolyOK n e f K G):∀ x∈G,x.2.length=n+1/\Lin.Bd (2^e) x.2:=fun x hx=>⟨(h.own.valid x hx).1,h.bG x hx⟩
def PolyOK.kinds (h:PolyOK n e f K G):∀ x∈G,x.1=1\/x.1=2\/x.1=3:=fun x hx=>LC (n:=n) (l:=K) x (by rw [h.own.gens]; exact hx)
def PolyOK.smK (h:PolyOK n e f K G):∀ r∈K,r.1.length<1099511627776/\∀ z∈r.1,fm z:=fun r hr=>⟨by rw [(h.rowK r hr).1]; have:=h.dim; omega,fun z a=>(ml (h.rowK r hr).2 z a).sm (by have:=h.f3; omega)⟩
def PolyOK.smG (h:PolyOK n e f K G):∀ r∈G,r.2.length<1099511627776/\∀ z∈r.2,fm z:=fun r hr=>⟨by rw [(h.rowG r hr).1]; have:=h.dim; omega,fun z a=>(ml (h.rowG r hr).2 z a).sm (by have:=h.e3; omega)⟩
def PolyOK.lenK (h:PolyOK n e f K G):K.length<=1022:=by rcases h.few with h | h <;> omega
end
set_option maxHeartbeats 4000000 in
def uj (C:Code tab) (B:Wf H) {v:AV} {n e f:Nat} {K:List (List Int × Bool)} {G:List (Nat × List Int)} (hp:PolyV H v n K G) (a:PolyOK n e f K G) :
  Ans tab (.fn pR [v]) H fun x H'=>x=.int .i64 0/\Kp H H':=by
 obtain ⟨u,w,rfl,hc,hg⟩:=hp;have D:=hc.one;have E:=hg.one;have F:=a.lenK;have Q:=a.many;have t:Lin.gensP n K=G:=a.own.gens;have k:Lin.consP n G=K:=a.own.cons;have e3:=a.e3;have f3:=a.f3;have smK:=a.smK;have smG:=a.smG;refine cz C.q14 zU fun T hl l=>?_;by_cases q1:(K.length:Int)<=60
 ·refine zW (cn hl l (py D E) hc.lenV q1) ?_;refine AnsH.use (kT C (n:=n) (m:=f) (m2:=e) zF (hc.mono (zG H)) a.dim zO a.rowK f3 (by rw [t]; exact a.bG) e3) ?_;rintro v H2 ⟨hm,d⟩;obtain ⟨k2,_,O⟩:=zT H zK d;have L:H.next+17<=H2.next:=d.le
  have d0:H2.get H.next=some (.cells [.int .i64 (n:Int),u,w] aj true):=d.get (cY)
  have f2:H2.get (H.next+14)=none:=d.free (show H.next+14<H.next+17 by omega) (by rw [aw zO]; exact B.fresh (b:=H.next+14) zO);rw [t] at hm;unfold sj at hm;rw [k] at hm;rcases hm with ⟨-,hm⟩ | ⟨p,rfl,⟨r,s,rfl,o,q⟩,-,-⟩
  ·omega
  have M:=o.one;have N:=q.one;obtain ⟨c,i⟩:∃ c,c=((H2.up 7).put (H.next+14) (.cells [.int .i64 0,.nilSl,.nilSl] aj true)).put (H.next+14) (.cells [.int .i64 (n:Int),r,s] aj true):=⟨_,rfl⟩
  have g:Sub H2 c:=by rw [i]; exact ((Sub.bump H2 7).put f2 _).put f2 _
  have j:Kp H c:=by rw [i]; exact zK
  have I:=j.le;have P:=j.wf;refine zW (aZ hl l @oQ d0) ?_;rw [<- i];refine AnsH.eq (CH C zF ⟨u,w,rfl,(hc.mono k2.sub).mono g,(hg.mono k2.sub).mono g⟩ ⟨r,s,rfl,o.mono g,q.mono g⟩ zO smK zO smG) fun y z=>?_;have A:Kp H y:=j.trans z;have J:=A.le;rw [decide_eq_true ⟨rfl,rfl,rfl⟩];refine zW (aB hl l) ?_;exact zK
 ·have q2:(G.length:Int)<=60:=by rcases a.few with h | h <;> omega
  refine zW (ip hl l (py D E) hc.lenV q1 hg.lenV q2) ?_;refine AnsH.use (vO C (n:=n) (m:=e) (m2:=f) (m3:=e) zF (hg.mono (zG H)) a.dim zO a.own.valid a.kinds a.bG e3 (by rw [k]; exact a.bK) f3 (by rw [k,t]; exact a.bG) e3 (by rw [k]; exact .inl F)) ?_;rintro v H2 ⟨hm,d⟩;obtain ⟨k2,_,O⟩:=zT H zK d;have L:H.next+21<=H2.next:=d.le
  have d0:H2.get H.next=some (.cells [.int .i64 (n:Int),u,w] aj true):=d.get (cY)
  have f2:H2.get (H.next+18)=none:=d.free (show H.next+18<H.next+21 by omega) (by rw [aw zO]; exact B.fresh (b:=H.next+18) zO);unfold Db sj at hm;rw [k,t,k] at hm;rcases hm with ⟨-,hm⟩ | ⟨-,hm⟩ | ⟨p,rfl,⟨r,s,rfl,o,q⟩,-,-⟩
  ·omega
  ·omega
  have M:=o.one;have N:=q.one;obtain ⟨c,i⟩:∃ c,c=((H2.up 7).put (H.next+18) (.cells [.int .i64 0,.nilSl,.nilSl] aj true)).put (H.next+18) (.cells [.int .i64 (n:Int),r,s] aj true):=⟨_,rfl⟩
  have g:Sub H2 c:=by rw [i]; exact ((Sub.bump H2 7).put f2 _).put f2 _
  have j:Kp H c:=by rw [i]; exact zK
  have I:=j.le;have P:=j.wf;refine zW (aZ hl l @oQ d0) ?_;rw [<- i];refine AnsH.eq (CH C zF ⟨u,w,rfl,(hc.mono k2.sub).mono g,(hg.mono k2.sub).mono g⟩ ⟨r,s,rfl,o.mono g,q.mono g⟩ zO smK zO smG) fun y z=>?_;have A:Kp H y:=j.trans z;have J:=A.le;rw [decide_eq_true ⟨rfl,rfl,rfl⟩];refine zW (aB hl l) ?_;exact zK
end
end Go.Proofs.YtiigaeehghcjiaaGreat.Ev
namespace Go.Proofs.YtiigaeehghcjiaaGreat.Lin
def g13:gensP 1 [([-1,1],false),([3,-1],false)]=[(3,[1,1]),(3,[1,3])]:=by
 have r:(gensU 2 [] [[1,0],[-1,1],[3,-1]]).rays.map (restF (gensL 2 [] [[1,0],[-1,1],[3,-1]]))=[[1,1],[1,3]]:=by decide +kernel
 have e:gensL 2 [] [[1,0],[-1,1],[3,-1]]=[]:=by decide +kernel
 have g:gensR 2 [] [[1,0],[-1,1],[3,-1]]=[[1,1],[1,3]]:=by
  unfold gensR;rw [r]; simp [List.mergeSort,List.MergeSort.Internal.splitInTwo,cmpV]
 have h1:eqsOf ([([-1,1],false),([3,-1],false)]:List (V × Bool))=[]:=rfl;have h2:ineqsOf 1 ([([-1,1],false),([3,-1],false)]:List (V × Bool))=[[1,0],[-1,1],[3,-1]]:=rfl;unfold gensP;rw [h1,h2,e,g];rfl
def k13:consP 1 [(3,[1,1]),(3,[1,3])]=[([-1,1],false),([3,-1],false)]:=by
 have r:(gensU 2 [] [[1,1],[1,3]]).rays.map (restF (gensL 2 [] [[1,1],[1,3]]))=[[3,-1],[-1,1]]:=by decide +kernel
 have e:gensL 2 [] [[1,1],[1,3]]=[]:=by decide +kernel
 have g:gensR 2 [] [[1,1],[1,3]]=[[-1,1],[3,-1]]:=by
  unfold gensR;rw [r]; simp [List.mergeSort,List.MergeSort.Internal.splitInTwo,cmpV]
 have h1:linesOf ([(3,[1,1]),(3,[1,3])]:List (Nat × V))=[]:=rfl;have h2:raysOf ([(3,[1,1]),(3,[1,3])]:List (Nat × V))=[[1,1],[1,3]]:=rfl;unfold consP;rw [h1,h2,e,g];decide
def b0:gensP 1 [([-1,1],false),([3,-1],false),([-4,1],false),([9,-1],false)]=[]:=by
 have r:(gensU 2 [] [[1,0],[-1,1],[3,-1],[-4,1],[9,-1]]).rays.map (restF (gensL 2 [] [[1,0],[-1,1],[3,-1],[-4,1],[9,-1]]))=[]:=by decide +kernel
 have e:gensL 2 [] [[1,0],[-1,1],[3,-1],[-4,1],[9,-1]]=[]:=by decide +kernel
 have g:gensR 2 [] [[1,0],[-1,1],[3,-1],[-4,1],[9,-1]]=[]:=by
  unfold gensR;rw [r]; simp
 have h1:eqsOf ([([-1,1],false),([3,-1],false),([-4,1],false),([9,-1],false)]:List (V × Bool))=[]:=rfl;have h2:ineqsOf 1 ([([-1,1],false),([3,-1],false),([-4,1],false),([9,-1],false)]:List (V × Bool))=[[1,0],[-1,1],[3,-1],[-4,1],[9,-1]]:=rfl;unfold gensP;rw [h1,h2,e,g];rfl
def k23:consP 1 [(3,[1,2]),(3,[1,3])]=[([-2,1],false),([3,-1],false)]:=by
 have r:(gensU 2 [] [[1,2],[1,3]]).rays.map (restF (gensL 2 [] [[1,2],[1,3]]))=[[3,-1],[-2,1]]:=by decide +kernel
 have e:gensL 2 [] [[1,2],[1,3]]=[]:=by decide +kernel
 have g:gensR 2 [] [[1,2],[1,3]]=[[-2,1],[3,-1]]:=by
  unfold gensR;rw [r]; simp [List.mergeSort,List.MergeSort.Internal.splitInTwo,cmpV]
 have h1:linesOf ([(3,[1,2]),(3,[1,3])]:List (Nat × V))=[]:=rfl;have h2:raysOf ([(3,[1,2]),(3,[1,3])]:List (Nat × V))=[[1,2],[1,3]]:=rfl;unfold consP;rw [h1,h2,e,g];decide
def k15:consP 1 [(3,[1,1]),(3,[1,5])]=[([-1,1],false),([5,-1],false)]:=by
 have r:(gensU 2 [] [[1,1],[1,5]]).rays.map (restF (gensL 2 [] [[1,1],[1,5]]))=[[5,-1],[-1,1]]:=by decide +kernel
 have e:gensL 2 [] [[1,1],[1,5]]=[]:=by decide +kernel
 have g:gensR 2 [] [[1,1],[1,5]]=[[-1,1],[5,-1]]:=by
  unfold gensR;rw [r]; simp [List.mergeSort,List.MergeSort.Internal.splitInTwo,cmpV]
 have h1:linesOf ([(3,[1,1]),(3,[1,5])]:List (Nat × V))=[]:=rfl;have h2:raysOf ([(3,[1,1]),(3,[1,5])]:List (Nat × V))=[[1,1],[1,5]]:=rfl;unfold consP;rw [h1,h2,e,g];decide
def bd_small4 {x:V} (h:x.all (fun a=>decide (a.natAbs<=16))=true):Bd (2^4) x:=fun i=>by
 by_cases hi:i<x.length
 ·have:at_ x i=x[i]:=by simp [at_,hi]
  rw [this]
  simpa using Vz.1 h _ (Vd hi)
 ·have:at_ x i=0:=by simp [at_,hi]
  rw [this]; simp
end Go.Proofs.YtiigaeehghcjiaaGreat.Lin
namespace Go.Proofs.YtiigaeehghcjiaaGreat.Ev
open Go Nn
section
variable {tab:Nat->Option au} {H:Heap} {s:AV}
def FC (C:Code tab) (k:Wf H) {v:AV} {n:Nat} {c:List (List Int × Bool)} {g:List (Nat × List Int)} (hp:PolyV H v n c g) :
  Ans tab (.fn fM [v]) H fun x H'=>x=.bool (oN c g || decide (4<n))/\Kp H H':=by
 obtain ⟨f,h,rfl,hc,hg⟩:=hp;have i:=hc.one;have j:=hg.one;refine cz C.q34 zU fun T hl a=>?_;refine zW (aC hl a (py i j)) ?_;refine AnsH.eq (FD C (n:=n) (c:=c) (g:=g) zF ⟨f,h,rfl,hc.mono (zG H),hg.mono (zG H)⟩) fun H2 d=>?_;obtain ⟨k2,_,_⟩:=zT H zK d;have d0:=d.get (b:=H.next) (e:=.cells [.int .i64 (n:Int),f,h] aj true) (cY);have e:decide ((4:Int)<(n:Int))=decide (4<n):=by rw [WM]; simp; omega
 cases hq:oN c g with
 | true =>
  refine zW (aB hl a) ?_;exact ⟨by simp,zK⟩
 | false =>
  refine zW (aC hl a d0) ?_;exact ⟨by simp [e],zK⟩
def pI (C:Code tab) (B:Wf H) {v h:AV} {n n':Nat} {c a:List (List Int × Bool)} {g g':List (Nat × List Int)} (hp:PolyV H v n c g) (o:PolyV H h n' a g') (i:c.length<1099511627776) (j:∀ r∈c,r.1.length<1099511627776/\∀ z∈r.1,fm z) (k:g.length<1099511627776) (l:∀ r∈g,r.2.length<1099511627776/\∀ z∈r.2,fm z) :
  Ans tab (.fn gy [v,h]) H fun x H'=>x=.bool (decide (n=n'/\c=a/\g=g'))/\Kp H H':=by
 obtain ⟨u,y,rfl,hc,hg⟩:=hp;obtain ⟨w,A,rfl,e,f⟩:=o;have p:=hc.one;have s:=hg.one;have q:=e.one;have t:=f.one;refine bE C.q5 zU fun T hl b d=>?_;refine zW (cn hl b d (py p s) (py q t)) ?_;refine AnsH.eq (HH C (n:=n) (n':=n') zF ⟨u,y,rfl,hc.mono (zG H),hg.mono (zG H)⟩ ⟨w,A,rfl,e.mono (zG H),f.mono (zG H)⟩ i j k l) fun H2 m=>?_;obtain ⟨k2,_,_⟩:=zT H zK m;refine zW (aC hl b d) ?_;exact zK
end
open Go
def EX {tab:Nat->Option au} {rd:Bool} {c:ACode} {T:Tm} {H:Heap} {K:Ex->Tm->Heap->Prop} (p:Tm->Prop) (hp:p T) (h:∀ T',p T'->WC tab rd c T' H K):WC tab rd c T H K:=h T hp
def ka {tab:Nat->Option au} {rd:Bool} {c:ACode} {T:Tm} {H:Heap} {K:Ex->Tm->Heap->Prop} (p:Tm->Prop) (hp:p T) (h:∀ T',p T'->WB tab rd c T' H K):WB tab rd c T H K:=h T hp
structure Kx (b:Nat) (H H':Heap):Prop where
 wf0:Wf H
 wf:Wf H'
 le:H.next<=H'.next
 same:∀ c,c<H.next->c≠b->H'.get c=H.get c
section
variable {b:Nat} {H0 H H' H'':Heap}
def Kx.of (h:Kp H H'):Kx b H H':=⟨h.wf0,h.wf,h.le,fun c hc _=>h.same c hc⟩
def Kx.trans (h:Kx b H H') (h':Kx b H' H''):Kx b H H'':=⟨h.wf0,h'.wf,Vq h.le h'.le,fun c hc hb=>(h'.same c (Vu hc h.le) hb).trans (h.same c hc hb)⟩
def Kx.put (h:Kx b H H') (hb:b<H'.next) (e:Ent):Kx b H (H'.put b e):=⟨h.wf0,h.wf.put hb e,h.le,fun c hc hne=>by rw [aw hne]; exact h.same c hc hne⟩
def Kx.up (h:Kx b H H') (k:Nat):Kx b H (H'.up k):=⟨h.wf0,h.wf.bump k,Vq h.le (VI _ _),h.same⟩
def Kx.kp (h:Kx b H H') (a:Kp H0 H) (hb:H0.next<=b):Kp H0 H':=⟨a.wf0,h.wf,Vq a.le h.le,fun c hc=>(h.same c (Vu hc a.le) zO).trans (a.same c hc)⟩
def Kx.get (h:Kx b H H') {c:Nat} {e:Ent} (hc:H.get c=some e) (hb:c≠b):H'.get c=some e:=(h.same c (h.wf0 _ _ hc) hb).trans hc
def Kx.subT (h:Kx b H H') {tys:List Nat} {cs:List AV} {ty:Nat} {r:Bool} (hb:H.get b=some (.cells cs ty r)) (a:ty ∉ tys):SubT tys H H':=fun c ds t d hm hc=>h.get hc fun e=>by
 subst e; rw [hb] at hc; cases hc; exact a hm
end
section
variable {tab:Nat->Option au} {H:Heap}
def PlcV (H:Heap) (v:AV) (be x:Int):Prop:=∃ p,v=.agg [.int .i64 be,.bool (decide (x<0)),p]/\cm H p x.natAbs
def ItvV (H:Heap) (v:AV) (n:Bool) (x:Int) (n':Bool) (y:Int):Prop:=∃ p q,v=.agg [.bool n,.bool (decide (x<0)),p,.bool n',.bool (decide (y<0)),q]/\cm H p x.natAbs/\cm H q y.natAbs
def ItvV.mono {H H':Heap} (hs:Sub H H') {v:AV} {n n':Bool} {x y:Int} (h:ItvV H v n x n' y):ItvV H' v n x n' y:=by
 obtain ⟨p,q,rfl,h1,h2⟩:=h;exact ⟨p,q,rfl,h1.mono hs,h2.mono hs⟩
def PlcV.mono {H H':Heap} (hs:Sub H H') {v:AV} {be x:Int} (h:PlcV H v be x):PlcV H' v be x:=by
 obtain ⟨p,rfl,h1⟩:=h;exact ⟨p,rfl,h1.mono hs⟩
end
end Go.Proofs.YtiigaeehghcjiaaGreat.Ev
namespace Go.Proofs.YtiigaeehghcjiaaGreat.Lin
section
variable {n x:Nat} {a:V}
end
end Go.Proofs.YtiigaeehghcjiaaGreat.Lin
namespace Go.Proofs.YtiigaeehghcjiaaGreat.Ev
open Go Nn
section
variable {tab:Nat->Option au} {H:Heap} {s:AV}
def Dc (C:Code tab) (i:Wf H) {l:List Int} (hs:RowV H s l) (h0:0<l.length) (k:l.length<1099511627776):Ans tab (.fn da [s]) H fun v H'=>Kp H H'/\∃ b,Own intE aa H H' b false v l:=by
 refine cz C.q36 zU fun T hl a=>?_;rcases hs.nilcase with ⟨rfl,rfl⟩ | hne
 ·simp at h0
 ·have e:cP ([]:List AV) []=some []:=rfl;refine zW (aZ hl a hne e) ?_;have k1:Kp H ((H.up 7).put (H.next+3) (.cells [] aa true)):=zK;have o:=k1.le;have f:Own intE aa H ((H.up 7).put (H.next+3) (.cells [] aa true)) (H.next+3) true (.own (H.next+3) 0 0 0 2 true) ([]:List Int):=⟨_,rfl,am _ _ _,Cells.nil _ _,zO⟩
  obtain ⟨j,H2,c,h2,g,m,n,h⟩:=SlV.app (l:=[]) (id:=H.next+5) (bytes:=32) f.sl k1 (hs.mono k1.sub) zO (by show _<H.next+7; omega) (by rw [aw zO]; exact i.fresh (b:=H.next+5) zO) (by simp; omega) (by simp; omega);have d:dq ((H.up 7).put (H.next+3) (.cells [] aa true)) (H.next+5) 2 32 aa (.own (H.next+3) 0 0 0 2 true) s=some (j,H2):=c;refine zW (aC hl a d) ?_;exact ⟨g,_,h h0⟩
end
section
variable {tab:Nat->Option au} {H:Heap}
def BW (C:Code tab) (b:Wf H) {x:Int}:Ans tab (.fn lW [.int .i64 x]) H fun r H'=>r=.bool false/\Kp H H':=by
 refine cz C.q121 zU fun T hl a=>?_;have e:(x≠x)=False:=by simp
 refine zW (aB hl a) ?_;exact zK
def EH (C:Code tab) (d:Wf H) {x y:Int}:Ans tab (.fn nk [.int .i64 x,.int .i64 y]) H fun r H'=>r=.bool (decide (x<y))/\Kp H H':=by
 refine bE C.q98 zU fun T hl a b=>?_;refine zW (aC hl a b) ?_;refine AnsH.eq (BW C zF) fun H2 c=>?_;obtain ⟨k2,_,e⟩:=zT H zK c;refine zW (aC hl a b) ?_;exact zK
def aQ (l:List Int):List AV:=l.map fun z=>.int .i64 z
def JE {l:List Int} {b j:Nat} (h:H.get b=some (.cells (aQ l) aL true)) (hj:j<l.length):bc H none (.ptr b j)=some (.int .i64 l[j]):=by
 rw [Eg,h,Cv];show (aQ l)[j]? = _;simp [aQ,hj]
def Je {l:List Int} {j:Nat} {z:Int} (hj:j<l.length):y5 (some (.cells (aQ l) aL true)) 1 j (.int .i64 z)=some (.cells (aQ (l.set j z)) aL true):=by
 rw [Ts (bi _ _),if_pos (by simpa [aQ] using hj)];simp [aQ,XW]
def JI {b n c j:Nat} {xf:Bool} (hj:j<n):cG 1 (.own b 0 n c 1 xf) (.int .i64 (j:Int))=some (.ptr b j):=by
 have:=iB (b:=b) (off:=0) (n:=n) (c:=c) (sz:=1) (x:=xf) (k:=.i64) (j:=j) hj
 simpa using this
abbrev Mx (l:List Int):Prop:=l.Pairwise (· <= ·)
def Nu {A B:List Int} {x:Int} (h:Mx (A++B)) (hA:∀ y∈A,y<=x) (c:∀ y∈B,x<=y):Mx (A++x :: B):=by
 have h:=WY.1 h;refine WY.2 ⟨h.1,W7.2 ⟨c,h.2.1⟩,fun a ha b hb=>?_⟩;rcases VC.1 hb with rfl | hb
 ·exact hA a ha
 ·exact h.2.2 a ha b hb
set_option maxHeartbeats 4000000 in
def BT (C:Code tab) {H0:Heap} {b n c:Nat} {xf:Bool} {l:List Int} (hk:Kp H0 H) (hb:H0.next<=b) (h:H.get b=some (.cells (aQ l) aL true)) (hn:l.length=n) (aH:n<=1000) :
  Ans tab (.fn br [.own b 0 n c 1 xf,.int .i64 0,.int .i64 (n:Int)]) H fun _ H'=>(∃ m,H'.get b=some (.cells (aQ m) aL true)/\m.Perm l/\Mx m)/\Kp H0 H':=by
 have hw:=hk.wf;refine mz C.q92 zU fun T hl u v w=>?_;have aj:IntKind.i64.wrap (0+1)=((1:Nat):Int):=by decide
 refine zW (cn hl u v w aj) ?_;refine bk H0 [6] (fun k vs H'=>∃ i m,vs=[.int .i64 ((i:Nat):Int)]/\1<=i/\i<=n+1/\k=n+1-i/\H'.get b=some (.cells (aQ m) aL true)/\m.Perm l/\Mx (m.take i)) n (by simp only [U7]; exact hl) rfl (hk.up _) ⟨1,l,by refine zW (aZ hl u v w) ?_; rfl,Ve _,zO,zO,h,List.Perm.refl _,by
  match l with
  | []=>exact List.Pairwise.nil
  | a :: l=>simp⟩ ?_
 rintro k T1 H1 f D Y ⟨i,m,N,i1,i2,aG,ag,hp,hs⟩;have w1:=Y.wf;have aM:=Y.le;simp only [Vg,Vl,Vj,and_true] at N;have t0:ad T1 0=.own b 0 n c 1 xf:=(D.at_ 0 zU).trans (zV (aB hl u));have t1:ad T1 1=.int .i64 0:=(D.at_ 1 zU).trans (zV (cn hl u v w v));have t2:ad T1 2=.int .i64 (n:Int):=(D.at_ 2 zU).trans (zV (cn hl u v w w));have aI:m.length=n:=by rw [<- hn]; exact hp.length_eq
 by_cases hi:i<n
 case neg =>
  have W:¬ (i:Int)<(n:Int):=zO;refine zW (aZ f N t2 W) ?_;refine ⟨⟨m,ag,hp,?_⟩,zK⟩;rw [Vy zO] at hs;exact hs
 have W:(i:Int)<(n:Int):=zO;refine zW (aZ f N t2 W) ?_;obtain ⟨X,t,S,aa,hA0⟩:∃ X t S,m=t++X :: S/\t.length=i:=by
  refine ⟨m[i],m.take i,m.drop (i+1),?_,by rw [VD]; omega⟩;rw [List.getElem_cons_drop,YW]
 have ax:Mx t:=by
  rw [aa,WF zO,Vy zO] at hs;exact hs
 refine bk H0 [7] (fun k vs H'=>∃ j A x B R,vs=[.int .i64 ((j:Nat):Int)]/\k=j/\A.length=j/\A.length+B.length=i/\Mx (A++B)/\(∀ y∈B,x<=y)/\(A++x :: (B++R)).Perm l/\H'.get b=some (.cells (aQ (A++x :: (B++R))) aL true)) i (by simp only [U7]; exact f) rfl (Y.up _) ⟨i,t,X,[],S,by exact zV f,rfl,hA0,by simp [hA0],by rw [Wt]; exact ax,fun y hy=>(by cases hy),by rw [W4,<- aa]; exact hp,by rw [W4,<- aa]; exact ag⟩ ?_;rintro k2 T2 H2 g K Z ⟨j,A,x,B,R,o,aE,V,al,L,ae,ab,p⟩;have w2:=Z.wf;have aN:=Z.le;simp only [Vg,Vl,Vj,and_true] at o;have s:ad T2 0=.own b 0 n c 1 xf:=(K.at_ 0 zU).trans (zV (aB f t0));have u1:ad T2 1=.int .i64 0:=(K.at_ 1 zU).trans (zV (aB f t1));have u2:ad T2 2=.int .i64 (n:Int):=(K.at_ 2 zU).trans (zV (aB f t2));have u6:ad T2 6=.int .i64 (i:Int):=(K.at_ 6 zU).trans (zV (aB f N));have U:IntKind.i64.wrap ((i:Int)+1)=((i+1:Nat):Int):=by rw [wrap_i64] <;> omega
 have av:(A++x :: (B++R)).length=n:=by rw [<- hn]; exact ab.length_eq
 have fin:∀ H':Heap,H'.get b=some (.cells (aQ (A++x :: (B++R))) aL true)->Mx (A++x :: B)->∃ G m,[AV.int .i64 ((i+1:Nat):Int)]=[AV.int .i64 ((G:Nat):Int)]/\1<=G/\G<=n+1/\n+1-(i+1)=n+1-G/\H'.get b=some (.cells (aQ m) aL true)/\m.Perm l/\Mx (m.take G):=fun H' h1 h2=>by
  refine ⟨i+1,_,rfl,zO,zO,rfl,h1,ab,?_⟩;have e:(A++x :: (B++R)).take (i+1)=A++x :: B:=by
   rw [show A++x :: (B++R)=(A++x :: B)++R by simp,WF (by simp; omega),Vy (by simp; omega)]
  rw [e]; exact h2
 refine zW g ?_;refine aJ ?_;by_cases hj:0<j
 case neg =>
  have z:¬ (0:Int)<(j:Int):=zO;have hA:A=[]:=V4 zO;refine zX (lp g o s u1 u6 z @aS U) ?_;subst hA;exact ⟨zK,n+1-(i+1),zO,fin _ p (Nu (A:=[]) L (fun y hy=>(by cases hy)) ae)⟩
 case pos =>
 have z:(0:Int)<(j:Int):=zO;obtain ⟨d,y,rfl⟩:∃ d y,A=d++[y]:=⟨A.dropLast,A.getLast (by intro h; rw [h] at V; simp at V; omega),(Ze _).symm⟩
 have ak:d.length+1=j:=by simpa using V
 have I:IntKind.i64.wrap ((j:Int)-1)=((d.length:Nat):Int):=by rw [wrap_i64] <;> omega
 have E:SF (H2.get b) none j=some (.int .i64 x):=by
  rw [<- Eg,JE p zO];congr 2;rw [XQ (by simp; omega)];simp [ak]
 have F:SF (H2.get b) none d.length=some (.int .i64 y):=by
  rw [<- Eg,JE p zO];congr 2;rw [YD (by simp),XQ (by simp)]
  simp
 have O:cG 1 (.own b 0 n c 1 xf) (.int .i64 (j:Int))=some (.ptr b j):=JI zO;have P:cG 1 (.own b 0 n c 1 xf) (.int .i64 ((d.length:Nat):Int))=some (.ptr b d.length):=JI zO;refine zX (mo g o s u1 z @aS I E F O P) ?_;refine AnsH.eq (EH C (x:=x) (y:=y) zF) fun Q aq=>?_;obtain ⟨k3,_,w3⟩:=zT H2 zK aq;have aK:=Z.trans k3;have r:=k3.get p;by_cases ah:x<y
 case neg =>
  have af:decide (x<y)=false:=decide_eq_false ah;rw [af];refine zX (E0 g o s u1 z @aS I E F O P u6 U) ?_;refine ⟨zK,n+1-(i+1),zO,fin _ r (Nu L (fun q hq=>?_) ae)⟩;have D:=(WY.1 L).1;rcases Vx.1 hq with h | h
  ·have:=(WY.1 D).2.2 q h y (by simp)
   omega
  ·rw [VK] at h; subst h; omega
 case pos =>
  have af:decide (x<y)=true:=decide_eq_true ah;rw [af];refine zX (E0 g o s u1 z @aS I E F O P u6 U) ?_;obtain ⟨M,J⟩:∃ M,M=(d++[y])++x :: (B++R):=⟨_,rfl⟩
  rw [<- J] at r av;have am:M.set j y=d++y :: y :: (B++R):=by
   rw [J,ZZ _ _ (by simp; omega)]
   have:j-(d++[y]).length=0:=by simp; omega
   rw [this]; simp
  have ao:(M.set j y).set d.length x=d++x :: ((y :: B)++R):=by
   rw [am,ZZ _ _ (Ve _)]; simp
  have ay:SF (Q.get b) none j=some (.int .i64 x):=by rw [r]; rw [p,<- J] at E; exact E
  have az:SF (Q.get b) none d.length=some (.int .i64 y):=by rw [r]; rw [p,<- J] at F; exact F
  have aA:y5 (Q.get b) 1 j (.int .i64 y)=some (.cells (aQ (M.set j y)) aL true):=by rw [r]; exact Je zO
  have aD:y5 (some (.cells (aQ (M.set j y)) aL true)) 1 d.length (.int .i64 x)=some (.cells (aQ ((M.set j y).set d.length x)) aL true):=Je (by rw [U7]; omega);have aO:=w3 _ _ r;refine EX (fun T'=>T'.length=49/\ad T' 0=.own b 0 n c 1 xf/\ad T' 7=.int .i64 (j:Int)) (zV (aC g s o)) ?_;clear g s o;rintro T3 ⟨ar,v0,v7⟩;refine aJ ?_;refine zD (pD ar v0 v7 I ay az aA aD O P) ?_;have aw:(d++x :: ((y :: B)++R)).Perm l:=by
   refine List.Perm.trans ?_ ab;rw [show (d++[y])++x :: (B++R)=d++(y :: x :: (B++R)) by simp,show d++x :: ((y :: B)++R)=d++(x :: y :: (B++R)) by simp];exact List.Perm.append_left _ (List.Perm.swap y x _)
  refine ⟨zK,d.length,zO,d.length,d,x,y :: B,R,rfl,rfl,rfl,by simp at al ⊢; omega,by simpa using L,fun q hq=>?_,aw,by rw [ao]⟩;rcases VC.1 hq with rfl | hq
  ·omega
  ·exact ae q hq
set_option maxRecDepth 20000 in
def EM (C:Code tab) (d:Wf H):Ans tab (.fn gL [.int .u64 0]) H fun v H'=>(∃ L:Int,v=.int .i64 L)/\Kp H H':=by
 refine cz C.q91 zU fun T hl c=>?_;obtain ⟨L,a,e2,-,-⟩:=Cu (x:=0) zU;have b:SL (.str ⟨#[0,1,2,2,3,3,3,3,4,4,4,4,4,4,4,4,5,5,5,5,5,5,5,5,5,5,5,5,5,5,5,5,6,6,6,6,6,6,6,6,6,6,6,6,6,6,6,6,6,6,6,6,6,6,6,6,6,6,6,6,6,6,6,6,7,7,7,7,7,7,7,7,7,7,7,7,7,7,7,7,7,7,7,7,7,7,7,7,7,7,7,7,7,7,7,7,7,7,7,7,7,7,7,7,7,7,7,7,7,7,7,7,7,7,7,7,7,7,7,7,7,7,7,7,7,7,7,7,8,8,8,8,8,8,8,8,8,8,8,8,8,8,8,8,8,8,8,8,8,8,8,8,8,8,8,8,8,8,8,8,8,8,8,8,8,8,8,8,8,8,8,8,8,8,8,8,8,8,8,8,8,8,8,8,8,8,8,8,8,8,8,8,8,8,8,8,8,8,8,8,8,8,8,8,8,8,8,8,8,8,8,8,8,8,8,8,8,8,8,8,8,8,8,8,8,8,8,8,8,8,8,8,8,8,8,8,8,8,8,8,8,8,8,8,8,8,8,8,8,8,8,8,8,8,8,8]⟩) (.int .u8 (IntKind.u8.wrap 0))=some (.int .u8 (L:Int)):=a;simp -dsimp (maxSteps:=1000000) (disch:=(first | omega | assumption | exact aF _ | exact bi _ _ | exact bB | exact cK _ _ _ | exact bS _ _ | exact bJ _ _ _ _ _ _ | exact cQ _ _ | exact bX _)) only [↓wD,wC,Nat.reduceLT,Nat.reduceEqDiff,Nat.reduceAdd,reduceIte,reduceCtorEq,Nat.reduceBEq,Int.reduceEq,Int.reduceLT,Int.reduceLE,Int.reduceAdd,Int.reduceSub,hl,c,qA,yS,↓cN,b];exact ⟨⟨_,rfl⟩,zK⟩
def GO (C:Code tab) (c:Wf H) {n:Nat} (hn:n<=1000):Ans tab (.fn lV [.int .u64 (n:Int)]) H fun v H'=>(∃ L:Int,v=.int .i64 L)/\Kp H H':=by
 refine cz C.q69 zU fun T hl a=>?_;refine zW (aB hl a) ?_;by_cases h0:n=0
 ·subst h0;refine AnsH.use (EM C zF) ?_;rintro _ H2 ⟨⟨L,rfl⟩,b⟩;obtain ⟨k2,_,_⟩:=zT H zK b;refine zW (aB hl a) ?_;exact ⟨⟨L,rfl⟩,zK⟩
 ·refine AnsH.use (BB C (w:=n) zF zO zO) ?_;rintro _ H2 ⟨⟨L,rfl,-⟩,b⟩;obtain ⟨k2,_,_⟩:=zT H zK b;refine zW (aB hl a) ?_;exact ⟨⟨(L:Int),rfl⟩,zK⟩
def Jk (C:Code tab) {H0:Heap} (f:Kp H0 H) {v:AV} {n:Nat} (hn:n<=12) {Z:Int} (R:Heap->Prop) (hi:∀ m,Ans tab (.fn br [v,.int .i64 0,.int .i64 (n:Int)]) (H.up m) fun _ H'=>R H'/\Kp H0 H') (r:∀ H' m,R H'->R (H'.up m)) :
  Ans tab (.fn dF [v,.int .i64 0,.int .i64 (n:Int),.int .i64 Z]) H fun _ H'=>R H'/\Kp H0 H':=by
 have s:=f.wf;refine Ox C.q70 zU fun T hl a b c d=>?_;refine zW (cn hl a b c d) ?_;refine bk H0 [1,2] (fun k vs H'=>vs=[.int .i64 0,.int .i64 (n:Int)]/\H'=H.up 2) 0 (by simp only [U7]; exact hl) zU (f.up _) ⟨by exact zV (ip hl a b c d b c),rfl⟩ ?_;rintro k T1 p g l q ⟨h,rfl⟩;simp only [Vg,Vl,Vj,and_true] at h;obtain ⟨t1,o⟩:=h;have t0:ad T1 0=v:=(l.at_ 0 zU).trans (zV (aB hl a));have e:IntKind.i64.wrap ((n:Int)-0)=(n:Int):=by rw [wrap_i64] <;> omega
 have i:(n:Int)<=12:=zO;refine zW (fy g t0 t1 o e i) ?_;refine AnsH.use (hi 12) ?_;rintro _ H2 ⟨hr,j⟩;refine zW g ?_;exact ⟨hr,j⟩
def Pi (C:Code tab) {H0:Heap} (d:Kp H0 H) {b n c:Nat} {xf:Bool} {l:List Int} (hb:H0.next<=b) (h:H.get b=some (.cells (aQ l) aL true)) (hn:l.length=n) (j:n<=12) :
  Ans tab (.fn dj [.own b 0 n c 1 xf]) H fun _ H'=>(∃ m,H'.get b=some (.cells (aQ m) aL true)/\m.Perm l/\Mx m)/\Kp H0 H':=by
 have o:=d.wf;refine cz C.q46 zU fun T hl a=>?_;have i:lenV (.own b 0 n c 1 xf)=some (.int .i64 (n:Int)):=by simp [lenV,gJ]
 have e:IntKind.u64.wrap (n:Int)=(n:Int):=by show (n:Int) % 18446744073709551616=n; omega
 refine zW (aZ hl a i e) ?_;refine AnsH.use (GO C (n:=n) zF zO) ?_;rintro _ H2 ⟨⟨L,rfl⟩,f⟩;obtain ⟨k2,_,p⟩:=zT H zK f;have h2:=k2.get h;refine zW (aB hl a) ?_;refine AnsH.use (Jk C (H0:=H0) (d.trans k2) (n:=n) j (fun H'=>∃ m,H'.get b=some (.cells (aQ m) aL true)/\m.Perm l/\Mx m) (fun m=>BT C ((d.trans k2).up m) hb h2 hn zO) (fun H' m h=>h)) ?_;rintro _ k ⟨hr,g⟩;refine zW (aB hl a) ?_;exact ⟨hr,g⟩
def BS (C:Code tab) {H0:Heap} (d:Kp H0 H) {v:AV} :
  Ans tab (.fn br [v,.int .i64 0,.int .i64 ((0:Nat):Int)]) H fun _ H'=>True/\Kp H0 H':=by
 have m:=d.wf;refine mz C.q92 zU fun T hl b c a=>?_;have f:IntKind.i64.wrap (0+1)=((1:Nat):Int):=by decide
 refine zW (cn hl b c a f) ?_;refine bk H0 [6] (fun k vs H'=>vs=[.int .i64 ((1:Nat):Int)]) 0 (by simp only [U7]; exact hl) rfl (d.up _) (by refine zW (aZ hl b c a) ?_; rfl) ?_;rintro k T1 l h i g e;simp only [Vg,Vl,Vj,and_true] at e;have j:ad T1 2=.int .i64 ((0:Nat):Int):=(i.at_ 2 zU).trans (zV (cn hl b c a a));refine zW (aC h e j) ?_;exact g.up _
def Ph (C:Code tab) (g:Wf H) :
  Ans tab (.fn dj [.nilSl]) H fun _ H'=>Kp H H':=by
 refine cz C.q46 zU fun T hl a=>?_;have d:lenV .nilSl=some (.int .i64 0):=rfl;have e:IntKind.u64.wrap 0=0:=rfl;refine zW (aZ hl a d e) ?_;refine AnsH.use (GO C (n:=0) zF zO) ?_;rintro _ H2 ⟨⟨L,rfl⟩,b⟩;obtain ⟨k2,_,h⟩:=zT H zK b;refine zW (aB hl a) ?_;refine AnsH.use (Jk C (H0:=H) k2 (n:=0) zO (fun _=>True) (fun m=>BS C (k2.up m)) (fun _ _ _=>trivial)) ?_;rintro _ f ⟨-,c⟩;refine zW (aB hl a) ?_;exact c
def uQ (C:Code tab) (b:Wf H) {sa:AV} (ha:One sa) :
  Ans tab (.fn dO [sa]) H fun v H'=>v=.fn (.func aO) [] [.ptr H.next 0]/\H'.get H.next=some (.cells [sa] dy true)/\H.next+1<=H'.next/\Kp H H':=by
 refine cz C.q23 zU fun T hl a=>?_;refine zW (aC hl a (BA ha)) ?_;exact ⟨zO,zK⟩
def Hr (C:Code tab) {H0:Heap} {o p:Nat} {l:List Int} {sa:AV} (J:Nat->Heap->Prop) (A:l.length<4611686018427387904)
  (q:Kp H0 H) (h0:J 0 H) (n:∀ k H m,J k H->J k (H.up m)) (hA:H.get p=some (.cells [sa] dy true)) (hs:∀ k H,J k H->pC (gK .i64) aL H sa l) (z:pC (gK .i64) aL H sa l)
  (hr:∀ k (h:k<l.length) H,Kp H0 H->J k H->Ans tab (.round o [.int .i64 l[k]]) H fun v H'=>v=.bool true/\Kp H0 H'/\J (k+1) H') :
  Ans tab (.ent aO [.loopv o,.ptr p 0]) H fun _ H'=>Kp H0 H'/\J l.length H':=by
 have B:=q.wf;refine ST C.q44 zU fun T hl c f=>?_;refine zW (cn hl c f hA z.lenV) ?_;refine aq H0 [] (fun j _ H'=>J j H') (a:=0) (N:=l.length) rfl (by refine zW (aC hl c f) ?_; rfl) (zV (aC hl c f)) (Vn _) zO (by simp only [U7,hl]; rfl) rfl (fun j _ H' m h=>n _ _ _ h) (q.up _) (n _ _ _ h0) ?_ ?_
 ·intro j T1 r _ hj b t i e d;have w1:=e.wf;have D:=e.le;have t0:ad T1 0=.loopv o:=(i.at_ 0 zU).trans (zV (aB hl c));have t5:ad T1 5=sa:=(i.at_ 5 zU).trans (zV (aC hl c f));obtain ⟨w,g,y⟩:=SlV.at1 (hs _ _ d) (Vb hj);have g:w=.int .i64 l[j]:=g;subst g;have u:=SlV.idx1 (hs _ _ d) .i64 j hj;simp only [U7,hl] at b;refine zW (fy b t0 t5 t u y) ?_;refine AnsH.use (hr j hj _ (e.up 7) (n _ _ _ d)) ?_;rintro _ H2 ⟨rfl,x,s⟩;refine zW b ?_;exact ⟨x,s⟩
 ·intro T1 r b i e d;simp only [U7,hl] at b;refine zW b ?_;exact ⟨e,d⟩
set_option maxHeartbeats 2000000 in
def B8 (C:Code tab) (u:Wf H) {bv:Nat} {sa:AV} {l:List Int} (hA:H.get bv=some (.cells [sa] dy true)) (hs:pC (gK .i64) aL H sa l) (K:l.length<=1000) :
  Ans tab (.fn dm [.nilSl,.fn (.func aO) [] [.ptr bv 0]]) H fun v H'=>Bl (bz (gK .i64)) aL H H' v l/\Kp H H':=by
 have U:=u _ _ hA;refine bE C.q68 zU fun T hl f g=>?_;refine zW (aC hl f g) ?_;refine pJ (fi:=aO) (args:=[.loopv (H.next+3),.ptr bv 0]) (by refine zW (aC hl f g) ?_; rfl) ?_;have B:((H.up 3).put H.next (.cells [.nilSl] dy true)).next=H.next+3:=rfl
 rw [B]
 generalize he:Ent.loop _ _ _ _ _ _=e0
 have j:Kp H ((((H.up 3).put H.next (.cells [.nilSl] dy true)).up 1).put (H.next+3) e0):=((((Kp.refl u).up 3).put (Ve _) (show H.next<H.next+3 by omega)).up 1).put (show H.next<=H.next+3 by omega) (show H.next+3<H.next+3+1 by omega);have O:=j.le;refine (Hr C (H0:=H) (l:=l) (sa:=sa) (fun k H'=>H'.get (H.next+3)=some e0/\(∃ o,H'.get H.next=some (.cells [o] dy true)/\Bl (bz (gK .i64)) aL H H' o (l.take k))/\pC (gK .i64) aL H' sa l) zO j
  ⟨by exact cY,⟨.nilSl,by exact cY,by rw [XN]; exact Bl.nil⟩,hs.mono j.sub⟩ (fun _ _ _ h=>h) (j.get hA) (fun k H' h=>h.2.2) (hs.mono j.sub) ?_).mono ?_
 ·rintro k A b m ⟨c,⟨o,i,e⟩,N⟩;rw [<- he] at c;refine qp c rfl ?_;refine zW (cn hl f g c i) ?_
  generalize s:Ent.loop _ _ _ _ LoopState.busy none=e2
  have hlt:=m.wf _ _ c;have J:=m.le;have S:=m.wf _ _ i;have w:Kp H ((b.up 1).put (H.next+3) e2):=(m.up 1).put zO (show _<b.next+1 by omega);have P:=w.le;have q1:Bl (bz (gK .i64)) aL H ((b.up 1).put (H.next+3) e2) o (l.take k):=Bl.put (show Bl _ _ _ (b.up 1) _ _ from e) (e.ne c fun cs h=>by cases h) (SubT.nil _ _);have L:(l.take k).length<=1000:=by rw [VD]; omega
  obtain ⟨n,d,y,q2,E,D,hp⟩:=q1.push (ty2:=aL) (bytes:=8) (id:=b.next+4) (id2:=b.next+3) (k:=5) (cs:=[.int .i64 l[k]]) (a:=l[k]) (fun h=>by cases h) w ⟨_,rfl,rfl⟩
   (by show b.next+1<=_; omega) (by show _<b.next+1+5; omega) (by show b.next+1<=_; omega) (by show _<b.next+1+5; omega) zO zO zO
  have z:dq (((b.up 6).put (H.next+3) e2).put (b.next+3) (.cells [.int .i64 l[k]] aL true)) (b.next+4) 1 8 aL o (.own (b.next+3) 0 1 1 1 true)=some (.own (b.next+4) 0 n n 1 false,d):=y;have I:∀ {F:AV} {cs:List AV},Ent.cells [F] dy true ≠ .cells cs aL true:=fun h=>by injection h with _ h2; exact absurd h2 zU
  have r:((b.up 1).put (H.next+3) e2).get H.next=some (.cells [o] dy true):=by rw [aw zO]; exact i
  have G:d.get H.next=some (.cells [o] dy true):=hp H.next _ r (q1.ne r fun cs=>I)
  have q:((b.up 1).put (H.next+3) e2).get (H.next+3)=some e2:=am _ _ _;have r0:d.get (H.next+3)=some e2:=hp (H.next+3) e2 q (q1.ne q fun cs h=>by rw [<- s] at h; cases h);have M:d.next=b.next+6:=D
  have p:Kp H ((d.put H.next (.cells [.own (b.next+4) 0 n n 1 false] dy true)).put (H.next+3) e0):=(E.put (Ve _) zO).put zO (show _<d.next by omega);have Q:=p.le;refine zW (cn hl f g z G) ?_;rw [uU];refine zW (aC s he r0) ?_;refine ⟨p,⟨_,rfl,?_⟩,hs.mono p.sub⟩;rw [Vi A];exact (q2.put (fun n' h=>by injection h; omega) (SubT.nil _ _)).put (fun n' h=>by injection h; omega) (SubT.nil _ _)
 ·rintro _ H' ⟨t,c,⟨o,i,e⟩,-⟩;have hlt:=t.wf _ _ c;refine .inl ⟨c,?_⟩;rw [VH] at e;refine zW (aZ hl f g i) ?_;have x:Kp H ((H'.up 2).kill (H.next+3)):=(t.up 2).kill zO;have R:=x.le;exact ⟨Bl.kill (show Bl _ _ _ (H'.up 2) _ _ from e) (e.ne c fun cs h=>by rw [<- he] at h; cases h) (SubT.nil _ _),x⟩
def Ha (C:Code tab) (i:Wf H) {bv:Nat} {sa:AV} {l:List Int} (hA:H.get bv=some (.cells [sa] dy true)) (hs:pC (gK .i64) aL H sa l) (f:l.length<=1000) :
  Ans tab (.fn gW [.fn (.func aO) [] [.ptr bv 0]]) H fun v H'=>Bl (bz (gK .i64)) aL H H' v l/\Kp H H':=by
 refine cz C.q45 zU fun T hl a=>?_;refine zW (aB hl a) ?_;refine AnsH.use (B8 C zF (bv:=bv) (sa:=sa) (l:=l) hA (hs.mono (Sub.bump H _)) f) ?_;rintro v H2 ⟨g,c⟩;obtain ⟨k2,_,_⟩:=zT H zK c;refine zW (aB hl a) ?_;refine ⟨?_,k2⟩;rcases g with h | ⟨b,cells,e,hb,hc,d⟩
 ·exact .inl h
 ·exact .inr ⟨b,cells,e,hb,hc,Vq (VI _ _) d⟩
def IO:∀ {cells:List AV} {l:List Int},Cells (bz (gK .i64)) H cells l->cells=aQ l:=by
 intro cells l h;have hl:cells.length=l.length:=by have:=h.1; rw [show (bz (gK .i64)).sz=1 from rfl,Wz] at this; exact this
 unfold aQ
 apply WJ
 ·rw [Vf]; exact hl
 ·intro i h1 h2;have hi:i<l.length:=zO;obtain ⟨w,a,b⟩:=h.2 i l[i] (Vb hi);have b:w=.int .i64 l[i]:=b;subst b;rw [show (bz (gK .i64)).sz=1 from rfl,Wz,ZC h1] at a;have a:[cells[i]]=[AV.int .i64 l[i]]:=a
  simpa using a
def nP {b:Nat} {m:List Int} {xf:Bool} (h:H.get b=some (.cells (aQ m) aL true)):pC (gK .i64) aL H (.own b 0 m.length m.length 1 xf) m :=
 (show Own (bz (gK .i64)) aL (Heap.nil 0) H b xf _ _ from ⟨_,rfl,h,⟨by rw [show (bz (gK .i64)).sz=1 from rfl]; simp [aQ],fun i a hi=>by
  obtain ⟨c,rfl⟩:=Vo.1 hi;refine ⟨.int .i64 m[i],?_,rfl⟩;have h1:i<(aQ m).length:=by simpa [aQ] using c
  rw [show (bz (gK .i64)).sz=1 from rfl,Wz,ZC h1];show [(aQ m)[i]]=_;simp [aQ]⟩,Vn _⟩).sl
def IW (C:Code tab) (r:Wf H) {bv:Nat} {sa:AV} {l:List Int} (hA:H.get bv=some (.cells [sa] dy true)) (hs:pC (gK .i64) aL H sa l) (k:l.length<=12) :
  Ans tab (.fn iL [.fn (.func aO) [] [.ptr bv 0]]) H fun v H'=>(∃ m,pC (gK .i64) aL H' v m/\m.Perm l/\Mx m)/\Kp H H':=by
 refine cz C.q24 zU fun T hl d=>?_;refine zW (aB hl d) ?_;refine AnsH.use (Ha C zF (bv:=bv) (sa:=sa) (l:=l) hA (hs.mono (Sub.bump H _)) zO) ?_;rintro v H2 ⟨p,h⟩;obtain ⟨k2,_,t⟩:=zT H zK h;rcases p with ⟨rfl,rfl⟩ | ⟨b,cells,rfl,hb,hc,j⟩
 ·refine zW (aB hl d) ?_;refine AnsH.use (Ph C zF) ?_;rintro _ f i;have a:Kp H f:=k2.trans (Kp.trans zK i);have s:=a.le;have q:=a.wf;refine zW (aB hl d) ?_;exact ⟨⟨[],SlV.nil _ _ _,List.Perm.refl _,List.Pairwise.nil⟩,a.up _⟩
 ·have e:=IO hc;subst e;refine zW (aB hl d) ?_;refine AnsH.use (Pi C (H0:=H) (k2.up _) (b:=b) (n:=l.length) (c:=l.length) (xf:=false) (l:=l) (by have:H.next<=b:=Vq (VI _ _) j; exact this) hb rfl k) ?_;rintro _ f ⟨⟨m,hm,hp,o⟩,a⟩;have q:=a.wf;refine zW (aB hl d) ?_;have g:=nP (xf:=false) hm;rw [hp.length_eq] at g;exact ⟨⟨m,g.mono (Sub.bump f _),hp,o⟩,a.up _⟩
end
section
open Lin
variable {n m:Nat}
def Ji {d m:Nat} (hd:d<=4):(2*d*2^m)^2^d<=2^(16*(m+4)):=by
 have h1:2*d*2^m<=2^(m+4):=by
  rw [We,Vw (2^m)];exact Vp _ zO
 have h2:2^d<=2^4:=VM (by decide) hd;have h3:2^d*(m+4)<=16*(m+4):=Vp _ h2
 calc (2*d*2^m)^2^d<=(2^(m+4))^2^d:=Xj h1 _
  _=2^((m+4)*2^d):=(Ys ..).symm
  _<=2^(16*(m+4)):=VM (by decide) (by rw [Vw]; exact h3)
def Rt {a b:Nat} {x:V} (h:Bd a x) (c:a<=b):Bd b x:=fun i=>Vq (h i) c
def Fh {d:Nat} {E I:List V} (g:0<d) (hd:d<=4) (b:∀ a∈E,a.length=d/\Bd (2^m) a) (c:∀ a∈I,a.length=d/\Bd (2^m) a) :
  (∀ l∈gensL d E I,Bd (2^(16*(m+4))) l)/\(∀ r∈gensR d E I,Bd (2^(16*(m+4))) r):=by
 have t:=gens_told (d:=d) (fun a ha=>(b a ha).1) (fun a ha=>(c a ha).1);obtain ⟨e,f⟩:=told_bd g (VY (by decide)) t b c;exact ⟨fun l hl=>Rt (e l hl) (Ji hd),fun r hr=>Rt (f r hr) (Ji hd)⟩
def xu {l:List (V × Bool)} (hn:n<=3) (h:∀ c∈l,c.1.length=n+1/\Bd (2^m) c.1):∀ x∈gensP n l,x.2.length=n+1/\Bd (2^(16*(m+4))) x.2:=fun x hx=>by
 have f:∀ a∈eqsOf l,a.length=n+1/\Bd (2^m) a:=fun a ha=>h _ (mem_eqs.1 ha);have g:∀ a∈ineqsOf n l,a.length=n+1/\Bd (2^m) a:=fun a ha=>by
  rcases mem_ineqs.1 ha with rfl | ha
  ·exact ⟨unitC_len n 1,Dp n m⟩
  ·exact h _ ha
 refine ⟨sO (fun c hc=>(h c hc).1) x hx,?_⟩;obtain ⟨b,e⟩:=Fh (d:=n+1) (m:=m) zO zO f g;unfold gensP at hx;split at hx
 ·rcases Vx.1 hx with hx | hx
  ·obtain ⟨r,hr,rfl⟩:=Vc.1 hx;exact b r hr
  ·obtain ⟨r,hr,rfl⟩:=Vc.1 hx;exact e r hr
 ·cases hx
def CM {g:List (Nat × V)} (hn:n<=3) (h:∀ x∈g,x.2.length=n+1/\Bd (2^m) x.2):∀ c∈consP n g,c.1.length=n+1/\Bd (2^(16*(m+4))) c.1:=fun x hx=>by
 refine ⟨lD (fun y hy=>(h y hy).1) x hx,?_⟩;have hb:=(A2 (m:=m) zO h x hx).2;have f:∀ a∈linesOf g,a.length=n+1/\Bd (2^m) a:=fun a ha=>h _ (mem_lines.1 ha);have j:∀ a∈raysOf g,a.length=n+1/\Bd (2^m) a:=fun a ha=>by
  obtain ⟨y,hy,rfl⟩:=xn ha;exact h _ hy
 obtain ⟨b,e⟩:=Fh (d:=n+1) (m:=m) zO zO f j;unfold consP at hx;split at hx
 ·rcases Vx.1 hx with hx | hx
  ·obtain ⟨r,hr,rfl⟩:=Vc.1 hx;exact b r hr
  ·obtain ⟨r,hr,rfl⟩:=Vc.1 hx;exact e r (Vt.1 hr).1
 ·rw [VK] at hx;subst hx;intro i
  have:∀ i,(at_ (unitC n (-1)) i).natAbs<=1:=fun i=>by
   unfold at_ unitC;cases i with
   | zero=>simp
   | succ i=>simp [U8,Wd]; split <;> simp
  exact Vq (this i) (Nat.one_le_two_pow)
end
section
variable {tab:Nat->Option au} {H:Heap}
end
section
variable {P:Nat->Prop} {H0 D H H':Heap} {b:Nat} {l:List (Nat × List Int)}
variable {tab:Nat->Option au}
end
section
open Lin
variable {n x:Nat} {a:List Int} {rn rn':Bool} {lo hi:Int} {G:List (Nat × List Int)}
def xJ {M:Nat} {r:List Int} (h:∀ z∈r,z.natAbs<=M):Bd M r:=fun i=>by
 unfold at_;rw [U8];cases h1:r[i]? with
 | none=>exact Vn _
 | some z=>exact h z (Vr h1)
end
section
variable {tab:Nat->Option au} {H:Heap}
end
section
variable {tab:Nat->Option au} {H:Heap} {s:AV}
end
end Go.Proofs.YtiigaeehghcjiaaGreat.Ev
namespace Go.Proofs.YtiigaeehghcjiaaGreat.Lin
section
variable {n x:Nat} {a r:V} {K:List (V × Bool)} {G:List (Nat × V)}
def Own.ne (o:Own n K G) (hr:de n K r) (h0:0<hd1 r):G≠[]:=by
 have:=(mL o.rows).2 ⟨r,hr,h0⟩
 rw [o.gens] at this; exact this
end
section
variable {n:Nat} {K K':List (V × Bool)} {G G':List (Nat × V)}
def Own.same (o:Own n K G) (a:Own n K' G') (h:∀ r,de n K r ↔ de n K' r):K=K'/\G=G':=by
 have e:G=G':=by rw [<- o.gens,<- a.gens]; exact AO o.rows a.rows h
 exact ⟨by rw [<- o.cons,<- a.cons,e],e⟩
def Own.same_valid (o:Own n K G) (a:Own n K' G') (h:∀ c:V × Bool,c.1.length=n+1->(mm n K c ↔ mm n K' c)):K=K'/\G=G' :=
 o.same a fun r=>⟨fun hr=>vE hr fun c hc=>(h c (a.rows c hc)).2 (Ce hc),fun hr=>vE hr fun c hc=>(h c (o.rows c hc)).1 (Ce hc)⟩
def Own.valid_iff (o:Own n K G) (a:G≠[]) {c:V × Bool}:(∀ g∈G,jL c g=true) ↔ mm n K c:=by
 have:=zy (n:=n) (c:=c) o.rows (by rw [o.gens]; exact a)
 rw [o.gens] at this; exact this
def tY {g:List (Nat × V)} (hg:ValidG n g) (h3:g.any (fun y=>y.1 == 3)=true) {c:V × Bool} (hc:c.1.length=n+1):mm n (consP n g) c ↔ ∀ y∈g,jL c y=true:=by
 have o:=own_span hg;rw [<- o.valid_iff (wL hg h3)]
 have:=Qb hg (.inr h3) (K:=[c]) (fun d hd=>by rw [VK] at hd; subst hd; exact hc)
 rw [WM,zh,zh] at this;constructor
 ·intro h y hy;exact this.1 (fun g hg d hd=>by rw [VK] at hd; subst hd; exact h g hg) y hy c (VK.2 rfl)
 ·intro h y hy;exact this.2 (fun g hg d hd=>by rw [VK] at hd; subst hd; exact h g hg) y hy c (VK.2 rfl)
def y8 {l:List (V × Bool)} (hl:∀ c∈l,c.1.length=n+1) (hne:gensP n l≠[]) (r:V):de n (consP n (gensP n l)) r ↔ de n l r:=FJ hl (sX hne) r
def padC (c:V × Bool):V × Bool:=(c.1++[0],c.2)
def vP:∀ {c r:V} {a b:Int},c.length=r.length->dot (c++[a]) (r++[b])=dot c r+a*b
 | [],[],a,b,_=>by simp [dot]
 | x :: c,y :: r,a,b,h=>by
  have:=vP (c:=c) (r:=r) (a:=a) (b:=b) (by simpa using h)
  simp only [W5,dot,this]; omega
def AM {r:V} {n:Nat} (h:r.length=n+1) (s:V):hd1 (r++s)=hd1 r:=by
 cases r with
 | nil=>simp at h
 | cons a r=>rfl
def qZ (a:∀ c∈K,c.1.length=n+1):∀ c∈K.map padC,c.1.length=(n+1)+1:=fun c hc=>by
 obtain ⟨d,hd,rfl⟩:=Vc.1 hc;simp [padC,a d hd]
def ju (a:∀ c∈K,c.1.length=n+1) {r:V} (hr:r.length=n+1) (z:Int):de (n+1) (K.map padC) (r++[z]) ↔ de n K r:=by
 have hd:∀ c∈K,dot (c.1++[0]) (r++[z])=dot c.1 r:=fun c hc=>by rw [vP (by rw [a c hc,hr])]; omega
 rw [keepP_iff,keepP_iff,AM hr];constructor
 ·rintro ⟨-,h2,h3⟩;refine ⟨hr,h2,fun c hc=>?_⟩
  have:=h3 (padC c) (Vc.2 ⟨c,hc,rfl⟩)
  rw [show (padC c).1=c.1++[0] from rfl,hd c hc] at this;exact this
 ·rintro ⟨-,h2,h3⟩;refine ⟨by simp [hr],h2,fun d b=>?_⟩;obtain ⟨c,hc,rfl⟩:=Vc.1 b;rw [show (padC c).1=c.1++[0] from rfl,hd c hc];exact h3 c hc
def ze {r:V} (hr:r.length=(n+1)+1):∃ s z,s.length=n+1/\r=s++[z]:=by
 refine ⟨r.dropLast,r.getLast (by intro h; rw [h] at hr; cases hr),by rw [List.length_dropLast]; omega,(Ze _).symm⟩
def zi (a:∀ c∈K,c.1.length=n+1):gensP (n+1) (K.map padC)≠[] ↔ gensP n K≠[]:=by
 rw [mL (qZ a),mL a];constructor
 ·rintro ⟨r,hr,h0⟩;obtain ⟨s,z,hs,rfl⟩:=ze (keepP_iff.1 hr).1;rw [AM hs] at h0;exact ⟨s,(ju a hs z).1 hr,h0⟩
 ·rintro ⟨r,hr,h0⟩;have hl:=(keepP_iff.1 hr).1;exact ⟨r++[0],(ju a hl 0).2 hr,by rw [AM hl]; exact h0⟩
end
section
variable {n x:Nat} {K K':List (V × Bool)} {G G':List (Nat × V)}
def delR (x:Nat) (r:V):V:=r.eraseIdx (x+1)
def delG (x:Nat) (g:Nat × V):Nat × V:=(g.1,delR x g.2)
def Ou (x:Nat) (c:V):V:=c.take (x+1)++0 :: c.drop (x+1)
def JU:∀ (x:Nat) (c r:V),x<=c.length->r.length=c.length+1->dot (c.take x++0 :: c.drop x) r=dot c (r.eraseIdx x)
 | 0,c,b :: r,_,_=>by simp [dot]
 | x+1,a :: c,b :: r,h,h'=>by
  have:=JU x c r (by simpa using h) (by simpa using h')
  simp only [Zf,List.drop_succ_cons,W5,List.eraseIdx_cons_succ,dot,this]
 | x+1,[],r,h,_=>by simp at h
def QR {r:V} (hr:r.length=(n+1)+1) (hx:x<n+1):(delR x r).length=n+1:=by
 unfold delR; rw [Yu zO]; omega
def ON {r:V} (x:Nat):hd1 (delR x r)=hd1 r:=by
 cases r with
 | nil=>rfl
 | cons a r=>rfl
def Cz {c:V × Bool} {g:Nat × V} (hc:c.1.length=n+1) (hg:g.2.length=(n+1)+1) (hx:x<n+1):jL (Ou x c.1,c.2) g=jL c (delG x g):=by
 have e:dot (Ou x c.1) g.2=dot c.1 (delR x g.2):=JU (x+1) c.1 g.2 zO (by rw [hc,hg]);rw [WM,cO,cO,e];exact YP
def del_valid (a:ValidG (n+1) G) (hx:x<n+1):ValidG n (G.map (delG x)):=fun y hy=>by
 obtain ⟨g,hg,rfl⟩:=Vc.1 hy;obtain ⟨h1,h2,h3⟩:=a g hg;exact ⟨QR h1 hx,fun h=>by rw [delG,ON]; exact h2 h,fun h=>by rw [delG,ON]; exact h3 h⟩
def QT (G:List (Nat × V)) (x:Nat):(G.map (delG x)).any (fun y=>y.1 == 3)=G.any fun y=>y.1 == 3:=by
 rw [ZP]; rfl
def ID (o:Own (n+1) K G) (a:G≠[]) (hx:x<n+1) {c:V × Bool} (hc:c.1.length=n+1):mm n (consP n (G.map (delG x))) c ↔ mm (n+1) K (Ou x c.1,c.2):=by
 rw [tY (del_valid o.valid hx) (by rw [QT]; exact o.point a) hc,<- o.valid_iff a];constructor
 ·intro h g hg;rw [Cz hc (o.valid g hg).1 hx];exact h _ (Vc.2 ⟨g,hg,rfl⟩)
 ·intro h y hy;obtain ⟨g,hg,rfl⟩:=Vc.1 hy;rw [<- Cz hc (o.valid g hg).1 hx];exact h g hg
def grow_drop (o:Own n K G):consP n ((gensP (n+1) (K.map padC)).map (delG n))=K/\gensP n (consP n ((gensP (n+1) (K.map padC)).map (delG n)))=G:=by
 have d:=own_of (qZ o.rows);have e:=del_valid (x:=n) d.valid zO;have f:=own_span e;by_cases a:G=[]
 ·have ha:gensP (n+1) (K.map padC)=[]:=VF fun h=>(zi o.rows).1 h (by rw [o.gens]; exact a);rw [ha];subst a
  have:=o.cons
  exact ⟨this,by rw [Vl,this]; exact o.gens⟩
 have ha:gensP (n+1) (K.map padC)≠[]:=(zi o.rows).2 (by rw [o.gens]; exact a);refine f.same_valid o fun c hc=>?_;rw [ID d ha zO hc];have b:Ou n c.1=c.1++[0]:=by
  unfold Ou; rw [Vy zO,Xw zO]
 have key:∀ r,de (n+1) (consP (n+1) (gensP (n+1) (K.map padC))) r ↔ de (n+1) (K.map padC) r:=y8 (qZ o.rows) ha;constructor
 ·intro h r hr;have hl:=(keepP_iff.1 hr).1
  have:=h (r++[0]) ((key _).2 ((ju o.rows hl 0).2 hr))
  rw [b,show dot (c.1++[0]) (r++[0])=dot c.1 r by rw [vP (by rw [hc,hl])]; omega] at this;exact this
 ·intro h r hr;have hr:=(key r).1 hr;obtain ⟨s,z,hs,rfl⟩:=ze (keepP_iff.1 hr).1
  have:=h s ((ju o.rows hs z).1 hr)
  rw [b,show dot (c.1++[0]) (s++[z])=dot c.1 s by rw [vP (by rw [hc,hs])]; omega];exact this
end
section
variable {n:Nat} {K K':List (V × Bool)} {G G':List (Nat × V)} {o:List Nat}
def Ord (n:Nat) (o:List Nat):Prop:=o.Perm (List.range n)
def mvO (o:List Nat) (r:V):V:=hd1 r :: o.map fun i=>r.getD (i+1) 0
def mvC (o:List Nat) (c:V × Bool):V × Bool:=(mvO o c.1,c.2)
def Ord.len (h:Ord n o):o.length=n:=by have:=List.Perm.length_eq h; simpa using this
def Ord.mem (h:Ord n o) {i:Nat}:i∈o ↔ i<n:=by rw [List.Perm.mem_iff h,Wk]
def mvO_len (h:Ord n o) (r:V):(mvO o r).length=n+1:=by simp [mvO,h.len]
theorem Sy (o:List Nat) (r:V):hd1 (mvO o r)=hd1 r:=rfl
def Dw:List Int->Int
 | []=>0
 | a :: l=>a+Dw l
def Nr {l m:List Int} (h:l.Perm m):Dw l=Dw m:=by
 induction h with
 | nil=>rfl
 | cons a _ c=>simp only [Dw,c]
 | swap a b l=>simp only [Dw]; omega
 | trans _ _ h1 h2=>exact h1.trans h2
def Ey:∀ (l:List Nat) (f g:Nat->Int),dot (l.map f) (l.map g)=Dw (l.map fun i=>f i*g i)
 | [],_,_=>rfl
 | a :: l,f,g=>by simp only [Vg,dot,Dw,Ey l f g]
def UX:∀ {n:Nat} {r:V},r.length=n->(List.range n).map (fun i=>r.getD i 0)=r
 | n,r,h=>by
  apply WJ
  ·simp [h]
  ·intro i h1 h2;simp [U8,h2]
def Ib {r:V} (hr:r.length=n+1):mvO (List.range n) r=r:=by
 cases r with
 | nil=>simp at hr
 | cons a r =>
  have hr:r.length=n:=by simpa using hr
  have:=UX hr
  unfold mvO;show a :: _=_;rw [show (fun i=>(a :: r).getD (i+1) 0)=fun i=>r.getD i 0 from by funext i; simp,this]
def vu (h:Ord n o) {c r:V} (hc:c.length=n+1) (hr:r.length=n+1):dot (mvO o c) (mvO o r)=dot c r:=by
 have a:dot (mvO o c) (mvO o r)=hd1 c*hd1 r+Dw (o.map fun i=>c.getD (i+1) 0*r.getD (i+1) 0):=by
  unfold mvO;rw [<- Ey]; rfl
 have e2:dot (mvO (List.range n) c) (mvO (List.range n) r)=hd1 c*hd1 r+Dw ((List.range n).map fun i=>c.getD (i+1) 0*r.getD (i+1) 0):=by
  unfold mvO;rw [<- Ey]; rfl
 rw [Ib hc,Ib hr] at e2;rw [a,e2,Nr (h.map _)]
def mv_rows (h:Ord n o):∀ c∈K.map (mvC o),c.1.length=n+1:=fun c hc=>by
 obtain ⟨d,-,rfl⟩:=Vc.1 hc;exact mvO_len h _
def pi (h:Ord n o) (a:∀ c∈K,c.1.length=n+1) {r:V} (hr:r.length=n+1):de n (K.map (mvC o)) (mvO o r) ↔ de n K r:=by
 rw [keepP_iff,keepP_iff,Sy];constructor
 ·rintro ⟨-,h2,h3⟩;refine ⟨hr,h2,fun c hc=>?_⟩
  have:=h3 (mvC o c) (Vc.2 ⟨c,hc,rfl⟩)
  rw [show (mvC o c).1=mvO o c.1 from rfl,vu h (a c hc) hr] at this;exact this
 ·rintro ⟨-,h2,h3⟩;refine ⟨mvO_len h r,h2,fun d hd=>?_⟩;obtain ⟨c,hc,rfl⟩:=Vc.1 hd;rw [show (mvC o c).1=mvO o c.1 from rfl,vu h (a c hc) hr];exact h3 c hc
def twoO (o p:List Nat):List Nat:=p.map fun i=>o.getD i 0
def Jv (h:Ord n o) {p:List Nat} (hp:∀ i∈p,i<n) (r:V):mvO p (mvO o r)=mvO (twoO o p) r:=by
 unfold twoO;unfold mvO;rw [W6];show hd1 r :: _=hd1 r :: _;congr 1;refine Wn fun i hi=>?_;have hl:i<o.length:=by rw [h.len]; exact hp i hi
 simp [U8,hl]
def Ord.two (h:Ord n o) {p:List Nat} (hp:Ord n p):Ord n (twoO o p):=by
 have e:twoO o (List.range n)=o:=by
  unfold twoO
  apply WJ
  ·simp [h.len]
  ·intro i h1 h2;simp [U8,h2]
 have:=List.Perm.map (fun i=>o.getD i 0) hp
 unfold Ord;refine List.Perm.trans (show (twoO o p).Perm (twoO o (List.range n)) from this) ?_;rw [e]; exact h
def movK (n:Nat) (o:List Nat) (K:List (V × Bool)):List (V × Bool):=consP n (gensP n (K.map (mvC o)))
def movG (n:Nat) (o:List Nat) (K:List (V × Bool)):List (Nat × V):=gensP n (K.map (mvC o))
def mov_own (h:Ord n o):Own n (movK n o K) (movG n o K):=own_of (mv_rows h)
def Ord.onto (h:Ord n o) {r:V} (hr:r.length=n+1):∃ s,s.length=n+1/\mvO o s=r:=by
 let g:List Nat:=(List.range n).map fun i=>o.findIdx (· == i)
 have f:∀ i,i<n->o.findIdx (· == i)<n:=fun i hi=>by
  have:=YS (p:=(· == i)) (xs:=o) ⟨i,h.mem.2 hi,by simp⟩
  rwa [h.len] at this
 refine ⟨hd1 r :: (List.range n).map fun i=>r.getD (o.findIdx (· == i)+1) 0,by simp,?_⟩;unfold mvO;show hd1 r :: _=r;cases r with
 | nil=>simp at hr
 | cons a r =>
  have hr:r.length=n:=by simpa using hr
  show a :: _=_;congr 1
  apply WJ
  ·simp [h.len,hr]
  ·intro i h1 h2;have b:i<o.length:=by rw [h.len]; omega
   have e:o[i]<n:=h.mem.1 (Vd b);have d:o.Nodup:=(List.Perm.nodup_iff h).2 List.nodup_range;have c:o.findIdx (· == o[i])=i:=by
    have hlt:=YS (p:=(· == o[i])) (xs:=o) ⟨o[i],Vd b,by simp⟩;have hp:=List.findIdx_getElem (w:=hlt);exact (List.getElem_inj (h₀:=hlt) (h₁:=b) d).1 (by simpa using hp)
   simp [U8,e,c,h2]
def kP (h:Ord n o) (a:∀ c∈K,c.1.length=n+1):movG n o K≠[] ↔ gensP n K≠[]:=by
 unfold movG;rw [mL (mv_rows h),mL a];constructor
 ·rintro ⟨r,hr,h0⟩;obtain ⟨s,hs,rfl⟩:=h.onto (keepP_iff.1 hr).1;exact ⟨s,(pi h a hs).1 hr,h0⟩
 ·rintro ⟨r,hr,h0⟩;exact ⟨mvO o r,(pi h a (keepP_iff.1 hr).1).2 hr,h0⟩
def pj (h:Ord n o) (a:∀ c∈K,c.1.length=n+1) (hne:gensP n K≠[]) {r:V} (hr:r.length=n+1):de n (movK n o K) (mvO o r) ↔ de n K r:=by
 unfold movK;rw [y8 (mv_rows h) ((kP h a).2 hne)];exact pi h a hr
def move_two (h:Ord n o) {p:List Nat} (hp:Ord n p) (b:Own n K G):movK n p (movK n o K)=movK n (twoO o p) K/\movG n p (movK n o K)=movG n (twoO o p) K:=by
 have d:=mov_own (K:=K) h;have f:=mov_own (K:=movK n o K) hp;have g:=mov_own (K:=K) (h.two hp);by_cases a:gensP n K=[]
 ·have j:movG n o K=[]:=VF fun q=>(kP h b.rows).1 q a;have e2:movG n p (movK n o K)=[]:=VF fun q=>(kP hp d.rows).1 q (by rw [d.gens]; exact j);have e3:movG n (twoO o p) K=[]:=VF fun q=>(kP (h.two hp) b.rows).1 q a;refine ⟨?_,by rw [e2,e3]⟩;rw [<- f.cons,<- g.cons,e2,e3]
 refine f.same g fun r=>?_;have e:gensP n (movK n o K)≠[]:=by rw [d.gens]; exact (kP h b.rows).2 a
 constructor
 ·intro hr;obtain ⟨s,hs,rfl⟩:=hp.onto (keepP_iff.1 hr).1;obtain ⟨t,c,rfl⟩:=h.onto hs;rw [pj hp d.rows e hs,pj h b.rows a c] at hr;rw [Jv h (fun i hi=>hp.mem.1 hi),pj (h.two hp) b.rows a c];exact hr
 ·intro hr;obtain ⟨t,c,rfl⟩:=(h.two hp).onto (keepP_iff.1 hr).1;rw [pj (h.two hp) b.rows a c] at hr;rw [<- Jv h (fun i hi=>hp.mem.1 hi),pj hp d.rows e (mvO_len h t),pj h b.rows a c];exact hr
def SA (a:Own n K G):movK n (List.range n) K=K/\movG n (List.range n) K=G:=by
 have e:K.map (mvC (List.range n))=K:=by
  refine (Wn (g:=id) fun c hc=>?_).trans (X0 _);show (mvO (List.range n) c.1,c.2)=c;rw [Ib (a.rows c hc)]
 unfold movK movG;rw [e,a.gens];exact ⟨a.cons,rfl⟩
def move_back (h:Ord n o) {p:List Nat} (hp:Ord n p) (hi:twoO o p=List.range n) (a:Own n K G):movK n p (movK n o K)=K/\movG n p (movK n o K)=G:=by
 have h1:=move_two h hp a;rw [hi] at h1;have h2:=SA a;exact ⟨h1.1.trans h2.1,h1.2.trans h2.2⟩
end
end Go.Proofs.YtiigaeehghcjiaaGreat.Lin
namespace Go.Proofs.YtiigaeehghcjiaaGreat.Ev
open Go Nn
section
variable {tab:Nat->Option au} {H:Heap} {s:AV}
def EA (C:Code tab) (f:Wf H) {l:List Int} (hs:RowV H s l) (h0:0<l.length) (n:l.length<=1000) :
  Ans tab (.fn jI [s]) H fun v H'=>RowV H' v (l++[0])/\Kp H H':=by
 refine cz C.q15 zU fun T hl d=>?_;refine zW (aB hl d) ?_;refine AnsH.use (Dc C zF (hs.mono (zG H)) h0 zO) ?_;rintro v H2 ⟨c,b,hq⟩;obtain ⟨k2,_,t⟩:=zT H zK c;have o:H.next+7<=H2.next:=c.le
 have h:H2.get (H.next+4)=none:=c.free (show H.next+4<H.next+7 by omega) (f.fresh (b:=H.next+4) zO);have i:H2.get (H.next+5)=none:=c.free (show H.next+5<H.next+7 by omega) (f.fresh (b:=H.next+5) zO);have q:Bl intE aa H H2 v l:=by
  obtain ⟨cells,e,hb,hc,k⟩:=hq;exact .inr ⟨b,cells,e,hb,hc,Vq (VI _ _) k⟩
 have bb:im [.bool false,.nilSl] []=some (.agg [.bool false,.nilSl]):=rfl;have j:=AR (p:=.bool false) (q:=.nilSl) (aF false) bB;obtain ⟨N,g,e3,q3,m,r,-⟩:=Bl.push2 (ty2:=aa) (bytes:=32) (id:=H.next+5) (id2:=H.next+4) (cs:=[.bool false,.nilSl]) (a:=0) q zU k2 ⟨.nilSl,by simp,eM _⟩ zO zO i zO zO h zO zO zO;have e3:dq (H2.put (H.next+4) (.cells [.bool false,.nilSl] aa true)) (H.next+5) 2 32 aa v (.own (H.next+4) 0 1 1 2 true)=some (.own (H.next+5) 0 N N 2 false,g):=e3;refine zW (cn hl d bb j e3) ?_;exact ⟨q3.sl,m⟩
def Ff (C:Code tab) (p:Wf H) {fi:Nat} {first caps:List AV} {w:AV} {b:Bool} {l l':List Int} (hs:RowV H w l) (i:∀ H',Kp H H'->RowV H' w l->Ans tab (.fn fi (first++[w]++caps)) H' fun v H2=>RowV H2 v l'/\Kp H' H2) :
  Ans tab (.fn gf [.fn (.func fi) first caps,.agg [w,.bool b]]) H fun r H'=>(∃ w',r=.agg [w',.bool b]/\RowV H' w' l')/\Kp H H':=by
 have n:=hs.one;refine bE C.q16 zU fun T hl e h=>?_;refine zW (aZ hl e h (GN n)) ?_;obtain ⟨X,a⟩:∃ X,X=((H.up 2).put H.next (.cells [w,.bool b] t_api_Con true)).put (H.next+1) (.cells [.nilSl,.bool false] t_api_Con true):=⟨_,rfl⟩
 rw [<- a];have c:Kp H X:=by rw [a]; exact zK
 have d:X.get H.next=some (.cells [w,.bool b] t_api_Con true):=by rw [a,aw zO,am]
 have g:X.get (H.next+1)=some (.cells [.nilSl,.bool false] t_api_Con true):=by rw [a,am]
 clear a;have q:=c.wf;refine aJ ?_;refine zD (aC hl e d) ?_;refine AnsH.use (i _ (c.up _) ((hs.mono c.sub).mono (Sub.bump X _))) ?_;rintro v H2 ⟨f,j⟩;obtain ⟨k2,_,o⟩:=zT X zK j;have ov:=f.one;have d0:=k2.get d;have d1:=k2.get g;have m:=o _ _ d1;have k:=c.trans k2;have bb:=EK (x:=.nilSl) (y:=.bool false) ov (aF b);refine zD (fy hl e d d0 d1 bb) ?_;exact ⟨⟨v,rfl,f.monoT (SubT.put_ty d1 zU)⟩,k.put zO m⟩
def Nf (C:Code tab) (p:Wf H) {fi:Nat} {first caps:List AV} {w:AV} {k:Nat} {l l':List Int} (hs:RowV H w l) (h:∀ H',Kp H H'->RowV H' w l->Ans tab (.fn fi (first++[w]++caps)) H' fun v H2=>RowV H2 v l'/\Kp H' H2) :
  Ans tab (.fn i9 [.fn (.func fi) first caps,.agg [.int .u8 (k:Int),w]]) H fun r H'=>(∃ w',r=.agg [.int .u8 (k:Int),w']/\RowV H' w' l')/\Kp H H':=by
 have n:=hs.one;refine bE C.q19 zU fun T hl d g=>?_;refine zW (aZ hl d g (GM n)) ?_;obtain ⟨X,a⟩:∃ X,X=((H.up 2).put H.next (.cells [.int .u8 (k:Int),w] al true)).put (H.next+1) (.cells [.int .u8 0,.nilSl] al true):=⟨_,rfl⟩
 rw [<- a];have b:Kp H X:=by rw [a]; exact zK
 have c:X.get H.next=some (.cells [.int .u8 (k:Int),w] al true):=by rw [a,aw zO,am]
 have f:X.get (H.next+1)=some (.cells [.int .u8 0,.nilSl] al true):=by rw [a,am]
 clear a;have q:=b.wf;refine aJ ?_;refine zD (aC hl d c) ?_;refine AnsH.use (h _ (b.up _) ((hs.mono b.sub).mono (Sub.bump X _))) ?_;rintro v H2 ⟨e,i⟩;obtain ⟨k2,_,o⟩:=zT X zK i;have ov:=e.one;have d0:=k2.get c;have d1:=k2.get f;have m:=o _ _ d1;have j:=b.trans k2;have bb:=EK (x:=.int .u8 0) (y:=.nilSl) (bi .u8 (k:Int)) ov;refine zD (fy hl d c d0 d1 bb) ?_;exact ⟨⟨v,rfl,e.monoT (SubT.put_ty d1 zU)⟩,j.put zO m⟩
set_option maxHeartbeats 2000000 in
def Gk (C:Code tab) (W:Wf H) {fi:Nat} {first caps:List AV} {L:List (List Int × Bool)} (f:List Int × Bool->List Int × Bool) (hs:SlV conE t_api_Con H s L) (ag:L.length<=2000)
  (M:∀ c∈L,∀ H' cs,Kp H H'->conE.R H' cs c->Ans tab (.fn fi (first++[.agg cs]++caps)) H' fun r H2=>(∃ z,r=.agg z/\conE.R H2 z (f c))/\Kp H' H2) :
  Ans tab (.fn dC [s,.fn (.func fi) first caps]) H fun v H'=>SlV conE t_api_Con H' v (L.map f)/\Kp H H':=by
 refine bE C.q17 zU fun T hl h g=>?_;obtain ⟨cells,A⟩:∃ cells,cells=(List.replicate L.length [AV.nilSl,AV.bool false]).flatten:=⟨_,rfl⟩
 have S:∀ H':Heap,Hb H' (H.next+3) t_api_Con 2 32 [.nilSl,.bool false] (.int .i64 (L.length:Int)) (.int .i64 (L.length:Int))=some (.own (H.next+3) 0 L.length L.length 2 true,H'.put (H.next+3) (.cells cells t_api_Con true)):=fun H'=>by rw [A]; exact iy _ _ _ _ _ _ _ _ _ zO zO rfl
 refine zW (cn hl h g hs.lenV S) ?_;have X:conE.R H [.nilSl,.bool false] ([],false):=⟨.nilSl,rfl,SlV.nil _ _ _⟩
 have J:Cells conE H cells (List.replicate L.length ([],false)):=by rw [A]; exact mH X _
 have F:Kp H ((H.up 8).put (H.next+3) (.cells cells t_api_Con true)):=((Kp.refl W).up 8).put zO (show _<H.next+8 by omega);refine aq H [] (fun j _ H'=>∃ cs,H'.get (H.next+3)=some (.cells cs t_api_Con true)/\Cells conE H' cs ((L.take j).map f++List.replicate (L.length-j) ([],false))) (a:=0) (N:=L.length) rfl (by refine zW (aC hl h g) ?_; rfl) (zV (aC hl h g)) (Vn _) zO (by simp only [U7,hl]; rfl) rfl (fun j _ H' m ⟨cs,h1,h2⟩=>⟨cs,h1,Cells.mono (E:=conE) ((Sub.bump H' m).t _) h2⟩) F ⟨cells,am _ _ _,by
  rw [XN,Vl,W4,YI];exact Cells.mono (E:=conE) (F.sub.t _) J⟩ ?_ ?_
 ·rintro j T1 l _ hj o O q d ⟨cs,t,p⟩;have w1:=d.wf;have Z:=d.le;have ah:=d.le;have aj:=w1 _ _ t;have ab:ad T1 11=s:=(q.at_ 11 zU).trans (zV (aC hl h g));have t5:ad T1 5=.own (H.next+3) 0 L.length L.length 2 true:=(q.at_ 5 zU).trans (zV (aC hl h g));have t1:ad T1 1=.fn (.func fi) first caps:=(q.at_ 1 zU).trans (zV (aZ hl h g g))
  obtain ⟨ds,⟨w,rfl,hr⟩,-,-,u⟩:=(hs.mono d.sub).at (Vb hj);have Q:cG 2 s (.int .i64 (j:Int))=some (az s (j*2)):=hs.idx .i64 j hj;have u:bc l (some 2) (az s (j*2))=some (.agg [w,.bool (L[j]).2]):=u;have ow:=hr.one;have ob:=aF (L[j]).2;have ld:=Ldd.of w1 u;have P:cG 2 (.own (H.next+3) 0 L.length L.length 2 true) (.int .i64 (j:Int))=some (.ptr (H.next+3) (j*2)):=by
   have:=iB (b:=H.next+3) (off:=0) (n:=L.length) (c:=L.length) (sz:=2) (x:=true) (k:=.i64) (j:=j) hj
   simpa using this
  simp only [U7,hl] at o;refine zW (lp o ab t5 t1 O Q u ld.put) ?_;refine AnsH.use (M _ (Vd hj) _ [w,.bool (L[j]).2] zK ⟨w,rfl,hr.mono (zG l)⟩) ?_;rintro _ H2 ⟨⟨ae,rfl,U⟩,R⟩;obtain ⟨k2,_,w2⟩:=zT l zK R;have Y:=d.trans k2;have y:=k2.get t;have aa:=w2 _ _ y;obtain ⟨w',K,D⟩:=U;have af:cs.length=L.length*2:=by
   have:=p.1
   rw [Vv,Vf,VD,Xc] at this;have e:conE.sz=2:=rfl;rw [e] at this;rw [this]; congr 1; omega
  subst K;have V:y5 (some (.cells cs t_api_Con true)) 2 (j*2) (.agg [w',.bool (f L[j]).2])=some (.cells (cs.take (j*2)++[w',.bool (f L[j]).2]++cs.drop (j*2+2)) t_api_Con true):=fY (yg D.one (aF _)) zO;have B:Cells conE H2 (cs.take (j*2)++[w',.bool (f L[j]).2]++cs.drop (j*2+2)) (((L.take j).map f++List.replicate (L.length-j) ([],false)).set j (f L[j])):=(Cells.mono (E:=conE) (k2.sub.t _) p).set (i:=j) (by simp; omega) ⟨w',rfl,D⟩;have I:((L.take j).map f++List.replicate (L.length-j) ([],false)).set j (f L[j])=(L.take (j+1)).map f++List.replicate (L.length-(j+1)) ([],false):=by
   have G:L.length-j=(L.length-(j+1))+1:=zO;have e2:j-(List.map f (List.take j L)).length=0:=by simp; omega
   rw [G,Wb,ZV,if_neg (by simp; omega),e2,Zw,Vi hj,VP,WU];rfl
  rw [I] at B;refine zW (aZ o P y V) ?_;exact ⟨Y.put zO aa,_,rfl,Cells.mono (E:=conE) (SubT.put_ty y zU) B⟩
 ·rintro T1 l o q d ⟨cs,t,p⟩;have w1:=d.wf;have Z:=d.le;have t5:ad T1 5=.own (H.next+3) 0 L.length L.length 2 true:=(q.at_ 5 zU).trans (zV (aC hl h g));simp only [U7,hl] at o;refine zW (aB o t5) ?_;refine ⟨?_,d.up _⟩;rw [VH,Yv,List.replicate_zero,Wt] at p;have h1:Own conE t_api_Con (Heap.nil 0) l (H.next+3) true (.own (H.next+3) 0 L.length L.length 2 true) (L.map f):=⟨cs,by rw [Vf]; rfl,t,p,Vn _⟩
  exact h1.sl.mono (Sub.bump l _)
set_option maxHeartbeats 2000000 in
def OE (C:Code tab) (W:Wf H) {fi:Nat} {first caps:List AV} {L:List (Nat × List Int)} (f:Nat × List Int->Nat × List Int) (hs:SlV genE al H s L) (ag:L.length<=2000)
  (M:∀ c∈L,∀ H' cs,Kp H H'->genE.R H' cs c->Ans tab (.fn fi (first++[.agg cs]++caps)) H' fun r H2=>(∃ z,r=.agg z/\genE.R H2 z (f c))/\Kp H' H2) :
  Ans tab (.fn fo [s,.fn (.func fi) first caps]) H fun v H'=>SlV genE al H' v (L.map f)/\Kp H H':=by
 refine bE C.q20 zU fun T hl h g=>?_;obtain ⟨cells,A⟩:∃ cells,cells=(List.replicate L.length [AV.int .u8 0,AV.nilSl]).flatten:=⟨_,rfl⟩
 have S:∀ H':Heap,Hb H' (H.next+3) al 2 32 [.int .u8 0,.nilSl] (.int .i64 (L.length:Int)) (.int .i64 (L.length:Int))=some (.own (H.next+3) 0 L.length L.length 2 true,H'.put (H.next+3) (.cells cells al true)):=fun H'=>by rw [A]; exact iy _ _ _ _ _ _ _ _ _ zO zO rfl
 refine zW (cn hl h g hs.lenV S) ?_;have X:genE.R H [.int .u8 0,.nilSl] (0,[]):=⟨.nilSl,rfl,SlV.nil _ _ _⟩
 have J:Cells genE H cells (List.replicate L.length (0,[])):=by rw [A]; exact mH X _
 have F:Kp H ((H.up 8).put (H.next+3) (.cells cells al true)):=((Kp.refl W).up 8).put zO (show _<H.next+8 by omega);refine aq H [] (fun j _ H'=>∃ cs,H'.get (H.next+3)=some (.cells cs al true)/\Cells genE H' cs ((L.take j).map f++List.replicate (L.length-j) (0,[]))) (a:=0) (N:=L.length) rfl (by refine zW (aC hl h g) ?_; rfl) (zV (aC hl h g)) (Vn _) zO (by simp only [U7,hl]; rfl) rfl (fun j _ H' m ⟨cs,h1,h2⟩=>⟨cs,h1,Cells.mono (E:=genE) ((Sub.bump H' m).t _) h2⟩) F ⟨cells,am _ _ _,by
  rw [XN,Vl,W4,YI];exact Cells.mono (E:=genE) (F.sub.t _) J⟩ ?_ ?_
 ·rintro j T1 l _ hj o O q d ⟨cs,t,p⟩;have w1:=d.wf;have Z:=d.le;have ah:=d.le;have aj:=w1 _ _ t;have ab:ad T1 11=s:=(q.at_ 11 zU).trans (zV (aC hl h g));have t5:ad T1 5=.own (H.next+3) 0 L.length L.length 2 true:=(q.at_ 5 zU).trans (zV (aC hl h g));have t1:ad T1 1=.fn (.func fi) first caps:=(q.at_ 1 zU).trans (zV (aZ hl h g g))
  obtain ⟨ds,⟨w,rfl,hr⟩,-,-,u⟩:=(hs.mono d.sub).at (Vb hj);have Q:cG 2 s (.int .i64 (j:Int))=some (az s (j*2)):=hs.idx .i64 j hj;have u:bc l (some 2) (az s (j*2))=some (.agg [.int .u8 ((L[j]).1:Int),w]):=u;have ow:=hr.one;have ob:=bi .u8 ((L[j]).1:Int);have ld:=Ldd.of w1 u;have P:cG 2 (.own (H.next+3) 0 L.length L.length 2 true) (.int .i64 (j:Int))=some (.ptr (H.next+3) (j*2)):=by
   have:=iB (b:=H.next+3) (off:=0) (n:=L.length) (c:=L.length) (sz:=2) (x:=true) (k:=.i64) (j:=j) hj
   simpa using this
  simp only [U7,hl] at o;refine zW (lp o ab t5 t1 O Q u ld.put) ?_;refine AnsH.use (M _ (Vd hj) _ [.int .u8 ((L[j]).1:Int),w] zK ⟨w,rfl,hr.mono (zG l)⟩) ?_;rintro _ H2 ⟨⟨ae,rfl,U⟩,R⟩;obtain ⟨k2,_,w2⟩:=zT l zK R;have Y:=d.trans k2;have y:=k2.get t;have aa:=w2 _ _ y;obtain ⟨w',K,D⟩:=U;have af:cs.length=L.length*2:=by
   have:=p.1
   rw [Vv,Vf,VD,Xc] at this;have e:genE.sz=2:=rfl;rw [e] at this;rw [this]; congr 1; omega
  subst K;have V:y5 (some (.cells cs al true)) 2 (j*2) (.agg [.int .u8 ((f L[j]).1:Int),w'])=some (.cells (cs.take (j*2)++[.int .u8 ((f L[j]).1:Int),w']++cs.drop (j*2+2)) al true):=fY (yg (bi _ _) D.one) zO;have B:Cells genE H2 (cs.take (j*2)++[.int .u8 ((f L[j]).1:Int),w']++cs.drop (j*2+2)) (((L.take j).map f++List.replicate (L.length-j) (0,[])).set j (f L[j])):=(Cells.mono (E:=genE) (k2.sub.t _) p).set (i:=j) (by simp; omega) ⟨w',rfl,D⟩;have I:((L.take j).map f++List.replicate (L.length-j) (0,[])).set j (f L[j])=(L.take (j+1)).map f++List.replicate (L.length-(j+1)) (0,[]):=by
   have G:L.length-j=(L.length-(j+1))+1:=zO;have e2:j-(List.map f (List.take j L)).length=0:=by simp; omega
   rw [G,Wb,ZV,if_neg (by simp; omega),e2,Zw,Vi hj,VP,WU];rfl
  rw [I] at B;refine zW (aZ o P y V) ?_;exact ⟨Y.put zO aa,_,rfl,Cells.mono (E:=genE) (SubT.put_ty y zU) B⟩
 ·rintro T1 l o q d ⟨cs,t,p⟩;have w1:=d.wf;have Z:=d.le;have t5:ad T1 5=.own (H.next+3) 0 L.length L.length 2 true:=(q.at_ 5 zU).trans (zV (aC hl h g));simp only [U7,hl] at o;refine zW (aB o t5) ?_;refine ⟨?_,d.up _⟩;rw [VH,Yv,List.replicate_zero,Wt] at p;have h1:Own genE al (Heap.nil 0) l (H.next+3) true (.own (H.next+3) 0 L.length L.length 2 true) (L.map f):=⟨cs,by rw [Vf]; rfl,t,p,Vn _⟩
  exact h1.sl.mono (Sub.bump l _)
def OP {H':Heap} {b n i:Nat} {cells:List AV} (hb:H'.get b=some (.cells cells aa true)) (hn:cells.length=n*2) (hi:i<n) (j:n<1099511627776) (d:cells.all AV.one=true) :
  ∃ y H2 a,bU 2 (.own b 0 n n 2 false) (some (.int .i64 ((i+1:Nat):Int))) none none=some y/\(∀ id,dq H' id 2 32 aa (.own b 0 i n 2 false) y=some (.own b 0 (n-1) n 2 false,H2))/\H2.get b=some (.cells a aa true)/\a.take ((n-1)*2)=cells.take (i*2)++cells.drop ((i+1)*2)/\a.length=n*2/\(∀ c,c≠b->H2.get c=H'.get c)/\H2.next=H'.next:=by
 by_cases h:i+1<n
 ·refine ⟨.own b (0+(i+1)*2) (n-(i+1)) (n-(i+1)) 2 false,H'.put b (.cells (cells.take (0+i*2)++cells.drop ((i+1)*2)++cells.drop (0+i*2+(n-(i+1))*2)) aa true),_,?_,fun id=>?_,am _ _ _,?_,?_,fun c hc=>aw hc,rfl⟩
  ·show bA 2 (.own b 0 n n 2 false) (some (.int .i64 ((i+1:Nat):Int))) none none=_;simp only [bA,ea,ne_eq,not_true_eq_false,if_false,Va,V9,WO,WL,WK,Wo];rw [if_pos ⟨Ve _,zO⟩,if_pos (.inl h)]
  ·have f:aK H' 2 (n-(i+1)) (.own b (0+(i+1)*2) (n-(i+1)) (n-(i+1)) 2 false)=some (cells.drop ((i+1)*2)):=by
    simp only [aK,hb];rw [if_pos ⟨trivial,Ve _,zO⟩];rw [Vy (by simp; omega)]
    simp
   have g:(cells.drop ((i+1)*2)).all AV.one=true:=by
    rw [Vz] at d ⊢;exact fun x hx=>d x (XF hx)
   unfold dq;simp only [gJ];rw [f];simp only [cM,hb];rw [if_pos ⟨trivial,zO,zO,trivial,zO⟩,if_pos zO,if_neg zO,if_pos ⟨trivial,g⟩];congr 3;omega
  ·rw [WF (by simp; omega),Vy (by simp; omega)]
   simp
  ·simp; omega
 ·have k:n=i+1:=zO;refine ⟨.sl [] 0,H',cells,?_,fun id=>?_,hb,?_,hn,fun _ _=>rfl,rfl⟩
  ·show bA 2 (.own b 0 n n 2 false) (some (.int .i64 ((i+1:Nat):Int))) none none=_;simp only [bA,ea,ne_eq,not_true_eq_false,if_false,Va,V9,WO,WL,WK,Wo];rw [if_pos ⟨Ve _,zO⟩,if_neg zO]
   simp
  ·unfold dq;simp only [gJ,aK];simp only [cM,hb]
   simp
   refine ⟨zO,?_⟩;have e:n-1=i:=zO;rw [if_pos zO,e]
  ·rw [@Xw _ cells _ zO,Wt];congr 1;omega
def IY (C:Code tab) {H0:Heap} {v:AV} {l:List Int} {i b:Nat} (u:Kp H0 H) (hs:Own intE aa H0 H b false v l) (hi:i<l.length) (o:l.length<1099511627776) :
  Ans tab (.fn cR [v,.int .i64 (i:Int),.int .i64 ((i+1:Nat):Int)]) H fun Q H'=>RowV H' Q (l.eraseIdx i)/\Kp H0 H':=by
 obtain ⟨cells,g,hb,hcl,F⟩:=hs;have g:v=.own b 0 l.length l.length 2 false:=g;subst g;have hn:cells.length=l.length*2:=hcl.1;have hlt:=u.wf _ _ hb;have L:=hcl.ones;obtain ⟨n,w⟩:∃ n,l.length=n:=⟨_,rfl⟩
 rw [w] at hn hi o ⊢;refine mz C.q37 zU fun T hl j k m=>?_;have B:bU 2 (.own b 0 n n 2 false) (some (.int .i64 (i:Int))) (some (.int .i64 ((i+1:Nat):Int))) (some (.int .i64 (n:Int)))=some (.own b (0+i*2) (i+1-i) (n-i) 2 true):=by
  simp only [bU,bA,ea,ne_eq,not_true_eq_false,if_false,Va,V9,WO,WL,WK,Wo];rw [if_pos ⟨Ve _,zO,zO⟩,if_neg zO]
 have J:¬ (i:Int)=((i+1:Nat):Int):=zO;have K:¬ i=i+1:=zO;have R:=DQ b 0 n n 2 i false .i64 (Xe hi);obtain ⟨y,H2,d,hy,E,q2,P,Y,z,x⟩:=OP (H':=H.up 21) (b:=b) (i:=i) hb hn hi o L;have M:bU 2 (.own b 0 (n-1) n 2 false) (some (.int .i64 ((n-1:Nat):Int))) (some (.int .i64 (n:Int))) none=some (.own b ((n-1)*2) 1 1 2 false):=by
  simp only [bU,bA,ea,ne_eq,not_true_eq_false,if_false,Va,V9,WO,WL,WK,Wo];rw [if_pos ⟨Ve _,zO⟩,if_pos (.inl zO)];congr 2 <;> omega
 have G:∀ X:Heap,X.get b=some (.cells d aa true)->oP X 2 [.bool false,.nilSl] (.own b ((n-1)*2) 1 1 2 false)=some (X.put b (.cells (d.take ((n-1)*2)++(List.replicate 1 [AV.bool false,AV.nilSl]).flatten++d.drop ((n-1)*2+1*2)) aa true)):=fun X D=>by
  simp only [oP,D];rw [if_neg zO,if_pos ⟨trivial,zO,rfl,rfl⟩]
 have I:=G (H2.up 6) q2;refine zW (ip hl j k m B J K) ?_;refine aJ ?_;simp -dsimp (maxSteps:=1000000) (disch:=(first | omega | assumption | exact aF _ | exact bi _ _ | exact bB | exact cK _ _ _ | exact bS _ _ | exact bJ _ _ _ _ _ _ | exact cQ _ _ | exact bX _)) only [↓wD,wC,↓Tc,Tb,Nat.reduceLT,Nat.reduceEqDiff,Nat.reduceAdd,reduceIte,reduceCtorEq,Nat.reduceBEq,Int.reduceEq,Int.reduceLT,Int.reduceLE,Int.reduceAdd,Int.reduceSub,hl,j,k,m,R,hy,E,Ef,M,↓E4,I];obtain ⟨a,f⟩:∃ c,c=d.take ((n-1)*2)++(List.replicate 1 [AV.bool false,AV.nilSl]).flatten++d.drop ((n-1)*2+2):=⟨_,rfl⟩
 rw [<- f];have k2:Kp H0 H2:=(u.up 21).at_ z x F (by show b<H.next+21; omega);have V:=k2.le;have W:b<H2.next:=by rw [x]; show _<H.next+21; omega
 have A:SubT intE.tys H ((H2.up 8).put b (.cells a aa true)):=fun c cs t r N hc=>by
  have q:c≠b:=fun e=>by
   subst e;rw [hb] at hc; cases hc
   revert N; decide
  rw [aw q];exact (z c q).trans hc
 have O:a.take ((n-1)*2)=cells.take (i*2)++cells.drop ((i+1)*2):=by
  rw [f,WU,WF (by simp; omega),Vy (by simp; omega),P]
 have S:a.length=n*2:=by rw [f]; simp; omega
 refine ⟨?_,zK⟩;have h1:=(hcl.mono A).take (n:=i) zO;have h2:=(hcl.mono A).drop (i+1);have h3:=h1.append h2;have es:intE.sz=2:=rfl;rw [es,<- Xf,<- O] at h3;have U:(l.eraseIdx i).length=n-1:=by rw [List.length_eraseIdx]; rw [if_pos zO,w]
 have p:((H2.up 8).put b (.cells a aa true)).get b=some (.cells a aa true):=am _ _ _;refine ⟨a.take ((n-1)*2),⟨(show n-1<=n by omega),fun s h=>(by cases h),n-1,rfl,?_⟩,fun _ _ _ _ _ _ e=>(by cases e; exact ⟨_,_,p⟩),h3⟩;simp only [aK,p];rw [es,if_pos ⟨rfl,Ve _,zO⟩,Z1]
def EC (C:Code tab) (m:Wf H) {l:List Int} {x bo n:Nat} (hs:RowV H s l) (k:l.length=(n+1)+1) (hx:x<n+1) (j:n<=60) (hA:H.get bo=some (.cells [.int .i64 (x:Int)] aL true)) :
  Ans tab (.fn jJ [s,.ptr bo 0]) H fun v H'=>RowV H' v (Lin.delR x l)/\Kp H H':=by
 refine bE C.q18 zU fun T hl a c=>?_;refine zW (aC hl a c) ?_;refine aJ ?_;refine zD (aZ hl a c hA) ?_;refine AnsH.use (Dc C zF (hs.mono (zG H)) zO zO) ?_;rintro v H2 ⟨f,b,hq⟩;obtain ⟨k2,_,o⟩:=zT H zK f;have e:IntKind.i64.wrap ((x:Int)+1)=((x+1:Nat):Int):=by rw [wrap_i64] <;> omega
 have e2:IntKind.i64.wrap ((x:Int)+2)=((x+1+1:Nat):Int):=by rw [wrap_i64] <;> omega
 have d:=k2.get hA;refine zD (ip hl a c hA d e e2) ?_;refine AnsH.use (IY C f hq zO zO) ?_;rintro v3 i ⟨hr,g⟩;obtain ⟨h,_,_⟩:=zT H zK g;refine zD (ip hl a c hA d e e2) ?_;exact ⟨hr,h⟩
def NN {m:Nat} {a:List Int} (h:Lin.Bd (2^m) a):Lin.Bd (2^m) (a++[0]):=xJ fun y hy=>by
 rcases Vx.1 hy with hy | hy
 ·exact Lin.Bd.mem h y hy
 ·rw [VK] at hy;subst hy;exact Vn _
def OO {m x:Nat} {a:List Int} (h:Lin.Bd (2^m) a):Lin.Bd (2^m) (Lin.delR x a):=xJ fun y hy=>Lin.Bd.mem h y (VN hy)
def Mq (C:Code tab) (g:Wf H) {L:List (List Int × Bool)} (hs:SlV conE t_api_Con H s L) (f:L.length<=2000) (b:∀ c∈L,0<c.1.length/\c.1.length<=1000) :
  Ans tab (.fn dC [s,.fn (.func gf) [.fn (.func jI) [] []] []]) H fun v H'=>SlV conE t_api_Con H' v (L.map Lin.padC)/\Kp H H' :=
 Gk C g Lin.padC hs f fun c hc H' cs d hr=>by
  obtain ⟨w,rfl,h⟩:=hr;refine AnsH.use (Ff C d.wf (l':=c.1++[0]) h fun H2 a h2=>?_) ?_
  ·exact EA C a.wf h2 (b c hc).1 (b c hc).2
  ·rintro r H2 ⟨⟨w',e,h'⟩,a⟩;exact ⟨⟨_,e,w',rfl,h'⟩,a⟩
def Ms (C:Code tab) (g:Wf H) {L:List (Nat × List Int)} {x bo n:Nat} (hs:SlV genE al H s L) (d:L.length<=2000) (f:∀ c∈L,c.2.length=(n+1)+1) (hx:x<n+1) (hn:n<=60) (hA:H.get bo=some (.cells [.int .i64 (x:Int)] aL true)) :
  Ans tab (.fn fo [s,.fn (.func i9) [.fn (.func jJ) [] [.ptr bo 0]] []]) H fun v H'=>SlV genE al H' v (L.map (Lin.delG x))/\Kp H H' :=
 OE C g (Lin.delG x) hs d fun c hc H' cs b hr=>by
  obtain ⟨w,rfl,h⟩:=hr;refine AnsH.use (Nf C b.wf (k:=c.1) (l':=Lin.delR x c.2) h fun H2 a h2=>?_) ?_
  ·exact EC C a.wf h2 (f c hc) hx hn ((b.trans a).get hA)
  ·rintro r H2 ⟨⟨w',e,h'⟩,a⟩;exact ⟨⟨_,e,w',rfl,h'⟩,a⟩
set_option maxHeartbeats 4000000 in
def LU (C:Code tab) (X:Wf H) {v:AV} {n e f m2:Nat} {K:List (List Int × Bool)} {G:List (Nat × List Int)} (hp:PolyV H v n K G) (d:PolyOK n e f K G) (hn:n<=3) (W:K.length<=60) (F:∀ x∈Lin.gensP (n+1) (K.map Lin.padC),Lin.Bd (2^m2) x.2) (L:m2<=300000) :
  Ans tab (.fn nM [v]) H fun r H'=>sj H' r (n+1) (Lin.gensP (n+1) (K.map Lin.padC))/\Kp H H':=by
 obtain ⟨B,D,rfl,hc,hg⟩:=hp;have P:=hc.one;have Q:=hg.one;refine cz C.q3 zU fun T hl a=>?_;refine zW (aC hl a (py P Q)) ?_;refine AnsH.eq (uj C (n:=n) (K:=K) (G:=G) zF ⟨B,D,rfl,hc.mono (zG H),hg.mono (zG H)⟩ d) fun H2 o=>?_;obtain ⟨k2,_,u⟩:=zT H zK o;have d0:H2.get H.next=some (.cells [.int .i64 (n:Int),B,D] aj true):=o.get (cY)
 have d1:H2.get (H.next+1)=some (.cells [.int .i64 0,.nilSl,.nilSl] aj true):=o.get (cY);have ab:=u _ _ d1;have O:¬ (n:Int)=8:=zO;have j:IntKind.i64.wrap ((n:Int)+1)=((n+1:Nat):Int):=by rw [wrap_i64] <;> omega
 refine zW (cn hl a d0 O @aD) ?_;refine aJ ?_;refine zD (cn hl a d0 d1 j) ?_;refine AnsH.use (Mq C (u.bump 18) ((hc.mono k2.sub).mono (Sub.bump H2 18)) zO fun c hc=>⟨by have:=(d.rowK c hc).1; omega,by have:=(d.rowK c hc).1; omega⟩) ?_;rintro v3 k ⟨M,I⟩;have k23:Kp H2 k:=Kp.trans ((Kp.refl u).up 18) I;have Y:=k23.le;have s:Kp H k:=k2.trans k23;have Z:=s.le;have U:=s.wf;have h:=k23.get d0;have i:=k23.get d1;refine zD (ip hl a d0 d1 h i j) ?_;have N:∀ c∈K.map Lin.padC,c.1.length=(n+1)+1/\Lin.Bd (2^f) c.1:=fun c hc=>by
  obtain ⟨b,hb,rfl⟩:=Vc.1 hc;exact ⟨by show (b.1++[0]).length=_; rw [Vv,(d.rowK b hb).1]; rfl,NN (d.rowK b hb).2⟩
 refine AnsH.use (kT C (n:=n+1) (m:=f) (m2:=m2) U M zO (by rw [Vf]; omega) N d.f3 F L) ?_;rintro _ l ⟨q,J⟩;obtain ⟨t,_,_⟩:=zT k zK J;have A:Kp H l:=s.trans t;have aa:=A.le;have V:=A.wf;have w:=t.get h;have g:=t.get i;have ad:=V _ _ g;rcases q with ⟨rfl,q⟩ | ⟨p,rfl,⟨R,S,rfl,y,z⟩,h1,h2⟩
 ·refine zD (pD hl a d0 d1 h i w g j @oQ) ?_;exact ⟨.inl ⟨rfl,q⟩,zK⟩
 ·have ae:=y.one;have af:=z.one;refine zD (pD hl a d0 d1 h i w g j @oQ) ?_;refine ⟨.inr ⟨_,rfl,⟨R,S,rfl,?_,?_⟩,h1,h2⟩,zK⟩
  ·have m3:NoTy (t_api_Con :: conE.tys) l (H.next+1):=NoTy.ty g zU;exact SlV.monoT (E:=conE) zS y
  ·have m3:NoTy (al :: genE.tys) l (H.next+1):=NoTy.ty g zU;exact SlV.monoT (E:=genE) zS z
def Rx (H:Heap) (r:AV) (n:Nat) (x:Int) (G:List (Nat × List Int)):Prop :=
 (0<=x/\x<(n:Int)/\Db H r (n-1) (G.map (Lin.delG x.toNat)))\/(¬ (0<=x/\x<(n:Int))/\r=.tup [wT,.int .i64 2])
set_option maxHeartbeats 4000000 in
def CK (C:Code tab) (hw:Wf H) {v:AV} {n e f m2 m3:Nat} {x:Int} {K:List (List Int × Bool)} {G:List (Nat × List Int)} (hp:PolyV H v n K G) (j:PolyOK n e f K G) (X:G.length<=60)
  (Q:∀ y:Nat,x=(y:Int)->y<n->∀ c∈Lin.consP (n-1) (G.map (Lin.delG y)),Lin.Bd (2^m2) c.1) (Z:m2<=300000) (R:∀ y:Nat,x=(y:Int)->y<n->∀ c∈Lin.gensP (n-1) (Lin.consP (n-1) (G.map (Lin.delG y))),Lin.Bd (2^m3) c.2) (aa:m3<=300000) (Y:∀ y:Nat,x=(y:Int)->y<n->(Lin.consP (n-1) (G.map (Lin.delG y))).length<=1022) :
  Ans tab (.fn lz [v,.int .i64 x]) H fun r H'=>Rx H' r n x G/\Kp H H':=by
 obtain ⟨O,P,rfl,hc,hg⟩:=hp;have oc:=hc.one;have og:=hg.one;refine bE C.q4 zU fun T hl d i=>?_;refine zW (aZ hl d i (py oc og)) ?_;refine AnsH.eq (uj C (n:=n) (K:=K) (G:=G) zF ⟨O,P,rfl,hc.mono (zG H),hg.mono (zG H)⟩ j) fun H2 u=>?_;obtain ⟨k2,_,J⟩:=zT H zK u;have d0:H2.get H.next=some (.cells [.int .i64 (n:Int),O,P] aj true):=u.get (cY)
 have a:H2.get (H.next+1)=some (.cells [.int .i64 x] aL true):=u.get (cY);have d1:H2.get (H.next+2)=some (.cells [.int .i64 0,.nilSl,.nilSl] aj true):=u.get (cY);have ao:=J _ _ d1;by_cases q1:x<0
 ·refine zW (lp hl d i d0 d1 a q1 @oQ) ?_;exact ⟨.inr ⟨zO,rfl⟩,zK⟩
 by_cases q2:(n:Int)<=x
 ·refine zW (lh hl d i d0 d1 a q1 q2 @oQ) ?_;exact ⟨.inr ⟨zO,rfl⟩,zK⟩
 have ag:=j.dim;obtain ⟨y,hy⟩:∃ y:Nat,x=(y:Int):=⟨x.toNat,zO⟩
 subst hy;obtain ⟨n',ab⟩:∃ n',n=n'+1:=⟨n-1,zO⟩
 subst ab;have hy:y<n'+1:=zO;have s:IntKind.i64.wrap (((n'+1:Nat):Int)-1)=(n':Int):=by rw [wrap_i64] <;> omega
 refine zW (lp hl d i d0 a q1 q2 @aD) ?_;refine aJ ?_;refine zD (ip hl d i d0 d1 a s) ?_;refine AnsH.use (Ms C (n:=n') (x:=y) (bo:=H.next+1) (J.bump 24) ((hg.mono k2.sub).mono (Sub.bump H2 24)) zO (fun c hc=>(j.rowG c hc).1) hy zO a) ?_;rintro v3 z ⟨ad,U⟩;have k23:Kp H2 z:=Kp.trans ((Kp.refl J).up 24) U;have ah:=k23.le;have I:Kp H z:=k2.trans k23;have ak:=I.le;have w3:=I.wf;have l:=k23.get d0;have o:=k23.get d1;have q:=k23.get a;refine zD (pD hl d i d0 d1 a l o q s) ?_;have hv:=Lin.del_valid (n:=n') (x:=y) (G:=G) j.own.valid hy;have W:∀ g∈G.map (Lin.delG y),g.1=1\/g.1=2\/g.1=3:=fun g hg=>by
  obtain ⟨b,hb,rfl⟩:=Vc.1 hg;exact j.kinds b hb
 have S:∀ g∈G.map (Lin.delG y),Lin.Bd (2^e) g.2:=fun g hg=>by
  obtain ⟨b,hb,rfl⟩:=Vc.1 hg;exact OO (j.bG b hb)
 refine AnsH.use (vO C (n:=n') (m:=e) (m2:=m2) (m3:=m3) w3 ad zO (by rw [Vf]; exact X) hv W S j.e3 (Q y rfl hy) Z (R y rfl hy) aa (.inl (Y y rfl hy))) ?_;rintro _ A ⟨t,V⟩;obtain ⟨w,_,_⟩:=zT z zK V;have N:Kp H A:=I.trans w;have am:=N.le;have w4:=N.wf;have B:=w.get l;have k:=w.get o;have D:=w.get q;have aq:=w4 _ _ k;have F:∀ H' r,Db H' r n' (G.map (Lin.delG y))->Rx H' r (n'+1) (y:Int) G:=fun H' r h=>.inl ⟨zO,zO,by rw [WV]; exact h⟩;rcases t with ⟨rfl,t⟩ | ⟨rfl,t⟩ | ⟨p,rfl,⟨ae,af,rfl,L,M⟩,h1,h2⟩
 ·refine zD (Dd hl d i d0 d1 a l o q B k D s @oQ) ?_;exact ⟨F _ _ (.inl ⟨rfl,t⟩),zK⟩
 ·refine zD (Dd hl d i d0 d1 a l o q B k D s @oQ) ?_;exact ⟨F _ _ (.inr (.inl ⟨rfl,t⟩)),zK⟩
 ·have ar:=L.one;have av:=M.one;refine zD (Dd hl d i d0 d1 a l o q B k D s @oQ) ?_;refine ⟨F _ _ (.inr (.inr ⟨_,rfl,⟨ae,af,rfl,?_,?_⟩,h1,h2⟩)),zK⟩
  ·have m3:NoTy (t_api_Con :: conE.tys) A (H.next+2):=NoTy.ty k zU;exact SlV.monoT (E:=conE) zS L
  ·have m3:NoTy (al :: genE.tys) A (H.next+2):=NoTy.ty k zU;exact SlV.monoT (E:=genE) zS M
end
section
variable {tab:Nat->Option au} {H:Heap}
end
section
variable {tab:Nat->Option au} {H:Heap} {s:AV}
end
section
variable {tab:Nat->Option au} {H:Heap}
end
section
variable {tab:Nat->Option au} {H:Heap} {s:AV}
def ok1 {K:List (List Int × Bool)} {G:List (Nat × List Int)} (h1:Lin.gensP 1 K=G) (h2:Lin.consP 1 G=K) (h:(K.all (fun x=>decide (x.1.length=2) && x.1.all (fun a=>decide (a.natAbs<=16))) && G.all (fun x=>x.2.all (fun a=>decide (a.natAbs<=16))) && decide (K.length<=60) && decide (G.length<60))=true):PolyOK 1 4 4 K G:=by
 simp only [VL,Vz,decide_eq_true_eq] at h;obtain ⟨⟨⟨h3,b⟩,h5⟩,d⟩:=h;exact ⟨⟨fun c hc=>(h3 c hc).1,h1,h2⟩,zO,.inl h5,zO,fun c hc=>Lin.bd_small4 (Vz.2 fun a ha=>decide_eq_true ((h3 c hc).2 a ha)),fun x hx=>Lin.bd_small4 (Vz.2 fun a ha=>decide_eq_true (b x hx a ha)),zO,zO⟩
def ok13:PolyOK 1 4 4 [([-1,1],false),([3,-1],false)] [(3,[1,1]),(3,[1,3])]:=ok1 Lin.g13 Lin.k13 zU
def Ue (a:AV):Prop:=∃ x u w,a=.agg [.int .i64 x,u,w]/\One u/\One w
def DO:Ue wT:=⟨0,.nilSl,.nilSl,rfl,bB,bB⟩
def TellP (H:Heap) (d:Int) (p:AV) (K:List (List Int × Bool)) (G:List (Nat × List Int)):Prop :=
 ∃ n:Nat,d=(n:Int)/\n<=3/\PolyV H p n K G/\Lin.Own n K G/\K.length<1024/\G.length<1024
def TellP.mono {H H':Heap} {d:Int} {p:AV} {K:List (List Int × Bool)} {G:List (Nat × List Int)} (h:TellP H d p K G) (hs:Sub H H'):TellP H' d p K G:=by
 obtain ⟨n,h1,h2,h3,a⟩:=h;exact ⟨n,h1,h2,h3.mono hs,a⟩
def TellP.pag {H:Heap} {d:Int} {p:AV} {K:List (List Int × Bool)} {G:List (Nat × List Int)} (h:TellP H d p K G):Ue p:=by
 obtain ⟨n,h1,h2,⟨b,c,rfl,hc,hg⟩,a⟩:=h;exact ⟨_,_,_,rfl,hc.one,hg.one⟩
def Om (C:Code tab) (i:Wf H) {d:Int} {l:List wA} (hs:SlV conQE t_api_Con H s l) (gl:∀ r∈l,my r.1) (hg:gg 6 l=false) (h3:¬ 3<d) :
  Ans tab (.fn ph [.int .i64 d,s]) H fun v H'=>Kp H H'/\∃ p f,v=.tup [p,.int .i64 f]/\Ue p/\(f=0->∃ K G,TellP H' d p K G):=by
 rcases LZ (d:=d) (n:=6) hs gl hg zO zO with g | ⟨n,rfl,o,k,ll,b⟩
 ·refine (Gl C i hs (Iu hg) (by have:=(jO hg).1; omega) g).mono ?_;rintro v H2 ⟨rfl,a⟩;exact ⟨a,_,_,rfl,DO,fun e=>absurd e g⟩
 ·have j:=pn zO b;refine (kT C (n:=n) (m:=64) (m2:=64*(64+4)) i k zO (by rw [Vf]; omega) b zO (fun x hx=>(j x hx).2) zO).mono ?_;rintro v H2 ⟨hm,a⟩;rcases hm with ⟨rfl,-⟩ | ⟨p,rfl,hp,h1,h2⟩
  ·exact ⟨a,_,_,rfl,DO,fun e=>by cases e⟩
  ·have h:TellP H2 (n:Int) p _ _:=⟨n,rfl,zO,hp,Lin.own_of fun c hc=>(b c hc).1,h2,h1⟩
   exact ⟨a,p,0,rfl,h.pag,fun _=>⟨_,_,h⟩⟩
section
open Lin
end
section
variable {n:Nat} {K K':List (List Int × Bool)} {G G':List (Nat × List Int)}
def vA {H:Heap} {v:AV} {e f:Nat} (hm:sj H v n G) (h:PolyOK n e f K G):∃ a b,v=.tup [.agg [.int .i64 (n:Int),a,b],.int .i64 0]/\SlV conE t_api_Con H a K/\SlV genE al H b G:=by
 have c:=h.own.cons;have h1:=h.many;have h2:=h.lenK;unfold sj at hm;rw [c] at hm;rcases hm with ⟨-,hm⟩ | ⟨p,rfl,⟨a,b,rfl,hc,hg⟩,-,-⟩
 ·omega
 ·exact ⟨a,b,rfl,hc,hg⟩
def Jf {H:Heap} {v:AV} {e f:Nat} {g:List (Nat × List Int)} (hm:Db H v n g) (h:PolyOK n e f (Lin.consP n g) (Lin.gensP n (Lin.consP n g))):∃ a b,v=.tup [.agg [.int .i64 (n:Int),a,b],.int .i64 0]/\SlV conE t_api_Con H a (Lin.consP n g)/\SlV genE al H b (Lin.gensP n (Lin.consP n g)):=by
 have h2:=h.lenK;rcases hm with ⟨-,hm⟩ | hm
 ·omega
 ·exact vA hm h
end
end
section
variable {tab:Nat->Option au} {H:Heap}
set_option maxHeartbeats 1000000 in
def FZ (C:Code tab) (o:Wf H) {v:AV} {n:Nat} {c:List (List Int × Bool)} {g:List (Nat × List Int)} (hp:PolyV H v n c g) :
  Ans tab (.fn fP [v]) H fun x H'=>x=.bool (oN c g || decide (4<n) || decide (6<c.length) || decide (6<g.length) || decide (3<n))/\Kp H H':=by
 obtain ⟨i,j,rfl,hc,hg⟩:=hp;have k:=hc.one;have l:=hg.one;refine cz C.q13 zU fun T hl a=>?_;refine zW (aC hl a (py k l)) ?_;refine AnsH.eq (FC C (n:=n) (c:=c) (g:=g) zF ⟨i,j,rfl,hc.mono (zG H),hg.mono (zG H)⟩) fun H2 h=>?_;obtain ⟨k2,_,p⟩:=zT H zK h;have d0:H2.get H.next=some (.cells [.int .i64 (n:Int),i,j] aj true):=h.get (cY)
 generalize m:(oN c g || decide (4<n))=q1
 cases q1 with
 | true =>
  refine zW (aB hl a) ?_;exact ⟨by simp,zK⟩
 | false =>
 by_cases h2:6<c.length
 ·have b:(6:Int)<(c.length:Int):=zO;refine zW (cn hl a d0 hc.lenV b) ?_;exact ⟨by simp [h2],zK⟩
 have b:¬ (6:Int)<(c.length:Int):=zO;by_cases h3:6<g.length
 ·have d:(6:Int)<(g.length:Int):=zO;refine zW (ip hl a d0 hc.lenV b hg.lenV d) ?_;exact ⟨by simp [h3],zK⟩
 have d:¬ (6:Int)<(g.length:Int):=zO;by_cases f:3<n
 ·have e:(3:Int)<(n:Int):=zO;refine zW (lp hl a d0 hc.lenV b hg.lenV d e) ?_;exact ⟨by simp [f],zK⟩
 have e:¬ (3:Int)<(n:Int):=zO;refine zW (lp hl a d0 hc.lenV b hg.lenV d e) ?_;exact ⟨by simp [h2,h3,f],zK⟩
def F0 (C:Code tab) (D:Wf H) {v i:AV} {n n':Nat} {c a:List (List Int × Bool)} {g g':List (Nat × List Int)} (hp:PolyV H v n c g) (p:PolyV H i n' a g') (j:c.length<1099511627776) (k:∀ r∈c,r.1.length<1099511627776/\∀ z∈r.1,fm z) (l:g.length<1099511627776) (m:∀ r∈g,r.2.length<1099511627776/\∀ z∈r.2,fm z) :
  Ans tab (.fn iP [v,.int .i64 0,i]) H fun x H'=>x=.bool (decide (n=n'/\c=a/\g=g'))/\Kp H H':=by
 obtain ⟨w,A,rfl,hc,hg⟩:=hp;obtain ⟨y,B,rfl,f,h⟩:=p;have q:=hc.one;have t:=hg.one;have s:=f.one;have u:=h.one;refine mz C.q10 zU fun T hl b d e=>?_;refine zW (fy hl b d e (py q t) (py s u)) ?_;refine AnsH.eq (pI C (n:=n) (n':=n') zF ⟨w,A,rfl,hc.mono (zG H),hg.mono (zG H)⟩ ⟨y,B,rfl,f.mono (zG H),h.mono (zG H)⟩ j k l m) fun H2 o=>?_;obtain ⟨k2,_,_⟩:=zT H zK o;refine zW (aZ hl b d e) ?_;exact zK
def QX (n:Nat):List (List Int × Bool):=[((Lin.unitC n (-1)).set 1 1,false),((Lin.unitC n 3).set 1 (-1),false)]
def C2 {n:Nat} (hn:n=1\/n=2):∀ c∈QX n,c.1.length=n+1/\Lin.Bd (2^4) c.1:=fun c hc=>by
 rcases hn with rfl | rfl <;> rcases VC.1 hc with rfl | hc
 ·exact ⟨rfl,Lin.bd_small4 zU⟩
 ·rw [VK] at hc; subst hc; exact ⟨rfl,Lin.bd_small4 zU⟩
 ·exact ⟨rfl,Lin.bd_small4 zU⟩
 ·rw [VK] at hc; subst hc; exact ⟨rfl,Lin.bd_small4 zU⟩
set_option maxHeartbeats 4000000 in
def tu (C:Code tab) (hw:Wf H) {n:Nat} (hn:n=1\/n=2) {g:List (Nat × List Int)} {K:List (List Int × Bool)} (hG:Lin.gensP n (QX n)=g) (hK:Lin.consP n g=K) (lg:g.length<1024) (lK:K.length<1024) :
  Ans tab (.fn eY [.int .i64 (n:Int)]) H fun v H'=>PolyV H' v n K g/\Kp H H':=by
 have es:intE.sz=2:=rfl;refine cz C.q9 zU fun T hl A=>?_;refine zW (aB hl A) ?_;refine AnsH.use (xX C (n:=n) (k:=-1) zF zO zU zU) ?_;rintro v3 H2 ⟨aW,aq⟩;obtain ⟨k2,_,w2⟩:=zT H zK aq;have d0:H2.get H.next=some (.cells [.int .i64 0,.nilSl,.nilSl] aj true):=aq.get (cY)
 have bm:=w2 _ _ d0;rcases aW with ⟨-,h⟩ | ⟨o,F,e,rfl,ae,ak,aU⟩
 ·simp [Lin.unitC] at h
 have Q:(Lin.unitC n (-1)).length=n+1:=Lin.unitC_len ..;rw [Q,es];rw [next_put,bL] at aU;refine zW (aB hl A) ?_;refine AnsH.use (xX C (n:=n) (k:=3) zF zO zU zU) ?_;rintro v4 N ⟨aX,ar⟩;obtain ⟨k23,_,_⟩:=zT H2 zK ar;have k3:=k2.trans k23;have w3:=k3.wf;have aD:=k23.get d0;have aM:=k23.get ae;rcases aX with ⟨-,h⟩ | ⟨q,I,f,rfl,ag,ao,aV⟩
 ·simp [Lin.unitC] at h
 have R:(Lin.unitC n 3).length=n+1:=Lin.unitC_len ..;rw [R,es];have bh:=w2 _ _ ae;rw [bL] at aV;refine zW (aB hl A) ?_;have a5:=ar.le;rw [bL] at a5;have q1:pC (gK .i64) aL ((N.up 7).put (N.next+1) (.cells [.int .i64 1] aL true)) (.own (N.next+1) 0 1 1 1 true) [1]:=nP (m:=[1]) (am _ _ _);refine AnsH.use (wH C (l:=[1]) zF q1 (by simp) (by simp)) ?_;rintro v5 t ⟨V,aT⟩;obtain ⟨w,_,_⟩:=zT N zK aT;have k4:=k3.trans w;have w4:=k4.wf;have aE:=w.get aD;have af:=w.get aM;have aQ:=w.get ag;have bj:=w3 _ _ ag;obtain ⟨s,ax,S,-⟩:=jM V (i:=0) (by simp);have a1:cG 2 v5 (.int .i64 0)=some (az v5 0):=SlV.idx V .i64 0 (by simp);have S:bc t (some 2) (az v5 0)=some (.agg [.bool false,s]):=S;have a6:=ax.one;have L5:=(Ldd.of w4 S).put;have bb:e.length=(n+1)*2:=by have:=ak.1; rw [Q,es] at this; exact this
 have bd:f.length=(n+1)*2:=by have:=ao.1; rw [R,es] at this; exact this
 have aY:cG 2 (.own o 0 (n+1) (n+1) 2 F) (.int .i64 1)=some (.ptr o 2):=by
  have:=iB (b:=o) (off:=0) (n:=n+1) (c:=n+1) (sz:=2) (x:=F) (k:=.i64) (j:=1) zO
  simpa using this
 have a8:y5 (some (.cells e aa true)) 2 2 (.agg [.bool false,s])=some (.cells (e.take 2++[.bool false,s]++e.drop 4) aa true):=fY (yg (aF _) a6) zO;refine zW (lp hl A a1 S L5 aY af a8) ?_;obtain ⟨G4,u⟩:∃ G,G=(t.up 7).put o (.cells (e.take 2++[.bool false,s]++e.drop 4) aa true):=⟨_,rfl⟩
 rw [<- u];have n4:G4.next=t.next+7:=by rw [u]; rfl
 have a3:Kp H G4:=by rw [u]; exact (k4.up 7).put zO (by rw [bL]; omega)
 have bn:=a3.wf;have aG:G4.get H.next=some (.cells [.int .i64 0,.nilSl,.nilSl] aj true):=by rw [u,aw zO]; exact aE
 have aN:G4.get o=some (.cells (e.take 2++[.bool false,s]++e.drop 4) aa true):=by rw [u,am]
 have aR:G4.get q=some (.cells f aa true):=by rw [u,aw zO]; exact aQ
 have t4:SubT intE.tys t G4:=by rw [u]; exact SubT.trans ((Sub.bump t 7).t _) (SubT.put_ty af zU)
 have f4:G4.get (t.next+1)=none:=by rw [u,aw zO]; exact w4.fresh zO
 have C3:Cells intE G4 (e.take 2++[.bool false,s]++e.drop 4) ((Lin.unitC n (-1)).set 1 1):=Cells.mono (E:=intE) t4 ((Cells.mono (E:=intE) ((k23.sub.trans w.sub).t _) ak).set (i:=1) (by rw [Q]; omega) ⟨s,rfl,ax⟩);have C4:Cells intE G4 f (Lin.unitC n 3):=Cells.mono (E:=intE) t4 (Cells.mono (E:=intE) (w.sub.t _) ao);have q2:pC (gK .i64) aL (G4.put (t.next+1) (.cells [.int .i64 (-1)] aL true)) (.own (t.next+1) 0 1 1 1 true) [-1]:=nP (m:=[-1]) (am _ _ _);have bf:=w.le;refine AnsH.use (wH C (l:=[-1]) zF q2 (by simp) (by simp)) ?_;rintro Z d ⟨W,av⟩;have D:Sub G4 d:=(aH f4).trans av.sub;obtain ⟨k5,_,w5⟩:=zT H zK av;have aI:=D.get _ _ aG;have aO:=D.get _ _ aN;have ah:=D.get _ _ aR;obtain ⟨y,ay,U,-⟩:=jM W (i:=0) (by simp);have a2:cG 2 Z (.int .i64 0)=some (az Z 0):=SlV.idx W .i64 0 (by simp);have U:bc d (some 2) (az Z 0)=some (.agg [.bool true,y]):=U;have a7:=ay.one;have L6:=(Ldd.of w5 U).put;have a0:cG 2 (.own q 0 (n+1) (n+1) 2 I) (.int .i64 1)=some (.ptr q 2):=by
  have:=iB (b:=q) (off:=0) (n:=n+1) (c:=n+1) (sz:=2) (x:=I) (k:=.i64) (j:=1) zO
  simpa using this
 have a9:y5 (some (.cells f aa true)) 2 2 (.agg [.bool true,y])=some (.cells (f.take 2++[.bool true,y]++f.drop 4) aa true):=fY (yg (aF _) a7) zO;have bg:=D.1;refine zW (lh hl A a2 U L6 a0 ah a9 @ww) ?_;obtain ⟨a,r⟩:∃ G,G=(d.up 13).put q (.cells (f.take 2++[.bool true,y]++f.drop 4) aa true):=⟨_,rfl⟩
 rw [<- r];have n5:a.next=d.next+13:=by rw [r]; rfl
 have a4:Kp H a:=by rw [r]; exact (k5.up 13).put zO (by rw [bL]; omega)
 have bo:=a4.wf;have aJ:a.get H.next=some (.cells [.int .i64 0,.nilSl,.nilSl] aj true):=by rw [r,aw zO]; exact aI
 have aP:a.get o=some (.cells (e.take 2++[.bool false,s]++e.drop 4) aa true):=by rw [r,aw zO]; exact aO
 have aS:a.get q=some (.cells (f.take 2++[.bool true,y]++f.drop 4) aa true):=by rw [r,am]
 have t5:SubT intE.tys d a:=by rw [r]; exact SubT.trans ((Sub.bump d 13).t _) (SubT.put_ty ah zU)
 have D3:Cells intE a (e.take 2++[.bool false,s]++e.drop 4) ((Lin.unitC n (-1)).set 1 1):=Cells.mono (E:=intE) t5 (Cells.mono (E:=intE) (D.t _) C3);have D4:Cells intE a (f.take 2++[.bool true,y]++f.drop 4) ((Lin.unitC n 3).set 1 (-1)):=Cells.mono (E:=intE) t5 ((Cells.mono (E:=intE) (D.t _) C4).set (i:=1) (by rw [R]; omega) ⟨y,rfl,ay⟩);have R3:RowV a (.own o 0 (n+1) (n+1) 2 F) ((Lin.unitC n (-1)).set 1 1):=(show Own intE aa (Heap.nil 0) a o F (.own o 0 (n+1) (n+1) 2 F) _ from ⟨_,by rw [U7,Q]; rfl,aP,D3,Vn _⟩).sl;have R4:RowV a (.own q 0 (n+1) (n+1) 2 I) ((Lin.unitC n 3).set 1 (-1)):=(show Own intE aa (Heap.nil 0) a q I (.own q 0 (n+1) (n+1) 2 I) _ from ⟨_,by rw [U7,R]; rfl,aS,D4,Vn _⟩).sl;clear L5 L6 C3 C4 D3 D4 t4 t5 q1 q2 V W;have f5:a.get (d.next+5)=none:=by rw [r,aw zO]; exact w5.fresh zO
 have f6:a.get (d.next+10)=none:=by rw [r,aw zO]; exact w5.fresh zO
 obtain ⟨z,B⟩:∃ G,G=a.put (d.next+5) (.cells [.own o 0 (n+1) (n+1) 2 F,.bool false,.own q 0 (n+1) (n+1) 2 I,.bool false] t_api_Con true):=⟨_,rfl⟩
 rw [<- B];have X:Sub a z:=by rw [B]; exact aH f5
 have aA:Kp H z:=by rw [B]; exact zK
 have ba:=aA.wf;have n6:z.next=d.next+13:=by rw [B]; exact n5
 have f6:z.get (d.next+10)=none:=by rw [B,aw zO]; exact f6
 have aK:=X.get _ _ aJ;have R1:SlV conE t_api_Con z (.own (d.next+5) 0 2 2 2 true) (QX n):=TC (by rw [B]; exact am _ _ _) (R3.mono X) (R4.mono X);have sb:=C2 hn;have gb:=pn (n:=n) zO sb;refine AnsH.use (kT C (n:=n) (m:=4) (m2:=64*(4+4)) ba R1 zO (by simp [QX]) sb zO (fun x hx=>(gb x hx).2) zO) ?_;rintro v7 J ⟨M,P⟩;have k7:Kp H J:=aA.trans P;have bk:=k7.le;have w7:=k7.wf;have ab:=P.get aK;have l7:=P.le;have f7:=P.free (show d.next+10<z.next by omega) f6;rw [hG] at M;unfold sj at M;rw [hK] at M;rcases M with ⟨-,M⟩ | ⟨p,rfl,⟨vc,vg,rfl,hc,hg⟩,-,-⟩
 ·omega
 have oc:=hc.one;have og:=hg.one;obtain ⟨L,O⟩:∃ aC,aC=((J.up 2).put (d.next+10) (.cells [.int .i64 0,.nilSl,.nilSl] aj true)).put (d.next+10) (.cells [.int .i64 (n:Int),vc,vg] aj true):=⟨_,rfl⟩
 have Y:Sub J L:=by rw [O]; exact ((Sub.bump J 2).put f7 _).put f7 _
 have ad:=Y.get _ _ ab;have k8:Kp H L:=by rw [O]; exact zK
 have bl:=k8.le;have n8:L.next=J.next+2:=by rw [O]; rfl
 refine zW (aZ hl A @oQ ab) ?_;rw [<- O];refine ⟨⟨vc,vg,rfl,?_,?_⟩,zK⟩
 ·have m3:NoTy (t_api_Con :: conE.tys) L H.next:=NoTy.ty ad zU
  exact SlV.monoT (E:=conE) zS (hc.mono Y)
 ·have m3:NoTy (al :: genE.tys) L H.next:=NoTy.ty ad zU
  exact SlV.monoT (E:=genE) zS (hg.mono Y)
end
end Go.Proofs.YtiigaeehghcjiaaGreat.Ev
namespace Go.Proofs.YtiigaeehghcjiaaGreat.Lin
end Go.Proofs.YtiigaeehghcjiaaGreat.Lin
namespace Go.Proofs.YtiigaeehghcjiaaGreat.Ev
open Go Nn
section
variable {tab:Nat->Option au} {H:Heap}
end
section
variable {tab:Nat->Option au} {H:Heap} {n x:Nat} {a:List Int} {K:List (List Int × Bool)} {G:List (Nat × List Int)}
end
end Go.Proofs.YtiigaeehghcjiaaGreat.Ev
namespace Go.Proofs.YtiigaeehghcjiaaGreat.Lin
def subN:Nat->Nat->Nat
 | _,0=>1
 | 0,_+1=>1
 | n+1,k+1=>subN n (k+1)+subN n k
def Fk:∀ n k,1<=subN n k
 | _,0=>by unfold subN; exact Ve _
 | 0,_+1=>by unfold subN; exact Ve _
 | n+1,k+1=>by
  have:=Fk n (k+1)
  unfold subN; omega
def subN_le {k:Nat}:∀ {n m:Nat},n<=m->subN n k<=subN m k
 | n,m,h=>by
  induction h with
  | refl=>exact Ve _
  | step _ a =>
   refine Vq a ?_;cases k with
   | zero=>unfold subN; exact Ve _
   | succ k=>rw [subN]; exact VI _ _
def subN_less {n:Nat}:∀ {k j:Nat},k<=j->subN n k<=subN n j
 | k,j,h=>by
  induction n generalizing k j with
  | zero=>cases k <;> cases j <;> simp [subN]
  | succ n a =>
   cases k with
   | zero=>rw [subN]; exact Fk _ _
   | succ k =>
    cases j with
    | zero=>omega
    | succ j=>rw [subN,subN]; exact Nat.add_le_add (a _ _ zO) (a _ _ zO)
def zN {α:Type} [DecidableEq α]:∀ (A:List α) (k:Nat) (l:List (List α)),l.Nodup->(∀ b∈l,b.length<=k/\b.Sublist A)->l.length<=subN A.length k
 | A,0,l,hn,h=>by
  have h0:∀ b∈l,b=[]:=fun b hb=>V4 (by have:=(h b hb).1; omega);unfold subN
  match l,hn,h0 with
  | [],_,_=>simp
  | [a],_,_=>simp
  | a :: b :: l,hn,h0 =>
   have f:=h0 a (by simp);have e2:=h0 b (by simp);subst f; subst e2;simp at hn
 | [],k+1,l,hn,h=>by
  have h0:∀ b∈l,b=[]:=fun b hb=>List.sublist_nil.1 (h b hb).2;show _<=1
  match l,hn,h0 with
  | [],_,_=>simp
  | [a],_,_=>simp
  | a :: b :: l,hn,h0 =>
   have f:=h0 a (by simp);have e2:=h0 b (by simp);subst f; subst e2;simp at hn
 | a :: A,k+1,l,hn,h=>by
  have h1:=zN A (k+1) (l.filter fun b=>b.isSublist A) (XE _ hn) fun b hb=>by
   obtain ⟨hb,e⟩:=Vt.1 hb;exact ⟨(h b hb).1,Zx.1 e⟩
  have hc:∀ b∈l.filter fun b=>!b.isSublist A,∃ c,b=a :: c/\c.Sublist A/\c.length<=k:=fun b hb=>by
   obtain ⟨hb,e⟩:=Vt.1 hb;obtain ⟨h1,h2⟩:=h b hb;cases h2 with
   | cons _ h2=>rw [Zx.2 h2] at e; cases e
   | cons_cons _ h2=>exact ⟨_,rfl,h2,by simp at h1; omega⟩
  have h2:=zN A k ((l.filter fun b=>!b.isSublist A).map List.tail) (by
   refine Wc.2 (XD (fun {x y} hx hy hne e=>hne ?_) (XE _ hn));obtain ⟨c,rfl,-,-⟩:=hc x hx;obtain ⟨d,rfl,-,-⟩:=hc y hy;simp at e; rw [e]) fun b hb=>by
    obtain ⟨x,hx,rfl⟩:=Vc.1 hb;obtain ⟨c,rfl,h3,g⟩:=hc x hx;exact ⟨g,h3⟩
  rw [Vf] at h2;have h3:l.length=(l.filter fun b=>b.isSublist A).length+(l.filter fun b=>!b.isSublist A).length:=by
   rw [<- W9,<- W9,X1 (p:=fun b:List α=>b.isSublist A)];congr 1;refine ZH fun b _=>?_;cases b.isSublist A <;> simp
  rw [VQ,subN];omega
def IS:∀ (l F:List V),(fz F l).Sublist l
 | [],_=>List.Sublist.refl _
 | a :: l,F=>by
  unfold fz;split
  ·exact (IS l F).cons a
  ·exact (IS l _).cons_cons a
def DD.count4 {d:Nat} {E L:V->Prop} {c R:List V} (h:DD d E (· ∈ c) L R) (k:∀ i∈c,i.length=d):R.length<=subN c.length (d-1):=by
 obtain ⟨T,hT⟩:∃ T:V->List V,T=fun r=>c.filter fun i=>decide (dot i r=0):=⟨_,rfl⟩
 have f:∀ r i,i∈T r ↔ i∈c/\dot i r=0:=fun r i=>by rw [hT,Vt]; simp
 have g:∀ r,∀ i∈T r,i.length=d:=fun r i hi=>k i ((f r i).1 hi).1;have o:∀ r,(T r).Sublist c:=fun r=>by rw [hT]; exact List.filter_sublist
 have hn:(R.map fun r=>fz [] (T r)).Nodup:=by
  have j:∀ r s:V,fz [] (T r)=fz [] (T s)->∀ i,i∈c->dot i r=0->dot i s=0:=fun r s e i hi n=>by
   have h1:Spn d (· ∈ fz [] (T r)) i:=((ES (g r)).2 i).2 (dK (k i hi) ((f r i).2 ⟨hi,n⟩));rw [dot_comm];refine Con.dot_zero (fun l hl=>g r l (mE _ _ l hl)) (fun r h=>h.elim) (fun l hl=>?_) (fun r h=>h.elim) h1;have h2:l∈fz [] (T s):=by rw [<- e]; exact hl
   rw [dot_comm]; exact ((f s l).1 (mE _ _ l h2)).2
  exact Wc.2 (h.apart.imp fun hne e=>hne fun i hi=>⟨j _ _ e i hi,j _ _ e.symm i hi⟩)
 have:=zN c (d-1) _ hn fun b hb=>by
  obtain ⟨r,hr,rfl⟩:=Vc.1 hb;obtain ⟨i,hi,m⟩:=h.off r hr;have h1:=GQ (g r) (h.lenR r hr) (fun a ha=>((f r a).1 ha).2) m;exact ⟨zO,(IS _ _).trans (o r)⟩
 simpa using this
section
variable {n x:Nat} {a r:V} {K K':List (V × Bool)} {G G':List (Nat × V)}
end
section
variable {n:Nat} {K K' l:List (V × Bool)} {G G':List (Nat × V)} {o:List Nat}
def ts (hl:∀ c∈l,c.1.length=n+1) (hne:gensP n l≠[]) {c:V × Bool}:mm n (consP n (gensP n l)) c ↔ mm n l c :=
 ⟨fun h x hx=>h x ((y8 hl hne x).2 hx),fun h x hx=>h x ((y8 hl hne x).1 hx)⟩
def NO (y:Nat × V):Nat × V:=(y.1,y.2++[0])
def F8 (n:Nat) (G:List (Nat × V)):List (Nat × V):=G.map NO++[(1,List.replicate (n+1) 0++[1])]
def ye (a:ValidG n G):ValidG (n+1) (F8 n G):=fun y hy=>by
 rcases Vx.1 hy with hy | hy
 ·obtain ⟨x,hx,rfl⟩:=Vc.1 hy;obtain ⟨h1,h2,h3⟩:=a x hx;exact ⟨by simp [NO,h1],fun h=>by rw [NO,AM h1]; exact h2 h,fun h=>by rw [NO,AM h1]; exact h3 h⟩
 ·rw [VK] at hy;subst hy;exact ⟨by simp,fun (h:(1:Nat)=3)=>absurd h (by decide),fun _=>rfl⟩
def B9 (a:∀ c∈K,c.1.length=n+1):de n K (List.replicate (n+1) 0) :=
 keepP_iff.2 ⟨by simp,Xg _,fun c hc=>by rw [dot_comm,sR]; exact ⟨fun _=>rfl,fun _=>Xg _⟩⟩
def Lz (a:Own n K G) (i:G≠[]):gensP (n+1) (K.map padC)=gensP (n+1) (consP (n+1) (F8 n G)):=by
 have o:=ye a.valid;have hne:=(zi a.rows).2 (by rw [a.gens]; exact i);have hp:=a.point i;have h3:(F8 n G).any (fun y=>y.1 == 3)=true:=by
  rw [VS] at hp ⊢;obtain ⟨x,hx,h⟩:=hp;exact ⟨NO x,WG _ (Vc.2 ⟨x,hx,rfl⟩),h⟩
 refine ((own_of (qZ a.rows)).same_valid (own_span o) fun c hc=>?_).2;obtain ⟨d,z,hd,e⟩:=ze hc;obtain ⟨p,b⟩:=c;simp only at hc e;subst e;rw [ts (qZ a.rows) hne,tY o h3 hc];have f:∀ s w,s.length=n+1->dot (d++[z]) (s++[w])=dot d s+z*w:=fun s w hs=>vP (by rw [hd,hs]);have m:dot d (List.replicate (n+1) 0)=0:=by rw [dot_comm,sR]
 constructor
 ·intro h;have l:z=0:=by
   have h1:=(h _ ((ju a.rows (by simp) 1).2 (B9 a.rows))).2;have h2:=(h _ ((ju a.rows (by simp) (-1)).2 (B9 a.rows))).2;simp only at h1 h2;rw [f _ _ (by simp),m] at h1 h2;omega
  subst l;have k:mm n K (d,b):=fun s hs=>by
   have:=h _ ((ju a.rows (keepP_iff.1 hs).1 0).2 hs)
   simp only at this;rw [f _ _ (keepP_iff.1 hs).1,Yy,ZT] at this;exact this
  have j:=(a.valid_iff i).2 k;intro y hy;rcases Vx.1 hy with hy | hy
  ·obtain ⟨x,hx,rfl⟩:=Vc.1 hy
   have:=j x hx
   rw [cO] at this ⊢;show if b=true\/x.1=1 then dot (d++[0]) (x.2++[0])=0 else 0<=dot (d++[0]) (x.2++[0])
   rw [f _ _ (a.valid x hx).1,Yy,ZT];exact this
  ·rw [VK] at hy;subst hy;rw [cO,if_pos (.inr rfl)];show dot (d++[0]) (List.replicate (n+1) 0++[1])=0;rw [f _ _ (by simp),m]; rfl
 ·intro h;have l:z=0:=by
   have:=h _ (WZ _ (VK.2 rfl))
   rw [cO,if_pos (.inr rfl)] at this;have this:dot (d++[z]) (List.replicate (n+1) 0++[1])=0:=this;rw [f _ _ (by simp),m] at this;omega
  subst l;have j:∀ g∈G,jL (d,b) g=true:=fun x hx=>by
   have:=h _ (WG _ (Vc.2 ⟨x,hx,rfl⟩))
   rw [cO] at this ⊢;have this:if b=true\/x.1=1 then dot (d++[0]) (x.2++[0])=0 else 0<=dot (d++[0]) (x.2++[0]):=this
   rw [f _ _ (a.valid x hx).1,Yy,ZT] at this;exact this
  have k:=(a.valid_iff i).1 j;intro r hr;obtain ⟨s,w,hs,rfl⟩:=ze (keepP_iff.1 hr).1
  have:=k s ((ju a.rows hs w).1 hr)
  simp only;rw [f _ _ hs,Zj,ZT];exact this
def grow_few (a:Own n K G):(gensP (n+1) (K.map padC)).length<=G.length+n+3:=by
 by_cases b:G=[]
 ·have:gensP (n+1) (K.map padC)=[]:=VF fun h=>(zi a.rows).1 h (by rw [a.gens]; exact b)
  rw [this]; simp
 ·rw [Lz a b]
  have:=span_len (ye a.valid)
  unfold F8 at this;rw [Vv,Vf] at this;simp only [ZW] at this;unfold F8;omega
def Qv (o:List Nat) (y:Nat × V):Nat × V:=(y.1,mvO o y.2)
def Aw (h:Ord n o) (a:ValidG n G):ValidG n (G.map (Qv o)):=fun y hy=>by
 obtain ⟨x,hx,rfl⟩:=Vc.1 hy;obtain ⟨h1,h2,h3⟩:=a x hx;exact ⟨mvO_len h _,fun e=>h2 e,fun e=>h3 e⟩
def Ax (h:Ord n o) {d:V} {b:Bool} {x:Nat × V} (hd:d.length=n+1) (hx:x.2.length=n+1):jL (mvO o d,b) (Qv o x)=jL (d,b) x:=by
 rw [WM,cO,cO];show (if b=true\/x.1=1 then dot (mvO o d) (mvO o x.2)=0 else 0<=dot (mvO o d) (mvO o x.2)) ↔ _;rw [vu h hd hx]
def Li (h:Ord n o) (a:Own n K G) (f:G≠[]):movG n o K=gensP n (consP n (G.map (Qv o))):=by
 have g:=Aw h a.valid;have hne:=(kP h a.rows).2 (by rw [a.gens]; exact f);have hp:=a.point f;have h3:(G.map (Qv o)).any (fun y=>y.1 == 3)=true:=by rw [ZP]; exact hp
 refine ((mov_own (K:=K) h).same_valid (own_span g) fun c hc=>?_).2;obtain ⟨i,b⟩:=c;obtain ⟨d,hd,e⟩:=h.onto hc;simp only at hc e;subst e;unfold movK;rw [ts (mv_rows h) hne,tY g h3 hc];have key:mm n (K.map (mvC o)) (mvO o d,b) ↔ mm n K (d,b):=by
  constructor
  ·intro hq s hs
   have:=hq _ ((pi h a.rows (keepP_iff.1 hs).1).2 hs)
   simp only at this;rw [vu h hd (keepP_iff.1 hs).1] at this;exact this
  ·intro hq r hr;obtain ⟨s,hs,rfl⟩:=h.onto (keepP_iff.1 hr).1
   have:=hq s ((pi h a.rows hs).1 hr)
   simp only;rw [vu h hd hs];exact this
 rw [key,<- a.valid_iff f];constructor
 ·intro hq y hy;obtain ⟨x,hx,rfl⟩:=Vc.1 hy;rw [Ax h hd (a.valid x hx).1];exact hq x hx
 ·intro hq x hx;rw [<- Ax h hd (a.valid x hx).1];exact hq _ (Vc.2 ⟨x,hx,rfl⟩)
def move_few (h:Ord n o) (a:Own n K G):(movG n o K).length<=G.length+n+1:=by
 by_cases b:G=[]
 ·have:movG n o K=[]:=VF fun q=>(kP h a.rows).1 q (by rw [a.gens]; exact b)
  rw [this]; simp
 ·rw [Li h a b]
  have:=span_len (Aw h a.valid)
  rw [Vf] at this;exact this
end
def likeK:List (V × Bool):=[([-1,1,0],false),([3,-1,0],false),([0,1,-1],true)]
def gl:gensP 2 likeK=[(3,[1,1,1]),(3,[1,3,3])]:=by
 have r:(gensU 3 [[0,1,-1]] [[1,0,0],[-1,1,0],[3,-1,0]]).rays.map (restF (gensL 3 [[0,1,-1]] [[1,0,0],[-1,1,0],[3,-1,0]]))=[[1,1,1],[1,3,3]]:=by decide +kernel
 have e:gensL 3 [[0,1,-1]] [[1,0,0],[-1,1,0],[3,-1,0]]=[]:=by decide +kernel
 have g:gensR 3 [[0,1,-1]] [[1,0,0],[-1,1,0],[3,-1,0]]=[[1,1,1],[1,3,3]]:=by
  unfold gensR;rw [r]; simp [List.mergeSort,List.MergeSort.Internal.splitInTwo,cmpV]
 have h1:eqsOf likeK=[[0,1,-1]]:=rfl;have h2:ineqsOf 2 likeK=[[1,0,0],[-1,1,0],[3,-1,0]]:=rfl;unfold gensP;rw [h1,h2,e,g];rfl
def kl:consP 2 [(3,[1,1,1]),(3,[1,3,3])]=[([0,1,-1],true),([-1,0,1],false),([3,0,-1],false)]:=by
 have r:(gensU 3 [] [[1,1,1],[1,3,3]]).rays.map (restF (gensL 3 [] [[1,1,1],[1,3,3]]))=[[3,0,-1],[-1,0,1]]:=by decide +kernel
 have e:gensL 3 [] [[1,1,1],[1,3,3]]=[[0,1,-1]]:=by decide +kernel
 have g:gensR 3 [] [[1,1,1],[1,3,3]]=[[-1,0,1],[3,0,-1]]:=by
  unfold gensR;rw [r]; simp [List.mergeSort,List.MergeSort.Internal.splitInTwo,cmpV]
 have h1:linesOf ([(3,[1,1,1]),(3,[1,3,3])]:List (Nat × V))=[]:=rfl;have h2:raysOf ([(3,[1,1,1]),(3,[1,3,3])]:List (Nat × V))=[[1,1,1],[1,3,3]]:=rfl;unfold consP;rw [h1,h2,e,g];decide
def gb2:gensP 2 [([-1,1,0],false),([3,-1,0],false)]=[(1,[0,0,1]),(3,[1,1,0]),(3,[1,3,0])]:=by
 have r:(gensU 3 [] [[1,0,0],[-1,1,0],[3,-1,0]]).rays.map (restF (gensL 3 [] [[1,0,0],[-1,1,0],[3,-1,0]]))=[[1,1,0],[1,3,0]]:=by decide +kernel
 have e:gensL 3 [] [[1,0,0],[-1,1,0],[3,-1,0]]=[[0,0,1]]:=by decide +kernel
 have g:gensR 3 [] [[1,0,0],[-1,1,0],[3,-1,0]]=[[1,1,0],[1,3,0]]:=by
  unfold gensR;rw [r]; simp [List.mergeSort,List.MergeSort.Internal.splitInTwo,cmpV]
 have h1:eqsOf ([([-1,1,0],false),([3,-1,0],false)]:List (V × Bool))=[]:=rfl;have h2:ineqsOf 2 ([([-1,1,0],false),([3,-1,0],false)]:List (V × Bool))=[[1,0,0],[-1,1,0],[3,-1,0]]:=rfl;unfold gensP;rw [h1,h2,e,g];rfl
def kb2:consP 2 [(1,[0,0,1]),(3,[1,1,0]),(3,[1,3,0])]=[([-1,1,0],false),([3,-1,0],false)]:=by
 have r:(gensU 3 [[0,0,1]] [[1,1,0],[1,3,0]]).rays.map (restF (gensL 3 [[0,0,1]] [[1,1,0],[1,3,0]]))=[[3,-1,0],[-1,1,0]]:=by decide +kernel
 have e:gensL 3 [[0,0,1]] [[1,1,0],[1,3,0]]=[]:=by decide +kernel
 have g:gensR 3 [[0,0,1]] [[1,1,0],[1,3,0]]=[[-1,1,0],[3,-1,0]]:=by
  unfold gensR;rw [r]; simp [List.mergeSort,List.MergeSort.Internal.splitInTwo,cmpV]
 have h1:linesOf ([(1,[0,0,1]),(3,[1,1,0]),(3,[1,3,0])]:List (Nat × V))=[[0,0,1]]:=rfl;have h2:raysOf ([(1,[0,0,1]),(3,[1,1,0]),(3,[1,3,0])]:List (Nat × V))=[[1,1,0],[1,3,0]]:=rfl;unfold consP;rw [h1,h2,e,g];decide
end Go.Proofs.YtiigaeehghcjiaaGreat.Lin
namespace Go.Proofs.YtiigaeehghcjiaaGreat.Ev
open Go Nn
def uz:∀ c∈Lin.likeK,c.1.length=2+1/\Lin.Bd (2^4) c.1:=fun c hc=>by
 unfold Lin.likeK at hc;rcases VC.1 hc with rfl | hc
 ·exact ⟨rfl,Lin.bd_small4 zU⟩
 rcases VC.1 hc with rfl | hc
 ·exact ⟨rfl,Lin.bd_small4 zU⟩
 ·rw [VK] at hc; subst hc; exact ⟨rfl,Lin.bd_small4 zU⟩
def ok2 {n:Nat} {K:List (List Int × Bool)} {G:List (Nat × List Int)} (hn:n<=4) (d:Lin.Own n K G) (h:(K.all (fun x=>x.1.all (fun a=>decide (a.natAbs<=16))) && G.all (fun x=>x.2.all (fun a=>decide (a.natAbs<=16))) && decide (K.length<=60) && decide (G.length<60))=true):PolyOK n 4 4 K G:=by
 simp only [VL,Vz,decide_eq_true_eq] at h;obtain ⟨⟨⟨h3,b⟩,h5⟩,e⟩:=h;exact ⟨d,hn,.inl h5,zO,fun c hc=>Lin.bd_small4 (Vz.2 fun a ha=>decide_eq_true (h3 c hc a ha)),fun x hx=>Lin.bd_small4 (Vz.2 fun a ha=>decide_eq_true (b x hx a ha)),zO,zO⟩
def Jn:PolyOK 2 4 4 [([0,1,-1],true),([-1,0,1],false),([3,0,-1],false)] [(3,[1,1,1]),(3,[1,3,3])] :=
 ok2 zO (by have:=Lin.own_of (n:=2) (l:=Lin.likeK) fun c hc=>(uz c hc).1; rw [Lin.gl,Lin.kl] at this; exact this) zU
def ok_b2:PolyOK 2 4 4 [([-1,1,0],false),([3,-1,0],false)] [(1,[0,0,1]),(3,[1,1,0]),(3,[1,3,0])] :=
 ok2 zO ⟨fun c hc=>(C2 (n:=2) (.inr rfl) c hc).1,Lin.gb2,Lin.kb2⟩ zU
section
variable {n x:Nat} {K:List (List Int × Bool)} {G:List (Nat × List Int)} {o:List Nat} {e f:Nat}
def Jo (h:PolyOK n e f K G) (hn:n<=3) (g:f<=64) (j:K.length<=50) (i:G.length<=100):PolyOK (n+1) (64*(f+4)) (64*(64*(f+4)+4)) (Lin.consP (n+1) (Lin.gensP (n+1) (K.map Lin.padC))) (Lin.gensP (n+1) (K.map Lin.padC)):=by
 have hr:∀ c∈K.map Lin.padC,c.1.length=(n+1)+1/\Lin.Bd (2^f) c.1:=fun c hc=>by
  obtain ⟨b,hb,rfl⟩:=Vc.1 hc;exact ⟨by show (b.1++[0]).length=_; rw [Vv,(h.rowK b hb).1]; rfl,NN (h.rowK b hb).2⟩
 have a:=pn zO hr;have d:=A2 zO a;have l1:=Lin.own_len fun c hc=>(hr c hc).1;have l2:=Lin.grow_few h.own;rw [Vf] at l1;exact ⟨Lin.own_of fun c hc=>(hr c hc).1,zO,.inl zO,zO,fun c hc=>(d c hc).2,fun x hx=>(a x hx).2,zO,zO⟩
def N6 {m:Nat} {a:List Int} (h:Lin.Bd (2^m) a):Lin.Bd (2^m) (Lin.mvO o a):=xJ fun y hy=>by
 have hg:∀ i,(a.getD i 0).natAbs<=2^m:=fun i=>h i;rcases VC.1 hy with rfl | hy
 ·cases a with
  | nil=>exact Vn _
  | cons b a=>exact Lin.Bd.mem h b (Vm ..)
 ·obtain ⟨i,-,rfl⟩:=Vc.1 hy;exact hg _
def DT (h:PolyOK n e f K G) (hn:n<=3) (a:Lin.Ord n o) (i:f<=1088) (k:K.length<=50) (j:G.length<=100):PolyOK n (16*(f+4)) (16*(16*(f+4)+4)) (Lin.movK n o K) (Lin.movG n o K):=by
 have hr:∀ c∈K.map (Lin.mvC o),c.1.length=n+1/\Lin.Bd (2^f) c.1:=fun c hc=>by
  obtain ⟨b,hb,rfl⟩:=Vc.1 hc;exact ⟨Lin.mvO_len a _,N6 (h.rowK b hb).2⟩
 have d:=xu hn hr;have g:=CM hn d;have l1:=Lin.own_len fun c hc=>(hr c hc).1;have l2:=Lin.move_few a h.own;rw [Vf] at l1;exact ⟨Lin.mov_own a,zO,.inl (show (Lin.movK n o K).length<=60 by unfold Lin.movK; omega),zO,fun c hc=>(g c hc).2,fun x hx=>(d x hx).2,zO,zO⟩
def OG {L:List (Nat × List Int)} (b:Lin.ValidG n L) (hn:n<=2) (hL:L.length<=6):(Lin.consP n L).length<=26:=by
 have c:∀ a∈Lin.linesOf L,a.length=n+1:=fun a ha=>(b _ (Lin.mem_lines.1 ha)).1;have e2:∀ a∈Lin.raysOf L,a.length=n+1:=fun a ha=>by obtain ⟨k,-,h⟩:=Lin.mem_rays.1 ha; exact (b _ h).1
 have t:=Lin.gens_told c e2;have h1:=t.dd.count4 e2;have h2:=ech_len t.form;have h3:=DJ L;have d:Lin.subN (Lin.raysOf L).length (n+1-1)<=Lin.subN 6 2:=Vq (Lin.subN_le zO) (Lin.subN_less zO);have h5:Lin.subN 6 2=22:=by decide
 unfold Lin.consP;split
 ·rw [Vv,Vf,Vf]
  have:=Wy (fun r:Lin.V=>!decide (r=Lin.unitC n 1)) (Lin.gensR (n+1) (Lin.linesOf L) (Lin.raysOf L))
  omega
 ·show 1<=_;omega
def za (h:PolyOK (n+1) e f K G) (hn:n<=2) (hx:x<n+1) (he:e<=64) (i:G.length<=6):PolyOK n (16*(16*(e+4)+4)) (16*(e+4)) (Lin.consP n (G.map (Lin.delG x))) (Lin.gensP n (Lin.consP n (G.map (Lin.delG x))))/\(Lin.consP n (G.map (Lin.delG x))).length<=26/\(Lin.gensP n (Lin.consP n (G.map (Lin.delG x)))).length<=9:=by
 have a:=Lin.del_valid (x:=x) h.own.valid hx;have hr:∀ c∈G.map (Lin.delG x),c.2.length=n+1/\Lin.Bd (2^e) c.2:=fun c hc=>by
  refine ⟨(a c hc).1,?_⟩;obtain ⟨b,hb,rfl⟩:=Vc.1 hc;exact OO (h.bG b hb)
 have d:=CM zO hr;have g:=xu zO d;have l1:=OG a hn (by rw [Vf]; exact i);have l2:=Lin.span_len a;rw [Vf] at l2;exact ⟨⟨Lin.own_span a,zO,.inl zO,zO,fun c hc=>(d c hc).2,fun x hx=>(g x hx).2,zO,zO⟩,l1,zO⟩
end
section
variable {tab:Nat->Option au} {H:Heap}
def TB {H:Heap} {b:Nat} {v w u:AV} {x y z:List Int} {p q o r:Bool} (h:H.get b=some (.cells [v,.bool p,w,.bool q,u,.bool o] t_api_Con r)) (c:RowV H v x) (d:RowV H w y) (a:RowV H u z):SlV conE t_api_Con H (.own b 0 3 3 2 true) [(x,p),(y,q),(z,o)] :=
 ⟨[_,_,_,_,_,_],Rd.own h rfl (Ve _),fun _ _ _ _ _ _ e=>by cases e; exact ⟨_,_,h⟩,((Cells.one (E:=conE) ⟨v,rfl,c⟩).append (Cells.one (E:=conE) ⟨w,rfl,d⟩)).append (Cells.one (E:=conE) ⟨u,rfl,a⟩)⟩
def QO {z1 z2 z3 z4 z5 z6 a b c d e f:AV} (ha:One a) (hb:One b) (hc:One c) (hd:One d) (he:One e) (g:One f):cP [z1,z2,z3,z4,z5,z6] [((0,2),.agg [a,b]),((2,2),.agg [c,d]),((4,2),.agg [e,f])]=some [a,b,c,d,e,f]:=by
 simp [cP,ha.1,ha.2,hb.1,hb.2,hc.1,hc.2,hd.1,hd.2,he.1,he.2,g.1,g.2,AV.cells]
set_option maxHeartbeats 4000000 in
def AF (C:Code tab) (Z:Wf H) :
  Ans tab (.fn gG []) H fun v H'=>PolyV H' v 2 [([0,1,-1],true),([-1,0,1],false),([3,0,-1],false)] [(3,[1,1,1]),(3,[1,3,3])]/\Kp H H':=by
 refine TL C.q8 fun T hl=>?_;refine zW hl ?_;have e0:Emp (H.up 18) H.next (H.next+18):=Emp.start Z
 refine AnsH.use (wH C (l:=[-1,1,0]) zF (nP (m:=[-1,1,0]) (am _ _ _)) (by simp) (by simp)) ?_;rintro v3 H2 ⟨K,i⟩;obtain ⟨k2,_,w2⟩:=zT H zK i;have d0:H2.get H.next=some (.cells [.int .i64 0,.nilSl,.nilSl] aj true):=i.get (cY)
 have e2:Emp H2 (H.next+2) (H.next+18):=(((e0.put (p:=H.next) (a':=H.next+1) zO zO).put zO zO).keep i)
 have n2:=e2.1;have F:=K.one;refine zW (aB hl (ww F)) ?_;refine AnsH.use (wH C (l:=[3,-1,0]) zF (nP (m:=[3,-1,0]) (am _ _ _)) (by simp) (by simp)) ?_;rintro v5 g ⟨L,j⟩;obtain ⟨k3,_,w3⟩:=zT H zK j;have e3:Emp g (H.next+5) (H.next+18):=(e2.put zO zO).keep j;have n3:=e3.1;have N:Sub H2 g:=(e2.sub (p:=H.next+4) zO zO).trans j.sub;have I:=L.one;have U:=N.get _ _ d0;refine zW (aB hl (ww I)) ?_;refine AnsH.use (wH C (l:=[0,1,-1]) zF (nP (m:=[0,1,-1]) (am _ _ _)) (by simp) (by simp)) ?_;rintro v6 d ⟨M,k⟩;obtain ⟨k4,_,w4⟩:=zT H zK k;have h:Emp d (H.next+8) (H.next+18):=(e3.put zO zO).keep k;have n4:=h.1;have q:Sub g d:=(e3.sub (p:=H.next+7) zO zO).trans k.sub;have J:=M.one;have V:=q.get _ _ U;have S:=EK (x:=.nilSl) (y:=.bool false) J (aF true);have X:=QO (z1:=.nilSl) (z2:=.bool false) (z3:=.nilSl) (z4:=.bool false) (z5:=.nilSl) (z6:=.bool false) F (aF false) I (aF false) J (aF true);refine zW (aC hl @S X) ?_;obtain ⟨G4,c⟩:∃ G,G=d.put (H.next+10) (.cells [v3,.bool false,v5,.bool false,v6,.bool true] t_api_Con true):=⟨_,rfl⟩
 rw [<- c];have u:Emp G4 (H.next+11) (H.next+18):=by rw [c]; exact h.put zO zO
 have f:Sub d G4:=by rw [c]; exact h.sub zO zO
 have B:Kp H G4:=by rw [c]; exact zK
 have ae:=B.wf;have ad:=u.1;have W:=f.get _ _ V;have R:SlV conE t_api_Con G4 (.own (H.next+10) 0 3 3 2 true) Lin.likeK:=TB (by rw [c]; exact am _ _ _) (K.mono (N.trans (q.trans f))) (L.mono (q.trans f)) (M.mono f);have Y:=pn (n:=2) zO uz;refine AnsH.use (kT C (n:=2) (m:=4) (m2:=64*(4+4)) zF R zO (by simp [Lin.likeK]) uz zO (fun x hx=>(Y x hx).2) zO) ?_;rintro v7 a ⟨A,o⟩;have D:Kp H a:=B.trans o;have aa:=D.le;have w7:=D.wf;have w:Emp a (H.next+11) (H.next+18):=u.keep o;have n7:=w.1;have s:=o.get W;rw [Lin.gl] at A;obtain ⟨O,P,rfl,hc,hg⟩:=vA A Jn;have oc:=hc.one;have og:=hg.one;obtain ⟨b,e⟩:∃ Q,Q=((a.up 2).put (H.next+15) (.cells [.int .i64 0,.nilSl,.nilSl] aj true)).put (H.next+15) (.cells [.int .i64 ((2:Nat):Int),O,P] aj true):=⟨_,rfl⟩
 have z:=w.2 (H.next+15) zO zO;have r:Sub a b:=by rw [e]; exact ((Sub.bump a 2).put z _).put z _
 have t:=r.get _ _ s;have k8:Kp H b:=by rw [e]; exact zK
 have ab:=k8.le;have n8:b.next=a.next+2:=by rw [e]; rfl
 refine zW (aC hl @oQ s) ?_;rw [<- e];refine ⟨⟨O,P,rfl,?_,?_⟩,zK⟩
 ·have m3:NoTy (t_api_Con :: conE.tys) b H.next:=NoTy.ty t zU
  exact SlV.monoT (E:=conE) zS (hc.mono r)
 ·have m3:NoTy (al :: genE.tys) b H.next:=NoTy.ty t zU
  exact SlV.monoT (E:=genE) zS (hg.mono r)
def Pm (H:Heap) (v:AV) (d:Int):Prop :=
 (∃ a,v=.tup [a,.bool false]/\Ue a) \/
 ∃ (n:Nat) (p:AV) (K:List (List Int × Bool)) (G:List (Nat × List Int)),d=(n:Int)/\n<=3/\v=.tup [p,.bool true]/\PolyV H p n K G/\PolyOK n 64 64 K G/\K.length<=6/\G.length<=6
set_option maxHeartbeats 4000000 in
def Im (C:Code tab) (hw:Wf H) {s1:AV} {d:Int} {l:List wA} (hs:SlV conQE t_api_Con H s1 l) (gl:∀ r∈l,my r.1) :
  Ans tab (.fn gF [.int .i64 d,s1]) H fun v H'=>Pm H' v d/\Kp H H':=by
 refine bE C.q2 zU fun T hl a e=>?_;refine zW (aC hl a e) ?_;refine AnsH.eq (qB C (n:=6) zF (hs.mono (zG H)) zO) fun H2 F=>?_;obtain ⟨k2,_,M⟩:=zT H zK F;have d0:H2.get H.next=some (.cells [.int .i64 0,.nilSl,.nilSl] aj true):=F.get (cY)
 have ab:=M _ _ d0;cases q1:gg 6 l with
 | true =>
  refine zW (cn hl a e d0 @oQ) ?_;exact ⟨.inl ⟨_,rfl,DO⟩,zK⟩
 | false =>
 by_cases q3:3<d
 ·refine zW (fy hl a e d0 q3 @oQ) ?_;exact ⟨.inl ⟨_,rfl,DO⟩,zK⟩
 refine zW (aZ hl a e q3) ?_;refine AnsH.use (Om C zF ((hs.mono k2.sub).mono (zG H2)) gl q1 q3) ?_;rintro v f ⟨q,p,z,rfl,⟨x,u,w,rfl,W,X⟩,R⟩;obtain ⟨I,_,_⟩:=zT H2 zK q;have J:Kp H f:=k2.trans I;have aa:=J.le;have w4:=J.wf;have n4:H2.next+9<=f.next:=q.le
 have A:f.get (H2.next+6)=none:=q.free (show H2.next+6<H2.next+9 by omega) (M.fresh (b:=H2.next+6) zO);refine zW (aZ hl a e @oQ) ?_;obtain ⟨G4,h⟩:∃ G4,G4=(f.put (H2.next+6) (.cells [.int .i64 0,.nilSl,.nilSl] aj true)).put (H2.next+6) (.cells [.int .i64 x,u,w] aj true):=⟨_,rfl⟩
 have L:Sub f G4:=by rw [h]; exact (aH A).put A _
 have s:Kp H2 G4:=by rw [h]; exact (I.put zO zO).put zO (by rw [next_put]; omega)
 have dp:G4.get (H2.next+6)=some (.cells [.int .i64 x,u,w] aj true):=by rw [h]; exact am _ _ _
 rw [<- h];clear h;have Z:=s.wf;have S:Kp H G4:=k2.trans s;have o:=s.get d0;refine EX (fun T'=>T'.length=29/\ad T' 4=.ptr H.next 0/\ad T' 6=.ptr (H2.next+6) 0/\ad T' 7=.int .i64 z) (zV (aC hl a e)) ?_;clear hl;rintro T' ⟨hl,t4,j,k⟩;refine aJ ?_;by_cases y:z=0
 ·subst y;obtain ⟨K,G,n,rfl,n3,⟨vc,vg,Q,hc,hg⟩,P,lK,lG⟩:=R rfl;cases Q;have B:=hc.mono L;have D:=hg.mono L;refine zX (lp hl a e t4 j k dp @aS) ?_;refine AnsH.eq (FZ C (n:=n) zF ⟨u,w,rfl,B.mono (zG G4),D.mono (zG G4)⟩) fun m O=>?_;obtain ⟨i,_,Y⟩:=zT G4 zK O;have g:=i.get o;have t:=i.get dp;have U:=hc.one;have V:=hg.one;have kB:Kp H m:=S.trans i;have af:=Y _ _ g;cases hL:(oN K G || decide (4<n) || decide (6<K.length) || decide (6<G.length) || decide (3<n)) with
  | true =>
   refine zX (mo hl a e t4 j k dp t g @aS @oQ) ?_;exact ⟨.inl ⟨_,rfl,⟨_,_,_,rfl,U,V⟩⟩,zK⟩
  | false =>
   simp only [XG,decide_eq_false_iff_not] at hL;obtain ⟨⟨a1,N⟩,a3,a4⟩:=El hL.1.1.1.1;have p1:PolyOK n 64 64 K G:=⟨P,zO,.inl zO,zO,fun c hc=>(N c hc).2,fun x hx=>(a4 x hx).2,zO,zO⟩
   refine zX (mo hl a e t4 j k dp t g @aS @oQ) ?_;refine ⟨.inr ⟨n,_,K,G,rfl,zO,rfl,⟨u,w,rfl,?_,?_⟩,p1,zO,zO⟩,zK⟩
   ·have m3:NoTy (t_api_Con :: conE.tys) m H.next:=NoTy.ty g zU
    exact SlV.monoT (E:=conE) zS (B.mono i.sub)
   ·have m3:NoTy (al :: genE.tys) m H.next:=NoTy.ty g zU
    exact SlV.monoT (E:=genE) zS (D.mono i.sub)
 ·refine zX (mo hl a e t4 j k dp o y @aS @oQ) ?_;have ae:=Z _ _ o;exact ⟨.inl ⟨_,rfl,⟨_,_,_,rfl,W,X⟩⟩,zK⟩
end
end Go.Proofs.YtiigaeehghcjiaaGreat.Ev
