/- A part. -/
import Derived.Test.YteaefaohjlmjdaaGreatA0
import Derived.Test.YteaefaohjlmjdaaGreatN48
import Derived.Test.YteaefaohjlmjdaaGreatN22
import Derived.Test.YteaefaohjlmjdaaGreatGens
set_option linter.all false
namespace Go.Proofs.YteaefaohjlmjdaaGreat.Lin
section
variable {n:Nat} {l m:List (V × Bool)}
def tE (hne:gensP n l≠[]):(gensR (n+1) (eqsOf l) (ineqsOf n l)).any (fun r=>decide (0<hd1 r))=true:=by
 cases hs:(gensR (n+1) (eqsOf l) (ineqsOf n l)).any (fun r=>decide (0<hd1 r)) with
 | true=>rfl
 | false=>exact absurd (by unfold gensP; rw [if_neg (by rw [hs]; decide)]) hne
def yn (h:∀ c∈l,c.1.length=n+1):gensP n l≠[] ↔ ∃ x,KeepP n l x/\0<hd1 x:=by
 constructor
 ·intro hne
  have:=tE hne
  rw [WK] at this;obtain ⟨r,hr,h0⟩:=this;exact ⟨r,OC h hr,of_decide_eq_true h0⟩
 ·rintro ⟨x,hx,h0⟩ he;have hs:¬ (gensR (n+1) (eqsOf l) (ineqsOf n l)).any (fun r=>decide (0<hd1 r))=true:=fun hs=>by
   have:=(m6 hs).2.2
   rw [he] at this;cases this
  have t:=gens_told (eqs_len h) (ineqs_len h);have h1:∀ r∈gensR (n+1) (eqsOf l) (ineqsOf n l),dot (unitC n 1) r=0:=fun r hr=>by
   rw [fl];have h2:=(keepP_iff.1 (OC h hr)).2.1;have h3:¬ 0<hd1 r:=fun h3=>hs (WK.2 ⟨r,hr,by simpa using h3⟩);omega
  have h2:∀ r∈gensL (n+1) (eqsOf l) (ineqsOf n l),dot (unitC n 1) r=0:=fun r hr=>t.dd.lineI r hr _ (mem_ineqs.2 (.inl rfl))
  have:=(t.dd.all x hx).dot_zero t.dd.lenL t.dd.lenR h2 h1
  rw [fl] at this;omega
def gU {c:V × Bool} {g:Nat × V}:keepsP c g=true ↔ (if c.2=true\/g.1=1 then dot c.1 g.2=0 else 0<=dot c.1 g.2):=by
 unfold keepsP;by_cases h:c.2=true\/g.1=1
 ·rw [if_pos h,if_pos (by simpa using h)]; simp
 ·rw [if_neg h,if_neg (by simpa using h)]; simp
def Ir (h:∀ c∈l,c.1.length=n+1) (hne:gensP n l≠[]) {c:V × Bool}:(∀ g∈gensP n l,keepsP c g=true) ↔ P2 n l c:=by
 constructor
 ·intro b x hx;have t:=gens_told (eqs_len h) (ineqs_len h);have hs:=tE hne;have e:gensP n l=(gensL (n+1) (eqsOf l) (ineqsOf n l)).map (fun r=>(1,r))++(gensR (n+1) (eqsOf l) (ineqsOf n l)).map (fun r=>(kindOf r,r)):=by
   unfold gensP; rw [if_pos hs]
  have hL:∀ r∈gensL (n+1) (eqsOf l) (ineqsOf n l),dot c.1 r=0:=fun r hr=>by
   have:=b (1,r) (by rw [e]; exact Xg _ (V5.2 ⟨r,hr,rfl⟩))
   rw [gU,if_pos (.inr rfl)] at this;exact this
  have a:∀ r∈gensR (n+1) (eqsOf l) (ineqsOf n l),(c.2=true->dot c.1 r=0)/\0<=dot c.1 r:=fun r hr=>by
   have:=b (kindOf r,r) (by rw [e]; exact XB _ (V5.2 ⟨r,hr,rfl⟩))
   rw [gU] at this;split at this
   ·exact ⟨fun _=>this,by simp only at this; omega⟩
   ·rename_i hc;exact ⟨fun e=>absurd (.inl e) hc,this⟩
  exact ⟨fun hb=>(t.dd.all x hx).dot_zero t.dd.lenL t.dd.lenR hL fun r hr=>(a r hr).1 hb,(t.dd.all x hx).dot_nonneg t.dd.lenL t.dd.lenR hL fun r hr=>(a r hr).2⟩
 ·intro d g hg;obtain ⟨k1,k2⟩:=qi h hg;exact qc d k1 k2
def inP (G:List (Nat × V)) (K:List (V × Bool)):Bool:=G.all fun g=>K.all fun c=>keepsP c g
def inP_iff {G:List (Nat × V)} {K:List (V × Bool)}:inP G K=true ↔ ∀ g∈G,∀ c∈K,keepsP c g=true:=by
 unfold inP;rw [Wv];exact ⟨fun h g hg=>Wv.1 (h g hg),fun h g hg=>Wv.2 (h g hg)⟩
structure Own (n:Nat) (K:List (V × Bool)) (G:List (Nat × V)):Prop where
 rows:∀ c∈K,c.1.length=n+1
 gens:gensP n K=G
 cons:consP n G=K
def own_of (h:∀ c∈l,c.1.length=n+1):Own n (consP n (gensP n l)) (gensP n l):=⟨jG (ts h),L8 h,rfl⟩
def Own.valid {K:List (V × Bool)} {G:List (Nat × V)} (h:Own n K G):ValidG n G:=by rw [<- h.gens]; exact GZ h.rows
def Own.point {K:List (V × Bool)} {G:List (Nat × V)} (h:Own n K G) (hne:G≠[]):G.any (fun x=>x.1 == 3)=true:=by
 have:=h.gens; rw [<- this] at hne ⊢; exact IT hne
section
variable {K K' Kr:List (V × Bool)} {G G' Gr:List (Nat × V)}
end
section
variable {g g':List (Nat × V)}
def LH (hg:ValidG n g) (h3:g.any (fun x=>x.1 == 3)=true):gensP n (consP n g)≠[]:=by
 have h4:=h3;rw [WK] at h4;obtain ⟨x,hx,e⟩:=h4;refine (yn (jG fun x hx=>(hg x hx).1)).2 ⟨x.2,(oQ hg h3 hx).1,(hg x hx).2.1 (by simpa using e)⟩
def OS (h3:¬ g.any (fun x=>x.1 == 3)=true):consP n g=[(unitC n (-1),false)]:=by
 unfold consP; rw [if_neg h3]
def LI (hg:ValidG n g):consP n (gensP n (consP n g))=consP n g:=by
 by_cases h3:g.any (fun x=>x.1 == 3)=true
 ·have d:∀ a∈linesOf g,a.length=n+1:=fun a ha=>(hg _ (mem_lines.1 ha)).1;have e:∀ a∈raysOf g,a.length=n+1:=fun a ha=>by obtain ⟨k,-,h⟩:=mem_rays.1 ha; exact (hg _ h).1
  have t:=gens_told d e;have hl:=jG (n:=n) (g:=g) fun x hx=>(hg x hx).1;have c:=gens_told (eqs_len hl) (ineqs_len hl);have hne:=LH hg h3;obtain ⟨p1,p2,p3⟩:=m6 (tE hne);have t3:=gens_told c.dd.lenL c.dd.lenR;have f:∀ y,Keep (n+1) (· ∈ gensL (n+1) (eqsOf (consP n g)) (ineqsOf n (consP n g))) (· ∈ gensR (n+1) (eqsOf (consP n g)) (ineqsOf n (consP n g))) y ↔ Keep (n+1) (· ∈ linesOf g) (· ∈ raysOf g) y:=fun y=>by
   constructor
   ·intro hy;have key:∀ x,KeepP n (consP n g) x->0<=dot y x:=fun x hx=>(c.dd.all x hx).dot_nonneg c.dd.lenL c.dd.lenR (fun l hl=>by rw [dot_comm]; exact hy.eq l hl) (fun r hr=>by rw [dot_comm]; exact hy.ge r hr);refine ⟨hy.len,fun a ha=>?_,fun b hb=>?_⟩
    ·obtain ⟨q1,q2⟩:=oQ hg h3 (mem_lines.1 ha);have r1:=key _ q1;have r2:=key _ (q2 rfl);rw [dot_scl] at r2;rw [dot_comm];simp only at r1 r2;omega
    ·obtain ⟨k,-,hm⟩:=mem_rays.1 hb
     have:=key _ (oQ hg h3 hm).1
     rw [dot_comm]; exact this
   ·intro hy;have hc:=t.dd.all y hy;have key:∀ x,KeepP n (consP n g) x->0<=dot x y:=fun x hx=>by
     have:=((pk h3 x).1 hx).2
     exact hc.dot_nonneg t.dd.lenL t.dd.lenR (fun l hl=>by rw [dot_comm]; exact this.eq l hl) (fun r hr=>by rw [dot_comm]; exact this.ge r hr)
    refine ⟨hy.len,fun a ha=>?_,fun b hb=>?_⟩
    ·obtain ⟨q1,q2⟩:=O8 hl ha;have r1:=key _ q1;have r2:=key _ q2;rw [eT] at r2;omega
    ·exact key _ (OC hl hb)
  obtain ⟨u1,i⟩:=qY t3 t f;show (if (gensP n (consP n g)).any (fun x=>x.1 == 3)=true then _ else _)=(if g.any (fun x=>x.1 == 3)=true then _ else _);rw [if_pos p3,if_pos h3,p1,p2,u1,i]
 ·rw [OS h3,uL]; rfl
def own_span (hg:ValidG n g):Own n (consP n g) (gensP n (consP n g)):=⟨jG fun x hx=>(hg x hx).1,rfl,LI hg⟩
end
section
variable {K K' Kr:List (V × Bool)} {G G' Gr:List (Nat × V)}
end
end
end Go.Proofs.YteaefaohjlmjdaaGreat.Lin
namespace Go.Proofs.YteaefaohjlmjdaaGreat.Ev
open Go Nn
section
variable {tab:Nat->Option aA} {H:Heap} {s:AV}
theorem HO {v:AV} (ov:One v) (b:Bool):fW (.agg [v,.bool b])=some [v,.bool b]:=by simp [fW,AV.cells,ov.2]; rfl
theorem sB {v:AV} (ov:One v) (k:Int):fW (.agg [.int .u8 k,v])=some [.int .u8 k,v]:=by simp [fW,AV.cells,ov.2]; rfl
def FB (C:Code tab) (l:Wf H) {cs g:List AV} {x y:List Int × Bool} (hx:conE.R H cs x) (hy:conE.R H g y) (j:x.1.length<1099511627776) (hz:∀ z∈x.1,dD z) :
  Ans tab (.fn gP [.agg cs,.agg g]) H fun v H'=>v=.bool (decide (x=y))/\Kp H H':=by
 obtain ⟨v,rfl,c⟩:=hx;obtain ⟨w,rfl,d⟩:=hy;have ov:=c.one;have h:=d.one;obtain ⟨a,p⟩:=x;obtain ⟨b,q⟩:=y;have c:RowV H v a:=c;have d:RowV H w b:=d;refine bA C.q95 zU fun T hl e f=>?_;by_cases hb:p=q
 ·subst hb;refine zW (dj hl e f (HO ov) (HO h) (beq_self_eq_true (α:=Bool))) ?_;refine AnsH.eq (AM C zF (c.mono (zG H)) (d.mono (zG H)) j hz) fun H2 i=>?_;obtain ⟨k2,_,_⟩:=zT H zK i;refine zW (aD hl e f) ?_;exact ⟨by simp,zK⟩
 ·have k:(p == q)=false:=by simpa using hb
  refine zW (dj hl e f (HO ov) (HO h) k) ?_;exact ⟨by simp [hb],zK⟩
def FA (C:Code tab) (l:Wf H) {cs g:List AV} {x y:Nat × List Int} (hx:genE.R H cs x) (hy:genE.R H g y) (j:x.2.length<1099511627776) (hz:∀ z∈x.2,dD z) :
  Ans tab (.fn gO [.agg cs,.agg g]) H fun v H'=>v=.bool (decide (x=y))/\Kp H H':=by
 obtain ⟨v,rfl,c⟩:=hx;obtain ⟨w,rfl,d⟩:=hy;have ov:=c.one;have h:=d.one;obtain ⟨p,a⟩:=x;obtain ⟨q,b⟩:=y;have c:RowV H v a:=c;have d:RowV H w b:=d;refine bA C.q96 zU fun T hl e f=>?_;by_cases hb:p=q
 ·subst hb;refine zW (bB hl e f (sB ov) (sB h)) ?_;refine AnsH.eq (AM C zF (c.mono (zG H)) (d.mono (zG H)) j hz) fun H2 i=>?_;obtain ⟨k2,_,_⟩:=zT H zK i;refine zW (aD hl e f) ?_;exact ⟨by simp,zK⟩
 ·have k:¬ (p:Int)=(q:Int):=zO;refine zW (dj hl e f (sB ov) (sB h) k) ?_;exact ⟨by simp [hb],zK⟩
def Df (C:Code tab) (R:Wf H) {a b:AV} {l m:List (List Int × Bool)} (ha:SlV conE t_api_Con H a l) (hb:SlV conE t_api_Con H b m) (P:l.length<1099511627776) (hz:∀ r∈l,r.1.length<1099511627776/\∀ z∈r.1,dD z) :
  Ans tab (.fn aX [a,b,.fn (.func gP) [] []]) H fun v H'=>v=.bool (decide (l=m))/\Kp H H':=by
 refine lC C.q97 zU fun T hl c d f=>?_;by_cases he:l.length=m.length
 ·have K:lenV b=some (.int .i64 (l.length:Int)):=by rw [hb.lenV,he]
  refine zW (dj hl c d f ha.lenV K) ?_;refine aq H [] (fun j _ _=>∀ q (h:q<l.length) (h':q<m.length),q<j->l[q]=m[q]) (a:=0) (N:=l.length) rfl (by refine zW (aO hl c d f) ?_; rfl) (zV (aO hl c d f)) (Wd _) zO (by simp only [VX,hl]; rfl) rfl (fun _ _ _ _ h=>h) zK (fun q _ _ h=>by omega) ?_ ?_
  ·intro j T1 k _ hj g F o n p;have w1:=n.wf;have S:=n.le;have s:j<m.length:=zO;have M:ad T1 15=a:=(o.at_ 15 zU).trans (zV (aE hl c));have t1:ad T1 1=b:=(o.at_ 1 zU).trans (zV (bB hl c d f d));have O:ad T1 2=.fn (.func gP) [] []:=(o.at_ 2 zU).trans (zV (bB hl c d f f));obtain ⟨_,⟨v,rfl,hr⟩,-,-,L⟩:=(ha.mono n.sub).at (VZ hj);obtain ⟨_,⟨w,rfl,t⟩,-,-,L'⟩:=(hb.mono n.sub).at (VZ s);have L:bk k (some 2) (aB a (j*2))=some (.agg [v,.bool l[j].2]):=L;have L':bk k (some 2) (aB b (j*2))=some (.agg [w,.bool m[j].2]):=L';have G:cS 2 a (.int .i64 (j:Int))=some (aB a (j*2)):=SlV.idx ha .i64 j hj;have I:cS 2 b (.int .i64 (j:Int))=some (aB b (j*2)):=SlV.idx hb .i64 j s;have ov:=hr.one;have U:=t.one;have D:=(Ldd.of w1 L).put;have A:=(Ldd.of w1 L).ld;have B:=(Ldd.of w1 L').put;have u:=(Ldd.of w1 L').ld;simp only [VX,hl] at g;refine zW (ia g M t1 O F G I D A B u) ?_;refine AnsH.eq (FB C (x:=l[j]) (y:=m[j]) zF ⟨v,rfl,hr.mono (zG k)⟩ ⟨w,rfl,t.mono (zG k)⟩ (hz _ (V4 hj)).1 (hz _ (V4 hj)).2) fun H2 J=>?_;obtain ⟨k2,_,_⟩:=zT H zK J;cases i:decide (l[j]=m[j]) with
   | true =>
    have i:=of_decide_eq_true i;refine zW g ?_;refine ⟨zK,fun q h h' Q=>?_⟩;by_cases e:q=j
    ·subst e; exact i
    ·exact p q h h' zO
   | false =>
    have i:=of_decide_eq_false i;refine zW g ?_;refine ⟨?_,zK⟩;rw [decide_eq_false];intro e; subst e; exact i rfl
  ·intro T1 k g o n p;simp only [VX,hl] at g;refine zW g ?_;exact ⟨by rw [decide_eq_true (jg he fun q h h'=>p q h h' h)],zK⟩
 ·have E:¬ (l.length:Int)=(m.length:Int):=zO;refine zW (fX hl c d f ha.lenV hb.lenV E he) ?_;refine ⟨?_,zK⟩;rw [decide_eq_false];intro e; subst e; exact he rfl
def De (C:Code tab) (R:Wf H) {a b:AV} {l m:List (Nat × List Int)} (ha:SlV genE ag H a l) (hb:SlV genE ag H b m) (P:l.length<1099511627776) (hz:∀ r∈l,r.2.length<1099511627776/\∀ z∈r.2,dD z) :
  Ans tab (.fn aW [a,b,.fn (.func gO) [] []]) H fun v H'=>v=.bool (decide (l=m))/\Kp H H':=by
 refine lC C.q98 zU fun T hl c d f=>?_;by_cases he:l.length=m.length
 ·have K:lenV b=some (.int .i64 (l.length:Int)):=by rw [hb.lenV,he]
  refine zW (dj hl c d f ha.lenV K) ?_;refine aq H [] (fun j _ _=>∀ q (h:q<l.length) (h':q<m.length),q<j->l[q]=m[q]) (a:=0) (N:=l.length) rfl (by refine zW (aO hl c d f) ?_; rfl) (zV (aO hl c d f)) (Wd _) zO (by simp only [VX,hl]; rfl) rfl (fun _ _ _ _ h=>h) zK (fun q _ _ h=>by omega) ?_ ?_
  ·intro j T1 k _ hj g F o n p;have w1:=n.wf;have S:=n.le;have s:j<m.length:=zO;have M:ad T1 15=a:=(o.at_ 15 zU).trans (zV (aE hl c));have t1:ad T1 1=b:=(o.at_ 1 zU).trans (zV (bB hl c d f d));have O:ad T1 2=.fn (.func gO) [] []:=(o.at_ 2 zU).trans (zV (bB hl c d f f));obtain ⟨_,⟨v,rfl,hr⟩,-,-,L⟩:=(ha.mono n.sub).at (VZ hj);obtain ⟨_,⟨w,rfl,t⟩,-,-,L'⟩:=(hb.mono n.sub).at (VZ s);have L:bk k (some 2) (aB a (j*2))=some (.agg [.int .u8 (l[j].1:Int),v]):=L;have L':bk k (some 2) (aB b (j*2))=some (.agg [.int .u8 (m[j].1:Int),w]):=L';have G:cS 2 a (.int .i64 (j:Int))=some (aB a (j*2)):=SlV.idx ha .i64 j hj;have I:cS 2 b (.int .i64 (j:Int))=some (aB b (j*2)):=SlV.idx hb .i64 j s;have ov:=hr.one;have U:=t.one;have D:=(Ldd.of w1 L).put;have A:=(Ldd.of w1 L).ld;have B:=(Ldd.of w1 L').put;have u:=(Ldd.of w1 L').ld;simp only [VX,hl] at g;refine zW (ia g M t1 O F G I D A B u) ?_;refine AnsH.eq (FA C (x:=l[j]) (y:=m[j]) zF ⟨v,rfl,hr.mono (zG k)⟩ ⟨w,rfl,t.mono (zG k)⟩ (hz _ (V4 hj)).1 (hz _ (V4 hj)).2) fun H2 J=>?_;obtain ⟨k2,_,_⟩:=zT H zK J;cases i:decide (l[j]=m[j]) with
   | true =>
    have i:=of_decide_eq_true i;refine zW g ?_;refine ⟨zK,fun q h h' Q=>?_⟩;by_cases e:q=j
    ·subst e; exact i
    ·exact p q h h' zO
   | false =>
    have i:=of_decide_eq_false i;refine zW g ?_;refine ⟨?_,zK⟩;rw [decide_eq_false];intro e; subst e; exact i rfl
  ·intro T1 k g o n p;simp only [VX,hl] at g;refine zW g ?_;exact ⟨by rw [decide_eq_true (jg he fun q h h'=>p q h h' h)],zK⟩
 ·have E:¬ (l.length:Int)=(m.length:Int):=zO;refine zW (fX hl c d f ha.lenV hb.lenV E he) ?_;refine ⟨?_,zK⟩;rw [decide_eq_false];intro e; subst e; exact he rfl
def DN (C:Code tab) (K:Wf H) {v q:AV} {n n':Nat} {c h:List (List Int × Bool)} {g g':List (Nat × List Int)} (hp:PolyV H v n c g) (D:PolyV H q n' h g') (t:c.length<1099511627776) (u:∀ r∈c,r.1.length<1099511627776/\∀ z∈r.1,dD z) (w:g.length<1099511627776) (y:∀ r∈g,r.2.length<1099511627776/\∀ z∈r.2,dD z) :
  Ans tab (.fn rM [v,q]) H fun x H'=>x=.bool (decide (n=n'/\c=h/\g=g'))/\Kp H H':=by
 obtain ⟨F,I,rfl,hc,hg⟩:=hp;obtain ⟨G,J,rfl,j,k⟩:=D;have l:=hc.one;have o:=hg.one;have m:=j.one;have p:=k.one;refine bA C.q67 zU fun T hl a d=>?_;by_cases hn:n=n'
 ·subst hn;refine zW (bB hl a d (jS l o) (jS m p)) ?_;refine AnsH.eq (Df C zF (hc.mono (zG H)) (j.mono (zG H)) t u) fun H2 i=>?_;obtain ⟨k2,_,w2⟩:=zT H zK i;have d0:=i.get (b:=H.next) (e:=.cells [.int .i64 (n:Int),F,I] am true) (cC);have d1:=i.get (b:=H.next+1) (e:=.cells [.int .i64 (n:Int),G,J] am true) (cC);by_cases f:c=h
  ·rw [decide_eq_true f];refine zW (bB hl a d d0 d1) ?_;refine AnsH.eq (De C zF ((hg.mono k2.sub).mono (zG H2)) ((k.mono k2.sub).mono (zG H2)) w y) fun s A=>?_;have E:Kp H s:=k2.trans (Kp.trans zK A);have L:=E.le;refine zW (aD hl a d) ?_;exact ⟨by simp [f],zK⟩
  ·rw [decide_eq_false f];refine zW (aD hl a d) ?_;exact ⟨by simp [f],zK⟩
 ·have B:¬ (n:Int)=(n':Int):=zO;refine zW (dj hl a d (jS l o) (jS m p) B) ?_;exact ⟨by simp [hn],zK⟩
def L7 (C:Code tab) (u:Wf H) {v w:AV} {a r:List Int} {e f:Nat} (ha:RowV H v a) (hr:RowV H w r) (k:a.length=r.length) (i:a.length<=64) (j:∀ z∈a,Bt e z) (m:∀ z∈r,Bt f z) (l:e+f+7<=8796093022208) :
  Ans tab (.fn rD [v,w]) H fun x H'=>x=.int .i64 (gJ (Lin.dot a r))/\Kp H H':=by
 refine bA C.q68 zU fun T hl c d=>?_;refine zW (aD hl c d) ?_;refine AnsH.use (mB C zF (ha.mono (zG H)) (hr.mono (zG H)) k i j m l) ?_;rintro x H2 ⟨q,rfl,⟨p,rfl,hp⟩,h⟩;obtain ⟨k2,_,w2⟩:=zT H zK h;have op:=hp.one;have B:H.next+10<=H2.next:=h.le
 have fr:H2.get (H.next+7)=none:=h.free (show H.next+7<H.next+10 by omega) (u.fresh (b:=H.next+7) zO);obtain ⟨G,g⟩:∃ G,G=((H2.up 7).put (H.next+7) (.cells [.bool false,.nilSl] aa true)).put (H.next+7) (.cells [.bool (decide (Lin.dot a r<0)),p] aa true):=⟨_,rfl⟩
 have n:Kp H G:=by rw [g]; exact zK
 have t:bO G p (Lin.dot a r).natAbs:=by
  rw [g];exact hp.mono (((Sub.bump H2 7).put fr _).put fr _)
 refine zW (aD hl c d) ?_;rw [<- g];refine AnsH.eq (pD C (x:=Lin.dot a r) n.wf ⟨p,rfl,t⟩ ((nf j m k i).sm l)) fun o s=>?_;have y:Kp H o:=n.trans s;have A:=y.le;refine zW (aD hl c d) ?_;exact zK
def poly_keeps (C:Code tab) (q:Wf H) {v w:AV} {b:Bool} {k:Nat} {a r:List Int} {e f:Nat} (ha:RowV H v a) (hr:RowV H w r) (j:a.length=r.length) (o:a.length<=64) (i:∀ z∈a,Bt e z) (m:∀ z∈r,Bt f z) (p:e+f+7<=8796093022208) :
  Ans tab (.fn ik [.agg [.int .u8 (k:Int),w],.agg [v,.bool b]]) H fun x H'=>x=.bool (Lin.keepsP (a,b) (k,r))/\Kp H H':=by
 have ov:=ha.one;have n:=hr.one;refine bA C.q36 zU fun T hl c d=>?_;refine zW (bB hl c d (HO ov) (sB n)) ?_;refine AnsH.eq (L7 C (e:=f) (f:=e) zF (hr.mono (zG H)) (ha.mono (zG H)) j.symm zO m i zO) fun H2 g=>?_;obtain ⟨k2,_,w2⟩:=zT H zK g;have d1:H2.get H.next=some (.cells [.int .u8 (k:Int),w] ag true):=g.get (cC)
 have d2:H2.get (H.next+1)=some (.cells [v,.bool b] t_api_Con true):=g.get (cC);have hd:=Lin.dot_comm r a;cases b with
 | true =>
  refine zW (bB hl c d d1 d2) ?_;refine ⟨?_,zK⟩;congr 1;rw [Xo];simp [Lin.keepsP,iK,hd]
 | false =>
  by_cases h:k=1
  ·subst h;have d1:H2.get H.next=some (.cells [.int .u8 1,w] ag true):=d1
   refine zW (bB hl c d d1 d2) ?_;refine ⟨?_,zK⟩;congr 1;rw [Xo];simp [Lin.keepsP,iK,hd]
  ·have l:¬ (k:Int)=1:=zO;refine zW (dj hl c d d1 d2 l) ?_;refine ⟨?_,zK⟩;congr 1;rw [Xo];simp [Lin.keepsP,IB,hd,h]
def HX {α:Type} {p:α->Bool} {l:List α} {j:Nat} (hj:j<l.length):(l.take (j+1)).all p=((l.take j).all p && p l[j]):=by
 rw [List.take_succ,VZ hj,List.all_append]; simp
def IU (C:Code tab) (hw:Wf H) {a b:AV} {n e f:Nat} {G:List (Nat × List Int)} {K:List (List Int × Bool)} (ha:SlV genE ag H a G) (hb:SlV conE t_api_Con H b K) (P:∀ x∈G,x.2.length=n+1/\Lin.Bd (2^e) x.2) (F:∀ c∈K,c.1.length=n+1/\Lin.Bd (2^f) c.1) (hn:n<=60) (ar:G.length<1099511627776) (au:K.length<1099511627776) (ap:e+f<=4398046511104) :
  Ans tab (.fn pR [a,b,.fn (.func ik) [] []]) H fun v H'=>v=.bool (Lin.inP G K)/\Kp H H':=by
 refine lC C.q35 zU fun T hl o p q=>?_;refine zW (bB hl o p q ha.lenV) ?_;refine aq H [] (fun j _ _=>Lin.inP (G.take j) K=true) (a:=0) (N:=G.length) rfl (by refine zW (aO hl o p q) ?_; rfl) (zV (aO hl o p q)) (Wd _) zO (by simp only [VX,hl]; rfl) rfl (fun _ _ _ _ h=>h) zK rfl ?_ ?_
 ·intro j T1 g _ hj d Z A s u;have w1:=s.wf;have aw:=s.le;have aj:ad T1 11=a:=(A.at_ 11 zU).trans (zV (aE hl o));have t1:ad T1 1=b:=(A.at_ 1 zU).trans (zV (bB hl o p q p));have t2:ad T1 2=.fn (.func ik) [] []:=(A.at_ 2 zU).trans (zV (bB hl o p q q));obtain ⟨_,⟨v,rfl,hr⟩,-,-,L⟩:=(ha.mono s.sub).at (VZ hj);have L:bk g (some 2) (aB a (j*2))=some (.agg [.int .u8 (G[j].1:Int),v]):=L;have ab:cS 2 a (.int .i64 (j:Int))=some (aB a (j*2)):=SlV.idx ha .i64 j hj;have hr:RowV g v G[j].2:=hr;have ov:=hr.one;have X:=(Ldd.of w1 L).put;have V:=(Ldd.of w1 L).ld;have J:=V4 hj;simp only [VX,hl] at d;refine zW (fX d aj t1 Z ab X V hb.lenV) ?_;obtain ⟨H2,E⟩:∃ H2,H2=((g.up 7).put (g.next+2) (.cells [.int .u8 0,.nilSl] ag true)).put (g.next+2) (.cells [.int .u8 (G[j].1:Int),v] ag true):=⟨_,rfl⟩
  have I:Kp g H2:=by rw [E]; exact zK
  have ay:=I.le;have k2:Kp H H2:=s.trans I;have aC:=k2.le;have w2:=k2.wf;have Y:H2.get (g.next+2)=some (.cells [.int .u8 (G[j].1:Int),v] ag true):=by rw [E]; exact al _ _ _
  rw [<- E];refine aq H2 [] (fun i _ _=>(K.take i).all (fun c=>Lin.keepsP c G[j])=true) (a:=0) (N:=K.length) rfl (by refine zW d ?_; rfl) (zV d) (Wd _) zO (by simp only [VX,d]; rfl) rfl (fun _ _ _ _ h=>h) zK rfl ?_ ?_
  ·intro i T2 l _ hi m aa B t y;have M:=t.wf;have ax:=t.le;have am:ad T2 17=b:=(B.at_ 17 zU).trans (zV (aE d t1));have ao:ad T2 2=.fn (.func ik) [] []:=(B.at_ 2 zU).trans (zV (aE d t2));have t8:ad T2 8=.ptr (g.next+2) 0:=(B.at_ 8 zU).trans (zV d);have O:=t.get Y;have aF:=M _ _ O;have R:Sub g l:=I.sub.trans t.sub;obtain ⟨_,⟨w,rfl,hc⟩,-,-,L'⟩:=((hb.mono s.sub).mono R).at (VZ hi);have L':bk l (some 2) (aB b (i*2))=some (.agg [w,.bool K[i].2]):=L';have ae:cS 2 b (.int .i64 (i:Int))=some (aB b (i*2)):=SlV.idx hb .i64 i hi;have hc:RowV l w K[i].1:=hc;have ow:=hc.one;have W:=(Ldd.of M L').put;have U:=(Ldd.of M L').ld;have D:=V4 hi;have ah:=hr.mono R;simp only [VX,d] at m;refine zW (jU m am ao t8 aa ae W U O) ?_;refine AnsH.eq (poly_keeps C (e:=f+1) (f:=e+1) (b:=K[i].2) (k:=G[j].1) (a:=K[i].1) (r:=G[j].2) zF (hc.mono (zG l)) (ah.mono (zG l)) ((F _ D).1.trans (P _ J).1.symm) (by rw [(F _ D).1]; omega) (fun z hz=>fu (F _ D).2 z hz) (fun z hz=>fu (P _ J).2 z hz) zO) fun S af=>?_;obtain ⟨k4,_,_⟩:=zT H2 zK af;have av:Kp H S:=k2.trans k4;cases Q:Lin.keepsP (K[i].1,K[i].2) (G[j].1,G[j].2) with
   | true =>
    refine zW m ?_;refine ⟨zK,?_⟩;rw [HX hi,y];exact Q
   | false =>
    refine zW m ?_;refine ⟨?_,zK⟩
    have:Lin.inP G K=false:=by
     cases h:Lin.inP G K with
     | false=>rfl
     | true =>
      have:=Lin.inP_iff.1 h _ J _ D
      exact absurd (this.symm.trans Q) zU
    rw [this]
  ·intro T2 l m B t y;rw [WF] at y;simp only [VX,d] at m;have k3:Kp H l:=k2.trans t;have aD:=k3.le;refine zW m ?_;refine ⟨zK,?_⟩;unfold Lin.inP at u ⊢;rw [HX hj,u];exact y
 ·intro T1 g d A s u;simp only [VX,hl] at d;rw [WF] at u;refine zW d ?_;exact ⟨by rw [u],zK⟩
end
section
open Lin
def Do {r:V} (h:∀ z∈r.map bF,z.2.length<=1):Bd (2^64) r:=fun i=>by
 unfold at_;rw [VY];cases hi:r[i]? with
 | none=>simp
 | some z =>
  have h1:=h (bF z) (V5.2 ⟨z,Wk hi,rfl⟩);have h2:z.natAbs<B^1:=yj (n:=z.natAbs) h1;have h3:B^1=2^64:=by decide
  simp only [XE];omega
def Ft {c:List (V × Bool)} {g:List (Nat × V)} (h:mZ c g=false):(c.length<=9/\∀ x∈c,x.1.length<=5/\Bd (2^64) x.1)/\g.length<=9/\∀ x∈g,x.2.length<=5/\Bd (2^64) x.2:=by
 unfold mZ at h;rw [XZ] at h;obtain ⟨h1,h2⟩:=jD h.1;obtain ⟨h3,h4⟩:=jC h.2;rw [V7] at h1 h3;refine ⟨⟨h1,fun x hx=>?_⟩,h3,fun x hx=>?_⟩
 ·obtain ⟨q1,q2⟩:=h2 _ (V5.2 ⟨x,hx,rfl⟩);simp only [V7] at q1;exact ⟨q1,Do q2⟩
 ·obtain ⟨q1,q2⟩:=h4 _ (V5.2 ⟨x,hx,rfl⟩);simp only [V7] at q1;exact ⟨q1,Do q2⟩
def Mz {n:Nat} {l:List (V × Bool)}:∀ x∈gensP n l,x.1=1\/x.1=2\/x.1=3:=fun x hx=>by
 unfold gensP at hx;split at hx
 ·rcases Wp.1 hx with hx | hx
  ·obtain ⟨r,hr,rfl⟩:=V5.1 hx;exact .inl rfl
  ·obtain ⟨r,hr,rfl⟩:=V5.1 hx;show kindOf r=1\/kindOf r=2\/kindOf r=3;unfold kindOf;split <;> simp
 ·cases hx
end
section
variable {tab:Nat->Option aA} {H:Heap} {s:AV}
structure PolyOK (n e f:Nat) (K:List (List Int × Bool)) (G:List (Nat × List Int)):Prop where
 own:Lin.Own n K G
 dim:n<=4
 few:K.length<=60\/K.length<=1022/\G.length<=60
 many:G.length<1024
 bK:∀ c∈K,Lin.Bd (2^f) c.1
 bG:∀ x∈G,Lin.Bd (2^e) x.2
 e3:e<=300000
 f3:f<=300000
section
variable {n e f:Nat} {K:List (List Int × Bool)} {G:List (Nat × List Int)}
def PolyOK.rowK (h:PolyOK n e f K G):∀ c∈K,c.1.length=n+1/\Lin.Bd (2^f) c.1:=fun c hc=>⟨h.own.rows c hc,h.bK c hc⟩
def PolyOK.rowG (h:PolyOK n e f K G):∀ x∈G,x.2.length=n+1/\Lin.Bd (2^e) x.2:=fun x hx=>⟨(h.own.valid x hx).1,h.bG x hx⟩
def PolyOK.kinds (h:PolyOK n e f K G):∀ x∈G,x.1=1\/x.1=2\/x.1=3:=fun x hx=>Mz (n:=n) (l:=K) x (by rw [h.own.gens]; exact hx)
def PolyOK.smK (h:PolyOK n e f K G):∀ r∈K,r.1.length<1099511627776/\∀ z∈r.1,dD z:=fun r hr=>⟨by rw [(h.rowK r hr).1]; have:=h.dim; omega,fun z hz=>(fu (h.rowK r hr).2 z hz).sm (by have:=h.f3; omega)⟩
def PolyOK.smG (h:PolyOK n e f K G):∀ r∈G,r.2.length<1099511627776/\∀ z∈r.2,dD z:=fun r hr=>⟨by rw [(h.rowG r hr).1]; have:=h.dim; omega,fun z hz=>(fu (h.rowG r hr).2 z hz).sm (by have:=h.e3; omega)⟩
def PolyOK.lenK (h:PolyOK n e f K G):K.length<=1022:=by rcases h.few with h | h <;> omega
end
set_option maxHeartbeats 4000000 in
def uJ (C:Code tab) (D:Wf H) {v:AV} {n e f:Nat} {K:List (List Int × Bool)} {G:List (Nat × List Int)} (hp:PolyV H v n K G) (a:PolyOK n e f K G) :
  Ans tab (.fn pS [v]) H fun x H'=>x=.int .i64 0/\Kp H H':=by
 obtain ⟨w,y,rfl,hc,hg⟩:=hp;have E:=hc.one;have F:=hg.one;have I:=a.lenK;have Q:=a.many;have u:Lin.gensP n K=G:=a.own.gens;have k:Lin.consP n G=K:=a.own.cons;have e3:=a.e3;have f3:=a.f3;have smK:=a.smK;have smG:=a.smG;refine cT C.q33 zU fun T hl l=>?_;by_cases q1:(K.length:Int)<=60
 ·refine zW (bB hl l (jS E F) hc.lenV q1) ?_;refine AnsH.use (qj C (n:=n) (m:=f) (m2:=e) zF (hc.mono (zG H)) a.dim zO a.rowK f3 (by rw [u]; exact a.bG) e3) ?_;rintro v H2 ⟨hm,d⟩;obtain ⟨k2,_,w2⟩:=zT H zK d;have M:H.next+17<=H2.next:=d.le
  have d0:H2.get H.next=some (.cells [.int .i64 (n:Int),w,y] am true):=d.get (cC)
  have o:H2.get (H.next+14)=none:=d.free (show H.next+14<H.next+17 by omega) (by rw [au zO]; exact D.fresh (b:=H.next+14) zO);rw [u] at hm;unfold py at hm;rw [k] at hm;rcases hm with ⟨-,hm⟩ | ⟨p,rfl,⟨s,t,rfl,q,r⟩,-,-⟩
  ·omega
  have N:=q.one;have O:=r.one;obtain ⟨c,i⟩:∃ c,c=((H2.up 7).put (H.next+14) (.cells [.int .i64 0,.nilSl,.nilSl] am true)).put (H.next+14) (.cells [.int .i64 (n:Int),s,t] am true):=⟨_,rfl⟩
  have g:Sub H2 c:=by rw [i]; exact ((Sub.bump H2 7).put o _).put o _
  have j:Kp H c:=by rw [i]; exact zK
  have J:=j.le;have P:=j.wf;refine zW (aO hl l @jj d0) ?_;rw [<- i];refine AnsH.eq (DN C zF ⟨w,y,rfl,(hc.mono k2.sub).mono g,(hg.mono k2.sub).mono g⟩ ⟨s,t,rfl,q.mono g,r.mono g⟩ zO smK zO smG) fun z A=>?_;have B:Kp H z:=j.trans A;have L:=B.le;rw [decide_eq_true ⟨rfl,rfl,rfl⟩];refine zW (aE hl l) ?_;exact zK
 ·have q2:(G.length:Int)<=60:=by rcases a.few with h | h <;> omega
  refine zW (fo hl l (jS E F) hc.lenV q1 hg.lenV q2) ?_;refine AnsH.use (l8 C (n:=n) (m:=e) (m2:=f) (m3:=e) zF (hg.mono (zG H)) a.dim zO a.own.valid a.kinds a.bG e3 (by rw [k]; exact a.bK) f3 (by rw [k,u]; exact a.bG) e3 (by rw [k]; exact .inl I)) ?_;rintro v H2 ⟨hm,d⟩;obtain ⟨k2,_,w2⟩:=zT H zK d;have M:H.next+21<=H2.next:=d.le
  have d0:H2.get H.next=some (.cells [.int .i64 (n:Int),w,y] am true):=d.get (cC)
  have o:H2.get (H.next+18)=none:=d.free (show H.next+18<H.next+21 by omega) (by rw [au zO]; exact D.fresh (b:=H.next+18) zO);unfold xz py at hm;rw [k,u,k] at hm;rcases hm with ⟨-,hm⟩ | ⟨-,hm⟩ | ⟨p,rfl,⟨s,t,rfl,q,r⟩,-,-⟩
  ·omega
  ·omega
  have N:=q.one;have O:=r.one;obtain ⟨c,i⟩:∃ c,c=((H2.up 7).put (H.next+18) (.cells [.int .i64 0,.nilSl,.nilSl] am true)).put (H.next+18) (.cells [.int .i64 (n:Int),s,t] am true):=⟨_,rfl⟩
  have g:Sub H2 c:=by rw [i]; exact ((Sub.bump H2 7).put o _).put o _
  have j:Kp H c:=by rw [i]; exact zK
  have J:=j.le;have P:=j.wf;refine zW (aO hl l @jj d0) ?_;rw [<- i];refine AnsH.eq (DN C zF ⟨w,y,rfl,(hc.mono k2.sub).mono g,(hg.mono k2.sub).mono g⟩ ⟨s,t,rfl,q.mono g,r.mono g⟩ zO smK zO smG) fun z A=>?_;have B:Kp H z:=j.trans A;have L:=B.le;rw [decide_eq_true ⟨rfl,rfl,rfl⟩];refine zW (aE hl l) ?_;exact zK
end
end Go.Proofs.YteaefaohjlmjdaaGreat.Ev
namespace Go.Proofs.YteaefaohjlmjdaaGreat.Lin
def g13:gensP 1 [([-1,1],false),([3,-1],false)]=[(3,[1,1]),(3,[1,3])]:=by
 have r:(gensU 2 [] [[1,0],[-1,1],[3,-1]]).rays.map (restF (gensL 2 [] [[1,0],[-1,1],[3,-1]]))=[[1,1],[1,3]]:=by decide +kernel
 have e:gensL 2 [] [[1,0],[-1,1],[3,-1]]=[]:=by decide +kernel
 have g:gensR 2 [] [[1,0],[-1,1],[3,-1]]=[[1,1],[1,3]]:=by
  unfold gensR;rw [r]; simp [List.mergeSort,List.MergeSort.Internal.splitInTwo,cmpV]
 have h1:eqsOf ([([-1,1],false),([3,-1],false)]:List (V × Bool))=[]:=rfl;have h2:ineqsOf 1 ([([-1,1],false),([3,-1],false)]:List (V × Bool))=[[1,0],[-1,1],[3,-1]]:=rfl;unfold gensP;rw [h1,h2,e,g];rfl
def k13:consP 1 [(3,[1,1]),(3,[1,3])]=[([-1,1],false),([3,-1],false)]:=by
 have r:(gensU 2 [] [[1,1],[1,3]]).rays.map (restF (gensL 2 [] [[1,1],[1,3]]))=[[3,-1],[-1,1]]:=by decide +kernel
 have e:gensL 2 [] [[1,1],[1,3]]=[]:=by decide +kernel
 have g:gensR 2 [] [[1,1],[1,3]]=[[-1,1],[3,-1]]:=by
  unfold gensR;rw [r]; simp [List.mergeSort,List.MergeSort.Internal.splitInTwo,cmpV]
 have h1:linesOf ([(3,[1,1]),(3,[1,3])]:List (Nat × V))=[]:=rfl;have h2:raysOf ([(3,[1,1]),(3,[1,3])]:List (Nat × V))=[[1,1],[1,3]]:=rfl;unfold consP;rw [h1,h2,e,g];decide
def b0:gensP 1 [([-1,1],false),([3,-1],false),([-4,1],false),([9,-1],false)]=[]:=by
 have r:(gensU 2 [] [[1,0],[-1,1],[3,-1],[-4,1],[9,-1]]).rays.map (restF (gensL 2 [] [[1,0],[-1,1],[3,-1],[-4,1],[9,-1]]))=[]:=by decide +kernel
 have e:gensL 2 [] [[1,0],[-1,1],[3,-1],[-4,1],[9,-1]]=[]:=by decide +kernel
 have g:gensR 2 [] [[1,0],[-1,1],[3,-1],[-4,1],[9,-1]]=[]:=by
  unfold gensR;rw [r]; simp
 have h1:eqsOf ([([-1,1],false),([3,-1],false),([-4,1],false),([9,-1],false)]:List (V × Bool))=[]:=rfl;have h2:ineqsOf 1 ([([-1,1],false),([3,-1],false),([-4,1],false),([9,-1],false)]:List (V × Bool))=[[1,0],[-1,1],[3,-1],[-4,1],[9,-1]]:=rfl;unfold gensP;rw [h1,h2,e,g];rfl
def k23:consP 1 [(3,[1,2]),(3,[1,3])]=[([-2,1],false),([3,-1],false)]:=by
 have r:(gensU 2 [] [[1,2],[1,3]]).rays.map (restF (gensL 2 [] [[1,2],[1,3]]))=[[3,-1],[-2,1]]:=by decide +kernel
 have e:gensL 2 [] [[1,2],[1,3]]=[]:=by decide +kernel
 have g:gensR 2 [] [[1,2],[1,3]]=[[-2,1],[3,-1]]:=by
  unfold gensR;rw [r]; simp [List.mergeSort,List.MergeSort.Internal.splitInTwo,cmpV]
 have h1:linesOf ([(3,[1,2]),(3,[1,3])]:List (Nat × V))=[]:=rfl;have h2:raysOf ([(3,[1,2]),(3,[1,3])]:List (Nat × V))=[[1,2],[1,3]]:=rfl;unfold consP;rw [h1,h2,e,g];decide
def bd_small4 {x:V} (h:x.all (fun a=>decide (a.natAbs<=16))=true):Bd (2^4) x:=fun i=>by
 by_cases hi:i<x.length
 ·have:at_ x i=x[i]:=by simp [at_,hi]
  rw [this]
  simpa using Wv.1 h _ (V4 hi)
 ·have:at_ x i=0:=by simp [at_,hi]
  rw [this]; simp
end Go.Proofs.YteaefaohjlmjdaaGreat.Lin
namespace Go.Proofs.YteaefaohjlmjdaaGreat.Ev
open Go Nn
section
variable {tab:Nat->Option aA} {H:Heap} {s:AV}
def yU (C:Code tab) (l:Wf H) {v:AV} {n:Nat} {c:List (List Int × Bool)} {g:List (Nat × List Int)} (hp:PolyV H v n c g) :
  Ans tab (.fn fD [v]) H fun x H'=>x=.bool (mZ c g || decide (4<n))/\Kp H H':=by
 obtain ⟨f,h,rfl,hc,hg⟩:=hp;have i:=hc.one;have j:=hg.one;refine cT C.q17 zU fun T hl a=>?_;refine zW (aD hl a (jS i j)) ?_;refine AnsH.eq (Gn C (n:=n) (c:=c) (g:=g) zF ⟨f,h,rfl,hc.mono (zG H),hg.mono (zG H)⟩) fun H2 d=>?_;obtain ⟨k2,_,_⟩:=zT H zK d;have d0:=d.get (b:=H.next) (e:=.cells [.int .i64 (n:Int),f,h] am true) (cC);have e:decide ((4:Int)<(n:Int))=decide (4<n):=by rw [Xo]; simp; omega
 cases k:mZ c g with
 | true =>
  refine zW (aE hl a) ?_;exact ⟨by simp,zK⟩
 | false =>
  refine zW (aD hl a d0) ?_;exact ⟨by simp [e],zK⟩
def IK (C:Code tab) (B:Wf H) {v h:AV} {n n':Nat} {c a:List (List Int × Bool)} {g g':List (Nat × List Int)} (hp:PolyV H v n c g) (o:PolyV H h n' a g') (i:c.length<1099511627776) (j:∀ r∈c,r.1.length<1099511627776/\∀ z∈r.1,dD z) (k:g.length<1099511627776) (l:∀ r∈g,r.2.length<1099511627776/\∀ z∈r.2,dD z) :
  Ans tab (.fn gm [v,h]) H fun x H'=>x=.bool (decide (n=n'/\c=a/\g=g'))/\Kp H H':=by
 obtain ⟨u,y,rfl,hc,hg⟩:=hp;obtain ⟨w,A,rfl,e,f⟩:=o;have p:=hc.one;have s:=hg.one;have q:=e.one;have t:=f.one;refine bA C.q46 zU fun T hl b d=>?_;refine zW (bB hl b d (jS p s) (jS q t)) ?_;refine AnsH.eq (IL C (n:=n) (n':=n') zF ⟨u,y,rfl,hc.mono (zG H),hg.mono (zG H)⟩ ⟨w,A,rfl,e.mono (zG H),f.mono (zG H)⟩ i j k l) fun H2 m=>?_;obtain ⟨k2,_,_⟩:=zT H zK m;refine zW (aD hl b d) ?_;exact zK
def HV {α:Type} {E:fQ α} {ty ty2 bytes id b:Nat} {H:Heap} {w:AV} {cs:List AV} (hb:H.get b=some (.cells cs ty true)) (hy:SlV E ty2 H w []):dr H id E.sz bytes ty (.own b 0 0 0 E.sz true) w=some (.own b 0 0 0 E.sz true,H):=by
 obtain ⟨g,hr,-,hc⟩:=hy;obtain ⟨m',a,e⟩:=hr.length;obtain ⟨-,-,m2,c,d⟩:=hr;rw [a] at c; cases c;have f:m'=0:=XX E.pos (by rw [<- e,hc.1]; rfl);subst f;unfold dr;rw [a];simp only;rw [d];simp only [cU,hb]
 simp
def Bq.weak {α:Type} {E:fQ α} {ty:Nat} {H0 a H:Heap} {v:AV} {l:List α} (h:Bq E ty H0 H v l) (hn:a.next<=H0.next):Bq E ty a H v l:=by
 rcases h with h | ⟨b,ex,cells,h1,h2,h3,h4⟩
 ·exact .inl h
 ·exact .inr ⟨b,ex,cells,h1,h2,h3,Wj hn h4⟩
end
open Go
def TX {tab:Nat->Option aA} {rd:Bool} {c:ACode} {T:Tm} {H:Heap} {K:Ex->Tm->Heap->Prop} (p:Tm->Prop) (hp:p T) (h:∀ T',p T'->WC tab rd c T' H K):WC tab rd c T H K:=h T hp
def dC {tab:Nat->Option aA} {rd:Bool} {c:ACode} {T:Tm} {H:Heap} {K:Ex->Tm->Heap->Prop} (p:Tm->Prop) (hp:p T) (h:∀ T',p T'->WB tab rd c T' H K):WB tab rd c T H K:=h T hp
structure Kx (b:Nat) (H H':Heap):Prop where
 wf0:Wf H
 wf:Wf H'
 le:H.next<=H'.next
 same:∀ c,c<H.next->c≠b->H'.get c=H.get c
section
variable {b:Nat} {H0 H H' H'':Heap}
def Kx.of (h:Kp H H'):Kx b H H':=⟨h.wf0,h.wf,h.le,fun c hc _=>h.same c hc⟩
def Kx.trans (h:Kx b H H') (h':Kx b H' H''):Kx b H H'':=⟨h.wf0,h'.wf,Wj h.le h'.le,fun c hc hb=>(h'.same c (Wo hc h.le) hb).trans (h.same c hc hb)⟩
def Kx.put (h:Kx b H H') (hb:b<H'.next) (e:Ent):Kx b H (H'.put b e):=⟨h.wf0,h.wf.put hb e,h.le,fun c hc hne=>by rw [au hne]; exact h.same c hc hne⟩
def Kx.up (h:Kx b H H') (k:Nat):Kx b H (H'.up k):=⟨h.wf0,h.wf.bump k,Wj h.le (WJ _ _),h.same⟩
def Kx.kp (h:Kx b H H') (a:Kp H0 H) (hb:H0.next<=b):Kp H0 H':=⟨a.wf0,h.wf,Wj a.le h.le,fun c hc=>(h.same c (Wo hc a.le) zO).trans (a.same c hc)⟩
def Kx.get (h:Kx b H H') {c:Nat} {e:Ent} (hc:H.get c=some e) (hb:c≠b):H'.get c=some e:=(h.same c (h.wf0 _ _ hc) hb).trans hc
def Kx.subT (h:Kx b H H') {tys:List Nat} {cs:List AV} {ty:Nat} {r:Bool} (hb:H.get b=some (.cells cs ty r)) (a:ty ∉ tys):SubT tys H H':=fun c ds t d hm hc=>h.get hc fun e=>by
 subst e; rw [hb] at hc; cases hc; exact a hm
end
theorem Up (a b c d:AV) (l:List AV):bf (a :: b :: c :: d :: l) 3 none=some d:=rfl
theorem Vt (a b c d e f:AV) (l:List AV):bf (a :: b :: c :: d :: e :: f :: l) 5 none=some f:=rfl
def Ol (z:Int):(0<gJ z) ↔ 0<z:=by unfold gJ; split <;> (try split) <;> omega
def qe {H:Heap} {z:Bool × List Nat} {w:AV} (hb:gG z=false) (hl:Lim z.2) (h:Lb H w z.2):IntV H (.agg [.bool z.1,w]) (aR z):=by
 have e:=sS hb hl;have a:decide (aR z<0)=z.1:=congrArg Prod.fst e;have b:ah (aR z).natAbs=z.2:=congrArg Prod.snd e;refine ⟨w,by rw [a],?_⟩;show Lb H w (ah (aR z).natAbs);rw [b]; exact h
def uW (n:Bool) (z:Bool × List Nat):Bool:=if n then !z.1 && decide (z.2.length=0) else !gG z
def eM (n:Bool) (z:Bool × List Nat) (n':Bool) (z':Bool × List Nat):Bool:=uW n z && uW n' z' && (n || n' || decide (aR z<=aR z'))
def PP {a b c:AV} (ha:One a) (hb:One b) (hc:One c):fW (.agg [a,b,c])=some [a,b,c]:=Sk ha hb hc
def CM {a b c d e f:AV} (ha:One a) (hb:One b) (hc:One c) (hd:One d) (he:One e) (g:One f):fW (.agg [a,b,c,d,e,f])=some [a,b,c,d,e,f]:=by
 simp [fW,AV.cells,ha.2,hb.2,hc.2,hd.2,he.2,g.2]
def qG (a b c:AV) (l:List AV):bf (a :: b :: c :: l) 0 (some 3)=some (.agg [a,b,c]):=by simp [bf]
theorem xK (a b c d e f:AV):bf [a,b,c,d,e,f] 3 (some 3)=some (.agg [d,e,f]):=rfl
theorem jq (a b c d e f:AV):bf [a,b,c,d,e,f] 0 (some 6)=some (.agg [a,b,c,d,e,f]):=rfl
def Aj (a b c:AV) (l:List AV):bf (a :: b :: c :: l) 1 (some 2)=some (.agg [b,c]):=by simp [bf]
theorem Uo (a b c d e f:AV):bf [a,b,c,d,e,f] 4 (some 2)=some (.agg [e,f]):=rfl
section
variable {tab:Nat->Option aA} {H:Heap}
def KH (C:Code tab) (g:Wf H) {n:Bool} {z:Bool × List Nat} {w:AV} (hz:Lb H w z.2) (c:z.2.length<4611686018427387904) :
  Ans tab (.fn ya [.agg [.bool n,.bool z.1,w]]) H fun v H'=>v=.bool (uW n z)/\Kp H H':=by
 obtain ⟨b,l⟩:=z;have f:=hz.one;have bx:=PP (ai n) (ai b) f;refine cT C.q55 zU fun T hl a=>?_;cases n with
 | true =>
  have q:((l.length:Int)=0) ↔ l.length=0:=zO;cases b with
  | true =>
   refine zW (aO hl a bx @Aj) ?_;exact ⟨by simp [uW],zK⟩
  | false =>
   refine zW (bB hl a bx @Aj hz.lenV) ?_;exact ⟨by simp [uW,q],zK⟩
 | false =>
  refine zW (aO hl a bx @Aj) ?_;refine AnsH.eq (qU C zF (hz.mono (zG H)) c) fun H2 d=>?_;obtain ⟨k2,_,_⟩:=zT H zK d;cases hb:gG (b,l) with
  | true =>
   have e:(if true=true then (8:Int) else 0)=8:=rfl;refine zW (aD hl a e) ?_;exact ⟨by simp [uW,hb],zK⟩
  | false =>
   have e:(if false=true then (8:Int) else 0)=0:=rfl;refine zW (aD hl a e) ?_;exact ⟨by simp [uW,hb],zK⟩
set_option maxHeartbeats 1000000 in
def tj (C:Code tab) (y:Wf H) {n n':Bool} {z z':Bool × List Nat} {w w':AV} (hz:Lb H w z.2) (e:Lb H w' z'.2) (i:Lim z.2) (j:Lim z'.2) (l:z.2.length<=1048576) (m:z'.2.length<=1048576) :
  Ans tab (.fn rH [.agg [.bool n,.bool z.1,w,.bool n',.bool z'.1,w']]) H fun v H'=>v=.int .i64 (if eM n z n' z' then 0 else 8)/\Kp H H':=by
 have u:=hz.one;have x:=e.one;have bx:=CM (ai n) (ai z.1) u (ai n') (ai z'.1) x;refine cT C.q22 zU fun T hl a=>?_;refine zW (aO hl a bx @qG) ?_;refine AnsH.eq (KH C zF (hz.mono (zG H)) zO) fun H2 g=>?_;obtain ⟨k2,_,w2⟩:=zT H zK g;have d2:H2.get H.next=some (.cells [.bool n,.bool z.1,w,.bool n',.bool z'.1,w'] aV true):=g.get (cC)
 cases hm:uW n z with
 | false =>
  refine zW (aO hl a d2 @xK) ?_;exact ⟨by simp [eM,hm],zK⟩
 | true =>
 refine zW (aO hl a d2 @xK) ?_;refine AnsH.eq (KH C zF ((e.mono k2.sub).mono (zG H2)) zO) fun d h=>?_;obtain ⟨f,_,B⟩:=zT H zK h;have d3:d.get H.next=some (.cells [.bool n,.bool z.1,w,.bool n',.bool z'.1,w'] aV true):=h.get d2
 cases b:uW n' z' with
 | false =>
  refine zW (aE hl a) ?_;exact ⟨by simp [eM,hm,b],zK⟩
 | true =>
 cases n with
 | true =>
  refine zW (aO hl a d3 @Up) ?_;exact ⟨by simp [eM,hm,b],zK⟩
 | false =>
 cases n' with
 | true =>
  refine zW (aO hl a d3 @Up) ?_;exact ⟨by simp [eM,hm,b],zK⟩
 | false =>
 have o:gG z=false:=by simpa [uW] using hm
 have p:gG z'=false:=by simpa [uW] using b
 have r:=qe o i hz;have s:=qe p j e;have s1:dD (aR z):=(qX i l).sm zO;have s2:dD (aR z'):=(qX j m).sm zO;refine zW (dj hl a d3 @Up @Aj @Uo) ?_;refine AnsH.eq (xE C zF ((r.mono f.sub).mono (zG d)) ((s.mono f.sub).mono (zG d)) s1 s2) fun k q=>?_;have t:Kp H k:=f.trans (Kp.trans zK q);have A:=t.le;by_cases c:0<gJ (aR z-aR z')
 ·refine zW (aD hl a c) ?_;refine ⟨?_,zK⟩;rw [Ol] at c;rw [if_neg];simp [eM]; omega
 ·refine zW (aD hl a c) ?_;refine ⟨?_,zK⟩;rw [Ol] at c;rw [if_pos];simp [eM,hm,b]; omega
def PlcV (H:Heap) (v:AV) (be x:Int):Prop:=∃ p,v=.agg [.int .i64 be,.bool (decide (x<0)),p]/\bO H p x.natAbs
def ItvV (H:Heap) (v:AV) (n:Bool) (x:Int) (n':Bool) (y:Int):Prop:=∃ p q,v=.agg [.bool n,.bool (decide (x<0)),p,.bool n',.bool (decide (y<0)),q]/\bO H p x.natAbs/\bO H q y.natAbs
def ItvV.mono {H H':Heap} (hs:Sub H H') {v:AV} {n n':Bool} {x y:Int} (h:ItvV H v n x n' y):ItvV H' v n x n' y:=by
 obtain ⟨p,q,rfl,h1,h2⟩:=h;exact ⟨p,q,rfl,h1.mono hs,h2.mono hs⟩
def PlcV.mono {H H':Heap} (hs:Sub H H') {v:AV} {be x:Int} (h:PlcV H v be x):PlcV H' v be x:=by
 obtain ⟨p,rfl,h1⟩:=h;exact ⟨p,rfl,h1.mono hs⟩
def Au (H:Heap):bO H .nilSl 0:=by
 show Lb H .nilSl (ah 0);rw [WR (l:=ah 0) (by have:=bN 0; omega)];exact SlV.nil _ _ _
def Rv (C:Code tab) (e:Wf H) {v:AV} {n n':Bool} {x y:Int} (h:ItvV H v n x n' y) :
  Ans tab (.fn yc [v]) H fun r H'=>PlcV H' r (if n then -1 else 0) (if n then 0 else x)/\Kp H H':=by
 obtain ⟨p,q,rfl,hp,c⟩:=h;have op:=hp.one;have d:=c.one;have bx:=CM (ai n) (ai (decide (x<0))) op (ai n') (ai (decide (y<0))) d;have bb:cE [.int .i64 0,.bool false,.nilSl] [((0,1),.int .i64 (-1))]=some (.agg [.int .i64 (-1),.bool false,.nilSl]):=rfl;have b:cE [.int .i64 0,.bool false,.nilSl] [((1,2),.agg [.bool (decide (x<0)),p])]=some (.agg [.int .i64 0,.bool (decide (x<0)),p]):=by simp [cE,cB,AV.cells,op.2,(ai (decide (x<0))).2]
 refine cT C.q38 zU fun T hl a=>?_;cases n with
 | true =>
  refine zW (bB hl a bx bb @jj) ?_;exact ⟨⟨.nilSl,rfl,Au _⟩,zK⟩
 | false =>
  refine zW (dj hl a bx @Aj b @jj) ?_;refine ⟨⟨p,rfl,hp.mono (zG H)⟩,zK⟩
def Pg (C:Code tab) (e:Wf H) {v:AV} {n n':Bool} {x y:Int} (h:ItvV H v n x n' y) :
  Ans tab (.fn uR [v]) H fun r H'=>PlcV H' r (if n' then 1 else 0) (if n' then 0 else y)/\Kp H H':=by
 obtain ⟨p,q,rfl,hp,b⟩:=h;have op:=hp.one;have c:=b.one;have bx:=CM (ai n) (ai (decide (x<0))) op (ai n') (ai (decide (y<0))) c;have bb:cE [.int .i64 0,.bool false,.nilSl] [((0,1),.int .i64 1)]=some (.agg [.int .i64 1,.bool false,.nilSl]):=rfl;have d:cE [.int .i64 0,.bool false,.nilSl] [((1,2),.agg [.bool (decide (y<0)),q])]=some (.agg [.int .i64 0,.bool (decide (y<0)),q]):=by simp [cE,cB,AV.cells,c.2,(ai (decide (y<0))).2]
 refine cT C.q40 zU fun T hl a=>?_;cases n' with
 | true =>
  refine zW (dj hl a bx @Up bb @jj) ?_;exact ⟨⟨.nilSl,rfl,Au _⟩,zK⟩
 | false =>
  refine zW (fo hl a bx @Up @Uo d @jj) ?_;refine ⟨⟨q,rfl,b.mono (zG H)⟩,zK⟩
def yZ (C:Code tab) (s:Wf H) {v j:AV} {be a x b:Int} (h:PlcV H v be x) (h':PlcV H j a b) (hx:dD x) (m:dD b) (hb : -1<=be/\be<=1) (o : -1<=a/\a<=1) :
  Ans tab (.fn oC [v,j]) H fun r H'=>r=.int .i64 (if be=a then gJ (x-b) else be-a)/\Kp H H':=by
 obtain ⟨p,rfl,hp⟩:=h;obtain ⟨q,rfl,i⟩:=h';have op:=hp.one;have n:=i.one;have f:=PP (bo .i64 be) (ai (decide (x<0))) op;have g:=PP (bo .i64 a) (ai (decide (b<0))) n;refine bA C.q39 zU fun T hl c d=>?_;by_cases e:be=a
 ·rw [if_pos e];subst e;refine zW (dj hl c d f g @Aj) ?_;refine AnsH.eq (xE C (x:=x) (y:=b) zF ⟨p,rfl,hp.mono (zG H)⟩ ⟨q,rfl,i.mono (zG H)⟩ hx m) fun H2 l=>?_;obtain ⟨k2,_,_⟩:=zT H zK l;refine zW (aD hl c d) ?_;exact zK
 ·rw [if_neg e];have k:IntKind.i64.wrap (be-a)=be-a:=by rw [wrap_i64] <;> omega
  refine zW (fo hl c d f g e k) ?_;exact zK
def rR (n:Bool) (x:Int) (n':Bool) (y z:Int):Bool:=(n || decide (x<=z)) && (n' || decide (z<=y))
set_option maxHeartbeats 1000000 in
def Rx (C:Code tab) (hw:Wf H) {v w:AV} {n n':Bool} {x y z:Int} (h:ItvV H v n x n' y) (hz:IntV H w z) (hx:Bt 8388608 x) (hy:Bt 8388608 y) (ag:Bt 8388608 z) (hm:eM n (bF x) n' (bF y)=true) :
  Ans tab (.fn o0 [v,w]) H fun r H'=>r=.tup [.bool (rR n x n' y z),.int .i64 0]/\Kp H H':=by
 have hh:=h;obtain ⟨p,q,rfl,hp,P⟩:=h;obtain ⟨s,rfl,hs⟩:=hz;have op:=hp.one;have oq:=P.one;have os:=hs.one;have bx:=CM (ai n) (ai (decide (x<0))) op (ai n') (ai (decide (y<0))) oq;have X:cE [.int .i64 0,.bool false,.nilSl] [((1,2),.agg [.bool (decide (z<0)),s])]=some (.agg [.int .i64 0,.bool (decide (z<0)),s]):=by simp [cE,cB,AV.cells,os.2,(ai (decide (z<0))).2]
 have sx:dD x:=hx.sm zO;have sy:dD y:=hy.sm zO;have sz:dD z:=ag.sm zO;have lx:(ah x.natAbs).length<=1048576:=iN (m:=8388608) hx zO;have ly:(ah y.natAbs).length<=1048576:=iN (m:=8388608) hy zO;refine bA C.q9 zU fun T hl d f=>?_;refine zW (bB hl d f bx @jq) ?_;refine AnsH.eq (tj C (n:=n) (n':=n') (z:=bF x) (z':=bF y) zF (hp.mono (zG H)) (P.mono (zG H)) (aY _) (aY _) lx ly) fun H2 E=>?_;rw [hm];obtain ⟨k2,_,w2⟩:=zT H zK E;have d2:H2.get H.next=some (.cells [.bool n,.bool (decide (x<0)),p,.bool n',.bool (decide (y<0)),q] aV true):=E.get (cC)
 have l:H2.get (H.next+1)=some (.cells [.bool (decide (z<0)),s] aa true):=E.get (cC);refine zW (aO hl d f @l) ?_;refine AnsH.eq (dM C (z:=z) zF ⟨s,rfl,(hs.mono k2.sub).mono (zG H2)⟩ sz) fun g F=>?_;have U:Kp H g:=k2.trans (Kp.trans zK F);have ao:=U.le;have w3:=U.wf;have d3:=F.get d2;have Y:=F.get l;refine zW (dj hl d f Y X @jj) ?_;obtain ⟨G,t⟩:∃ G,G=((g.up 4).put (g.next+2) (.cells [.int .i64 0,.bool false,.nilSl] re true)).put (g.next+2) (.cells [.int .i64 0,.bool (decide (z<0)),s] re true):=⟨_,rfl⟩
 rw [<- t];have f3:g.get (g.next+2)=none:=w3.fresh zO;have sG:Sub g G:=by rw [t]; exact ((Sub.bump g 4).put f3 _).put f3 _
 have j:Kp H G:=by rw [t]; exact zK
 have b:G.get (g.next+2)=some (.cells [.int .i64 0,.bool (decide (z<0)),s] re true):=by rw [t,al]
 have a:=sG.get _ _ d3;have wG:=j.wf;clear t;refine aF ?_;refine zD (fo hl d f a b @jq @qG) ?_;refine AnsH.use (Rv C zF ((hh.mono j.sub).mono (zG G))) ?_;rintro v4 V ⟨Q,Z⟩;obtain ⟨D,_,w4⟩:=zT G zK Z;have d4:=D.get a;have e4:=D.get b;have au:∃ p4,v4=.agg [.int .i64 (if n then -1 else 0),.bool (decide ((if n then 0 else x)<0)),p4]:=by obtain ⟨p4,e,-⟩:=Q; exact ⟨p4,e⟩
 refine zD (jU hl d f a b d4 e4 @jq @qG) ?_;refine AnsH.use (yZ C zF (Q.mono (zG V)) ⟨s,rfl,hs.mono (j.trans D).sub⟩ (show dD (if n then 0 else x) by cases n <;> simp [sx]; exact (Bt.zero 1).sm zO) sz (by cases n <;> simp) zO) ?_;rintro v5 J ⟨R,ab⟩;obtain ⟨L,N⟩:∃ c:Int,c=(if (if n=true then (-1:Int) else 0)=0 then gJ ((if n=true then 0 else x)-z) else (if n=true then (-1:Int) else 0)-0):=⟨_,rfl⟩
 rw [<- N] at R;subst R;have i:Kp G J:=D.trans (Kp.trans zK ab);have ap:=i.le;have w5:=i.wf;have d5:=i.get a;have o:=i.get b;have q1:(L<=0) ↔ ((n || decide (x<=z))=true):=by
  rw [N];cases n with
  | true=>simp
  | false =>
   have:(gJ (x-z)<=0) ↔ (x<=z):=by rw [IC]; omega
   simp [this]
 cases A:(n || decide (x<=z)) with
 | true =>
  have q:=q1.2 A;refine zX (qQ hl d f a b d4 e4 d5 o @jq @qG q) ?_;refine AnsH.use (Pg C zF ((hh.mono (j.trans i).sub).mono (zG J))) ?_;rintro v6 K ⟨af,ad⟩;have k:Kp G K:=i.trans (Kp.trans zK ad);have aq:=k.le;have w6:=k.wf;have d6:=k.get a;have e6:=k.get b;refine zX (Ln hl d f a b d4 e4 d5 o d6 e6 @jq @qG q) ?_;refine AnsH.use (yZ C zF ⟨s,rfl,hs.mono (j.trans k).sub⟩ (af.mono (zG K)) sz (show dD (if n' then 0 else y) by cases n' <;> simp [sy]; exact (Bt.zero 1).sm zO) zO (by cases n' <;> simp)) ?_;rintro v7 W ⟨S,ae⟩;obtain ⟨l,O⟩:∃ c:Int,c=(if (0:Int)=(if n'=true then (1:Int) else 0) then gJ (z-(if n'=true then 0 else y)) else 0-(if n'=true then (1:Int) else 0)):=⟨_,rfl⟩
  rw [<- O] at S;subst S;have u:Kp G W:=k.trans (Kp.trans zK ae);have ar:=u.le;have w7:=u.wf;have d7:=u.get a;have M:=u.get b;have q2:(l<=0) ↔ ((n' || decide (z<=y))=true):=by
   rw [O];cases n' with
   | true=>simp
   | false =>
    have:(gJ (z-y)<=0) ↔ (z<=y):=by rw [IC]; omega
    simp [this]
  have fin:∀ c:Bool,c=(n' || decide (z<=y))->c=rR n x n' y z:=fun c hc=>by rw [hc]; unfold rR; rw [A]; rfl
  have am:=j.trans u;cases B:(n' || decide (z<=y)) with
  | true =>
   have I:=q2.2 B;refine zX (Lm hl d f a b d4 e4 d5 o d6 e6 d7 M @jq @qG q I) ?_;exact ⟨by rw [fin true B.symm],zK⟩
  | false =>
   have I:¬ l<=0:=fun h=>by rw [q2.1 h] at B; cases B
   refine zX (Lm hl d f a b d4 e4 d5 o d6 e6 d7 M @jq @qG q I) ?_;exact ⟨by rw [fin false B.symm],zK⟩
 | false =>
  have q:¬ L<=0:=fun h=>by rw [q1.1 h] at A; cases A
  have aj:=j.trans i;refine zX (qQ hl d f a b d4 e4 d5 o @jq @qG q) ?_;exact ⟨by unfold rR; rw [A]; rfl,zK⟩
end
end Go.Proofs.YteaefaohjlmjdaaGreat.Ev
namespace Go.Proofs.YteaefaohjlmjdaaGreat.Lin
def mvR (x:Nat) (a:V) (z:Int) (r:V):V:=r.set (x+1) (dot a r+hd1 r*z)
def mvG (x:Nat) (a:V) (z:Int) (g:Nat × V):Nat × V:=(g.1,mvR x a z g.2)
def bkC (x:Nat) (a:V) (c:V × Bool):V × Bool:=(mix 1 (c.1.set (x+1) 0) (c.1.getD (x+1) 0) a,c.2)
def mc:∀ (c r:V) (i:Nat) (z:Int),c.length=r.length->i<c.length->dot c (r.set i z)=dot (c.set i 0) r+c.getD i 0*z
 | [],_,i,z,_,h=>by simp at h
 | c :: cs,[],i,z,h,_=>by simp at h
 | c :: cs,r :: a,0,z,h,_=>by simp [dot]; omega
 | c :: cs,r :: a,i+1,z,h,hi=>by
  have:=mc cs a i z (by simpa using h) (by simpa using hi)
  simp only [List.set_cons_succ,dot,XD,this];omega
theorem Pl (r:V) (x:Nat) (z:Int):hd1 (r.set (x+1) z)=hd1 r:=by cases r <;> rfl
def mvR_len (x:Nat) (a:V) (z:Int) (r:V):(mvR x a z r).length=r.length:=by simp [mvR]
def mvR_hd (x:Nat) (a:V) (z:Int) (r:V):hd1 (mvR x a z r)=hd1 r:=Pl _ _ _
section
variable {n x:Nat} {a:V}
def PT {c r:V} {b:Bool} (hc:c.length=n+1) (hr:r.length=n+1) (ha:a.length=n+1) (hx:x<n):dot (bkC x a (c,b)).1 r=dot c (mvR x a 0 r):=by
 unfold bkC mvR;rw [mc c r _ _ zO zO];simp only;rw [dot_comm,aU _ _ _ (by rw [VX,hc,ha]),dot_comm r,dot_comm r a,Int.one_mul,Z2,Int.add_zero]
def GQ {c:V × Bool} {g:Nat × V} (hc:c.1.length=n+1) (hr:g.2.length=n+1) (ha:a.length=n+1) (hx:x<n):keepsP (bkC x a c) g=keepsP c (mvG x a 0 g):=by
 obtain ⟨c,b⟩:=c
 have:=PT (b:=b) hc hr ha hx
 unfold keepsP;rw [this]; rfl
def bk_len {c:V × Bool} (hc:c.1.length=n+1) (ha:a.length=n+1):(bkC x a c).1.length=n+1:=mix_length (by rw [VX,hc]) ha
def RO {K:List (V × Bool)} (b:∀ c∈K,c.1.length=n+1) (ha:a.length=n+1):∀ c∈K.map (bkC x a),c.1.length=n+1:=fun c hc=>by
 obtain ⟨d,hd,rfl⟩:=V5.1 hc;exact bk_len (b d hd) ha
def xM {g:List (Nat × V)} (hg:ValidG n g) (h3:g.any (fun y=>y.1 == 3)=true) {y:Nat × V} (hy:y∈g) {c:V × Bool} (hc:c∈consP n g):keepsP c y=true :=
 qc (xH hc) (oQ hg h3 hy).1 (oQ hg h3 hy).2
end
end Go.Proofs.YteaefaohjlmjdaaGreat.Lin
namespace Go.Proofs.YteaefaohjlmjdaaGreat.Ev
open Go Nn
def de (n:Nat) (x:Int):Int:=if x<0\/(n:Int)<=x then 2 else 0
def gC (n:Nat) (l:List (Bool × List Nat)):Int:=if tW l then (if l.length≠n+1 then 70 else 0) else 8
section
variable {tab:Nat->Option aA} {H:Heap} {s:AV}
def Ek (C:Code tab) (i:Wf H) {l:List Int} (hs:RowV H s l) (h0:0<l.length) (k:l.length<1099511627776):Ans tab (.fn cZ [s]) H fun v H'=>Kp H H'/\∃ b,Own intE aa H H' b false v l:=by
 refine cT C.q30 zU fun T hl a=>?_;rcases hs.nilcase with ⟨rfl,rfl⟩ | hne
 ·simp at h0
 ·have e:cB ([]:List AV) []=some []:=rfl;refine zW (aO hl a hne e) ?_;have k1:Kp H ((H.up 7).put (H.next+3) (.cells [] aa true)):=zK;have o:=k1.le;have f:Own intE aa H ((H.up 7).put (H.next+3) (.cells [] aa true)) (H.next+3) true (.own (H.next+3) 0 0 0 2 true) ([]:List Int):=⟨_,rfl,al _ _ _,Cells.nil _ _,zO⟩
  obtain ⟨j,H2,c,h2,g,m,n,h⟩:=SlV.app (l:=[]) (id:=H.next+5) (bytes:=32) f.sl k1 (hs.mono k1.sub) zO (by show _<H.next+7; omega) (by rw [au zO]; exact i.fresh (b:=H.next+5) zO) (by simp; omega) (by simp; omega);have d:dr ((H.up 7).put (H.next+3) (.cells [] aa true)) (H.next+5) 2 32 aa (.own (H.next+3) 0 0 0 2 true) s=some (j,H2):=c;refine zW (aD hl a d) ?_;exact ⟨g,_,h h0⟩
def gf (C:Code tab) (l:Wf H) {v:AV} {n e f:Nat} {K:List (List Int × Bool)} {G:List (Nat × List Int)} {x:Int} (hp:PolyV H v n K G) (i:PolyOK n e f K G) :
  Ans tab (.fn lB [v,.int .i64 x]) H fun r H'=>r=.int .i64 (de n x)/\Kp H H':=by
 obtain ⟨g,h,rfl,c,hg⟩:=hp;have j:=c.one;have k:=hg.one;refine bA C.q20 zU fun T hl b a=>?_;refine zW (aO hl b a (jS j k)) ?_;refine AnsH.eq (uJ C zF ⟨g,h,rfl,c.mono (zG H),hg.mono (zG H)⟩ i) fun H2 d=>?_;obtain ⟨k2,_,_⟩:=zT H zK d;have d0:H2.get H.next=some (.cells [.int .i64 (n:Int),g,h] am true):=d.get (cC)
 unfold de;by_cases h1:x<0
 ·rw [if_pos (.inl h1)];refine zW (dj hl b a a d0 h1) ?_;exact zK
 ·by_cases h2:(n:Int)<=x
  ·rw [if_pos (.inr h2)];refine zW (fo hl b a a d0 h1 h2) ?_;exact zK
  ·rw [if_neg zO];refine zW (fo hl b a a d0 h1 h2) ?_;exact zK
def nH (C:Code tab) (p:Wf H) {v w:AV} {n:Nat} {K:List (List Int × Bool)} {G:List (Nat × List Int)} {l:List (Bool × List Nat)} (hp:PolyV H v n K G) (hn:n<=60) (hs:SlV rawE aa H w l) (h:nr l) :
  Ans tab (.fn oD [v,w]) H fun r H'=>r=.int .i64 (gC n l)/\Kp H H':=by
 obtain ⟨k,m,rfl,g,hg⟩:=hp;have i:=g.one;have j:=hg.one;refine bA C.q23 zU fun T hl b a=>?_;refine zW (aO hl b a (jS i j)) ?_;refine AnsH.eq (mj C zF (hs.mono (zG H)) h) fun H2 d=>?_;obtain ⟨k2,_,_⟩:=zT H zK d;have d0:H2.get H.next=some (.cells [.int .i64 (n:Int),k,m] am true):=d.get (cC)
 have c:IntKind.i64.wrap ((n:Int)+1)=((n+1:Nat):Int):=by rw [wrap_i64] <;> omega
 unfold gC;cases o:tW l with
 | false =>
  have e:(if false=true then (0:Int) else 8)=8:=rfl;simp only [W3,if_false];refine zW (aD hl b a) ?_;exact zK
 | true =>
  simp only [if_true];by_cases f:l.length≠n+1
  ·have q:¬ ((l.length:Int)=((n+1:Nat):Int)):=zO;rw [if_pos f];refine zW (fX hl b a a d0 hs.lenV c q) ?_;exact zK
  ·have q:((l.length:Int)=((n+1:Nat):Int)):=zO;rw [if_neg f];refine zW (fX hl b a a d0 hs.lenV c q) ?_;exact zK
def unitX (n x:Nat) (k:Int):List Int:=(List.replicate (n+1) 0).set (x+1) k
def qf (C:Code tab) (L:Wf H) {n x:Nat} {p k:Int} (hn:n<=60) (hx:x<n) (D : -9223372036854775808<=k) (d:k<9223372036854775808) :
  Ans tab (.fn il [.int .i64 (n:Int),.int .i64 (x:Int),.int .u8 p,.int .i64 k]) H fun v H'=>(∃ w,v=.agg [.int .u8 p,w]/\RowV H' w (unitX n x k))/\Kp H H':=by
 obtain ⟨cells,m⟩:∃ cells,cells=(List.replicate (n+1) [AV.bool false,AV.nilSl]).flatten:=⟨_,rfl⟩
 have G:∀ H':Heap,Ja H' (H.next+3) aa 2 32 [.bool false,.nilSl] (.int .i64 ((n+1:Nat):Int)) (.int .i64 ((n+1:Nat):Int))=some (.own (H.next+3) 0 (n+1) (n+1) 2 true,H'.put (H.next+3) (.cells cells aa true)):=fun H'=>by rw [m]; exact iS _ _ _ _ _ _ _ _ _ zO zO rfl
 have y:IntKind.i64.wrap ((n:Int)+1)=((n+1:Nat):Int):=by rw [wrap_i64] <;> omega
 have ex:IntKind.i64.wrap ((x:Int)+1)=((x+1:Nat):Int):=by rw [wrap_i64] <;> omega
 refine Jw C.q27 zU fun T hl o q h r=>?_;refine zW (fX hl o q h r y ex G) ?_;refine AnsH.use (jk C (n:=k) zF D d) ?_;rintro v H2 ⟨⟨w,rfl,t⟩,d⟩;obtain ⟨k2,_,w2⟩:=zT H zK d;have J:=t.one;have l:=d.get (b:=H.next+3) (e:=.cells cells aa true) (cC);have d2:H2.get H.next=some (.cells [.int .u8 0,.nilSl] ag true):=d.get (cC)
 have M:=w2 _ _ l;have K:cells.length=(n+1)*2:=by rw [m]; simp
 have u:CS (some (.cells cells aa true)) 2 ((x+1)*2) (.agg [.bool (decide (k<0)),w])=some (.cells (cells.take ((x+1)*2)++[.bool (decide (k<0)),w]++cells.drop ((x+1)*2+2)) aa true):=fR (zg (ai _) J) zO;have B:cS 2 (.own (H.next+3) 0 (n+1) (n+1) 2 true) (.int .i64 ((x+1:Nat):Int))=some (.ptr (H.next+3) ((x+1)*2)):=by
  have:=jB (b:=H.next+3) (off:=0) (n:=n+1) (c:=n+1) (sz:=2) (x:=true) (k:=.i64) (j:=x+1) zO
  simpa using this
 obtain ⟨f,s⟩:∃ c,c=cells.take ((x+1)*2)++[.bool (decide (k<0)),w]++cells.drop ((x+1)*2+2):=⟨_,rfl⟩
 rw [<- s] at u;have hz:intE.R H2 [.bool false,.nilSl] 0:=⟨.nilSl,by simp,eO H2⟩
 have hcl:Cells intE H2 cells (List.replicate (n+1) 0):=by rw [m]; exact mm hz _
 have z:Cells intE H2 f (unitX n x k):=by rw [s]; exact hcl.set (i:=x+1) (by simp; omega) ⟨w,rfl,t⟩
 refine zW (oK hl o q h r B l u d2 h) ?_;have m3:NoTy [ae] H2 (H.next+3):=NoTy.ty l zU;have N:NoTy [ae] H2 H.next:=NoTy.ty d2 zU
 obtain ⟨a,g⟩:∃ a,a=((H2.up 4).put (H.next+3) (.cells f aa true)).put H.next (.cells [.int .u8 p,.own (H.next+3) 0 (n+1) (n+1) 2 true] ag true):=⟨_,rfl⟩
 have A:Cells intE a f (unitX n x k):=by rw [g]; exact Cells.mono (E:=intE) zS z
 have I:Kp H a:=by rw [g]; exact zK
 have F:(unitX n x k).length=n+1:=by unfold unitX; simp
 have:Own intE aa H a (H.next+3) true (.own (H.next+3) 0 (n+1) (n+1) 2 true) (unitX n x k):=⟨f,by rw [F]; rfl,by rw [g,au zO]; exact al _ _ _,A,zO⟩
 rw [<- g];exact ⟨⟨_,rfl,this.sl⟩,I⟩
end
section
variable {tab:Nat->Option aA} {H:Heap}
set_option maxHeartbeats 2000000 in
def ze (C:Code tab) (hw:Wf H) {va w vb:AV} {k n x e f m:Nat} {a r:List Int} {z:Int} (ha:RowV H va a) (hr:RowV H w r) (hz:IntV H vb z) (bc:a.length=n+1) (bh:r.length=n+1) (hx:x<n) (hn:n<=60) (ay:∀ z∈a,Bt e z) (ap:∀ z∈r,Bt f z) (aP:Bt m z) (bf:e+f+7<=100000000) (bd:f+m<=100000000) :
  Ans tab (.fn iL [.agg [.int .u8 (k:Int),w],.int .i64 (x:Int),va,vb]) H fun v H'=>(∃ w',v=.agg [.int .u8 (k:Int),w']/\RowV H' w' (Lin.mvR x a z r))/\Kp H H':=by
 obtain ⟨pz,rfl,aL⟩:=hz;have oz:=aL.one;have oa:=ha.one;have ow:=hr.one;refine Am C.q25 rfl rfl zU fun T hl g=>?_;have hl:T.length=47:=hl;have a7:c_image_moved.results=[(8,some (some 2))]:=rfl;have g0:ad T 0=.agg [.int .u8 (k:Int),w]:=g 0 (by simp);have o:ad T 1=.int .i64 (x:Int):=g 1 (by simp);have K:ad T 2=va:=g 2 (by simp);have g3:ad T 3=.agg [.bool (decide (z<0)),pz]:=g 3 (by simp);clear g;refine aI ?_;refine zW (dj hl g0 g3 (sB ow) (HN (ai (decide (z<0))) oz) @aw) ?_;obtain ⟨d,B⟩:∃ X,X=(((H.up 3).put H.next (.cells [.int .u8 (k:Int),w] ag true)).put (H.next+1) (.cells [.bool (decide (z<0)),pz] aa true)).put (H.next+2) (.cells [.int .u8 0,.nilSl] ag true):=⟨_,rfl⟩
 have k1:Kp H d:=by rw [B]; exact zK
 have bk:=k1.le;have w1:=k1.wf;have b0:d.get H.next=some (.cells [.int .u8 (k:Int),w] ag true):=by rw [B,au zO,au zO,al]
 have b1:d.get (H.next+1)=some (.cells [.bool (decide (z<0)),pz] aa true):=by rw [B,au zO,al]
 have b2:d.get (H.next+2)=some (.cells [.int .u8 0,.nilSl] ag true):=by rw [B,al]
 have n1:d.next=H.next+3:=by rw [B]; rfl
 rw [<- B];clear B;refine dC (fun T'=>T'.length=47/\ad T' 1=.int .i64 (x:Int)/\ad T' 2=va/\ad T' 4=.ptr H.next 0/\ad T' 7=.ptr (H.next+1) 0/\ad T' 8=.ptr (H.next+2) 0) (zV (aD hl o K)) ?_;clear hl g0 o K g3;rintro T ⟨hl,o,K,l,G,p⟩;have aK:a.length=r.length:=zO;have aJ:=nf ay ap aK zO;refine aI ?_;refine zW (aO hl K l @b0) ?_;refine AnsH.use (mB C zF ((ha.mono k1.sub).mono (zG d)) ((hr.mono k1.sub).mono (zG d)) aK zO ay ap zO) ?_;rintro _ H2 ⟨_,rfl,⟨pn,rfl,af⟩,Y⟩;obtain ⟨k2,_,w2⟩:=zT d zK Y;have on:=af.one;have n2:d.next+10<=H2.next:=Y.le
 have f2:H2.get (d.next+7)=none:=Y.free (show d.next+7<d.next+10 by omega) (w1.fresh (b:=d.next+7) zO);obtain ⟨D,hD⟩:∃ D,D=Lin.dot a r:=⟨_,rfl⟩
 rw [<- hD] at af aJ ⊢;obtain ⟨h,L⟩:∃ X,X=(H2.put (d.next+7) (.cells [.bool false,.nilSl] aa true)).put (d.next+7) (.cells [.bool (decide (D<0)),pn] aa true):=⟨_,rfl⟩
 have a9:Sub H2 h:=by rw [L]; exact (aG f2).put f2 _
 have t:Kp d h:=by rw [L]; exact zK
 have e2:h.get (d.next+7)=some (.cells [.bool (decide (D<0)),pn] aa true):=by rw [L,al]
 have a2:=af.mono a9;have R:=t.get b0;have c1:=t.get b1;have c2:=t.get b2;have ao:=hr.mono (k1.trans t).sub;have a5:=aL.mono (k1.trans t).sub;have bb:=t.wf;refine zW (aE hl @aw) ?_;rw [<- L];refine dC (fun T'=>T'.length=47/\ad T' 1=.int .i64 (x:Int)/\ad T' 4=.ptr H.next 0/\ad T' 7=.ptr (H.next+1) 0/\ad T' 8=.ptr (H.next+2) 0/\ad T' 9=.ptr (d.next+7) 0) (zV (bB hl o l G p)) ?_;clear hl o K l G p L f2 Y af;rintro T ⟨hl,o,l,G,p,A⟩;have O:0<r.length:=zO;have ax:r[0]=Lin.hd1 r:=by
  cases r with
  | nil=>simp at O
  | cons _ _=>rfl
 have aQ:cS 2 w (.int .i64 0)=some (aB w (0*2)):=SlV.idx ao .i64 0 O;obtain ⟨w0,aN,ah,-⟩:=iZ ao O;rw [ax] at aN ah;have aq:Bt f (Lin.hd1 r):=by rw [<- ax]; exact ap _ (V4 O)
 refine aI ?_;refine aF ?_;refine zD (fo hl l G R @c1 aQ ah) ?_;refine AnsH.use (xD C (x:=Lin.hd1 r) (y:=z) zF ⟨w0,rfl,aN.mono (zG h)⟩ ⟨pz,rfl,a5.mono (zG h)⟩ (aq.len zO) (aP.len zO)) ?_;rintro _ Q ⟨_,rfl,⟨pm,rfl,ab⟩,Z⟩;obtain ⟨M,hM⟩:∃ q,q=Lin.hd1 r*z:=⟨_,rfl⟩
 have aS:Bt (f+m) M:=by rw [hM]; exact aq.mul aP
 rw [<- hM] at ab ⊢;obtain ⟨k3,_,w3⟩:=zT h zK Z;have om:=ab.one;have n3:h.next+12<=Q.next:=Z.le
 have f3:Q.get (h.next+9)=none:=Z.free (show h.next+9<h.next+12 by omega) (bb.fresh (b:=h.next+9) zO);obtain ⟨s,N⟩:∃ X,X=(Q.put (h.next+9) (.cells [.bool false,.nilSl] aa true)).put (h.next+9) (.cells [.bool (decide (M<0)),pm] aa true):=⟨_,rfl⟩
 have ba:Sub Q s:=by rw [N]; exact (aG f3).put f3 _
 have u:Kp h s:=by rw [N]; exact zK
 have m3:s.get (h.next+9)=some (.cells [.bool (decide (M<0)),pm] aa true):=by rw [N,al]
 have a0:=ab.mono ba;have bn:=u.wf;have d0:=u.get R;have d2:=u.get c2;have e3:=u.get e2;have a3:=a2.mono u.sub;have a6:=ao.mono u.sub;have ar:=k3.get R;have av:=k3.get c1;have aR:=bD k3.sub ah;refine zD (ia hl l G R @c1 ar av aQ ah aR @aw) ?_;rw [<- N];refine dC (fun T'=>T'.length=47/\ad T' 1=.int .i64 (x:Int)/\ad T' 4=.ptr H.next 0/\ad T' 8=.ptr (H.next+2) 0/\ad T' 9=.ptr (d.next+7) 0/\ad T' 11=.ptr (h.next+9) 0) (zE (bB hl o l p A)) ?_;clear hl o l G p A N f3 Z ab ar av aR;rintro T ⟨hl,o,l,p,A,V⟩;refine aI ?_;refine zW (aD hl l d0) ?_;refine AnsH.use (Ek C zF (a6.mono (zG s)) O zO) ?_;rintro v4 H4 ⟨aY,b4,cells,rfl,aT,aH,aW⟩;obtain ⟨F,_,w4⟩:=zT s zK aY;have i0:=F.get d0;have i2:=F.get d2;have i9:=F.get e3;have a8:=F.get m3;have a4:=a3.mono F.sub;have a1:=a0.mono F.sub;have hge:s.next<=b4:=by have:s.next+4<=b4:=aW; omega
 refine zW (aE hl @aw) ?_;refine dC (fun T'=>T'.length=47/\ad T' 1=.int .i64 (x:Int)/\ad T' 4=.ptr H.next 0/\ad T' 8=.ptr (H.next+2) 0/\ad T' 9=.ptr (d.next+7) 0/\ad T' 11=.ptr (h.next+9) 0/\ad T' 13=.own b4 0 r.length r.length 2 false) (by refine zW (dj hl o l p A V) ?_; rfl) ?_;clear hl o l p A V;rintro T ⟨hl,o,l,p,A,V,g13⟩;have ex:IntKind.i64.wrap ((x:Int)+1)=((x+1:Nat):Int):=by rw [wrap_i64] <;> omega
 have aX:cS 2 (.own b4 0 r.length r.length 2 false) (.int .i64 ((x+1:Nat):Int))=some (.ptr b4 ((x+1)*2)):=by
  have:=jB (b:=b4) (off:=0) (n:=r.length) (c:=r.length) (sz:=2) (x:=false) (k:=.i64) (j:=x+1) zO
  simpa using this
 have bg:cells.length=r.length*2:=aH.1;refine aI ?_;refine zW (fX hl o A V @g13 ex i9 a8) ?_;refine AnsH.use (xF C (x:=D) (y:=M) zF ⟨pn,rfl,a4.mono (zG H4)⟩ ⟨pm,rfl,a1.mono (zG H4)⟩ (aJ.sm zO) (aS.sm zO)) ?_;rintro _ I ⟨_,rfl,⟨ps,rfl,am⟩,aZ⟩;obtain ⟨S,hS⟩:∃ q,q=D+M:=⟨_,rfl⟩
 rw [<- hS] at am ⊢;obtain ⟨P,_,w5⟩:=zT H4 zK aZ;have os:=am.one;have aj:=P.get aT;have j0:=P.get i0;have j2:=P.get i2;have bm:=w5 _ _ aj;have aM:CS (some (.cells cells aa true)) 2 ((x+1)*2) (.agg [.bool (decide (S<0)),ps])=some (.cells (cells.take ((x+1)*2)++[.bool (decide (S<0)),ps]++cells.drop ((x+1)*2+2)) aa true):=fR (zg (ai _) os) zO;obtain ⟨U,aC⟩:∃ c,c=cells.take ((x+1)*2)++[.bool (decide (S<0)),ps]++cells.drop ((x+1)*2+2):=⟨_,rfl⟩
 rw [<- aC] at aM;have aU:Cells intE I U (r.set (x+1) S):=by rw [aC]; exact (Cells.mono (E:=intE) (P.sub.t _) aH).set (i:=x+1) zO ⟨ps,rfl,am⟩
 have bi:Kp H I:=k1.trans (t.trans (u.trans (F.trans P)));have bj:H.next+3<=s.next:=by have:=t.le; have:=u.le; omega
 refine zW (dj hl @g13 aX aj aM @aw) ?_;refine aI ?_;refine zW (fo hl l p @g13 j0 j2 @aw) ?_;refine WC.wb ?_;refine zW (aD hl p a7) ?_;have m4:NoTy [ae] I b4:=NoTy.ty aj zU;have m2:NoTy [ae] I (H.next+2):=NoTy.ty j2 zU;obtain ⟨J,W⟩:∃ J,J=((I.up 5).put b4 (.cells U aa true)).put (H.next+2) (.cells [.int .u8 (k:Int),.own b4 0 r.length r.length 2 false] ag true):=⟨_,rfl⟩
 have er:Lin.mvR x a z r=r.set (x+1) S:=by unfold Lin.mvR; rw [hS,hM,<- hD]
 have aV:Cells intE J U (r.set (x+1) S):=by rw [W]; exact Cells.mono (E:=intE) zS aU
 have bl:=w5 _ _ j2;have kx:Kp H J:=by rw [W]; exact zK
 have:Own intE aa H J b4 false (.own b4 0 r.length r.length 2 false) (r.set (x+1) S):=⟨U,by rw [VX]; rfl,by rw [W,au zO]; exact al _ _ _,aV,zO⟩
 rw [<- W,er];exact ⟨⟨_,rfl,this.sl⟩,kx⟩
end
def endsL (n:Bool) (lo:Int) (n':Bool) (hi:Int):List Int:=if n && n' then [0] else if n then [hi] else if n' || decide (lo=hi) then [lo] else [lo,hi]
section
variable {tab:Nat->Option aA} {H:Heap}
def Jl (C:Code tab) (i:Wf H) {a b c d e f:AV} (ha:One a) (hb:One b) (hc:One c) (hd:One d) (he:One e) (h:One f) :
  Ans tab (.fn pW [.agg [a,b,c,d,e,f]]) H fun v H'=>v=.fn (.func fS) [] [.ptr H.next 0]/\H'.get H.next=some (.cells [a,b,c,d,e,f] aV true)/\H.next+1<=H'.next/\Kp H H':=by
 refine cT C.q26 zU fun T hl g=>?_;refine zW (aD hl g (CM ha hb hc hd he h)) ?_;exact ⟨zO,zK⟩
set_option maxHeartbeats 1000000 in
def Pu (C:Code tab) {H0:Heap} {F B:Nat} {n n':Bool} {lo hi:Int} {pl ph:AV} (J:Nat->Heap->Prop) (d:Kp H0 H) (h0:J 0 H) (u:∀ k H H',Kp H H'->J k H->J k H')
  (hA:H.get B=some (.cells [.bool n,.bool (decide (lo<0)),pl,.bool n',.bool (decide (hi<0)),ph] aV true)) (j:bO H pl lo.natAbs) (g:bO H ph hi.natAbs) (K:dD lo)
  (hr:∀ i z H p,(endsL n lo n' hi)[i]? = some z->Kp H0 H->J i H->bO H p z.natAbs->Ans tab (.round F [.agg [.bool (decide (z<0)),p]]) H fun v H'=>v=.bool true/\Kp H0 H'/\J (i+1) H'/\SubT [bu,ae] H H') :
  Ans tab (.ent fS [.loopv F,.ptr B 0]) H fun _ H'=>Kp H0 H'/\J (endsL n lo n' hi).length H':=by
 have l:=d.wf;have P:=j.one;have O:=g.one;have hlt:=l _ _ hA;have f4:H.get (H.next+4)=none:=l.fresh zO;have f5:H.get (H.next+5)=none:=l.fresh zO;have m:∀ k,Sub H (((((H.up (k+8)).put (H.next+4) (.cells [.bool false,.bool false,.nilSl] bu true)).put (H.next+5) (.cells [.bool false,.bool false,.nilSl] bu true)).put (H.next+4) (.cells [.bool n,.bool (decide (lo<0)),pl] bu true)).put (H.next+5) (.cells [.bool n',.bool (decide (hi<0)),ph] bu true)):=fun k=>((((Sub.bump H (k+8)).put f4 _).put f5 _).put f4 _).put f5 _;have e:∀ k,Kp H (((((H.up (k+8)).put (H.next+4) (.cells [.bool false,.bool false,.nilSl] bu true)).put (H.next+5) (.cells [.bool false,.bool false,.nilSl] bu true)).put (H.next+4) (.cells [.bool n,.bool (decide (lo<0)),pl] bu true)).put (H.next+5) (.cells [.bool n',.bool (decide (hi<0)),ph] bu true)):=fun k=>by
  have N:H.next+8<=(H.up (k+8)).next:=by show _<=H.next+(k+8); omega
  refine (((((Kp.refl l).up (k+8)).put ?_ ?_).put ?_ ?_).put ?_ ?_).put ?_ ?_
  all_goals (first | omega | (simp only [next_put]; omega))
 have q:∀ k,J 0 (((((H.up (k+8)).put (H.next+4) (.cells [.bool false,.bool false,.nilSl] bu true)).put (H.next+5) (.cells [.bool false,.bool false,.nilSl] bu true)).put (H.next+4) (.cells [.bool n,.bool (decide (lo<0)),pl] bu true)).put (H.next+5) (.cells [.bool n',.bool (decide (hi<0)),ph] bu true)):=fun k=>u _ _ _ (e k) h0;have z0:decide ((0:Int)<0)=false:=rfl;refine TJ C.q57 zU fun T hl a c=>?_;refine vH ?_;refine aF ?_;cases n with
 | true =>
  cases n' with
  | true =>
   refine zD (fo hl a c hA @qG @xK @jj) ?_;refine AnsH.eq (hr 0 0 _ .nilSl (by simp [endsL]) (d.trans (e _)) (q _) (Au _)) fun H2 h2=>?_;refine zD (aD hl a c) ?_;exact ⟨h2.1,h2.2.1⟩
  | false =>
   refine zD (fX hl a c hA @qG @xK @jj @Aj) ?_;refine AnsH.eq (hr 0 hi _ ph (by simp [endsL]) (d.trans (e _)) (q _) (g.mono (m _))) fun H2 h2=>?_;refine zD (aD hl a c) ?_;exact ⟨h2.1,h2.2.1⟩
 | false =>
  cases n' with
  | true =>
   refine zD (fX hl a c hA @qG @xK @jj @Aj) ?_;refine AnsH.eq (hr 0 lo _ pl (by simp [endsL]) (d.trans (e _)) (q _) (j.mono (m _))) fun H2 h2=>?_;refine zD (aD hl a c) ?_;exact ⟨h2.1,h2.2.1⟩
  | false =>
   refine zD (fX hl a c hA @qG @xK @jj @Aj) ?_;refine AnsH.eq (AH C (x:=lo) (y:=hi) (e _).wf ⟨pl,rfl,j.mono (m _)⟩ ⟨ph,rfl,g.mono (m _)⟩ K) fun H2 s=>?_;have k2:Kp H H2:=(e _).trans s;have M:=k2.le;have A:H2.get (H.next+4)=some (.cells [.bool false,.bool (decide (lo<0)),pl] bu true):=s.get (cC);have b4:H2.get (H.next+5)=some (.cells [.bool false,.bool (decide (hi<0)),ph] bu true):=s.get (cC);have D:∀ k,bO (H2.up k) pl lo.natAbs:=fun k=>(j.mono k2.sub).mono (Sub.bump H2 k);have G:=g.mono k2.sub;cases f:decide (lo=hi) with
   | true =>
    refine zD (bB hl a A @b4 @Aj) ?_;refine AnsH.eq (hr 0 lo _ pl (by unfold endsL; rw [f]; rfl) (d.trans (k2.up _)) (u _ _ _ (k2.up _) h0) (D _)) fun w h3=>?_;have o:(endsL false lo false hi).length=1:=by unfold endsL; rw [f]; rfl
    rw [o];refine zD (aD hl a c) ?_;exact ⟨h3.1,h3.2.1⟩
   | false =>
    refine zD (bB hl a A @b4 @Aj) ?_;refine AnsH.eq (hr 0 lo _ pl (by unfold endsL; rw [f]; rfl) (d.trans (k2.up _)) (u _ _ _ (k2.up _) h0) (D _)) fun w h3=>?_;have Q:=h3.1.wf;have c4:=h3.2.2 _ _ _ _ (by simp) (show (H2.up 10).get (H.next+5)=_ from b4);have I:bO w ph hi.natAbs:=SlV.monoT (E:=bU cr) (fun b cs t r R hb=>h3.2.2 b cs t r (by rcases Wz.1 R with rfl | h; exact V8 _ (Wl.2 rfl); cases h) hb) (G.mono (Sub.bump H2 10));refine zD (aO hl a c4 @Aj) ?_;refine AnsH.eq (hr 1 hi _ ph (by unfold endsL; rw [f]; rfl) h3.1 h3.2.1 I) fun L h4=>?_;have o:(endsL false lo false hi).length=2:=by unfold endsL; rw [f]; rfl
    rw [o];refine zD (aD hl a c) ?_;exact ⟨h4.1,h4.2.1⟩
def Fp (C:Code tab) (D:Wf H) {H0:Heap} {b k:Nat} {v w:AV} {l:List (Nat × List Int)} {r:List Int} (B:Kp H0 H) (z:H0.next<=b) (hb:H.get b=some (.cells [v] fC true)) (i:Bl genE ag H0 H v l) (hr:RowV H w r) (F:l.length<1000) :
  Ans tab (.fn fj [.agg [.int .u8 (k:Int),w],.ptr b 0]) H fun _ H'=>(∃ j,H'.get b=some (.cells [j] fC true)/\Bl genE ag H0 H' j (l++[(k,r)])/\∀ c,iz j=some c->H.next<=c)/\Kp H0 H'/\(∀ c e,H.get c=some e->c≠b->iz v≠some c->H'.get c=some e)/\H.next<=H'.next:=by
 have t:=hr.one;have ov:=i.sl.one;have hlt:=D _ _ hb;refine bA C.q24 zU fun T hl x y=>?_;obtain ⟨d,h⟩:∃ X,X=(H.up 1).put H.next (.cells [.int .u8 (k:Int),w] ag true):=⟨_,rfl⟩
 have a:Kp H d:=by rw [h]; exact zK
 have I:d.next=H.next+1:=by rw [h]; rfl
 obtain ⟨n,H2,g,u,k2,G,o,-⟩:=Bl.push1 (id:=H.next+4) (id2:=H.next+3) (k:=5) (bytes:=32) (ty2:=ag) (i.mono a.sub) zU (B.trans a) (show genE.R d [.int .u8 (k:Int),w] (k,r) from ⟨w,rfl,hr.mono a.sub⟩) zO zO zO zO zO zO zO;have g:dr (((H.up 6).put H.next (.cells [.int .u8 (k:Int),w] ag true)).put (H.next+3) (.cells [.int .u8 (k:Int),w] ag true)) (H.next+4) 2 32 ag v (.own (H.next+3) 0 1 1 2 true)=some (.own (H.next+4) 0 n n 2 false,H2):=by
  have:=g
  rw [h] at this;exact this
 have f:H2.get b=some (.cells [v] fC true):=o b _ (a.get hb) (by
  intro e;rcases i with ⟨rfl,-⟩ | ⟨b',cells,rfl,s,-,-⟩
  ·cases e
  ·cases e; rw [hb] at s; cases s)
 have w2:=k2.wf;have A:=Fx (p:=.int .u8 0) (q:=.nilSl) (bo .u8 (k:Int)) t;refine zW (jU hl x y (sB t) hb A g f @bT) ?_;have E:=w2 _ _ f;refine ⟨⟨_,rfl,u.put (fun m e=>by cases e; omega) (SubT.put_ty f zU),fun c e=>by cases e; omega⟩,k2.put z E,fun c e hc h1 h2=>?_,zO⟩;rw [au h1];exact o c e (a.get hc) h2
end
section
open Lin
variable {n m:Nat}
def Ke {d m:Nat} (hd:d<=4):(2*d*2^m)^2^d<=2^(16*(m+4)):=by
 have h1:2*d*2^m<=2^(m+4):=by
  rw [W0,Wq (2^m)];exact Wh _ zO
 have h2:2^d<=2^4:=Wx (by decide) hd;have h3:2^d*(m+4)<=16*(m+4):=Wh _ h2
 calc (2*d*2^m)^2^d<=(2^(m+4))^2^d:=XU h1 _
  _=2^((m+4)*2^d):=(Zg ..).symm
  _<=2^(16*(m+4)):=Wx (by decide) (by rw [Wq]; exact h3)
def Sn {a b:Nat} {x:V} (h:Bd a x) (c:a<=b):Bd b x:=fun i=>Wj (h i) c
def F5 {d:Nat} {E I:List V} (g:0<d) (hd:d<=4) (b:∀ a∈E,a.length=d/\Bd (2^m) a) (c:∀ a∈I,a.length=d/\Bd (2^m) a) :
  (∀ l∈gensL d E I,Bd (2^(16*(m+4))) l)/\(∀ r∈gensR d E I,Bd (2^(16*(m+4))) r):=by
 have t:=gens_told (d:=d) (fun a ha=>(b a ha).1) (fun a ha=>(c a ha).1);obtain ⟨e,f⟩:=told_bd g (WL (by decide)) t b c;exact ⟨fun l hl=>Sn (e l hl) (Ke hd),fun r hr=>Sn (f r hr) (Ke hd)⟩
def tt {l:List (V × Bool)} (hn:n<=3) (h:∀ c∈l,c.1.length=n+1/\Bd (2^m) c.1):∀ x∈gensP n l,x.2.length=n+1/\Bd (2^(16*(m+4))) x.2:=fun x hx=>by
 have f:∀ a∈eqsOf l,a.length=n+1/\Bd (2^m) a:=fun a ha=>h _ (mem_eqs.1 ha);have g:∀ a∈ineqsOf n l,a.length=n+1/\Bd (2^m) a:=fun a ha=>by
  rcases mem_ineqs.1 ha with rfl | ha
  ·exact ⟨unitC_len n 1,EB n m⟩
  ·exact h _ ha
 refine ⟨ts (fun c hc=>(h c hc).1) x hx,?_⟩;obtain ⟨b,e⟩:=F5 (d:=n+1) (m:=m) zO zO f g;unfold gensP at hx;split at hx
 ·rcases Wp.1 hx with hx | hx
  ·obtain ⟨r,hr,rfl⟩:=V5.1 hx;exact b r hr
  ·obtain ⟨r,hr,rfl⟩:=V5.1 hx;exact e r hr
 ·cases hx
def yx {g:List (Nat × V)} (hn:n<=3) (h:∀ x∈g,x.2.length=n+1/\Bd (2^m) x.2):∀ c∈consP n g,c.1.length=n+1/\Bd (2^(16*(m+4))) c.1:=fun x hx=>by
 refine ⟨jG (fun y hy=>(h y hy).1) x hx,?_⟩;have hb:=(Hp (m:=m) zO h x hx).2;have f:∀ a∈linesOf g,a.length=n+1/\Bd (2^m) a:=fun a ha=>h _ (mem_lines.1 ha);have j:∀ a∈raysOf g,a.length=n+1/\Bd (2^m) a:=fun a ha=>by
  obtain ⟨y,hy,rfl⟩:=yi ha;exact h _ hy
 obtain ⟨b,e⟩:=F5 (d:=n+1) (m:=m) zO zO f j;unfold consP at hx;split at hx
 ·rcases Wp.1 hx with hx | hx
  ·obtain ⟨r,hr,rfl⟩:=V5.1 hx;exact b r hr
  ·obtain ⟨r,hr,rfl⟩:=V5.1 hx;exact e r (Wn.1 hr).1
 ·rw [Wl] at hx;subst hx;intro i
  have:∀ i,(at_ (unitC n (-1)) i).natAbs<=1:=fun i=>by
   unfold at_ unitC;cases i with
   | zero=>simp
   | succ i=>simp [VY,W7]; split <;> simp
  exact Wj (this i) (Nat.one_le_two_pow)
end
def Ki {l:List Int} (h:l.length<=64):tW (l.map bF)=true:=by
 unfold tW;rw [WA];refine ⟨by rw [V7]; exact decide_eq_true h,?_⟩;rw [W5,Xr];intro z hz;obtain ⟨y,-,rfl⟩:=V5.1 hz;rw [xx]; simp
def HQ {l:List Int} (h:l.length<=64) (hz:∀ z∈l,dD z):nr (l.map bF):=⟨by rw [V7]; omega,fun z a=>by
 obtain ⟨y,hy,rfl⟩:=V5.1 a
 have:=hz y hy
 unfold dD Sm at this;show (ah y.natAbs).length<_;omega⟩
def Sl {n x f ea:Nat} {a:List Int} {c:List Int × Bool} (hc:c.1.length=n+1) (ha:a.length=n+1) (hb:Lin.Bd (2^f) c.1) (b:Lin.Bd (2^ea) a):Lin.Bd (2^(f+ea+1)) (Lin.bkC x a c).1:=fun i=>by
 unfold Lin.bkC;simp only;rw [Lin.at_mix (by rw [VX,hc,ha])];have h1:(Lin.at_ (c.1.set (x+1) 0) i).natAbs<=2^f:=by
  unfold Lin.at_;rw [VY,Yc];split
  ·split
   ·simp
   ·simp
  ·have:=hb i
   unfold Lin.at_ at this
   rwa [VY] at this
 have h2:(c.1.getD (x+1) 0).natAbs<=2^f:=hb (x+1);have h3:=b i;have h4:(c.1.getD (x+1) 0*Lin.at_ a i).natAbs<=2^f*2^ea:=by rw [YY]; exact Xq h2 h3
 have h5:=YQ (1*Lin.at_ (c.1.set (x+1) 0) i) (c.1.getD (x+1) 0*Lin.at_ a i);rw [Int.one_mul] at h5 ⊢;have h6:2^f<=2^f*2^ea:=Zq _ (WL zU);rw [WO,W0];omega
section
variable {tab:Nat->Option aA} {H:Heap}
set_option maxHeartbeats 2000000 in
def tZ (C:Code tab) (hw:Wf H) {v w:AV} {n e f ea x:Nat} {K:List (List Int × Bool)} {G:List (Nat × List Int)} {a:List Int} (hp:PolyV H v n K G) (ho:PolyOK n e f K G) (ha:RowV H w a) (ay:a.length=n+1) (aN:Lin.Bd (2^ea) a) (hx:x<n) (bc:n<=3) (hK:K.length<=60) (aT:f+ea<=10000) :
  Ans tab (.fn jy [v,.int .i64 (x:Int),w]) H fun r H'=>py H' r n (Lin.gensP n (K.map (Lin.bkC x a)))/\Kp H H':=by
 obtain ⟨M,vg,rfl,U,hg⟩:=hp;have oc:=U.one;have og:=hg.one;have oa:=ha.one;have aC:=fu aN;have aY:∀ z∈a,dD z:=fun z hz=>(aC z hz).sm zO;have pc:de n (x:Int)=0:=by unfold de; rw [if_neg zO]
 have rc:gC n (a.map bF)=0:=by unfold gC; rw [Ki zO,if_pos rfl,if_neg (by rw [V7]; omega)]
 refine lC C.q7 zU fun T hl t o l=>?_;refine zW (bB hl t o l (jS oc og)) ?_;refine AnsH.eq (gf C (n:=n) (x:=(x:Int)) zF ⟨M,vg,rfl,U.mono (zG H),hg.mono (zG H)⟩ ho) fun H2 Y=>?_;rw [pc];obtain ⟨k2,_,w2⟩:=zT H zK Y;have d0:H2.get H.next=some (.cells [.int .i64 (n:Int),M,vg] am true):=Y.get (cC)
 have d1:H2.get (H.next+1)=some (.cells [.int .i64 0,.nilSl,.nilSl] am true):=Y.get (cC);refine zW (dj hl t o l l d0) ?_;refine AnsH.eq (nH C (n:=n) zF ⟨M,vg,rfl,(U.mono k2.sub).mono (zG H2),(hg.mono k2.sub).mono (zG H2)⟩ zO ((ha.raw.mono k2.sub).mono (zG H2)) (HQ zO aY)) fun H3 a9=>?_;rw [rc];obtain ⟨k23,_,_⟩:=zT H2 zK a9;have k3:Kp H H3:=k2.trans k23;have bz:=k3.le;have w3:=k3.wf;have c0:=k23.get d0;have c1:=k23.get d1;refine zW (dj hl t o l c0 U.lenV) ?_;obtain ⟨G3,ah⟩:∃ X,X=H3.up 7:=⟨_,rfl⟩
 rw [<- ah];have s3:Sub H3 G3:=by rw [ah]; exact Sub.bump _ 7
 have aw:Kp H G3:=by rw [ah]; exact k3.up _
 have bp:=aw.wf;clear ah;have c0:=s3.get _ _ c0;have c1:=s3.get _ _ c1;have aM:=U.mono aw.sub;have a3:=ha.mono aw.sub;have ex:IntKind.i64.wrap ((x:Int)+1)=((x+1:Nat):Int):=by rw [wrap_i64] <;> omega
 refine aq G3 [10] (fun j vs H'=>∃ O,vs=[O]/\Bq conE t_api_Con G3 H' O ((K.take j).map (Lin.bkC x a))) (a:=0) (N:=K.length) (by simp only [VX]; exact hl) (by refine zW (aO hl t o l) ?_; rfl) (zV (aO hl t o l)) (Wd _) zO rfl rfl (fun _ _ _ m h=>by obtain ⟨O,h1,h2⟩:=h; exact ⟨O,h1,h2.mono (Sub.bump _ m)⟩) (Kp.refl bp) ⟨.nilSl,by exact zV (aO hl t o l),Bq.nil⟩ ?_ ?_
 ·rintro j T1 d-hj B a5 Q s ⟨O,J,ao⟩;have w1:=s.wf;have bj:=s.le;simp only [V9,Wg,Wb,and_true] at J;have t1:ad T1 1=.int .i64 (x:Int):=(Q.at_ 1 zU).trans (zV (bB hl t o l o));have t2:ad T1 2=w:=(Q.at_ 2 zU).trans (zV (bB hl t o l l));have bl:ad T1 32=M:=(Q.at_ 32 zU).trans (zV (aO hl t o l));obtain ⟨_,⟨u,rfl,hr⟩,-,-,L⟩:=(aM.mono s.sub).at (VZ hj);have L:bk d (some 2) (aB M (j*2))=some (.agg [u,.bool K[j].2]):=L;have a8:cS 2 M (.int .i64 (j:Int))=some (aB M (j*2)):=SlV.idx aM .i64 j hj;have hr:RowV d u K[j].1:=hr;have ou:=hr.one;have F:=ho.rowK _ (V4 hj);obtain ⟨c,hc⟩:∃ c,c=K[j]:=⟨_,rfl⟩
  rw [<- hc] at L hr F;have ar:x+1<c.1.length:=by have:=F.1; omega
  obtain ⟨p,hp,aW,-⟩:=iZ hr ar;have bM:cS 2 u (.int .i64 ((x+1:Nat):Int))=some (aB u ((x+1)*2)):=SlV.idx hr .i64 (x+1) ar;have op:=hp.one;have aI:=fu F.2;have Lp:=(Ldd.of w1 aW).put;have Ll:=(Ldd.of w1 aW).ld;refine zW (qQ B t1 t2 bl a5 J a8 L bM Lp Ll ex) ?_;obtain ⟨D,I⟩:∃ X,X=((((d.up 16).put (d.next+2) (.cells [.nilSl,.bool false] t_api_Con true)).put (d.next+2) (.cells [u,.bool c.2] t_api_Con true)).put (d.next+10) (.cells [.bool false,.nilSl] aa true)).put (d.next+10) (.cells [.bool (decide (c.1[x+1]<0)),p] aa true):=⟨_,rfl⟩
  have q2:d.get (d.next+2)=none:=w1.fresh zO;have q10:d.get (d.next+10)=none:=w1.fresh zO;have aH:Sub d D:=by rw [I]; exact ((((Sub.bump d 16).put q2 _).put q2 _).put q10 _).put q10 _
  have bG:D.next=d.next+16:=by rw [I]; rfl
  have aV:Kp d D:=by rw [I]; exact zK
  have bq:=aV.wf;have aK:D.get (d.next+2)=some (.cells [u,.bool c.2] t_api_Con true):=by rw [I,au zO,au zO,al]
  have aL:D.get (d.next+10)=some (.cells [.bool (decide (c.1[x+1]<0)),p] aa true):=by rw [I,al]
  rw [<- I];clear I;refine AnsH.use (Ek C bq (hr.mono aH) zO zO) ?_;rintro v4 H4 ⟨Z,b4,cells,rfl,aj,aD,a4⟩;have w4:=Z.wf;have bw:=Z.le;have bK:=aH.trans Z.sub;have bs:=Z.get aK;have bt:=Z.get aL;have bu:cells.length=c.1.length*2:=aD.1;have bE:=w4 _ _ aj;have aG:CS (some (.cells cells aa true)) 2 ((x+1)*2) (.agg [.bool false,.nilSl])=some (.cells (cells.take ((x+1)*2)++[.bool false,.nilSl]++cells.drop ((x+1)*2+2)) aa true):=fR (zg (ai _) bH) zO;obtain ⟨af,W⟩:∃ q,q=cells.take ((x+1)*2)++[.bool false,.nilSl]++cells.drop ((x+1)*2+2):=⟨_,rfl⟩
  rw [<- W] at aG;have aP:Cells intE H4 af (c.1.set (x+1) 0):=by rw [W]; exact aD.set (i:=x+1) zO ⟨.nilSl,by simp,eO H4⟩
  have a6:cS 2 (.own b4 0 c.1.length c.1.length 2 false) (.int .i64 ((x+1:Nat):Int))=some (.ptr b4 ((x+1)*2)):=by
   have:=jB (b:=b4) (off:=0) (n:=c.1.length) (c:=c.1.length) (sz:=2) (x:=false) (k:=.i64) (j:=x+1) zO
   simpa using this
  have aT:intE.sz=2:=rfl;refine zW (jU B t1 t2 J ex aT a6 aj aG) ?_;obtain ⟨A,V⟩:∃ X,X=(H4.up 6).put b4 (.cells af aa true):=⟨_,rfl⟩
  have g4:D.next<=b4:=a4
  have m4:NoTy [ae] H4 b4:=NoTy.ty aj zU;have ab:Kp D A:=by rw [V]; exact zK
  have aQ:Cells intE A af (c.1.set (x+1) 0):=by rw [V]; exact Cells.mono (E:=intE) zS aP
  have bd:RowV A (.own b4 0 c.1.length c.1.length 2 false) (c.1.set (x+1) 0):=(show Own intE aa D A b4 false _ _ from ⟨af,by rw [VX]; rfl,by rw [V,al],aQ,g4⟩).sl;have a1:A.get (d.next+2)=some (.cells [u,.bool c.2] t_api_Con true):=ab.get aK;have g13:A.get (d.next+10)=some (.cells [.bool (decide (c.1[x+1]<0)),p] aa true):=ab.get aL;have bL:=ab.wf;have aX:Sub d A:=aH.trans ab.sub;have aU:Kp d A:=aV.trans ab;have bx:=aU.le;rw [<- V];clear V aG aP aQ aj aD;refine aF ?_;refine zD (aE B t2) ?_;refine AnsH.use (jk C (n:=1) zF zO zO) ?_;rintro vm H5 ⟨bf,ba⟩;obtain ⟨R,_,w5⟩:=zT A zK ba;have a2:=R.get a1;have ax:=R.get g13;have aJ:Bt (f+1) c.1[x+1]:=aI _ (V4 ar);have aS:∀ z∈c.1.set (x+1) 0,Bt (f+1) z:=fun z hz=>by
   rcases XM hz with h | h
   ·exact aI z h
   ·rw [h]; exact Bt.zero _
  refine zD (bB B t2 @g13 ax @ap) ?_;have x1:IntV (H5) vm 1:=bf;have x2:IntV H5 (.agg [.bool (decide (c.1[x+1]<0)),p]) c.1[x+1]:=⟨p,rfl,hp.mono (aX.trans R.sub)⟩
  have x3:=bd.mono R.sub;have x4:=a3.mono (s.sub.trans (aX.trans R.sub));have x5:(c.1.set (x+1) 0).length=a.length:=by rw [VX,F.1,ay]
  have x6:(c.1.set (x+1) 0).length<=64:=by rw [VX,F.1]; omega
  have b1:Bt 1 (1:Int):=by unfold Bt; decide
  have x7:MuI (1:Int):=b1.len zO;have x8:MuI c.1[x+1]:=aJ.len zO;have x9:∀ z∈c.1.set (x+1) 0,MuI z/\dD (1*z):=fun z hz=>⟨(aS z hz).len zO,by rw [Int.one_mul]; exact (aS z hz).sm zO⟩
  have br:∀ z∈a,MuI z/\dD (c.1[x+1]*z):=fun z hz=>⟨(aC z hz).len zO,(aJ.mul (aC z hz)).sm zO⟩
  refine AnsH.use (Ez C w5 x1 x2 x3 x4 x5 x6 x7 x8 x9 br) ?_;rintro _ g ⟨q,rfl,P,bb⟩;obtain ⟨k6,_,w6⟩:=zT H5 zK bb;have bg:=k6.get a2;have bh:=k6.get ax;have oq:=P.one;have a0:(Lin.mix 1 (c.1.set (x+1) 0) c.1[x+1] a,c.2)=Lin.bkC x a c:=by
   unfold Lin.bkC;rw [VY,VZ ar]; rfl
  have av:Kp d g:=aU.trans (R.trans k6);have bA:=av.le;have bC:=av.le;have lG:=s.le;obtain ⟨m,H7,a7,aZ,k7,n7,f7,-⟩:=Bq.push (H:=g.up 8) (id:=g.next+6) (id2:=g.next+5) (bytes:=32) (ty2:=t_api_Con) (cs:=[q,.bool c.2]) (a:=Lin.bkC x a c) (ao.mono (av.sub.trans (Sub.bump g 8))) zU ((s.trans av).up 8) (by rw [<- a0]; exact ⟨q,rfl,P.mono (Sub.bump g 8)⟩) zO (by show _<g.next+8; omega) (w6.fresh (b:=g.next+6) zO) zO (by show _<g.next+8; omega) (w6.fresh (b:=g.next+5) zO) zO (by rw [V7,WE]; omega) (by rw [V7,WE]; omega);have a7:dr ((g.up 8).put (g.next+5) (.cells [q,.bool c.2] t_api_Con true)) (g.next+6) 2 32 t_api_Con O (.own (g.next+5) 0 1 1 2 true)=some (.own (g.next+6) 0 m m 2 false,H7):=a7;refine zD (jU B t2 J @g13 ax bh bg @a7 @ap) ?_;exact ⟨k7,_,rfl,by rw [List.take_succ,VZ hj,WX,<- hc]; exact aZ⟩
 ·rintro T1 d B Q s ⟨O,J,ao⟩;have w1:=s.wf;have bj:=s.le;have bi:=aw.trans s;simp only [V9,Wg,Wb,and_true] at J;rw [WF] at ao;have j3:ad T1 3=.ptr H.next 0:=(Q.at_ 3 zU).trans (zV (aO hl t o l))
  have j6:ad T1 6=.ptr (H.next+1) 0:=(Q.at_ 6 zU).trans (zV (aO hl t o l));have d0:=s.get c0;have d1:=s.get c1;have F:∀ c∈K.map (Lin.bkC x a),c.1.length=n+1/\Lin.Bd (2^(f+ea+1)) c.1:=fun c hc=>by
   obtain ⟨q,P,rfl⟩:=V5.1 hc;exact ⟨Lin.bk_len (ho.own.rows q P) ay,Sl (ho.own.rows q P) ay (ho.rowK q P).2 aN⟩
  have gb:=tt bc F;refine zW (aO B j3 J d0) ?_;refine AnsH.use (qj C (n:=n) (m:=f+ea+1) (m2:=16*(f+ea+1+4)) zF (ao.sl.mono (zG d)) zO (by rw [V7]; exact hK) F zO (fun y hy=>(gb y hy).2) zO) ?_;rintro v2 H2 ⟨hm,Y⟩;obtain ⟨k2,_,w2⟩:=zT d zK Y;have S:=k2.get d1;have bD:=w2 _ _ S;have bv:=bi.trans k2;rcases hm with ⟨rfl,hm⟩ | ⟨p,rfl,⟨bm,bn,rfl,W,aR⟩,h1,h2⟩
  ·refine zW (aO B j6 S @jj) ?_;exact ⟨.inl ⟨rfl,hm⟩,zK⟩
  ·have bI:=W.one;have bJ:=aR.one;refine zW (aO B j6 S @jj) ?_;refine ⟨.inr ⟨_,rfl,⟨bm,bn,rfl,?_,?_⟩,h1,h2⟩,zK⟩
   ·have m3:NoTy (t_api_Con :: conE.tys) H2 (H.next+1):=NoTy.ty S zU;exact SlV.monoT (E:=conE) zS W
   ·have m3:NoTy (ag :: genE.tys) H2 (H.next+1):=NoTy.ty S zU;exact SlV.monoT (E:=genE) zS aR
end
structure PutS (P:Nat->Prop) (H0 D:Heap) (b:Nat) (H:Heap) (l:List (Nat × List Int)):Prop where
 le:D.next<=H.next
 keep:∀ c e,P c->D.get c=some e->H.get c=some e
 own:∃ v,H.get b=some (.cells [v] fC true)/\Bl genE ag H0 H v l/\∀ c,iz v=some c->¬ P c
section
variable {P:Nat->Prop} {H0 D H H':Heap} {b:Nat} {l:List (Nat × List Int)}
def PutS.mono (h:PutS P H0 D b H l) (a:Sub H H'):PutS P H0 D b H' l:=by
 obtain ⟨v,h1,h2,h3⟩:=h.own;exact ⟨Wj h.le a.1,fun c e hp hc=>a.get _ _ (h.keep c e hp hc),v,a.get _ _ h1,h2.mono a,h3⟩
def PutS.put (h:PutS P H0 D b H l) {c:Nat} {e:Ent} (hc:¬ P c) (hb:c≠b) (he:∀ cs r,H.get c≠some (.cells cs ag r)) (g:SubT genE.tys H (H.put c e)):PutS P H0 D b (H.put c e) l:=by
 obtain ⟨v,h1,h2,h3⟩:=h.own;refine ⟨h.le,fun d e' hp hd=>by rw [au (show d≠c from fun q=>hc (by rw [<- q]; exact hp))]; exact h.keep d e' hp hd,v,by rw [au (fun q=>hb q.symm)]; exact h1,h2.put (fun n a=>?_) g,h3⟩;rcases h2 with ⟨rfl,-⟩ | ⟨b',cells,rfl,f,-⟩
 ·cases a
 ·cases a; exact he _ _ f
variable {tab:Nat->Option aA}
def rp (C:Code tab) {k:Nat} {w:AV} {r:List Int} (d:Kp H0 H) (h0:H0.next<=b) (a:∀ c,P c->c<D.next/\c≠b) (hs:PutS P H0 D b H l) (hr:RowV H w r) (n:l.length<1000) :
  Ans tab (.fn fj [.agg [.int .u8 (k:Int),w],.ptr b 0]) H fun _ H'=>PutS P H0 D b H' (l++[(k,r)])/\Kp H0 H'/\∀ c e,H.get c=some e->(∀ cs r,e ≠ .cells cs ag r)->(∀ cs r,e ≠ .cells cs fC r)->H'.get c=some e:=by
 obtain ⟨v,h1,h2,h3⟩:=hs.own;refine (Fp C d.wf d h0 h1 h2 hr n).mono ?_;rintro _ H' ⟨⟨p,h,i,j⟩,o,fr,le⟩;refine ⟨⟨Wj hs.le le,fun c e hp hc=>fr c e (hs.keep c e hp hc) (a c hp).2 (fun q=>h3 c q hp),p,h,i,fun c hc hp=>?_⟩,o,fun c e hc f g=>fr c e hc (fun q=>?_) fun q=>?_⟩
 ·have:=j c hc; have:=(a c hp).1; have:=hs.le; omega
 ·subst q; rw [h1] at hc; cases hc; exact g _ _ rfl
 ·rcases h2 with ⟨rfl,-⟩ | ⟨b',cells,rfl,m,-⟩
  ·cases q
  ·cases q; rw [m] at hc; cases hc; exact f _ _ rfl
end
def putOne (x:Nat) (a:List Int) (n:Bool) (lo:Int) (n':Bool) (hi:Int) (g:Nat × List Int):List (Nat × List Int):=if g.1=3 then (endsL n lo n' hi).map fun z=>Lin.mvG x a z g else [Lin.mvG x a 0 g]
def putTail (d x:Nat) (n n':Bool):List (Nat × List Int):=if n && n' then [(1,unitX d x 1)] else if n then [(2,unitX d x (-1))] else if n' then [(2,unitX d x 1)] else []
def putL (d x:Nat) (a:List Int) (n:Bool) (lo:Int) (n':Bool) (hi:Int) (G:List (Nat × List Int)):List (Nat × List Int) :=
 G.flatMap (putOne x a n lo n' hi)++(if G=[] then [] else putTail d x n n')
def endsL_len (n:Bool) (lo:Int) (n':Bool) (hi:Int):1<=(endsL n lo n' hi).length/\(endsL n lo n' hi).length<=2:=by
 unfold endsL;cases n <;> cases n' <;> simp;by_cases h:lo=hi <;> simp [h]
def IR (x:Nat) (a:List Int) (n:Bool) (lo:Int) (n':Bool) (hi:Int) (g:Nat × List Int):1<=(putOne x a n lo n' hi g).length/\(putOne x a n lo n' hi g).length<=2:=by
 unfold putOne;split
 ·rw [V7]; exact endsL_len n lo n' hi
 ·simp
def oV (x:Nat) (a:List Int) (n:Bool) (lo:Int) (n':Bool) (hi:Int):∀ G:List (Nat × List Int),G.length<=(G.flatMap (putOne x a n lo n' hi)).length/\(G.flatMap (putOne x a n lo n' hi)).length<=2*G.length
 | []=>by simp
 | g :: G=>by
  have h1:=IR x a n lo n' hi g;have h2:=oV x a n lo n' hi G;rw [List.flatMap_cons,Wm,WU];omega
def Bx {x:Nat} {a:List Int} {n:Bool} {lo:Int} {n':Bool} {hi:Int} {G:List (Nat × List Int)} {j:Nat} (hj:j<G.length):(G.take (j+1)).flatMap (putOne x a n lo n' hi)=(G.take j).flatMap (putOne x a n lo n' hi)++putOne x a n lo n' hi G[j]:=by
 rw [List.take_succ,VZ hj,ZY]
 simp
section
open Lin
variable {n x:Nat} {a:List Int} {rn rn':Bool} {lo hi:Int} {G:List (Nat × List Int)}
def Hf {n n':Bool} {lo hi z:Int} {e:Nat} (h1:Bt e lo) (h2:Bt e hi) (hz:z∈endsL n lo n' hi):Bt e z:=by
 unfold endsL at hz;cases n <;> cases n'
 ·by_cases h:lo=hi
  ·simp [h] at hz; subst hz; exact h2
  ·simp [h] at hz; rcases hz with rfl | rfl
   ·exact h1
   ·exact h2
 ·simp at hz; subst hz; exact h1
 ·simp at hz; subst hz; exact h2
 ·simp at hz; subst hz; exact Bt.zero e
def Oh {y:Nat × List Int} (h:y∈putTail n x rn rn'):∃ k:Int,(k=1\/k = -1)/\y.2=unitX n x k/\(y.1=1\/y.1=2):=by
 unfold putTail at h;cases rn <;> cases rn' <;> simp at h
 ·subst h; exact ⟨1,.inl rfl,rfl,.inr rfl⟩
 ·subst h; exact ⟨-1,.inr rfl,rfl,.inr rfl⟩
 ·subst h; exact ⟨1,.inl rfl,rfl,.inl rfl⟩
def unitX_len (n x:Nat) (k:Int):(unitX n x k).length=n+1:=by simp [unitX]
def unitX_hd (n x:Nat) (k:Int):hd1 (unitX n x k)=0:=by
 unfold unitX; rw [Pl]; rfl
def Bv {y:Nat × List Int} (h:y∈putL n x a rn lo rn' hi G):(∃ g∈G,∃ z,(z=0\/z∈endsL rn lo rn' hi)/\y=mvG x a z g)\/∃ k:Int,(k=1\/k = -1)/\y.2=unitX n x k/\(y.1=1\/y.1=2):=by
 unfold putL at h;rcases Wp.1 h with h | h
 ·obtain ⟨g,hg,h⟩:=Zk.1 h;unfold putOne at h;split at h
  ·obtain ⟨z,hz,rfl⟩:=V5.1 h;exact .inl ⟨g,hg,z,.inr hz,rfl⟩
  ·rw [Wl] at h;exact .inl ⟨g,hg,0,.inl rfl,h⟩
 ·split at h
  ·cases h
  ·exact .inr (Oh h)
def putL_valid (b:ValidG n G):ValidG n (putL n x a rn lo rn' hi G):=fun y hy=>by
 rcases Bv hy with ⟨g,hg,z,-,rfl⟩ | ⟨k,-,h2,h3⟩
 ·refine ⟨by rw [mvG,mvR_len]; exact (b g hg).1,fun h=>?_,fun h=>?_⟩
  ·rw [mvG,mvR_hd]; exact (b g hg).2.1 h
  ·rw [mvG,mvR_hd]; exact (b g hg).2.2 h
 ·rw [h2];exact ⟨unitX_len _ _ _,fun h=>by omega,fun _=>unitX_hd _ _ _⟩
def L5 (b:∀ g∈G,g.1=1\/g.1=2\/g.1=3):∀ y∈putL n x a rn lo rn' hi G,y.1=1\/y.1=2\/y.1=3:=fun y hy=>by
 rcases Bv hy with ⟨g,hg,z,-,rfl⟩ | ⟨k,-,h2,h3⟩
 ·exact b g hg
 ·omega
def pw {M:Nat} {r:List Int} (h:∀ z∈r,z.natAbs<=M):Bd M r:=fun i=>by
 unfold at_;rw [VY];cases h1:r[i]? with
 | none=>exact Wd _
 | some z=>exact h z (Wk h1)
def OW {e ea ez:Nat} {z:Int} {r:List Int} (hn:n<=3) (d:a.length=n+1) (ha:Bd (2^ea) a) (hr:Bd (2^e) r) (hz:z.natAbs<=2^ez):Bd (2^(e+ea+ez+3)) (mvR x a z r):=pw fun y hy=>by
 have p1:2^e<=2^(e+ea+ez+3):=Wx (by decide) zO;rcases XM hy with h | rfl
 ·exact Wj (hr.mem y h) p1
 ·have h1:=JR d ha hr;have h2:(hd1 r).natAbs<=2^e:=by
   have:=hr 0
   cases r with
   | nil=>exact Wd _
   | cons b r=>exact this
  have h3:(hd1 r*z).natAbs<=2^e*2^ez:=by rw [YY]; exact Xq h2 hz
  have h4:(n+1)*(2^ea*2^e)<=4*(2^ea*2^e):=Wh _ zO;have h5:2^ea*2^e<=2^(e+ea+ez):=by rw [<- W0]; exact Wx (by decide) zO
  have h6:2^e*2^ez<=2^(e+ea+ez):=by rw [<- W0]; exact Wx (by decide) zO
  have c:2^(e+ea+ez+3)=2^(e+ea+ez)*8:=by rw [W0]
  have f:=YQ (dot a r) (hd1 r*z);rw [c];omega
def Kd {e ea ez:Nat} (hn:n<=3) (f:a.length=n+1) (ha:Bd (2^ea) a) (d:∀ g∈G,Bd (2^e) g.2) (b:Bt ez lo) (c:Bt ez hi):∀ y∈putL n x a rn lo rn' hi G,Bd (2^(e+ea+ez+3)) y.2:=fun y hy=>by
 rcases Bv hy with ⟨g,hg,z,hz,rfl⟩ | ⟨k,h1,h2,h3⟩
 ·refine OW hn f ha (d g hg) ?_;rcases hz with rfl | hz
  ·exact Wd _
  ·exact XN (Hf b c hz)
 ·rw [h2];refine pw fun z hz=>?_;have p1:1<=2^(e+ea+ez+3):=WL (by decide);rcases XM hz with h | rfl
  ·have:=Xz h
   subst this; exact Wd _
  ·omega
def OF (b:G.length<=20):(putL n x a rn lo rn' hi G).length<=41:=by
 have h1:=oV x a rn lo rn' hi G;have h2:(putTail n x rn rn').length<=1:=by unfold putTail; cases rn <;> cases rn' <;> simp
 unfold putL;rw [Wm];split
 ·simp only [Yg]; omega
 ·omega
end
section
variable {tab:Nat->Option aA} {H:Heap}
def PutS.kill {P:Nat->Prop} {H0 D:Heap} {b:Nat} {l:List (Nat × List Int)} (h:PutS P H0 D b H l) {c:Nat} (hc:¬ P c) (hb:c≠b) (he:∀ cs t r,H.get c≠some (.cells cs t r)):PutS P H0 D b (H.kill c) l:=by
 obtain ⟨v,h1,h2,h3⟩:=h.own;refine ⟨h.le,fun d e' hp hd=>by rw [cM (show d≠c from fun q=>hc (by rw [<- q]; exact hp))]; exact h.keep d e' hp hd,v,by rw [cM (fun q=>hb q.symm)]; exact h1,h2.kill (fun n a=>?_) ((SubT.refl _ _).kills fun cs t r _ h=>he cs t r h),h3⟩;rcases h2 with ⟨rfl,-⟩ | ⟨b',cells,rfl,e,-⟩
 ·cases a
 ·cases a; exact he _ _ _ e
def PutS.back {P d:Nat->Prop} {H0 D a:Heap} {b:Nat} {l:List (Nat × List Int)} (h:PutS d H0 a b H l) (hn:D.next<=a.next) (hp:∀ c,P c->d c) (f:∀ c e,P c->D.get c=some e->a.get c=some e):PutS P H0 D b H l:=by
 obtain ⟨v,h1,h2,h3⟩:=h.own;exact ⟨Wj hn h.le,fun c e q hc=>h.keep c e (hp c q) (f c e q hc),v,h1,h2,fun c q hc=>h3 c q (hp c hc)⟩
theorem QT (a b c d e f:AV):bf [a,b,c,d,e,f] 3 none=some d:=rfl
set_option maxHeartbeats 4000000 in
def wH (C:Code tab) (hw:Wf H) {v w vi:AV} {n e f ea ez x:Nat} {K:List (List Int × Bool)} {G:List (Nat × List Int)} {a:List Int} {rn rn':Bool} {lo hi:Int} (hp:PolyV H v n K G) (ho:PolyOK n e f K G) (ha:RowV H w a) (aW:a.length=n+1) (bj:Lin.Bd (2^ea) a) (bn:ItvV H vi rn lo rn' hi) (bY:eM rn (bF lo) rn' (bF hi)=true) (aT:Bt ez lo) (a3:Bt ez hi) (hx:x<n) (bb:n<=3) (hG:G.length<=20) (cf:e+ea+ez<=1000) (bW:∀ g∈G,g.1=1\/g.1=2\/g.1=3) (bX:(Lin.consP n (putL n x a rn lo rn' hi G)).length<=1022\/1024<=(Lin.consP n (putL n x a rn lo rn' hi G)).length) :
  Ans tab (.fn kU [v,.int .i64 (x:Int),w,vi]) H fun r H'=>xz H' r n (putL n x a rn lo rn' hi G)/\Kp H H':=by
 obtain ⟨vc,vg,rfl,hC,hg⟩:=hp;have cc:=bn;obtain ⟨pl,ph,rfl,bd,bc⟩:=bn;have oc:=hC.one;have og:=hg.one;have oa:=ha.one;have bE:=bd.one;have bC:=bc.one;have a9:=fu bj;have bf:∀ z∈a,dD z:=fun z hz=>(a9 z hz).sm zO;have pc:de n (x:Int)=0:=by unfold de; rw [if_neg zO]
 have rc:gC n (a.map bF)=0:=by unfold gC; rw [Ki zO,if_pos rfl,if_neg (by rw [V7]; omega)]
 have bx:=CM (ai rn) (ai (decide (lo<0))) bE (ai rn') (ai (decide (hi<0))) bC;have ll:(ah lo.natAbs).length<=1048576:=iN (m:=ez) aT zO;have lh:(ah hi.natAbs).length<=1048576:=iN (m:=ez) a3 zO;refine Jw C.q5 (by decide) fun T hl I J M O=>?_;refine zW (fX hl I J M O (jS oc og) bx (CL oa)) ?_;refine AnsH.eq (gf C (n:=n) (x:=(x:Int)) zF ⟨vc,vg,rfl,hC.mono (Kp.sub (H:=H) zK),hg.mono (Kp.sub (H:=H) zK)⟩ ho) fun H2 aD=>?_;rw [pc];obtain ⟨k2,_,w2⟩:=zT H zK aD;have d0:H2.get H.next=some (.cells [.int .i64 (n:Int),vc,vg] am true):=aD.get (cC)
 have d1:H2.get (H.next+1)=some (.cells [.int .i64 (x:Int)] d9 true):=aD.get (cC);have d2:H2.get (H.next+2)=some (.cells [w] af true):=aD.get (cC);have d3:H2.get (H.next+3)=some (.cells [.bool rn,.bool (decide (lo<0)),pl,.bool rn',.bool (decide (hi<0)),ph] aV true):=aD.get (cC);have d4:H2.get (H.next+4)=some (.cells [.int .i64 0,.nilSl,.nilSl] am true):=aD.get (cC);refine zW (dj hl I J M O d2) ?_;refine AnsH.eq (pE C zF ((ha.mono k2.sub).mono (Kp.sub (H:=H2) zK)) zO bf) fun H3 br=>?_;obtain ⟨k23,_,_⟩:=zT H2 zK br;have k3:Kp H H3:=k2.trans k23;have ck:=k3.le;have w3:=k3.wf;have e3:=k23.get d3;refine zW (fo hl I J M O e3 @jq) ?_;refine AnsH.eq (tj C (n:=rn) (n':=rn') (z:=bF lo) (z':=bF hi) zF ((bd.mono k3.sub).mono (Kp.sub (H:=H3) zK)) ((bc.mono k3.sub).mono (Kp.sub (H:=H3) zK)) (aY _) (aY _) ll lh) fun H4 bs=>?_;rw [bY];have z0:(if true=true then (0:Int) else 8)=0:=rfl;obtain ⟨bw,_,_⟩:=zT H3 zK bs;have aQ:=k23.trans bw;have k4:Kp H H4:=k2.trans aQ;have cl:=k4.le;have w4:=k4.wf;have e0:=aQ.get d0;have e2:=aQ.get d2;refine zW (fX hl I J M O z0 e0 e2) ?_;refine AnsH.eq (nH C (n:=n) zF ⟨vc,vg,rfl,(hC.mono k4.sub).mono (Kp.sub (H:=H4) zK),(hg.mono k4.sub).mono (Kp.sub (H:=H4) zK)⟩ zO ((ha.raw.mono k4.sub).mono (Kp.sub (H:=H4) zK)) (HQ zO bf)) fun d bt=>?_;rw [rc];obtain ⟨cq,_,_⟩:=zT H4 zK bt;have aM:=aQ.trans cq;have k5:Kp H d:=k2.trans aM;have cm:=k5.le;have w5:=k5.wf;have f0:=aM.get d0;have f1:=aM.get d1;have f2:=aM.get d2;have f3:=aM.get d3;have f4:=aM.get d4;clear d0 d1 d2 d3 d4 e0 e2 e3 aD br bs bt k23 bw cq aQ;refine zW (fo hl I J M O f0 hg.lenV) ?_;obtain ⟨D,hD⟩:∃ X,X=(((d.up 10).put (d.next+2) (.cells [.nilSl] fC true)).put (d.next+4) (.cells [.nilFn] mC true)).put (d.next+4) (.cells [.fn (.func fj) [] [.ptr (d.next+2) 0]] mC true):=⟨_,rfl⟩
 rw [<- hD];have q2:d.get (d.next+2)=none:=w5.fresh zO;have q4:d.get (d.next+4)=none:=w5.fresh zO;have sD:Sub d D:=by rw [hD]; exact (((Sub.bump d 10).put q2 _).put q4 _).put q4 _
 have kD:Kp H D:=by rw [hD]; exact zK
 have nD:D.next=d.next+10:=by rw [hD]; rfl
 have wD:=kD.wf;have bN:D.get (d.next+2)=some (.cells [.nilSl] fC true):=by rw [hD,au zO,au zO,al]
 have bg:D.get (d.next+4)=some (.cells [.fn (.func fj) [] [.ptr (d.next+2) 0]] mC true):=by rw [hD,al]
 clear hD;have D0:=sD.get _ _ f0;have D1:=sD.get _ _ f1;have D2:=sD.get _ _ f2;have D3:=sD.get _ _ f3;have D4:=sD.get _ _ f4;have ch:=k5.le;have l4:=w5 _ _ f4;obtain ⟨P,hP⟩:∃ P:Nat->Prop,P=fun c=>c<D.next/\c≠d.next+2:=⟨_,rfl⟩
 have aJ:∀ c,P c->c<D.next/\c≠d.next+2:=fun c h=>by rw [hP] at h; exact h
 have ar:∀ c,c<D.next->c≠d.next+2->P c:=fun c h1 h2=>by rw [hP]; exact ⟨h1,h2⟩
 have s0:PutS P H D (d.next+2) D ((G.take 0).flatMap (putOne x a rn lo rn' hi)):=⟨V6 _,fun _ _ _ h=>h,.nilSl,bN,Bl.nil,fun c h=>by cases h⟩
 refine aq H [] (fun j _ H'=>PutS P H D (d.next+2) H' ((G.take j).flatMap (putOne x a rn lo rn' hi))) (a:=0) (N:=G.length) (by simp only [VX]; exact hl) (by refine zW (bB hl I J M O) ?_; rfl) (zV (bB hl I J M O)) (Wd _) zO rfl rfl (fun _ _ _ m h=>h.mono (Sub.bump _ m)) kD s0 ?_ ?_
 ·intro j T1 l _ hj b bp ab aj F;have w1:=aj.wf;have b1:=aj.le;have t4:ad T1 4=.ptr H.next 0:=(ab.at_ 4 (by decide)).trans (zV (bB hl I J M O))
  have t5:ad T1 5=.ptr (H.next+1) 0:=(ab.at_ 5 (by decide)).trans (zV (bB hl I J M O));have t6:ad T1 6=.ptr (H.next+2) 0:=(ab.at_ 6 (by decide)).trans (zV (bB hl I J M O));have t7:ad T1 7=.ptr (H.next+3) 0:=(ab.at_ 7 (by decide)).trans (zV (bB hl I J M O));have U:ad T1 13=.ptr (d.next+4) 0:=(ab.at_ 13 (by decide)).trans (zV (bB hl I J M O));have bJ:ad T1 42=vg:=(ab.at_ 42 (by decide)).trans (zV (bB hl I J M O));obtain ⟨_,⟨u,rfl,hr⟩,-,-,L⟩:=hg.at (VZ hj);have L:bk l (some 2) (aB vg (j*2))=some (.agg [.int .u8 (G[j].1:Int),u]):=bD aj.sub L;have bq:cS 2 vg (.int .i64 (j:Int))=some (aB vg (j*2)):=SlV.idx hg .i64 j hj;have hr:RowV H u G[j].2:=hr;have ou:=hr.one;have aP:=ho.rowG _ (V4 hj);have a4:=fu aP.2;have ca:=oV x a rn lo rn' hi (G.take j);have hlt:(G.take j).length<=20:=by rw [WE]; omega
  have V:=F.keep _ _ (ar _ zO zO) D1;have E2:=F.keep _ _ (ar _ zO zO) D2;have E3:=F.keep _ _ (ar _ zO zO) D3;have W:=F.keep _ _ (ar _ zO zO) bg;have r2:l.get (l.next+2)=none:=w1.fresh zO;have bZ:=F.le;obtain ⟨g,ba⟩:∃ g,g=G[j]:=⟨_,rfl⟩
  rw [<- ba] at L hr aP a4;have cd:a.length=g.2.length:=by rw [aW,aP.1]
  by_cases h3:(g.1:Int)=3
  ·obtain ⟨v0,o1,o2,o3⟩:=F.own;obtain ⟨Y,hY⟩:∃ X,X=((l.up 9).put (l.next+2) (.cells [.int .u8 0,.nilSl] ag true)).put (l.next+2) (.cells [.int .u8 3,u] ag true):=⟨_,rfl⟩
   have sY:Sub l Y:=by rw [hY]; exact ((Sub.bump l 9).put r2 _).put r2 _
   have aR:Kp l Y:=by rw [hY]; exact zK
   have kY:=aj.trans aR;have aG:Y.get (l.next+2)=some (.cells [.int .u8 3,u] ag true):=by rw [hY,al]
   have nY:Y.next=l.next+9:=by rw [hY]; rfl
   have F1:=sY.get _ _ V;have F2:=sY.get _ _ E2;have aH:=sY.get _ _ W;have wY:=aR.wf;refine zW (jU b t7 bJ bp bq L h3 E3 @jq) ?_;rw [<- hY];clear hY;refine AnsH.use (Jl C wY (ai rn) (ai (decide (lo<0))) bE (ai rn') (ai (decide (hi<0))) bC) ?_;rintro _ s ⟨rfl,be,ci,Q⟩;have w6:=Q.wf;have cj:=Q.le;have G1:=Q.get F1;have G2:=Q.get F2;have ao:=Q.get aH;have aS:=Q.get aG;have o:=kY.trans Q;have b3:=sY.trans Q.sub;refine zW b ?_;refine pJ (fi:=fS) (args:=[.loopv s.next,.ptr Y.next 0]) (by refine zW b ?_; rfl) ?_
   generalize he:Ent.loop _ _ _ _ _ _=e0
   obtain ⟨D',aI⟩:∃ X,X=(s.up 1).put s.next e0:=⟨_,rfl⟩
   rw [<- aI];have f6:s.get s.next=none:=w6.fresh (V6 _)
   have s6:Sub s D':=by rw [aI]; exact (Sub.bump s 1).put f6 _
   have aX:Kp H D':=by rw [aI]; exact zK
   have b0:D'.get s.next=some e0:=by rw [aI,al]
   have cn:D'.next=s.next+1:=by rw [aI]; rfl
   have b7:=aX.wf;clear aI;have aZ:=b3.trans s6;obtain ⟨P',ay⟩:∃ P:Nat->Prop,P=fun c=>c<D'.next/\c≠d.next+2/\iz v0≠some c/\c≠s.next:=⟨_,rfl⟩
   have bQ:∀ c,P' c->c<D'.next/\c≠d.next+2:=fun c h=>by rw [ay] at h; exact ⟨h.1,h.2.1⟩
   have a5:∀ c e',D'.get c=some e'->c≠d.next+2->c≠s.next->(∀ cs,e' ≠ .cells cs ag true)->P' c:=fun c e' h1 h2 h3 h4=>by
    rw [ay];refine ⟨b7 _ _ h1,h2,fun q=>?_,h3⟩;rcases o2 with ⟨rfl,-⟩ | ⟨b',cells,rfl,a8,-⟩
    ·cases q
    ·cases q;rw [aZ.get _ _ a8] at h1; cases h1; exact h4 _ rfl
   have lY:=Q.le;refine (Pu C (H0:=H) (lo:=lo) (hi:=hi) (n:=rn) (n':=rn') (pl:=pl) (ph:=ph) (fun k H'=>H'.get s.next=some e0/\PutS P' H D' (d.next+2) H' ((G.take j).flatMap (putOne x a rn lo rn' hi)++((endsL rn lo rn' hi).take k).map fun z=>Lin.mvG x a z g)) aX ⟨b0,V6 _,fun _ _ _ h=>h,v0,aZ.get _ _ o1,by simpa using o2.mono aZ,fun c hc hp=>by rw [ay] at hp; exact hp.2.2.1 hc⟩ (fun k A B q h=>⟨q.get h.1,h.2.mono q.sub⟩) (s6.get _ _ be) (bd.mono aX.sub) (bc.mono aX.sub) (aT.sm zO) ?_).mono ?_
   ·rintro i z A p hz aN ⟨ax,a7⟩ bv;rw [<- he] at ax;have wA:=aN.wf;have bA:=wA _ _ ax;refine qB ax rfl ?_;have oz:=bv.one;refine zW (aE b ax) ?_
    generalize aL:Ent.loop _ _ _ _ LoopState.busy none=e2
    obtain ⟨X,hX⟩:∃ X',X'=(((A.up 2).put A.next (.cells [.bool false,.nilSl] aa true)).put A.next (.cells [.bool (decide (z<0)),p] aa true)):=⟨_,rfl⟩
    rw [<- hX];have fA:A.get A.next=none:=wA.fresh (V6 _)
    have sX:Sub A X:=by rw [hX]; exact ((Sub.bump A 2).put fA _).put fA _
    have kX:Kp H X:=by rw [hX]; exact zK
    have cr:X.get A.next=some (.cells [.bool (decide (z<0)),p] aa true):=by rw [hX,al]
    have nX:X.next=A.next+2:=by rw [hX]; rfl
    clear hX;have lX:=sX.get _ _ ax;obtain ⟨Z,hZ⟩:∃ X',X'=X.put s.next e2:=⟨_,rfl⟩
    rw [<- hZ];have kZ:Kp H Z:=by rw [hZ]; exact zK
    have np:¬ P' s.next:=fun h=>by rw [ay] at h; exact h.2.2.2 rfl
    have aK:=(a7.mono sX).put (c:=s.next) (e:=e2) np zO (fun cs r h=>by rw [lX] at h; cases h) (SubT.put fun cs t r _ h=>by rw [lX] at h; cases h);rw [<- hZ] at aK;have zb:Z.get s.next=some e2:=by rw [hZ,al]
    have a2:Z.get A.next=some (.cells [.bool (decide (z<0)),p] aa true):=by rw [hZ,au zO]; exact cr
    have nZ:Z.next=A.next+2:=by rw [hZ]; exact nX
    have bG:SubT [bu,ae] A Z:=by rw [hZ]; exact (sX.t _).trans (SubT.put fun cs t r _ h=>by rw [lX] at h; cases h)
    have wZ:=kZ.wf;clear hZ;have z1:=aK.keep _ _ (a5 _ _ (s6.get _ _ G1) zO zO (fun cs h=>by injection h with _ h2; exact absurd h2 (by decide))) (s6.get _ _ G1);have z2:=aK.keep _ _ (a5 _ _ (s6.get _ _ G2) zO zO (fun cs h=>by injection h with _ h2; exact absurd h2 (by decide))) (s6.get _ _ G2);have a0:=aK.keep _ _ (a5 _ _ (s6.get _ _ ao) zO zO (fun cs h=>by injection h with _ h2; exact absurd h2 (by decide))) (s6.get _ _ ao);have b2:P' (l.next+2):=by
     rw [ay];refine ⟨zO,zO,fun q=>?_,zO⟩;rcases o2 with ⟨rfl,-⟩ | ⟨b',cells,rfl,a8,-⟩
     ·cases q
     ·cases q
      have:=w1 _ _ a8
      omega
    have a1:=aK.keep _ _ b2 (s6.get _ _ aS);have bz:=Hf aT a3 (Wk hz);refine aF ?_;refine zD (oK b t5 t6 U z1 z2 a0 a1 a2 @ap) ?_;have bI:Sub H (Z.up 7):=kZ.sub.trans (Sub.bump Z 7);have ce:(((endsL rn lo rn' hi).take i).map fun z=>Lin.mvG x a z g).length<=2:=by
     have:=(endsL_len rn lo rn' hi).2
     rw [V7,WE]; omega
    have x1:Ans tab (.fn iL [.agg [.int .u8 (3:Int),u],.int .i64 (x:Int),w,.agg [.bool (decide (z<0)),p]]) (Z.up 7) _:=ze C (H:=Z.up 7) (n:=n) (x:=x) (k:=3) (z:=z) (m:=ez) (e:=ea+1) (f:=e+1) zF (ha.mono bI) (hr.mono bI) (IntV.monoT (SubT.of (SubT.upR (m:=7) bG) (by simp)) ⟨p,rfl,bv⟩) aW aP.1 hx zO a9 a4 bz zO zO;refine AnsH.use x1 ?_;rintro _ H7 ⟨⟨w',rfl,aw⟩,bV⟩;obtain ⟨S,_,w7⟩:=zT Z zK bV;have y1:=S.get z1;have y2:=S.get z2;have bK:=S.get a0;have bL:=S.get a1;have bM:=S.get a2;have yb:=S.get zb;refine zD (Ny b t5 t6 U z1 z2 a0 a1 a2 y1 y2 bK bL bM @ap) ?_;refine AnsH.use (rp C (k:=3) (kZ.trans S) zO bQ (aK.mono S.sub) aw (by rw [Wm]; omega)) ?_;rintro _ H8 ⟨bS,k8,bh⟩;have w8:=k8.wf;have b8:H8.get s.next=some e2:=bh _ _ yb (fun cs r h=>by rw [<- aL] at h; cases h) (fun cs r h=>by rw [<- aL] at h; cases h)
    refine zD (Ny b t5 t6 U z1 z2 a0 a1 a2 y1 y2 bK bL bM @ap) ?_;rw [vS,aL,he];have e1:((endsL rn lo rn' hi).take (i+1)).map (fun z=>Lin.mvG x a z g)=((endsL rn lo rn' hi).take i).map (fun z=>Lin.mvG x a z g)++[(3,Lin.mvR x a z g.2)]:=by
     have h4:g.1=3:=zO;rw [List.take_succ,hz,WX,<- h4]; rfl
    have b4:SubT [bu,ae] A H8:=bG.trans ((S.sub.t _).trans fun c cs t r ht h=>bh _ _ h (fun bO r' q=>by cases q; revert ht; decide) (fun bO r' q=>by cases q; revert ht; decide));refine ⟨b8,rfl,k8.put zO (w8 _ _ b8),⟨by rw [al],?_⟩,b4.trans (SubT.put fun cs t r _ h=>by rw [b8,<- aL] at h; cases h)⟩;rw [e1,<- XW];exact bS.put np zO (fun cs r h=>by rw [b8,<- aL] at h; cases h) (SubT.put fun cs t r _ h=>by rw [b8,<- aL] at h; cases h)
   ·rintro _ A ⟨aN,ax,a7⟩;have wA:=aN.wf;have bA:=wA _ _ ax;refine .inl ⟨ax,?_⟩;have np:¬ P' s.next:=fun h=>by rw [ay] at h; exact h.2.2.2 rfl
    have e1:putOne x a rn lo rn' hi g=(endsL rn lo rn' hi).map fun z=>Lin.mvG x a z g:=by unfold putOne; rw [if_pos zO]
    have bi:=a7.kill (c:=s.next) np zO (fun cs t r h=>by rw [ax,<- he] at h; cases h);rw [WF,<- e1,ba,<- Bx hj] at bi;have pp:∀ c,P c->P' c:=fun c h=>by
     have q1:=(aJ c h).1;have q2:=(aJ c h).2;rw [ay];exact ⟨zO,q2,fun q=>o3 c q h,zO⟩
    have bU:PutS P H D (d.next+2) _ _:=bi.back zO pp fun c e q hd=>aZ.get _ _ (F.keep c e q hd);refine vH ?_;exact ⟨zK,bU⟩
  ·obtain ⟨Y,hY⟩:∃ X,X=((l.up 7).put (l.next+2) (.cells [.int .u8 0,.nilSl] ag true)).put (l.next+2) (.cells [.int .u8 (g.1:Int),u] ag true):=⟨_,rfl⟩
   have sY:Sub l Y:=by rw [hY]; exact ((Sub.bump l 7).put r2 _).put r2 _
   have aR:Kp l Y:=by rw [hY]; exact zK
   have kY:=aj.trans aR;have aG:Y.get (l.next+2)=some (.cells [.int .u8 (g.1:Int),u] ag true):=by rw [hY,al]
   have F1:=sY.get _ _ V;have F2:=sY.get _ _ E2;have aH:=sY.get _ _ W;have wY:=aR.wf;refine zW (dj b bJ bp bq L h3) ?_;rw [<- hY];clear hY;refine aF ?_;refine zD (jU b t5 t6 U F1 F2 aH aG @ap) ?_;have x1:Ans tab (.fn iL [.agg [.int .u8 (g.1:Int),u],.int .i64 (x:Int),w,.agg [.bool false,.nilSl]]) (Y.up 7) _:=ze C (H:=Y.up 7) (n:=n) (x:=x) (k:=g.1) (z:=0) (m:=0) (e:=ea+1) (f:=e+1) zF (ha.mono (aj.sub.trans (sY.trans (Sub.bump Y 7)))) (hr.mono (aj.sub.trans (sY.trans (Sub.bump Y 7)))) ⟨.nilSl,rfl,Au _⟩ aW aP.1 hx zO a9 a4 (Bt.zero 0) zO zO;refine AnsH.use x1 ?_;rintro _ s ⟨⟨w',rfl,aw⟩,Q⟩;obtain ⟨o,_,w6⟩:=zT Y zK Q;have ao:=o.get aH;have G1:=o.get F1;have G2:=o.get F2;have aS:=o.get aG;have bR:=F.mono (sY.trans o.sub);refine zD (Ih b t5 t6 U F1 F2 aH aG ao G1 G2 aS @ap) ?_;refine AnsH.use (rp C (k:=g.1) (kY.trans o) zO aJ bR aw zO) ?_;rintro _ H7 ⟨aC,S,-⟩;have w7:=S.wf;refine zD (Ih b t5 t6 U F1 F2 aH aG ao G1 G2 aS @ap) ?_;have e1:putOne x a rn lo rn' hi g=[(g.1,Lin.mvR x a 0 g.2)]:=by unfold putOne; rw [if_neg zO]; rfl
   exact ⟨zK,by rw [Bx hj,<- ba,e1]; exact aC⟩
 ·intro T1 l b ab aj F;have t4:ad T1 4=.ptr H.next 0:=(ab.at_ 4 (by decide)).trans (zV (bB hl I J M O))
  have t5:ad T1 5=.ptr (H.next+1) 0:=(ab.at_ 5 (by decide)).trans (zV (bB hl I J M O));have t7:ad T1 7=.ptr (H.next+3) 0:=(ab.at_ 7 (by decide)).trans (zV (bB hl I J M O));have t8:ad T1 8=.ptr (H.next+4) 0:=(ab.at_ 8 (by decide)).trans (zV (bB hl I J M O));have av:ad T1 12=.ptr (d.next+2) 0:=(ab.at_ 12 (by decide)).trans (zV (bB hl I J M O));have U:ad T1 13=.ptr (d.next+4) 0:=(ab.at_ 13 (by decide)).trans (zV (bB hl I J M O));rw [WF] at F;clear ab hl I J M O
  generalize hR:ACode.seq (ACode.region [_,_,_,_,_,_,_,_]) ACode.ret=R
  have fin:∀ (T9:Tm) (H9:Heap),T9.length=114->ad T9 4=.ptr H.next 0->ad T9 8=.ptr (H.next+4) 0->ad T9 12=.ptr (d.next+2) 0->Kp H H9->PutS P H D (d.next+2) H9 (putL n x a rn lo rn' hi G)->WC tab false R T9 H9 (vT [(8,some (some 3)),(9,none)] fun r H'=>xz H' r n (putL n x a rn lo rn' hi G)/\Kp H H'):=by
   intro T9 H9 l9 g4 g8 bP k9 a6;rw [<- hR];have w9:=k9.wf;have d0:=a6.keep _ _ (ar _ zO zO) D0;have d4:=a6.keep _ _ (ar _ zO zO) D4;obtain ⟨v9,o1,o2,-⟩:=a6.own;have vb:=Kd (x:=x) (rn:=rn) (rn':=rn') bb aW bj (fun y hy=>(ho.rowG y hy).2) aT a3;have vv:=putL_valid (x:=x) (a:=a) (rn:=rn) (rn':=rn') (lo:=lo) (hi:=hi) ho.own.valid;have cb:=yx bb (fun y hy=>⟨(vv y hy).1,vb y hy⟩);have gb:=tt bb cb;have os:=o2.sl.one;refine zW (bB l9 g4 bP d0 o1) ?_;refine AnsH.use (l8 C (n:=n) (m:=e+ea+ez+3) (m2:=16*(e+ea+ez+3+4)) (m3:=16*(16*(e+ea+ez+3+4)+4)) zF (o2.sl.mono (Kp.sub (H:=H9) zK)) zO (by have:=OF (n:=n) (x:=x) (a:=a) (rn:=rn) (rn':=rn') (lo:=lo) (hi:=hi) hG; omega) vv (L5 bW) vb zO (fun y hy=>(cb y hy).2) zO (fun y hy=>(gb y hy).2) zO bX) ?_;rintro v2 HA ⟨hm,aN⟩;have kA:Kp H9 HA:=Kp.trans zK aN;have wA:=kA.wf;have d8:=kA.get d4;have bA:=wA _ _ d8;have cg:=k9.trans kA;rcases hm with ⟨rfl,hm⟩ | ⟨rfl,hm⟩ | ⟨p,rfl,⟨b5,b6,rfl,bl,bm⟩,h1,h2⟩
   ·refine zW (aO l9 g8 d8 @jj) ?_;exact ⟨.inl ⟨rfl,hm⟩,zK⟩
   ·refine zW (aO l9 g8 d8 @jj) ?_;exact ⟨.inr (.inl ⟨rfl,hm⟩),zK⟩
   ·have co:=bl.one;have cp:=bm.one;refine zW (aO l9 g8 d8 @jj) ?_;refine ⟨.inr (.inr ⟨_,rfl,⟨b5,b6,rfl,?_,?_⟩,h1,h2⟩),zK⟩
    ·have m3:NoTy (t_api_Con :: conE.tys) HA (H.next+4):=NoTy.ty d8 (by decide);exact SlV.monoT (E:=conE) zS bl
    ·have m3:NoTy (ag :: genE.tys) HA (H.next+4):=NoTy.ty d8 (by decide);exact SlV.monoT (E:=genE) zS bm
  clear hR;obtain ⟨v0,o1,o2,o3⟩:=F.own;have ov:=o2.sl.one;have E0:=F.keep _ _ (ar _ zO zO) D0;have V:=F.keep _ _ (ar _ zO zO) D1;have E3:=F.keep _ _ (ar _ zO zO) D3;have W:=F.keep _ _ (ar _ zO zO) bg;have gl:=oV x a rn lo rn' hi G;have w1:=aj.wf;have b1:=aj.le;have bZ:=F.le;by_cases aU:G=[]
  ·have e1:putL n x a rn lo rn' hi G=G.flatMap (putOne x a rn lo rn' hi):=by unfold putL; rw [if_pos aU,Xw]
   have e2:((G.flatMap (putOne x a rn lo rn' hi)).length:Int)=0:=by rw [aU]; rfl
   refine zW (bB b av o1 o2.sl.lenV e2) ?_;refine fin _ _ (zV b) (zV (aE b t4)) (zV (aE b t8)) (zV (aE b av)) zK ?_;rw [e1];exact F.mono (Sub.bump _ _)
  ·have e0:putL n x a rn lo rn' hi G=G.flatMap (putOne x a rn lo rn' hi)++putTail n x rn rn':=by unfold putL; rw [if_neg aU]
   have e2:¬ ((G.flatMap (putOne x a rn lo rn' hi)).length:Int)=0:=by
    have:0<G.length:=ZW.2 aU
    omega
   cases rn
   ·cases rn'
    ·refine zW (fX b av o1 o2.sl.lenV e2 t7 E3 @QT) ?_;refine fin _ _ (zV b) (zV (aE b t4)) (zV (aE b t8)) (zV (aE b av)) zK ?_;rw [e0,show putTail n x false false=[] from rfl,Xw];exact F.mono (Sub.bump _ _)
    ·refine zW (fX b av o1 o2.sl.lenV e2 t7 E3 @QT) ?_;refine aF ?_;refine zD (fX b t4 t5 U E0 V W @ap) ?_;have x1:Ans tab (.fn il [.int .i64 (n:Int),.int .i64 (x:Int),.int .u8 2,.int .i64 (1)]) (l.up 27) _:=qf C (n:=n) (x:=x) zF zO hx (by decide) (by decide);refine AnsH.use x1 ?_;rintro _ s ⟨⟨w',rfl,aw⟩,Q⟩;obtain ⟨o,_,w6⟩:=zT l zK Q;have G0:=o.get E0;have G1:=o.get V;have ao:=o.get W;refine zD (ia b t4 t5 U E0 V W G0 G1 ao @ap) ?_;refine AnsH.use (rp C (k:=2) (aj.trans o) zO aJ (F.mono o.sub) aw zO) ?_;rintro _ H7 ⟨aC,S,-⟩;have w7:=S.wf;refine zD (ia b t4 t5 U E0 V W G0 G1 ao @ap) ?_;refine fin _ _ (zV b) (zV (aE b t4)) (zV (aE b t8)) (zV (aE b av)) zK ?_;rw [e0];exact aC
   ·cases rn'
    ·refine zW (fX b av o1 o2.sl.lenV e2 t7 E3 @QT) ?_;refine aF ?_;refine zD (fX b t4 t5 U E0 V W @ap) ?_;have x1:Ans tab (.fn il [.int .i64 (n:Int),.int .i64 (x:Int),.int .u8 2,.int .i64 (-1)]) (l.up 23) _:=qf C (n:=n) (x:=x) zF zO hx (by decide) (by decide);refine AnsH.use x1 ?_;rintro _ s ⟨⟨w',rfl,aw⟩,Q⟩;obtain ⟨o,_,w6⟩:=zT l zK Q;have G0:=o.get E0;have G1:=o.get V;have ao:=o.get W;refine zD (ia b t4 t5 U E0 V W G0 G1 ao @ap) ?_;refine AnsH.use (rp C (k:=2) (aj.trans o) zO aJ (F.mono o.sub) aw zO) ?_;rintro _ H7 ⟨aC,S,-⟩;have w7:=S.wf;refine zD (ia b t4 t5 U E0 V W G0 G1 ao @ap) ?_;refine fin _ _ (zV b) (zV (aE b t4)) (zV (aE b t8)) (zV (aE b av)) zK ?_;rw [e0];exact aC
    ·refine zW (fX b av o1 o2.sl.lenV e2 t7 E3 @QT) ?_;refine aF ?_;refine zD (fX b t4 t5 U E0 V W @ap) ?_;have x1:Ans tab (.fn il [.int .i64 (n:Int),.int .i64 (x:Int),.int .u8 1,.int .i64 (1)]) (l.up 19) _:=qf C (n:=n) (x:=x) zF zO hx (by decide) (by decide);refine AnsH.use x1 ?_;rintro _ s ⟨⟨w',rfl,aw⟩,Q⟩;obtain ⟨o,_,w6⟩:=zT l zK Q;have G0:=o.get E0;have G1:=o.get V;have ao:=o.get W;refine zD (ia b t4 t5 U E0 V W G0 G1 ao @ap) ?_;refine AnsH.use (rp C (k:=1) (aj.trans o) zO aJ (F.mono o.sub) aw zO) ?_;rintro _ H7 ⟨aC,S,-⟩;have w7:=S.wf;refine zD (ia b t4 t5 U E0 V W G0 G1 ao @ap) ?_;refine fin _ _ (zV b) (zV (aE b t4)) (zV (aE b t8)) (zV (aE b av)) zK ?_;rw [e0];exact aC
set_option maxHeartbeats 2000000 in
def C3 (C:Code tab) (hw:Wf H) {v w pl ph:AV} {n e f:Nat} {x:Int} {K:List (List Int × Bool)} {G:List (Nat × List Int)} {l:List (Bool × List Nat)} {rn rn':Bool} {b a:Bool × List Nat} (hp:PolyV H v n K G) (F:PolyOK n e f K G) (hs:SlV rawE aa H w l) (E:nr l) (J:Lb H pl b.2) (I:Lb H ph a.2) (ll:Lim b.2) (X:Lim a.2) (Z:b.2.length<=1048576) (Y:a.2.length<=1048576) (Q:de n x≠0\/tW l=false\/eM rn b rn' a=false\/gC n l≠0) :
  Ans tab (.fn kU [v,.int .i64 x,w,.agg [.bool rn,.bool b.1,pl,.bool rn',.bool a.1,ph]]) H fun r H'=>(∃ c:Int,c≠0/\r=.tup [rr,.int .i64 c])/\Kp H H':=by
 obtain ⟨y,A,rfl,u,hg⟩:=hp;have oc:=u.one;have og:=hg.one;have ow:=hs.one;have ad:=J.one;have ab:=I.one;have ae:=F.dim;have bx:=CM (ai rn) (ai b.1) ad (ai rn') (ai a.1) ab;refine Jw C.q5 (by decide) fun T hl d g i j=>?_;refine zW (fX hl d g i j (jS oc og) bx (CL ow)) ?_;refine AnsH.eq (gf C (n:=n) (x:=x) zF ⟨y,A,rfl,u.mono (Kp.sub (H:=H) zK),hg.mono (Kp.sub (H:=H) zK)⟩ F) fun H2 o=>?_;obtain ⟨k2,_,w2⟩:=zT H zK o;have d0:H2.get H.next=some (.cells [.int .i64 (n:Int),y,A] am true):=o.get (cC)
 have d2:H2.get (H.next+2)=some (.cells [w] af true):=o.get (cC);have d3:H2.get (H.next+3)=some (.cells [.bool rn,.bool b.1,pl,.bool rn',.bool a.1,ph] aV true):=o.get (cC);have d4:H2.get (H.next+4)=some (.cells [.int .i64 0,.nilSl,.nilSl] am true):=o.get (cC);have al:=w2 _ _ d4;by_cases q:de n x=0
 case neg =>
  refine zW (fX hl d g i j q d4 @jj) ?_;exact ⟨⟨_,q,rfl⟩,zK⟩
 refine zW (fo hl d g i j q d2) ?_;refine AnsH.eq (mj C zF ((hs.mono k2.sub).mono (Kp.sub (H:=H2) zK)) E) fun p R=>?_;obtain ⟨k23,_,_⟩:=zT H2 zK R;have t:Kp H p:=k2.trans k23;have ag:=t.le;have w3:=t.wf;have e3:=k23.get d3;have e4:=k23.get d4;have ao:=w3 _ _ e4;cases V:tW l with
 | false =>
  have B:(if false=true then (0:Int) else 8)=8:=rfl;refine zW (fX hl d g i j B e4 @jj) ?_;exact ⟨⟨8,by decide,rfl⟩,zK⟩
 | true =>
 have z0:(if true=true then (0:Int) else 8)=0:=rfl;refine zW (fX hl d g i j z0 e3 @jq) ?_;refine AnsH.eq (tj C (n:=rn) (n':=rn') (z:=b) (z':=a) zF ((J.mono t.sub).mono (Kp.sub (H:=p) zK)) ((I.mono t.sub).mono (Kp.sub (H:=p) zK)) ll X Z Y) fun m S=>?_;obtain ⟨W,_,_⟩:=zT p zK S;have s:=k23.trans W;have k:Kp H m:=k2.trans s;have ah:=k.le;have w4:=k.wf;have f0:=s.get d0;have P:=s.get d2;have f4:=s.get d4;have ap:=w4 _ _ f4;cases hm:eM rn b rn' a with
 | false =>
  have B:(if false=true then (0:Int) else 8)=8:=rfl;refine zW (fX hl d g i j B f4 @jj) ?_;exact ⟨⟨8,by decide,rfl⟩,zK⟩
 | true =>
 have L:¬ gC n l=0:=by
  rcases Q with h | h | h | h
  ·exact absurd q h
  ·rw [V] at h; cases h
  ·rw [hm] at h; cases h
  ·exact h
 refine zW (fX hl d g i j z0 f0 P) ?_;refine AnsH.eq (nH C (n:=n) zF ⟨y,A,rfl,(u.mono k.sub).mono (Kp.sub (H:=m) zK),(hg.mono k.sub).mono (Kp.sub (H:=m) zK)⟩ zO ((hs.mono k.sub).mono (Kp.sub (H:=m) zK)) E) fun O U=>?_;obtain ⟨M,_,_⟩:=zT m zK U;have N:Kp H O:=k.trans M;have aj:=N.le;have w5:=N.wf;have D:=M.get f4;have aq:=w5 _ _ D;refine zW (fX hl d g i j L D @jj) ?_;exact ⟨⟨_,L,rfl⟩,zK⟩
end
section
variable {tab:Nat->Option aA} {H:Heap} {s:AV}
def Ni (C:Code tab) (k:Wf H) {l:List (Nat × List Int)} (hs:SlV genE ag H s l) (n:l.length<1099511627776):Ans tab (.fn cO [s]) H fun v H'=>Kp H H'/\Bq genE ag H H' v l:=by
 refine cT C.q29 zU fun T hl a=>?_;rcases hs.nilcase with ⟨rfl,rfl⟩ | hne
 ·have e:bY .eql .sl .nilSl .nilSl=some (.bool true):=rfl;refine zW (aD hl a e) ?_;exact ⟨zK,Bq.nil⟩
 ·have g:cB ([]:List AV) []=some []:=rfl;refine zW (aO hl a hne g) ?_;have k1:Kp H ((H.up 7).put (H.next+3) (.cells [] ag true)):=zK;have q:=k1.le;have d:Own genE ag H ((H.up 7).put (H.next+3) (.cells [] ag true)) (H.next+3) true (.own (H.next+3) 0 0 0 2 true) ([]:List (Nat × List Int)):=⟨_,rfl,al _ _ _,Cells.nil _ _,zO⟩
  by_cases h0:0<l.length
  ·obtain ⟨m,H2,f,h2,h,o,p,j⟩:=SlV.app (l:=[]) (id:=H.next+5) (bytes:=32) d.sl k1 (hs.mono k1.sub) zO (by show _<H.next+7; omega) (by rw [au zO]; exact k.fresh (b:=H.next+5) zO) (by simp; omega) (by simp; omega);have c:dr ((H.up 7).put (H.next+3) (.cells [] ag true)) (H.next+5) 2 32 ag (.own (H.next+3) 0 0 0 2 true) s=some (m,H2):=f;refine zW (aD hl a c) ?_;exact ⟨h,.inr ⟨_,_,j h0⟩⟩
  ·have i:l=[]:=WR zO;subst i;have c:dr ((H.up 7).put (H.next+3) (.cells [] ag true)) (H.next+5) 2 32 ag (.own (H.next+3) 0 0 0 2 true) s=some (.own (H.next+3) 0 0 0 2 true,(H.up 7).put (H.next+3) (.cells [] ag true)):=HV (E:=genE) (al _ _ _) (hs.mono k1.sub);refine zW (aD hl a c) ?_;exact ⟨k1,.inr ⟨_,_,d⟩⟩
def havL (n x:Nat) (G:List (Nat × List Int)):List (Nat × List Int):=if G=[] then [] else G++[(1,unitX n x 1)]
set_option maxHeartbeats 2000000 in
def B2 (C:Code tab) (hw:Wf H) {v:AV} {n e f m2 m3 x:Nat} {K:List (List Int × Bool)} {G:List (Nat × List Int)} (hp:PolyV H v n K G) (u:PolyOK n e f K G) (hx:x<n) (hG:G.length<=20) (L:Lin.ValidG n (havL n x G)) (D:∀ c∈Lin.consP n (havL n x G),Lin.Bd (2^m2) c.1) (aa:m2<=300000) (F:∀ y∈Lin.gensP n (Lin.consP n (havL n x G)),Lin.Bd (2^m3) y.2) (ab:m3<=300000) (J:(Lin.consP n (havL n x G)).length<=1022\/1024<=(Lin.consP n (havL n x G)).length) :
  Ans tab (.fn gc [v,.int .i64 (x:Int)]) H fun r H'=>xz H' r n (havL n x G)/\Kp H H':=by
 obtain ⟨vc,vg,rfl,hC,hg⟩:=hp;have oc:=hC.one;have og:=hg.one;have au:=u.dim;have av:=u.e3;have pc:de n (x:Int)=0:=by unfold de; rw [if_neg zO]
 refine bA C.q6 zU fun T hl j i=>?_;refine zW (aO hl j i (jS oc og)) ?_;refine AnsH.eq (gf C (n:=n) (x:=(x:Int)) zF ⟨vc,vg,rfl,hC.mono (zG H),hg.mono (zG H)⟩ u) fun H2 Q=>?_;rw [pc];obtain ⟨k2,_,w2⟩:=zT H zK Q;have d0:H2.get H.next=some (.cells [.int .i64 (n:Int),vc,vg] am true):=Q.get (cC)
 have d4:H2.get (H.next+1)=some (.cells [.int .i64 0,.nilSl,.nilSl] am true):=Q.get (cC);refine zW (aO hl j i d0) ?_;refine AnsH.use (Ni C zF ((hg.mono k2.sub).mono (zG H2)) zO) ?_;rintro v3 d ⟨af,w⟩;obtain ⟨k23,_,_⟩:=zT H2 zK af;have M:Kp H d:=k2.trans k23;have aw:=M.le;have w3:=M.wf;have e0:=k23.get d0;have e4:=k23.get d4;have o3:=w.sl.one;by_cases h0:G=[]
 ·have V:¬ (0:Int)<(G.length:Int):=by rw [h0]; decide
  have P:havL n x G=[]:=by unfold havL; rw [if_pos h0]
  rw [P] at L D F J ⊢;have hq:=w.sl;rw [h0] at hq;refine zW (dj hl j i w.sl.lenV V e0) ?_;refine AnsH.use (l8 C (n:=n) (m:=e) (m2:=m2) (m3:=m3) zF (hq.mono (zG d)) zO (by simp) L (fun y hy=>by cases hy) (fun y hy=>by cases hy) zO D aa F ab J) ?_;rintro v2 k ⟨hm,R⟩;have l:Kp d k:=Kp.trans zK R;have Z:=l.wf;have g:=l.get e4;have ao:=Z _ _ g;have al:=M.trans l;rcases hm with ⟨rfl,hm⟩ | ⟨rfl,hm⟩ | ⟨p,rfl,⟨W,X,rfl,s,t⟩,h1,h2⟩
  ·refine zW (bB hl j i g @jj) ?_;exact ⟨.inl ⟨rfl,hm⟩,zK⟩
  ·refine zW (bB hl j i g @jj) ?_;exact ⟨.inr (.inl ⟨rfl,hm⟩),zK⟩
  ·have ap:=s.one;have aq:=t.one;refine zW (bB hl j i g @jj) ?_;refine ⟨.inr (.inr ⟨_,rfl,⟨W,X,rfl,?_,?_⟩,h1,h2⟩),zK⟩
   ·have m3:NoTy (t_api_Con :: conE.tys) k (H.next+1):=NoTy.ty g zU;exact SlV.monoT (E:=conE) zS s
   ·have m3:NoTy (ag :: genE.tys) k (H.next+1):=NoTy.ty g zU;exact SlV.monoT (E:=genE) zS t
 ·have V:(0:Int)<(G.length:Int):=by have:=ZW.2 h0; omega
  have P:havL n x G=G++[(1,unitX n x 1)]:=by unfold havL; rw [if_neg h0]
  rw [P] at L D F J ⊢;refine zW (fo hl j i w.sl.lenV V e0 i) ?_;refine AnsH.use (qf C (n:=n) (x:=x) zF zO hx zU zU) ?_;rintro _ o ⟨⟨Y,rfl,r4⟩,I⟩;obtain ⟨A,_,_⟩:=zT d zK I;have k4:=M.trans A;have ay:=k4.wf;have n4:d.next+11<=o.next:=I.le
  have f5:o.get (d.next+8)=none:=I.free (show d.next+8<d.next+11 by omega) (w3.fresh (b:=d.next+8) zO);have f6:o.get (d.next+9)=none:=I.free (show d.next+9<d.next+11 by omega) (w3.fresh (b:=d.next+9) zO);have c0:=A.get e0;have c4:=A.get e4;have ar:=r4.one;have hf:=Fx (p:=.int .u8 0) (q:=.nilSl) (bo .u8 1) ar;have aj:=k23.trans A;have q4:Bq genE ag H2 o v3 G:=(w.weak (by show H2.next<=H2.next+6; omega)).mono A.sub;obtain ⟨N,B,O,q5,S,n5,-,-⟩:=Bq.push (ty2:=ag) (bytes:=32) (id:=d.next+9) (id2:=d.next+8) (cs:=[.int .u8 1,Y]) (a:=(1,unitX n x 1)) q4 zU aj ⟨Y,rfl,r4⟩ zO zO f6 zO zO f5 zO zO zO;have O:dr (o.put (d.next+8) (.cells [.int .u8 1,Y] ag true)) (d.next+9) 2 32 ag v3 (.own (d.next+8) 0 1 1 2 true)=some (.own (d.next+9) 0 N N 2 false,B):=O;have U:Kp H B:=k2.trans S;have ax:=U.le;have w5:=U.wf;have ad:=S.get d0;have g4:=S.get d4;have ah:∀ y∈G++[(1,unitX n x 1)],y.1=1\/y.1=2\/y.1=3:=fun y hy=>by
   rcases Wp.1 hy with h | h
   ·exact u.kinds y h
   ·rw [Wl] at h; subst h; exact .inl rfl
  have ae:∀ y∈G++[(1,unitX n x 1)],Lin.Bd (2^e) y.2:=fun y hy=>by
   rcases Wp.1 hy with h | h
   ·exact (u.rowG y h).2
   ·rw [Wl] at h; subst h;refine pw fun z hz=>?_;have p1:1<=2^e:=WL zU;rcases XM hz with h | rfl
    ·have:=Xz h
     subst this; exact Wd _
    ·omega
  refine zW (aO hl hf O ad) ?_;refine AnsH.use (l8 C (n:=n) (m:=e) (m2:=m2) (m3:=m3) zF (q5.sl.mono (zG B)) zO (by rw [Wm]; simp; omega) L ah ae zO D aa F ab J) ?_;rintro v2 k ⟨hm,R⟩;have l:Kp B k:=Kp.trans zK R;have Z:=l.wf;have g:=l.get g4;have ao:=Z _ _ g;have al:=U.trans l;rcases hm with ⟨rfl,hm⟩ | ⟨rfl,hm⟩ | ⟨p,rfl,⟨W,X,rfl,s,t⟩,h1,h2⟩
  ·refine zW (bB hl j i g @jj) ?_;exact ⟨.inl ⟨rfl,hm⟩,zK⟩
  ·refine zW (bB hl j i g @jj) ?_;exact ⟨.inr (.inl ⟨rfl,hm⟩),zK⟩
  ·have ap:=s.one;have aq:=t.one;refine zW (bB hl j i g @jj) ?_;refine ⟨.inr (.inr ⟨_,rfl,⟨W,X,rfl,?_,?_⟩,h1,h2⟩),zK⟩
   ·have m3:NoTy (t_api_Con :: conE.tys) k (H.next+1):=NoTy.ty g zU;exact SlV.monoT (E:=conE) zS s
   ·have m3:NoTy (ag :: genE.tys) k (H.next+1):=NoTy.ty g zU;exact SlV.monoT (E:=genE) zS t
end
section
variable {tab:Nat->Option aA} {H:Heap}
set_option maxHeartbeats 1000000 in
def Al (C:Code tab) (p:Wf H) {v:AV} {n e f:Nat} {x:Int} {K:List (List Int × Bool)} {G:List (Nat × List Int)} (hp:PolyV H v n K G) (j:PolyOK n e f K G) (i:de n x≠0) :
  Ans tab (.fn gc [v,.int .i64 x]) H fun r H'=>(∃ c:Int,c≠0/\r=.tup [rr,.int .i64 c])/\Kp H H':=by
 obtain ⟨m,o,rfl,d,hg⟩:=hp;have k:=d.one;have l:=hg.one;refine bA C.q6 zU fun T hl a b=>?_;refine zW (aO hl a b (jS k l)) ?_;refine AnsH.eq (gf C (n:=n) (x:=x) zF ⟨m,o,rfl,d.mono (zG H),hg.mono (zG H)⟩ j) fun H2 h=>?_;obtain ⟨k2,_,w2⟩:=zT H zK h;have d4:H2.get (H.next+1)=some (.cells [.int .i64 0,.nilSl,.nilSl] am true):=h.get (cC);have q:=w2 _ _ d4;have g:¬ de n x=0:=i;refine zW (dj hl a b g d4 @jj) ?_;exact ⟨⟨_,g,rfl⟩,zK⟩
def Eu (C:Code tab) (h:Wf H) {s:AV} {l:List Int} (hs:RowV H s l) (c:l.length<1099511627776) (hz:∀ z∈l,dD z) :
  Ans tab (.fn pN [s]) H fun v H'=>Kp H H'/\∃ b,Own intE aa H H' b true v l:=by
 refine cT C.q43 zU fun T hl a=>?_;refine zW (aE hl a) ?_;refine AnsH.use (vJ C zF (hs.mono (zG H)) c (fun _ z=>z) fun i hi H' w d g=>yP C d.wf g (hz _ (V4 hi))) ?_;rintro v H2 ⟨f,b,hr⟩;obtain ⟨k2,_,_⟩:=zT H zK f;have e:l.mapIdx (fun _ z=>z)=l:=by apply XP <;> simp
 rw [e] at hr;obtain ⟨cells,rfl,hb,hc,hge⟩:=hr;have hge:H.next+4<=b:=hge
 refine zW (aE hl a) ?_;exact ⟨zK,b,cells,rfl,hb,hc,zO⟩
set_option maxHeartbeats 2000000 in
def BU (C:Code tab) (hw:Wf H) {va w vb:AV} {k n x e f m:Nat} {a r:List Int} {z:Int} (ha:RowV H va a) (hr:RowV H w r) (hz:IntV H vb z) (bc:a.length=n+1) (bh:r.length=n+1) (hx:x<n) (hn:n<=60) (ay:∀ z∈a,Bt e z) (ah:∀ z∈r,Bt f z) (aP:Bt m z) (bf:e+f+7<=100000000) (bd:f+m<=100000000) :
  Ans tab (.fn iF [.agg [.int .u8 (k:Int),w],.int .i64 (x:Int),va,vb]) H fun v H'=>(∃ w',v=.agg [.int .u8 3,w']/\RowV H' w' (Lin.mvR x a z r))/\Kp H H':=by
 obtain ⟨pz,rfl,aL⟩:=hz;have oz:=aL.one;have oa:=ha.one;have ow:=hr.one;refine Am C.q10 rfl rfl zU fun T hl g=>?_;have hl:T.length=45:=hl;have a7:c_facetroomlaw23_at.results=[(8,some (some 2))]:=rfl;have g0:ad T 0=.agg [.int .u8 (k:Int),w]:=g 0 (by simp);have o:ad T 1=.int .i64 (x:Int):=g 1 (by simp);have K:ad T 2=va:=g 2 (by simp);have g3:ad T 3=.agg [.bool (decide (z<0)),pz]:=g 3 (by simp);clear g;refine aI ?_;refine zW (dj hl g0 g3 (sB ow) (HN (ai (decide (z<0))) oz) @aw) ?_;obtain ⟨d,B⟩:∃ X,X=(((H.up 3).put H.next (.cells [.int .u8 (k:Int),w] ag true)).put (H.next+1) (.cells [.bool (decide (z<0)),pz] aa true)).put (H.next+2) (.cells [.int .u8 0,.nilSl] ag true):=⟨_,rfl⟩
 have k1:Kp H d:=by rw [B]; exact zK
 have bk:=k1.le;have w1:=k1.wf;have b0:d.get H.next=some (.cells [.int .u8 (k:Int),w] ag true):=by rw [B,au zO,au zO,al]
 have b1:d.get (H.next+1)=some (.cells [.bool (decide (z<0)),pz] aa true):=by rw [B,au zO,al]
 have b2:d.get (H.next+2)=some (.cells [.int .u8 0,.nilSl] ag true):=by rw [B,al]
 have n1:d.next=H.next+3:=by rw [B]; rfl
 rw [<- B];clear B;refine dC (fun T'=>T'.length=45/\ad T' 1=.int .i64 (x:Int)/\ad T' 2=va/\ad T' 4=.ptr H.next 0/\ad T' 7=.ptr (H.next+1) 0/\ad T' 8=.ptr (H.next+2) 0) (zV (aD hl o K)) ?_;clear hl g0 o K g3;rintro T ⟨hl,o,K,l,G,p⟩;have aK:a.length=r.length:=zO;have aJ:=nf ay ah aK zO;refine aI ?_;refine zW (aO hl K l @b0) ?_;refine AnsH.use (mB C zF ((ha.mono k1.sub).mono (zG d)) ((hr.mono k1.sub).mono (zG d)) aK zO ay ah zO) ?_;rintro _ H2 ⟨_,rfl,⟨pn,rfl,ab⟩,W⟩;obtain ⟨k2,_,w2⟩:=zT d zK W;have on:=ab.one;have n2:d.next+10<=H2.next:=W.le
 have f2:H2.get (d.next+7)=none:=W.free (show d.next+7<d.next+10 by omega) (w1.fresh (b:=d.next+7) zO);obtain ⟨D,hD⟩:∃ D,D=Lin.dot a r:=⟨_,rfl⟩
 rw [<- hD] at ab aJ ⊢;obtain ⟨h,L⟩:∃ X,X=(H2.put (d.next+7) (.cells [.bool false,.nilSl] aa true)).put (d.next+7) (.cells [.bool (decide (D<0)),pn] aa true):=⟨_,rfl⟩
 have a9:Sub H2 h:=by rw [L]; exact (aG f2).put f2 _
 have t:Kp d h:=by rw [L]; exact zK
 have e2:h.get (d.next+7)=some (.cells [.bool (decide (D<0)),pn] aa true):=by rw [L,al]
 have a2:=ab.mono a9;have Q:=t.get b0;have c1:=t.get b1;have c2:=t.get b2;have ap:=hr.mono (k1.trans t).sub;have a5:=aL.mono (k1.trans t).sub;have bb:=t.wf;refine zW (aE hl @aw) ?_;rw [<- L];refine dC (fun T'=>T'.length=45/\ad T' 1=.int .i64 (x:Int)/\ad T' 4=.ptr H.next 0/\ad T' 7=.ptr (H.next+1) 0/\ad T' 8=.ptr (H.next+2) 0/\ad T' 9=.ptr (d.next+7) 0) (zV (bB hl o l G p)) ?_;clear hl o K l G p L f2 W ab;rintro T ⟨hl,o,l,G,p,A⟩;have af:0<r.length:=zO;have ax:r[0]=Lin.hd1 r:=by
  cases r with
  | nil=>simp at af
  | cons _ _=>rfl
 have aQ:cS 2 w (.int .i64 0)=some (aB w (0*2)):=SlV.idx ap .i64 0 af;obtain ⟨w0,aN,aj,-⟩:=iZ ap af;rw [ax] at aN aj;have aq:Bt f (Lin.hd1 r):=by rw [<- ax]; exact ah _ (V4 af)
 refine aI ?_;refine aF ?_;refine zD (fo hl l G Q @c1 aQ aj) ?_;refine AnsH.use (xD C (x:=Lin.hd1 r) (y:=z) zF ⟨w0,rfl,aN.mono (zG h)⟩ ⟨pz,rfl,a5.mono (zG h)⟩ (aq.len zO) (aP.len zO)) ?_;rintro _ P ⟨_,rfl,⟨pm,rfl,Z⟩,Y⟩;obtain ⟨M,hM⟩:∃ q,q=Lin.hd1 r*z:=⟨_,rfl⟩
 have aS:Bt (f+m) M:=by rw [hM]; exact aq.mul aP
 rw [<- hM] at Z ⊢;obtain ⟨k3,_,w3⟩:=zT h zK Y;have om:=Z.one;have n3:h.next+12<=P.next:=Y.le
 have f3:P.get (h.next+9)=none:=Y.free (show h.next+9<h.next+12 by omega) (bb.fresh (b:=h.next+9) zO);obtain ⟨s,N⟩:∃ X,X=(P.put (h.next+9) (.cells [.bool false,.nilSl] aa true)).put (h.next+9) (.cells [.bool (decide (M<0)),pm] aa true):=⟨_,rfl⟩
 have ba:Sub P s:=by rw [N]; exact (aG f3).put f3 _
 have u:Kp h s:=by rw [N]; exact zK
 have m3:s.get (h.next+9)=some (.cells [.bool (decide (M<0)),pm] aa true):=by rw [N,al]
 have a0:=Z.mono ba;have bn:=u.wf;have d0:=u.get Q;have d2:=u.get c2;have e3:=u.get e2;have a3:=a2.mono u.sub;have a6:=ap.mono u.sub;have ar:=k3.get Q;have av:=k3.get c1;have aR:=bD k3.sub aj;refine zD (ia hl l G Q @c1 ar av aQ aj aR @aw) ?_;rw [<- N];refine dC (fun T'=>T'.length=45/\ad T' 1=.int .i64 (x:Int)/\ad T' 4=.ptr H.next 0/\ad T' 8=.ptr (H.next+2) 0/\ad T' 9=.ptr (d.next+7) 0/\ad T' 11=.ptr (h.next+9) 0) (zE (bB hl o l p A)) ?_;clear hl o l G p A N f3 Y Z ar av aR;rintro T ⟨hl,o,l,p,A,U⟩;refine aI ?_;refine zW (aD hl l d0) ?_;refine AnsH.use (Eu C zF (a6.mono (zG s)) zO fun z hz=>(ah z hz).sm zO) ?_;rintro v4 H4 ⟨aY,b4,cells,rfl,aT,aH,aW⟩;obtain ⟨F,_,w4⟩:=zT s zK aY;have i0:=F.get d0;have i2:=F.get d2;have i9:=F.get e3;have a8:=F.get m3;have a4:=a3.mono F.sub;have a1:=a0.mono F.sub;have hge:s.next<=b4:=by have:s.next+4<=b4:=aW; omega
 refine zW (aE hl @aw) ?_;refine dC (fun T'=>T'.length=45/\ad T' 1=.int .i64 (x:Int)/\ad T' 4=.ptr H.next 0/\ad T' 8=.ptr (H.next+2) 0/\ad T' 9=.ptr (d.next+7) 0/\ad T' 11=.ptr (h.next+9) 0/\ad T' 13=.own b4 0 r.length r.length 2 true) (by refine zW (dj hl o l p A U) ?_; rfl) ?_;clear hl o l p A U;rintro T ⟨hl,o,l,p,A,U,g13⟩;have ex:IntKind.i64.wrap ((x:Int)+1)=((x+1:Nat):Int):=by rw [wrap_i64] <;> omega
 have aX:cS 2 (.own b4 0 r.length r.length 2 true) (.int .i64 ((x+1:Nat):Int))=some (.ptr b4 ((x+1)*2)):=by
  have:=jB (b:=b4) (off:=0) (n:=r.length) (c:=r.length) (sz:=2) (x:=true) (k:=.i64) (j:=x+1) zO
  simpa using this
 have bg:cells.length=r.length*2:=aH.1;refine aI ?_;refine zW (fX hl o A U @g13 ex i9 a8) ?_;refine AnsH.use (xF C (x:=D) (y:=M) zF ⟨pn,rfl,a4.mono (zG H4)⟩ ⟨pm,rfl,a1.mono (zG H4)⟩ (aJ.sm zO) (aS.sm zO)) ?_;rintro _ I ⟨_,rfl,⟨ps,rfl,ao⟩,aZ⟩;obtain ⟨S,hS⟩:∃ q,q=D+M:=⟨_,rfl⟩
 rw [<- hS] at ao ⊢;obtain ⟨O,_,w5⟩:=zT H4 zK aZ;have os:=ao.one;have am:=O.get aT;have j0:=O.get i0;have j2:=O.get i2;have bm:=w5 _ _ am;have aM:CS (some (.cells cells aa true)) 2 ((x+1)*2) (.agg [.bool (decide (S<0)),ps])=some (.cells (cells.take ((x+1)*2)++[.bool (decide (S<0)),ps]++cells.drop ((x+1)*2+2)) aa true):=fR (zg (ai _) os) zO;obtain ⟨R,aC⟩:∃ c,c=cells.take ((x+1)*2)++[.bool (decide (S<0)),ps]++cells.drop ((x+1)*2+2):=⟨_,rfl⟩
 rw [<- aC] at aM;have aU:Cells intE I R (r.set (x+1) S):=by rw [aC]; exact (Cells.mono (E:=intE) (O.sub.t _) aH).set (i:=x+1) zO ⟨ps,rfl,ao⟩
 have bi:Kp H I:=k1.trans (t.trans (u.trans (F.trans O)));have bj:H.next+3<=s.next:=by have:=t.le; have:=u.le; omega
 refine zW (dj hl @g13 aX am aM @aw) ?_;refine aI ?_;refine zW (fo hl l p @g13 j0 j2 @aw) ?_;refine WC.wb ?_;refine zW (aD hl p a7) ?_;have m4:NoTy [ae] I b4:=NoTy.ty am zU;have m2:NoTy [ae] I (H.next+2):=NoTy.ty j2 zU;obtain ⟨J,V⟩:∃ J,J=((I.up 3).put b4 (.cells R aa true)).put (H.next+2) (.cells [.int .u8 3,.own b4 0 r.length r.length 2 true] ag true):=⟨_,rfl⟩
 have er:Lin.mvR x a z r=r.set (x+1) S:=by unfold Lin.mvR; rw [hS,hM,<- hD]
 have aV:Cells intE J R (r.set (x+1) S):=by rw [V]; exact Cells.mono (E:=intE) zS aU
 have bl:=w5 _ _ j2;have kx:Kp H J:=by rw [V]; exact zK
 have:Own intE aa H J b4 true (.own b4 0 r.length r.length 2 true) (r.set (x+1) S):=⟨R,by rw [VX]; rfl,by rw [V,au zO]; exact al _ _ _,aV,zO⟩
 rw [<- V,er];exact ⟨⟨_,rfl,this.sl⟩,kx⟩
end
section
variable {tab:Nat->Option aA} {H:Heap} {s:AV}
def C5 (C:Code tab) (h:Wf H) {n:Int} {l:List tP} (hs:SlV genQE ag H s l) (d:∀ c∈l,nr c.2) (e:∀ c∈l,∀ z∈c.2,Lim z.2/\z.2.length<=1048576) (g:l.length<4611686018427387904) (hc:bI n l≠0) :
  Ans tab (.fn nC [.int .i64 n,s]) H fun v H'=>v=.tup [.nilSl,.int .i64 (bI n l)]/\Kp H H':=by
 refine bA C.q34 zU fun T hl a b=>?_;refine zW (aD hl a b) ?_;refine AnsH.eq (kH C zF (hs.mono (zG H)) d e g) fun H2 f=>?_;obtain ⟨k2,_,_⟩:=zT H zK f;have hc:¬ bI n l=0:=hc;refine zW (aO hl a b hc) ?_;exact zK
def FC (C:Code tab) (t:Wf H) {n m:Nat} {g:List (Nat × List Int)} (hs:SlV genE ag H s g) (hn:n<=4) (q:g.length<=60) (f:Lin.ValidG n g) (l:∀ x∈g,x.1=1\/x.1=2\/x.1=3) (d:∀ c∈g,Lin.Bd (2^m) c.2) (hm:m<=300000) :
  Ans tab (.fn nC [.int .i64 (n:Int),s]) H fun v H'=>(∃ w,v=.tup [w,.int .i64 0]/\SlV conE t_api_Con H' w (Lin.consP n g))/\Kp H H':=by
 have e:∀ c∈g,c.2.length=n+1/\Lin.Bd (2^m) c.2:=fun c hc=>⟨(f c hc).1,d c hc⟩
 have j:∀ c∈g.map fun c=>(c.1,c.2.map bF),∀ z∈c.2,Lim z.2/\z.2.length<=1048576:=fun c hc z hz=>by
  obtain ⟨x,hx,rfl⟩:=V5.1 hc;obtain ⟨y,hy,rfl⟩:=V5.1 hz;have hb:=fu (d x hx) y hy;exact ⟨aY _,iN (n:=y.natAbs) (k:=1048576) (m:=m+1) hb zO⟩
 refine bA C.q34 zU fun T hl a b=>?_;refine zW (aD hl a b) ?_;refine AnsH.eq (kH C zF ((B6 hs).mono (zG H)) (K9 (n:=n) zO fun c hc=>⟨(e c hc).1,fun z hz=>(fu (d c hc) z hz).sm zO⟩) j (by rw [V7]; omega)) fun H2 o=>?_;rw [zu zO q f l];obtain ⟨k2,_,w2⟩:=zT H zK o;refine zW (aD hl a b) ?_;refine AnsH.use (yr C zF ((hs.mono k2.sub).mono (zG H2)) hn zO (IS zO hn) e zO) ?_;rintro v h ⟨i,p⟩;have r:Kp H h:=k2.trans (Kp.trans zK p);have u:=r.le;refine zW (aD hl a b) ?_;exact ⟨⟨v,rfl,i⟩,zK⟩
def kS (C:Code tab) (E:Wf H) {v w:AV} {n e f e' k:Nat} {K:List (List Int × Bool)} {G:List (Nat × List Int)} {r:List Int} (hp:PolyV H v n K G) (b:PolyOK n e f K G) (hr:RowV H w r) (p:Lin.ValidG n [(k,r)]) (t:k=1\/k=2\/k=3) (hb:Lin.Bd (2^e') r) (he:e'<=300000) :
  Ans tab (.fn mQ [v,.agg [.int .u8 (k:Int),w]]) H fun x H'=>x=.tup [.bool (Lin.inP [(k,r)] K),.int .i64 0]/\Kp H H':=by
 have D:=hp;obtain ⟨i,j,rfl,hc,hg⟩:=hp;have A:=hc.one;have B:=hg.one;have q:=hr.one;have l:cE [.int .u8 0,.nilSl] [((0,2),.agg [.int .u8 (k:Int),w])]=some (.agg [.int .u8 (k:Int),w]):=by simp [cE,cB,AV.cells,q.2,(bo .u8 (k:Int)).2]
 refine bA C.q8 zU fun T hl d g=>?_;refine zW (dj hl d g (jS A B) (sB q) @jj) ?_;refine AnsH.eq (uJ C zF ⟨i,j,rfl,hc.mono (zG H),hg.mono (zG H)⟩ b) fun H2 h=>?_;obtain ⟨k2,_,w2⟩:=zT H zK h;have d0:H2.get H.next=some (.cells [.int .i64 (n:Int),i,j] am true):=h.get (cC)
 have d1:H2.get (H.next+1)=some (.cells [.int .u8 (k:Int),w] ag true):=h.get (cC);refine zW (dj hl d g d0 d1 l) ?_;refine AnsH.use (FC C (n:=n) (m:=e') zF (Sb (al _ _ _) ((hr.mono k2.sub).mono (zG H2))) b.dim (by simp) p (fun x hx=>by rw [Wl] at hx; subst hx; exact t) (fun x hx=>by rw [Wl] at hx; subst hx; exact hb) he) ?_;rintro x a ⟨⟨u,rfl,-⟩,o⟩;obtain ⟨k23,_,_⟩:=zT H2 zK o;have c:Kp H a:=k2.trans k23;have I:=c.le;have M:=c.wf;have L:H2.next+12<=a.next:=o.le
 have d0:a.get H.next=some (.cells [.int .i64 (n:Int),i,j] am true):=k23.get d0
 have d1:a.get (H.next+1)=some (.cells [.int .u8 (k:Int),w] ag true):=k23.get d1;have F:=b.lenK;have f3:=b.f3;have hn:=b.dim;refine zW (dj hl d g d0 d1 l) ?_;refine AnsH.eq (IU C (n:=n) (e:=e') (f:=f) zF (Sb (al _ _ _) ((hr.mono c.sub).mono (zG a))) ((hc.mono c.sub).mono (zG a)) (fun x hx=>by rw [Wl] at hx; subst hx; exact ⟨(p _ (Wl.2 rfl)).1,hb⟩) b.rowK zO (by simp) zO zO) fun s y=>?_;have z:Kp H s:=c.trans (Kp.trans zK y);have J:=z.le;refine zW (aD hl d g) ?_;exact zK
def EV (C:Code tab) (D:Wf H) {v w:AV} {n e f:Nat} {K:List (List Int × Bool)} {G:List (Nat × List Int)} {r:tP} (hp:PolyV H v n K G) (A:PolyOK n e f K G) (hr:SlV rawE aa H w r.2) (t:nr r.2) (u:∀ z∈r.2,Lim z.2/\z.2.length<=1048576) (hc:bI n [r]≠0) :
  Ans tab (.fn mQ [v,.agg [.int .u8 (r.1:Int),w]]) H fun x H'=>x=.tup [.bool false,.int .i64 (bI n [r])]/\Kp H H':=by
 obtain ⟨o,p,rfl,k,hg⟩:=hp;have F:=k.one;have I:=hg.one;have m:=hr.one;have s:cE [.int .u8 0,.nilSl] [((0,2),.agg [.int .u8 (r.1:Int),w])]=some (.agg [.int .u8 (r.1:Int),w]):=by simp [cE,cB,AV.cells,m.2,(bo .u8 (r.1:Int)).2]
 refine bA C.q8 zU fun T hl d g=>?_;refine zW (dj hl d g (jS F I) (sB m) @jj) ?_;refine AnsH.eq (uJ C zF ⟨o,p,rfl,k.mono (zG H),hg.mono (zG H)⟩ A) fun H2 j=>?_;obtain ⟨k2,_,w2⟩:=zT H zK j;have d0:H2.get H.next=some (.cells [.int .i64 (n:Int),o,p] am true):=j.get (cC)
 have d1:H2.get (H.next+1)=some (.cells [.int .u8 (r.1:Int),w] ag true):=j.get (cC);refine zW (dj hl d g d0 d1 s) ?_;have B:Sub H ((H2.up 12).put (H2.next+5) (.cells [.int .u8 (r.1:Int),w] ag true)):=((k2.sub.trans (Sub.bump H2 12)).put (D.fresh (b:=H2.next+5) (by have:=k2.le; omega)) _)
 refine AnsH.eq (C5 C (n:=(n:Int)) (l:=[r]) zF ⟨_,Rd.own (al _ _ _) rfl (V6 _),fun _ _ _ _ _ _ e=>by cases e; exact ⟨_,_,al _ _ _⟩,rfl,fun i a hi=>by
  match i with
  | 0=>simp at hi; subst hi; exact ⟨w,rfl,hr.mono B⟩
  | i+1=>simp at hi⟩ (fun c h=>by rw [Wl] at h; subst h; exact t) (fun c h=>by rw [Wl] at h; subst h; exact u) (by simp) hc) fun q y=>?_
 have E:Kp H q:=k2.trans (Kp.trans zK y);have J:=E.le;have hc:¬ bI n [r]=0:=hc;refine zW (aO hl d g hc) ?_;exact zK
end
section
variable {tab:Nat->Option aA} {H:Heap}
set_option maxHeartbeats 1000000 in
def B4 (C:Code tab) (E:Wf H) {v w:AV} {n e f:Nat} {x:Int} {K:List (List Int × Bool)} {G:List (Nat × List Int)} {l:List (Bool × List Nat)} (hp:PolyV H v n K G) (o:PolyOK n e f K G) (hs:SlV rawE aa H w l) (y:nr l) (u:de n x≠0\/gC n l≠0) :
  Ans tab (.fn jy [v,.int .i64 x,w]) H fun r H'=>(∃ c:Int,c≠0/\r=.tup [rr,.int .i64 c])/\Kp H H':=by
 obtain ⟨k,m,rfl,i,hg⟩:=hp;have A:=i.one;have B:=hg.one;have I:=hs.one;have D:=o.dim;refine lC C.q7 (by decide) fun T hl b d a=>?_;refine zW (bB hl b d a (jS A B)) ?_;refine AnsH.eq (gf C (n:=n) (x:=x) zF ⟨k,m,rfl,i.mono (Kp.sub (H:=H) zK),hg.mono (Kp.sub (H:=H) zK)⟩ o) fun H2 j=>?_;obtain ⟨k2,_,w2⟩:=zT H zK j;have d0:H2.get H.next=some (.cells [.int .i64 (n:Int),k,m] am true):=j.get (cC)
 have d1:H2.get (H.next+1)=some (.cells [.int .i64 0,.nilSl,.nilSl] am true):=j.get (cC);by_cases g:de n x=0
 ·have p:¬ gC n l=0:=by
   rcases u with h | h
   ·exact absurd g h
   ·exact h
  refine zW (fo hl b d a g a d0) ?_;refine AnsH.eq (nH C (n:=n) zF ⟨k,m,rfl,(i.mono k2.sub).mono (Kp.sub (H:=H2) zK),(hg.mono k2.sub).mono (Kp.sub (H:=H2) zK)⟩ zO ((hs.mono k2.sub).mono (Kp.sub (H:=H2) zK)) y) fun s z=>?_;obtain ⟨k23,_,_⟩:=zT H2 zK z;have q:Kp H s:=k2.trans k23;have F:=q.le;have J:=q.wf;have t:=k23.get d1;refine zW (fX hl b d a p @t @jj @jS) ?_;exact ⟨⟨_,p,rfl⟩,zK⟩
 ·refine zW (fo hl b d a g d1 @jj) ?_;exact ⟨⟨_,g,rfl⟩,zK⟩
end
end Go.Proofs.YteaefaohjlmjdaaGreat.Ev
