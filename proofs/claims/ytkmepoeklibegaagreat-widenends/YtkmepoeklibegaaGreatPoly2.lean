/- A part. -/
import Derived.Test.YtkmepoeklibegaaGreatA0
import Derived.Test.YtkmepoeklibegaaGreatN48
import Derived.Test.YtkmepoeklibegaaGreatN22
import Derived.Test.YtkmepoeklibegaaGreatGens
import Derived.Test.YtkmepoeklibegaaGreatN7
import Derived.Test.YtkmepoeklibegaaGreatN38
set_option linter.all false
namespace Go.Proofs.YtkmepoeklibegaaGreat.Lin
section
variable {n:Nat} {l m:List (V × Bool)}
def jV (hne:gensP n l≠[]):(gensR (n+1) (eqsOf l) (ineqsOf n l)).any (fun r=>decide (0<hd1 r))=true:=by
 cases hs:(gensR (n+1) (eqsOf l) (ineqsOf n l)).any (fun r=>decide (0<hd1 r)) with
 | true=>rfl
 | false=>exact absurd (by unfold gensP; rw [if_neg (by rw [hs]; decide)]) hne
def fj (h:∀ c∈l,c.1.length=n+1):gensP n l≠[] ↔ ∃ x,dm n l x/\0<hd1 x:=by
 constructor
 ·intro hne
  have:=jV hne
  rw [VY] at this;obtain ⟨r,hr,h0⟩:=this;exact ⟨r,NC h hr,of_decide_eq_true h0⟩
 ·rintro ⟨x,hx,h0⟩ he;have hs:¬ (gensR (n+1) (eqsOf l) (ineqsOf n l)).any (fun r=>decide (0<hd1 r))=true:=fun hs=>by
   have:=(mL hs).2.2
   rw [he] at this;cases this
  have t:=gens_told (eqs_len h) (ineqs_len h);have h1:∀ r∈gensR (n+1) (eqsOf l) (ineqsOf n l),dot (unitC n 1) r=0:=fun r hr=>by
   rw [eI];have h2:=(keepP_iff.1 (NC h hr)).2.1;have h3:¬ 0<hd1 r:=fun h3=>hs (VY.2 ⟨r,hr,by simpa using h3⟩);omega
  have h2:∀ r∈gensL (n+1) (eqsOf l) (ineqsOf n l),dot (unitC n 1) r=0:=fun r hr=>t.dd.lineI r hr _ (mem_ineqs.2 (.inl rfl))
  have:=(t.dd.all x hx).dot_zero t.dd.lenL t.dd.lenR h2 h1
  rw [eI] at this;omega
def keepsP_true {c:V × Bool} {g:Nat × V}:keepsP c g=true ↔ (if c.2=true\/g.1=1 then dot c.1 g.2=0 else 0<=dot c.1 g.2):=by
 unfold keepsP;by_cases h:c.2=true\/g.1=1
 ·rw [if_pos h,if_pos (by simpa using h)]; simp
 ·rw [if_neg h,if_neg (by simpa using h)]; simp
def pf (h:∀ c∈l,c.1.length=n+1) (hne:gensP n l≠[]) {c:V × Bool}:(∀ g∈gensP n l,keepsP c g=true) ↔ Bs n l c:=by
 constructor
 ·intro b x hx;have t:=gens_told (eqs_len h) (ineqs_len h);have hs:=jV hne;have e:gensP n l=(gensL (n+1) (eqsOf l) (ineqsOf n l)).map (fun r=>(1,r))++(gensR (n+1) (eqsOf l) (ineqsOf n l)).map (fun r=>(kindOf r,r)):=by
   unfold gensP; rw [if_pos hs]
  have hL:∀ r∈gensL (n+1) (eqsOf l) (ineqsOf n l),dot c.1 r=0:=fun r hr=>by
   have:=b (1,r) (by rw [e]; exact WH _ (Vl.2 ⟨r,hr,rfl⟩))
   rw [keepsP_true,if_pos (.inr rfl)] at this;exact this
  have a:∀ r∈gensR (n+1) (eqsOf l) (ineqsOf n l),(c.2=true->dot c.1 r=0)/\0<=dot c.1 r:=fun r hr=>by
   have:=b (kindOf r,r) (by rw [e]; exact W3 _ (Vl.2 ⟨r,hr,rfl⟩))
   rw [keepsP_true] at this;split at this
   ·exact ⟨fun _=>this,by simp only at this; omega⟩
   ·rename_i hc;exact ⟨fun e=>absurd (.inl e) hc,this⟩
  exact ⟨fun hb=>(t.dd.all x hx).dot_zero t.dd.lenL t.dd.lenR hL fun r hr=>(a r hr).1 hb,(t.dd.all x hx).dot_nonneg t.dd.lenL t.dd.lenR hL fun r hr=>(a r hr).2⟩
 ·intro d g hg;obtain ⟨k1,k2⟩:=mM h hg;exact lz d k1 k2
def inP (G:List (Nat × V)) (K:List (V × Bool)):Bool:=G.all fun g=>K.all fun c=>keepsP c g
def inP_iff {G:List (Nat × V)} {K:List (V × Bool)}:inP G K=true ↔ ∀ g∈G,∀ c∈K,keepsP c g=true:=by
 unfold inP;rw [VJ];exact ⟨fun h g hg=>VJ.1 (h g hg),fun h g hg=>VJ.2 (h g hg)⟩
def DN {x:V} (hx:dm n l x) (a:∀ c∈m,Bs n l c):dm n m x:=by
 have:=keepP_iff.1 hx
 exact keepP_iff.2 ⟨this.1,this.2.1,fun c hc=>⟨(a c hc x hx).1,fun _=>(a c hc x hx).2⟩⟩
def in_iff (hl:∀ c∈l,c.1.length=n+1) (hm:∀ c∈m,c.1.length=n+1):inP (gensP n l) (consP n (gensP n m))=true ↔ (gensP n l=[]\/∀ x,dm n l x->dm n m x):=by
 rw [inP_iff];by_cases he:gensP n l=[]
 ·rw [he]; simp
 constructor
 ·intro h
  right
  have d:∀ c∈consP n (gensP n m),Bs n l c:=fun c hc=>(pf hl he).1 fun g hg=>h g hg c hc;obtain ⟨a,f,p0⟩:=(fj hl).1 he;have b:gensP n m≠[]:=fun e=>by
   rw [e] at d
   have:=(d (unitC n (-1),false) (Wl.2 rfl) a f).2
   rw [eI] at this;omega
  intro x hx;exact (qG hm (jV b) x).1 (DN hx d)
 ·rintro (h | h)
  ·exact absurd h he
  obtain ⟨a,f,p0⟩:=(fj hl).1 he;have b:gensP n m≠[]:=(fj hm).2 ⟨a,h a f,p0⟩;intro g hg c hc;exact (pf hl he).2 (fun x hx=>wm hc x ((qG hm (jV b) x).2 (h x hx))) g hg
structure Own (n:Nat) (K:List (V × Bool)) (G:List (Nat × V)):Prop where
 rows:∀ c∈K,c.1.length=n+1
 gens:gensP n K=G
 cons:consP n G=K
def own_of (h:∀ c∈l,c.1.length=n+1):Own n (consP n (gensP n l)) (gensP n l):=⟨kE (sj h),KU h,rfl⟩
def Own.valid {K:List (V × Bool)} {G:List (Nat × V)} (h:Own n K G):ValidG n G:=by rw [<- h.gens]; exact FH h.rows
def Own.point {K:List (V × Bool)} {G:List (Nat × V)} (h:Own n K G) (hne:G≠[]):G.any (fun x=>x.1 == 3)=true:=by
 have:=h.gens; rw [<- this] at hne ⊢; exact Hl hne
def Own.in_iff {K K':List (V × Bool)} {G G':List (Nat × V)} (h:Own n K G) (h':Own n K' G'):inP G K'=true ↔ (G=[]\/∀ x,dm n K x->dm n K' x):=by
 have:=Lin.in_iff (n:=n) h.rows h'.rows
 rw [h.gens,h'.gens,h'.cons] at this;exact this
section
variable {K K' Kr:List (V × Bool)} {G G' Gr:List (Nat × V)}
end
section
variable {g g':List (Nat × V)}
def oF (hg:ValidG n g) (h3:g.any (fun x=>x.1 == 3)=true):gensP n (consP n g)≠[]:=by
 have a:=h3;rw [VY] at a;obtain ⟨x,hx,e⟩:=a;refine (fj (kE fun x hx=>(hg x hx).1)).2 ⟨x.2,(rT hg h3 hx).1,(hg x hx).2.1 (by simpa using e)⟩
def NO (h3:¬ g.any (fun x=>x.1 == 3)=true):consP n g=[(unitC n (-1),false)]:=by
 unfold consP; rw [if_neg h3]
def Ku (hg:ValidG n g):consP n (gensP n (consP n g))=consP n g:=by
 by_cases h3:g.any (fun x=>x.1 == 3)=true
 ·have e1:∀ a∈linesOf g,a.length=n+1:=fun a ha=>(hg _ (mem_lines.1 ha)).1;have e2:∀ a∈raysOf g,a.length=n+1:=fun a ha=>by obtain ⟨k,-,h⟩:=mem_rays.1 ha; exact (hg _ h).1
  have t:=gens_told e1 e2;have hl:=kE (n:=n) (g:=g) fun x hx=>(hg x hx).1;have c:=gens_told (eqs_len hl) (ineqs_len hl);have hne:=oF hg h3;obtain ⟨p1,p2,e⟩:=mL (jV hne);have t3:=gens_told c.dd.lenL c.dd.lenR;have d:∀ y,Keep (n+1) (· ∈ gensL (n+1) (eqsOf (consP n g)) (ineqsOf n (consP n g))) (· ∈ gensR (n+1) (eqsOf (consP n g)) (ineqsOf n (consP n g))) y ↔ Keep (n+1) (· ∈ linesOf g) (· ∈ raysOf g) y:=fun y=>by
   constructor
   ·intro hy;have key:∀ x,dm n (consP n g) x->0<=dot y x:=fun x hx=>(c.dd.all x hx).dot_nonneg c.dd.lenL c.dd.lenR (fun l hl=>by rw [dot_comm]; exact hy.eq l hl) (fun r hr=>by rw [dot_comm]; exact hy.ge r hr);refine ⟨hy.len,fun a ha=>?_,fun b hb=>?_⟩
    ·obtain ⟨q1,q2⟩:=rT hg h3 (mem_lines.1 ha);have r1:=key _ q1;have r2:=key _ (q2 rfl);rw [dot_scl] at r2;rw [dot_comm];simp only at r1 r2;omega
    ·obtain ⟨k,-,hm⟩:=mem_rays.1 hb
     have:=key _ (rT hg h3 hm).1
     rw [dot_comm]; exact this
   ·intro hy;have hc:=t.dd.all y hy;have key:∀ x,dm n (consP n g) x->0<=dot x y:=fun x hx=>by
     have:=((lZ h3 x).1 hx).2
     exact hc.dot_nonneg t.dd.lenL t.dd.lenR (fun l hl=>by rw [dot_comm]; exact this.eq l hl) (fun r hr=>by rw [dot_comm]; exact this.ge r hr)
    refine ⟨hy.len,fun a ha=>?_,fun b hb=>?_⟩
    ·obtain ⟨q1,q2⟩:=N5 hl ha;have r1:=key _ q1;have r2:=key _ q2;rw [cR] at r2;omega
    ·exact key _ (NC hl hb)
  obtain ⟨u1,u2⟩:=qm t3 t d;show (if (gensP n (consP n g)).any (fun x=>x.1 == 3)=true then _ else _)=(if g.any (fun x=>x.1 == 3)=true then _ else _);rw [if_pos e,if_pos h3,p1,p2,u1,u2]
 ·rw [NO h3,pk]; rfl
def own_span (hg:ValidG n g):Own n (consP n g) (gensP n (consP n g)):=⟨kE fun x hx=>(hg x hx).1,rfl,Ku hg⟩
def IQ (hg:ValidG n g) (h3:g=[]\/g.any (fun x=>x.1 == 3)=true) {K:List (V × Bool)} (i:∀ c∈K,c.1.length=n+1):inP (gensP n (consP n g)) K=inP g K:=by
 rcases h3 with rfl | h3
 ·rw [show consP n []=[(unitC n (-1),false)] from rfl,pk]
 have e1:∀ a∈linesOf g,a.length=n+1:=fun a ha=>(hg _ (mem_lines.1 ha)).1;have e2:∀ a∈raysOf g,a.length=n+1:=fun a ha=>by obtain ⟨k,-,h⟩:=mem_rays.1 ha; exact (hg _ h).1
 have t:=gens_told e1 e2;have hl:=kE (n:=n) (g:=g) fun x hx=>(hg x hx).1;rw [WK,inP_iff,inP_iff];constructor
 ·intro h x hx c hc;have f:=(pf hl (oF hg h3)).1 fun g hg=>h g hg c hc;obtain ⟨q1,q2⟩:=rT hg h3 hx;exact lz f q1 q2
 ·intro h x hx c hc;have f:Bs n (consP n g) c:=fun y hy=>by
   have d:=((lZ h3 y).1 hy).2;have j:∀ r∈linesOf g,dot c.1 r=0:=fun r hr=>by
    have:=h _ (mem_lines.1 hr) c hc
    rw [keepsP_true,if_pos (.inr rfl)] at this;exact this
   have m:∀ r∈raysOf g,(c.2=true->dot c.1 r=0)/\0<=dot c.1 r:=fun r hr=>by
    obtain ⟨k,d,hm⟩:=mem_rays.1 hr
    have:=h _ hm c hc
    rw [keepsP_true] at this;split at this
    ·exact ⟨fun _=>this,by simp only at this; omega⟩
    ·rename_i q;exact ⟨fun e=>absurd (.inl e) q,this⟩
   have k1:Keep (n+1) (· ∈ linesOf g) (· ∈ raysOf g) c.1:=⟨i c hc,fun a ha=>by rw [dot_comm]; exact j a ha,fun b hb=>by rw [dot_comm]; exact (m b hb).2⟩
   have p1:0<=dot c.1 y:=by
    have:=(t.dd.all _ k1).dot_nonneg (a:=y) t.dd.lenL t.dd.lenR (fun l hl=>by rw [dot_comm]; exact d.eq l hl) (fun r hr=>by rw [dot_comm]; exact d.ge r hr)
    rw [dot_comm]; exact this
   refine ⟨fun hb=>?_,p1⟩;have k2:Keep (n+1) (· ∈ linesOf g) (· ∈ raysOf g) (scl (-1) c.1):=⟨scl_length (i c hc),fun a ha=>by rw [dot_scl,dot_comm,j a ha]; rfl,fun b o=>by rw [dot_scl,dot_comm,(m b o).1 hb]; exact XB _⟩
   have:=(t.dd.all _ k2).dot_nonneg (a:=y) t.dd.lenL t.dd.lenR (fun l hl=>by rw [dot_comm]; exact d.eq l hl) (fun r hr=>by rw [dot_comm]; exact d.ge r hr)
   rw [dot_scl,dot_comm] at this;omega
  obtain ⟨q1,q2⟩:=mM hl hx;exact lz f q1 q2
end
section
variable {K K' Kr:List (V × Bool)} {G G' Gr:List (Nat × V)}
def validG_app (h:ValidG n G) (h':ValidG n G'):ValidG n (G++G'):=fun x hx=>(VE.1 hx).elim (h x) (h' x)
def CP (h:Own n K G) (h':Own n K' G'):G++G'=[]\/(G++G').any (fun x=>x.1 == 3)=true:=by
 rw [Yv];by_cases e:G=[]
 ·by_cases e':G'=[]
  ·exact .inl (by rw [e,e']; rfl)
  ·exact .inr (by rw [h'.point e',Zr])
 ·exact .inr (by rw [h.point e,Bool.true_or])
def Jm (G G':List (Nat × V)) (K:List (V × Bool)):inP (G++G') K=(inP G K && inP G' K):=List.all_append
def Ay (h:Own n K G) (h':Own n K' G') (r:Own n Kr Gr):inP (gensP n (consP n (G++G'))) Kr=(inP G Kr && inP G' Kr):=by
 rw [IQ (validG_app h.valid h'.valid) (CP h h') r.rows,Jm]
def hull_has (h:Own n K G) (h':Own n K' G'):inP G (consP n (G++G'))=true/\inP G' (consP n (G++G'))=true:=by
 have a:=validG_app h.valid h'.valid;have o:=own_span a;have e:=IQ a (CP h h') o.rows;rw [Jm] at e
 have:inP (gensP n (consP n (G++G'))) (consP n (G++G'))=true:=by
  rw [o.in_iff o]; exact .inr fun _ h=>h
 rw [this] at e;have e:=e.symm;rw [VU] at e;exact e
end
end
end Go.Proofs.YtkmepoeklibegaaGreat.Lin
namespace Go.Proofs.YtkmepoeklibegaaGreat.Ev
open Go Nn
section
variable {tab:Nat->Option au} {H:Heap} {s:AV}
theorem vS {v:AV} (ov:One v) (b:Bool):gR (.agg [v,.bool b])=some [v,.bool b]:=by simp [gR,AV.cells,ov.2]; rfl
theorem Bm {v:AV} (ov:One v) (k:Int):gR (.agg [.int .u8 k,v])=some [.int .u8 k,v]:=by simp [gR,AV.cells,ov.2]; rfl
def D6 (C:Code tab) (m:Wf H) {cs g:List AV} {x y:List Int × Bool} (hx:conE.R H cs x) (hy:conE.R H g y) (j:x.1.length<1099511627776) (l:∀ z∈x.1,eR z) :
  Ans tab (.fn gG [.agg cs,.agg g]) H fun v H'=>v=.bool (decide (x=y))/\Kp H H':=by
 obtain ⟨v,rfl,c⟩:=hx;obtain ⟨w,rfl,d⟩:=hy;have ov:=c.one;have h:=d.one;obtain ⟨a,p⟩:=x;obtain ⟨b,q⟩:=y;have c:RowV H v a:=c;have d:RowV H w b:=d;refine bC C.q68 zU fun T hl e f=>?_;by_cases hb:p=q
 ·subst hb;refine zW (eF hl e f (vS ov) (vS h) (beq_self_eq_true (α:=Bool))) ?_;refine AnsH.eq (uw C zF (c.mono (zG H)) (d.mono (zG H)) j l) fun H2 i=>?_;obtain ⟨k2,_,_⟩:=zT H zK i;refine zW (aB hl e f) ?_;exact ⟨by simp,zK⟩
 ·have k:(p == q)=false:=by simpa using hb
  refine zW (eF hl e f (vS ov) (vS h) k) ?_;exact ⟨by simp [hb],zK⟩
def DZ (C:Code tab) (m:Wf H) {cs g:List AV} {x y:Nat × List Int} (hx:genE.R H cs x) (hy:genE.R H g y) (j:x.2.length<1099511627776) (l:∀ z∈x.2,eR z) :
  Ans tab (.fn gF [.agg cs,.agg g]) H fun v H'=>v=.bool (decide (x=y))/\Kp H H':=by
 obtain ⟨v,rfl,c⟩:=hx;obtain ⟨w,rfl,d⟩:=hy;have ov:=c.one;have h:=d.one;obtain ⟨p,a⟩:=x;obtain ⟨q,b⟩:=y;have c:RowV H v a:=c;have d:RowV H w b:=d;refine bC C.q69 zU fun T hl e f=>?_;by_cases hb:p=q
 ·subst hb;refine zW (cp hl e f (Bm ov) (Bm h)) ?_;refine AnsH.eq (uw C zF (c.mono (zG H)) (d.mono (zG H)) j l) fun H2 i=>?_;obtain ⟨k2,_,_⟩:=zT H zK i;refine zW (aB hl e f) ?_;exact ⟨by simp,zK⟩
 ·have k:¬ (p:Int)=(q:Int):=zO;refine zW (eF hl e f (Bm ov) (Bm h) k) ?_;exact ⟨by simp [hb],zK⟩
def BS (C:Code tab) (R:Wf H) {a b:AV} {l m:List (List Int × Bool)} (ha:SlV conE t_api_Con H a l) (hb:SlV conE t_api_Con H b m) (P:l.length<1099511627776) (u:∀ r∈l,r.1.length<1099511627776/\∀ z∈r.1,eR z) :
  Ans tab (.fn aS [a,b,.fn (.func gG) [] []]) H fun v H'=>v=.bool (decide (l=m))/\Kp H H':=by
 refine mN C.q70 zU fun T hl c d f=>?_;by_cases he:l.length=m.length
 ·have lb:lenV b=some (.int .i64 (l.length:Int)):=by rw [hb.lenV,he]
  refine zW (eF hl c d f ha.lenV lb) ?_;refine am H [] (fun j _ _=>∀ q (h:q<l.length) (h':q<m.length),q<j->l[q]=m[q]) (a:=0) (N:=l.length) rfl (by refine zW (aV hl c d f) ?_; rfl) (zV (aV hl c d f)) (Vz _) zO (by simp only [Vg,hl]; rfl) rfl (fun _ _ _ _ h=>h) zK (fun q _ _ h=>by omega) ?_ ?_
  ·intro j T1 k _ hj g G o n p;have w1:=n.wf;have S:=n.le;have s:j<m.length:=zO;have M:aa T1 15=a:=(o.at_ 15 zU).trans (zV (aA hl c));have t1:aa T1 1=b:=(o.at_ 1 zU).trans (zV (cp hl c d f d));have O:aa T1 2=.fn (.func gG) [] []:=(o.at_ 2 zU).trans (zV (cp hl c d f f));obtain ⟨_,⟨v,rfl,hr⟩,-,-,L⟩:=(ha.mono n.sub).at (Vk hj);obtain ⟨_,⟨w,rfl,t⟩,-,-,L'⟩:=(hb.mono n.sub).at (Vk s);have L:aW k (some 2) (aq a (j*2))=some (.agg [v,.bool l[j].2]):=L;have L':aW k (some 2) (aq b (j*2))=some (.agg [w,.bool m[j].2]):=L';have I:cL 2 a (.int .i64 (j:Int))=some (aq a (j*2)):=SlV.idx ha .i64 j hj;have J:cL 2 b (.int .i64 (j:Int))=some (aq b (j*2)):=SlV.idx hb .i64 j s;have ov:=hr.one;have U:=t.one;have E:=(Ldd.of w1 L).put;have B:=(Ldd.of w1 L).ld;have D:=(Ldd.of w1 L').put;have A:=(Ldd.of w1 L').ld;simp only [Vg,hl] at g;refine zW (sG g M t1 O G I J E B D A) ?_;refine AnsH.eq (D6 C (x:=l[j]) (y:=m[j]) zF ⟨v,rfl,hr.mono (zG k)⟩ ⟨w,rfl,t.mono (zG k)⟩ (u _ (Vm hj)).1 (u _ (Vm hj)).2) fun H2 K=>?_;obtain ⟨k2,_,_⟩:=zT H zK K;cases i:decide (l[j]=m[j]) with
   | true =>
    have i:=of_decide_eq_true i;refine zW g ?_;refine ⟨zK,fun q h h' Q=>?_⟩;by_cases e:q=j
    ·subst e; exact i
    ·exact p q h h' zO
   | false =>
    have i:=of_decide_eq_false i;refine zW g ?_;refine ⟨?_,zK⟩;rw [decide_eq_false];intro e; subst e; exact i rfl
  ·intro T1 k g o n p;simp only [Vg,hl] at g;refine zW g ?_;exact ⟨by rw [decide_eq_true (iP he fun q h h'=>p q h h' h)],zK⟩
 ·have F:¬ (l.length:Int)=(m.length:Int):=zO;refine zW (jY hl c d f ha.lenV hb.lenV F he) ?_;refine ⟨?_,zK⟩;rw [decide_eq_false];intro e; subst e; exact he rfl
def BR (C:Code tab) (R:Wf H) {a b:AV} {l m:List (Nat × List Int)} (ha:SlV genE ah H a l) (hb:SlV genE ah H b m) (P:l.length<1099511627776) (u:∀ r∈l,r.2.length<1099511627776/\∀ z∈r.2,eR z) :
  Ans tab (.fn aR [a,b,.fn (.func gF) [] []]) H fun v H'=>v=.bool (decide (l=m))/\Kp H H':=by
 refine mN C.q71 zU fun T hl c d f=>?_;by_cases he:l.length=m.length
 ·have lb:lenV b=some (.int .i64 (l.length:Int)):=by rw [hb.lenV,he]
  refine zW (eF hl c d f ha.lenV lb) ?_;refine am H [] (fun j _ _=>∀ q (h:q<l.length) (h':q<m.length),q<j->l[q]=m[q]) (a:=0) (N:=l.length) rfl (by refine zW (aV hl c d f) ?_; rfl) (zV (aV hl c d f)) (Vz _) zO (by simp only [Vg,hl]; rfl) rfl (fun _ _ _ _ h=>h) zK (fun q _ _ h=>by omega) ?_ ?_
  ·intro j T1 k _ hj g G o n p;have w1:=n.wf;have S:=n.le;have s:j<m.length:=zO;have M:aa T1 15=a:=(o.at_ 15 zU).trans (zV (aA hl c));have t1:aa T1 1=b:=(o.at_ 1 zU).trans (zV (cp hl c d f d));have O:aa T1 2=.fn (.func gF) [] []:=(o.at_ 2 zU).trans (zV (cp hl c d f f));obtain ⟨_,⟨v,rfl,hr⟩,-,-,L⟩:=(ha.mono n.sub).at (Vk hj);obtain ⟨_,⟨w,rfl,t⟩,-,-,L'⟩:=(hb.mono n.sub).at (Vk s);have L:aW k (some 2) (aq a (j*2))=some (.agg [.int .u8 (l[j].1:Int),v]):=L;have L':aW k (some 2) (aq b (j*2))=some (.agg [.int .u8 (m[j].1:Int),w]):=L';have I:cL 2 a (.int .i64 (j:Int))=some (aq a (j*2)):=SlV.idx ha .i64 j hj;have J:cL 2 b (.int .i64 (j:Int))=some (aq b (j*2)):=SlV.idx hb .i64 j s;have ov:=hr.one;have U:=t.one;have E:=(Ldd.of w1 L).put;have B:=(Ldd.of w1 L).ld;have D:=(Ldd.of w1 L').put;have A:=(Ldd.of w1 L').ld;simp only [Vg,hl] at g;refine zW (sG g M t1 O G I J E B D A) ?_;refine AnsH.eq (DZ C (x:=l[j]) (y:=m[j]) zF ⟨v,rfl,hr.mono (zG k)⟩ ⟨w,rfl,t.mono (zG k)⟩ (u _ (Vm hj)).1 (u _ (Vm hj)).2) fun H2 K=>?_;obtain ⟨k2,_,_⟩:=zT H zK K;cases i:decide (l[j]=m[j]) with
   | true =>
    have i:=of_decide_eq_true i;refine zW g ?_;refine ⟨zK,fun q h h' Q=>?_⟩;by_cases e:q=j
    ·subst e; exact i
    ·exact p q h h' zO
   | false =>
    have i:=of_decide_eq_false i;refine zW g ?_;refine ⟨?_,zK⟩;rw [decide_eq_false];intro e; subst e; exact i rfl
  ·intro T1 k g o n p;simp only [Vg,hl] at g;refine zW g ?_;exact ⟨by rw [decide_eq_true (iP he fun q h h'=>p q h h' h)],zK⟩
 ·have F:¬ (l.length:Int)=(m.length:Int):=zO;refine zW (jY hl c d f ha.lenV hb.lenV F he) ?_;refine ⟨?_,zK⟩;rw [decide_eq_false];intro e; subst e; exact he rfl
def Ct (C:Code tab) (K:Wf H) {v q:AV} {n n':Nat} {c h:List (List Int × Bool)} {g g':List (Nat × List Int)} (hp:PolyV H v n c g) (D:PolyV H q n' h g') (t:c.length<1099511627776) (u:∀ r∈c,r.1.length<1099511627776/\∀ z∈r.1,eR z) (w:g.length<1099511627776) (y:∀ r∈g,r.2.length<1099511627776/\∀ z∈r.2,eR z) :
  Ans tab (.fn rc [v,q]) H fun x H'=>x=.bool (decide (n=n'/\c=h/\g=g'))/\Kp H H':=by
 obtain ⟨F,I,rfl,hc,hg⟩:=hp;obtain ⟨G,J,rfl,j,k⟩:=D;have l:=hc.one;have o:=hg.one;have m:=j.one;have p:=k.one;refine bC C.q49 zU fun T hl a d=>?_;by_cases hn:n=n'
 ·subst hn;refine zW (cp hl a d (mX l o) (mX m p)) ?_;refine AnsH.eq (BS C zF (hc.mono (zG H)) (j.mono (zG H)) t u) fun H2 i=>?_;obtain ⟨k2,_,M⟩:=zT H zK i;have d0:=i.get (b:=H.next) (e:=.cells [.int .i64 (n:Int),F,I] ai true) (da);have d1:=i.get (b:=H.next+1) (e:=.cells [.int .i64 (n:Int),G,J] ai true) (da);by_cases f:c=h
  ·rw [decide_eq_true f];refine zW (cp hl a d d0 d1) ?_;refine AnsH.eq (BR C zF ((hg.mono k2.sub).mono (zG H2)) ((k.mono k2.sub).mono (zG H2)) w y) fun s A=>?_;have E:Kp H s:=k2.trans (Kp.trans zK A);have L:=E.le;refine zW (aB hl a d) ?_;exact ⟨by simp [f],zK⟩
  ·rw [decide_eq_false f];refine zW (aB hl a d) ?_;exact ⟨by simp [f],zK⟩
 ·have B:¬ (n:Int)=(n':Int):=zO;refine zW (eF hl a d (mX l o) (mX m p) B) ?_;exact ⟨by simp [hn],zK⟩
def KT (C:Code tab) (u:Wf H) {v w:AV} {a r:List Int} {e f:Nat} (ha:RowV H v a) (hr:RowV H w r) (k:a.length=r.length) (i:a.length<=64) (j:∀ z∈a,Bt e z) (m:∀ z∈r,Bt f z) (l:e+f+7<=8796093022208) :
  Ans tab (.fn qR [v,w]) H fun x H'=>x=.int .i64 (gw (Lin.dot a r))/\Kp H H':=by
 refine bC C.q41 zU fun T hl c d=>?_;refine zW (aB hl c d) ?_;refine AnsH.use (pd C zF (ha.mono (zG H)) (hr.mono (zG H)) k i j m l) ?_;rintro x H2 ⟨q,rfl,⟨p,rfl,hp⟩,h⟩;obtain ⟨k2,_,D⟩:=zT H zK h;have op:=hp.one;have B:H.next+10<=H2.next:=h.le
 have fr:H2.get (H.next+7)=none:=h.free (show H.next+7<H.next+10 by omega) (u.fresh (b:=H.next+7) zO);obtain ⟨G,g⟩:∃ G,G=((H2.up 7).put (H.next+7) (.cells [.bool false,.nilSl] ad true)).put (H.next+7) (.cells [.bool (decide (Lin.dot a r<0)),p] ad true):=⟨_,rfl⟩
 have n:Kp H G:=by rw [g]; exact zK
 have t:cd G p (Lin.dot a r).natAbs:=by
  rw [g];exact hp.mono (((Sub.bump H2 7).put fr _).put fr _)
 refine zW (aB hl c d) ?_;rw [<- g];refine AnsH.eq (l9 C (x:=Lin.dot a r) n.wf ⟨p,rfl,t⟩ ((ol j m k i).sm l)) fun o s=>?_;have y:Kp H o:=n.trans s;have A:=y.le;refine zW (aB hl c d) ?_;exact zK
def poly_keeps (C:Code tab) (q:Wf H) {v w:AV} {b:Bool} {k:Nat} {a r:List Int} {e f:Nat} (ha:RowV H v a) (hr:RowV H w r) (j:a.length=r.length) (o:a.length<=64) (i:∀ z∈a,Bt e z) (m:∀ z∈r,Bt f z) (p:e+f+7<=8796093022208) :
  Ans tab (.fn ia [.agg [.int .u8 (k:Int),w],.agg [v,.bool b]]) H fun x H'=>x=.bool (Lin.keepsP (a,b) (k,r))/\Kp H H':=by
 have ov:=ha.one;have n:=hr.one;refine bC C.q22 zU fun T hl c d=>?_;refine zW (cp hl c d (vS ov) (Bm n)) ?_;refine AnsH.eq (KT C (e:=f) (f:=e) zF (hr.mono (zG H)) (ha.mono (zG H)) j.symm zO m i zO) fun H2 g=>?_;obtain ⟨k2,_,s⟩:=zT H zK g;have d1:H2.get H.next=some (.cells [.int .u8 (k:Int),w] ah true):=g.get (da)
 have d2:H2.get (H.next+1)=some (.cells [v,.bool b] t_api_Con true):=g.get (da);have hd:=Lin.dot_comm r a;cases b with
 | true =>
  refine zW (cp hl c d d1 d2) ?_;refine ⟨?_,zK⟩;congr 1;rw [WK];simp [Lin.keepsP,fP,hd]
 | false =>
  by_cases h:k=1
  ·subst h;have d1:H2.get H.next=some (.cells [.int .u8 1,w] ah true):=d1
   refine zW (cp hl c d d1 d2) ?_;refine ⟨?_,zK⟩;congr 1;rw [WK];simp [Lin.keepsP,fP,hd]
  ·have l:¬ (k:Int)=1:=zO;refine zW (eF hl c d d1 d2 l) ?_;refine ⟨?_,zK⟩;congr 1;rw [WK];simp [Lin.keepsP,GX,hd,h]
def Gp {α:Type} {p:α->Bool} {l:List α} {j:Nat} (hj:j<l.length):(l.take (j+1)).all p=((l.take j).all p && p l[j]):=by
 rw [List.take_succ,Vk hj,List.all_append]; simp
def Hm (C:Code tab) (hw:Wf H) {a b:AV} {n e f:Nat} {G:List (Nat × List Int)} {K:List (List Int × Bool)} (ha:SlV genE ah H a G) (hb:SlV conE t_api_Con H b K) (Q:∀ x∈G,x.2.length=n+1/\Lin.Bd (2^e) x.2) (F:∀ c∈K,c.1.length=n+1/\Lin.Bd (2^f) c.1) (hn:n<=60) (av:G.length<1099511627776) (ax:K.length<1099511627776) (ar:e+f<=4398046511104) :
  Ans tab (.fn px [a,b,.fn (.func ia) [] []]) H fun v H'=>v=.bool (Lin.inP G K)/\Kp H H':=by
 refine mN C.q21 zU fun T hl o p q=>?_;refine zW (cp hl o p q ha.lenV) ?_;refine am H [] (fun j _ _=>Lin.inP (G.take j) K=true) (a:=0) (N:=G.length) rfl (by refine zW (aV hl o p q) ?_; rfl) (zV (aV hl o p q)) (Vz _) zO (by simp only [Vg,hl]; rfl) rfl (fun _ _ _ _ h=>h) zK rfl ?_ ?_
 ·intro j T1 g _ hj d ab A s u;have w1:=s.wf;have az:=s.le;have ak:aa T1 11=a:=(A.at_ 11 zU).trans (zV (aA hl o));have t1:aa T1 1=b:=(A.at_ 1 zU).trans (zV (cp hl o p q p));have t2:aa T1 2=.fn (.func ia) [] []:=(A.at_ 2 zU).trans (zV (cp hl o p q q));obtain ⟨_,⟨v,rfl,hr⟩,-,-,L⟩:=(ha.mono s.sub).at (Vk hj);have L:aW g (some 2) (aq a (j*2))=some (.agg [.int .u8 (G[j].1:Int),v]):=L;have ae:cL 2 a (.int .i64 (j:Int))=some (aq a (j*2)):=SlV.idx ha .i64 j hj;have hr:RowV g v G[j].2:=hr;have ov:=hr.one;have Y:=(Ldd.of w1 L).put;have W:=(Ldd.of w1 L).ld;have M:=Vm hj;simp only [Vg,hl] at d;refine zW (jY d ak t1 ab ae Y W hb.lenV) ?_;obtain ⟨H2,E⟩:∃ H2,H2=((g.up 7).put (g.next+2) (.cells [.int .u8 0,.nilSl] ah true)).put (g.next+2) (.cells [.int .u8 (G[j].1:Int),v] ah true):=⟨_,rfl⟩
  have J:Kp g H2:=by rw [E]; exact zK
  have aC:=J.le;have k2:Kp H H2:=s.trans J;have aD:=k2.le;have w2:=k2.wf;have Z:H2.get (g.next+2)=some (.cells [.int .u8 (G[j].1:Int),v] ah true):=by rw [E]; exact ap _ _ _
  rw [<- E];refine am H2 [] (fun i _ _=>(K.take i).all (fun c=>Lin.keepsP c G[j])=true) (a:=0) (N:=K.length) rfl (by refine zW d ?_; rfl) (zV d) (Vz _) zO (by simp only [Vg,d]; rfl) rfl (fun _ _ _ _ h=>h) zK rfl ?_ ?_
  ·intro i T2 l _ hi m ad B t y;have O:=t.wf;have aB:=t.le;have al:aa T2 17=b:=(B.at_ 17 zU).trans (zV (aA d t1));have ao:aa T2 2=.fn (.func ia) [] []:=(B.at_ 2 zU).trans (zV (aA d t2));have t8:aa T2 8=.ptr (g.next+2) 0:=(B.at_ 8 zU).trans (zV d);have P:=t.get Z;have aF:=O _ _ P;have S:Sub g l:=J.sub.trans t.sub;obtain ⟨_,⟨w,rfl,hc⟩,-,-,L'⟩:=((hb.mono s.sub).mono S).at (Vk hi);have L':aW l (some 2) (aq b (i*2))=some (.agg [w,.bool K[i].2]):=L';have af:cL 2 b (.int .i64 (i:Int))=some (aq b (i*2)):=SlV.idx hb .i64 i hi;have hc:RowV l w K[i].1:=hc;have ow:=hc.one;have X:=(Ldd.of O L').put;have V:=(Ldd.of O L').ld;have D:=Vm hi;have ai:=hr.mono S;simp only [Vg,d] at m;refine zW (lh m al ao t8 ad af X V P) ?_;refine AnsH.eq (poly_keeps C (e:=f+1) (f:=e+1) (b:=K[i].2) (k:=G[j].1) (a:=K[i].1) (r:=G[j].2) zF (hc.mono (zG l)) (ai.mono (zG l)) ((F _ D).1.trans (Q _ M).1.symm) (by rw [(F _ D).1]; omega) (fun z I=>ft (F _ D).2 z I) (fun z I=>ft (Q _ M).2 z I) zO) fun U ag=>?_;obtain ⟨k4,_,_⟩:=zT H2 zK ag;have ay:Kp H U:=k2.trans k4;cases R:Lin.keepsP (K[i].1,K[i].2) (G[j].1,G[j].2) with
   | true =>
    refine zW m ?_;refine ⟨zK,?_⟩;rw [Gp hi,y];exact R
   | false =>
    refine zW m ?_;refine ⟨?_,zK⟩
    have:Lin.inP G K=false:=by
     cases h:Lin.inP G K with
     | false=>rfl
     | true =>
      have:=Lin.inP_iff.1 h _ M _ D
      exact absurd (this.symm.trans R) zU
    rw [this]
  ·intro T2 l m B t y;rw [VO] at y;simp only [Vg,d] at m;have k3:Kp H l:=k2.trans t;have aE:=k3.le;refine zW m ?_;refine ⟨zK,?_⟩;unfold Lin.inP at u ⊢;rw [Gp hj,u];exact y
 ·intro T1 g d A s u;simp only [Vg,hl] at d;rw [VO] at u;refine zW d ?_;exact ⟨by rw [u],zK⟩
end
section
open Lin
def B5 {r:V} (h:∀ z∈r.map eO,z.2.length<=1):Bd (2^64) r:=fun i=>by
 unfold at_;rw [Vh];cases hi:r[i]? with
 | none=>simp
 | some z =>
  have h1:=h (eO z) (Vl.2 ⟨z,VD hi,rfl⟩);have h2:z.natAbs<B^1:=wW (n:=z.natAbs) h1;have h3:B^1=2^64:=by decide
  simp only [WX];omega
def uX {c:List (V × Bool)} {g:List (Nat × V)} (h:pJ c g=false):(c.length<=9/\∀ x∈c,x.1.length<=5/\Bd (2^64) x.1)/\g.length<=9/\∀ x∈g,x.2.length<=5/\Bd (2^64) x.2:=by
 unfold pJ at h;rw [XT] at h;obtain ⟨h1,h2⟩:=jf h.1;obtain ⟨h3,a⟩:=Az h.2;rw [Vp] at h1 h3;refine ⟨⟨h1,fun x hx=>?_⟩,h3,fun x hx=>?_⟩
 ·obtain ⟨q1,q2⟩:=h2 _ (Vl.2 ⟨x,hx,rfl⟩);simp only [Vp] at q1;exact ⟨q1,B5 q2⟩
 ·obtain ⟨q1,q2⟩:=a _ (Vl.2 ⟨x,hx,rfl⟩);simp only [Vp] at q1;exact ⟨q1,B5 q2⟩
def Lm {n:Nat} {l:List (V × Bool)}:∀ x∈gensP n l,x.1=1\/x.1=2\/x.1=3:=fun x hx=>by
 unfold gensP at hx;split at hx
 ·rcases VE.1 hx with hx | hx
  ·obtain ⟨r,hr,rfl⟩:=Vl.1 hx;exact .inl rfl
  ·obtain ⟨r,hr,rfl⟩:=Vl.1 hx;show kindOf r=1\/kindOf r=2\/kindOf r=3;unfold kindOf;split <;> simp
 ·cases hx
end
section
variable {tab:Nat->Option au} {H:Heap} {s:AV}
structure PolyOK (n e f:Nat) (K:List (List Int × Bool)) (G:List (Nat × List Int)):Prop where
 own:Lin.Own n K G
 dim:n<=4
 few:K.length<=60\/K.length<=1022/\G.length<=60
 many:G.length<1024
 bK:∀ c∈K,Lin.Bd (2^f) c.1
 bG:∀ x∈G,Lin.Bd (2^e) x.2
 e3:e<=300000
 f3:f<=300000
section
variable {n e f:Nat} {K:List (List Int × Bool)} {G:List (Nat × List Int)}
def PolyOK.rowK (h:PolyOK n e f K G):∀ c∈K,c.1.length=n+1/\Lin.Bd (2^f) c.1:=fun c hc=>⟨h.own.rows c hc,h.bK c hc⟩
def PolyOK.rowG (h:PolyOK n e f K G):∀ x∈G,x.2.length=n+1/\Lin.Bd (2^e) x.2:=fun x hx=>⟨(h.own.valid x hx).1,h.bG x hx⟩
def PolyOK.kinds (h:PolyOK n e f K G):∀ x∈G,x.1=1\/x.1=2\/x.1=3:=fun x hx=>Lm (n:=n) (l:=K) x (by rw [h.own.gens]; exact hx)
def PolyOK.smK (h:PolyOK n e f K G):∀ r∈K,r.1.length<1099511627776/\∀ z∈r.1,eR z:=fun r hr=>⟨by rw [(h.rowK r hr).1]; have:=h.dim; omega,fun z a=>(ft (h.rowK r hr).2 z a).sm (by have:=h.f3; omega)⟩
def PolyOK.smG (h:PolyOK n e f K G):∀ r∈G,r.2.length<1099511627776/\∀ z∈r.2,eR z:=fun r hr=>⟨by rw [(h.rowG r hr).1]; have:=h.dim; omega,fun z a=>(ft (h.rowG r hr).2 z a).sm (by have:=h.e3; omega)⟩
def PolyOK.lenK (h:PolyOK n e f K G):K.length<=1022:=by rcases h.few with h | h <;> omega
end
set_option maxHeartbeats 4000000 in
def Hn (C:Code tab) (D:Wf H) {v:AV} {n e f:Nat} {K:List (List Int × Bool)} {G:List (Nat × List Int)} (hp:PolyV H v n K G) (a:PolyOK n e f K G) :
  Ans tab (.fn py [v]) H fun x H'=>x=.int .i64 0/\Kp H H':=by
 obtain ⟨w,y,rfl,hc,hg⟩:=hp;have E:=hc.one;have F:=hg.one;have I:=a.lenK;have R:=a.many;have u:Lin.gensP n K=G:=a.own.gens;have k:Lin.consP n G=K:=a.own.cons;have e3:=a.e3;have f3:=a.f3;have smK:=a.smK;have smG:=a.smG;refine dg C.q26 zU fun T hl l=>?_;by_cases q1:(K.length:Int)<=60
 ·refine zW (cp hl l (mX E F) hc.lenV q1) ?_;refine AnsH.use (mP C (n:=n) (m:=f) (m2:=e) zF (hc.mono (zG H)) a.dim zO a.rowK f3 (by rw [u]; exact a.bG) e3) ?_;rintro v H2 ⟨hm,d⟩;obtain ⟨k2,_,P⟩:=zT H zK d;have M:H.next+17<=H2.next:=d.le
  have d0:H2.get H.next=some (.cells [.int .i64 (n:Int),w,y] ai true):=d.get (da)
  have o:H2.get (H.next+14)=none:=d.free (show H.next+14<H.next+17 by omega) (by rw [al zO]; exact D.fresh (b:=H.next+14) zO);rw [u] at hm;unfold qc at hm;rw [k] at hm;rcases hm with ⟨-,hm⟩ | ⟨p,rfl,⟨s,t,rfl,q,r⟩,-,-⟩
  ·omega
  have N:=q.one;have O:=r.one;obtain ⟨c,i⟩:∃ c,c=((H2.up 7).put (H.next+14) (.cells [.int .i64 0,.nilSl,.nilSl] ai true)).put (H.next+14) (.cells [.int .i64 (n:Int),s,t] ai true):=⟨_,rfl⟩
  have g:Sub H2 c:=by rw [i]; exact ((Sub.bump H2 7).put o _).put o _
  have j:Kp H c:=by rw [i]; exact zK
  have J:=j.le;have Q:=j.wf;refine zW (aV hl l @oD d0) ?_;rw [<- i];refine AnsH.eq (Ct C zF ⟨w,y,rfl,(hc.mono k2.sub).mono g,(hg.mono k2.sub).mono g⟩ ⟨s,t,rfl,q.mono g,r.mono g⟩ zO smK zO smG) fun z A=>?_;have B:Kp H z:=j.trans A;have L:=B.le;rw [decide_eq_true ⟨rfl,rfl,rfl⟩];refine zW (aA hl l) ?_;exact zK
 ·have q2:(G.length:Int)<=60:=by rcases a.few with h | h <;> omega
  refine zW (gS hl l (mX E F) hc.lenV q1 hg.lenV q2) ?_;refine AnsH.use (vu C (n:=n) (m:=e) (m2:=f) (m3:=e) zF (hg.mono (zG H)) a.dim zO a.own.valid a.kinds a.bG e3 (by rw [k]; exact a.bK) f3 (by rw [k,u]; exact a.bG) e3 (by rw [k]; exact .inl I)) ?_;rintro v H2 ⟨hm,d⟩;obtain ⟨k2,_,P⟩:=zT H zK d;have M:H.next+21<=H2.next:=d.le
  have d0:H2.get H.next=some (.cells [.int .i64 (n:Int),w,y] ai true):=d.get (da)
  have o:H2.get (H.next+18)=none:=d.free (show H.next+18<H.next+21 by omega) (by rw [al zO]; exact D.fresh (b:=H.next+18) zO);unfold JP qc at hm;rw [k,u,k] at hm;rcases hm with ⟨-,hm⟩ | ⟨-,hm⟩ | ⟨p,rfl,⟨s,t,rfl,q,r⟩,-,-⟩
  ·omega
  ·omega
  have N:=q.one;have O:=r.one;obtain ⟨c,i⟩:∃ c,c=((H2.up 7).put (H.next+18) (.cells [.int .i64 0,.nilSl,.nilSl] ai true)).put (H.next+18) (.cells [.int .i64 (n:Int),s,t] ai true):=⟨_,rfl⟩
  have g:Sub H2 c:=by rw [i]; exact ((Sub.bump H2 7).put o _).put o _
  have j:Kp H c:=by rw [i]; exact zK
  have J:=j.le;have Q:=j.wf;refine zW (aV hl l @oD d0) ?_;rw [<- i];refine AnsH.eq (Ct C zF ⟨w,y,rfl,(hc.mono k2.sub).mono g,(hg.mono k2.sub).mono g⟩ ⟨s,t,rfl,q.mono g,r.mono g⟩ zO smK zO smG) fun z A=>?_;have B:Kp H z:=j.trans A;have L:=B.le;rw [decide_eq_true ⟨rfl,rfl,rfl⟩];refine zW (aA hl l) ?_;exact zK
end
abbrev TT:=Nat × List (List Int × Bool) × List (Nat × List Int)
def QZ:fO TT where
 sz:=3
 tys:=(t_api_Con :: conE.tys)++(ah :: genE.tys)
 R H cs x:=∃ c d,cs=[.int .i64 (x.1:Int),c,d]/\SlV conE t_api_Con H c x.2.1/\SlV genE ah H d x.2.2
 pos:=zO
 len:=by rintro H cs x ⟨v,w,rfl,h,h'⟩; exact ⟨rfl,by simp [h.one.2,h'.one.2]; rfl⟩
 mono:=by
  rintro H H' cs x hs ⟨v,w,rfl,h,h'⟩;exact ⟨v,w,rfl,h.monoT fun b cs t r a=>hs b cs t r (WH _ a),h'.monoT fun b cs t r a=>hs b cs t r (W3 _ a)⟩
section
variable {tab:Nat->Option au} {H:Heap} {s:AV}
def OM {a a3 b c:AV} (h2:One a) (h3:One a3) (h5:One b) (e:One c) (x1 x2 f y1 y2 g:AV) (k d:IntKind) (n n':Int):dj [x1,x2,f,y1,y2,g] [((0,3),.agg [.int k n,a,a3]),((3,3),.agg [.int d n',b,c])]=some [.int k n,a,a3,.int d n',b,c]:=by
 simp [dj,AV.cells,(aT k n).2,(aT d n').2,h2.2,h3.2,h5.2,e.2]
set_option maxHeartbeats 4000000 in
def uI (C:Code tab) (W:Wf H) {n:Nat} {l:List TT} (hs:SlV QZ ai H s l) (V:l.length<1000) (h:∀ x∈l,x.1=n/\∃ e f,PolyOK n e f x.2.1 x.2.2) :
  Ans tab (.fn mB [s]) H fun x H'=>x=.int .i64 0/\Kp H H':=by
 refine dg C.q20 zU fun T hl i=>?_;refine zW (aB hl i hs.lenV) ?_;refine am H [] (fun _ _ _=>True) (a:=0) (N:=l.length) rfl (by refine zW (aA hl i) ?_; rfl) (zV (aA hl i)) (Vz _) zO (by simp only [Vg,hl]; rfl) rfl (fun _ _ _ _ h=>h) zK trivial ?_ ?_
 ·intro j T1 k _ hj b E v c _;have w1:=c.wf;have K:=c.le;have R:aa T1 8=s:=(v.at_ 8 zU).trans (zV (aA hl i));obtain ⟨_,⟨o,p,rfl,hc,hg⟩,-,-,L⟩:=(hs.mono c.sub).at (Vk hj);have L:aW k (some 3) (aq s (j*3))=some (.agg [.int .i64 (l[j].1:Int),o,p]):=L;have u:cL 3 s (.int .i64 (j:Int))=some (aq s (j*3)):=SlV.idx hs .i64 j hj;have M:=hc.one;have O:=hg.one;have t:=(Ldd.of w1 L).put;have r:=(Ldd.of w1 L).ld;obtain ⟨hn,e,f,ok⟩:=h _ (Vm hj);simp only [Vg,hl] at b;refine zW (gS b R E u t r @oD) ?_;rw [hn];refine AnsH.eq (Hn C zF ⟨o,p,rfl,hc.mono (zG k),hg.mono (zG k)⟩ ok) fun H2 d=>?_;obtain ⟨k2,_,_⟩:=zT H zK d;refine zW b ?_;exact zK
 ·intro T1 k b v c _;have w1:=c.wf;have K:=c.le;have t0:aa T1 0=s:=(v.at_ 0 zU).trans (zV (aA hl i));have J:=hs.mono c.sub;simp only [Vg,hl] at b;refine zW (aB b t0 J.lenV) ?_;refine am H [] (fun _ _ _=>True) (a:=0) (N:=l.length) rfl (by refine zW b ?_; rfl) (zV b) (Vz _) zO (by simp only [Vg,b]; rfl) rfl (fun _ _ _ _ h=>h) zK trivial ?_ ?_
  ·intro j T2 H2 _ hj g F w d _;have q:=d.wf;have X:=d.le;have Q:aa T2 20=s:=(w.at_ 20 zU).trans (zV (aA b t0));have P:aa T2 0=s:=(w.at_ 0 zU).trans (zV (aA b t0));have y:=hs.mono d.sub;have h0:0<l.length:=zO;obtain ⟨_,⟨o,p,rfl,hc,hg⟩,-,-,L⟩:=y.at (Vk hj);have L:aW H2 (some 3) (aq s (j*3))=some (.agg [.int .i64 (l[j].1:Int),o,p]):=L;obtain ⟨_,⟨Y,Z,rfl,S,U⟩,-,m,-⟩:=y.at (Vk h0);have m:aW H2 none (aq s 0)=some (.int .i64 (l[0].1:Int)):=m 0 _ rfl;have u:cL 3 s (.int .i64 (j:Int))=some (aq s (j*3)):=SlV.idx hs .i64 j hj;have D:cL 3 s (.int .i64 0)=some (aq s 0):=SlV.idx hs .i64 0 h0;have B:AD 0 (aq s 0)=some (aq s 0):=hs.fa h0 0 0;have M:=hc.one;have O:=hg.one;have t:=(Ldd.of q L).put;have r:=(Ldd.of q L).ld;have A:=(Ldd.of q m).put;have z:=(Ldd.of q m).ld;have hn:=(h _ (Vm hj)).1;have G:=(h _ (Vm h0)).1;have I:((l[j].1:Nat):Int)=(l[0].1:Int):=by rw [hn,G]
   simp only [Vg,b] at g;refine zW (gS g Q F u t r @oD) ?_;refine aM ?_;refine zD (gS g P D B A z I) ?_;exact zK
  ·intro T2 H2 g w d _;simp only [Vg,b] at g;refine zW g ?_;exact zK
def Cf {H:Heap} {b:Nat} {c f d g:AV} {x y:TT} {r:Bool} (h:H.get b=some (.cells [.int .i64 (x.1:Int),c,f,.int .i64 (y.1:Int),d,g] ai r)) (h1:SlV conE t_api_Con H c x.2.1) (h2:SlV genE ah H f x.2.2) (h3:SlV conE t_api_Con H d y.2.1) (j:SlV genE ah H g y.2.2):SlV QZ ai H (.own b 0 2 2 3 true) [x,y] :=
 ⟨_,Rd.own h rfl (Vo _),fun _ _ _ _ _ _ e=>by cases e; exact ⟨_,_,h⟩,rfl,fun i a hi=>by
  match i with
  | 0=>simp at hi; subst hi; exact ⟨c,f,rfl,h1,h2⟩
  | 1=>simp at hi; subst hi; exact ⟨d,g,rfl,h3,j⟩
  | i+2=>simp at hi⟩
def M2 {n e f e' f':Nat} {K K':List (List Int × Bool)} {G G':List (Nat × List Int)} (a:PolyOK n e f K G) (b:PolyOK n e' f' K' G'):∀ x∈[((n,K,G):TT),(n,K',G')],x.1=n/\∃ e f,PolyOK n e f x.2.1 x.2.2:=fun x hx=>by
 rcases VK.1 hx with rfl | hx
 ·exact ⟨rfl,_,_,a⟩
 ·rcases VK.1 hx with rfl | hx
  ·exact ⟨rfl,_,_,b⟩
  ·cases hx
set_option maxHeartbeats 4000000 in
def yM (C:Code tab) (A:Wf H) {v w:AV} {n e f e' f':Nat} {K K':List (List Int × Bool)} {G G':List (Nat × List Int)} (hp:PolyV H v n K G) (r:PolyV H w n K' G') (a:PolyOK n e f K G) (b:PolyOK n e' f' K' G') :
  Ans tab (.fn wK [v,w]) H fun x H'=>x=.tup [.bool (Lin.inP G K'),.int .i64 0]/\Kp H H':=by
 obtain ⟨t,y,rfl,hc,hg⟩:=hp;obtain ⟨u,z,rfl,g,i⟩:=r;have j:=hc.one;have m:=hg.one;have k:=g.one;have o:=i.one;refine bC C.q5 zU fun T hl c d=>?_;refine zW (eF hl c d (mX j m) (mX k o) (OM j m k o)) ?_;refine AnsH.eq (uI C (n:=n) (l:=[(n,K,G),(n,K',G')]) zF (Cf (ap _ _ _) (hc.mono (zG H)) (hg.mono (zG H)) (g.mono (zG H)) (i.mono (zG H))) (by simp) (M2 a b)) fun H2 h=>?_;obtain ⟨k2,_,D⟩:=zT H zK h;have d0:H2.get H.next=some (.cells [.int .i64 (n:Int),t,y] ai true):=h.get (da)
 have d1:H2.get (H.next+1)=some (.cells [.int .i64 (n:Int),u,z] ai true):=h.get (da);have e3:=a.e3;have f3:=b.f3;have hn:=a.dim;have l1:=a.many;have l2:=b.lenK;refine zW (cp hl c d d0 d1) ?_;refine AnsH.eq (Hm C (n:=n) (e:=e) (f:=f') zF ((hg.mono k2.sub).mono (zG H2)) ((g.mono k2.sub).mono (zG H2)) a.rowG b.rowK zO zO zO zO) fun p q=>?_;have s:Kp H p:=k2.trans (Kp.trans zK q);have B:=s.le;refine zW (aB hl c d) ?_;exact zK
def OW {H:Heap} {id sz bytes ty:Nat} {z:List AV} {m:Nat} (a:z.length=sz) (h0:0<m) (hb:m*bytes<=70368744177664) (hm:m<4611686018427387904) :
  CR H id sz bytes ty z .nilSl (.int .i64 (m:Int))=some (.own id 0 m m sz false,H.put id (.cells ((List.replicate m z).flatten) ty true)):=by
 unfold CR;rw [fN];simp only;rw [if_pos ⟨a,hb,hm⟩];simp only [cS];rw [if_neg zO,if_pos ⟨hb,hm⟩]
def OJ:AV->Option AV
 | .own _ _ _ c _ true=>some (.int .i64 c)
 | .nilSl=>some (.int .i64 0)
 | _=>none
def KR {ev:Src->AV} (x:Src):aN ev (.cap x)=OJ (ev x):=by
 simp only [aN]
 generalize ev x=a
 cases a <;> rfl
def Mx {ev:Src->AV} {H:Heap} {id:Nat} {Q:AV->Heap->Prop} (x:Src):lJ tab ev H id (.cap x) Q=gu (OJ (ev x)) (fun v=>Q v H) ():=by
 rw [bT,dU tab ev H id Q (o:=.cap x) (v:=OJ (ev x)) (fun f a e=>by cases e) (KR x) rfl];rfl
def GT {b m sz:Nat} {ex:Bool}:bW sz (.own b 0 m m sz ex) none (some (.int .i64 0)) none=some (.own b 0 0 m sz ex):=by
 simp [bW,bL,pb]
def CQ {α:Type} {E:fO α} {ty ty2 bytes id g k m N:Nat} {H:Heap} {w:AV} {cells:List AV} {l1 l2:List α} (hg:H.get g=some (.cells cells ty true)) (v:ty ∉ E.tys) (hp:Cells E H (cells.take (k*E.sz)) l1) (hy:SlV E ty2 H w l2) (hm:l2.length=m) (hcl:cells.length=N*E.sz) (d:k+m<=N) (hb:N*bytes<=70368744177664) (x:N<4611686018427387904) :
  ∃ c H',dr H id E.sz bytes ty (.own g 0 k N E.sz false) w=some (.own g 0 (k+m) N E.sz false,H')/\H'.get g=some (.cells c ty true)/\c.length=N*E.sz/\Cells E H' (c.take ((k+m)*E.sz)) (l1++l2)/\(H'=H\/∃ e,H'=H.put g e):=by
 obtain ⟨a,hr,-,hc⟩:=hy;obtain ⟨m',l,h⟩:=hr.length;obtain ⟨-,-,m2,n,q⟩:=hr;rw [l] at n; cases n;have u:m'=m:=Xf E.pos (by rw [<- h,hc.1,hm]);subst u;have p:(k+m')*bytes<=70368744177664:=VB (Vy _ d) hb;have ones:=hc.ones;have s:(k+m')*E.sz<=N*E.sz:=Vy _ d;rw [Wq] at s;have e:dr H id E.sz bytes ty (.own g 0 k N E.sz false) w=if m'=0 then some (.own g 0 k N E.sz false,H) else some (.own g 0 (k+m') N E.sz false,H.put g (.cells (cells.take (0+k*E.sz)++a++cells.drop (0+k*E.sz+m'*E.sz)) ty true)):=by
  unfold dr;rw [l];simp only;rw [q];simp only [cS,hg];rw [if_pos ⟨trivial,p,zO,trivial,zO⟩,if_pos d];by_cases h0:m'=0
  ·rw [if_pos h0,if_pos h0]
  ·rw [if_neg h0,if_neg h0,if_pos ⟨trivial,ones⟩]
 by_cases h0:m'=0
 ·subst h0;have hn:l2=[]:=VZ hm;subst hn;refine ⟨cells,H,by rw [e,if_pos rfl]; rfl,hg,hcl,?_,.inl rfl⟩;rw [Wv]; exact hp
 ·have o:SubT E.tys H (H.put g (.cells (cells.take (0+k*E.sz)++a++cells.drop (0+k*E.sz+m'*E.sz)) ty true)):=fun b cs t r i f=>by
   by_cases j:b=g
   ·subst j;rw [hg] at f; cases f;exact absurd i v
   ·rw [al j]; exact f
  refine ⟨_,_,by rw [e,if_neg h0],ap _ _ _,?_,?_,.inr ⟨_,rfl⟩⟩
  ·simp only [VC,VN,WN,hcl,h];omega
  ·have i:((cells.take (0+k*E.sz)++a++cells.drop (0+k*E.sz+m'*E.sz)).take ((k+m')*E.sz))=cells.take (k*E.sz)++a:=by
    rw [V3,YO (by rw [VC,VN,h,Wq]; omega)]
   rw [i];exact (hp.mono o).append (hc.mono o)
def O7 (C:Code tab) (i:Wf H) {m:Nat} (h0:0<m) (hm:m<=4000) :
  Ans tab (.fn bQ [.nilSl,.int .i64 (m:Int)]) H fun v H'=>∃ b,v=.own b 0 0 m 2 false/\H'.get b=some (.cells ((List.replicate m [.int .u8 0,.nilSl]).flatten) ah true)/\H.next<=b/\Kp H H':=by
 refine bC C.q42 zU fun T hl d e=>?_;have e0:¬ (m:Int)<0:=zO;have e1:IntKind.i64.wrap ((m:Int)-0)=(m:Int):=by rw [wrap_i64] <;> omega
 have e2:(0:Int)<(m:Int):=zO;have a:OJ .nilSl=some (.int .i64 0):=rfl;have z0:IntKind.i64.wrap 0=0:=by rw [wrap_i64] <;> omega
 have g:bW 2 .nilSl none (some (.int .i64 0)) none=some .nilSl:=rfl;have f:lenV .nilSl=some (.int .i64 0):=rfl;have c:=OW (H:=H.up 23) (id:=H.next+18) (sz:=2) (bytes:=32) (ty:=ah) (z:=[.int .u8 0,.nilSl]) (m:=m) rfl h0 zO zO;have h:bW 2 (.own (H.next+18) 0 m m 2 false) none (some (.int .i64 0)) none=some (.own (H.next+18) 0 0 m 2 false):=GT;simp -dsimp (maxSteps:=1000000) (disch:=(first | omega | assumption | exact aH _ | exact aT _ _ | exact bf | exact bS _ _ _ | exact bk _ _ | exact bj _ _ _ _ _ _ | exact bX _ _ | exact bp _)) only [↓qh,qg,Nat.reduceLT,Nat.reduceEqDiff,Nat.reduceAdd,reduceIte,reduceCtorEq,Nat.reduceBEq,Int.reduceEq,Int.reduceLT,Int.reduceLE,Int.reduceAdd,Int.reduceSub,hl,d,e,e0,e1,e2,↓Mx,f,a,z0,g,↓IE,c,h];exact ⟨_,rfl,ap _ _ _,zO,zK⟩
def L9 (C:Code tab) (e:Wf H) :
  Ans tab (.fn bQ [.nilSl,.int .i64 0]) H fun v H'=>v=.nilSl/\Kp H H':=by
 refine bC C.q42 zU fun T hl b c=>?_;have d:lenV .nilSl=some (.int .i64 0):=rfl;have a:OJ .nilSl=some (.int .i64 0):=rfl;have z0:IntKind.i64.wrap 0=0:=by rw [wrap_i64] <;> omega
 simp -dsimp (maxSteps:=1000000) (disch:=(first | omega | assumption | exact aH _ | exact aT _ _ | exact bf | exact bS _ _ _ | exact bk _ _ | exact bj _ _ _ _ _ _ | exact bX _ _ | exact bp _)) only [↓qh,qg,Nat.reduceLT,Nat.reduceEqDiff,Nat.reduceAdd,reduceIte,reduceCtorEq,Nat.reduceBEq,Int.reduceEq,Int.reduceLT,Int.reduceLE,Int.reduceAdd,Int.reduceSub,hl,b,c,↓Mx,d,a,z0];exact zK
def IB (C:Code tab) (hw:Wf H) {b:Nat} {va X:AV} {l m:List (Nat × List Int)} {x:Bool} {ty:Nat} (hb:H.get b=some (.cells [va,X] ty x)) (ha:SlV genE ah H va l) (O:SlV genE ah H X m) (ar:l.length<=2000) (S:m.length<=2000) :
  Ans tab (.fn cI [.own b 0 2 2 1 true]) H fun v H'=>SlV genE ah H' v (l++m)/\Kp H H':=by
 refine dg C.q23 zU fun T hl u=>?_;have l2:lenV (.own b 0 2 2 1 true)=some (.int .i64 ((2:Nat):Int)):=rfl;have aq:=hw _ _ hb;refine zW (aB hl u l2) ?_;refine am H [3] (fun j vs _=>vs=[.int .i64 (((if j=0 then 0 else if j=1 then l.length else l.length+m.length:Nat)):Int)]) (a:=0) (N:=2) rfl (by refine zW (aA hl u) ?_ <;> rfl) (zV (aA hl u)) (Vz _) zO (by simp only [Vg,hl]; rfl) rfl (fun _ _ _ _ h=>h) zK (by refine zW (aA hl u) ?_ <;> rfl) ?_ ?_
 ·intro j T1 Z _ hj d ad U t i;simp only [Vq,Vw,Vv,and_true] at i;have w1:=t.wf;have ap:=t.le;have t9:aa T1 9=.own b 0 2 2 1 true:=(U.at_ 9 zU).trans (zV (aA hl u));have P:=t.get hb;simp only [Vg,hl] at d;by_cases h0:j=0
  ·subst h0;have p:cL 1 (.own b 0 2 2 1 true) (.int .i64 ((0:Nat):Int))=some (.ptr b 0):=rfl;have e1:IntKind.i64.wrap (0+(l.length:Int))=(l.length:Int):=by rw [wrap_i64] <;> omega
   have e2:¬ (l.length:Int)<0:=zO;have i:aa T1 3=.int .i64 0:=i;refine zW (lh d t9 ad p P ha.lenV i e1 e2) ?_;exact zK
  ·have h1:j=1:=zO;subst h1;have p:cL 1 (.own b 0 2 2 1 true) (.int .i64 ((1:Nat):Int))=some (.ptr b 1):=rfl;have e1:IntKind.i64.wrap ((l.length:Int)+(m.length:Int))=(l.length:Int)+(m.length:Int):=by rw [wrap_i64] <;> omega
   have e2:¬ (l.length:Int)+(m.length:Int)<0:=zO;have i:aa T1 3=.int .i64 (l.length:Int):=i;refine zW (lh d t9 ad p P O.lenV i e1 e2) ?_;exact ⟨zK,by simp⟩
 ·intro T1 Z d U t i;simp only [Vq,Vw,Vv,and_true] at i;have w1:=t.wf;have ap:=t.le;have t0:aa T1 0=.own b 0 2 2 1 true:=(U.at_ 0 zU).trans (zV (aA hl u));have i:aa T1 3=.int .i64 (((l.length+m.length:Nat)):Int):=i;simp only [Vg,hl] at d;have P:=t.get hb;by_cases h0:l.length+m.length=0
  ·have i:aa T1 3=.int .i64 0:=by rw [i,h0]; rfl
   have el:l=[]:=VZ zO;have em:m=[]:=VZ zO;refine zW (aA d i) ?_;refine AnsH.use (L9 C zF) ?_;rintro _ H2 ⟨rfl,R⟩;obtain ⟨k2,_,w2⟩:=zT H zK R;have ag:=k2.get hb;refine zW (aB d t0 l2) ?_;refine am H [6] (fun j vs _=>vs=[.nilSl]) (a:=0) (N:=2) rfl (by refine zW d ?_ <;> rfl) (zV d) (Vz _) zO (by simp only [Vg,d]; rfl) rfl (fun _ _ _ _ h=>h) zK (zV d) ?_ ?_
   ·intro j T2 c _ hj n D F f o;simp only [Vq,Vw,Vv,and_true] at o;have Y:=f.wf;have af:=f.le;have t25:aa T2 25=.own b 0 2 2 1 true:=(F.at_ 25 zU).trans (zV (aA d t0));have A:=f.get hb;simp only [Vg,d] at n;have na:∀ {K:List (Nat × List Int)} {v:AV} (H':Heap) (id:Nat),K=[]->SlV genE ah H' v K->dr H' id 2 32 ah .nilSl v=some (.nilSl,H'):=fun H' id e hs=>by
     subst e;obtain ⟨ax,hr,-,hc⟩:=hs;obtain ⟨m',S,ai⟩:=hr.length;obtain ⟨-,-,m2,ae,hf⟩:=hr;rw [S] at ae; cases ae;have ak:m'=0:=by
      have:=hc.1
      rw [ai] at this;have e2:genE.sz=2:=rfl;rw [e2] at this;simp at this;omega
     subst ak;unfold dr;rw [S];simp only;have e2:genE.sz=2:=rfl;rw [e2] at hf;rw [hf];rfl
    by_cases h0:j=0
    ·subst h0;have p:cL 1 (.own b 0 2 2 1 true) (.int .i64 ((0:Nat):Int))=some (.ptr b 0):=rfl;have J:=na (c.up 7) (c.next+5) el ((ha.mono f.sub).mono (Sub.bump c 7));refine zW (gS n t25 D p A o J) ?_;exact zK
    ·have h1:j=1:=zO;subst h1;have p:cL 1 (.own b 0 2 2 1 true) (.int .i64 ((1:Nat):Int))=some (.ptr b 1):=rfl;have J:=na (c.up 7) (c.next+5) em ((O.mono f.sub).mono (Sub.bump c 7));refine zW (gS n t25 D p A o J) ?_;exact zK
   ·intro T2 c n F f o;simp only [Vq,Vw,Vv,and_true] at o;simp only [Vg,d] at n;refine zW (aA n o) ?_;exact ⟨by rw [el,em]; exact SlV.nil _ _ _,zK⟩
  ·obtain ⟨N,hN⟩:∃ N,N=l.length+m.length:=⟨_,rfl⟩
   rw [<- hN] at i h0;refine zW (aA d i) ?_;refine AnsH.use (O7 C (m:=N) zF zO zO) ?_;rintro _ H2 ⟨g,rfl,hg,Q,R⟩;obtain ⟨k2,_,w2⟩:=zT H zK R;have Q:H.next<=g:=by
    have:=t.le
    have:Z.next+3<=g:=Q
    omega
   have ag:=k2.get hb;have l0:=w2 _ _ hg;obtain ⟨z,W⟩:∃ z,z=(List.replicate N [AV.int .u8 0,.nilSl]).flatten:=⟨_,rfl⟩
   have zl:z.length=N*2:=by rw [W]; simp
   rw [<- W] at hg;clear W;refine zW (aB d t0 l2) ?_;refine am H [6] (fun j vs H'=>∃ k cells,k=(if j=0 then 0 else if j=1 then l.length else N)/\vs=[.own g 0 k N 2 false]/\H'.get g=some (.cells cells ah true)/\cells.length=N*2/\Cells genE H' (cells.take (k*2)) ((l++m).take k)) (a:=0) (N:=2) rfl (by refine zW d ?_ <;> rfl) (zV d) (Vz _) zO (by simp only [Vg,d]; rfl) rfl (fun _ _ _ _ h=>h) zK ⟨0,z,rfl,by exact zV d,by exact zV hg,zl,Cells.nil _ _⟩ ?_ ?_
   ·rintro j T2 c _ hj n D F f ⟨k,cells,q,o,w,hcl,B⟩;simp only [Vq,Vw,Vv,and_true] at o;have Y:=f.wf;have af:=f.le;have av:=Y _ _ w;have t25:aa T2 25=.own b 0 2 2 1 true:=(F.at_ 25 zU).trans (zV (aA d t0));have A:=f.get hb;simp only [Vg,d] at n;have ab:∀ r,(r=c.up 7\/∃ e,r=(c.up 7).put g e)->Kp H r:=fun r h=>by
     rcases h with rfl | ⟨e,rfl⟩
     ·exact zK
     ·exact (f.up 7).put Q (by show g<c.next+7; omega)
    by_cases h0:j=0
    ·subst h0;have p:cL 1 (.own b 0 2 2 1 true) (.int .i64 ((0:Nat):Int))=some (.ptr b 0):=rfl;have q:k=0:=q;subst q;obtain ⟨I,r,s,L,G,y,M⟩:=CQ (E:=genE) (bytes:=32) (id:=c.next+5) (k:=0) (l1:=[]) (H:=c.up 7) w zU (Cells.nil _ _) ((ha.mono f.sub).mono (Sub.bump c 7)) rfl hcl zO zO zO;have s:dr (c.up 7) (c.next+5) 2 32 ah (.own g 0 0 N 2 false) va=some (.own g 0 (0+l.length) N 2 false,r):=s;refine zW (gS n t25 D p A o s) ?_;refine ⟨ab _ M,l.length,I,by simp,by simp,L,G,?_⟩;rw [YO rfl];rw [V3] at y;exact y
    ·have h1:j=1:=zO;subst h1;have p:cL 1 (.own b 0 2 2 1 true) (.int .i64 ((1:Nat):Int))=some (.ptr b 1):=rfl;have q:k=l.length:=q;subst q;rw [YO rfl] at B;obtain ⟨I,r,s,L,G,y,M⟩:=CQ (E:=genE) (bytes:=32) (id:=c.next+5) (k:=l.length) (l1:=l) (H:=c.up 7) w zU (B.mono ((Sub.bump c 7).t _)) ((O.mono f.sub).mono (Sub.bump c 7)) rfl hcl zO zO zO;have s:dr (c.up 7) (c.next+5) 2 32 ah (.own g 0 l.length N 2 false) X=some (.own g 0 (l.length+m.length) N 2 false,r):=s;rw [<- hN] at s y;refine zW (gS n t25 D p A o s) ?_;refine ⟨ab _ M,N,I,by simp,by simp,L,G,?_⟩;have V:(l++m).take N=l++m:=VP (by rw [VC]; omega);rw [V];exact y
   ·rintro T2 c n F f ⟨k,cells,q,o,w,hcl,B⟩;simp only [Vq,Vw,Vv,and_true] at o;have q:k=N:=q;subst q;have V:(l++m).take k=l++m:=VP (by rw [VC]; omega);have ao:cells.take (k*2)=cells:=VP zO;rw [V,ao] at B;have Y:=f.wf;have af:=f.le;simp only [Vg,d] at n;refine zW (aA n o) ?_;have al:SlV genE ah c (.own g 0 k k 2 false) (l++m):=⟨cells,Rd.own w hcl zO,fun _ _ _ _ _ _ e=>by cases e; exact ⟨_,_,w⟩,B⟩
    exact ⟨al.mono (Sub.bump c _),zK⟩
def Gi {a b:Nat} {x:List Int} (h:Lin.Bd (2^a) x) (c:a<=b):Lin.Bd (2^b) x:=fun i=>VB (h i) (VW zU c)
set_option maxHeartbeats 4000000 in
def B9 (C:Code tab) (hw:Wf H) {v w:AV} {n e f e' f' m m2 m3:Nat} {K K':List (List Int × Bool)} {G G':List (Nat × List Int)} (hp:PolyV H v n K G) (V:PolyV H w n K' G') (i:PolyOK n e f K G) (k:PolyOK n e' f' K' G') (ad:G.length+G'.length<=60) (hm:e<=m) (Q:e'<=m) (U:m<=300000) (L:∀ c∈Lin.consP n (G++G'),Lin.Bd (2^m2) c.1) (R:m2<=300000) (M:∀ x∈Lin.gensP n (Lin.consP n (G++G')),Lin.Bd (2^m3) x.2) (S:m3<=300000) (P:(Lin.consP n (G++G')).length<=1022\/1024<=(Lin.consP n (G++G')).length) :
  Ans tab (.fn qS [v,w]) H fun x H'=>JP H' x n (G++G')/\Kp H H':=by
 obtain ⟨X,vg,rfl,hc,hg⟩:=hp;obtain ⟨Y,aa,rfl,u,s⟩:=V;have D:=hc.one;have I:=hg.one;have F:=u.one;have J:=s.one;refine bC C.q6 zU fun T hl a b=>?_;refine zW (eF hl a b (mX D I) (mX F J) (OM D I F J)) ?_;refine AnsH.eq (uI C (n:=n) (l:=[(n,K,G),(n,K',G')]) zF (Cf (ap _ _ _) (hc.mono (zG H)) (hg.mono (zG H)) (u.mono (zG H)) (s.mono (zG H))) (by simp) (M2 i k)) fun H2 j=>?_;obtain ⟨k2,_,w2⟩:=zT H zK j;have d0:H2.get H.next=some (.cells [.int .i64 (n:Int),X,vg] ai true):=j.get (da)
 have d1:H2.get (H.next+1)=some (.cells [.int .i64 (n:Int),Y,aa] ai true):=j.get (da);have d2:H2.get (H.next+2)=some (.cells [.int .i64 0,.nilSl,.nilSl] ai true):=j.get (da);have ag:=w2 _ _ d2;refine zW (aV hl a b @aC) ?_;refine aM ?_;refine zD (eF hl a b d0 d1 d2) ?_;refine AnsH.use (IB C zF (ap _ _ _) ((hg.mono k2.sub).mono (zG H2)) ((s.mono k2.sub).mono (zG H2)) zO zO) ?_;rintro v3 o ⟨W,N⟩;obtain ⟨k23,_,_⟩:=zT H2 zK N;have t:Kp H o:=k2.trans k23;have ae:=t.le;have w3:=t.wf;refine zD (eF hl a b d0 d1 d2) ?_;refine AnsH.use (vu C (n:=n) (m:=m) (m2:=m2) (m3:=m3) zF (W.mono (zG o)) i.dim (by rw [VC]; omega) (Lin.validG_app i.own.valid k.own.valid) (fun x hx=>(VE.1 hx).elim (i.kinds x) (k.kinds x)) (fun c hc=>(VE.1 hc).elim (fun h=>Gi (i.bG c h) hm) fun h=>Gi (k.bG c h) Q) U L R M S P) ?_;rintro v4 q ⟨g,O⟩;obtain ⟨A,_,_⟩:=zT o zK O;have B:Kp H q:=t.trans A;have af:=B.le;have w4:=B.wf;have d:=A.get (k23.get d2);have r:=k23.get d0;have ak:=w4 _ _ d;rcases g with ⟨rfl,g⟩ | ⟨rfl,g⟩ | ⟨p,rfl,⟨Z,ab,rfl,y,z⟩,h1,h2⟩
 ·refine zD (jY hl a b d0 d1 r d @oD) ?_;exact ⟨.inl ⟨rfl,g⟩,zK⟩
 ·refine zD (jY hl a b d0 d1 r d @oD) ?_;exact ⟨.inr (.inl ⟨rfl,g⟩),zK⟩
 ·have al:=y.one;have am:=z.one;refine zD (jY hl a b d0 d1 r d @oD) ?_;refine ⟨.inr (.inr ⟨_,rfl,⟨Z,ab,rfl,?_,?_⟩,h1,h2⟩),zK⟩
  ·have m3:NoTy (t_api_Con :: conE.tys) q (H.next+2):=NoTy.ty d zU;exact SlV.monoT (E:=conE) zS y
  ·have m3:NoTy (ah :: genE.tys) q (H.next+2):=NoTy.ty d zU;exact SlV.monoT (E:=genE) zS z
end
end Go.Proofs.YtkmepoeklibegaaGreat.Ev
namespace Go.Proofs.YtkmepoeklibegaaGreat.Lin
def k13:consP 1 [(3,[1,1]),(3,[1,3])]=[([-1,1],false),([3,-1],false)]:=by
 have r:(gensU 2 [] [[1,1],[1,3]]).rays.map (restF (gensL 2 [] [[1,1],[1,3]]))=[[3,-1],[-1,1]]:=by decide +kernel
 have e:gensL 2 [] [[1,1],[1,3]]=[]:=by decide +kernel
 have g:gensR 2 [] [[1,1],[1,3]]=[[-1,1],[3,-1]]:=by
  unfold gensR;rw [r]; simp [List.mergeSort,List.MergeSort.Internal.splitInTwo,cmpV]
 have h1:linesOf ([(3,[1,1]),(3,[1,3])]:List (Nat × V))=[]:=rfl;have h2:raysOf ([(3,[1,1]),(3,[1,3])]:List (Nat × V))=[[1,1],[1,3]]:=rfl;unfold consP;rw [h1,h2,e,g];decide
def b0:gensP 1 [([-1,1],false),([3,-1],false),([-4,1],false),([9,-1],false)]=[]:=by
 have r:(gensU 2 [] [[1,0],[-1,1],[3,-1],[-4,1],[9,-1]]).rays.map (restF (gensL 2 [] [[1,0],[-1,1],[3,-1],[-4,1],[9,-1]]))=[]:=by decide +kernel
 have e:gensL 2 [] [[1,0],[-1,1],[3,-1],[-4,1],[9,-1]]=[]:=by decide +kernel
 have g:gensR 2 [] [[1,0],[-1,1],[3,-1],[-4,1],[9,-1]]=[]:=by
  unfold gensR;rw [r]; simp
 have h1:eqsOf ([([-1,1],false),([3,-1],false),([-4,1],false),([9,-1],false)]:List (V × Bool))=[]:=rfl;have h2:ineqsOf 1 ([([-1,1],false),([3,-1],false),([-4,1],false),([9,-1],false)]:List (V × Bool))=[[1,0],[-1,1],[3,-1],[-4,1],[9,-1]]:=rfl;unfold gensP;rw [h1,h2,e,g];rfl
def k23:consP 1 [(3,[1,2]),(3,[1,3])]=[([-2,1],false),([3,-1],false)]:=by
 have r:(gensU 2 [] [[1,2],[1,3]]).rays.map (restF (gensL 2 [] [[1,2],[1,3]]))=[[3,-1],[-2,1]]:=by decide +kernel
 have e:gensL 2 [] [[1,2],[1,3]]=[]:=by decide +kernel
 have g:gensR 2 [] [[1,2],[1,3]]=[[-2,1],[3,-1]]:=by
  unfold gensR;rw [r]; simp [List.mergeSort,List.MergeSort.Internal.splitInTwo,cmpV]
 have h1:linesOf ([(3,[1,2]),(3,[1,3])]:List (Nat × V))=[]:=rfl;have h2:raysOf ([(3,[1,2]),(3,[1,3])]:List (Nat × V))=[[1,2],[1,3]]:=rfl;unfold consP;rw [h1,h2,e,g];decide
def bd_small4 {x:V} (h:x.all (fun a=>decide (a.natAbs<=16))=true):Bd (2^4) x:=fun i=>by
 by_cases hi:i<x.length
 ·have:at_ x i=x[i]:=by simp [at_,hi]
  rw [this]
  simpa using VJ.1 h _ (Vm hi)
 ·have:at_ x i=0:=by simp [at_,hi]
  rw [this]; simp
end Go.Proofs.YtkmepoeklibegaaGreat.Lin
namespace Go.Proofs.YtkmepoeklibegaaGreat.Ev
open Go Nn
section
variable {tab:Nat->Option au} {H:Heap} {s:AV}
def xK (C:Code tab) (l:Wf H) {v:AV} {n:Nat} {c:List (List Int × Bool)} {g:List (Nat × List Int)} (hp:PolyV H v n c g) :
  Ans tab (.fn fz [v]) H fun x H'=>x=.bool (pJ c g || decide (4<n))/\Kp H H':=by
 obtain ⟨f,h,rfl,hc,hg⟩:=hp;have i:=hc.one;have j:=hg.one;refine dg C.q14 zU fun T hl a=>?_;refine zW (aB hl a (mX i j)) ?_;refine AnsH.eq (E7 C (n:=n) (c:=c) (g:=g) zF ⟨f,h,rfl,hc.mono (zG H),hg.mono (zG H)⟩) fun H2 d=>?_;obtain ⟨k2,_,_⟩:=zT H zK d;have d0:=d.get (b:=H.next) (e:=.cells [.int .i64 (n:Int),f,h] ai true) (da);have e:decide ((4:Int)<(n:Int))=decide (4<n):=by rw [WK]; simp; omega
 cases k:pJ c g with
 | true =>
  refine zW (aA hl a) ?_;exact ⟨by simp,zK⟩
 | false =>
  refine zW (aB hl a d0) ?_;exact ⟨by simp [e],zK⟩
def zN (C:Code tab) (B:Wf H) {v h:AV} {n n':Nat} {c a:List (List Int × Bool)} {g g':List (Nat × List Int)} (hp:PolyV H v n c g) (o:PolyV H h n' a g') (i:c.length<1099511627776) (j:∀ r∈c,r.1.length<1099511627776/\∀ z∈r.1,eR z) (k:g.length<1099511627776) (l:∀ r∈g,r.2.length<1099511627776/\∀ z∈r.2,eR z) :
  Ans tab (.fn fV [v,h]) H fun x H'=>x=.bool (decide (n=n'/\c=a/\g=g'))/\Kp H H':=by
 obtain ⟨u,y,rfl,hc,hg⟩:=hp;obtain ⟨w,A,rfl,e,f⟩:=o;have p:=hc.one;have s:=hg.one;have q:=e.one;have t:=f.one;refine bC C.q7 zU fun T hl b d=>?_;refine zW (cp hl b d (mX p s) (mX q t)) ?_;refine AnsH.eq (He C (n:=n) (n':=n') zF ⟨u,y,rfl,hc.mono (zG H),hg.mono (zG H)⟩ ⟨w,A,rfl,e.mono (zG H),f.mono (zG H)⟩ i j k l) fun H2 m=>?_;obtain ⟨k2,_,_⟩:=zT H zK m;refine zW (aB hl b d) ?_;exact zK
def Ky {a b:Int} (ha:a.natAbs<=9) (hb:b.natAbs<=9):∀ c∈[(([-a,1]:List Int),false),([b,-1],false)],c.1.length=1+1/\Lin.Bd (2^4) c.1:=fun c hc=>by
 have key:∀ x y:Int,x.natAbs<=9->y.natAbs<=9->Lin.Bd (2^4) [x,y]:=fun x y hx hy i=>by
  match i with
  | 0=>show x.natAbs<=16; omega
  | 1=>show y.natAbs<=16; omega
  | i+2=>simp [Lin.at_]
 rcases VK.1 hc with rfl | hc
 ·exact ⟨rfl,key _ _ zO zO⟩
 ·rw [Wl] at hc; subst hc;exact ⟨rfl,key _ _ hb zO⟩
end
open Go
def O0 {tab:Nat->Option au} {rd:Bool} {c:ACode} {T:Tm} {H:Heap} {K:Ex->Tm->Heap->Prop} (p:Tm->Prop) (hp:p T) (h:∀ T',p T'->WC tab rd c T' H K):WC tab rd c T H K:=h T hp
def ot {tab:Nat->Option au} {rd:Bool} {c:ACode} {T:Tm} {H:Heap} {K:Ex->Tm->Heap->Prop} (p:Tm->Prop) (hp:p T) (h:∀ T',p T'->WB tab rd c T' H K):WB tab rd c T H K:=h T hp
section
variable {tab:Nat->Option au} {H:Heap} {s:AV}
def ok1 {K:List (List Int × Bool)} {G:List (Nat × List Int)} (h1:Lin.gensP 1 K=G) (h2:Lin.consP 1 G=K) (h:(K.all (fun x=>decide (x.1.length=2) && x.1.all (fun a=>decide (a.natAbs<=16))) && G.all (fun x=>x.2.all (fun a=>decide (a.natAbs<=16))) && decide (K.length<=60) && decide (G.length<60))=true):PolyOK 1 4 4 K G:=by
 simp only [VU,VJ,decide_eq_true_eq] at h;obtain ⟨⟨⟨h3,b⟩,h5⟩,d⟩:=h;exact ⟨⟨fun c hc=>(h3 c hc).1,h1,h2⟩,zO,.inl h5,zO,fun c hc=>Lin.bd_small4 (VJ.2 fun a ha=>decide_eq_true ((h3 c hc).2 a ha)),fun x hx=>Lin.bd_small4 (VJ.2 fun a ha=>decide_eq_true (b x hx a ha)),zO,zO⟩
def Ti {H:Heap} {x:AV} {K:List (List Int × Bool)} {G:List (Nat × List Int)} (h:qc H x 1 G) (ok:PolyOK 1 4 4 K G):∃ a b,x=.tup [.agg [.int .i64 1,a,b],.int .i64 0]/\SlV conE t_api_Con H a K/\SlV genE ah H b G:=by
 have e:=ok.own.cons;have h1:=ok.many;have h2:=ok.lenK;unfold qc at h;rw [e] at h;rcases h with ⟨-,h⟩ | ⟨p,rfl,⟨a,b,rfl,hc,hg⟩,-,-⟩
 ·omega
 ·exact ⟨a,b,rfl,hc,hg⟩
def TM (a:AV):Prop:=∃ x u w,a=.agg [.int .i64 x,u,w]/\One u/\One w
def qF:TM wG:=⟨0,.nilSl,.nilSl,rfl,bf,bf⟩
def TellP (H:Heap) (d:Int) (p:AV) (K:List (List Int × Bool)) (G:List (Nat × List Int)):Prop :=
 ∃ n:Nat,d=(n:Int)/\n<=3/\PolyV H p n K G/\Lin.Own n K G/\K.length<1024/\G.length<1024
def TellP.mono {H H':Heap} {d:Int} {p:AV} {K:List (List Int × Bool)} {G:List (Nat × List Int)} (h:TellP H d p K G) (hs:Sub H H'):TellP H' d p K G:=by
 obtain ⟨n,h1,h2,h3,a⟩:=h;exact ⟨n,h1,h2,h3.mono hs,a⟩
def TellP.pag {H:Heap} {d:Int} {p:AV} {K:List (List Int × Bool)} {G:List (Nat × List Int)} (h:TellP H d p K G):TM p:=by
 obtain ⟨n,h1,h2,⟨b,c,rfl,hc,hg⟩,a⟩:=h;exact ⟨_,_,_,rfl,hc.one,hg.one⟩
def Fx (C:Code tab) (i:Wf H) {d:Int} {l:List vY} (hs:SlV conQE t_api_Con H s l) (gl:∀ r∈l,jg r.1) (hg:fg 6 l=false) (h3:¬ 3<d) :
  Ans tab (.fn oN [.int .i64 d,s]) H fun v H'=>Kp H H'/\∃ p f,v=.tup [p,.int .i64 f]/\TM p/\(f=0->∃ K G,TellP H' d p K G):=by
 rcases LJ (d:=d) (n:=6) hs gl hg zO zO with g | ⟨n,rfl,o,k,ll,b⟩
 ·refine (xW C i hs (HY hg) (by have:=(jf hg).1; omega) g).mono ?_;rintro v H2 ⟨rfl,a⟩;exact ⟨a,_,_,rfl,qF,fun e=>absurd e g⟩
 ·have j:=ri zO b;refine (mP C (n:=n) (m:=64) (m2:=64*(64+4)) i k zO (by rw [Vp]; omega) b zO (fun x hx=>(j x hx).2) zO).mono ?_;rintro v H2 ⟨hm,a⟩;rcases hm with ⟨rfl,-⟩ | ⟨p,rfl,hp,h1,h2⟩
  ·exact ⟨a,_,_,rfl,qF,fun e=>by cases e⟩
  ·have h:TellP H2 (n:Int) p _ _:=⟨n,rfl,zO,hp,Lin.own_of fun c hc=>(b c hc).1,h2,h1⟩
   exact ⟨a,p,0,rfl,h.pag,fun _=>⟨_,_,h⟩⟩
section
open Lin
end
section
variable {n:Nat} {K K':List (List Int × Bool)} {G G':List (Nat × List Int)}
def Qh {H:Heap} {v:AV} {e f:Nat} (hm:qc H v n G) (h:PolyOK n e f K G):∃ a b,v=.tup [.agg [.int .i64 (n:Int),a,b],.int .i64 0]/\SlV conE t_api_Con H a K/\SlV genE ah H b G:=by
 have e1:=h.own.cons;have h1:=h.many;have h2:=h.lenK;unfold qc at hm;rw [e1] at hm;rcases hm with ⟨-,hm⟩ | ⟨p,rfl,⟨a,b,rfl,hc,hg⟩,-,-⟩
 ·omega
 ·exact ⟨a,b,rfl,hc,hg⟩
def IP {H:Heap} {v:AV} {e f:Nat} {g:List (Nat × List Int)} (hm:JP H v n g) (h:PolyOK n e f (Lin.consP n g) (Lin.gensP n (Lin.consP n g))):∃ a b,v=.tup [.agg [.int .i64 (n:Int),a,b],.int .i64 0]/\SlV conE t_api_Con H a (Lin.consP n g)/\SlV genE ah H b (Lin.gensP n (Lin.consP n g)):=by
 have h2:=h.lenK;rcases hm with ⟨-,hm⟩ | hm
 ·omega
 ·exact Qh hm h
end
end
section
variable {tab:Nat->Option au} {H:Heap} {s1 s2 s3:AV}
end
section
variable {tab:Nat->Option au} {H:Heap} {s:AV}
def y5 (C:Code tab) (D:Wf H) {v w:AV} {b:Bool} {k:Nat} {a r:List Int} {e f:Nat} (ha:RowV H v a) (hr:RowV H w r) (n:a.length=r.length) (l:a.length<=64) (m:∀ z∈a,Bt e z) (s:∀ z∈r,Bt f z) (o:e+f+7<=8796093022208) :
  Ans tab (.fn lv [.agg [v,.bool b],.agg [.int .u8 (k:Int),w]]) H fun x H'=>x=.int .i64 (gw (Lin.dot a r))/\Kp H H':=by
 have ov:=ha.one;have F:=hr.one;refine bC C.q36 zU fun T hl g h=>?_;refine zW (cp hl g h (vS ov) (Bm F)) ?_;obtain ⟨X,c⟩:∃ X,X=((H.up 14).put H.next (.cells [v,.bool b] t_api_Con true)).put (H.next+1) (.cells [.int .u8 (k:Int),w] ah true):=⟨_,rfl⟩
 rw [<- c];have d:Kp H X:=by rw [c]; exact zK
 have L:X.next=H.next+14:=by rw [c]; rfl
 have y:X.get (H.next+11)=none:=by rw [c,al zO,al zO]; exact D.fresh zO
 clear c;refine AnsH.use (pd C d.wf (ha.mono d.sub) (hr.mono d.sub) n l m s o) ?_;rintro x H2 ⟨q,rfl,⟨p,rfl,hp⟩,j⟩;have k2:Kp H H2:=d.trans j;have I:=k2.le;have M:=k2.wf;have op:=hp.one;have K:=j.le;have fr:H2.get (H.next+11)=none:=j.free zO y;obtain ⟨G,i⟩:∃ G,G=((H2.up 7).put (H.next+11) (.cells [.bool false,.nilSl] ad true)).put (H.next+11) (.cells [.bool (decide (Lin.dot a r<0)),p] ad true):=⟨_,rfl⟩
 have t:Kp H G:=by rw [i]; exact zK
 have B:cd G p (Lin.dot a r).natAbs:=by
  rw [i];exact hp.mono (((Sub.bump H2 7).put fr _).put fr _)
 refine zW (aB hl g h) ?_;rw [<- i];refine AnsH.eq (l9 C (x:=Lin.dot a r) t.wf ⟨p,rfl,B⟩ ((ol m s n l).sm o)) fun u A=>?_;have E:Kp H u:=t.trans A;have J:=E.le;refine zW (aB hl g h) ?_;exact zK
def BB (C:Code tab) (F:Wf H) {v w:AV} {b:Bool} {k n:Nat} {a r:List Int} {e f:Nat} (hA:H.get n=some (.cells [v,.bool b] t_api_Con true)) (ha:RowV H v a) (hr:RowV H w r) (B:a.length=r.length) (y:a.length<=64) (A:∀ z∈a,Bt e z) (E:∀ z∈r,Bt f z) (D:e+f+7<=8796093022208) :
  Ans tab (.fn kN [.agg [.int .u8 (k:Int),w],.ptr n 0]) H fun x H'=>x=.bool (!Lin.keepsP (a,false) (k,r))/\Kp H H':=by
 have ov:=ha.one;have G:=hr.one;refine bC C.q37 zU fun T hl d g=>?_;have K:=F _ _ hA;refine zW (aV hl d g (Bm G)) ?_;obtain ⟨X,j⟩:∃ X,X=(H.up 6).put H.next (.cells [.int .u8 (k:Int),w] ah true):=⟨_,rfl⟩
 rw [<- j];have i:Kp H X:=by rw [j]; exact zK
 have I:=i.get hA;have o:X.get H.next=some (.cells [.int .u8 (k:Int),w] ah true):=by rw [j,ap]
 clear j;refine zW (cp hl d g hA o) ?_;refine AnsH.eq (y5 C i.wf (ha.mono i.sub) (hr.mono i.sub) B y A E D) fun H2 s=>?_;have k2:Kp H H2:=i.trans s;have J:=k2.le;have L:=k2.wf;have p:=s.get o;obtain ⟨q,t⟩:∃ q,q=Lin.dot a r:=⟨_,rfl⟩
 have m:Lin.keepsP (a,false) (k,r)=true ↔ (if k=1 then q=0 else 0<=q):=by
  rw [Lin.keepsP_true,t]
  simp
 rw [<- t];rcases Int.lt_trichotomy q 0 with h | h | h
 ·have hs:gw q = -1:=by unfold gw; rw [if_pos h]
  have c:Lin.keepsP (a,false) (k,r)=false:=by
   rw [<- XA,m];split <;> omega
  refine zW (aV hl d g hs) ?_;exact ⟨by rw [c]; rfl,zK⟩
 ·have hs:gw q=0:=by unfold gw; rw [if_neg zO,if_pos h]
  have c:Lin.keepsP (a,false) (k,r)=true:=by
   rw [m];split <;> omega
  refine zW (aV hl d g hs) ?_;exact ⟨by rw [c]; rfl,zK⟩
 ·have hs:gw q=1:=by unfold gw; rw [if_neg zO,if_neg zO]
  have u:bz [AV.int .u8 (k:Int),w] 0 none=some (.int .u8 (k:Int)):=rfl;by_cases l:(k:Int)=1
  ·have c:Lin.keepsP (a,false) (k,r)=false:=by
    rw [<- XA,m,if_pos zO];omega
   have l:((k:Int)=1)=True:=eq_true l;refine zW (gS hl d g hs p u l) ?_;exact ⟨by rw [c]; rfl,zK⟩
  ·have c:Lin.keepsP (a,false) (k,r)=true:=by
    rw [m,if_neg zO];omega
   refine zW (gS hl d g hs p u l) ?_;exact ⟨by rw [c]; rfl,zK⟩
def UL (a:List Int) (L:List (Nat × List Int)):List Bool:=L.map fun g=>decide (Lin.dot a g.2=0)
def pW (l:List Bool):ByteArray:=l.foldl (fun s b=>s.push (UInt8.ofNat (if b then 1 else 0))) .empty
def oO (l:List Bool):List AV:=l.map fun b=>.int .u8 (if b then 1 else 0)
def Bk:∀ (l:List Bool) (s:ByteArray),tY (oO l) s=some (l.foldl (fun s b=>s.push (UInt8.ofNat (if b then 1 else 0))) s)
 | [],s=>rfl
 | b :: l,s=>by
  have:=Bk l (s.push (UInt8.ofNat (if b then 1 else 0)))
  cases b <;> exact this
def Mn {ev:Src->AV} {H:Heap} {id:Nat} {Q:AV->Heap->Prop} (x:Src):lJ tab ev H id (.toStr x) Q=gu (nH H (ev x)) (fun s=>Q (.str s) H) ():=by
 rw [bT,gn tab ev H id Q (o:=.toStr x) (fun f a e=>by cases e) rfl];show gY ((nH H (ev x)).map fun s=>(AV.str s,H)) _=_;cases nH H (ev x) <;> rfl
def GQ {X:Heap} {b n:Nat} {l:List Bool} (h:X.get b=some (.cells (oO l) m6 true)) (hn:l.length=n):nH X (.own b 0 n n 1 true)=some (pW l):=by
 have hcl:(oO l).length=n:=by unfold oO; rw [Vp,hn]
 have a:aG X 1 n (.own b 0 n n 1 true)=some (oO l):=by
  simp only [aG,h];rw [if_pos ⟨trivial,Vo _,zO⟩];rw [Z7,VP zO]
 simp only [nH,gL,a];exact Bk l _
set_option maxHeartbeats 1000000 in
def y6 (C:Code tab) (hw:Wf H) {v s:AV} {b:Bool} {a:List Int} {L:List (Nat × List Int)} {e f:Nat} (ha:RowV H v a) (hs:SlV genE ah H s L) (hL:L.length<=2000) (P:∀ g∈L,g.2.length=a.length) (M:a.length<=64) (O:∀ z∈a,Bt e z) (Z:∀ g∈L,∀ z∈g.2,Bt f z) (Q:e+f+7<=8796093022208) :
  Ans tab (.fn pm [.agg [v,.bool b],s]) H fun x H'=>x=.str (pW (UL a L))/\Kp H H':=by
 have ov:=ha.one;refine bC C.q16 zU fun T hl l o=>?_;have R:(List.replicate L.length [AV.int .u8 0]).flatten=oO (List.replicate L.length false):=by
  generalize L.length=n
  induction n with
  | zero=>rfl
  | succ n ih=>rw [Wk,X6,ih]; rfl
 have Y:∀ H':Heap,I8 H' (H.next+4) m6 1 1 [.int .u8 0] (.int .i64 (L.length:Int)) (.int .i64 (L.length:Int))=some (.own (H.next+4) 0 L.length L.length 1 true,H'.put (H.next+4) (.cells (oO (List.replicate L.length false)) m6 true)):=fun H'=>by rw [<- R]; exact jd _ _ _ _ _ _ _ _ _ zO zO rfl
 refine zW (eF hl l o (vS ov) hs.lenV Y) ?_;have kX:Kp H (((H.up 9).put H.next (.cells [v,.bool b] t_api_Con true)).put (H.next+4) (.cells (oO (List.replicate L.length false)) m6 true)):=zK;have W:∀ j,(UL a (L.take j)++List.replicate (L.length-j) false).length=(L.take j).length+(L.length-j):=fun j=>by rw [VC,XM]; unfold UL; rw [Vp]
 refine am H [] (fun j _ H'=>H'.get H.next=some (.cells [v,.bool b] t_api_Con true)/\H'.get (H.next+4)=some (.cells (oO (UL a (L.take j)++List.replicate (L.length-j) false)) m6 true)) (a:=0) (N:=L.length) rfl (by refine zW (aB hl l o) ?_; rfl) (zV (aB hl l o)) (Vz _) zO (by simp only [Vg,hl]; rfl) rfl (fun j _ H' m h=>h) kX ⟨by rw [al zO,ap],by rw [ap,YT,Zn]; rfl⟩ ?_ ?_
 ·rintro j T1 d _ hj p I t i ⟨B,u⟩;have w1:=i.wf;have ad:=i.le;have af:=i.le;have ai:=w1 _ _ u;have t2:aa T1 2=.ptr H.next 0:=(t.at_ 2 zU).trans (zV (aB hl l o))
  have t5:aa T1 5=.own (H.next+4) 0 L.length L.length 1 true:=(t.at_ 5 zU).trans (zV (aB hl l o));have ae:aa T1 11=s:=(t.at_ 11 zU).trans (zV (aB hl l o));obtain ⟨_,⟨w,rfl,hr⟩,-,-,r⟩:=(hs.mono i.sub).at (Vk hj);have U:cL 2 s (.int .i64 (j:Int))=some (aq s (j*2)):=hs.idx .i64 j hj;have r:aW d (some 2) (aq s (j*2))=some (.agg [.int .u8 ((L[j]).1:Int),w]):=r;have ow:=hr.one;have hr:RowV d w (L[j]).2:=hr;have E:=Vm hj;obtain ⟨g,hg⟩:∃ g,g=L[j]:=⟨_,rfl⟩
  rw [<- hg] at r hr E;have J:=(Ldd.of w1 r).put;simp only [Vg,hl] at p;refine zW (jY p t2 ae I U r J @B) ?_;obtain ⟨X,D⟩:∃ X,X=((d.up 10).put (d.next+3) (.cells [.int .u8 0,.nilSl] ah true)).put (d.next+3) (.cells [.int .u8 (g.1:Int),w] ah true):=⟨_,rfl⟩
  have A:Kp d X:=by rw [D]; exact zK
  rw [<- D];clear D;refine AnsH.eq (y5 C A.wf (ha.mono (i.trans A).sub) (hr.mono A.sub) (P g E).symm M O (Z g E) Q) fun H2 V=>?_;have y:Kp d H2:=A.trans V;have ag:=y.le;have k2:=i.trans y;have w2:=k2.wf;have G:=y.get B;have m2:=y.get u;have ak:=w2 _ _ m2;have K:UL a (L.take (j+1))++List.replicate (L.length-(j+1)) false=(UL a (L.take j)++List.replicate (L.length-j) false).set j (decide (Lin.dot a g.2=0)):=by
   have e1:L.length-j=(L.length-(j+1))+1:=zO;have e2:(UL a (L.take j)).length=j:=by unfold UL; rw [Vp,VN]; omega
   rw [e1,Wk,List.set_append,if_neg zO,e2,YE,List.set_cons_zero,Vr hj,<- hg];unfold UL;rw [V7,W7]; rfl
  by_cases q:Lin.dot a g.2=0
  ·have F:(gw (Lin.dot a g.2)=0)=True:=eq_true ((fP _).2 q);have S:cL 1 (.own (H.next+4) 0 L.length L.length 1 true) (.int .i64 (j:Int))=some (.ptr (H.next+4) j):=by
    have:=nl (b:=H.next+4) (off:=0) (n:=L.length) (c:=L.length) (sz:=1) (x:=true) (k:=.i64) hj
    simpa using this
   have ab:En (some (.cells (oO (UL a (L.take j)++List.replicate (L.length-j) false)) m6 true)) 1 j (.int .u8 1)=some (.cells (oO (UL a (L.take (j+1))++List.replicate (L.length-(j+1)) false)) m6 true):=by
    rw [TQ (aT .u8 1),if_pos (by unfold oO; rw [Vp,W,VN]; omega),K,decide_eq_true q];unfold oO;rw [YG]; rfl
   refine zW (gS p t5 I F S m2 ab) ?_;exact ⟨zK,G⟩
  ·have F:¬ gw (Lin.dot a g.2)=0:=fun h=>q ((fP _).1 h);have en:UL a (L.take (j+1))++List.replicate (L.length-(j+1)) false=UL a (L.take j)++List.replicate (L.length-j) false:=by
    have e1:L.length-j=(L.length-(j+1))+1:=zO;rw [e1,Wk,Vr hj,<- hg];unfold UL;rw [V7,W7];simp only [Vq,Vw,decide_eq_false q];rfl
   rw [<- en] at m2;refine zW (aA p F) ?_;exact ⟨k2,G,m2⟩
 ·rintro T1 d p t i ⟨B,u⟩;have w1:=i.wf;have ad:=i.le;have t5:aa T1 5=.own (H.next+4) 0 L.length L.length 1 true:=(t.at_ 5 zU).trans (zV (aB hl l o));rw [VO,YE,List.replicate_zero,Wv] at u;have ts:nH (d.up 3) (.own (H.next+4) 0 L.length L.length 1 true)=some (pW (UL a L)):=GQ u (by unfold UL; rw [Vp]);simp only [Vg,hl] at p;simp -dsimp (maxSteps:=1000000) (disch:=(first | omega | assumption | exact aH _ | exact aT _ _ | exact bf | exact bS _ _ _ | exact bk _ _ | exact bj _ _ _ _ _ _ | exact bX _ _ | exact bp _)) only [↓qh,qg,Nat.reduceLT,Nat.reduceEqDiff,Nat.reduceAdd,reduceIte,reduceCtorEq,Nat.reduceBEq,Int.reduceEq,Int.reduceLT,Int.reduceLE,Int.reduceAdd,Int.reduceSub,p,t5,↓Mn,ts];exact zK
def GG (C:Code tab) (t:Wf H) {v s:AV} {b:Bool} {a:List Int} {L:List (Nat × List Int)} {e f:Nat} (ha:RowV H v a) (hs:SlV genE ah H s L) (hL:L.length<4611686018427387904) (n:∀ g∈L,g.2.length=a.length) (l:a.length<=64) (m:∀ z∈a,Bt e z) (q:∀ g∈L,∀ z∈g.2,Bt f z) (o:e+f+7<=8796093022208) :
  Ans tab (.fn pn [.agg [v,.bool b],s]) H fun x H'=>x=.bool (L.all fun g=>Lin.keepsP (a,false) g)/\Kp H H':=by
 have ov:=ha.one;refine bC C.q17 zU fun T hl i j=>?_;refine zW (aV hl i j (vS ov)) ?_;obtain ⟨X,c⟩:∃ X,X=(H.up 7).put H.next (.cells [v,.bool b] t_api_Con true):=⟨_,rfl⟩
 rw [<- c];have d:Kp H X:=by rw [c]; exact zK
 have k:X.get H.next=some (.cells [v,.bool b] t_api_Con true):=by rw [c,ap]
 clear c;refine AnsH.eq (jW C d.wf (E:=genE) rfl (hs.mono d.sub) hL (fun g=>!Lin.keepsP (a,false) g) fun g hg H' cs h hr=>?_) fun H2 p=>?_
 ·obtain ⟨w,rfl,r⟩:=hr;exact BB C h.wf (h.get k) (ha.mono (d.trans h).sub) r (n g hg).symm l m (q g hg) o
 ·have k2:=d.trans p;refine zW (aB hl i j) ?_;exact ⟨by congr 1; rw [WK]; simp,zK⟩
def MH (C:Code tab) (h:Wf H) {v w:AV} {b b':Bool} {c:Nat} {a r:List Int} (hA:H.get c=some (.cells [w,.bool b'] t_api_Con true)) (ha:RowV H v a) (hr:RowV H w r) (g:a.length<1099511627776) (i:∀ z∈a,eR z) :
  Ans tab (.fn jO [.agg [v,.bool b],.ptr c 0]) H fun x H'=>x=.bool (decide (a=r))/\Kp H H':=by
 have ov:=ha.one;have j:=h _ _ hA;refine bC C.q18 zU fun T hl d e=>?_;refine zW (cp hl d e (vS ov) hA) ?_;refine AnsH.eq (uw C zF (ha.mono (zG H)) (hr.mono (zG H)) g i) fun H2 f=>?_;obtain ⟨k2,_,_⟩:=zT H zK f;refine zW (aB hl d e) ?_;exact zK
end
end Go.Proofs.YtkmepoeklibegaaGreat.Ev
namespace Go.Proofs.YtkmepoeklibegaaGreat.Lin
def Ut:∀ (m:Nat) (Z:List V),(∀ z∈Z,z.length=m)->Z.length<m->∃ c:V,c.length=m/\(∃ i,at_ c i≠0)/\∀ z∈Z,dot z c=0
 | 0,Z,_,h=>by omega
 | m+1,Z,hl,h=>by
  by_cases h0:∃ z∈Z,hd1 z≠0
  ·obtain ⟨z0,k,hn⟩:=h0;have n:=hl z0 k;cases z0 with
   | nil=>simp at n
   | cons a t =>
    have ha:a≠0:=hn;have l:t.length=m:=by simpa using n
    obtain ⟨f,j⟩:∃ f,f=(Z.erase (a :: t)).map fun z=>mix a z.tail (-(hd1 z)) t:=⟨_,rfl⟩
    have p:∀ z∈f,z.length=m:=fun z d=>by
     rw [j] at d;obtain ⟨y,hy,rfl⟩:=Vl.1 d
     have:=hl y (Z5 hy)
     exact mix_length (by rw [List.length_tail]; omega) l
    have q:f.length<m:=by
     rw [j,Vp,YN k]
     have:=Y1 k
     omega
    obtain ⟨c,hc,⟨i,hi⟩,o⟩:=Ut m f p q;refine ⟨-(dot t c) :: scl a c,by simp [scl,hc],⟨i+1,?_⟩,fun z d=>?_⟩
    ·have e:at_ (-(dot t c) :: scl a c) (i+1)=at_ (scl a c) i:=by simp [at_]
     rw [e,az];exact Int.mul_ne_zero ha hi
    ·have g:=hl z d;cases z with
     | nil=>simp at g
     | cons b s =>
      have r:s.length=m:=by simpa using g
      show b * -(dot t c)+dot s (scl a c)=0;rw [dot_scl];by_cases e:(b :: s)=a :: t
      ·obtain ⟨rfl,rfl⟩:=List.cons.inj e;rw [Int.mul_neg]; omega
      ·have:=o _ (by rw [j]; exact Vl.2 ⟨b :: s,(Zh e).2 d,rfl⟩)
       have this:dot (mix a s (-b) t) c=0:=this;rw [dot_comm,aJ _ _ _ (r.trans l.symm),dot_comm c s,dot_comm c t,X9] at this;rw [Int.mul_neg]; omega
  ·refine ⟨1 :: List.replicate m 0,by simp,⟨0,by simp [at_]⟩,fun z d=>?_⟩;have g:=hl z d;cases z with
   | nil=>simp at g
   | cons b s =>
    have hb:b=0:=VI fun hb=>h0 ⟨_,d,hb⟩;subst hb;show 0*1+dot s (List.replicate m 0)=0;rw [dot_comm,lX]; rfl
def eV (d p:Nat):V:=(List.replicate d 0).set p 1
def On (d p:Nat):(eV d p).length=d:=by simp [eV]
def Ot:∀ (d p:Nat) (z:V),z.length=d->p<d->dot z (eV d p)=at_ z p
 | 0,p,z,_,h=>by omega
 | d+1,0,z,b,_=>by
  cases z with
  | nil=>simp at b
  | cons a z =>
   show a*1+dot z (List.replicate d 0)=a;rw [dot_comm z,lX]; omega
 | d+1,p+1,z,b,h=>by
  cases z with
  | nil=>simp at b
  | cons a z =>
   have:=Ot d p z (by simpa using b) zO
   show a*0+dot z (eV d p)=at_ (a :: z) (p+1);rw [this]; simp [at_]
def AP (d:Nat):List V->V->V
 | a :: A,c :: cs=>mix 1 (AP d A cs) c (eV d (pv a))
 | _,_=>List.replicate d 0
def xp (d:Nat):∀ (A:List V) (c:V),(AP d A c).length=d
 | [],_=>by simp [AP]
 | _ :: _,[]=>by simp [AP]
 | a :: A,c :: cs=>mix_length (xp d A cs) (On d _)
def AI {d:Nat} {z:V} (b:z.length=d):∀ (A:List V) (c:V),(∀ a∈A,pv a<d)->dot z (AP d A c)=dot (A.map fun a=>at_ z (pv a)) c
 | [],c,_=>by
  show dot z (List.replicate d 0)=_;rw [dot_comm,lX]; simp [dot]
 | a :: A,[],_=>by
  show dot z (List.replicate d 0)=_;rw [dot_comm,lX]; simp [dot]
 | a :: A,c :: cs,h=>by
  have e:=AI b A cs fun x hx=>h x (Vn _ hx);show dot z (mix 1 (AP d A cs) c (eV d (pv a)))=at_ z (pv a)*c+dot (A.map fun a=>at_ z (pv a)) cs;rw [aJ _ _ _ ((xp d A cs).trans (On d _).symm),e,Ot d _ z b (h a (Vt ..)),Zq (at_ z (pv a))];omega
def yT:∀ (l cs:V) (k:Nat),(∀ j,j≠k->at_ l j=0)->dot l cs=at_ l k*at_ cs k
 | [],cs,k,_=>by simp [dot,at_]
 | a :: l,[],k,_=>by simp [dot,at_]
 | a :: l,c :: cs,0,h=>by
  have:=yT l cs 0 fun j _=>by simpa [at_] using h (j+1) zO
  have h1:at_ l 0=0:=by simpa [at_] using h 1 zO
  show a*c+dot l cs=_;rw [this,h1]; simp [at_]
 | a :: l,c :: cs,k+1,h=>by
  have:=yT l cs k fun j hj=>by simpa [at_] using h (j+1) zO
  have h0:a=0:=by simpa [at_] using h 0 zO
  show a*c+dot l cs=_;rw [this,h0]; simp [at_]
def SB {d:Nat} {A Z:List V} (hA:Ech d A) (l:∀ z∈Z,z.length=d) (h:∀ v:V,v.length=d->(∀ z∈Z,dot z v=0)->∀ a∈A,dot a v=0):A.length<=Z.length:=by
 apply VI
 intro hlt;obtain ⟨c,hc,⟨i,hi⟩,m⟩:=Ut A.length (Z.map fun z=>A.map fun a=>at_ z (pv a)) (fun z f=>by
  obtain ⟨y,-,rfl⟩:=Vl.1 f
  simp) (by rw [Vp]; omega)
 have k:∀ a∈A,pv a<d:=fun a ha=>(hA.pos ha).2.2;have n:=h (AP d A c) (xp d A c) fun z f=>by
  rw [AI (l z f) A c k];exact m _ (Vl.2 ⟨z,f,rfl⟩)
 have b:i<A.length:=by
  apply VI
  intro hge;exact hi (by simp [at_,Vh,VS (show c.length<=i by omega)])
 have ha:=n _ (Vm b);rw [AI (hA.len _ (Vm b)) A c k] at ha;rw [yT _ _ i fun j hj=>?_] at ha
 ·have hp:=(hA.pos (Vm b)).2.1;have e:at_ (A.map fun a=>at_ A[i] (pv a)) i=at_ A[i] (pv A[i]):=by simp [at_,Vh,b]
  rw [e] at ha;rcases VH.1 ha with h1 | h1
  ·omega
  ·exact hi h1
 ·by_cases g:j<A.length
  ·have e:at_ (A.map fun a=>at_ A[i] (pv a)) j=at_ A[i] (pv A[j]):=by simp [at_,Vh,g]
   rw [e];rcases Nat.lt_or_gt_of_ne hj with hlt | hlt
   ·exact (V2.1 hA.clear j i g b hlt).2
   ·exact (V2.1 hA.clear i j b g hlt).1
  ·have e:A[j]? = none:=VS zO;simp [at_,Vh,e]
section
variable {n:Nat} {l:List (V × Bool)}
def OT (n:Nat) (k:Int) {p:Nat} (hp:p≠0):at_ (unitC n k) p=0:=by
 unfold unitC;cases p with
 | zero=>exact absurd rfl hp
 | succ p =>
  simp only [at_,Vh,WQ,Wj];split <;> rfl
def BH (n:Nat):content (unitC n 1)=1:=by
 unfold content unitC;rw [Wn]
 have:∀ m g:Nat,(List.replicate m (0:Int)).foldl (fun g a=>Nat.gcd g a.natAbs) g=g:=fun m=>by
  induction m with
  | zero=>intro g; rfl
  | succ m b=>intro g; rw [Wk,Wn,b]; simp
 rw [this]; rfl
def Sc (h:∀ c∈l,c.1.length=n+1) (hb:∀ c∈l,c.2=false) (hne:gensP n l≠[]):(consP n (gensP n l)).length<=l.length:=by
 have hs:=jV hne;obtain ⟨p1,p2,p3⟩:=mL hs;have t1:=gens_told (eqs_len h) (ineqs_len h);have d:=gens_told t1.dd.lenL t1.dd.lenR;obtain ⟨L,hL⟩:∃ L,L=gensL (n+1) (eqsOf l) (ineqsOf n l):=⟨_,rfl⟩
 obtain ⟨R,p⟩:∃ R,R=gensR (n+1) (eqsOf l) (ineqsOf n l):=⟨_,rfl⟩
 rw [<- hL,<- p] at t1 d;obtain ⟨A,hA⟩:∃ A,A=gensL (n+1) L R:=⟨_,rfl⟩
 obtain ⟨B,E⟩:∃ B,B=gensR (n+1) L R:=⟨_,rfl⟩
 rw [<- hA,<- E] at d;have e0:(consP n (gensP n l)).length=A.length+(B.filter fun r=>!decide (r=unitC n 1)).length:=by
  unfold consP;rw [if_pos p3,p1,p2,<- hL,<- p,<- hA,<- E,VC,Vp,Vp]
 rw [e0];have hl:l.filter (fun c=>!c.2)=l:=Xp.2 fun c hc=>by rw [hb c hc]; rfl
 have m:ineqsOf n l=unitC n 1 :: l.map fun c=>c.1:=by unfold ineqsOf; rw [hl]
 have F:=ineqs_len (n:=n) h;obtain ⟨r0,y,h0⟩:∃ r∈R,0<hd1 r:=by
  rw [VY] at hs;obtain ⟨r,hr,h0⟩:=hs;exact ⟨r,by rw [p]; exact hr,of_decide_eq_true h0⟩
 have T:eqsOf l=[]:=by
  unfold eqsOf;rw [X0.2 fun c hc=>by rw [hb c hc]; decide]; rfl
 let z:V->Bool:=fun i=>R.all fun s=>decide (dot s i=0)
 have o:∀ i,z i=true ↔ ∀ s∈R,dot s i=0:=fun i=>by simp [z,VJ]
 have hu:z (unitC n 1)=false:=by
  rw [<- XA,o];intro w
  have:=w r0 y
  rw [dot_comm,eI] at this;omega
 have h1:A.length<=((l.map fun c=>c.1).filter z).length:=by
  refine SB d.form (fun i hi=>F i (by rw [m]; exact Vn _ (Vx.1 hi).1)) fun v K ad a ha=>?_;obtain ⟨N,W,U⟩:=tz (fun s=>dot (scl (-1) v) s) (ineqsOf n l);have M:=qv t1.dd.lenR;have H:(wt (n+1) R).length=v.length:=M.trans K.symm;have u:Keep (n+1) (· ∈ eqsOf l) (· ∈ ineqsOf n l) (mix N (wt (n+1) R) 1 v):=by
   refine ⟨mix_length M K,fun e he=>(by rw [T] at he; cases he),fun i hi=>?_⟩;rw [aJ _ _ _ H];cases f:z i with
   | true =>
    have ab:=(o i).1 f;have hne:i≠unitC n 1:=fun e=>by rw [e,hu] at f; cases f
    have Y:i∈(l.map fun c=>c.1).filter z:=Vx.2 ⟨by rw [m] at hi; exact (VK.1 hi).resolve_left hne,f⟩;rw [ad i Y,lO t1.dd.lenR fun s hs=>by rw [dot_comm]; exact ab s hs];omega
   | false =>
    have hp:∃ s∈R,dot i s≠0:=by
     apply VI
     intro hn
     have:z i=true:=(o i).2 fun s hs=>VI fun h1=>hn ⟨s,hs,by rw [dot_comm]; exact h1⟩
     rw [f] at this; cases this
    have aa:=(qq (x:=i) t1.dd.lenR fun s hs=>(t1.dd.keep s hs).ge i hi).2 hp;have q:dot (scl (-1) v) i<=N:=U i hi;rw [cR,dot_comm v i] at q
    have:=Yp aa W
    omega
  have:=Con.dot_zero (a:=a) t1.dd.lenL t1.dd.lenR (fun x hx=>by rw [dot_comm]; exact d.dd.lineE a ha x hx) (fun s hs=>by rw [dot_comm]; exact d.dd.lineI a ha s hs) (t1.dd.all _ u)
  rw [aJ _ _ _ H,lO t1.dd.lenR fun s hs=>by rw [dot_comm]; exact d.dd.lineI a ha s hs] at this;omega
 have h2:(B.filter fun r=>!decide (r=unitC n 1)).length<=((l.map fun c=>c.1).filter fun i=>!z i).length:=by
  refine DP (P:=fun b i=>∀ s∈R,dot s i=0 ↔ dot s b=0) _ _ ((told_nodup d).filter _) (fun b hb=>?_) fun b hb b' q i q1 q2=>?_
  ·obtain ⟨g,t⟩:=Vx.1 hb;have t:b≠unitC n 1:=by simpa using t
   obtain ⟨i,hi,C⟩:=Ju (eqs_len h) F t1.dd d.dd g;obtain ⟨Q,I,Z⟩:=d.dd.off b g;have f:z i=false:=by
    rw [<- XA,o];intro w;exact Z ((C Q I).1 (w Q I))
   refine ⟨i,Vx.2 ⟨?_,by rw [f]; rfl⟩,C⟩;rw [m] at hi;refine (VK.1 hi).resolve_left fun e=>t ?_;subst e;have O:=d.dd.keep b g;have D:Keep (n+1) (· ∈ L) (· ∈ R) (unitC n 1):=⟨by rw [unitC_len],fun x hx=>by rw [dot_comm]; exact t1.dd.lineI x hx _ (by rw [m]; exact Vt ..),fun s hs=>by rw [dot_comm]; exact (t1.dd.keep s hs).ge _ (by rw [m]; exact Vt ..)⟩
   obtain ⟨k,c,u,hc,J⟩:=d.dd.ext b g _ D fun s hs h0=>(C s hs).2 h0;have X:0<c:=by
    rcases ZF hc with h1 | h1
    ·exact h1
    ·exfalso
     subst h1
     have:=Con.dot_zero (a:=r0) d.dd.lenL (fun r h=>h.elim) (fun x hx=>d.dd.lineI x hx r0 y) (fun r h=>h.elim) J
     rw [aJ _ _ _ (D.len.trans O.len.symm),dot_comm r0,eI] at this;simp only [Int.one_mul,Int.neg_zero,Yu,Int.add_zero] at this;rcases VH.1 this with h1 | h1 <;> omega
   refine (qD d.form D.len O.len (fun a ha=>OT n 1 fun hp=>?_) (fun a ha=>d.rest b g a ha) (BH n) (d.cont b g) u X J).symm;obtain ⟨q1,q2,q3⟩:=d.form.pos ha;rw [hp] at q1 q2;have ae:=d.dd.lenL a ha;obtain ⟨-,-,q4⟩:=pivot_some.1 q1;have hd:=d.dd.lineI a ha r0 y;rw [dot_comm,yT _ _ 0 fun j hj=>?_] at hd
   ·have e:at_ r0 0=hd1 r0:=by cases r0 <;> rfl
    rw [e] at hd;rcases VH.1 hd with h1 | h1 <;> omega
   ·by_cases G:j<a.length
    ·exact q4 j G (by unfold before; simp [hj])
    ·simp [at_,Vh,VS (Xm G)]
  ·apply VI
   intro hne;obtain ⟨s,hs,h3,S⟩:=zk d (Vx.1 q).1 (Vx.1 hb).1 hne;exact S ((q1 s hs).1 ((q2 s hs).2 h3))
 have h3:((l.map fun c=>c.1).filter z).length+((l.map fun c=>c.1).filter fun i=>!z i).length=l.length:=by
  have:=XG z (l:=l.map fun c=>c.1)
  rw [WS,WS,Vp] at this;rw [this];congr 2;refine Yy fun x _=>?_;cases z x <;> rfl
 omega
end
end Go.Proofs.YtkmepoeklibegaaGreat.Lin
namespace Go.Proofs.YtkmepoeklibegaaGreat.Ev
open Go Nn
structure Kx (b:Nat) (H H':Heap):Prop where
 wf0:Wf H
 wf:Wf H'
 le:H.next<=H'.next
 same:∀ c,c<H.next->c≠b->H'.get c=H.get c
section
variable {b:Nat} {H0 H H' H'':Heap}
def Kx.of (h:Kp H H'):Kx b H H':=⟨h.wf0,h.wf,h.le,fun c hc _=>h.same c hc⟩
def Kx.trans (h:Kx b H H') (h':Kx b H' H''):Kx b H H'':=⟨h.wf0,h'.wf,VB h.le h'.le,fun c hc hb=>(h'.same c (VF hc h.le) hb).trans (h.same c hc hb)⟩
def Kx.put (h:Kx b H H') (hb:b<H'.next) (e:Ent):Kx b H (H'.put b e):=⟨h.wf0,h.wf.put hb e,h.le,fun c hc hne=>by rw [al hne]; exact h.same c hc hne⟩
def Kx.up (h:Kx b H H') (k:Nat):Kx b H (H'.up k):=⟨h.wf0,h.wf.bump k,VB h.le (VV _ _),h.same⟩
def Kx.kp (h:Kx b H H') (a:Kp H0 H) (hb:H0.next<=b):Kp H0 H':=⟨a.wf0,h.wf,VB a.le h.le,fun c hc=>(h.same c (VF hc a.le) zO).trans (a.same c hc)⟩
def Kx.get (h:Kx b H H') {c:Nat} {e:Ent} (hc:H.get c=some e) (hb:c≠b):H'.get c=some e:=(h.same c (h.wf0 _ _ hc) hb).trans hc
def Kx.subT (h:Kx b H H') {tys:List Nat} {cs:List AV} {ty:Nat} {r:Bool} (hb:H.get b=some (.cells cs ty r)) (a:ty ∉ tys):SubT tys H H':=fun c ds t d hm hc=>h.get hc fun e=>by
 subst e; rw [hb] at hc; cases hc; exact a hm
end
section
variable {tab:Nat->Option au} {H:Heap}
def PlcV (H:Heap) (v:AV) (be x:Int):Prop:=∃ p,v=.agg [.int .i64 be,.bool (decide (x<0)),p]/\cd H p x.natAbs
def ItvV (H:Heap) (v:AV) (n:Bool) (x:Int) (n':Bool) (y:Int):Prop:=∃ p q,v=.agg [.bool n,.bool (decide (x<0)),p,.bool n',.bool (decide (y<0)),q]/\cd H p x.natAbs/\cd H q y.natAbs
def ItvV.mono {H H':Heap} (hs:Sub H H') {v:AV} {n n':Bool} {x y:Int} (h:ItvV H v n x n' y):ItvV H' v n x n' y:=by
 obtain ⟨p,q,rfl,h1,h2⟩:=h;exact ⟨p,q,rfl,h1.mono hs,h2.mono hs⟩
def PlcV.mono {H H':Heap} (hs:Sub H H') {v:AV} {be x:Int} (h:PlcV H v be x):PlcV H' v be x:=by
 obtain ⟨p,rfl,h1⟩:=h;exact ⟨p,rfl,h1.mono hs⟩
end
end Go.Proofs.YtkmepoeklibegaaGreat.Ev
namespace Go.Proofs.YtkmepoeklibegaaGreat.Lin
section
variable {n x:Nat} {a:V}
end
end Go.Proofs.YtkmepoeklibegaaGreat.Lin
namespace Go.Proofs.YtkmepoeklibegaaGreat.Ev
open Go Nn
section
variable {tab:Nat->Option au} {H:Heap} {s:AV}
end
section
variable {tab:Nat->Option au} {H:Heap}
end
section
open Lin
variable {n m:Nat}
def IT {d m:Nat} (hd:d<=4):(2*d*2^m)^2^d<=2^(16*(m+4)):=by
 have h1:2*d*2^m<=2^(m+4):=by
  rw [Wu,VG (2^m)];exact Vy _ zO
 have h2:2^d<=2^4:=VW (by decide) hd;have h3:2^d*(m+4)<=16*(m+4):=Vy _ h2
 calc (2*d*2^m)^2^d<=(2^(m+4))^2^d:=Xo h1 _
  _=2^((m+4)*2^d):=(YC ..).symm
  _<=2^(16*(m+4)):=VW (by decide) (by rw [VG]; exact h3)
def Ra {a b:Nat} {x:V} (h:Bd a x) (c:a<=b):Bd b x:=fun i=>VB (h i) c
def EI {d:Nat} {E I:List V} (g:0<d) (hd:d<=4) (b:∀ a∈E,a.length=d/\Bd (2^m) a) (c:∀ a∈I,a.length=d/\Bd (2^m) a) :
  (∀ l∈gensL d E I,Bd (2^(16*(m+4))) l)/\(∀ r∈gensR d E I,Bd (2^(16*(m+4))) r):=by
 have t:=gens_told (d:=d) (fun a ha=>(b a ha).1) (fun a ha=>(c a ha).1);obtain ⟨e,f⟩:=told_bd g (Wb (by decide)) t b c;exact ⟨fun l hl=>Ra (e l hl) (IT hd),fun r hr=>Ra (f r hr) (IT hd)⟩
def Cn {l:List (V × Bool)} (hn:n<=3) (h:∀ c∈l,c.1.length=n+1/\Bd (2^m) c.1):∀ x∈gensP n l,x.2.length=n+1/\Bd (2^(16*(m+4))) x.2:=fun x hx=>by
 have f:∀ a∈eqsOf l,a.length=n+1/\Bd (2^m) a:=fun a ha=>h _ (mem_eqs.1 ha);have g:∀ a∈ineqsOf n l,a.length=n+1/\Bd (2^m) a:=fun a ha=>by
  rcases mem_ineqs.1 ha with rfl | ha
  ·exact ⟨unitC_len n 1,C7 n m⟩
  ·exact h _ ha
 refine ⟨sj (fun c hc=>(h c hc).1) x hx,?_⟩;obtain ⟨b,e⟩:=EI (d:=n+1) (m:=m) zO zO f g;unfold gensP at hx;split at hx
 ·rcases VE.1 hx with hx | hx
  ·obtain ⟨r,hr,rfl⟩:=Vl.1 hx;exact b r hr
  ·obtain ⟨r,hr,rfl⟩:=Vl.1 hx;exact e r hr
 ·cases hx
def Cw {g:List (Nat × V)} (hn:n<=3) (h:∀ x∈g,x.2.length=n+1/\Bd (2^m) x.2):∀ c∈consP n g,c.1.length=n+1/\Bd (2^(16*(m+4))) c.1:=fun x hx=>by
 refine ⟨kE (fun y hy=>(h y hy).1) x hx,?_⟩;have hb:=(FW (m:=m) zO h x hx).2;have f:∀ a∈linesOf g,a.length=n+1/\Bd (2^m) a:=fun a ha=>h _ (mem_lines.1 ha);have j:∀ a∈raysOf g,a.length=n+1/\Bd (2^m) a:=fun a ha=>by
  obtain ⟨y,hy,rfl⟩:=wU ha;exact h _ hy
 obtain ⟨b,e⟩:=EI (d:=n+1) (m:=m) zO zO f j;unfold consP at hx;split at hx
 ·rcases VE.1 hx with hx | hx
  ·obtain ⟨r,hr,rfl⟩:=Vl.1 hx;exact b r hr
  ·obtain ⟨r,hr,rfl⟩:=Vl.1 hx;exact e r (Vx.1 hr).1
 ·rw [Wl] at hx;subst hx;intro i
  have:∀ i,(at_ (unitC n (-1)) i).natAbs<=1:=fun i=>by
   unfold at_ unitC;cases i with
   | zero=>simp
   | succ i=>simp [Vh,Wj]; split <;> simp
  exact VB (this i) (Nat.one_le_two_pow)
end
section
variable {tab:Nat->Option au} {H:Heap}
end
section
variable {P:Nat->Prop} {H0 D H H':Heap} {b:Nat} {l:List (Nat × List Int)}
variable {tab:Nat->Option au}
end
section
open Lin
variable {n x:Nat} {a:List Int} {rn rn':Bool} {lo hi:Int} {G:List (Nat × List Int)}
def CO {M:Nat} {r:List Int} (h:∀ z∈r,z.natAbs<=M):Bd M r:=fun i=>by
 unfold at_;rw [Vh];cases h1:r[i]? with
 | none=>exact Vz _
 | some z=>exact h z (VD h1)
end
section
variable {tab:Nat->Option au} {H:Heap}
end
section
variable {tab:Nat->Option au} {H:Heap} {s:AV}
end
end Go.Proofs.YtkmepoeklibegaaGreat.Ev
namespace Go.Proofs.YtkmepoeklibegaaGreat.Lin
section
variable {n x:Nat} {a r:V} {K:List (V × Bool)} {G:List (Nat × V)}
def Own.ne (o:Own n K G) (hr:dm n K r) (h0:0<hd1 r):G≠[]:=by
 have:=(fj o.rows).2 ⟨r,hr,h0⟩
 rw [o.gens] at this; exact this
end
section
variable {n:Nat} {K K':List (V × Bool)} {G G':List (Nat × V)}
def Own.same (o:Own n K G) (a:Own n K' G') (h:∀ r,dm n K r ↔ dm n K' r):K=K'/\G=G':=by
 have e:G=G':=by rw [<- o.gens,<- a.gens]; exact AA o.rows a.rows h
 exact ⟨by rw [<- o.cons,<- a.cons,e],e⟩
def Own.valid_iff (o:Own n K G) (a:G≠[]) {c:V × Bool}:(∀ g∈G,keepsP c g=true) ↔ Bs n K c:=by
 have:=pf (n:=n) (c:=c) o.rows (by rw [o.gens]; exact a)
 rw [o.gens] at this; exact this
def IW {l:List (V × Bool)} (hl:∀ c∈l,c.1.length=n+1) (hne:gensP n l≠[]) (r:V):dm n (consP n (gensP n l)) r ↔ dm n l r:=qG hl (jV hne) r
end
section
variable {n x:Nat} {K K':List (V × Bool)} {G G':List (Nat × V)}
end
end Go.Proofs.YtkmepoeklibegaaGreat.Lin
namespace Go.Proofs.YtkmepoeklibegaaGreat.Ev
open Go Nn
def bw (l:List (List Int × Bool)):List (List Int):=l.flatMap fun c=>if c.2 then [c.1,Lin.scl (-1) c.1] else [c.1]
def dY (l:List (List Int)):List (List Int × Bool):=l.map fun r=>(r,false)
def ET {l:List (List Int × Bool)} {j:Nat} (hj:j<l.length):bw (l.take (j+1))=bw (l.take j)++(if l[j].2 then [l[j].1,Lin.scl (-1) l[j].1] else [l[j].1]):=by
 unfold bw;rw [Vr hj,YJ]
 simp
def Nk {l:List (List Int × Bool)} {j:Nat} (hj:j<l.length):∃ m,bw l=bw (l.take j)++(if l[j].2 then [l[j].1,Lin.scl (-1) l[j].1] else [l[j].1])++m:=by
 refine ⟨bw (l.drop (j+1)),?_⟩;rw [<- ET hj];unfold bw;rw [<- YJ,Y5]
def Ni {l:List (List Int × Bool)} {j:Nat} (hj:j<l.length):∃ h:(bw (l.take j)).length<(bw l).length,(bw l)[(bw (l.take j)).length]=l[j].1:=by
 obtain ⟨m,e⟩:=Nk hj;have h:(bw (l.take j)).length<(bw l).length:=by
  rw [e]; simp only [VC];split <;> simp only [VX,Xi] <;> omega
 refine ⟨h,?_⟩;simp only [e];split <;> simp
def Nh {l:List (List Int × Bool)} {j:Nat} (hj:j<l.length) (hb:l[j].2=true):∃ h:(bw (l.take j)).length+1<(bw l).length,(bw l)[(bw (l.take j)).length+1]=Lin.scl (-1) l[j].1:=by
 obtain ⟨m,e⟩:=Nk hj;rw [if_pos hb] at e;have h:(bw (l.take j)).length+1<(bw l).length:=by
  rw [e]; simp only [VC,VX,Xi]; omega
 refine ⟨h,?_⟩;simp only [e]
 simp
def mem_sin {l:List (List Int × Bool)} {r:List Int}:r∈bw l ↔ ∃ c∈l,r=c.1\/(c.2=true/\r=Lin.scl (-1) c.1):=by
 unfold bw;rw [ZZ];refine exists_congr fun c=>and_congr_right fun _=>?_;cases c.2 <;> simp
def Df (l:List (List Int × Bool)):(bw l).length<=2*l.length:=by
 induction l with
 | nil=>simp [bw]
 | cons c l a =>
  have:bw (c :: l)=(if c.2 then [c.1,Lin.scl (-1) c.1] else [c.1])++bw l:=rfl
  rw [this,VC,VX];split <;> simp only [VX,Xi] <;> omega
end Go.Proofs.YtkmepoeklibegaaGreat.Ev
namespace Go.Proofs.YtkmepoeklibegaaGreat.Lin
open Ev
section
variable {n:Nat} {K K':List (V × Bool)} {G G':List (Nat × V)} {out:List V}
def EU (h:∀ c∈K,c.1.length=n+1):∀ c∈dY (bw K),c.1.length=n+1:=fun c hc=>by
 obtain ⟨r,hr,rfl⟩:=Vl.1 hc;obtain ⟨d,hd,e⟩:=mem_sin.1 hr;rcases e with rfl | ⟨-,rfl⟩
 ·exact h d hd
 ·exact scl_length (h d hd)
def sin_keep {x:V}:dm n (dY (bw K)) x ↔ dm n K x:=by
 rw [keepP_iff,keepP_iff];refine and_congr_right fun _=>and_congr_right fun _=>?_;constructor
 ·intro h c hc;have h1:=(h (c.1,false) (Vl.2 ⟨c.1,mem_sin.2 ⟨c,hc,.inl rfl⟩,rfl⟩)).2 rfl;refine ⟨fun hb=>?_,fun _=>h1⟩;have h2:=(h (scl (-1) c.1,false) (Vl.2 ⟨_,mem_sin.2 ⟨c,hc,.inr ⟨hb,rfl⟩⟩,rfl⟩)).2 rfl;simp only [cR] at h1 h2;omega
 ·intro h c hc;obtain ⟨r,hr,rfl⟩:=Vl.1 hc;refine ⟨fun e=>(by cases e),fun _=>?_⟩;obtain ⟨d,hd,e⟩:=mem_sin.1 hr;have a:=h d hd;rcases e with rfl | ⟨hb,rfl⟩
  ·cases hb:d.2 with
   | true=>have:=a.1 hb; simp only; omega
   | false=>exact a.2 hb
  ·have:=a.1 hb
   simp only [cR]; omega
def RD (o:Own n K G) (i:Own n K' G') (k:G≠[]) (l:∀ r∈out,r.length=n+1) (m:∀ r∈out,∀ g∈gensP n (consP n (G++G')),keepsP (r,false) g=true) :
  gensP n (dY out)≠[]/\inP G (consP n (gensP n (dY out)))=true/\inP G' (consP n (gensP n (dY out)))=true/\inP (gensP n (consP n (G++G'))) (consP n (gensP n (dY out)))=true:=by
 have h:=validG_app o.valid i.valid;have a:=own_span h;have hp:(G++G').any (fun x=>x.1 == 3)=true:=by rw [Yv,o.point k]; rfl
 have hne:=oF h hp;have hW:∀ c∈dY out,c.1.length=n+1:=fun c hc=>by
  obtain ⟨r,hr,rfl⟩:=Vl.1 hc;exact l r hr
 have f:∀ x,dm n (consP n (G++G')) x->dm n (dY out) x:=fun x hx=>by
  have h1:=keepP_iff.1 hx;refine keepP_iff.2 ⟨h1.1,h1.2.1,fun c hc=>?_⟩;obtain ⟨r,hr,rfl⟩:=Vl.1 hc
  have:=(a.valid_iff hne (c:=(r,false))).1 (m r hr) x hx
  exact ⟨fun e=>(by cases e),fun _=>this.2⟩
 have b:gensP n (dY out)≠[]:=by
  rw [fj hW];obtain ⟨x,hx,h0⟩:=(fj a.rows).1 hne;exact ⟨x,f x hx,h0⟩
 have j:=own_of hW;have d:inP (gensP n (consP n (G++G'))) (consP n (gensP n (dY out)))=true:=(a.in_iff j).2 (.inr fun x hx=>(IW hW b x).2 (f x hx));have hl:=Ay o i j;rw [d] at hl;have hl:=hl.symm;rw [VU] at hl;exact ⟨b,hl.1,hl.2,d⟩
def MJ (o:Own n K G) (a:Own n K' G') (c:G≠[]) (e:inP G' K=true):consP n (G++G')=K/\gensP n (consP n (G++G'))=G:=by
 have d:=validG_app o.valid a.valid;have b:=own_span d;have hp:(G++G').any (fun x=>x.1 == 3)=true:=by rw [Yv,o.point c]; rfl
 have hne:=oF d hp;have f:inP G K=true:=(o.in_iff o).2 (.inr fun x hx=>hx);have hl:=Ay o a o;rw [f,e] at hl;have h1:=((b.in_iff o).1 hl).resolve_left hne;have h2:=((o.in_iff b).1 (hull_has o a).1).resolve_left c;exact b.same o fun x=>⟨h1 x,h2 x⟩
def PX (o:Own n K G) (a:G≠[]):consP n (gensP n (dY (bw K)))=K/\gensP n (dY (bw K))=G:=by
 have hW:=EU o.rows;have hne:gensP n (dY (bw K))≠[]:=by
  rw [fj hW]
  have:=o.gens
  rw [<- this,ne_eq,<- ne_eq,fj o.rows] at a;obtain ⟨x,hx,h0⟩:=a;exact ⟨x,sin_keep.2 hx,h0⟩
 exact (own_of hW).same o fun x=>by rw [IW hW hne,sin_keep]
end
end Go.Proofs.YtkmepoeklibegaaGreat.Lin
namespace Go.Proofs.YtkmepoeklibegaaGreat.Ev
open Go Nn
def Uy:MuI (-1):=by
 have:(ag (-1:Int).natAbs).length<=1:=Ft (m:=1) zU zU
 unfold MuI; omega
section
variable {tab:Nat->Option au} {H:Heap} {s:AV}
def ut (C:Code tab) (b:Wf H) {sa:AV} (ha:One sa) :
  Ans tab (.fn mo [sa]) H fun v H'=>v=.fn (.func cy) [] [.ptr H.next 0]/\H'.get H.next=some (.cells [sa] bH true)/\H.next+1<=H'.next/\Kp H H':=by
 refine dg C.q15 zU fun T hl a=>?_;refine zW (aB hl a (Gf ha)) ?_;exact ⟨zO,zK⟩
set_option maxHeartbeats 1000000 in
def zw (C:Code tab) {H0:Heap} {lb R:Nat} {l:List (List Int × Bool)} {sa:AV} (J:Nat->Heap->Prop) (o:Heap->Nat->Prop) (aF:l.length<4611686018427387904)
  (W:Kp H0 H) (h0:J 0 H) (M:∀ k H m,J k H->J k (H.up m)) (Y:∀ k H H',J k H->Kp H H'->J k H') (ak:∀ k H b cs t r,J k H->o H b->H.get b=some (.cells cs t r)->t=t_api_Con\/t=bH) (ah:∀ k H b,J k H->o H b->b<H.next) (ai:∀ k H H' b,J k H->Kp H H'->o H' b->o H b)
  (hA:H.get R=some (.cells [sa] bH true)) (hs:∀ k H',J k H'->SlV conE t_api_Con H' sa l) (ag:∀ c∈l,c.1.length<=64/\∀ z∈c.1,MuI z)
  (hr:∀ k (h:k<(bw l).length) H w,Kp H0 H->J k H->RowV H w (bw l)[k]->Ans tab (.round lb [.agg [w,.bool false]]) H fun v H'=>v=.bool true/\Kp H0 H'/\J (k+1) H'/\∀ b e,¬ o H b->H.get b=some e->H'.get b=some e) :
  Ans tab (.ent cy [.loopv lb,.ptr R 0]) H fun _ H'=>Kp H0 H'/\J (bw l).length H':=by
 have hw:=W.wf;refine SA C.q35 zU fun T hl q D=>?_;refine zW (cp hl q D hA ((hs 0 H h0).lenV)) ?_;refine am H0 [] (fun j _ H'=>J (bw (l.take j)).length H') (a:=0) (N:=l.length) rfl (by refine zW (aB hl q D) ?_; rfl) (zV (aB hl q D)) (Vz _) zO (by simp only [Vg,hl]; rfl) rfl (fun j _ H' m h=>M _ _ _ h) (W.up _) (M _ _ _ h0) ?_ ?_
 ·intro j T1 g _ hj d ao L s i;have w1:=s.wf;have aI:=s.le;have t0:aa T1 0=.loopv lb:=(L.at_ 0 zU).trans (zV (aA hl q));have t7:aa T1 7=sa:=(L.at_ 7 zU).trans (zV (aB hl q D));have ab:=hs _ _ i;obtain ⟨_,⟨w,rfl,p⟩,-,-,u⟩:=ab.at (Vk hj);have ar:cL 2 sa (.int .i64 (j:Int))=some (aq sa (j*2)):=ab.idx .i64 j hj;have u:aW g (some 2) (aq sa (j*2))=some (.agg [w,.bool (l[j]).2]):=u;have ow:=p.one;have p:RowV g w (l[j]).1:=p;obtain ⟨q0,U⟩:=Ni hj;have x:=ET hj;have V:=Nh hj;have K:=ag _ (Vm hj);obtain ⟨c,hc⟩:∃ c,c=l[j]:=⟨_,rfl⟩
  rw [<- hc] at u p U x V K;have Lp:=(Ldd.of w1 u).put;have bb:=nE ow .nilSl (.bool false);simp only [Vg,hl] at d;refine zW (jY d t0 t7 ao ar u Lp bb) ?_;obtain ⟨X,F⟩:∃ X,X=((g.up 10).put (g.next+2) (.cells [.nilSl,.bool false] t_api_Con true)).put (g.next+2) (.cells [w,.bool c.2] t_api_Con true):=⟨_,rfl⟩
  rw [<- F];have A:Kp g X:=by rw [F]; exact zK
  have cX:X.get (g.next+2)=some (.cells [w,.bool c.2] t_api_Con true):=by rw [F,ap]
  clear F;have Q:=Y _ _ _ i A;have aD:¬ o X (g.next+2):=fun h=>by
   have:=ah _ _ _ i (ai _ _ _ _ i A h)
   omega
  refine AnsH.use (hr _ q0 X w (s.trans A) Q (by rw [U]; exact p.mono A.sub)) ?_;rintro _ H2 ⟨rfl,G,P,fr⟩;have O:=G.wf;have aJ:=G.le;have f:=fr _ _ aD cX;have aG:=O _ _ f;have sT:SubT (ad :: intE.tys) X H2:=fun b cs t r ht hb=>fr _ _ (fun h=>by
   rcases ak _ _ _ _ _ _ Q h hb with e | e <;> subst e <;> revert ht <;> decide) hb
  have az:RowV H2 w c.1:=SlV.monoT (E:=intE) sT (p.mono A.sub);have I:bz [w,AV.bool c.2] 1 none=some (.bool c.2):=rfl;have B:bz [w,AV.bool c.2] 0 none=some w:=rfl;cases hb:c.2 with
  | false =>
   rw [hb] at f I B x;refine zW (aB d f I) ?_;rw [x];refine ⟨G.up _,?_⟩;show J (bw (l.take j)++[c.1]).length _;rw [VC];exact M _ _ _ P
  | true =>
   rw [hb] at f I B x;refine zW (aB d f I) ?_;refine aM ?_;refine zD (aB d f B) ?_;refine AnsH.use (oz C (n:=-1) ((O.bump 3).bump 9) zU zU) ?_;rintro v3 H3 ⟨aC,av⟩;have k23:Kp H2 H3:=Kp.trans (((Kp.refl O).up 3).up 9) av;have aK:=k23.le;have w3:=k23.wf;have S:=k23.get f;refine zD (aV d f S B) ?_;refine AnsH.use (BY C w3 (az.mono k23.sub) aC K.1 K.2 Uy) ?_;rintro _ H4 ⟨r4,rfl,Z,ax⟩;have y:Kp H2 H4:=k23.trans ax;have aL:=y.le;have w4:=y.wf;have aE:=Z.one;have af:=y.get f;have ae:=nE aE .nilSl (.bool false);refine zD (gS d t0 f S af B ae) ?_;obtain ⟨q1,al⟩:=V hb;refine AnsH.use (hr _ q1 (H4.up 5) r4 ((G.trans y).up 5) (Y _ _ _ P (y.up 5)) (by rw [al]; exact Z.mono (Sub.bump H4 5))) ?_;rintro _ H5 ⟨rfl,ay,J5,-⟩;refine zD d ?_;rw [x];refine ⟨ay,?_⟩;show J (bw (l.take j)++[c.1,Lin.scl (-1) c.1]).length _;rw [VC];exact J5
 ·intro T1 g d L s i;simp only [Vg,hl] at d;rw [VO] at i;refine zW d ?_;exact ⟨s,i⟩
end
def yU (a:ByteArray):(a == a)=true:=by
 obtain ⟨a⟩:=a;show (a == a)=true;exact beq_self_eq_true a
def JM {a b:ByteArray} (h:a≠b):(a == b)=false:=by
 obtain ⟨a⟩:=a;obtain ⟨b⟩:=b;show (a == b)=false;exact beq_false_of_ne fun e=>h (by rw [e])
def sE (es:List (AV × AV)):Prop:=∀ p∈es,∃ z,p.1=.str z
def Oj:∀ {es:List (AV × AV)},sE es->∀ z,∃ o,ic (.str z) es=some o
 | [],_,z=>⟨none,rfl⟩
 | (k,v) :: es,h,z=>by
  obtain ⟨y,hy⟩:=h _ (Vt ..);simp only at hy;subst hy;have a:=Oj (es:=es) (fun p hp=>h p (Vn _ hp)) z;simp only [ic,dV];cases z == y with
  | true=>exact ⟨_,rfl⟩
  | false=>exact a
def S6 {H:Heap} {mb:Nat} {es:List (AV × AV)} (hm:H.get mb=some (.map es)) (a:sE es) (z:ByteArray) (v:AV):iB H .str (.map mb) (.str z) v=some (H.put mb (.map (mc (.str z) v es))):=by
 obtain ⟨o,h⟩:=Oj a z;simp only [iB,fJ,YQ,if_false,hm,h]
def BZ:∀ {es:List (AV × AV)},sE es->∀ z v,sE (mc (.str z) v es)
 | [],_,z,v=>fun p hp=>by simp [mc] at hp; exact ⟨z,by rw [hp]⟩
 | (k,w) :: es,h,z,v=>by
  obtain ⟨y,hy⟩:=h _ (Vt ..);simp only at hy;subst hy;have a:=BZ (es:=es) (fun p hp=>h p (Vn _ hp)) z v;simp only [mc,dV];cases z == y with
  | true =>
   intro p hp;rcases VK.1 hp with rfl | hp
   ·exact ⟨z,rfl⟩
   ·exact h p (Vn _ hp)
  | false =>
   intro p hp;rcases VK.1 hp with rfl | hp
   ·exact ⟨y,rfl⟩
   ·exact a p hp
def FJ:∀ {es:List (AV × AV)},sE es->∀ (y z:ByteArray) v,ic (.str z) (mc (.str y) v es)=if z=y then some (some v) else ic (.str z) es
 | [],_,y,z,v=>by
  simp only [mc,ic,dV];by_cases e:z=y
  ·subst e; rw [yU,if_pos rfl]
  ·rw [if_neg e,JM e]
 | (k,w) :: es,h,y,z,v=>by
  obtain ⟨x,hx⟩:=h _ (Vt ..);simp only at hx;subst hx;have a:=FJ (es:=es) (fun p hp=>h p (Vn _ hp)) y z v;simp only [mc,dV];by_cases e:y=x
  ·subst e;rw [yU];simp only [ic,dV];by_cases e2:z=y
   ·subst e2; rw [yU,if_pos rfl]
   ·rw [if_neg e2,JM e2]
  ·rw [JM e];simp only [ic,dV];by_cases e2:z=x
   ·subst e2;rw [yU,if_neg (fun q=>e q.symm)]
   ·rw [JM e2];exact a
def wV:∀ (l:List Bool) (s:ByteArray),(l.foldl (fun s b=>s.push (UInt8.ofNat (if b then 1 else 0))) s).data.toList=s.data.toList++l.map fun b=>UInt8.ofNat (if b then 1 else 0)
 | [],s=>by simp
 | b :: l,s=>by
  rw [Wn,wV l];simp [ByteArray.push]
def xO:∀ {l m:List Bool},(l.map fun b=>UInt8.ofNat (if b then 1 else 0))=(m.map fun b=>UInt8.ofNat (if b then 1 else 0))->l=m
 | [],[],_=>rfl
 | [],b :: m,e=>by simp at e
 | a :: l,[],e=>by simp at e
 | a :: l,b :: m,e=>by
  rw [Vq,Vq] at e;obtain ⟨e1,e2⟩:=List.cons.inj e;have hi:∀ a b:Bool,UInt8.ofNat (if a then 1 else 0)=UInt8.ofNat (if b then 1 else 0)->a=b:=by decide
  rw [hi _ _ e1,xO e2]
def NX {l m:List Bool} (h:pW l=pW m):l=m:=by
 have h1:=wV l .empty;have h2:=wV m .empty;have e:(pW l).data.toList=(pW m).data.toList:=by rw [h]
 unfold pW at e;rw [h1,h2] at e;exact xO (List.append_cancel_left e)
structure MaskM (H:Heap) (mb:Nat) (M:List (List Bool)):Prop where
 ex:∃ es,H.get mb=some (.map es)/\sE es/\∀ m,ic (.str (pW m)) es=some (if m∈M then some (.int .i64 1) else none)
section
variable {H:Heap} {mb:Nat} {M:List (List Bool)}
def MaskM.look (h:MaskM H mb M) (m:List Bool):pX H .str (.int .i64 0) (.map mb) (.str (pW m)) false=some (.int .i64 (if m∈M then 1 else 0)):=by
 obtain ⟨es,hm,-,a⟩:=h.ex;simp only [pX,fJ,YQ,if_false,uP,hm,a m];by_cases e:m∈M
 ·rw [if_pos e,if_pos e]; rfl
 ·rw [if_neg e,if_neg e]; rfl
def MaskM.upd (h:MaskM H mb M) (m:List Bool):∃ H',iB H .str (.map mb) (.str (pW m)) (.int .i64 1)=some H'/\MaskM H' mb (M++[m])/\∃ e,H'=H.put mb (.map e):=by
 obtain ⟨es,hm,a,b⟩:=h.ex;refine ⟨_,S6 hm a _ _,⟨⟨_,ap _ _ _,BZ a _ _,fun m'=>?_⟩⟩,_,rfl⟩;rw [FJ a,b];by_cases e:m'=m
 ·subst e;rw [if_pos rfl,if_pos (by simp)]
 ·rw [if_neg fun q=>e (NX q)];by_cases e2:m'∈M
  ·rw [if_pos e2,if_pos (WH _ e2)]
  ·rw [if_neg e2,if_neg (by simp [e,e2])]
def MaskM.of {H':Heap} (h:MaskM H mb M) (hg:H'.get mb=H.get mb):MaskM H' mb M:=by
 obtain ⟨es,hm,b,a⟩:=h.ex;exact ⟨⟨es,by rw [hg]; exact hm,b,a⟩⟩
def MaskM.start (h:H.get mb=some (.map [])):MaskM H mb []:=⟨⟨[],h,fun p hp=>(by cases hp),fun m=>(by simp [ic])⟩⟩
end
def SZ (K:List (List Int × Bool)) (a:List (Nat × List Int)):List (List Int):=(bw K).filter fun r=>a.all fun g=>Lin.keepsP (r,false) g
def lq (M:List (List Bool)) (G:List (Nat × List Int)) (acc:List (List Int)) (r:List Int):List (List Int):=if UL r G∈M/\r ∉ acc then acc++[r] else acc
def mU (K:List (List Int × Bool)) (G:List (Nat × List Int)) (b:List (List Int × Bool)) (a:List (Nat × List Int)):List (List Int) :=
 (bw b).foldl (lq ((bw K).map fun r=>UL r G) G) (SZ K a)
def Ey (M:List (List Bool)) (G:List (Nat × List Int)):∀ (l:List (List Int)) (acc:List (List Int)),(l.foldl (lq M G) acc).length<=acc.length+l.length
 | [],acc=>by simp
 | r :: l,acc=>by
  rw [Wn]
  have:=Ey M G l (lq M G acc r)
  have h:(lq M G acc r).length<=acc.length+1:=by
   unfold lq;split
   ·simp
   ·omega
  rw [VX]; omega
def uu (M:List (List Bool)) (G:List (Nat × List Int)):∀ (l:List (List Int)) (acc:List (List Int)) (r:List Int),r∈l.foldl (lq M G) acc->r∈acc\/r∈l
 | [],acc,r,h=>.inl h
 | a :: l,acc,r,h=>by
  rw [Wn] at h;rcases uu M G l _ r h with h | h
  ·unfold lq at h;split at h
   ·rcases VE.1 h with h | h
    ·exact .inl h
    ·rw [Wl] at h; subst h; exact .inr (Vt ..)
   ·exact .inl h
  ·exact .inr (Vn _ h)
def Ez (M:List (List Bool)) (G:List (Nat × List Int)):∀ (l:List (List Int)) (acc:List (List Int)),(∀ r∈l,r∈acc)->l.foldl (lq M G) acc=acc
 | [],acc,_=>rfl
 | a :: l,acc,h=>by
  rw [Wn];have e:lq M G acc a=acc:=by
   unfold lq;rw [if_neg fun q=>q.2 (h a (Vt ..))]
  rw [e];exact Ez M G l acc fun r hr=>h r (Vn _ hr)
def MP (lb b8 mb:Nat) (H:Heap) (b:Nat):Prop:=b=lb\/b=b8\/b=mb\/∃ n,H.get b8=some (.cells [.own b 0 n n 2 false] bH true)
structure WJ (H0 H:Heap) (lb b8 mb b9:Nat) (e0:Ent) (M:List (List Bool)) (acc:List (List Int)):Prop where
 kp:Kp H0 H
 lp:H.get lb=some e0
 mm:MaskM H mb M
 c9:H.get b9=some (.cells [.map mb] bJ true)
 ex:∃ o,H.get b8=some (.cells [o] bH true)/\Bl conE t_api_Con H0 H o (dY acc)
section
variable {H0 H:Heap} {lb b8 mb b9:Nat} {e0:Ent} {M:List (List Bool)} {acc:List (List Int)}
def WJ.up (h:WJ H0 H lb b8 mb b9 e0 M acc) (m:Nat):WJ H0 (H.up m) lb b8 mb b9 e0 M acc:=⟨h.kp.up m,h.lp,h.mm.of rfl,h.c9,by
 obtain ⟨o,h1,h2⟩:=h.ex;exact ⟨o,h1,h2.mono (Sub.bump H m)⟩⟩
def WJ.to {H':Heap} (h:WJ H0 H lb b8 mb b9 e0 M acc) (a:Kp H H'):WJ H0 H' lb b8 mb b9 e0 M acc:=by
 obtain ⟨o,h1,h2⟩:=h.ex;obtain ⟨es,hm,-,-⟩:=h.mm.ex;exact ⟨h.kp.trans a,a.get h.lp,h.mm.of (by rw [a.get hm,hm]),a.get h.c9,o,a.get h1,h2.mono a.sub⟩
def WJ.ch1 (h:WJ H0 H lb b8 mb b9 e0 M acc) {b:Nat} (hb:MP lb b8 mb H b):b<H.next:=by
 have a:=h.kp.wf;obtain ⟨o,h1,h2⟩:=h.ex;obtain ⟨es,hm,-,-⟩:=h.mm.ex;rcases hb with rfl | rfl | rfl | ⟨n,hn⟩
 ·exact a _ _ h.lp
 ·exact a _ _ h1
 ·exact a _ _ hm
 ·rw [h1] at hn
  injection hn with hn
  injection hn with hn
  injection hn with hn
  subst hn;obtain ⟨cells,hc⟩:=h2.blk rfl;exact a _ _ hc
def WJ.ch2 {H':Heap} (h:WJ H0 H lb b8 mb b9 e0 M acc) (a:Kp H H') {b:Nat} (hb:MP lb b8 mb H' b):MP lb b8 mb H b:=by
 obtain ⟨o,h1,h2⟩:=h.ex;rcases hb with rfl | rfl | rfl | ⟨n,hn⟩
 ·exact .inl rfl
 ·exact .inr (.inl rfl)
 ·exact .inr (.inr (.inl rfl))
 ·rw [a.get h1] at hn;exact .inr (.inr (.inr ⟨n,by rw [h1,hn]⟩))
def WJ.ch3 (h:WJ H0 H lb b8 mb b9 e0 M acc) (he:∀ cs t r,e0 ≠ .cells cs t r) {b:Nat} {cs:List AV} {t:Nat} {r:Bool} (hb:MP lb b8 mb H b) (hg:H.get b=some (.cells cs t r)):t=t_api_Con\/t=bH:=by
 obtain ⟨o,h1,h2⟩:=h.ex;obtain ⟨es,hm,-,-⟩:=h.mm.ex;rcases hb with rfl | rfl | rfl | ⟨n,hn⟩
 ·rw [h.lp] at hg
  injection hg with hg
  exact absurd hg (he _ _ _)
 ·rw [h1] at hg
  injection hg with hg
  injection hg with _ hg
  exact .inr hg.symm
 ·rw [hm] at hg
  injection hg with hg
  cases hg
 ·rw [h1] at hn
  injection hn with hn
  injection hn with hn
  injection hn with hn
  subst hn;rcases h2 with ⟨h2,-⟩ | ⟨b',cells,h2,h3,-⟩
  ·cases h2
  ·cases h2;rw [h3] at hg
   injection hg with hg
   injection hg with _ hg
   exact .inl hg.symm
def IsLp:Ent->Prop
 | .loop ..=>True
 | _=>False
def IsLp.cells {e:Ent} (h:IsLp e) (cs:List AV) (t:Nat) (r:Bool):e ≠ .cells cs t r:=fun q=>by rw [q] at h; exact h
def IsLp.map {e:Ent} (h:IsLp e) (es:List (AV × AV)):e ≠ .map es:=fun q=>by rw [q] at h; exact h
def WJ.ne (h:WJ H0 H lb b8 mb b9 e0 M acc) (he:IsLp e0):lb≠b8/\lb≠mb/\lb≠b9/\b8≠mb/\b8≠b9/\mb≠b9:=by
 obtain ⟨o,h1,h2⟩:=h.ex;obtain ⟨es,hm,-,-⟩:=h.mm.ex;have h3:=h.lp;have a:=h.c9;refine ⟨fun q=>?_,fun q=>?_,fun q=>?_,fun q=>?_,fun q=>?_,fun q=>?_⟩
 ·rw [q,h1] at h3; injection h3 with h3; exact he.cells _ _ _ h3.symm
 ·rw [q,hm] at h3; injection h3 with h3; exact he.map _ h3.symm
 ·rw [q,a] at h3; injection h3 with h3; exact he.cells _ _ _ h3.symm
 ·rw [q,hm] at h1; cases h1
 ·rw [q,a] at h1; injection h1 with h1; injection h1 with _ h1; exact absurd h1 zU
 ·rw [q,a] at hm; cases hm
def WJ.lbp {e2:Ent} (h:WJ H0 H lb b8 mb b9 e0 M acc) (he:IsLp e0) (a:H0.next<=lb):WJ H0 (H.put lb e2) lb b8 mb b9 e2 M acc:=by
 obtain ⟨b,c,d,-,-,-⟩:=h.ne he;obtain ⟨o,h1,h2⟩:=h.ex;have hlt:=h.kp.wf _ _ h.lp;refine ⟨h.kp.put a hlt,ap _ _ _,h.mm.of (al (fun q=>c q.symm)),by rw [al (fun q=>d q.symm)]; exact h.c9,o,by rw [al (fun q=>b q.symm)]; exact h1,?_⟩;exact h2.monoT (SubT.puts (SubT.refl _ _) fun cs t r _ q=>by rw [h.lp] at q; injection q with q; exact he.cells _ _ _ q)
def WJ.next {a:Heap} {e1:Ent} {m:Nat} (h:WJ H0 H lb b8 mb b9 e0 M acc) (he:IsLp e0) (f:H0.next<=lb) (c:Kp ((H.up m).kill lb) a):WJ H0 ((a.up 1).put a.next e1) a.next b8 mb b9 e1 M acc:=by
 obtain ⟨g,i,j,-,-,-⟩:=h.ne he;obtain ⟨o,h1,h2⟩:=h.ex;obtain ⟨es,hm,-,-⟩:=h.mm.ex;have k1:Kp H0 a:=((h.kp.up m).kill f).trans c;have l:=k1.le;have d:=c.wf;have k:=c.le;have lt:∀ b e,a.get b=some e->b≠a.next:=fun b e hb q=>by have:=d _ _ hb; omega
 have fr:∀ b e,b≠lb->H.get b=some e->((a.up 1).put a.next e1).get b=some e:=fun b e hb hg=>by
  have:=c.get (show ((H.up m).kill lb).get b=some e by rw [cC hb]; exact hg)
  rw [al (lt _ _ this)];exact this
 refine ⟨(k1.up 1).put k1.le (show a.next<a.next+1 by omega),ap _ _ _,h.mm.of ?_,fr _ _ (fun q=>j q.symm) h.c9,o,fr _ _ (fun q=>g q.symm) h1,?_⟩
 ·rw [fr _ _ (fun q=>i q.symm) hm,hm]
 ·have s1:SubT (t_api_Con :: conE.tys) H ((H.up m).kill lb):=SubT.kills (H':=H.up m) (SubT.upR (SubT.refl _ _)) fun cs t r _ q=>by rw [h.lp] at q; injection q with q; exact he.cells _ _ _ q
  have h3:Bl conE t_api_Con H0 a o (dY acc):=(h2.monoT s1).mono c.sub;exact h3.mono (((Sub.bump a 1)).put (d.fresh (Vo _)) _)
def WJ.map (h:WJ H0 H lb b8 mb b9 e0 M acc) (he:IsLp e0) (b:H0.next<=mb) (m:List Bool):∃ es H',iB H .str (.map mb) (.str (pW m)) (.int .i64 1)=some H'/\WJ H0 H' lb b8 mb b9 e0 (M++[m]) acc/\H'=H.put mb (.map es):=by
 obtain ⟨i,d,j,e,k,f⟩:=h.ne he;obtain ⟨o,h1,h2⟩:=h.ex;obtain ⟨es,hm,-,-⟩:=h.mm.ex;have hlt:=h.kp.wf _ _ hm;obtain ⟨H',c,a,g,rfl⟩:=h.mm.upd m;refine ⟨_,_,c,⟨h.kp.put b hlt,by rw [al d]; exact h.lp,a,by rw [al (fun q=>f q.symm)]; exact h.c9,o,by rw [al e]; exact h1,?_⟩,rfl⟩;exact h2.monoT (SubT.puts (SubT.refl _ _) (NoTy.map hm))
def WJ.push {o w:AV} {r:List Int} {id id2 k:Nat} (h:WJ H0 H lb b8 mb b9 e0 M acc) (he:IsLp e0) (i:H0.next<=b8) (c:H.get b8=some (.cells [o] bH true)) (hr:RowV H w r) (j:H.next<=id) (p:id<H.next+k) (l:H.next<=id2) (m:id2<H.next+k) (hne:id≠id2) (y:acc.length<=10000) :
  ∃ n H',dr ((H.up k).put id2 (.cells [w,.bool false] t_api_Con true)) id 2 32 t_api_Con o (.own id2 0 1 1 2 true)=some (.own id 0 n n 2 false,H')/\H'.next=H.next+k/\H'.get b8=some (.cells [o] bH true) /\
   WJ H0 (H'.put b8 (.cells [.own id 0 n n 2 false] bH true)) lb b8 mb b9 e0 M (acc++[r])/\∀ b e,¬ MP lb b8 mb H b->H.get b=some e->(H'.put b8 (.cells [.own id 0 n n 2 false] bH true)).get b=some e:=by
 obtain ⟨t,A,B,u,v,C⟩:=h.ne he;obtain ⟨x,h1,h2⟩:=h.ex;have e1:x=o:=by rw [h1] at c; injection c with c; injection c with c; injection c
 subst e1;obtain ⟨es,hm,-,-⟩:=h.mm.ex;have z:(dY acc).length=acc.length:=by unfold dY; rw [Vp]
 obtain ⟨n,H',ha,hb,kp,nx,fr⟩:=h2.push (ty2:=t_api_Con) (bytes:=32) (id:=id) (id2:=id2) (k:=k) (cs:=[w,.bool false]) (a:=(r,false)) zU h.kp ⟨w,rfl,hr⟩ j p l m hne zO zO;have d:=fr _ _ h1 (h2.ne h1 fun cs q=>by injection q with _ q; exact absurd q zU);have g:=fr _ _ hm (h2.ne hm fun cs q=>by cases q);have gl:=fr _ _ h.lp (h2.ne h.lp fun cs q=>he.cells _ _ _ q);have f:=fr _ _ h.c9 (h2.ne h.c9 fun cs q=>by injection q with _ q; exact absurd q zU);have s:=kp.wf _ _ d;refine ⟨n,H',ha,nx,d,⟨kp.put i s,by rw [al t]; exact gl,(h.mm.of (g.trans hm.symm)).of (al (fun q=>u q.symm)),by rw [al (fun q=>v q.symm)]; exact f,_,ap _ _ _,?_⟩,fun b e hc hg=>?_⟩
 ·have e2:dY (acc++[r])=dY acc++[(r,false)]:=by unfold dY; rw [V7]; rfl
  rw [e2];exact hb.monoT (SubT.puts (SubT.refl _ _) (NoTy.ty d zU))
 ·rw [al (fun q=>hc (.inr (.inl q)))];exact fr _ _ hg fun n q=>hc (.inr (.inr (.inr ⟨n,by rw [h1,q]; rfl⟩)))
end
def Nj {n f:Nat} {K:List (List Int × Bool)} (hr:∀ c∈K,c.1.length=n+1) (hb:∀ c∈K,Lin.Bd (2^f) c.1):∀ r∈bw K,r.length=n+1/\∀ z∈r,Bt (f+1) z:=fun r h=>by
 obtain ⟨c,hc,e⟩:=mem_sin.1 h;rcases e with rfl | ⟨-,rfl⟩
 ·exact ⟨hr c hc,ft (hb c hc)⟩
 ·refine ⟨Lin.scl_length (hr c hc),fun z a=>?_⟩;obtain ⟨y,hy,rfl⟩:=Vl.1 a
  have:=(ft (hb c hc) y hy).neg
  rwa [show -1*y = -y by omega]
section
variable {tab:Nat->Option au} {H:Heap}
def Iy (H:Heap) (x:AV) (n:Nat) (K:List (List Int × Bool)) (G G':List (Nat × List Int)):Prop :=
 if G=[] then ∃ p,x=.tup [p,.int .i64 0]/\PolyV H p n (Lin.consP n (G++G')) (Lin.gensP n (Lin.consP n (G++G')))
 else if 60<(mU K G (Lin.consP n (G++G')) (Lin.gensP n (Lin.consP n (G++G')))).length then x=.tup [wG,.int .i64 4]
 else qc H x n (Lin.gensP n (dY (mU K G (Lin.consP n (G++G')) (Lin.gensP n (Lin.consP n (G++G'))))))
set_option maxHeartbeats 4000000 in
def xG (C:Code tab) (hw:Wf H) {v w:AV} {n e f e' f' eh fh m m2 m3 m4:Nat} {K K':List (List Int × Bool)} {G G':List (Nat × List Int)} (hp:PolyV H v n K G) (hq:PolyV H w n K' G') (J:PolyOK n e f K G) (ck:PolyOK n e' f' K' G') (cb:G.length+G'.length<=60) (hm:e<=m) (ce:e'<=m) (bg:m<=300000) (hC:∀ c∈Lin.consP n (G++G'),Lin.Bd (2^m2) c.1) (cf:m2<=300000) (hG:∀ x∈Lin.gensP n (Lin.consP n (G++G')),Lin.Bd (2^m3) x.2) (ch:m3<=300000) (cc:(Lin.consP n (G++G')).length<=1022\/1024<=(Lin.consP n (G++G')).length)
  (oh:PolyOK n eh fh (Lin.consP n (G++G')) (Lin.gensP n (Lin.consP n (G++G'))))
  (bx:(mU K G (Lin.consP n (G++G')) (Lin.gensP n (Lin.consP n (G++G')))).length<=60->∀ x∈Lin.gensP n (dY (mU K G (Lin.consP n (G++G')) (Lin.gensP n (Lin.consP n (G++G'))))),Lin.Bd (2^m4) x.2) (ci:m4<=300000) (cN:max f m2<300000) :
  Ans tab (.fn iv [v,w]) H fun x H'=>Iy H' x n K G G'/\Kp H H':=by
 obtain ⟨vc,vg,rfl,hc,hg⟩:=hp;obtain ⟨cB,cD,rfl,bG,bL⟩:=hq;have oc:=hc.one;have og:=hg.one;have cv:=bG.one;have cx:=bL.one;refine bC C.q4 zU fun T hl g0 g1=>?_;refine zW (cp hl g0 g1 (mX oc og) (mX cv cx)) ?_;refine AnsH.use (B9 C (n:=n) zF ⟨vc,vg,rfl,hc.mono (zG H),hg.mono (zG H)⟩ ⟨cB,cD,rfl,bG.mono (zG H),bL.mono (zG H)⟩ J ck cb hm ce bg hC cf hG ch cc) ?_;rintro x2 H2 ⟨cm,aL⟩;obtain ⟨k2,_,w2⟩:=zT H zK aL;have d0:H2.get H.next=some (.cells [.int .i64 (n:Int),vc,vg] ai true):=aL.get (da)
 have d4:H2.get (H.next+2)=some (.cells [.int .i64 0,.nilSl,.nilSl] ai true):=aL.get (da);have cS:=w2 _ _ d4;have n2:H.next+13<=H2.next:=aL.le
 obtain ⟨aE,aQ,rfl,a0,aK⟩:=IP cm oh;have cw:=a0.one;have c0:=aK.one;have bO:(G=[]) ↔ ((G.length:Int)=0):=by cases G <;> simp <;> omega
 have cT:∀ e',SubT (t_api_Con :: conE.tys) H2 (H2.put (H.next+2) e'):=fun e'=>SubT.puts (SubT.refl _ _) (NoTy.ty d4 zU);have cU:∀ e',SubT (ah :: genE.tys) H2 (H2.put (H.next+2) e'):=fun e'=>SubT.puts (SubT.refl _ _) (NoTy.ty d4 zU);have aS:H2.get (H.next+10)=none:=aL.free (show _<H.next+13 by omega) (by rw [al zO,al zO,al zO]; exact hw.fresh zO);by_cases aY:(G.length:Int)=0
 ·refine zW (jY hl g0 g1 d0 d4 hg.lenV @oD aY) ?_;refine ⟨?_,zK⟩;rw [Iy,if_pos (bO.2 aY)];have s0:Sub H2 (((H2.up 9).put (H.next+10) (.cells [.int .i64 0,.nilSl,.nilSl] ai true)).put (H.next+10) (.cells [.int .i64 (n:Int),aE,aQ] ai true)):=((Sub.bump H2 9).put aS _).put aS _;exact ⟨_,rfl,aE,aQ,rfl,SlV.monoT (E:=conE) (SubT.puts (s0.t _) (NoTy.ty (ty:=ai) d4 zU)) a0,SlV.monoT (E:=genE) (SubT.puts (s0.t _) (NoTy.ty (ty:=ai) d4 zU)) aK⟩
 have sm:∀ k:Nat,En (some (.cells [.nilMap] bJ true)) 1 0 (.map k)=some (.cells [.map k] bJ true):=fun _=>rfl;simp -dsimp (maxSteps:=1000000) (disch:=(first | omega | assumption | exact aH _ | exact aT _ _ | exact bf | exact bS _ _ _ | exact bk _ _ | exact bj _ _ _ _ _ _ | exact bX _ _ | exact bp _)) only [↓qh,qg,Nat.reduceLT,Nat.reduceEqDiff,Nat.reduceAdd,reduceIte,reduceCtorEq,Nat.reduceBEq,Int.reduceEq,Int.reduceLT,Int.reduceLE,Int.reduceAdd,Int.reduceSub,hl,g0,g1,d0,d4,hg.lenV,oD,S9,aY,↓Ep,sm];obtain ⟨D,hD⟩:∃ X,X=(((H2.up 6).put (H.next+10) (.cells [.int .i64 0,.nilSl,.nilSl] ai true)).put (H.next+10) (.cells [.int .i64 (n:Int),aE,aQ] ai true)):=⟨_,rfl⟩
 have eD:(((((((H2.up 13).put (H.next+10) (.cells [.int .i64 0,.nilSl,.nilSl] ai true)).put (H.next+10) (.cells [.int .i64 (n:Int),aE,aQ] ai true)).put (H2.next+6) (.cells [.nilSl] bH true)).put (H2.next+7) (.map [])).put (H2.next+8) (.cells [.nilMap] bJ true)).put (H2.next+8) (.cells [.map (H2.next+7)] bJ true))=(((((D.up 7).put (H2.next+6) (.cells [.nilSl] bH true)).put (H2.next+7) (.map [])).put (H2.next+8) (.cells [.nilMap] bJ true)).put (H2.next+8) (.cells [.map (H2.next+7)] bJ true)):=by rw [hD]; rfl
 rw [eD];have kD:Kp H D:=by rw [hD]; exact zK
 have sD:Sub H2 D:=by rw [hD]; exact ((Sub.bump H2 6).put aS _).put aS _
 have nD:D.next=H2.next+6:=by rw [hD]; rfl
 have dh:D.get (H.next+10)=some (.cells [.int .i64 (n:Int),aE,aQ] ai true):=by rw [hD,ap]
 have a7:=sD.get _ _ d0;have bU:=sD.get _ _ d4;clear hD eD;have wD:=kD.wf;obtain ⟨X,hX⟩:∃ X,X=(((((D.up 7).put (H2.next+6) (.cells [.nilSl] bH true)).put (H2.next+7) (.map [])).put (H2.next+8) (.cells [.nilMap] bJ true)).put (H2.next+8) (.cells [.map (H2.next+7)] bJ true)):=⟨_,rfl⟩
 rw [<- hX];have kX:Kp D X:=by rw [hX]; exact zK
 have nX:X.next=D.next+7:=by rw [hX]; rfl
 have x8:X.get (H2.next+6)=some (.cells [.nilSl] bH true):=by rw [hX]; exact da
 have xm:X.get (H2.next+7)=some (.map []):=by rw [hX]; exact da
 have x9:X.get (H2.next+8)=some (.cells [.map (H2.next+7)] bJ true):=by rw [hX]; exact da
 clear hX;have wX:=kX.wf;refine AnsH.use (ut C wX oc) ?_;rintro v3 y ⟨rfl,b0,n3,a1⟩;have k3:=kX.trans a1;have w3:=k3.wf;refine zW (aB hl g0 g1) ?_
 generalize ar:List.set _ 30 _=T2
 have l2:T2.length=72:=by rw [<- ar]; simp only [Vg]; exact hl
 have t2:aa T2 2=.ptr H.next 0:=by rw [<- ar]; exact zV (aB hl g0 g1)
 have t4:aa T2 4=.ptr (H.next+2) 0:=by rw [<- ar]; exact zV (aB hl g0 g1)
 have t6:aa T2 6=.ptr (H.next+10) 0:=by rw [<- ar]; exact zV (aB hl g0 g1)
 have t8:aa T2 8=.ptr (H2.next+6) 0:=by rw [<- ar]; exact zV (aB hl g0 g1)
 have t9:aa T2 9=.ptr (H2.next+8) 0:=by rw [<- ar]; exact zV (aB hl g0 g1)
 have cz:aa T2 30=.fn (.func cy) [] [.ptr X.next 0]:=by rw [<- ar]; exact zV (aB hl g0 g1)
 clear ar;obtain ⟨d,P⟩:∃ X,X=Lin.consP n (G++G'):=⟨_,rfl⟩
 obtain ⟨i,aq⟩:∃ X,X=Lin.gensP n d:=⟨_,rfl⟩
 rw [<- P] at a0 aK;rw [<- aq] at aK;refine mi (fi:=cy) (args:=[.loopv y.next,.ptr X.next 0]) (by refine zW (aA l2 cz) ?_; rfl) ?_
 generalize he:Ent.loop _ _ _ _ _ _=e0
 have aF:IsLp e0:=by rw [<- he]; trivial
 have bB:∀ c∈K,c.1.length=n+1:=J.own.rows;have bz:∀ g∈G,g.2.length=n+1:=fun g hg=>(J.own.valid g hg).1;have cj:=J.dim;have cW:D.next+7<=y.next:=zO
 have b4:∀ c∈K,c.1.length<=64/\∀ z∈c.1,MuI z:=fun c hc=>⟨by rw [bB c hc]; omega,fun z M=>(ft (J.bK c hc) z M).len (by have:=J.f3; omega)⟩
 have bD:∀ r∈bw K,r.length=n+1/\∀ z∈r,Bt (f+1) z:=Nj bB J.bK;have bv:∀ g∈G,∀ z∈g.2,Bt (e+1) z:=fun g hg=>ft (J.bG g hg);have b2:∀ r:List Int,r.length=n+1->∀ g∈i,g.2.length=r.length:=fun r hr g hg=>by rw [hr]; rw [aq,P] at hg; exact (oh.own.valid g hg).1
 have b3:∀ g∈i,∀ z∈g.2,Bt (m3+1) z:=fun g hg=>by rw [aq,P] at hg; exact ft (hG g hg)
 have cJ:=J.e3;have cK:=J.f3;have kY:Kp D ((y.up 1).put y.next e0):=zK;refine (zw C (H0:=D) (lb:=y.next) (l:=K) (sa:=vc) (fun k H'=>WJ D H' y.next (H2.next+6) (H2.next+7) (H2.next+8) e0 (((bw K).take k).map fun r=>UL r G) (((bw K).take k).filter fun r=>i.all fun g=>Lin.keepsP (r,false) g)) (MP y.next (H2.next+6) (H2.next+7)) (by have:=J.lenK; omega) kY ?_
  (fun k H m h=>h.up m) (fun k H H' h hk=>h.to hk) (fun k H b cs t r h hc hg=>h.ch3 aF.cells hc hg) (fun k H b h hc=>h.ch1 hc) (fun k H H' b h hk hc=>h.ch2 hk hc) ?_ (fun k H' h=>hc.mono (kD.trans h.kp).sub) b4 ?_).mono ?_
 ·have bi:∀ b e,y.get b=some e->((y.up 1).put y.next e0).get b=some e:=fun b e hb=>by
   have:=w3 _ _ hb
   rw [al zO]; exact hb
  exact ⟨kY,ap _ _ _,MaskM.start (bi _ _ (a1.get xm)),bi _ _ (a1.get x9),.nilSl,bi _ _ (a1.get x8),Bl.nil⟩
 ·rw [al zO];exact b0
 ·intro k aN j w aC U aO;have j0:=U.lp;rw [<- he] at j0;refine mR j0 rfl ?_;have ow:=aO.one;have w1:=aC.wf;have co:=aC.le;have cn:=aC.le;have cr:=w1 _ _ j0;refine zW (aA l2 j0) ?_
  generalize av:Ent.loop _ _ _ _ LoopState.busy none=e2
  have af:IsLp e2:=by rw [<- av]; trivial
  obtain ⟨Y,V⟩:∃ Y,Y=((j.up 2).put j.next (.cells [.nilSl,.bool false] t_api_Con true)).put j.next (.cells [w,.bool false] t_api_Con true):=⟨_,rfl⟩
  rw [<- V];have aD:Kp j Y:=by rw [V]; exact zK
  have cY:Y.get j.next=some (.cells [w,.bool false] t_api_Con true):=by rw [V,ap]
  have nY:Y.next=j.next+2:=by rw [V]; rfl
  clear V;have F:=(U.to aD).lbp (e2:=e2) aF zO;have gA:∀ b e,b≠y.next->j.get b=some e->(Y.put y.next e2).get b=some e:=fun b e hb hg=>by rw [al hb]; exact aD.get hg
  have O:(Y.put y.next e2).get j.next=some (.cells [w,.bool false] t_api_Con true):=by rw [al zO]; exact cY
  obtain ⟨A,hA⟩:∃ A,A=Y.put y.next e2:=⟨_,rfl⟩
  rw [<- hA] at F gA O ⊢;have nA:A.next=Y.next:=by rw [hA]; rfl
  have sA:SubT (ad :: intE.tys) j A:=by
   rw [hA];refine SubT.puts (aD.sub.t _) fun cs t r ht q=>?_;rw [U.lp] at q
   injection q with q
   exact aF.cells _ _ _ q
  clear hA;have wA:=F.kp.wf;have rA:RowV A w (bw K)[k]:=SlV.monoT (E:=intE) sA aO;obtain ⟨r,hr⟩:∃ r,r=(bw K)[k]:=⟨_,rfl⟩
  rw [<- hr] at rA;have ab:=F.kp.get a7;have cF:=F.kp.get dh;have ae:=bD r (by rw [hr]; exact Vm aN);have ag:=F.c9;refine aM ?_;refine zD (eF l2 t9 t2 ag O ab) ?_;refine AnsH.use (y6 C (e:=f+1) (f:=e+1) (L:=G) (a:=r) (F.up 6).kp.wf (rA.mono (Sub.bump A 6)) (hg.mono (kD.trans (F.up 6).kp).sub) zO (fun g hg=>by rw [bz g hg,ae.1]) (by rw [ae.1]; omega) ae.2 bv zO) ?_;rintro _ H4 ⟨rfl,ax⟩;have w4:=ax.wf;have cQ:=ax.le;have J4:=(F.up 6).to ax;obtain ⟨es,s,hu,J5,e5⟩:=J4.map af zO (UL r G);have bQ:=J4.c9;have bo:=ax.get (show (A.up 6).get _=_ from O);have bT:=ax.get (show (A.up 6).get _=_ from ab);simp -dsimp (maxSteps:=1000000) (disch:=(first | omega | assumption | exact aH _ | exact aT _ _ | exact bf | exact bS _ _ _ | exact bk _ _ | exact bj _ _ _ _ _ _ | exact bX _ _ | exact bp _)) only [↓qh,qg,↓Pc,Pb,Nat.reduceLT,Nat.reduceEqDiff,Nat.reduceAdd,reduceIte,reduceCtorEq,Nat.reduceBEq,Int.reduceEq,Int.reduceLT,Int.reduceLE,Int.reduceAdd,Int.reduceSub,l2,t9,t2,ag,O,Kt,ab,bQ,bo,bT,↓BU,hu];have w5:=J5.kp.wf;have cu:s.next=H4.next:=by rw [e5]; rfl
  have cV:j.next+8<=H4.next:=by have:=ax.le; simp only [cO] at this; omega
  have bq:s.get j.next=some (.cells [w,.bool false] t_api_Con true):=by rw [e5,al zO]; exact bo
  have bW:=J5.kp.get dh;have r5:RowV s w r:=by
   obtain ⟨cG,bg,-,-⟩:=J4.mm.ex;rw [e5];exact SlV.monoT (E:=intE) (SubT.puts (SubT.refl _ _) (NoTy.map bg)) ((rA.mono (Sub.bump A 6)).mono ax.sub)
  refine zD (aV l2 t6 bq bW) ?_;refine AnsH.use (GG C (e:=f+1) (f:=m3+1) (L:=i) (a:=r) (J5.up 4).kp.wf (r5.mono (Sub.bump s 4)) (aK.mono (Sub.trans sD (J5.up 4).kp.sub)) (by rw [aq,P]; have:=oh.many; omega) (b2 r ae.1) (by rw [ae.1]; omega) ae.2 b3 zO) ?_;rintro _ N ⟨rfl,Q⟩;have u:=(J5.up 4).to Q;have w6:=u.kp.wf;have ak:=Q.get (show (s.up 4).get _=_ from bq);have r6:=(r5.mono (Sub.bump s 4)).mono Q.sub;obtain ⟨n1,bl,bm,n4,n5,n6⟩:=U.ne aF;have ao:∀ b e,b≠y.next->b≠H2.next+7->j.get b=some e->N.get b=some e:=fun b e hb b8 hg=>by
   have h4:=ax.get (show (A.up 6).get b=some e from gA b e hb hg);exact Q.get (show s.get b=some e by rw [e5,al b8]; exact h4)
  have bc:∀ b,¬ MP y.next (H2.next+6) (H2.next+7) j b->¬ MP y.next (H2.next+6) (H2.next+7) N b:=fun b hb hc=>hb (by
   obtain ⟨o,h1,-⟩:=U.ex;rcases hc with hc | hc | hc | ⟨q,hc⟩
   ·exact .inl hc
   ·exact .inr (.inl hc)
   ·exact .inr (.inr (.inl hc))
   ·refine .inr (.inr (.inr ⟨q,?_⟩));rw [ao _ _ (fun q=>n1 q.symm) n4 h1] at hc;rw [h1]; exact hc)
  have aP:(bw K).take (k+1)=(bw K).take k++[r]:=by rw [hr,Vr aN]
  have bP:((bw K).take (k+1)).map (fun r=>UL r G)=((bw K).take k).map (fun r=>UL r G)++[UL r G]:=by rw [aP,V7]; rfl
  have l6:=u.lp;cases bN:i.all fun g=>Lin.keepsP (r,false) g with
  | false =>
   have ay:((bw K).take (k+1)).filter (fun r=>i.all fun g=>Lin.keepsP (r,false) g)=((bw K).take k).filter (fun r=>i.all fun g=>Lin.keepsP (r,false) g):=by rw [aP,Wa,Yh (by rw [bN]; decide),XW,Wv]
   refine zD l2 ?_;rw [ko,av,he,bP,ay];have W:=u.lbp (e2:=e0) af zO;exact ⟨l6,rfl,W.kp,W,fun b e hb hg=>by
    rw [al (fun q=>hb (.inl q))];exact ao b e (fun q=>hb (.inl q)) (fun q=>hb (.inr (.inr (.inl q)))) hg⟩
  | true =>
   obtain ⟨o,h8,-⟩:=u.ex;have ca:(((bw K).take k).filter fun r=>i.all fun g=>Lin.keepsP (r,false) g).length<=10000:=by
    have h1:=Wh (fun r=>i.all fun g=>Lin.keepsP (r,false) g) ((bw K).take k);have h2:=List.length_take_le k (bw K);have h3:=Df K;have h4:=J.lenK;rw [VN] at h1;omega
   obtain ⟨nq,H7,ha,n7,g7,W,bY⟩:=u.push (id:=N.next+3) (id2:=N.next+2) (k:=5) af zO h8 r6 zO zO zO zO zO ca;have ay:((bw K).take (k+1)).filter (fun r=>i.all fun g=>Lin.keepsP (r,false) g)=((bw K).take k).filter (fun r=>i.all fun g=>Lin.keepsP (r,false) g)++[r]:=by rw [aP,Wa,Yg (p:=fun r=>i.all fun g=>Lin.keepsP (r,false) g) bN,XW]
   refine zD (eF l2 t8 h8 ak ha g7) ?_;rw [ko,av,he,bP,ay];have S:=W.lbp (e2:=e0) af zO;exact ⟨W.lp,rfl,S.kp,S,fun b e hb hg=>by
    rw [al (fun q=>hb (.inl q))];exact bY b e (bc b hb) (ao b e (fun q=>hb (.inl q)) (fun q=>hb (.inr (.inr (.inl q)))) hg)⟩
 rintro _ H4 ⟨k4,J4⟩;refine .inl ⟨J4.lp,?_⟩;rw [VO] at J4;have w4:=k4.wf;obtain ⟨n1,bl,bm,n4,n5,n6⟩:=J4.ne aF;have bV:=k4.get dh;have cP:=k4.le;refine zW (aB l2 t6 bV) ?_;refine AnsH.use (ut C (((k4.up 3).kill (show D.next<=y.next by omega)).wf) cw) ?_;rintro v5 s ⟨rfl,aX,cX,a2⟩;have w5:=a2.wf;have cR:=a2.le;have cu:H4.next+3<=s.next:=a2.le
 refine zW l2 ?_
 generalize az:List.set _ 47 _=T3
 have R:T3.length=72:=by rw [<- az]; simp only [Vg]; exact l2
 have u2:aa T3 2=.ptr H.next 0:=by rw [<- az]; exact zV (aA l2 t2)
 have u4:aa T3 4=.ptr (H.next+2) 0:=by rw [<- az]; exact zV (aA l2 t4)
 have u8:aa T3 8=.ptr (H2.next+6) 0:=by rw [<- az]; exact zV (aA l2 t8)
 have u9:aa T3 9=.ptr (H2.next+8) 0:=by rw [<- az]; exact zV (aA l2 t9)
 have cA:aa T3 47=.fn (.func cy) [] [.ptr ((H4.up 3).kill y.next).next 0]:=by rw [<- az]; exact zV l2
 clear az;refine mi (fi:=cy) (args:=[.loopv s.next,.ptr ((H4.up 3).kill y.next).next 0]) (by refine zW (aA R cA) ?_; rfl) ?_
 generalize aJ:Ent.loop _ _ _ _ _ _=e1
 have aG:IsLp e1:=by rw [<- aJ]; trivial
 have JY:=J4.next (e1:=e1) (m:=3) aF zO a2
 obtain ⟨I,bE⟩:∃ X,X=(bw K).map fun r=>UL r G:=⟨_,rfl⟩
 rw [<- bE] at JY;obtain ⟨m5,cM⟩:∃ X,X=max f m2+1:=⟨_,rfl⟩
 have b9:f+1<=m5:=zO;have cg:m2+1<=m5:=zO;have bA:∀ r∈bw d,r.length=n+1/\∀ z∈r,Bt (m2+1) z:=by rw [P]; exact Nj oh.own.rows hC
 have b6:∀ c∈d,c.1.length=n+1:=by rw [P]; exact oh.own.rows
 have cH:d.length<1100:=by rw [P]; have:=oh.lenK; omega
 have b5:∀ c∈d,c.1.length<=64/\∀ z∈c.1,MuI z:=fun c hc=>⟨by rw [b6 c hc]; omega,fun z M=>by rw [P] at hc; exact (ft (hC c hc) z M).len zO⟩
 have hA0:∀ r∈(bw K).filter (fun r=>i.all fun g=>Lin.keepsP (r,false) g),r∈bw K:=fun r hr=>(Vx.1 hr).1;have a9:∀ k,∀ r∈((bw d).take k).foldl (lq I G) ((bw K).filter fun r=>i.all fun g=>Lin.keepsP (r,false) g),r.length=n+1/\∀ z∈r,Bt m5 z:=fun k r hr=>by
  rcases uu _ _ _ _ _ hr with h | h
  ·have:=bD r (hA0 r h)
   exact ⟨this.1,fun z M=>(this.2 z M).mono b9⟩
  ·have:=bA r (Xg h)
   exact ⟨this.1,fun z M=>(this.2 z M).mono cg⟩
 have ba:∀ k,(((bw d).take k).foldl (lq I G) ((bw K).filter fun r=>i.all fun g=>Lin.keepsP (r,false) g)).length<=10000:=fun k=>by
  have h1:=Ey I G ((bw d).take k) ((bw K).filter fun r=>i.all fun g=>Lin.keepsP (r,false) g);have h2:((bw K).filter fun r=>i.all fun g=>Lin.keepsP (r,false) g).length<=(bw K).length:=Wh _ _;have h3:=Df K;have h4:=Df d;have h5:=J.lenK;rw [VN] at h1;refine VB h1 (VB (Nat.add_le_add_right h2 _) ?_);omega
 obtain ⟨A0,bu⟩:∃ X,X=(bw K).filter fun r=>i.all fun g=>Lin.keepsP (r,false) g:=⟨_,rfl⟩
 rw [<- bu] at JY a9 ba;have cI:=J.lenK;refine (zw C (H0:=D) (lb:=s.next) (l:=d) (sa:=aE) (fun k H'=>WJ D H' s.next (H2.next+6) (H2.next+7) (H2.next+8) e1 I (((bw d).take k).foldl (lq I G) A0)) (MP s.next (H2.next+6) (H2.next+7)) zO JY.kp JY
  (fun k H m h=>h.up m) (fun k H H' h hk=>h.to hk) (fun k H b cs t r h hc hg=>h.ch3 aG.cells hc hg) (fun k H b h hc=>h.ch1 hc) (fun k H H' b h hk hc=>h.ch2 hk hc) ?_ (fun k H' h=>a0.mono (Sub.trans sD h.kp.sub)) b5 ?_).mono ?_
 ·have aX:s.get (H4.next+3)=some (.cells [aE] bH true):=aX;show ((s.up 1).put s.next e1).get (H4.next+3)=_;rw [al (by have:=w5 _ _ aX; omega)];exact aX
 ·intro k aN j w aC U aO;have j0:=U.lp;rw [<- aJ] at j0;refine mR j0 rfl ?_;have ow:=aO.one;have w1:=aC.wf;have co:=aC.le;have cn:=aC.le;have cr:=w1 _ _ j0;refine zW (aA R j0) ?_
  generalize av:Ent.loop _ _ _ _ LoopState.busy none=e2
  have af:IsLp e2:=by rw [<- av]; trivial
  obtain ⟨Y,V⟩:∃ Y,Y=((j.up 2).put j.next (.cells [.nilSl,.bool false] t_api_Con true)).put j.next (.cells [w,.bool false] t_api_Con true):=⟨_,rfl⟩
  rw [<- V];have aD:Kp j Y:=by rw [V]; exact zK
  have cY:Y.get j.next=some (.cells [w,.bool false] t_api_Con true):=by rw [V,ap]
  have nY:Y.next=j.next+2:=by rw [V]; rfl
  clear V;have F:=(U.to aD).lbp (e2:=e2) aG zO;have gA:∀ b e,b≠s.next->j.get b=some e->(Y.put s.next e2).get b=some e:=fun b e hb hg=>by rw [al hb]; exact aD.get hg
  have O:(Y.put s.next e2).get j.next=some (.cells [w,.bool false] t_api_Con true):=by rw [al zO]; exact cY
  obtain ⟨A,hA⟩:∃ A,A=Y.put s.next e2:=⟨_,rfl⟩
  rw [<- hA] at F gA O ⊢;have nA:A.next=Y.next:=by rw [hA]; rfl
  have sA:SubT (ad :: intE.tys) j A:=by
   rw [hA];refine SubT.puts (aD.sub.t _) fun cs t r ht q=>?_;rw [U.lp] at q
   injection q with q
   exact aG.cells _ _ _ q
  clear hA;have rA:RowV A w (bw d)[k]:=SlV.monoT (E:=intE) sA aO;obtain ⟨r,hr⟩:∃ r,r=(bw d)[k]:=⟨_,rfl⟩
  rw [<- hr] at rA;have ab:=F.kp.get a7;have ae:=bA r (by rw [hr]; exact Vm aN);have ag:=F.c9;refine aM ?_;refine zD (eF R u9 u2 ag O ab) ?_;refine AnsH.use (y6 C (e:=m2+1) (f:=e+1) (L:=G) (a:=r) (F.up 13).kp.wf (rA.mono (Sub.bump A 13)) (hg.mono (kD.trans (F.up 13).kp).sub) zO (fun g hg=>by rw [bz g hg,ae.1]) (by rw [ae.1]; omega) ae.2 bv zO) ?_;rintro _ N ⟨rfl,Q⟩;have u:=(F.up 13).to Q;have lk:=u.mm.look (UL r G);have aR:=u.c9;have ak:=Q.get (show (A.up 13).get _=_ from O);have aI:=Q.get (show (A.up 13).get _=_ from ab);obtain ⟨o,h8,ob⟩:=u.ex;have cd:=Q.le;simp only [cO] at cd;obtain ⟨n1,bl,bm,n4,n5,n6⟩:=U.ne aG;have ao:∀ b e,b≠s.next->j.get b=some e->N.get b=some e:=fun b e hb hg=>Q.get (show (A.up 13).get b=some e from gA b e hb hg)
  have bc:∀ Z,Kp N Z->∀ b,¬ MP s.next (H2.next+6) (H2.next+7) j b->¬ MP s.next (H2.next+6) (H2.next+7) Z b:=fun Z kZ b hb hc=>hb (by
   obtain ⟨o,h1,-⟩:=U.ex;rcases hc with hc | hc | hc | ⟨q,hc⟩
   ·exact .inl hc
   ·exact .inr (.inl hc)
   ·exact .inr (.inr (.inl hc))
   ·refine .inr (.inr (.inr ⟨q,?_⟩));rw [kZ.get (ao _ _ (fun q=>n1 q.symm) h1)] at hc;rw [h1]; exact hc)
  have bF:=a9 k;have aZ:=ba k;have aP:(bw d).take (k+1)=(bw d).take k++[r]:=by rw [hr,Vr aN]
  have ay:((bw d).take (k+1)).foldl (lq I G) A0=lq I G (((bw d).take k).foldl (lq I G) A0) r:=by rw [aP,Yc]; rfl
  obtain ⟨ac,b7⟩:∃ X,X=((bw d).take k).foldl (lq I G) A0:=⟨_,rfl⟩
  rw [<- b7] at ay bF aZ u ob;by_cases a4:UL r G∈I
  ·rw [if_pos a4] at lk;simp -dsimp (maxSteps:=1000000) (disch:=(first | omega | assumption | exact aH _ | exact aT _ _ | exact bf | exact bS _ _ _ | exact bk _ _ | exact bj _ _ _ _ _ _ | exact bX _ _ | exact bp _)) only [↓qh,qg,↓Pc,Pb,Nat.reduceLT,Nat.reduceEqDiff,Nat.reduceAdd,reduceIte,reduceCtorEq,Nat.reduceBEq,Int.reduceEq,Int.reduceLT,Int.reduceLE,Int.reduceAdd,Int.reduceSub,R,u9,u2,u8,ag,O,Kt,ab,aR,ak,aI,h8,↓gT,l7,lk,↓jZ];refine AnsH.use (jX C (E:=conE) (first:=[]) (caps:=[.ptr j.next 0]) (l:=dY ac) u.kp.wf rfl ob.sl (by unfold dY; rw [Vp]; omega) (fun c=>decide (c.1=r)) ?_) ?_
   ·rintro c hc X cs bd ⟨w',rfl,cl⟩;obtain ⟨x,hx,rfl⟩:=Vl.1 hc;have hx:=bF x hx;exact MH C bd.wf (bd.get ak) cl (((rA.mono (Sub.bump A 13)).mono Q.sub).mono bd.sub) (by rw [hx.1]; omega) (fun z M=>(hx.2 z M).sm zO)
   rintro _ H7 ⟨rfl,B⟩;have e7:((dY ac).any fun c=>decide (c.1=r))=decide (r∈ac):=by
    rw [WK,VY,decide_eq_true_iff];constructor
    ·rintro ⟨c,hc,h⟩;obtain ⟨x,hx,rfl⟩:=Vl.1 hc;rw [<- of_decide_eq_true h]; exact hx
    ·intro h;exact ⟨(r,false),Vl.2 ⟨r,h,rfl⟩,decide_eq_true rfl⟩
   rw [e7];have W:=u.to B;have bn:=W.c9;have a6:=B.get ak;have br:=B.get aI;have aW:=B.get h8;have r7:=((rA.mono (Sub.bump A 13)).mono Q.sub).mono B.sub;have cL:=B.le;by_cases a3:r∈ac
   ·have ew:lq I G ac r=ac:=by unfold lq; rw [if_neg fun q=>q.2 a3]
    rw [decide_eq_true a3];simp -dsimp (maxSteps:=1000000) (disch:=(first | omega | assumption | exact aH _ | exact aT _ _ | exact bf | exact bS _ _ _ | exact bk _ _ | exact bj _ _ _ _ _ _ | exact bX _ _ | exact bp _)) only [↓qh,qg,↓Pc,Pb,Nat.reduceLT,Nat.reduceEqDiff,Nat.reduceAdd,reduceIte,reduceCtorEq,Nat.reduceBEq,Int.reduceEq,Int.reduceLT,Int.reduceLE,Int.reduceAdd,Int.reduceSub,R,u9,u2,u8,ag,O,Kt,ab,aR,ak,aI,h8,bn,a6,br,aW,↓gT,l7,lk,↓jZ];rw [ko,av,aJ,ay,ew];have S:=W.lbp (e2:=e1) af zO;exact ⟨W.lp,rfl,S.kp,S,fun b e hb hg=>by
     rw [al (fun q=>hb (.inl q))];exact B.get (ao b e (fun q=>hb (.inl q)) hg)⟩
   ·have ew:lq I G ac r=ac++[r]:=by unfold lq; rw [if_pos ⟨a4,a3⟩]
    rw [decide_eq_false a3];simp -dsimp (maxSteps:=1000000) (disch:=(first | omega | assumption | exact aH _ | exact aT _ _ | exact bf | exact bS _ _ _ | exact bk _ _ | exact bj _ _ _ _ _ _ | exact bX _ _ | exact bp _)) only [↓qh,qg,↓Pc,Pb,Nat.reduceLT,Nat.reduceEqDiff,Nat.reduceAdd,reduceIte,reduceCtorEq,Nat.reduceBEq,Int.reduceEq,Int.reduceLT,Int.reduceLE,Int.reduceAdd,Int.reduceSub,R,u9,u2,u8,ag,O,Kt,ab,aR,ak,aI,h8,bn,a6,br,aW,↓gT,l7,lk,↓jZ];obtain ⟨nq,H8,ha,n8,g8,S,bZ⟩:=W.push (id:=H7.next+3) (id2:=H7.next+2) (k:=5) af zO aW r7 zO zO zO zO zO aZ;refine zD (eF R u8 a6 aW ha g8) ?_;rw [ko,av,aJ,ay,ew];have J9:=S.lbp (e2:=e1) af zO;exact ⟨S.lp,rfl,J9.kp,J9,fun b e hb hg=>by
     rw [al (fun q=>hb (.inl q))];exact bZ b e (bc _ B b hb) (B.get (ao b e (fun q=>hb (.inl q)) hg))⟩
  ·rw [if_neg a4] at lk;have ew:lq I G ac r=ac:=by unfold lq; rw [if_neg fun q=>a4 q.1]
   simp -dsimp (maxSteps:=1000000) (disch:=(first | omega | assumption | exact aH _ | exact aT _ _ | exact bf | exact bS _ _ _ | exact bk _ _ | exact bj _ _ _ _ _ _ | exact bX _ _ | exact bp _)) only [↓qh,qg,↓Pc,Pb,Nat.reduceLT,Nat.reduceEqDiff,Nat.reduceAdd,reduceIte,reduceCtorEq,Nat.reduceBEq,Int.reduceEq,Int.reduceLT,Int.reduceLE,Int.reduceAdd,Int.reduceSub,R,u9,u2,u8,ag,O,Kt,ab,aR,ak,aI,h8,↓gT,l7,lk,↓jZ];rw [ko,av,aJ,ay,ew];have S:=u.lbp (e2:=e1) af zO;exact ⟨u.lp,rfl,S.kp,S,fun b e hb hg=>by
    rw [al (fun q=>hb (.inl q))];exact ao b e (fun q=>hb (.inl q)) hg⟩
 rintro _ N ⟨k6,u⟩;refine .inl ⟨u.lp,?_⟩;have bb:=a9 (bw d).length;rw [VO] at u bb;have bt:(bw d).foldl (lq I G) A0=mU K G d i:=by rw [bE,bu]; rfl
 rw [bt] at u bb;have w6:=k6.wf;obtain ⟨n1,bl,bm,n4,n5,n6⟩:=u.ne aG;obtain ⟨o,h8,ob⟩:=u.ex;have oo:=ob.sl.one;have bR:=k6.get a7;refine zW (eF R u2 u8 u4 bR h8) ?_;have kZ:Kp D ((N.up 8).kill s.next):=(k6.up 8).kill zO;obtain ⟨Z,hZ⟩:∃ Z,Z=(N.up 8).kill s.next:=⟨_,rfl⟩
 have oZ:SlV conE t_api_Con Z o (dY (mU K G d i)):=by
  rw [hZ];refine ob.sl.monoT (SubT.kills (H':=N.up 8) (SubT.upR (SubT.refl _ _)) fun cs t r _ q=>?_);rw [u.lp] at q
  injection q with q
  exact aG.cells _ _ _ q
 rw [<- hZ] at kZ ⊢;have nZ:N.next+8=Z.next:=by rw [hZ]; rfl
 clear hZ;have wZ:=kZ.wf;have bs:=kZ.get bU;have a8:¬ G=[]:=fun q=>aY (bO.1 q);have ln:(dY (mU K G d i)).length=(mU K G d i).length:=by unfold dY; rw [Vp]
 have aZ:=ba (bw d).length;rw [VO,bt] at aZ;have a5:∀ c∈dY (mU K G d i),c.1.length=n+1/\∀ z∈c.1,Bt m5 z:=fun c hc=>by
  obtain ⟨r,hr,rfl⟩:=Vl.1 hc;exact bb r hr
 by_cases aU:60<(mU K G d i).length
 ·have bK:dl n ((dY (mU K G d i)).map fun c=>(c.1.map eO,c.2))=4:=by
   unfold dl;rw [if_neg zO,if_pos (by rw [Vp,ln]; exact aU)]
  refine AnsH.use (xW C wZ (AM oZ) (JL (n:=n) zO fun c hc=>⟨(a5 c hc).1,fun z M=>((a5 c hc).2 z M).sm zO⟩) (by rw [Vp,ln]; omega) (by rw [bK]; decide)) ?_;rintro _ H7 ⟨rfl,B⟩;rw [bK];have w7:=B.wf;have cq:=B.le;have am:=B.get bs;have ct:=w7 _ _ am;have k7:=(kD.trans kZ).trans B;refine zW (aV R u4 am @oD) ?_;refine ⟨?_,zK⟩;rw [Iy,if_neg a8,<- P,<- aq,if_pos aU]
 ·have b1:∀ x∈Lin.gensP n (dY (mU K G d i)),Lin.Bd (2^m4) x.2:=by
   rw [<- P,<- aq] at bx;exact bx zO
  refine AnsH.use (mP C (n:=n) (m:=m5) (m2:=m4) wZ oZ cj zO (fun c hc=>⟨(a5 c hc).1,CO fun z M=>Xe ((a5 c hc).2 z M)⟩) zO b1 ci) ?_;rintro v7 H7 ⟨bh,B⟩;have w7:=B.wf;have cq:=B.le;have am:=B.get bs;have k7:=(kD.trans kZ).trans B;have ct:=w7 _ _ am;rcases bh with ⟨rfl,bh⟩ | ⟨p,rfl,⟨cC,cE,rfl,bI,bM⟩,h1,h2⟩
  ·refine zW (aV R u4 am @oD) ?_;refine ⟨?_,zK⟩;rw [Iy,if_neg a8,<- P,<- aq,if_neg aU];exact .inl ⟨rfl,bh⟩
  ·have c1:=bI.one;have cZ:=bM.one;refine zW (aV R u4 am @oD) ?_;refine ⟨?_,zK⟩;rw [Iy,if_neg a8,<- P,<- aq,if_neg aU];refine .inr ⟨_,rfl,⟨cC,cE,rfl,?_,?_⟩,h1,h2⟩
   ·have m3:NoTy (t_api_Con :: conE.tys) H7 (H.next+2):=NoTy.ty am zU;exact SlV.monoT (E:=conE) zS bI
   ·have m3:NoTy (ah :: genE.tys) H7 (H.next+2):=NoTy.ty am zU;exact SlV.monoT (E:=genE) zS bM
end
end Go.Proofs.YtkmepoeklibegaaGreat.Ev
