/- A part. -/
import Derived.Test.YteaefaohjlmjdaaGreatA0
import Derived.Test.YteaefaohjlmjdaaGreatKit
import Derived.KernelRfl
namespace Go.Proofs.YteaefaohjlmjdaaGreat.Ev
open Go Nn
set_option linter.all false
section
variable {tab:Nat->Option az} {H:Heap}
def Od (x y:Nat) (hx:x<B) (hy:y<B) :
  ((x / 4294967296*(y / 4294967296) % B+((x / 4294967296*(y % 4294967296) % B+(x % 4294967296*(y % 4294967296) % B) / 4294967296) % B) / 4294967296) % B+((((x / 4294967296*(y % 4294967296) % B+(x % 4294967296*(y % 4294967296) % B) / 4294967296) % B) % 4294967296+x % 4294967296*(y / 4294967296) % B) % B) / 4294967296) % B=x*y / B:=by
 have e:x*y=(x / 4294967296*4294967296+x % 4294967296)*(y / 4294967296*4294967296+y % 4294967296):=by
  rw [Ys,Ys]
 have h1:x / 4294967296<4294967296:=by unfold B at hx; omega
 have h2:y / 4294967296<4294967296:=by unfold B at hy; omega
 have h3:x % 4294967296<4294967296:=zO;have d:y % 4294967296<4294967296:=zO
 generalize x / 4294967296=x1 at *
 generalize y / 4294967296=y1 at *
 generalize x % 4294967296=a at *
 generalize y % 4294967296=b at *
 have f:x1*y1<=4294967295*4294967295:=WA zO zO;have g:x1*b<=4294967295*4294967295:=WA zO zO;have h:a*y1<=4294967295*4294967295:=WA zO zO;have i:a*b<=4294967295*4294967295:=WA zO zO;have c:x*y=x1*y1*18446744073709551616+(x1*b)*4294967296+(a*y1)*4294967296+a*b:=by rw [e]; grind
 rw [c];clear e c hx hy h1 h2 h3 d
 generalize x1*y1=p at *
 generalize x1*b=q at *
 generalize a*y1=r at *
 generalize a*b=t at *
 simp only [B];omega
def qf (C:Code tab) (c:Wf H) {x y:Nat} (hx:x<B) (hy:y<B):Ans tab (.fn jJ [.int .u64 (x:Nat),.int .u64 (y:Nat)]) H fun v H'=>v=.tup [.int .u64 ((x*y / B:Nat):Int),.int .u64 ((x*y % B:Nat):Int)]/\Kp H H':=by
 refine bk C.q176 zU fun T hl a b=>?_;have e:=Od x y hx hy;simp only [B] at e;refine zW (aW hl a b e) ?_;exact zK
end
def jD:∀ {l:List Nat} {k v:Nat},k<l.length->val (l.set k v)+B^k*l.getD k 0=val l+B^k*v
 | a :: l,0,v,_=>by simp [val]; omega
 | a :: l,k+1,v,h=>by
  have b:=jD (l:=l) (k:=k) (v:=v) (by simpa using h);simp only [Zg,val,WE,VG]
  have:=congrArg (B * ·) b
  simp only [VV] at this;rw [Vw (B^k) B,VO,VO];omega
def lp {l:List Nat} (h:Lim l) {k v:Nat} (b:v<B):Lim (l.set k v):=fun a ha=>by
 rcases XI ha with h1 | h1
 ·exact h a h1
 ·rw [h1]; exact b
section
variable {tab:Nat->Option az} {H:Heap} {s:AV} {l:List Nat}
def SlV.clipat {α:Type} {E:fF α} {ty:Nat} {v:AV} {l:List α} (hs:SlV E ty H v l) (k j:IntKind) (n:Nat) (hn:n<=l.length):∃ d,bQ E.sz v none (some (.int k (n:Int))) (some (.int j (n:Int)))=some d/\SlV E ty H d (l.take n):=by
 obtain ⟨cells,hr,u,hc⟩:=hs;obtain ⟨m,hm,p⟩:=hr.length;have q:m=l.length:=WW E.pos (by rw [<- p,hc.1]);subst q;obtain ⟨h0,h1,m',h2,h3⟩:=hr;rw [hm] at h2; cases h2;have g:n*E.sz<=l.length*E.sz:=Vj _ hn;have i:∀ x y z,bQ E.sz v x y z=bS E.sz v x y z:=fun x y z=>by cases v <;> first | rfl | exact absurd rfl (h1 _)
 rw [i]
 suffices ∃ d,bS E.sz v none (some (.int k (n:Int))) (some (.int j (n:Int)))=some d/\Rd H E.sz d (cells.take (n*E.sz)) by
  obtain ⟨d,e,hr⟩:=this;exact ⟨d,e,_,hr,sB u (by rw [i]; exact e),hc.take hn⟩
 cases v with
 | own b off n' c B ex =>
  simp only [iC,VT] at hm;subst hm;simp only [aQ] at h3;split at h3
  ·rename_i cs ty A hb;split at h3
   ·rename_i f;obtain ⟨t,-,hcl⟩:=f;subst t;cases h3;have w:l.length<=c:=h0;have o:((cs.drop off).take (l.length*E.sz)).take (n*E.sz)=(cs.drop off).take (n*E.sz):=by rw [Xi,VZ g]
    rw [o];have hp:bS E.sz (.own b off l.length c E.sz ex) none (some (.int k (n:Int))) (some (.int j (n:Int)))=some (if n=0 then .own b off 0 0 E.sz true else .own b off n n E.sz true):=by
     simp only [bS,gq,ne_eq,not_true_eq_false,if_false,U8,Wy,Xa,W0];rw [if_pos ⟨zO,Vc _,Vk _⟩];by_cases a:n=0
     ·rw [if_pos a,if_pos a]; simp [a]
     ·rw [if_neg a,if_neg a]; simp
    refine ⟨_,hp,?_⟩;by_cases a:n=0
    ·rw [if_pos a,a];refine ⟨Vc _,(fun s h=>by cases h),0,rfl,?_⟩;simp only [aQ,hb];rw [if_pos ⟨trivial,Vc _,by simp; omega⟩]
    ·rw [if_neg a];refine ⟨Vc _,(fun s h=>by cases h),n,rfl,?_⟩;simp only [aQ,hb];rw [if_pos ⟨trivial,Vc _,zO⟩]
   ·cases h3
  ·cases h3
 | sl cs n' =>
  simp only [iC,VT] at hm;subst hm;simp only [aQ] at h3;split at h3
  ·rename_i f;cases h3;have hcl:=f.2;refine ⟨.sl (cs.take (n*E.sz)) n,?_,trivial,(fun s h=>by cases h),n,rfl,?_⟩
   ·simp only [bS,gq,U8,Wy,Xa,W0];rw [if_pos ⟨hn,Vc _,Vk _,zO⟩]
    simp
   ·simp only [aQ];rw [if_pos ⟨Vc _,by simp only [Vx]; omega⟩];rw [Xi,Xi,Nat.min_self,VZ g]
  ·cases h3
 | nilSl =>
  simp only [iC,VT] at hm;have r:n=0:=zO;subst r;simp only [aQ] at h3;split at h3
  ·cases h3;exact ⟨.nilSl,rfl,trivial,(fun s h=>by cases h),0,rfl,by simp [aQ]⟩
  ·cases h3
 | str s=>exact absurd rfl (h1 s)
 | _=>simp [iC] at hm
def FZ (C:Code tab) (G:Wf H) (hs:Lb H s l) (F:l.length<4611686018427387904) :
  Ans tab (.fn uz [s]) H fun v H'=>Lb H' v (dS l)/\Kp H H':=by
 refine cY C.q177 zU fun T hl j=>?_;refine zW (aE hl j hs.lenV) ?_;refine aP H [3] (fun k vs H'=>vs=[.int .i64 (k:Int)]/\dS (l.take k)=dS l/\k<=l.length) l.length (by simp only [U4]; exact hl) rfl zK ⟨by exact zV (aw hl j),by rw [VC],Vc _⟩ ?_;rintro k T1 r g E d ⟨f,p,n⟩;have w1:=d.wf;have I:=d.le;simp only [Vb,Vf,Vd,and_true] at f;have t0:ad T1 0=s:=(E.at_ 0 zU).trans (zV (aw hl j));have fin:∀ (m:Nat),dS (l.take k)=l.take k->∀ c,bQ 1 s none (some (.int .i64 (k:Int))) (some (.int .i64 (k:Int)))=some c->Lb H c (l.take k)->Lb (r.up m) c (dS l):=fun m h1 c _ h2=>by
  rw [<- p,h1]; exact h2.mono (d.up m).sub
 obtain ⟨c,e,hr⟩:=SlV.clipat hs .i64 .i64 k n;have e':bQ 1 s none (some (.int .i64 (k:Int))) (some (.int .i64 (k:Int)))=some c:=e;rcases W5 (l.take k) with h0 | ⟨b,a,h0⟩
 ·have y:k=0:=by
   have:=congrArg List.length h0; simp at this; rcases this with h | h
   ·exact h
   ·subst h; simpa using n
  subst y;have z:¬ (0:Int)<((0:Nat):Int):=zO;refine zW (bO g f t0 z e') ?_;exact ⟨fin _ (by simp; rfl) _ e' hr,zK⟩
 ·rw [W6] at h0;have A:k=b.length+1:=by have:=congrArg List.length h0; simp at this; omega
  subst A;have B:l.take b.length=b:=by
   have:=congrArg (List.take b.length) h0
   rw [Xi,VZ zO] at this
   simpa using this
  have q:IntKind.i64.wrap (((b.length+1:Nat):Int)-1)=(b.length:Int):=by rw [wrap_i64] <;> omega
  have D:0<b.length+1:=zO;have x:=SlV.idx1 (hs.mono d.sub) .i64 b.length zO;have w:l.getD b.length 0=a:=by
   have this:(l.take (b.length+1)).getD b.length 0=(b++[a]).getD b.length 0:=by rw [h0]
   rw [U5,Vy,if_pos zO,<- U5] at this;rw [this]; simp [U5]
  have o:=cW (hs.mono d.sub) (i:=b.length) zO;rw [w] at o;refine zW (fE g f t0 D x o q) ?_;refine iteH.split (fun ha=>?_) fun ha=>?_
  ·have u:a=0:=zO;subst u;refine zW (aW g f t0 q) ?_;refine ⟨zK,b.length,zO,rfl,?_,zO⟩;rw [B,<- p,h0,dy]
  ·have t:a≠0:=zO;refine zW (aW g f t0 e') ?_;exact ⟨fin _ (by rw [h0,iy t]) _ e' hr,zK⟩
def Fx {x y o c:Nat} (hx:x<B) (hy:y<B) (a:o<B) (hc:c<B) :
  (fD (fD (x*y % B) o 0).1 c 0).1+B*(((x*y / B+(fD (x*y % B) o 0).2) % B+(fD (fD (x*y % B) o 0).1 c 0).2) % B)=x*y+o+c:=by
 have hp:x*y<=18446744073709551615*18446744073709551615:=WA (by unfold B at hx; omega) (by unfold B at hy; omega);simp only [fD,B] at *
 generalize x*y=p at *
 omega
def HO {out b:List Nat} {i j x c a l2 c':Nat} (hlt:i+j<out.length) (e:val out+B^(i+j)*c=a+B^i*x*val (b.take j)) (he:l2+B*c'=x*b.getD j 0+out.getD (i+j) 0+c) :
  val (out.set (i+j) l2)+B^(i+(j+1))*c'=a+B^i*x*val (b.take (j+1)):=by
 have h1:=jD (l:=out) (k:=i+j) (v:=l2) hlt;rw [dl];have h2:B^(i+(j+1))*c'=B^(i+j)*(B*c'):=by rw [<- Wj,VG,VO]
 have h3:B^i*x*(val (b.take j)+B^j*b.getD j 0)=B^i*x*val (b.take j)+B^(i+j)*(x*b.getD j 0):=by rw [VV,V4]; grind
 rw [h2,h3];have d:=congrArg (B^(i+j) * ·) he;simp only [VV] at d
 generalize B^(i+j)*(B*c')=q1 at *
 generalize B^(i+j)*l2=q2 at *
 generalize B^(i+j)*(x*b.getD j 0)=q3 at *
 generalize B^(i+j)*c=q4 at *
 generalize B^(i+j)*out.getD (i+j) 0=q5 at *
 omega
def bw {l:List Nat} {i k v:Nat} (h:i≠k):(l.set i v).getD k 0=l.getD k 0:=by
 rw [U5,U5,Xq,if_neg h]
def Im (C:Code tab) (hw:Wf H) {sa sb:AV} {a b:List Nat} (ha:Lb H sa a) (hb:Lb H sb b) (am:a.length<1099511627776) (ao:b.length<1099511627776) (la:Lim a) (lb:Lim b) :
  Ans tab (.fn pO [sa,sb]) H fun v H'=>Lb H' v (ag (val a*val b))/\Kp H H':=by
 refine bk C.q164 zU fun T hl n f=>?_;have Q:IntKind.i64.wrap ((a.length:Int)+(b.length:Int))=((a.length+b.length:Nat):Int):=by rw [wrap_i64] <;> omega
 obtain ⟨N,W⟩:∃ N,a.length+b.length=N:=⟨_,rfl⟩
 rw [W] at Q;have af:∀ H' id,Io H' id ae 1 8 [.int .u64 0] (.int .i64 (N:Int)) (.int .i64 (N:Int))=some (.own id 0 N N 1 true,H'.put id (.cells (aM (List.replicate N 0)) ae true)):=fun H' id=>by
  exact (jg H' id ae 1 8 [.int .u64 0] .i64 .i64 N zO zO rfl).trans (by rw [lB])
 refine zW (fE hl n f ha.lenV hb.lenV Q af) ?_;refine aq H [] (fun i vs H'=>∃ out,H'.get (H.next+6)=some (.cells (aM out) ae true)/\out.length=N/\Lim out/\val out=val (a.take i)*val b/\∀ k,i+b.length<=k->out.getD k 0=0) (a:=0) (N:=a.length) rfl (by refine zW (aE hl n f) ?_; rfl) (zV (aE hl n f)) (Vk _) zO (by simp only [U4,hl]; rfl) rfl (fun _ _ _ _ h=>h) zK
  ⟨List.replicate N 0,by exact cy,by simp,Lim.replicate N,by rw [gw]; simp [val],fun k _=>by simp [U5,We]; split <;> rfl⟩ ?_ ?_
 ·rintro i T1 L _ hi d X t q ⟨out,E,G,I,hval,U⟩;simp only [U4,hl] at d;have w1:=q.wf;have ah:=q.le;have t5:ad T1 5=.own (H.next+6) 0 N N 1 true:=(t.at_ 5 zU).trans (zV (aE hl n f));have t1:ad T1 1=sb:=(t.at_ 1 zU).trans (zV (aW hl n f f));have al:ad T1 20=sa:=(t.at_ 20 zU).trans (zV (aE hl n f));have Y:=SlV.idx1 ha .i64 i hi;have ab:=cW (ha.mono q.sub) hi;refine zW (jC d t5 t1 al X Y ab hb.lenV) ?_;have R:=la.at i;refine aq H [8] (fun j vs H'=>∃ o c:_,vs=[.int .u64 ((c:Nat):Int)]/\H'.get (H.next+6)=some (.cells (aM o) ae true)/\o.length=N/\Lim o/\c<B/\val o+B^(i+j)*c=val (a.take i)*val b+B^i*a.getD i 0*val (b.take j)/\∀ k,i+b.length<=k->o.getD k 0=0) (a:=0) (N:=b.length) rfl (by refine zW d ?_; rfl) (zV d) (Vk _) zO (by simp only [U4,d]; rfl) rfl (fun _ _ _ _ h=>h) zK
   ⟨out,0,by refine zW d ?_; rfl,E,G,I,by decide,by simp [hval,val],U⟩ ?_ ?_
  ·rintro j T2 H2 _ hj g x m e ⟨o,c,p,w,J,y,hc,K,z⟩;simp only [U4,d] at g;simp only [Vb,Vf,Vd,and_true] at p;have w2:=e.wf;have ai:=e.le;have r:ad T2 5=.own (H.next+6) 0 N N 1 true:=(m.at_ 5 zU).trans (zV (aw d t5));have s:ad T2 6=.int .i64 (i:Int):=(m.at_ 6 zU).trans (zV d);have D:ad T2 7=.int .u64 ((a.getD i 0:Nat):Int):=(m.at_ 7 zU).trans (zV d);have A:ad T2 27=sb:=(m.at_ 27 zU).trans (zV (aw d t1));have aa:=SlV.idx1 hb .i64 j hj;have Z:=cW (hb.mono e.sub) hj;have S:=lb.at j;have u:IntKind.i64.wrap ((i:Int)+(j:Int))=((i+j:Nat):Int):=by rw [wrap_i64] <;> omega
   have P:=y.at (i+j);refine zW (jC g r s D A x aa Z) ?_;refine AnsH.use (qf C zF R S) ?_;rintro v H3 ⟨rfl,O⟩;obtain ⟨k3,_,w3⟩:=zT H zK O;have d6:=O.get (b:=H.next+6) w;refine zW (jB g r s D A x p u d6) ?_;refine AnsH.eq (jA C _ (a.getD i 0*b.getD j 0 % B) (o.getD (i+j) 0) 0 (VS _ zU) P zO) fun V F=>?_;subst F;refine zW (jB g r s D A x p u d6) ?_;refine AnsH.eq (jA C _ (fD (a.getD i 0*b.getD j 0 % B) (o.getD (i+j) 0) 0).1 c 0 (VS _ zU) hc zO) fun V F=>?_;subst F;have aj:=k3.wf _ _ d6;refine zW (jB g r s D A x p u d6) ?_;have hs:=Fx R S P hc;refine ⟨zK,_,_,rfl,rfl,by simp [J],lp y (VS _ zU),VS _ zU,HO zO K hs,fun k M=>?_⟩;rw [bw zO];exact z k M
  ·intro T2 H2 g m e ⟨o,c,p,w,J,y,hc,K,z⟩;simp only [U4,d] at g;simp only [Vb,Vf,Vd,and_true] at p;have w2:=e.wf;have ai:=e.le;have r:ad T2 5=.own (H.next+6) 0 N N 1 true:=(m.at_ 5 zU).trans (zV (aw d t5));have s:ad T2 6=.int .i64 (i:Int):=(m.at_ 6 zU).trans (zV d);have u1:ad T2 1=sb:=(m.at_ 1 zU).trans (zV (aw d t1));have u:IntKind.i64.wrap ((i:Int)+(b.length:Int))=((i+b.length:Nat):Int):=by rw [wrap_i64] <;> omega
   have aj:=e.wf _ _ w;refine zW (jC g r s u1 p u w hb.lenV) ?_;have h1:=jD (l:=o) (k:=i+b.length) (v:=c) zO;rw [z _ (Vc _)] at h1;rw [Vt (Vc _)] at K;refine ⟨zK,_,rfl,by simp [J],lp y hc,?_,fun k M=>?_⟩
   ·rw [dl,Wa]; omega
   ·rw [bw zO];exact z k zO
 ·intro T1 L d t q ⟨out,E,G,I,hval,U⟩;simp only [U4,hl] at d;have w1:=q.wf;have ah:=q.le;have t5:ad T1 5=.own (H.next+6) 0 N N 1 true:=(t.at_ 5 zU).trans (zV (aE hl n f));rw [Vt (Vc _)] at hval;have ho:=(iX (H0:=H) (ex:=true) E zO G).sl;refine zW (aw d t5) ?_;refine AnsH.use (FZ C zF (ho.mono (Sub.bump L _)) zO) ?_;rintro v H2 ⟨h2,e⟩;obtain ⟨k2,_,_⟩:=zT H zK e;rw [dR I,hval] at h2;refine zW d ?_;exact ⟨h2,zK⟩
end
def AU {n m:Nat} (h:n<=m):(ag n).length<=(ag m).length:=br (Wc h (ii m))
def Sm.mono {n m:Nat} (h:n<=m) (hm:Sm m):Sm n:=Wc (AU h) hm
def ng:∀ (k n:Nat),(ag n).drop k=ag (n / B^k)
 | 0,n=>by simp
 | k+1,n=>by
  by_cases h:n=0
  ·subst h; simp [ca]
  ·rw [jv h,Z4,ng k,V2,VG,Vw B]
def qI:∀ (k n:Nat),val ((ag n).take k)=n % B^k
 | 0,n=>by simp [val,Nat.mod_one]
 | k+1,n=>by
  by_cases h:n=0
  ·subst h; simp [ca,val]
  ·rw [jv h,Z3,val,qI k,VG,Vw (B^k),Nat.mod_mul]
def F9 {n:Nat} (h:n≠0) (k:Nat):List.replicate k 0++ag n=ag (n*B^k):=by
 have hne:ag n≠[]:=fun h1=>h (limbs_nil.1 h1);rw [<- sK (l:=List.replicate k 0++ag n) ((Lim.replicate k).append (aL n)) ?_,px,gw,bB,Xy,VN,Vw];unfold E3;rw [List.getLast?_append];have hn:=dO n;unfold E3 at hn;cases hg:(ag n).getLast? with
 | none=>exact absurd (List.getLast?_eq_none_iff.1 hg) hne
 | some a=>rw [hg] at hn; simpa using hn
section
variable {tab:Nat->Option az} {H:Heap} {s:AV}
def dM (H:Heap):bA H .nilSl 0:=by
 show y8 bp ae H .nilSl (ag 0);rw [ca]; exact SlV.nil _ _ _
def nX (ls:List Nat) {j:Nat} (hj:j<ls.length):(ls.take (j+1)).sum=(ls.take j).sum+ls[j]:=by
 rw [Ve hj,List.sum_append]; simp only [Yg,List.sum_nil,WM]
def x9 (ls:List Nat):∀ j,(ls.take j).sum<=ls.sum:=fun j=>by
 conv=>rhs; rw [<- ZN j ls,List.sum_append]
 omega
def Ei (C:Code tab) (y:Wf H) {ls:List Nat} {ty:Nat} (hs:y8 (tx (bz bp) ae) ty H s (ls.map ag)) (x:ls.length<4611686018427387904) (w:Sm ls.sum) :
  Ans tab (.fn xo [s]) H fun v H'=>bA H' v ls.sum/\Kp H H':=by
 refine cY C.q166 zU fun T hl d=>?_;have l:=hs.lenV;rw [Vh] at l;refine zW (aE hl d l) ?_;refine aq H [2] (fun j vs H'=>∃ v,vs=[v]/\bA H' v (ls.take j).sum) (a:=0) (N:=ls.length) rfl (by refine zW (aw hl d) ?_; rfl) (zV (aw hl d)) (Vk _) zO (by simp only [U4,hl]; rfl) rfl (fun _ _ _ _ h=>h) zK ⟨.nilSl,by exact zV (aw hl d),dM _⟩ ?_ ?_
 ·rintro j T1 g _ hj b p m e ⟨v,f,hn⟩;simp only [Vb,Vf,Vd,and_true] at f;simp only [U4,hl] at b;have w1:=e.wf;have z:=e.le;have t5:ad T1 5=s:=(m.at_ 5 zU).trans (zV (aw hl d));obtain ⟨c,n,t⟩:=SlV.at1 (hs.mono e.sub) (i:=j) (a:=ag ls[j]) (by simp [hj]);have q:=SlV.idx1 hs .i64 j (by simpa using hj);have k:Sm (ls.take (j+1)).sum:=w.mono (x9 ls _);rw [nX ls hj] at k;refine zW (dx b t5 p q t f) ?_;refine AnsH.use (JF C zF (hn.mono (zG g)) (SlV.mono (zG g) n) (k.mono zO) (k.mono zO)) ?_;rintro v2 H2 ⟨o,rfl,u,r⟩;obtain ⟨k2,_,_⟩:=zT H zK r;refine zW b ?_;refine ⟨zK,o,rfl,?_⟩;rw [nX ls hj]; exact u
 ·rintro T1 g b m e ⟨v,f,hn⟩;simp only [Vb,Vf,Vd,and_true] at f;simp only [U4,hl] at b;rw [Vt (Vc _)] at hn;refine zW (aw b f) ?_;exact ⟨hn,e⟩
def Ob (C:Code tab) (E:Wf H) {a:AV} {n:Nat} {ls:List Nat} {ty:Nat} (ha:bA H a n) (hs:y8 (tx (bz bp) ae) ty H s (ls.map ag)) (A:ls.length<4611686018427387904) (p:Sm n) (B:ls.sum<=n) :
  Ans tab (.fn uA [a,s]) H fun v H'=>bA H' v (n-ls.sum)/\Kp H H':=by
 refine bk C.q167 zU fun T hl d e=>?_;have l:=hs.lenV;rw [Vh] at l;refine zW (aW hl d e l) ?_;refine aq H [0] (fun j vs H'=>∃ v,vs=[v]/\bA H' v (n-(ls.take j).sum)) (a:=0) (N:=ls.length) rfl (by refine zW (aE hl d e) ?_; rfl) (zV (aE hl d e)) (Vk _) zO (by simp only [U4,hl]; rfl) rfl (fun _ _ _ _ h=>h) zK ⟨a,by exact zV (aw hl d),ha.mono (zG H)⟩ ?_ ?_
 ·rintro j T1 g _ hj b r m k ⟨v,f,hn⟩;simp only [Vb,Vf,Vd,and_true] at f;simp only [U4,hl] at b;have w1:=k.wf;have F:=k.le;have z:ad T1 7=s:=(m.at_ 7 zU).trans (zV (aW hl d e e));obtain ⟨c,q,w⟩:=SlV.at1 (hs.mono k.sub) (i:=j) (a:=ag ls[j]) (by simp [hj]);have t:=SlV.idx1 hs .i64 j (by simpa using hj);have D:=x9 ls (j+1);have y:=nX ls hj;refine zW (dx b z r t w f) ?_;refine AnsH.use (Eg C zF (hn.mono (zG g)) (SlV.mono (zG g) q) (p.mono zO) (p.mono zO)) ?_;rintro v2 H2 ⟨u,hr⟩;rw [if_pos zO] at hr;obtain ⟨o,rfl,x⟩:=hr;obtain ⟨k2,_,_⟩:=zT H zK u;refine zW b ?_;refine ⟨zK,o,rfl,?_⟩;rw [y,<- Nat.sub_sub]; exact x
 ·rintro T1 g b m k ⟨v,f,hn⟩;simp only [Vb,Vf,Vd,and_true] at f;simp only [U4,hl] at b;rw [Vt (Vc _)] at hn;refine zW (aw b f) ?_;exact ⟨hn.mono (Sub.bump g _),zK⟩
def Oa (C:Code tab) (o:Wf H) {a:AV} {n k:Nat} (ha:bA H a n) (m:Sm n) (q:k<4398046511104) :
  Ans tab (.fn AN [a,.int .i64 (k:Int)]) H fun v H'=>bA H' v (n*B^k)/\Kp H H':=by
 refine bk C.q168 zU fun T hl c d=>?_;unfold Sm at m;by_cases h0:n=0
 ·subst h0;have e:lenV a=some (.int .i64 0):=by have:=ha.lenV; rwa [ca] at this
  refine zW (aW hl c d e) ?_;rw [Yz];exact ⟨dM _,zK⟩
 ·have j:¬ ((ag n).length:Int)=0:=by have:=(cm n).2 h0; omega
  have l:∀ H' id,Io H' id ae 1 8 [.int .u64 0] (.int .i64 (k:Int)) (.int .i64 (k:Int))=some (.own id 0 k k 1 true,H'.put id (.cells (aM (List.replicate k 0)) ae true)):=fun H' id =>
   (jg H' id ae 1 8 [.int .u64 0] .i64 .i64 k zO zO rfl).trans (by rw [lB])
  refine zW (dx hl c d ha.lenV j l) ?_;have k1:Kp H ((H.up 9).put (H.next+5) (.cells (aM (List.replicate k 0)) ae true)):=zK;have t:=k1.le;have h:=(iX (H0:=H) (H:=(H.up 9).put (H.next+5) (.cells (aM (List.replicate k 0)) ae true)) (ex:=true) (n:=k) (ap _ _ _) zO (by simp)).sl;have h1:SlV (bz bp) ae ((H.up 9).put (H.next+5) (.cells (aM (List.replicate k 0)) ae true)) (.own (H.next+5) 0 (List.replicate k 0).length (List.replicate k 0).length 1 true) (List.replicate k 0):=by simpa using h
  obtain ⟨p,H2,f,h2,i,r,s,-⟩:=SlV.app (id:=H.next+7) (bytes:=8) h1 k1 (ha.mono k1.sub) zO (by show _<H.next+9; omega) (by rw [aB zO]; exact o.fresh (b:=H.next+7) zO) (by simp; omega) (by simp; omega);have g:cC ((H.up 9).put (H.next+5) (.cells (aM (List.replicate k 0)) ae true)) (H.next+7) 1 8 ae (.own (H.next+5) 0 k k 1 true) a=some (p,H2):=by rw [Xy] at f; exact f
  rw [F9 h0] at h2;refine zW (aW hl c d g) ?_;exact ⟨h2,i⟩
def CK (C:Code tab) (u:Wf H) {a:AV} {n k:Nat} (ha:bA H a n) (s:Sm n) (t:k<4398046511104) :
  Ans tab (.fn rr [a,.int .i64 (k:Int)]) H fun v H'=>∃ p q,v=.tup [p,q]/\bA H' p (n % B^k)/\bA H' q (n / B^k)/\Kp H H':=by
 refine bk C.q165 zU fun T hl b c=>?_;unfold Sm at s;obtain ⟨m,hm⟩:∃ m,m=min k (ag n).length:=⟨_,rfl⟩
 have r:Iq (.int .i64 (k:Int)) (.int .i64 ((ag n).length:Int))=some (.int .i64 (m:Int)):=by rw [zi]; congr 2; split <;> omega
 obtain ⟨p,g,hp⟩:=SlV.clipat ha .i64 .i64 m zO;obtain ⟨q,i,f⟩:=ha.lo .i64 m zO;have d:bQ 1 a none (some (.int .i64 (m:Int))) (some (.int .i64 (m:Int)))=some p:=g;have e:bQ 1 a (some (.int .i64 (m:Int))) none none=some q:=i;have l:(ag n).take m=(ag n).take k:=by
  by_cases h:k<=(ag n).length
  ·rw [hm,VZ h]
  ·rw [hm,YQ zO,Vt (Vc _),Vt zO]
 have j:(ag n).drop m=(ag n).drop k:=by
  by_cases h:k<=(ag n).length
  ·rw [hm,VZ h]
  ·rw [hm,YQ zO,Yc (Vc _),Yc zO]
 refine zW (bO hl b c ha.lenV r) ?_;refine aF ?_;refine zD (bO hl b c d e) ?_;refine AnsH.use (FZ C zF (hp.mono (zG H)) (by rw [Vx]; omega)) ?_;rintro v H2 ⟨h2,o⟩;obtain ⟨k2,_,_⟩:=zT H zK o;rw [dR ((aL n).take m),l,qI] at h2;rw [j,ng] at f;refine zD (bO hl b c d e) ?_;exact ⟨v,q,rfl,h2,f.mono k2.sub,k2⟩
def iA (C:Code tab) (c:Wf H) {a:AV} {n:Nat} (ha:bA H a n) (b:Sm n):Ans tab (.fn nD [a]) H fun v H'=>v=.int .i64 0/\Kp H H':=by
 unfold Sm at b;exact (o0 C c ha zO).mono fun v H' ⟨h1,h2⟩=>⟨by rw [h1,if_neg (dO n)],h2⟩
def F0 (C:Code tab) (z:Wf H) {a b:AV} {x y fi:Nat} {first:List AV} (ha:bA H a x) (hb:bA H b y) (hx:Sm x) (hy:Sm y) {R:Heap->AV->Prop} (w:∀ H' v m,R H' v->R (H'.up m) v)
  (s:∀ H',Kp H H'->Ans tab (.fn fi (first++[a,b])) H' fun v H2=>R H2 v/\Kp H H2) :
  Ans tab (.fn oE [a,b,.fn (.func fi) first []]) H fun v H'=>∃ r,v=.tup [r,.int .i64 0]/\R H' r/\Kp H H':=by
 refine ni C.q156 zU fun T hl d f h=>?_;have B:=ha.one;have D:=hb.one;refine zW (aW hl d f h) ?_;refine aP H [14] (fun k vs H'=>∃ i:Nat,vs=[.int .i64 (i:Int)]/\i+k=2) 2 (by simp only [U4]; exact hl) rfl zK ⟨0,by refine zW (aW hl d f h) ?_; rfl,rfl⟩ ?_;rintro k T1 u g n p ⟨i,o,j⟩;simp only [Vb,Vf,Vd,and_true] at o;have w1:=p.wf;have A:=p.le;have q:ad T1 13=.agg [a,b]:=(n.at_ 13 zU).trans (zV (aE hl d f));have t0:ad T1 0=a:=(n.at_ 0 zU).trans (zV (aw hl d));have t1:ad T1 1=b:=(n.at_ 1 zU).trans (zV (bO hl d f h f));have t:ad T1 2=.fn (.func fi) first []:=(n.at_ 2 zU).trans (zV (bO hl d f h h))
 match i,j with
 | 0,j =>
  have c:ad T1 14=.int .i64 0:=o;have e:IntKind.i64.wrap (0+1)=((1:Nat):Int):=by decide
  refine zW (aE g c q) ?_;refine AnsH.eq (iA C zF (ha.mono (zG H)) hx) fun H2 l=>?_;obtain ⟨k2,_,_⟩:=zT H zK l;refine zW (aE g c e) ?_;exact ⟨zK,k-1,zO,1,rfl,zO⟩
 | 1,j =>
  have c:ad T1 14=.int .i64 1:=o;have e:IntKind.i64.wrap (1+1)=((2:Nat):Int):=by decide
  refine zW (aE g c q) ?_;refine AnsH.eq (iA C zF (hb.mono (zG H)) hy) fun H2 l=>?_;obtain ⟨k2,_,_⟩:=zT H zK l;refine zW (aE g c e) ?_;exact ⟨zK,k-1,zO,2,rfl,zO⟩
 | 2,j =>
  have c:ad T1 14=.int .i64 2:=o;refine zW (bO g c t0 t1 t) ?_;refine AnsH.use (s _ zK) ?_;rintro v H2 ⟨h2,l⟩;refine zW g ?_;exact ⟨v,rfl,h2,l⟩
 | i+3,j=>omega
def Un {H c:Heap} {b ty t1:Nat} {α:Type} {E:fF α} {x y z:AV} {l m n:List α} (hx:SlV E t1 H x l) (hy:SlV E t1 H y m) (d:SlV E t1 H z n) (hs:Sub H c) (hg:c.get b=some (.cells [x,y,z] ty true)):y8 (tx E t1) ty c (.own b 0 3 3 1 true) [l,m,n] :=
 ⟨[x,y,z],Rd.own hg rfl (Vc _),fun _ _ _ _ _ _ e=>by cases e; exact ⟨_,_,hg⟩,rfl,fun i a hi=>by
  match i with
  | 0=>simp at hi; subst hi; exact ⟨x,rfl,hx.mono hs⟩
  | 1=>simp at hi; subst hi; exact ⟨y,rfl,hy.mono hs⟩
  | 2=>simp at hi; subst hi; exact ⟨z,rfl,d.mono hs⟩
  | i+3=>simp at hi⟩
def Ft {x m h:Nat} (hx:x<B^m) (h1:h<=m):x / B^h<B^(m-h):=by
 apply ZT
 rw [<- V4]
 have:h+(m-h)=m:=zO
 rw [this]; exact hx
def Sm.of {n k:Nat} (h:n<B^k) (a:k<1099511627776):Sm n:=Wc (br h) a
def xy {n m:Nat} (h:(ag n).length<=m):n<B^m:=Vu (ii n) (VI zU h)
set_option maxHeartbeats 2000000 in
def Oc (C:Code tab):∀ (M:Nat) {H:Heap} {a b:AV} {x y:Nat},Wf H->bA H a x->bA H b y->max (ag x).length (ag y).length=M->M<274877906944 ->
  Ans tab (.fn iN [.int .i64 8,a,b]) H fun v H'=>bA H' v (x*y)/\Kp H H':=by
 intro M
 induction M using Nat.strongRecOn with
 | _ M Q =>
 intro H a b x y hw ha hb hM a1;refine ni C.q155 zU fun T hl f g i=>?_;obtain ⟨U,a2⟩:∃ U,U=min (ag x).length (ag y).length:=⟨_,rfl⟩
 have aM:Iq (.int .i64 ((ag x).length:Int)) (.int .i64 ((ag y).length:Int))=some (.int .i64 (U:Int)):=by rw [zi]; congr 2; split <;> omega
 have aH:Lz (.int .i64 ((ag x).length:Int)) (.int .i64 ((ag y).length:Int))=some (.int .i64 (M:Int)):=by rw [Ek]; congr 2; split <;> omega
 refine zW (fE hl f g i ha.lenV hb.lenV aM) ?_;refine iteH.split (fun h=>?_) fun h=>?_
 ·refine zW (aW hl f g i) ?_;refine AnsH.use (Im C zF (ha.mono (zG H)) (hb.mono (zG H)) zO zO (aL x) (aL y)) ?_;rintro v H2 ⟨h2,I⟩;obtain ⟨k2,_,_⟩:=zT H zK I;rw [bB,bB] at h2;refine zW (aW hl f g i) ?_;exact ⟨h2,zK⟩
 ·have a0:9<=M:=zO;obtain ⟨k,hk⟩:∃ k,k=(M+1) / 2:=⟨_,rfl⟩
  have aQ:IntKind.i64.wrap ((M:Int)+1)=((M+1:Nat):Int):=by rw [wrap_i64] <;> omega
  have hq:bu .quo .int (.int .i64 ((M+1:Nat):Int)) (.int .i64 2)=some (.int .i64 (k:Int)):=by
   show some (AV.int .i64 (IntKind.i64.wrap (((M+1:Nat):Int).tdiv 2)))=_
   have:((M+1:Nat):Int).tdiv 2=(k:Int):=by rw [Yn zO]; omega
   rw [this,wrap_i64] <;> omega
  have O:x<B^M:=xy zO;have P:y<B^M:=xy zO;have N:M-k<=k/\k<=M/\k+1<M:=zO;have aS:x % B^k<B^k:=VS _ (VY zU);have aT:y % B^k<B^k:=VS _ (VY zU);have a5:x / B^k<B^(M-k):=Ft O N.2.1;have a6:y / B^k<B^(M-k):=Ft P N.2.1;have a3:B^(M-k)<=B^k:=VI zU N.1;have a4:2*B^k<=B^(k+1):=by rw [VG,Vw]; exact WS _ zU
  have Z:x=x / B^k*B^k+x % B^k:=(Ys x (B^k)).symm;have aa:y=y / B^k*B^k+y % B^k:=(Ys y (B^k)).symm;have aR:IntKind.i64.wrap (2*(k:Int))=((2*k:Nat):Int):=by rw [wrap_i64] <;> omega
  have aO:Sm x:=Sm.of O zO;have aP:Sm y:=Sm.of P zO;have aN:x*y<B^(M+M):=by rw [V4]; exact ZD O P
  have ai:Sm (x*y):=Sm.of aN zO;refine zW (jB hl f g i ha.lenV hb.lenV aH aQ hq) ?_;refine AnsH.use (CK C zF (ha.mono (zG H)) aO zO) ?_;rintro v H1 ⟨p0,p1,rfl,q,r,aC⟩;obtain ⟨k1,_,w1⟩:=zT H zK aC;refine zW (aW hl f g i) ?_;refine AnsH.use (CK C zF (hb.mono (zG H)) aP zO) ?_;rintro v H2 ⟨q0,q1,rfl,hq0,w,I⟩;obtain ⟨R,_,_⟩:=zT H1 zK I;have k2:Kp H H2:=k1.trans R;have a7:=k2.le;have w2:=k2.wf;have q:=q.mono R.sub;have r:=r.mono R.sub
  generalize x % B^k=d at *
  generalize x / B^k=x1 at *
  generalize y % B^k=e at *
  generalize y / B^k=y1 at *
  have bc:(ag d).length<=k:=br aS;have bf:(ag e).length<=k:=br aT;have bd:(ag x1).length<=k:=br zO;have bg:(ag y1).length<=k:=br zO;refine zW (aW hl f g i) ?_;refine AnsH.use (Q _ zO zF (q.mono (zG H2)) (hq0.mono (zG H2)) rfl zO) ?_;rintro r0 H3 ⟨m,aE⟩;obtain ⟨k23,_,w3⟩:=zT H2 zK aE;refine zW (aW hl f g i) ?_;refine AnsH.use (Q _ zO zF (r.mono (zG H2)) (w.mono (zG H2)) rfl zO) ?_;rintro r1 j ⟨s,aF⟩;obtain ⟨S,_,_⟩:=zT H3 zK aF;have u:Kp H2 j:=k23.trans S;have a8:=u.le;have w4:=S.wf;have m:=m.mono S.sub;have q:=q.mono u.sub;have r:=r.mono u.sub;have hq0:=hq0.mono u.sub;have w:=w.mono u.sub;have bj:=q.one;have bk:=r.one;have aX:=hq0.one;have bm:=w.one;have bn:=m.one;have bo:=s.one;refine zW (aW hl f g i) ?_;refine AnsH.use (Ei C (ls:=[d,x1]) zF (Cc q r (zG j) (by refine wO ?_; rfl)) (by simp) (Sm.of (k:=k+1) (by simp; omega) zO)) ?_;rintro sx o ⟨ah,J⟩;obtain ⟨ao,_,w5⟩:=zT j zK J;have n5:j.next+15<=o.next:=J.le
  have Y:∀ c,c<15->c≠3->o.get (j.next+c)=none:=fun c hc h3=>J.free (show _<j.next+15 by omega) (by rw [aB zO]; exact w4.fresh (b:=j.next+c) zO);have bl:=aX;refine zW (aW hl f g i) ?_;have s5:Sub o (o.put (j.next+7) (.cells [q0,q1] aK true)):=aV (Y 7 zO zO);refine AnsH.use (Ei C (ls:=[e,y1]) zF (Cc (hq0.mono ao.sub) (w.mono ao.sub) s5 (by refine wO ?_; rfl)) (by simp) (Sm.of (k:=k+1) (by simp; omega) zO)) ?_;rintro sy z ⟨aj,D⟩;obtain ⟨ap,_,_⟩:=zT j zK D;have aY:Sub o z:=s5.trans D.sub;have w6:=ap.wf;have n6:o.next<=z.next:=D.le
  have f6:z.get (j.next+12)=none:=D.free (show _<o.next by omega) (by rw [aB zO]; exact Y 12 zO zO);have ax:[d,x1].sum=d+x1:=by simp
  have ay:[e,y1].sum=e+y1:=by simp
  rw [ax] at ah;rw [ay] at aj;have ba:(ag (d+x1)).length<=k+1:=br zO;have bb:(ag (e+y1)).length<=k+1:=br zO;refine zW (aW hl f g i) ?_;refine AnsH.use (Q _ zO zF (ah.mono aY) aj rfl zO) ?_;rintro m0 t ⟨ad,K⟩;have E:Kp j t:=ap.trans K;have a9:=E.le;have w7:=E.wf;have n7:z.next<=t.next:=K.le
  have f7:t.get (j.next+12)=none:=K.free zO f6;have bi:=ad.one;have m:=m.mono E.sub;have s:=s.mono E.sub;have e1:(d+x1)*(e+y1)=d*e+x1*y1+(d*y1+x1*e):=by grind
  have aG:x1*y1<=x*y:=by
   rw [Z,aa];exact WA (by have:=VY (n:=k) (show 0<B by decide); have:=ZE x1 this; omega) (by have:=VY (n:=k) (show 0<B by decide); have:=ZE y1 this; omega)
  have aJ:(d+x1)*(e+y1)<B^((k+1)+(k+1)):=by rw [V4]; exact ZD zO zO
  have af:Sm ((d+x1)*(e+y1)):=Sm.of aJ zO;refine zW (aW hl f g i) ?_;have V:Sub t (t.put (j.next+12) (.cells [r0,r1] aK true)):=aV f7;refine AnsH.use (Ob C (ls:=[d*e,x1*y1]) zF (ad.mono V) (Cc m s V (by refine wO ?_; rfl)) (by simp) af (by simp; omega)) ?_;rintro md l ⟨ae,ab⟩;obtain ⟨aq,_,_⟩:=zT j zK ab;have aw:Sub t l:=V.trans ab.sub;have w8:=aq.wf;have em:(d+x1)*(e+y1)-[d*e,x1*y1].sum=d*y1+x1*e:=by rw [e1]; simp only [Yg,List.sum_nil,WM]; omega
  rw [em] at ae;have m:=m.mono aw;have s:=s.mono aw;refine zW (aW hl f g i) ?_;refine AnsH.use (Oa C (k:=k) zF (ae.mono (zG l)) (af.mono zO) zO) ?_;rintro u1 G ⟨al,L⟩;obtain ⟨ar,_,w9⟩:=zT l zK L;have n9:l.next+11<=G.next:=L.le
  have f9:G.get (l.next+8)=none:=L.free (show _<l.next+11 by omega) (w8.fresh (b:=l.next+8) zO);refine zW (bO hl f g i aR) ?_;refine AnsH.use (Oa C (k:=2*k) zF (s.mono ar.sub) (ai.mono aG) zO) ?_;rintro u2 F ⟨am,A⟩;have av:Kp l F:=ar.trans A;have bs:=av.wf;have bh:G.next<=F.next:=A.le
  have aA:F.get (l.next+8)=none:=A.free zO f9;have bp:=al.one;have bq:=am.one;have X:[d*e,(d*y1+x1*e)*B^k,x1*y1*B^(2*k)].sum=x*y:=by
   have e2:B^(2*k)=B^k*B^k:=by rw [Nat.two_mul,V4]
   rw [e2]
   conv=>rhs; rw [Z,aa]
   simp only [Yg,List.sum_nil,WM]
   generalize B^k=p
   grind
  refine zW (aW hl f g i) ?_;refine AnsH.use (Ei C (ls:=[d*e,(d*y1+x1*e)*B^k,x1*y1*B^(2*k)]) zF (Un (m.mono av.sub) (al.mono A.sub) am (aV aA) (by refine wO ?_; rfl)) (by simp) (by rw [X]; exact ai)) ?_;rintro v W ⟨hv,aD⟩;rw [X] at hv;have aU:Kp l W:=Kp.trans zK aD;have kf:Kp H W:=((k2.trans u).trans aq).trans aU;refine zW (aW hl f g i) ?_;exact ⟨hv,kf⟩
def Qz (C:Code tab) (i:Wf H) {a b:AV} {x y:Nat} (ha:bA H a x) (hb:bA H b y) (hx:(ag x).length<274877906944) (hy:(ag y).length<274877906944) :
  Ans tab (.fn xp [a,b]) H fun v H'=>∃ r,v=.tup [r,.int .i64 0]/\bA H' r (x*y)/\Kp H H':=by
 refine bk C.q141 zU fun T hl e f=>?_;refine zW (aE hl e f) ?_;refine AnsH.use (F0 C (R:=fun H' v=>bA H' v (x*y)) zF (ha.mono (zG H)) (hb.mono (zG H)) (by unfold Sm; omega) (by unfold Sm; omega) (fun H' v m h=>h.mono (Sub.bump H' m)) fun g c=>?_) ?_
 ·have k1:Kp H g:=Kp.trans zK c;refine (Oc C _ c.wf (ha.mono k1.sub) (hb.mono k1.sub) rfl zO).mono ?_;rintro v H2 ⟨h2,d⟩;exact ⟨h2,c.trans d⟩
 ·rintro v H2 ⟨r,rfl,hr,d⟩;obtain ⟨k2,_,_⟩:=zT H zK d;refine zW (aE hl e f) ?_;exact ⟨r,rfl,hr,zK⟩
def KF (C:Code tab) (B:Wf H) {a b:AV} {x y:Int} (ha:IntV H a x) (hb:IntV H b y) (hx:(ag x.natAbs).length<274877906944) (hy:(ag y.natAbs).length<274877906944):Ans tab (.fn rf [a,b]) H fun v H'=>∃ r,v=.tup [r,.int .i64 0]/\IntV H' r (x*y)/\Kp H H':=by
 obtain ⟨p,rfl,hp⟩:=ha;obtain ⟨q,rfl,i⟩:=hb;have op:=hp.one;have G:=i.one;refine bk C.q117 zU fun T hl c d=>?_;refine zW (aE hl c d) ?_;refine AnsH.eq (iw C zF (F7 (x:=x) (y:=y) (H:=H) hp i (zG H) (by refine wO ?_; rfl)) (by simp) fun z l=>?_) fun H2 f=>?_
 ·simp at l; unfold fq Sm; rcases l with rfl | rfl <;> omega
 obtain ⟨k2,_,I⟩:=zT H zK f;have b0:=f.get (b:=H.next) (e:=.cells [.bool (decide (x<0)),p] aa true) (cy);have k:=f.get (b:=H.next+1) (e:=.cells [.bool (decide (y<0)),q] aa true) (cy);have o:=f.get (b:=H.next+2) (e:=.cells [.bool false,.nilSl] aa true) (cy);refine zW (bO hl c d @b0 k) ?_;refine AnsH.use (Qz C zF (hp.mono (zG H)) (i.mono (zG H)) hx hy) ?_;rintro v j ⟨r,rfl,hr,g⟩;obtain ⟨D,_,J⟩:=zT H zK g;have s:=g.get (b:=H.next) b0;have t:=g.get (b:=H.next+1) k;have u:=g.get (b:=H.next+2) o;refine zW (bO hl c d s @t) ?_;refine AnsH.use (fK C zF (hr.mono (zG j)) _) ?_;rintro v4 A ⟨rfl,h⟩;obtain ⟨w,_,_⟩:=zT H zK h;have F:=hr.one;have d2:=h.get (b:=H.next+2) u;have E:=w.wf _ _ d2;refine zW (aW hl c d d2) ?_;refine ⟨_,rfl,?_,zK⟩;have hm:=pb (!(decide (x<0) == decide (y<0))) ((hr.mono (Kp.sub (H:=j) (Kp.trans zK h))).monoT (SubT.put_ty (e:=.cells [.bool (!(decide (x<0) == decide (y<0)) && decide (0<(ag (x.natAbs*y.natAbs)).length)),r] aa true) d2 zU));have e:(if (!(decide (x<0) == decide (y<0)))=true then -((x.natAbs*y.natAbs:Nat):Int) else ((x.natAbs*y.natAbs:Nat):Int))=x*y:=by
  rw [Int.natCast_mul];have m:(x.natAbs:Int)=if x<0 then -x else x:=by split <;> omega
  have n:(y.natAbs:Int)=if y<0 then -y else y:=by split <;> omega
  rw [m,n];by_cases h1:x<0 <;> by_cases h2:y<0 <;> simp [h1,h2,Zt,Int.mul_neg]
 rw [e] at hm;exact hm
def KG (C:Code tab) (i:Wf H) {a b:AV} {x y:Int} (ha:IntV H a x) (hb:IntV H b y) (hx:fq x) (hy:fq y):Ans tab (.fn rg [a,b]) H fun v H'=>v=.tup [.int .i64 (iu (x-y)),.int .i64 0]/\Kp H H':=by
 obtain ⟨p,rfl,hp⟩:=ha;obtain ⟨q,rfl,g⟩:=hb;have op:=hp.one;have m:=g.one;refine bk C.q154 zU fun T hl c d=>?_;refine zW (aE hl c d) ?_;refine AnsH.use (KE C zF ⟨p,rfl,hp.mono (zG H)⟩ ⟨q,rfl,g.mono (zG H)⟩ hx hy) ?_;rintro v H2 ⟨r,rfl,⟨w,rfl,hr⟩,e⟩;obtain ⟨k2,_,o⟩:=zT H zK e;have n:=hr.one;have l:H.next+13<=H2.next:=e.le
 have f:H2.get (H.next+10)=none:=e.free (show _<H.next+13 by omega) (by rw [aB zO,aB zO]; exact i.fresh (b:=H.next+10) zO);refine zW (aE hl c d) ?_;have s2:Sub H2 ((H2.put (H.next+10) (.cells [.bool false,.nilSl] aa true)).put (H.next+10) (.cells [.bool (decide (x-y<0)),w] aa true)):=(aV f).put f _;refine AnsH.eq (zA C (x:=x-y) zF ⟨w,rfl,hr.mono s2⟩) fun j h=>?_;obtain ⟨k,_,_⟩:=zT H zK h;refine zW (aE hl c d) ?_;exact zK
def oN (C:Code tab) (r:Wf H) {n:Int} (h1 : -9223372036854775808<=n) (h2:n<9223372036854775808):Ans tab (.fn uv [.int .i64 n]) H fun v H'=>IntV H' v n/\Kp H H':=by
 refine cY C.q34 zU fun T hl d=>?_;refine zW (aw hl d) ?_;have fin:∀ (a:Heap) (g:Kp H a) (bb:Bool) (o:AV) (m:Nat) (z:Int),a.get H.next=some (.cells [.bool false,.nilSl] aa true)->Lb a o (ag m)->(if bb then -(m:Int) else m)=z ->
   IntV (a.put H.next (.cells [.bool (bb && decide (0<(ag m).length)),o] aa true)) (.agg [.bool (bb && decide (0<(ag m).length)),o]) z/\Kp H (a.put H.next (.cells [.bool (bb && decide (0<(ag m).length)),o] aa true)):=by
  intro a g bb o m z d1 j l;have s:=g.wf _ _ d1;refine ⟨?_,zK⟩;rw [<- l];exact pb bb (j.monoT (SubT.put_ty d1 zU))
 have key:∀ (c:Bool) (k:Nat),0<=k->True:=fun _ _ _=>trivial;refine iteH.split (fun h=>?_) fun h=>?_
 ·have e:IntKind.u64.wrap (0-IntKind.u64.wrap n)=((n.natAbs:Nat):Int):=by rw [lq,lq]; omega
  refine zW (aE hl d e) ?_;refine AnsH.use (Ij C zF (n:=n.natAbs) (by unfold B; omega)) ?_;rintro v H2 ⟨hn,-,i⟩;obtain ⟨k2,_,q⟩:=zT H zK i;have b0:=i.get (b:=H.next) (e:=.cells [.bool false,.nilSl] aa true) (cy);have p:=hn.one;refine zW (aw hl d) ?_;refine AnsH.use (fK C zF (hn.mono (zG H2)) true) ?_;rintro v3 a ⟨rfl,f⟩;obtain ⟨g,_,_⟩:=zT H zK f;have d1:=f.get (b:=H.next) b0
  have:=fin a g true v n.natAbs n d1 (hn.mono (Kp.sub (H:=H2) (Kp.trans zK f))) (by simp; omega)
  simp only [Bool.true_and] at this;refine zW (aE hl d d1) ?_;exact this
 ·have e:IntKind.u64.wrap n=((n.natAbs:Nat):Int):=by rw [lq]; omega
  refine zW (aE hl d e) ?_;refine AnsH.use (Ij C zF (n:=n.natAbs) (by unfold B; omega)) ?_;rintro v H2 ⟨hn,-,i⟩;obtain ⟨k2,_,q⟩:=zT H zK i;have b0:=i.get (b:=H.next) (e:=.cells [.bool false,.nilSl] aa true) (cy);have p:=hn.one;refine zW (aw hl d) ?_;refine AnsH.use (fK C zF (hn.mono (zG H2)) false) ?_;rintro v3 a ⟨rfl,f⟩;obtain ⟨g,_,_⟩:=zT H zK f;have d1:=f.get (b:=H.next) b0
  have:=fin a g false v n.natAbs n d1 (hn.mono (Kp.sub (H:=H2) (Kp.trans zK f))) (by simp; omega)
  simp only [ZU] at this;refine zW (aE hl d d1) ?_;exact this
end
def wK {a b:Nat} (ha:a<18446744073709551616) (hb:b<18446744073709551616):bu .or .int (.int .u64 (a:Int)) (.int .u64 (b:Int))=some (.int .u64 ((a ||| b:Nat):Int)):=by
 have h1:(BitVec.ofInt 64 (a:Int)).toNat=a:=by
  have:(BitVec.ofInt 64 (a:Int)).toNat=a % 2^64:=by simp
  rw [this]; omega
 have h2:(BitVec.ofInt 64 (b:Int)).toNat=b:=by
  have:(BitVec.ofInt 64 (b:Int)).toNat=b % 2^64:=by simp
  rw [this]; omega
 have e:(BitVec.ofInt 64 (a:Int) ||| BitVec.ofInt 64 (b:Int)).toNat=a ||| b:=by rw [BitVec.toNat_or,h1,h2]
 have hlt:a ||| b<2^64:=Zu zO zO
 show some (AV.int .u64 (IntKind.u64.wrap ((BitVec.ofInt 64 (a:Int) ||| BitVec.ofInt 64 (b:Int)).toNat:Nat)))=_;rw [e,gQ zO zO]
def BV {r:Nat} (hr:r<64) {k:IntKind}:bu .shl .int (.int .u64 1) (.int k (r:Int))=some (.int .u64 ((2^r:Nat):Int)):=by
 show lU .shl .u64 1 (r:Int)=_;unfold lU;rw [if_neg zO];have h1:Nat.min (r:Int).toNat IntKind.u64.bits=r:=by
  have:IntKind.u64.bits=64:=rfl
  rw [this,WN]; exact VZ zO
 have hlt:(2:Nat)^r<2^64:=Yo zO hr;have e:(1:Int)*2^r=((2^r:Nat):Int):=by simp
 simp only [h1,e]
 generalize (2:Nat)^r=p at hlt ⊢
 rw [gQ zO zO]
def Ec {a b r:Nat} (ha:a<2^r):a ||| (2^r*b)=a+2^r*b:=by
 rw [Nat.or_comm,<- Nat.two_pow_add_eq_or_of_lt ha,XO]
section
variable {tab:Nat->Option az} {H:Heap} {s:AV}
def CJ (C:Code tab) (h:Wf H) {a:AV} {x k:Nat} (ha:bA H a x) (hx:Sm x) (g:k<=65536) :
  Ans tab (.fn rq [a,.int .i64 (k:Int)]) H fun v H'=>v=.int .i64 0/\Kp H H':=by
 refine bk C.q192 zU fun T hl b c=>?_;refine zW (aE hl b c) ?_;refine AnsH.eq (iA C zF (ha.mono (zG H)) hx) fun H2 f=>?_;obtain ⟨k2,_,_⟩:=zT H zK f;have d:decide ((k:Int)<0)=false:=by simp
 have e:decide ((65536:Int)<(k:Int))=false:=by simp; omega
 refine zW (bO hl b c d e) ?_;exact zK
def CD {k c:Nat} (hc:0<c) (b:k<4611686018427387904):bu .quo .int (.int .i64 (k:Int)) (.int .i64 (c:Int))=some (.int .i64 ((k / c:Nat):Int)):=by
 show (if (c:Int)=0 then none else some (AV.int .i64 (IntKind.i64.wrap ((k:Int).tdiv (c:Int)))))=_;have a:k / c<=k:=Xv _ _;rw [if_neg zO,Yn zO,<- Int.natCast_ediv]
 generalize k / c=d at a ⊢
 rw [wrap_i64 zO zO]
def CC {k c:Nat} (hc:0<c):bu .rem .int (.int .i64 (k:Int)) (.int .i64 (c:Int))=some (.int .i64 ((k % c:Nat):Int)):=by
 show (if (c:Int)=0 then none else some (AV.int .i64 ((k:Int).tmod (c:Int))))=_;rw [if_neg zO,Zh zO,<- Int.natCast_emod]
def HL {x r:Nat} (hr:r<64):x*2^r % B=2^r*(x % 2^(64-r)):=by
 have a:B=2^r*2^(64-r):=by
  rw [<- V4]; have:r+(64-r)=64:=zO;rw [this]
 rw [a,Vw x,ZV]
def Sh {x r:Nat} (hx:x<B):x*2^r / B<2^r:=by
 rw [VD zU,Vw];exact Nat.mul_lt_mul_of_pos_left hx (VY zU)
def sv (l:List Nat):∃ E,l=dS l++E:=by
 refine ⟨(l.reverse.takeWhile (· == 0)).reverse,?_⟩;have h:=List.takeWhile_append_dropWhile (p:=(· == 0)) (l:=l.reverse);have h2:=congrArg List.reverse h;rw [List.reverse_append,List.reverse_reverse] at h2;exact h2.symm
def NW (b off n c sz:Nat) (x:Bool) (k j:IntKind) (a:n<=c):bQ sz (.own b off n c sz x) none (some (.int k (n:Int))) (some (.int j (n:Int)))=some (.own b off n n sz true):=by
 show bS sz (.own b off n c sz x) none (some (.int k (n:Int))) (some (.int j (n:Int)))=_;simp only [bS,gq,ne_eq,not_true_eq_false,if_false,U8,Wy,Xa,W0];rw [if_pos ⟨a,Vc _,Vk _⟩];split
 ·rename_i h; subst h; rfl
 ·simp
def Ie (b off n c sz m:Nat) (x:Bool) (k:IntKind) (h:m<=c):bQ sz (.own b off n c sz x) none (some (.int k (m:Int))) none=some (.own b off m c sz x):=by
 show bS sz (.own b off n c sz x) none (some (.int k (m:Int))) none=_;simp only [bS,gq,ne_eq,not_true_eq_false,if_false,U8,Wy,Xa,WZ,W0,WK];rw [if_pos ⟨h,Vk _⟩]
 simp
def By {H:Heap} {cells:List AV} {l:List Nat} (h:Cells (bz bp) H cells l):cells=aM l:=by
 have hl:cells.length=l.length:=by have:=h.1; simpa [bz] using this
 apply WO
 intro i;by_cases hi:i<l.length
 ·obtain ⟨v,e,rfl⟩:=h.2 i _ (U7 hi);have a:cells[i]? = some (.int .u64 (l[i]:Nat)):=by
   have:=congrArg (fun x=>x[0]?) e
   simpa [bz,Vy] using this
  rw [a];simp [aM,hi]
 ·rw [VM zO,VM (by rw [pd]; omega)]
def wU (C:Code tab) (j:Wf H) {l:List Nat} (hs:Lb H s l) (m:l.length<1099511627776):Ans tab (.fn cE [s]) H fun v H'=>Lb H' v l/\Kp H H'/\(0<l.length->∃ b,v=.own b 0 l.length l.length 1 false/\H'.get b=some (.cells (aM l) ae true)/\H.next<=b):=by
 refine cY C.q153 zU fun T hl a=>?_;rcases hs.nilcase with ⟨rfl,rfl⟩ | hne
 ·have e:bu .eql .sl .nilSl .nilSl=some (.bool true):=rfl;refine zW (aE hl a e) ?_;exact ⟨SlV.nil _ _ _,zK,fun h=>by simp at h⟩
 ·have f:cZ ([]:List AV) []=some []:=rfl;refine zW (aW hl a hne f) ?_;have k1:Kp H ((H.up 7).put (H.next+3) (.cells [] ae true)):=zK;have p:=k1.le;have h0:SlV (bz bp) ae ((H.up 7).put (H.next+3) (.cells [] ae true)) (.own (H.next+3) 0 0 0 1 true) ([]:List Nat) :=
   (show Own (bz bp) ae H _ (H.next+3) true _ [] from ⟨_,rfl,ap _ _ _,Cells.nil _ _,zO⟩).sl
  obtain ⟨k,H2,c,h2,g,n,o,i⟩:=SlV.app (l:=[]) (id:=H.next+5) (bytes:=8) h0 k1 (hs.mono k1.sub) zO (by show _<H.next+7; omega) (by rw [aB zO]; exact j.fresh (b:=H.next+5) zO) (by simp; omega) (by simp; omega);have d:cC ((H.up 7).put (H.next+3) (.cells [] ae true)) (H.next+5) 1 8 ae (.own (H.next+3) 0 0 0 1 true) s=some (k,H2):=c;refine zW (aE hl a d) ?_;refine ⟨h2,g,fun h=>?_⟩;obtain ⟨cells,q1,q2,q3,q4⟩:=i h;rw [Xt] at q1 q3;rw [By q3] at q2;exact ⟨_,q1,q2,q4⟩
def jd (C:Code tab) (f:Wf H) {b n c:Nat} {x:Bool} (d:n<=c):Ans tab (.fn cG [.own b 0 n c 1 x]) H fun v H'=>v=.own b 0 n n 1 true/\Kp H H':=by
 refine cY C.q106 zU fun T hl a=>?_;have e:=NW b 0 n c 1 x .i64 .i64 d;refine zW (aE hl a e) ?_;exact zK
def Ef (C:Code tab) (D:Wf H) {l:List Nat} {b N:Nat} {rw' x:Bool} (n:l.length=N) (hb:H.get b=some (.cells (aM l) ae rw')) (A:N<4611686018427387904) :
  Ans tab (.fn pM [.own b 0 N N 1 x]) H fun v H'=>v=.own b 0 (dS l).length (dS l).length 1 true/\Kp H H':=by
 refine cY C.q77 zU fun T hl i=>?_;refine zW (aw hl i) ?_;refine aP H [0] (fun k vs H'=>vs=[.own b 0 k N 1 x]/\dS (l.take k)=dS l/\k<=l.length) l.length (by simp only [U4]; exact hl) rfl zK ⟨by exact zV (aE hl i n),by rw [VC],Vc _⟩ ?_;rintro k T1 z d B f ⟨e,g,r⟩;have w1:=f.wf;have E:=f.le;have m:=f.get hb;simp only [Vb,Vf,Vd,and_true] at e;rcases W5 (l.take k) with h0 | ⟨c,a,h0⟩
 ·have s:k=0:=by
   have:=congrArg List.length h0; simp at this
   rcases this with h | h
   ·exact h
   ·subst h; simpa using r
  subst s;refine zW (aE d e @OX) ?_;refine AnsH.eq (jd C zF (Vk _)) fun H2 h2=>?_;have k2:Kp H H2:=Kp.trans zK h2;have y:=k2.le;rw [<- g,h0,wR];refine zW d ?_;exact zK
 ·rw [W6] at h0;have t:k=c.length+1:=by have:=congrArg List.length h0; simp at this; omega
  subst t;have u:l.take c.length=c:=by
   have:=congrArg (List.take c.length) h0
   rw [Xi,VZ zO] at this
   simpa using this
  have q:l.getD c.length 0=a:=by
   have this:(l.take (c.length+1)).getD c.length 0=(c++[a]).getD c.length 0:=by rw [h0]
   rw [U5,Vy,if_pos zO,<- U5] at this;rw [this]; simp [U5]
  have j:IntKind.i64.wrap (((c.length+1:Nat):Int)-1)=(c.length:Int):=by rw [wrap_i64] <;> omega
  have w:0<c.length+1:=zO;have e':=Ie b 0 (c.length+1) N 1 c.length x .i64 zO;refine zW (dx d e w j m q) ?_;refine iteH.split (fun ha=>?_) fun ha=>?_
  ·have p:a=0:=zO;subst p;refine zW (aW d e j e') ?_;refine ⟨zK,c.length,zO,rfl,?_,zO⟩;rw [u,<- g,h0,dy]
  ·have o:a≠0:=zO;refine zW (aw d e) ?_;refine AnsH.eq (jd C zF zO) fun H2 h2=>?_;have k2:Kp H H2:=Kp.trans zK h2;have y:=k2.le;rw [<- g,h0,iy o];refine zW (aw d @List.length_append.{0}) ?_;exact zK
def N8 (C:Code tab) (hw:Wf H) {a:AV} {x k:Nat} (ha:bA H a x) (hx:Sm x) (hk:k<=65536) :
  Ans tab (.fn AL [a,.int .i64 (k:Int)]) H fun v H'=>∃ o,v=.tup [o,.int .i64 0]/\bA H' o (x*2^k)/\Kp H H'/\∃ b E,o=.own b 0 (ag (x*2^k)).length (ag (x*2^k)).length 1 true/\H'.get b=some (.cells (aM (ag (x*2^k)++E)) ae true)/\H.next<=b/\(ag (x*2^k)++E).length=k / 64+(ag x).length+1/\Lim (ag (x*2^k)++E):=by
 refine bk C.q182 zU fun T hl d f=>?_;refine zW (aE hl d f) ?_;refine AnsH.eq (CJ C zF (ha.mono (zG H)) hx hk) fun H2 ah=>?_;obtain ⟨k2,_,w2⟩:=zT H zK ah;have n2:=k2.le;unfold Sm at hx;have X:=CD (k:=k) (c:=64) zO zO;have hr:=CC (k:=k) (c:=64) zO;obtain ⟨q,eq⟩:∃ q,q=k / 64:=⟨_,rfl⟩
 obtain ⟨r,er⟩:∃ r,r=k % 64:=⟨_,rfl⟩
 rw [<- eq] at X;rw [<- er] at hr;have Y:bu .quo .int (.int .i64 (k:Int)) (.int .i64 64)=some (.int .i64 (q:Int)):=X;have am:bu .rem .int (.int .i64 (k:Int)) (.int .i64 64)=some (.int .i64 (r:Int)):=hr;have ao:IntKind.i64.wrap ((q:Int)+((ag x).length:Int))=((q+(ag x).length:Nat):Int):=by rw [wrap_i64] <;> omega
 obtain ⟨N,hN⟩:∃ N,q+(ag x).length+1=N:=⟨_,rfl⟩
 have ap:IntKind.i64.wrap (((q+(ag x).length:Nat):Int)+1)=(N:Int):=by rw [wrap_i64] <;> omega
 have al:∀ H' id,Io H' id ae 1 8 [.int .u64 0] (.int .i64 (N:Int)) (.int .i64 (N:Int))=some (.own id 0 N N 1 true,H'.put id (.cells (aM (List.replicate N 0)) ae true)):=fun H' id =>
  (jg H' id ae 1 8 [.int .u64 0] .i64 .i64 N zO zO rfl).trans (by rw [lB])
 refine zW (jC hl d f ha.lenV Y ao ap al) ?_;have y:r<64:=zO;have ai:k=64*q+r:=zO;have aa:∀ j,(List.replicate N 0).getD j 0=0:=fun j=>by simp [U5,We]; split <;> rfl
 refine aq H [] (fun i vs H'=>∃ out,H'.get (H2.next+8)=some (.cells (aM out) ae true)/\out.length=N/\Lim out/\val out=B^q*2^r*val ((ag x).take i)/\out.getD (q+i) 0<2^r/\∀ j,q+i<j->out.getD j 0=0) (a:=0) (N:=(ag x).length) rfl (by refine zW (aE hl d f) ?_; rfl) (zV (aE hl d f)) (Vk _) zO (by simp only [U4,hl]; rfl) rfl (fun _ _ _ _ h=>h) zK
  ⟨List.replicate N 0,by exact cy,by simp,Lim.replicate N,by rw [gw]; simp [val],by rw [aa]; exact VY zU,fun j _=>aa j⟩ ?_ ?_
 ·rintro i T1 H1 _ hi g Q z t ⟨out,A,D,u,hval,V,hz⟩;simp only [U4,hl] at g;have w1:=t.wf;have ax:=t.le;have F:ad T1 7=.own (H2.next+8) 0 N N 1 true:=(z.at_ 7 zU).trans (zV (aE hl d f));have t1:ad T1 1=.int .i64 (k:Int):=(z.at_ 1 zU).trans (zV (aW hl d f f));have t25:ad T1 25=a:=(z.at_ 25 zU).trans (zV (aw hl d));have af:=SlV.idx1 ha .i64 i hi;have aj:=cW (ha.mono t.sub) hi;have Z:=(aL x).at i;have M:2^r<B:=by unfold B; exact Yo (m:=r) (n:=64) zO y
  have hs:=BV y (k:=.i64);refine zW (jB g F t1 t25 Q af aj am hs) ?_;refine AnsH.use (qf C zF Z M) ?_;rintro v H3 ⟨rfl,R⟩;obtain ⟨k3,_,w3⟩:=zT H zK R;have d6:=R.get (b:=H2.next+8) A;have ay:=k3.wf _ _ d6;have ar:IntKind.i64.wrap ((q:Int)+(i:Int))=((q+i:Nat):Int):=by rw [wrap_i64] <;> omega
  have av:IntKind.i64.wrap (((q+i:Nat):Int)+1)=((q+i+1:Nat):Int):=by rw [wrap_i64] <;> omega
  have W:=wK (a:=out.getD (q+i) 0) (b:=(ag x).getD i 0*2^r % B) (u.at _) (VS _ zU);rw [HL y,Ec V] at W;rw [HL y];refine zW (np g F t1 t25 Q Y ar av d6 W) ?_;have K:=HL (x:=(ag x).getD i 0) y;have P:=Sh (r:=r) Z;have O:=Wh ((ag x).getD i 0*2^r) B;have U:out.getD (q+i) 0+(ag x).getD i 0*2^r % B<B:=by
   rw [K];have L:out.getD (q+i) 0 ||| 2^r*((ag x).getD i 0 % 2^(64-r))<2^64:=Zu (u.at _) (by rw [<- K]; exact VS _ zU)
   rw [Ec V] at L; exact L
  rw [K] at O U
  generalize (ag x).getD i 0*2^r / B=w at *
  have h1:=jD (l:=out) (k:=q+i) (v:=out.getD (q+i) 0+2^r*((ag x).getD i 0 % 2^(64-r))) zO;have h2:=jD (l:=out.set (q+i) (out.getD (q+i) 0+2^r*((ag x).getD i 0 % 2^(64-r)))) (k:=q+i+1) (v:=w) (by simp; omega);rw [bw zO,hz (q+i+1) zO] at h2;refine ⟨zK,_,rfl,by simp [D],lp (lp u U) (Y7 P M),?_,?_,fun j hj=>?_⟩
  ·rw [dl,VV,<- hval];have h3:B^q*2^r*(B^i*(ag x).getD i 0)=B^(q+i)*((ag x).getD i 0*2^r):=by rw [V4]; grind
   rw [h3,<- O,VV];have J:B^(q+i+1)*w=B^(q+i)*(B*w):=by rw [VG,VO]
   rw [VV] at h1;rw [J] at h2;have ab:q+(i+1)=q+i+1:=zO;rw [ab];omega
  ·have:(((out.set (q+i) (out.getD (q+i) 0+2^r*((ag x).getD i 0 % 2^(64-r)))).set (q+(i+1)) w).getD (q+(i+1)) 0)=w:=by
    rw [U5,Xq,if_pos rfl,if_pos (by simp; omega)]; rfl
   rw [this]; exact P
  ·rw [bw zO,bw zO];exact hz j zO
 ·rintro T1 H1 g z t ⟨out,A,D,u,hval,-,-⟩;simp only [U4,hl] at g;have w1:=t.wf;have ax:=t.le;have F:ad T1 7=.own (H2.next+8) 0 N N 1 true:=(z.at_ 7 zU).trans (zV (aE hl d f));rw [Vt (Vc _),bB] at hval;refine zW (aw g F) ?_;refine AnsH.eq (Ef C zF (rw':=true) D (zV @A) zO) fun H4 S=>?_;obtain ⟨k4,_,_⟩:=zT H zK S;have G:=S.get (b:=H2.next+8) (e:=.cells (aM out) ae true) (zV @A);have e:val out=x*2^k:=by
   rw [hval,ai,V4,Xl]
   have:(2:Nat)^64=B:=by decide
   rw [this,Vw]
  have I:=dR u;rw [e] at I;obtain ⟨E,p⟩:=sv out;rw [I] at p;have J:bA H4 (.own (H2.next+8) 0 (ag (x*2^k)).length (ag (x*2^k)).length 1 true) (x*2^k):=by
   refine ⟨aM (ag (x*2^k)),⟨Vc _,(fun s h=>by cases h),_,rfl,?_⟩,fun _ _ _ _ _ _ e=>by cases e; exact ⟨_,_,G⟩,uF _ _⟩;simp only [aQ,G];rw [if_pos ⟨rfl,Vc _,by rw [pd,p]; simp [bz]⟩];rw [p];simp [aM,bz]
  rw [I];refine zW g ?_;exact ⟨_,rfl,J,zK,_,E,rfl,by rw [G,p],zO,by rw [<- p,D,<- hN,eq,Wj],by rw [<- p]; exact u⟩
end
section
variable {tab:Nat->Option az} {H:Heap} {s:AV} {l:List Nat}
def p9 (C:Code tab) (D:Wf H) {l:List Nat} {b N:Nat} {rw' x:Bool} (n:l.length=N) (hb:H.get b=some (.cells (aM l) ae rw')) (A:N<4611686018427387904) :
  Ans tab (.fn uB [.own b 0 N N 1 x]) H fun v H'=>v=.own b 0 (dS l).length (dS l).length 1 true/\Kp H H':=by
 refine cY C.q186 zU fun T hl i=>?_;refine zW (aw hl i) ?_;refine aP H [0] (fun k vs H'=>vs=[.own b 0 k N 1 x]/\dS (l.take k)=dS l/\k<=l.length) l.length (by simp only [U4]; exact hl) rfl zK ⟨by exact zV (aE hl i n),by rw [VC],Vc _⟩ ?_;rintro k T1 z d B f ⟨e,g,r⟩;have w1:=f.wf;have E:=f.le;have m:=f.get hb;simp only [Vb,Vf,Vd,and_true] at e;rcases W5 (l.take k) with h0 | ⟨c,a,h0⟩
 ·have s:k=0:=by
   have:=congrArg List.length h0; simp at this
   rcases this with h | h
   ·exact h
   ·subst h; simpa using r
  subst s;refine zW (aE d e @OX) ?_;refine AnsH.eq (jd C zF (Vk _)) fun H2 h2=>?_;have k2:Kp H H2:=Kp.trans zK h2;have y:=k2.le;rw [<- g,h0,wR];refine zW d ?_;exact zK
 ·rw [W6] at h0;have t:k=c.length+1:=by have:=congrArg List.length h0; simp at this; omega
  subst t;have u:l.take c.length=c:=by
   have:=congrArg (List.take c.length) h0
   rw [Xi,VZ zO] at this
   simpa using this
  have q:l.getD c.length 0=a:=by
   have this:(l.take (c.length+1)).getD c.length 0=(c++[a]).getD c.length 0:=by rw [h0]
   rw [U5,Vy,if_pos zO,<- U5] at this;rw [this]; simp [U5]
  have j:IntKind.i64.wrap (((c.length+1:Nat):Int)-1)=(c.length:Int):=by rw [wrap_i64] <;> omega
  have w:0<c.length+1:=zO;have e':=Ie b 0 (c.length+1) N 1 c.length x .i64 zO;refine zW (dx d e w j m q) ?_;refine iteH.split (fun ha=>?_) fun ha=>?_
  ·have p:a=0:=zO;subst p;refine zW (aW d e j e') ?_;refine ⟨zK,c.length,zO,rfl,?_,zO⟩;rw [u,<- g,h0,dy]
  ·have o:a≠0:=zO;refine zW (aw d e) ?_;refine AnsH.eq (jd C zF zO) fun H2 h2=>?_;have k2:Kp H H2:=Kp.trans zK h2;have y:=k2.le;rw [<- g,h0,iy o];refine zW (aw d @List.length_append.{0}) ?_;exact zK
def Eb {H:Heap} {b:Nat} {l E:List Nat} {rw' x:Bool} (hb:H.get b=some (.cells (aM (l++E)) ae rw')):Lb H (.own b 0 l.length l.length 1 x) l:=by
 refine ⟨aM l,⟨Vc _,(fun s h=>by cases h),_,rfl,?_⟩,fun _ _ _ _ _ _ e=>by cases e; exact ⟨_,_,hb⟩,uF _ _⟩;simp only [aQ,hb];rw [if_pos ⟨rfl,Vc _,by rw [pd]; simp [bz]⟩];simp [aM,bz]
def A9 (C:Code tab) (q:Wf H) {ls:List (List Nat)} {ty:Nat} (hs:y8 (tx (bz bp) ae) ty H s ls) (p:ls.length<4611686018427387904) (hc:∀ c∈ls,c.length<4611686018427387904/\c.getLast? ≠ some 0) :
  Ans tab (.fn oF [s]) H fun v H'=>v=.int .i64 0/\Kp H H':=by
 refine cY C.q173 zU fun T hl d=>?_;refine zW (aE hl d hs.lenV) ?_;refine aq H [] (fun _ _ _=>True) (a:=0) (N:=ls.length) rfl (by refine zW (aw hl d) ?_; rfl) (zV (aw hl d)) (Vk _) zO (by simp only [U4,hl]; rfl) rfl (fun _ _ _ _ h=>h) zK trivial ?_ ?_
 ·intro j T1 i _ hj b l g e _;have w1:=e.wf;have r:=e.le;have o:ad T1 6=s:=(g.at_ 6 zU).trans (zV (aw hl d));obtain ⟨c,k,n⟩:=SlV.at1 (hs.mono e.sub) (U7 hj);have m:=SlV.idx1 hs .i64 j hj;have f:=hc _ (U9 hj);simp only [U4,hl] at b;refine zW (bO b o l m n) ?_;refine AnsH.eq (o0 C zF k f.1) fun H2 h2=>?_;rw [if_neg f.2];refine zW b ?_;have k2:Kp H H2:=Kp.trans zK h2;have t:=k2.le;exact zK
 ·intro T1 i b g e _;simp only [U4,hl] at b;refine zW b ?_;exact zK
end
def Td (v i:AV):Option AV:=aS (fun s=>match s with | .t 0=>v | _=>i) (.indexStr (.t 0) (.t 1))
def dt {tab:Nat->Option az} (ev:Src->AV) (H:Heap) (id:Nat) (Q:AV->Heap->Prop) (x i:Src):mF tab ev H id (.indexStr x i) Q=gV (Td (ev x) (ev i)) (fun v=>Q v H) ():=by
 rw [ck,eH tab ev H id Q (o:=.indexStr x i) (v:=Td (ev x) (ev i)) (fun f a e=>by cases e) (by simp only [aS,Td]) rfl]; rfl
def Jv {a b:Nat} (ha:a<18446744073709551616) (hb:0<b):bu .quo .int (.int .u64 (a:Int)) (.int .u64 (b:Int))=some (.int .u64 ((a / b:Nat):Int)):=by
 show (if (b:Int)=0 then none else some (AV.int .u64 (IntKind.u64.wrap ((a:Int).tdiv (b:Int)))))=_;have c:a / b<=a:=Xv _ _;rw [if_neg zO,Yn zO,<- Int.natCast_ediv]
 generalize a / b=d at c ⊢
 rw [gQ zO zO]
def NU {a b:Nat} (hb:0<b):bu .rem .int (.int .u64 (a:Int)) (.int .u64 (b:Int))=some (.int .u64 ((a % b:Nat):Int)):=by
 show (if (b:Int)=0 then none else some (AV.int .u64 ((a:Int).tmod (b:Int))))=_;rw [if_neg zO,Zh zO,<- Int.natCast_emod]
def sV {x r:Nat} (hr:r<=64) {k:IntKind}:bu .shl .int (.int .u64 (x:Int)) (.int k (r:Int))=some (.int .u64 ((x*2^r % B:Nat):Int)):=by
 show lU .shl .u64 (x:Int) (r:Int)=_;unfold lU;rw [if_neg zO];have h1:Nat.min (r:Int).toNat IntKind.u64.bits=r:=by
  have:IntKind.u64.bits=64:=rfl
  rw [this,WN]; exact VZ hr
 have e:(x:Int)*2^r=((x*2^r:Nat):Int):=by simp
 simp only [h1,e];rw [lq];rfl
def uO {a b:Nat} (hb:b<=64) {k:IntKind}:bu .shr .int (.int .u64 (a:Int)) (.int k (b:Int))=some (.int .u64 ((a / 2^b:Nat):Int)):=by
 show lU .shr .u64 (a:Int) (b:Int)=_;unfold lU;rw [if_neg zO];have h1:Nat.min (b:Int).toNat IntKind.u64.bits=b:=by
  have:IntKind.u64.bits=64:=rfl
  rw [this,WN]; exact VZ hb
 simp only [h1];congr 2;rw [Ze _ (Xc (Int.pow_pos zO))]
 simp
def qN (a:Nat):bu .shr .int (.int .u64 (a:Int)) (.int .u64 16)=some (.int .u64 ((a / 65536:Nat):Int)):=sU a 16 zO
def Ak (a:Nat):bu .shr .int (.int .u64 (a:Int)) (.int .u64 8)=some (.int .u64 ((a / 256:Nat):Int)):=sU a 8 zO
def TG:AV:=.str ⟨#[0,1,2,2,3,3,3,3,4,4,4,4,4,4,4,4,5,5,5,5,5,5,5,5,5,5,5,5,5,5,5,5,6,6,6,6,6,6,6,6,6,6,6,6,6,6,6,6,6,6,6,6,6,6,6,6,6,6,6,6,6,6,6,6,7,7,7,7,7,7,7,7,7,7,7,7,7,7,7,7,7,7,7,7,7,7,7,7,7,7,7,7,7,7,7,7,7,7,7,7,7,7,7,7,7,7,7,7,7,7,7,7,7,7,7,7,7,7,7,7,7,7,7,7,7,7,7,7,8,8,8,8,8,8,8,8,8,8,8,8,8,8,8,8,8,8,8,8,8,8,8,8,8,8,8,8,8,8,8,8,8,8,8,8,8,8,8,8,8,8,8,8,8,8,8,8,8,8,8,8,8,8,8,8,8,8,8,8,8,8,8,8,8,8,8,8,8,8,8,8,8,8,8,8,8,8,8,8,8,8,8,8,8,8,8,8,8,8,8,8,8,8,8,8,8,8,8,8,8,8,8,8,8,8,8,8,8,8,8,8,8,8,8,8,8,8,8,8,8,8,8,8,8,8,8,8]⟩
def On (x:Nat):Bool:=match Td TG (.int .u8 (x:Int)) with
 | some (.int .u8 z)=>decide (0<=z/\z.toNat<=8/\x<2^z.toNat/\(x=0\/(1<=z.toNat/\2^(z.toNat-1)<=x)))
 | _=>false
theorem Oo:(List.range 256).all On=true:=by kernel_rfl
def LI {x:Nat} (hx:x<256):∃ L:Nat,Td TG (.int .u8 (x:Int))=some (.int .u8 (L:Int))/\L<=8/\x<2^L/\(x=0\/(1<=L/\2^(L-1)<=x)):=by
 have h:=VA.1 Oo x (Wo.2 hx);unfold On at h;split at h
 ·rename_i z e;simp only [decide_eq_true_eq] at h;obtain ⟨h0,h1,h2,h3⟩:=h;refine ⟨z.toNat,?_,h1,h2,h3⟩;rw [e,Z5 h0]
 ·cases h
def Om {w k L x:Nat} (hx:w / 2^k=x) (h1:x<2^L) (h2:1<=L) (h3:2^(L-1)<=x):w<2^(k+L)/\2^(k+L-1)<=w:=by
 subst hx;refine ⟨?_,?_⟩
 ·have:=(VD (VY zU)).1 h1
  rw [V4,Vw]; exact this
 ·have:=(YM (VY zU)).1 h3
  have e:k+L-1=(L-1)+k:=zO;rw [e,V4]; exact this
section
variable {tab:Nat->Option az} {H:Heap} {s:AV} {l:List Nat}
set_option maxRecDepth 20000 in
def I6 (C:Code tab) (r:Wf H) {w:Nat} (h0:0<w) (o:w<18446744073709551616) :
  Ans tab (.fn jK [.int .u64 (w:Int)]) H fun v H'=>(∃ L:Nat,v=.int .i64 (L:Int)/\1<=L/\L<=64/\w<2^L/\2^(L-1)<=w)/\Kp H H':=by
 refine cY C.q191 zU fun T hl g=>?_;have fin:∀ (k x:Nat),x<256->k<=56->w / 2^k=x->0<x->∃ L:Nat,Td (.str ⟨#[0,1,2,2,3,3,3,3,4,4,4,4,4,4,4,4,5,5,5,5,5,5,5,5,5,5,5,5,5,5,5,5,6,6,6,6,6,6,6,6,6,6,6,6,6,6,6,6,6,6,6,6,6,6,6,6,6,6,6,6,6,6,6,6,7,7,7,7,7,7,7,7,7,7,7,7,7,7,7,7,7,7,7,7,7,7,7,7,7,7,7,7,7,7,7,7,7,7,7,7,7,7,7,7,7,7,7,7,7,7,7,7,7,7,7,7,7,7,7,7,7,7,7,7,7,7,7,7,8,8,8,8,8,8,8,8,8,8,8,8,8,8,8,8,8,8,8,8,8,8,8,8,8,8,8,8,8,8,8,8,8,8,8,8,8,8,8,8,8,8,8,8,8,8,8,8,8,8,8,8,8,8,8,8,8,8,8,8,8,8,8,8,8,8,8,8,8,8,8,8,8,8,8,8,8,8,8,8,8,8,8,8,8,8,8,8,8,8,8,8,8,8,8,8,8,8,8,8,8,8,8,8,8,8,8,8,8,8,8,8,8,8,8,8,8,8,8,8,8,8,8,8,8,8,8,8]⟩) (.int .u8 (IntKind.u8.wrap (x:Int)))=some (.int .u8 (L:Int))/\IntKind.i64.wrap (L:Int)=(L:Int)/\IntKind.i64.wrap ((k:Int)+(L:Int))=((k+L:Nat):Int)/\1<=k+L/\k+L<=64/\w<2^(k+L)/\2^(k+L-1)<=w:=by
  intro k x hx p he q;obtain ⟨L,h,m,e3,i⟩:=LI hx;obtain ⟨h1,h2⟩:=i.resolve_left zO;have j:IntKind.u8.wrap (x:Int)=(x:Int):=by
   show (x:Int) % 256=x;omega
  obtain ⟨h3,l⟩:=Om he e3 h1 h2;refine ⟨L,by rw [j]; exact h,by rw [wrap_i64] <;> omega,by rw [wrap_i64] <;> omega,zO,zO,h3,l⟩
 have a:∀ n:Nat,n<100->IntKind.i64.wrap (n:Int)=(n:Int):=fun n hn=>by rw [wrap_i64] <;> omega
 simp -dsimp (maxSteps:=1000000) (disch:=(first | omega | assumption | exact aI _ | exact aZ _ _ | exact bD | exact cH _ _ _ | exact bN _ _ | exact bC _ _ _ _ _ _ | exact cR _ _ | exact bR _)) only [↓uV,uU,Nat.reduceLT,Nat.reduceEqDiff,Nat.reduceAdd,reduceIte,reduceCtorEq,Nat.reduceBEq,Int.reduceEq,Int.reduceLT,Int.reduceLE,Int.reduceAdd,Int.reduceSub,hl,g,qN,Ak,↓dt];refine iteH.split (fun h1=>?_) fun h1=>?_
 all_goals
  simp -dsimp (maxSteps:=1000000) (disch:=(first | omega | assumption | exact aI _ | exact aZ _ _ | exact bD | exact cH _ _ _ | exact bN _ _ | exact bC _ _ _ _ _ _ | exact cR _ _ | exact bR _)) only [↓uV,uU,Nat.reduceLT,Nat.reduceEqDiff,Nat.reduceAdd,reduceIte,reduceCtorEq,Nat.reduceBEq,Int.reduceEq,Int.reduceLT,Int.reduceLE,Int.reduceAdd,Int.reduceSub,hl,g,qN,Ak,↓dt];refine iteH.split (fun h2=>?_) fun h2=>?_
 all_goals
  simp -dsimp (maxSteps:=1000000) (disch:=(first | omega | assumption | exact aI _ | exact aZ _ _ | exact bD | exact cH _ _ _ | exact bN _ _ | exact bC _ _ _ _ _ _ | exact cR _ _ | exact bR _)) only [↓uV,uU,Nat.reduceLT,Nat.reduceEqDiff,Nat.reduceAdd,reduceIte,reduceCtorEq,Nat.reduceBEq,Int.reduceEq,Int.reduceLT,Int.reduceLE,Int.reduceAdd,Int.reduceSub,hl,g,qN,Ak,↓dt];refine iteH.split (fun h3=>?_) fun h3=>?_
 ·have he:w / 2^56=w / 4294967296 / 65536 / 256:=zO;obtain ⟨L,f1,b,f3,d,e,f6,f⟩:=fin 56 (w / 4294967296 / 65536 / 256) zO zO he zO;have c:IntKind.i64.wrap (56+(L:Int))=((56+L:Nat):Int):=by rw [wrap_i64] <;> omega
  simp -dsimp (maxSteps:=1000000) (disch:=(first | omega | assumption | exact aI _ | exact aZ _ _ | exact bD | exact cH _ _ _ | exact bN _ _ | exact bC _ _ _ _ _ _ | exact cR _ _ | exact bR _)) only [↓uV,uU,Nat.reduceLT,Nat.reduceEqDiff,Nat.reduceAdd,reduceIte,reduceCtorEq,Nat.reduceBEq,Int.reduceEq,Int.reduceLT,Int.reduceLE,Int.reduceAdd,Int.reduceSub,hl,g,qN,Ak,↓dt,f1,b,c,(show IntKind.i64.wrap 16=16 from a 16 zO),(show IntKind.i64.wrap 40=40 from a 40 zO),(show IntKind.i64.wrap 48=48 from a 48 zO),(show IntKind.i64.wrap 56=56 from a 56 zO),(show IntKind.i64.wrap 24=24 from a 24 zO),(show IntKind.i64.wrap 8=8 from a 8 zO)];exact ⟨⟨56+L,rfl,d,e,f6,f⟩,zK⟩
 ·have he:w / 2^48=w / 4294967296 / 65536:=zO;obtain ⟨L,f1,b,f3,d,e,f6,f⟩:=fin 48 (w / 4294967296 / 65536) zO zO he zO;have c:IntKind.i64.wrap (48+(L:Int))=((48+L:Nat):Int):=by rw [wrap_i64] <;> omega
  simp -dsimp (maxSteps:=1000000) (disch:=(first | omega | assumption | exact aI _ | exact aZ _ _ | exact bD | exact cH _ _ _ | exact bN _ _ | exact bC _ _ _ _ _ _ | exact cR _ _ | exact bR _)) only [↓uV,uU,Nat.reduceLT,Nat.reduceEqDiff,Nat.reduceAdd,reduceIte,reduceCtorEq,Nat.reduceBEq,Int.reduceEq,Int.reduceLT,Int.reduceLE,Int.reduceAdd,Int.reduceSub,hl,g,qN,Ak,↓dt,f1,b,c,(show IntKind.i64.wrap 16=16 from a 16 zO),(show IntKind.i64.wrap 40=40 from a 40 zO),(show IntKind.i64.wrap 48=48 from a 48 zO),(show IntKind.i64.wrap 56=56 from a 56 zO),(show IntKind.i64.wrap 24=24 from a 24 zO),(show IntKind.i64.wrap 8=8 from a 8 zO)];exact ⟨⟨48+L,rfl,d,e,f6,f⟩,zK⟩
 ·have he:w / 2^40=w / 4294967296 / 256:=zO;obtain ⟨L,f1,b,f3,d,e,f6,f⟩:=fin 40 (w / 4294967296 / 256) zO zO he zO;have c:IntKind.i64.wrap (40+(L:Int))=((40+L:Nat):Int):=by rw [wrap_i64] <;> omega
  simp -dsimp (maxSteps:=1000000) (disch:=(first | omega | assumption | exact aI _ | exact aZ _ _ | exact bD | exact cH _ _ _ | exact bN _ _ | exact bC _ _ _ _ _ _ | exact cR _ _ | exact bR _)) only [↓uV,uU,Nat.reduceLT,Nat.reduceEqDiff,Nat.reduceAdd,reduceIte,reduceCtorEq,Nat.reduceBEq,Int.reduceEq,Int.reduceLT,Int.reduceLE,Int.reduceAdd,Int.reduceSub,hl,g,qN,Ak,↓dt,f1,b,c,(show IntKind.i64.wrap 16=16 from a 16 zO),(show IntKind.i64.wrap 40=40 from a 40 zO),(show IntKind.i64.wrap 48=48 from a 48 zO),(show IntKind.i64.wrap 56=56 from a 56 zO),(show IntKind.i64.wrap 24=24 from a 24 zO),(show IntKind.i64.wrap 8=8 from a 8 zO)];exact ⟨⟨40+L,rfl,d,e,f6,f⟩,zK⟩
 ·have he:w / 2^32=w / 4294967296:=zO;obtain ⟨L,f1,b,f3,d,e,f6,f⟩:=fin 32 (w / 4294967296) zO zO he zO;have c:IntKind.i64.wrap (32+(L:Int))=((32+L:Nat):Int):=by rw [wrap_i64] <;> omega
  simp -dsimp (maxSteps:=1000000) (disch:=(first | omega | assumption | exact aI _ | exact aZ _ _ | exact bD | exact cH _ _ _ | exact bN _ _ | exact bC _ _ _ _ _ _ | exact cR _ _ | exact bR _)) only [↓uV,uU,Nat.reduceLT,Nat.reduceEqDiff,Nat.reduceAdd,reduceIte,reduceCtorEq,Nat.reduceBEq,Int.reduceEq,Int.reduceLT,Int.reduceLE,Int.reduceAdd,Int.reduceSub,hl,g,qN,Ak,↓dt,f1,b,c,(show IntKind.i64.wrap 16=16 from a 16 zO),(show IntKind.i64.wrap 40=40 from a 40 zO),(show IntKind.i64.wrap 48=48 from a 48 zO),(show IntKind.i64.wrap 56=56 from a 56 zO),(show IntKind.i64.wrap 24=24 from a 24 zO),(show IntKind.i64.wrap 8=8 from a 8 zO)];exact ⟨⟨32+L,rfl,d,e,f6,f⟩,zK⟩
 ·have he:w / 2^24=w / 65536 / 256:=zO;obtain ⟨L,f1,b,f3,d,e,f6,f⟩:=fin 24 (w / 65536 / 256) zO zO he zO;have c:IntKind.i64.wrap (24+(L:Int))=((24+L:Nat):Int):=by rw [wrap_i64] <;> omega
  simp -dsimp (maxSteps:=1000000) (disch:=(first | omega | assumption | exact aI _ | exact aZ _ _ | exact bD | exact cH _ _ _ | exact bN _ _ | exact bC _ _ _ _ _ _ | exact cR _ _ | exact bR _)) only [↓uV,uU,Nat.reduceLT,Nat.reduceEqDiff,Nat.reduceAdd,reduceIte,reduceCtorEq,Nat.reduceBEq,Int.reduceEq,Int.reduceLT,Int.reduceLE,Int.reduceAdd,Int.reduceSub,hl,g,qN,Ak,↓dt,f1,b,c,(show IntKind.i64.wrap 16=16 from a 16 zO),(show IntKind.i64.wrap 40=40 from a 40 zO),(show IntKind.i64.wrap 48=48 from a 48 zO),(show IntKind.i64.wrap 56=56 from a 56 zO),(show IntKind.i64.wrap 24=24 from a 24 zO),(show IntKind.i64.wrap 8=8 from a 8 zO)];exact ⟨⟨24+L,rfl,d,e,f6,f⟩,zK⟩
 ·have he:w / 2^16=w / 65536:=zO;obtain ⟨L,f1,b,f3,d,e,f6,f⟩:=fin 16 (w / 65536) zO zO he zO;have c:IntKind.i64.wrap (16+(L:Int))=((16+L:Nat):Int):=by rw [wrap_i64] <;> omega
  simp -dsimp (maxSteps:=1000000) (disch:=(first | omega | assumption | exact aI _ | exact aZ _ _ | exact bD | exact cH _ _ _ | exact bN _ _ | exact bC _ _ _ _ _ _ | exact cR _ _ | exact bR _)) only [↓uV,uU,Nat.reduceLT,Nat.reduceEqDiff,Nat.reduceAdd,reduceIte,reduceCtorEq,Nat.reduceBEq,Int.reduceEq,Int.reduceLT,Int.reduceLE,Int.reduceAdd,Int.reduceSub,hl,g,qN,Ak,↓dt,f1,b,c,(show IntKind.i64.wrap 16=16 from a 16 zO),(show IntKind.i64.wrap 40=40 from a 40 zO),(show IntKind.i64.wrap 48=48 from a 48 zO),(show IntKind.i64.wrap 56=56 from a 56 zO),(show IntKind.i64.wrap 24=24 from a 24 zO),(show IntKind.i64.wrap 8=8 from a 8 zO)];exact ⟨⟨16+L,rfl,d,e,f6,f⟩,zK⟩
 ·have he:w / 2^8=w / 256:=zO;obtain ⟨L,f1,b,f3,d,e,f6,f⟩:=fin 8 (w / 256) zO zO he zO;have c:IntKind.i64.wrap (8+(L:Int))=((8+L:Nat):Int):=by rw [wrap_i64] <;> omega
  simp -dsimp (maxSteps:=1000000) (disch:=(first | omega | assumption | exact aI _ | exact aZ _ _ | exact bD | exact cH _ _ _ | exact bN _ _ | exact bC _ _ _ _ _ _ | exact cR _ _ | exact bR _)) only [↓uV,uU,Nat.reduceLT,Nat.reduceEqDiff,Nat.reduceAdd,reduceIte,reduceCtorEq,Nat.reduceBEq,Int.reduceEq,Int.reduceLT,Int.reduceLE,Int.reduceAdd,Int.reduceSub,hl,g,qN,Ak,↓dt,f1,b,c,(show IntKind.i64.wrap 16=16 from a 16 zO),(show IntKind.i64.wrap 40=40 from a 40 zO),(show IntKind.i64.wrap 48=48 from a 48 zO),(show IntKind.i64.wrap 56=56 from a 56 zO),(show IntKind.i64.wrap 24=24 from a 24 zO),(show IntKind.i64.wrap 8=8 from a 8 zO)];exact ⟨⟨8+L,rfl,d,e,f6,f⟩,zK⟩
 ·have he:w / 2^0=w:=zO;obtain ⟨L,f1,b,f3,d,e,f6,f⟩:=fin 0 (w) zO zO he zO;have c:IntKind.i64.wrap (0+(L:Int))=((0+L:Nat):Int):=by rw [wrap_i64] <;> omega
  simp -dsimp (maxSteps:=1000000) (disch:=(first | omega | assumption | exact aI _ | exact aZ _ _ | exact bD | exact cH _ _ _ | exact bN _ _ | exact bC _ _ _ _ _ _ | exact cR _ _ | exact bR _)) only [↓uV,uU,Nat.reduceLT,Nat.reduceEqDiff,Nat.reduceAdd,reduceIte,reduceCtorEq,Nat.reduceBEq,Int.reduceEq,Int.reduceLT,Int.reduceLE,Int.reduceAdd,Int.reduceSub,hl,g,qN,Ak,↓dt,f1,b,c,(show IntKind.i64.wrap 16=16 from a 16 zO),(show IntKind.i64.wrap 40=40 from a 40 zO),(show IntKind.i64.wrap 48=48 from a 48 zO),(show IntKind.i64.wrap 56=56 from a 56 zO),(show IntKind.i64.wrap 24=24 from a 24 zO),(show IntKind.i64.wrap 8=8 from a 8 zO)];exact ⟨⟨0+L,by rw [VN],d,e,f6,f⟩,zK⟩
def Di (C:Code tab) (g:Wf H) {w:Nat} (h0:0<w) (c:w<18446744073709551616) :
  Ans tab (.fn dV [.int .u64 (w:Int)]) H fun v H'=>(∃ z:Nat,v=.int .i64 (z:Int)/\z<64/\w*2^z<18446744073709551616/\9223372036854775808<=w*2^z)/\Kp H H':=by
 refine cY C.q181 zU fun T hl a=>?_;refine zW (aw hl a) ?_;refine AnsH.use (I6 C zF h0 c) ?_;rintro v H2 ⟨⟨L,rfl,h1,h2,h3,b⟩,d⟩;obtain ⟨k2,_,_⟩:=zT H zK d;have f:IntKind.i64.wrap (64-(L:Int))=((64-L:Nat):Int):=by rw [wrap_i64] <;> omega
 refine zW (aE hl a f) ?_;refine ⟨⟨64-L,rfl,zO,?_,?_⟩,zK⟩
 ·have:=Xm h3 (VY (n:=64-L) (show 0<2 by decide))
  rw [<- V4] at this;have e:L+(64-L)=64:=zO;rw [e] at this;exact this
 ·have:=Vj (2^(64-L)) b
  rw [<- V4] at this;have e:L-1+(64-L)=63:=zO;rw [e] at this;exact this
end
def Same.set {D:List Nat} {T T1:Tm} {i:Nat} {v:AV} (h:Same D T T1) (hi:i∈D):Same D T (T1.set i v) :=
 ⟨by simp [h.len],fun s hs=>by rw [mB _ _ _ _ (fun e=>hs (by rw [<- e]; exact hi))]; exact h.at_ s hs⟩
def TA (a:Nat):bu .mul .int (.int .u64 (a:Int)) (.int .u64 4294967296)=some (.int .u64 ((a*4294967296 % 18446744073709551616:Nat):Int)):=sW a 4294967296
def JH (a:Nat):bu .mul .int (.int .u64 4294967296) (.int .u64 (a:Int))=some (.int .u64 ((4294967296*a % 18446744073709551616:Nat):Int)):=sW 4294967296 a
def um {a:Nat} (h:0<a) (ha:a<18446744073709551616):bu .sub .int (.int .u64 (a:Int)) (.int .u64 1)=some (.int .u64 ((a-1:Nat):Int)):=by
 rw [show (1:Int)=((1:Nat):Int) from rfl,xM a 1 zO];have e:(a+18446744073709551616-1) % 18446744073709551616=a-1:=zO;rw [e]
def sub64 {z:Nat} (h:z<=64):bu .sub .int (.int .u64 64) (.int .u64 (z:Int))=some (.int .u64 ((64-z:Nat):Int)):=by
 rw [show (64:Int)=((64:Nat):Int) from rfl,xM 64 z zO];have e:(64+18446744073709551616-z) % 18446744073709551616=64-z:=zO;rw [e]
def No {u n p R:Nat} (h:p+R=u*4294967296+n) (a:R<18446744073709551616):((u*4294967296 % 18446744073709551616+n) % 18446744073709551616+18446744073709551616-p % 18446744073709551616) % 18446744073709551616=R:=zO
section
variable {Y a b u n q r:Nat}
def yr (c:Y=a*4294967296+b) (d:u<Y) (hn:n<4294967296) (e:q*a+r=u) (h:4294967296<=q\/4294967296*r+n<q*b):(u*4294967296+n) / Y<q:=by
 apply (VD zO).2
 rcases h with h | h
 ·have:=Vj Y h
  omega
 ·have h1:q*Y=(q*a)*4294967296+q*b:=by rw [c,VV,VO]
  rw [h1]
  generalize q*a=p at *
  omega
def mD (c:Y=a*4294967296+b) (h0:0<Y) (e:q*a+r=u) (h:q*b<=4294967296*r+n):q<=(u*4294967296+n) / Y:=by
 apply (YM h0).2
 have h1:q*Y=(q*a)*4294967296+q*b:=by rw [c,VV,VO]
 rw [h1]
 generalize q*a=p at *
 omega
def nO (hb:b<4294967296) (a:q<=4294967296) (hr:4294967296<=r):q*b<=4294967296*r+n:=by
 have h1:q*b<=4294967296*4294967295:=WA a zO;omega
def yq (c:Y=a*4294967296+b) (hb:b<4294967296) (ha:2147483648<=a) (d:u<Y) (hn:n<4294967296):u / a<=4294967297/\(u*4294967296+n) / Y<=u / a:=by
 have h0:0<a:=zO;have e:=Wh u a;have hr:u % a<a:=VS _ h0;rw [Vw] at e;refine ⟨?_,?_⟩
 ·apply XQ
  apply (VD h0).2
  omega
 ·apply XQ
  apply (VD zO).2
  have h1:(u / a+1)*Y=((u / a+1)*a)*4294967296+(u / a+1)*b:=by rw [c,VV,VO]
  have h2:(u / a+1)*a=u / a*a+a:=by rw [Wa,Ya]
  rw [Nat.succ_eq_add_one,h1,h2]
  generalize u / a*a=p at *
  omega
end
def mr {tab:Nat->Option az} {rd:Bool} {id:Nat} {c:ACode} {T:Tm} {H:Heap} {Q:Ex->Tm->Heap->Prop} {L:Nat} (H0:Heap) (d:List Nat) (P:Nat->List AV->Heap->Prop) (R:List AV->Heap->Prop) (m:Nat)
  (hl:T.length=L) (hp:jk c=true) (q:Kp H0 H) (h0:P m (d.map (ad T)) H)
  (hb:∀ k T1 a,T1.length=L->Same (gt c) T T1->Kp H0 a->P k (d.map (ad T1)) a->WC tab rd c T1 a (RV id (fun T2 H2=>Kp H0 H2/\∃ f,f<k/\P f (d.map (ad T2)) H2) (fun x T2 H2=>x=.nrm/\Kp H0 H2/\R (d.map (ad T2)) H2)))
  (he:∀ T1 a,T1.length=L->Same (gt c) T T1->Kp H0 a->R (d.map (ad T1)) a->Q .nrm T1 a):WC tab rd (O5 id c) T H Q:=by
 unfold O5;refine WB.wcLoop ?_;refine DA (fun k T1 a=>T1.length=L/\Same (gt c) T T1/\Kp H0 a/\P k (d.map (ad T1)) a) ?_ m T H ⟨hl,Same.refl _ _,q,h0⟩;rintro k T1 a ⟨g,i,r,n⟩;refine ((hb k T1 a g i r n).wb.same hp).mono ?_;rintro x T2 H2 ⟨h,b⟩;have j:Same (gt c) T T2:=(i.trans h).wide fun s hs=>by simpa using hs
 cases x with
 | nrm =>
  obtain ⟨t,f,p,o⟩:=b;exact ⟨f,p,h.len.trans g,j,t,o⟩
 | exit e =>
  simp only [RV] at b;show uN id Q (.exit e) T2 H2;simp only [uN];by_cases h1:e=id
  ·rw [if_pos h1] at b ⊢;exact he T2 H2 (h.len.trans g) j b.2.1 b.2.2
  ·rw [if_neg h1] at b;exact absurd b.1 (by simp)
 | goto l=>exact absurd b.1 (by simp)
 | ret=>exact absurd b.1 (by simp)
section
variable {tab:Nat->Option az} {H:Heap}
set_option maxHeartbeats 1000000 in
def BU (C:Code tab) (hw:Wf H) {hi lo y:Nat} (hy:hi<y) (V:lo<18446744073709551616) (aH:y<18446744073709551616) :
  Ans tab (.fn jL [.int .u64 (hi:Int),.int .u64 (lo:Int),.int .u64 (y:Int)]) H fun v H'=>v=.tup [.int .u64 (((hi*B+lo) / y:Nat):Int),.int .u64 (((hi*B+lo) % y:Nat):Int)]/\Kp H H':=by
 refine ni C.q190 zU fun T hl g i j=>?_;have e0:¬ (y:Int)=0:=zO;have e1:¬ y<=hi:=zO;refine zW (dx hl g i j e0 e1) ?_;refine iteH.split (fun h0=>?_) (fun h0=>?_)
 ·have ay:hi=0:=zO;subst ay;have q1:=Jv (a:=lo) (b:=y) V zO;have q2:=NU (a:=lo) (b:=y) zO;rw [Yz,VN];refine zW (aW hl g i j) ?_;refine aF ?_;refine zD (dx hl g i j q1 q2) ?_;exact zK
 ·refine zW (aW hl g i j) ?_;refine AnsH.use (Di C zF zO aH) ?_;rintro v H2 ⟨⟨z,rfl,hz,X,aJ⟩,aB⟩;obtain ⟨k2,_,w⟩:=zT H zK aB;have aA:IntKind.u64.wrap (z:Int)=(z:Int):=gQ zO zO;have P:0<2^z:=VY zU;obtain ⟨Y,K⟩:∃ Y,y*2^z=Y:=⟨_,rfl⟩
  rw [K] at X aJ;have s1:bu .shl .int (.int .u64 (y:Int)) (.int .u64 (z:Int))=some (.int .u64 (Y:Int)):=by rw [sV zO,K,VE X]
  have s2:=sub64 (z:=z) zO;have af:hi*2^z<18446744073709551616:=Y7 (Xm hy P) (by rw [K]; exact X);have s3:bu .shl .int (.int .u64 (hi:Int)) (.int .u64 (z:Int))=some (.int .u64 ((hi*2^z:Nat):Int)):=by rw [sV zO,VE af]
  have s4:bu .shr .int (.int .u64 (lo:Int)) (.int .u64 ((64-z:Nat):Int))=some (.int .u64 ((lo / 2^(64-z):Nat):Int)):=uO zO;have hB:B=2^(64-z)*2^z:=by
   rw [<- V4]; have:64-z+z=64:=zO;rw [this]
  have aC:lo / 2^(64-z)<2^z:=by
   apply (VD (VY zU)).2
   rw [Vw,<- hB]; exact V
  obtain ⟨u,hu⟩:∃ u,hi*2^z+lo / 2^(64-z)=u:=⟨_,rfl⟩
  have s5:bu .or .int (.int .u64 ((hi*2^z:Nat):Int)) (.int .u64 ((lo / 2^(64-z):Nat):Int))=some (.int .u64 (u:Int)):=by
   rw [wK af (Wc (Xv _ _) V),Nat.or_comm,Vw hi,Ec aC,<- hu,Vw hi,XO]
  obtain ⟨m,hm⟩:∃ m,lo*2^z % B=m:=⟨_,rfl⟩
  have a2:m<18446744073709551616:=by rw [<- hm]; exact VS _ zU
  have s6:bu .shl .int (.int .u64 (lo:Int)) (.int .u64 (z:Int))=some (.int .u64 (m:Int)):=by rw [sV zO,hm]
  have hN:(hi*B+lo)*2^z=u*B+m:=by
   have h1:=Wh (lo*2^z) B;rw [hm] at h1;have h2:lo*2^z / B=lo / 2^(64-z):=by rw [hB,YN _ _ P]
   rw [h2] at h1;rw [Wa,<- h1,<- hu,Wa,Yd,Vw B];omega
  have aq:u<Y:=by
   have h1:(hi*B+lo)*2^z<y*B*2^z:=by
    refine Xm ?_ P
    have:(hi+1)*B<=y*B:=Vj B hy
    rw [Wa] at this;unfold B at *; omega
   rw [hN,Yd,K] at h1;unfold B at h1; omega
  obtain ⟨a,ha⟩:∃ a,Y / 4294967296=a:=⟨_,rfl⟩
  obtain ⟨b,hb⟩:∃ b,Y % 4294967296=b:=⟨_,rfl⟩
  obtain ⟨f,aE⟩:∃ f,m / 4294967296=f:=⟨_,rfl⟩
  obtain ⟨c,aD⟩:∃ c,m % 4294967296=c:=⟨_,rfl⟩
  have E:Y=a*4294967296+b:=zO;have L:b<4294967296:=zO;have aa:2147483648<=a:=zO;have ah:f<4294967296:=zO;have ag:c<4294967296:=zO;have ai:∀ x:Nat,x<18446744073709551616->bu .quo .int (.int .u64 (x:Int)) (.int .u64 (a:Int))=some (.int .u64 ((x / a:Nat):Int)):=fun x hx=>Jv hx zO;have am:∀ x:Nat,x<18446744073709551616->x / a*a % 18446744073709551616=x / a*a/\(x+18446744073709551616-x / a*a) % 18446744073709551616=x % a/\x / a*a+x % a=x:=by
   intro x hx;have h1:=Wh x a;rw [Vw] at h1
   generalize x / a*a=p at *
   generalize x % a=t at *
   omega
  have qu:=ai u zO;obtain ⟨aN,aO,aP⟩:=am u zO;refine zW (Ho hl g i j aA s1 s2 s3 s4 s5 s6 ha hb aE aD qu aN aO) ?_;obtain ⟨Uj,Ui⟩:=yq E L aa aq ah;have ae:∀ x:Nat,x % a<4294967296:=fun x=>Y7 (VS _ zO) zO;refine mr H [15,16] (fun k vs H'=>∃ q r:Nat,vs=[.int .u64 (q:Int),.int .u64 (r:Int)]/\k=q/\q*a+r=u/\(u*4294967296+f) / Y<=q/\q<=4294967297/\r<4294967296) (fun vs H'=>∃ r,vs=[.int .u64 (((u*4294967296+f) / Y:Nat):Int),r]) (u / a) (by simp only [U4]; exact hl) rfl zK ⟨u / a,u % a,by exact zV (aW hl g i j),rfl,aP,Ui,Uj,ae u⟩ ?_ ?_
  ·rintro k T1 H1 d A M ⟨q,r,D,U,e,hge,hq,hr⟩;obtain rfl:=U.symm;have w1:=M.wf;have aK:=M.le;simp only [Vb,Vf,Vd,and_true] at D;obtain ⟨s,vr⟩:=D;have o:ad T1 9=.int .u64 (a:Int):=(A.at_ 9 zU).trans (zV (aW hl g i j));have l:ad T1 10=.int .u64 (b:Int):=(A.at_ 10 zU).trans (zV (aW hl g i j));have un:ad T1 13=.int .u64 (f:Int):=(A.at_ 13 zU).trans (zV (aW hl g i j));have step:4294967296<=q\/4294967296*r+f<q*b->0<q/\(q-1)*a+(r+a)=u/\(u*4294967296+f) / Y<=q-1:=by
    intro h;have h1:=yr E aq ah e h;have h2:0<q:=Wc (Vk _) h1;refine ⟨h2,?_,Yp h1⟩;have h3:q*a=(q-1)*a+a:=by rw [<- WR]; congr 1; omega
    omega
   have w:(r+a) % 18446744073709551616=r+a:=zO;by_cases S:4294967296<=q
   ·have F:(4294967296:Int)<=(q:Int):=zO;obtain ⟨p1,p2,p3⟩:=step (.inl S);have z1:=um (a:=q) p1 zO;refine zW (jB d s vr o l un F z1 w) ?_;refine iteH.split (fun h=>?_) fun h=>?_
    ·refine zW (jC d s vr o l un z1 w) ?_
     have:=mD (Y:=Y) E zO p2 (nO L (q:=q-1) (n:=f) zO zO)
     exact ⟨zK,_,by rw [Xu this p3]⟩
    ·refine zW (jC d s vr o l un z1 w) ?_;exact ⟨zK,q-1,zO,q-1,r+a,rfl,rfl,p2,p3,zO,zO⟩
   ·have F:¬ (4294967296:Int)<=(q:Int):=zO;have O:q*b % 18446744073709551616=q*b:=by
     apply VE
     have:q*b<=4294967295*4294967295:=WA zO zO
     omega
    have m2:4294967296*r % 18446744073709551616=4294967296*r:=zO;have m3:(4294967296*r+f) % 18446744073709551616=4294967296*r+f:=zO;by_cases G:4294967296*r+f<q*b
    ·obtain ⟨p1,p2,p3⟩:=step (.inr G);have z1:=um (a:=q) p1 zO;refine zW (E5 d s vr o l un F @G O m2 m3 @JH z1 w) ?_;refine iteH.split (fun h=>?_) fun h=>?_
     ·refine zW (jC d s vr o l un z1 w) ?_
      have:=mD (Y:=Y) E zO p2 (nO L (q:=q-1) (n:=f) zO zO)
      exact ⟨zK,_,by rw [Xu this p3]⟩
     ·refine zW (jC d s vr o l un z1 w) ?_;exact ⟨zK,q-1,zO,q-1,r+a,rfl,rfl,p2,p3,zO,zO⟩
    ·refine zW (zx d s vr o l un F @G O m2 m3 @JH) ?_
     have:=mD (Y:=Y) E zO e (Xz G)
     exact ⟨zK,_,by rw [Xu this hge]⟩
  ·rintro T1 H1 d A M ⟨r,D⟩;have w1:=M.wf;have aK:=M.le;simp only [Vb,Vf,Vd,and_true] at D;obtain ⟨Z,-⟩:=D;obtain ⟨q1,W⟩:∃ q1,(u*4294967296+f) / Y=q1:=⟨_,rfl⟩
   obtain ⟨u1,ao⟩:∃ u1,(u*4294967296+f) % Y=u1:=⟨_,rfl⟩
   have d1:=Wh (u*4294967296+f) Y;rw [W,ao,Vw Y] at d1;have ap:u1<Y:=by rw [<- ao]; exact VS _ zO
   rw [W] at Z;have t2:ad T1 2=.int .u64 (Y:Int):=(A.at_ 2 zU).trans (zV (aW hl g i j));have t8:ad T1 8=.int .u64 (z:Int):=(A.at_ 8 zU).trans (zV (aW hl g i j));have t9:ad T1 9=.int .u64 (a:Int):=(A.at_ 9 zU).trans (zV (aW hl g i j));have R:ad T1 10=.int .u64 (b:Int):=(A.at_ 10 zU).trans (zV (aW hl g i j));have aV:ad T1 11=.int .u64 (u:Int):=(A.at_ 11 zU).trans (zV (aW hl g i j));have aX:ad T1 13=.int .u64 (f:Int):=(A.at_ 13 zU).trans (zV (aW hl g i j));have Q:ad T1 14=.int .u64 (c:Int):=(A.at_ 14 zU).trans (zV (aW hl g i j));have f1:((u*4294967296 % 18446744073709551616+f) % 18446744073709551616+18446744073709551616-q1*Y % 18446744073709551616) % 18446744073709551616=u1:=No d1 zO;have aM:=ai u1 zO;obtain ⟨aQ,aR,aS⟩:=am u1 zO;obtain ⟨aT,aU⟩:=yq E L aa ap ag;refine zW (E5 d Z t2 t8 t9 R aV aX Q @TA f1 aM aQ aR) ?_;refine mr H [18,16] (fun k vs H'=>∃ q r:Nat,vs=[.int .u64 (q:Int),.int .u64 (r:Int)]/\k=q/\q*a+r=u1/\(u1*4294967296+c) / Y<=q/\q<=4294967297/\r<4294967296) (fun vs H'=>∃ r,vs=[.int .u64 (((u1*4294967296+c) / Y:Nat):Int),r]) (u1 / a) (by simp only [U4]; exact d) rfl zK ⟨u1 / a,u1 % a,by exact zV d,rfl,aS,aU,aT,ae u1⟩ ?_ ?_
   ·rintro k T2 H3 I J N ⟨q,r,D,U,e,hge,hq,hr⟩;obtain rfl:=U.symm;have w1:=N.wf;have aL:=N.le;simp only [Vb,Vf,Vd,and_true] at D;obtain ⟨s,vr⟩:=D;have o:ad T2 9=.int .u64 (a:Int):=(J.at_ 9 zU).trans (zV (aW d t9 R Q));have l:ad T2 10=.int .u64 (b:Int):=(J.at_ 10 zU).trans (zV (aW d t9 R Q));have un:ad T2 14=.int .u64 (c:Int):=(J.at_ 14 zU).trans (zV (aW d t9 R Q));have step:4294967296<=q\/4294967296*r+c<q*b->0<q/\(q-1)*a+(r+a)=u1/\(u1*4294967296+c) / Y<=q-1:=by
     intro h;have h1:=yr E ap ag e h;have h2:0<q:=Wc (Vk _) h1;refine ⟨h2,?_,Yp h1⟩;have h3:q*a=(q-1)*a+a:=by rw [<- WR]; congr 1; omega
     omega
    have w:(r+a) % 18446744073709551616=r+a:=zO;by_cases S:4294967296<=q
    ·have F:(4294967296:Int)<=(q:Int):=zO;obtain ⟨p1,p2,p3⟩:=step (.inl S);have z1:=um (a:=q) p1 zO;refine zW (jB I s vr o l un F z1 w) ?_;refine iteH.split (fun h=>?_) fun h=>?_
     ·refine zW (jC I s vr o l un z1 w) ?_
      have:=mD (Y:=Y) E zO p2 (nO L (q:=q-1) (n:=c) zO zO)
      exact ⟨zK,_,by rw [Xu this p3]⟩
     ·refine zW (jC I s vr o l un z1 w) ?_;exact ⟨zK,q-1,zO,q-1,r+a,rfl,rfl,p2,p3,zO,zO⟩
    ·have F:¬ (4294967296:Int)<=(q:Int):=zO;have O:q*b % 18446744073709551616=q*b:=by
      apply VE
      have:q*b<=4294967295*4294967295:=WA zO zO
      omega
     have m2:4294967296*r % 18446744073709551616=4294967296*r:=zO;have m3:(4294967296*r+c) % 18446744073709551616=4294967296*r+c:=zO;by_cases G:4294967296*r+c<q*b
     ·obtain ⟨p1,p2,p3⟩:=step (.inr G);have z1:=um (a:=q) p1 zO;refine zW (E5 I s vr o l un F @G O m2 m3 @JH z1 w) ?_;refine iteH.split (fun h=>?_) fun h=>?_
      ·refine zW (jC I s vr o l un z1 w) ?_
       have:=mD (Y:=Y) E zO p2 (nO L (q:=q-1) (n:=c) zO zO)
       exact ⟨zK,_,by rw [Xu this p3]⟩
      ·refine zW (jC I s vr o l un z1 w) ?_;exact ⟨zK,q-1,zO,q-1,r+a,rfl,rfl,p2,p3,zO,zO⟩
     ·refine zW (zx I s vr o l un F @G O m2 m3 @JH) ?_
      have:=mD (Y:=Y) E zO e (Xz G)
      exact ⟨zK,_,by rw [Xu this hge]⟩
   ·rintro T2 H3 I J N ⟨r,D⟩;have w3:=N.wf;have aL:=N.le;simp only [Vb,Vf,Vd,and_true] at D;obtain ⟨ar,-⟩:=D;obtain ⟨q0,hq0⟩:∃ q0,(u1*4294967296+c) / Y=q0:=⟨_,rfl⟩
    obtain ⟨r0,aj⟩:∃ r0,(u1*4294967296+c) % Y=r0:=⟨_,rfl⟩
    have d2:=Wh (u1*4294967296+c) Y;rw [hq0,aj,Vw Y] at d2;have al:r0<Y:=by rw [<- aj]; exact VS _ zO
    rw [hq0] at ar;have x2:ad T2 2=.int .u64 (Y:Int):=(J.at_ 2 zU).trans (zV (aw d t2));have x8:ad T2 8=.int .u64 (z:Int):=(J.at_ 8 zU).trans (zV (aw d t8));have aY:ad T2 14=.int .u64 (c:Int):=(J.at_ 14 zU).trans (zV (aw d Q));have a0:ad T2 15=.int .u64 (q1:Int):=(J.at_ 15 zU).trans (zV (aw d Z));have a1:ad T2 17=.int .u64 (u1:Int):=(J.at_ 17 zU).trans (zV d);have a4:q1<4294967296:=by
     rw [<- W]
     apply (VD zO).2
     omega
    have a3:q0<4294967296:=by
     rw [<- hq0]
     apply (VD zO).2
     omega
    have f2:(q1*4294967296 % 18446744073709551616+q0) % 18446744073709551616=q1*4294967296+q0:=zO;have f3:((u1*4294967296 % 18446744073709551616+c) % 18446744073709551616+18446744073709551616-q0*Y % 18446744073709551616) % 18446744073709551616=r0:=No d2 zO;have aG:bu .shr .int (.int .u64 (r0:Int)) (.int .u64 (z:Int))=some (.int .u64 ((r0 / 2^z:Nat):Int)):=uO zO;refine zW (lP I ar x2 x8 aY a0 a1 @TA f2 f3 aG) ?_;have ab:(hi*B+lo)*2^z=(q1*4294967296+q0)*Y+r0:=by
     rw [hN,Wa,Yd];have e5:m=f*4294967296+c:=zO
     generalize q1*Y=p at *
     generalize q0*Y=p' at *
     unfold B;omega
    have av:(hi*B+lo) / y=q1*4294967296+q0:=by
     rw [<- YN _ _ P,ab,K];rw [XO,YO _ _ zO,WG al,VN]
    have ax:r0 / 2^z=(hi*B+lo) % y:=by
     have h1:(hi*B+lo)*2^z % (y*2^z)=r0:=by
      rw [ab,K,XO,Nat.add_mul_mod_self_right,VE al]
     rw [ZO] at h1;rw [<- h1,Nat.mul_div_cancel _ P]
    rw [av,ax];exact ⟨rfl,zK⟩
end
def zN:∀ {out:List Nat} {M:Nat},(∀ j,j<out.length->out.getD j 0=M / B^j % B)->M<B^out.length->val out=M
 | [],M,_,h=>by simp at h; simp [val,h]
 | a :: t,M,hd,h=>by
  have h0:=hd 0 (by simp);simp only [XG,Ye,ZW] at h0;have b:val t=M / B:=by
   refine zN (fun j hj=>?_) ?_
   ·have:=hd (j+1) (by simpa using hj)
    rw [WE] at this;rw [this,V2,VG,Vw B]
   ·apply (VD zU).2
    rw [<- VG]; simpa using h
  simp only [val,b,h0];exact XL M B
def Iw {out:List Nat} (h:∀ j,j<out.length->out.getD j 0<B):Lim out:=fun a ha=>by
 obtain ⟨j,hj,rfl⟩:=Wm ha
 have:=h j hj
 rw [U5,U7 hj] at this;exact this
def jw (n j:Nat):(ag n).getD j 0=n / B^j % B:=by
 have h1:(ag n).drop j=ag (n / B^j):=ng j n;have h2:(ag n).getD j 0=((ag n).drop j).getD 0 0:=by
  rw [U5,U5,Vz,WM]
 rw [h2,h1];by_cases h0:n / B^j=0
 ·rw [h0,ca]; rfl
 ·rw [jv h0]; rfl
def He {a c m M:Nat} (ha:a<c) (d:0<M):(a+c*m) % (c*M)=a+c*(m % M):=by
 have h1:m=m % M+M*(m / M):=(XL m M).symm;have h2:a+c*m=a+c*(m % M)+c*M*(m / M):=by
  conv=>lhs; rw [h1]
  rw [VV,VO]; omega
 have h3:a+c*(m % M)<c*M:=by
  have b:c*(m % M+1)<=c*M:=WS c (VS _ d);rw [VV] at b; omega
 rw [h2,XJ,VE h3]
def Bg {Y j r:Nat} (hr:r<64):Y / B^j % B / 2^r+2^(64-r)*(Y / B^(j+1) % B % 2^r)=Y / 2^r / B^j % B:=by
 have b:B=2^r*2^(64-r):=by
  rw [<- V4]; have:r+(64-r)=64:=zO;rw [this]
 have p2:0<2^r:=VY zU;have p3:0<2^(64-r):=VY zU;have d:Y / 2^r / B^j=Y / B^j / 2^r:=by rw [V2,V2,Vw]
 have e:Y / B^(j+1)=Y / B^j / B:=by rw [V2,VG]
 rw [d,e]
 generalize Y / B^j=Z
 have f:Z=Z % B+B*(Z / B):=(XL Z B).symm;have hl:Z % B / 2^r<2^(64-r):=by
  apply (VD p2).2
  rw [Vw,<- b]; exact VS _ zU
 have h1:Z / 2^r=Z % B / 2^r+2^(64-r)*(Z / B):=by
  conv=>lhs; rw [f]
  rw [b,VO,YX _ _ p2,<- b]
 have h2:Z / B % B % 2^r=Z / B % 2^r:=Nat.mod_mod_of_dvd _ ⟨2^(64-r),b⟩;rw [h1,h2]
 have:=He (a:=Z % B / 2^r) (c:=2^(64-r)) (m:=Z / B) (M:=2^r) hl p2
 rw [Vw (2^(64-r)) (2^r),<- b] at this;exact this.symm
def Js {x r:Nat} (hr:r<=64):x*2^(64-r) % B=2^(64-r)*(x % 2^r):=by
 have a:B=2^(64-r)*2^r:=by
  rw [<- V4]; have:64-r+r=64:=zO;rw [this]
 rw [a,Vw x,ZV]
def rF {l:List Nat} {i v:Nat} (h:i<l.length):(l.set i v).getD i 0=v:=by
 rw [U5,Xq,if_pos rfl,if_pos h]; rfl
section
variable {tab:Nat->Option az} {H:Heap} {s:AV}
def N9 (C:Code tab) (hw:Wf H) {a:AV} {x k:Nat} (ha:bA H a x) (hx:Sm x) (hk:k<=65536) :
  Ans tab (.fn uy [a,.int .i64 (k:Int)]) H fun v H'=>∃ o,v=.tup [o,.int .i64 0]/\bA H' o (x / 2^k)/\Kp H H':=by
 refine bk C.q187 zU fun T hl f d=>?_;refine zW (aE hl f d) ?_;refine AnsH.eq (CJ C zF (ha.mono (zG H)) hx hk) fun H2 al=>?_;obtain ⟨k2,_,w2⟩:=zT H zK al;have n2:=k2.le;unfold Sm at hx;have X:=CD (k:=k) (c:=64) zO zO;have hr:=CC (k:=k) (c:=64) zO;obtain ⟨q,eq⟩:∃ q,q=k / 64:=⟨_,rfl⟩
 obtain ⟨r,er⟩:∃ r,r=k % 64:=⟨_,rfl⟩
 rw [<- eq] at X;rw [<- er] at hr;have ay:bu .quo .int (.int .i64 (k:Int)) (.int .i64 64)=some (.int .i64 (q:Int)):=X;have aa:bu .rem .int (.int .i64 (k:Int)) (.int .i64 64)=some (.int .i64 (r:Int)):=hr;have K:r<64:=zO;obtain ⟨n,hn⟩:∃ n,min q (ag x).length=n:=⟨_,rfl⟩
 have av:Iq (.int .i64 (q:Int)) (.int .i64 ((ag x).length:Int))=some (.int .i64 (n:Int)):=by rw [zi]; congr 2; split <;> omega
 obtain ⟨s',e0,ab⟩:=SlV.lo (ha.mono k2.sub) .i64 n zO;have e':bQ 1 a (some (.int .i64 (n:Int))) none none=some s':=e0;obtain ⟨l,t⟩:∃ l,(ag x).drop n=l:=⟨_,rfl⟩
 rw [t] at ab;have ap:Lim l:=by rw [<- t]; exact (aL x).drop n
 have aJ:l.length<=(ag x).length:=by rw [<- t,Wq]; omega
 refine zW (fE hl f d ay ha.lenV av e') ?_;refine AnsH.use (wU C zF (ab.mono (Sub.bump H2 _)) zO) ?_;rintro v M ⟨hv,am,W⟩;obtain ⟨k3,_,w3⟩:=zT H zK am;obtain ⟨N,z⟩:∃ N,l.length=N:=⟨_,rfl⟩
 have aC:lenV v=some (.int .i64 (N:Int)):=by have:=hv.lenV; rwa [z] at this
 rw [z] at W;obtain ⟨b,hb⟩:∃ b,0<N->v=.own b 0 N N 1 false/\M.get b=some (.cells (aM l) ae true)/\H.next<=b:=by
  by_cases h0:0<N
  ·obtain ⟨b,h1,h2,h3⟩:=W h0
   have:H.next<=H2.next:=n2
   exact ⟨b,fun _=>⟨h1,h2,by have:H2.next<=b:=Vn (VL _ _) h3; omega⟩⟩
  ·exact ⟨0,fun h=>absurd h h0⟩
 obtain ⟨Y,s⟩:∃ Y,val l=Y:=⟨_,rfl⟩
 have aj:∀ j,l.getD j 0=Y / B^j % B:=by
  intro j;have h1:l=ag Y:=by
   rw [<- t,ng] at s ⊢;rw [bB] at s; rw [s]
  rw [h1,jw]
 have P:Y<B^N:=by rw [<- s,<- z]; exact ul ap
 refine zW (aW hl f d aC) ?_;refine aq H [] (fun i vs H'=>∃ out,(0<N->H'.get b=some (.cells (aM out) ae true))/\(N=0->Lb H' v [])/\out.length=N/\(∀ j,j<i->out.getD j 0=Y / 2^r / B^j % B)/\(∀ j,i<=j->out.getD j 0=Y / B^j % B)) (a:=0) (N:=N) rfl (by refine zW (aE hl f d) ?_; rfl) (zV (aE hl f d)) (Vk _) zO (by simp only [U4,hl]; rfl) rfl (fun _ _ H' m h=>by
   obtain ⟨out,h1,h2,h3⟩:=h;exact ⟨out,h1,fun h0=>(h2 h0).mono (Sub.bump H' m),h3⟩) zK
  ⟨l,fun h0=>by exact zV ((hb h0).2.1),fun h0=>by
   have:l=[]:=VB zO
   subst this; exact hv.mono (Sub.bump M _),z,fun j hj=>by omega,fun j _=>aj j⟩ ?_ ?_
 ·rintro i T1 F _ hi g R D p ⟨out,b0,-,u,w,A⟩;simp only [U4,hl] at g;have w1:=p.wf;have aG:=p.le;obtain ⟨L,-,Q⟩:=hb zO;have G:=b0 zO;have aK:=p.wf _ _ G;have E:ad T1 7=.own b 0 N N 1 false:=(D.at_ 7 zU).trans (zV (aW hl f d L));have t1:ad T1 1=.int .i64 (k:Int):=(D.at_ 1 zU).trans (zV (aW hl f d d));have aA:∀ y:Nat,bu .shr .int (.int .u64 (y:Int)) (.int .i64 (r:Int))=some (.int .u64 ((y / 2^r:Nat):Int)):=fun y=>sU y r K;have ah:IntKind.i64.wrap ((i:Int)+1)=((i+1:Nat):Int):=by rw [wrap_i64] <;> omega
  have J:=A i (Vc _);refine zW (jC g E t1 R @G aa aA ah) ?_;refine iteH.split (fun h=>?_) fun h=>?_
  ·have ax:=A (i+1) zO;have aD:IntKind.i64.wrap (64-(r:Int))=((64-r:Nat):Int):=by rw [wrap_i64] <;> omega
   have gi:(out.set i (out.getD i 0 / 2^r)).getD i 0=out.getD i 0 / 2^r:=rF zO;have ai:(out.set i (out.getD i 0 / 2^r)).getD (i+1) 0=out.getD (i+1) 0:=bw zO;have U:out.getD i 0<18446744073709551616:=by rw [J]; exact VS _ zU
   have af:=sV (x:=out.getD (i+1) 0) (r:=64-r) zO (k:=.i64);have aB:out.getD i 0 / 2^r<2^(64-r):=by
    apply (VD (VY zU)).2
    rw [<- V4]
    have:64-r+r=64:=zO
    rw [this]; exact U
   have V:=wK (a:=out.getD i 0 / 2^r) (b:=out.getD (i+1) 0*2^(64-r) % B) (Wc (Xv _ _) U) (VS _ zU);rw [Js zO,Ec aB] at V;rw [Js zO] at af;have ti:bM (aM (out.set i (out.getD i 0 / 2^r))) i none=some (.int .u64 ((out.getD i 0 / 2^r:Nat):Int)):=by rw [DK (by simp; omega),gi]
   have aH:bM (aM (out.set i (out.getD i 0 / 2^r))) (i+1) none=some (.int .u64 ((out.getD (i+1) 0:Nat):Int)):=by rw [DK (by simp; omega),ai]
   refine aF ?_;refine zD (zx g E t1 R @G aa aD ah ti aH af V) ?_;refine ⟨zK,_,fun _=>rfl,fun h0=>by omega,by simp [u],fun j hj=>?_,fun j hj=>?_⟩
   ·by_cases I:j=i
    ·subst I;rw [rF (by simp; omega),J,ax];exact Bg K
    ·rw [bw zO,bw zO];exact w j zO
   ·rw [bw zO,bw zO];exact A j zO
  ·refine zW g ?_;refine ⟨zK,_,fun _=>rfl,fun h0=>by omega,by simp [u],fun j hj=>?_,fun j hj=>?_⟩
   ·by_cases I:j=i
    ·subst I;rw [rF zO,J,<- Bg K];have h0:Y / B^(j+1)=0:=WG (by
      have:j+1=N:=zO
      rw [this]; exact P)
     rw [h0]; simp
    ·rw [bw zO];exact w j zO
   ·rw [bw zO];exact A j zO
 ·rintro T1 F g D p ⟨out,b0,hz,u,w,-⟩;simp only [U4,hl] at g;have w1:=p.wf;have aG:=p.le;have E:ad T1 7=v:=(D.at_ 7 zU).trans (zV (aE hl f d));have ar:Lim out:=Iw fun j hj=>by rw [w j zO]; exact VS _ zU
  have hval:val out=Y / 2^r:=zN (fun j hj=>w j zO) (by rw [u]; exact Wc (Xv _ _) P);have ho:Lb F v out:=by
   by_cases h0:0<N
   ·obtain ⟨L,-,Q⟩:=hb h0;rw [L];exact (iX (H0:=H) (ex:=false) (b0 h0) Q u).sl
   ·have:out=[]:=VB zO
    subst this; exact hz zO
  refine zW (aw g E) ?_;refine AnsH.use (vH C zF (ho.mono (Sub.bump F _)) zO) ?_;rintro v2 H4 ⟨O,ao⟩;obtain ⟨k4,_,_⟩:=zT H zK ao;have e:val out=x / 2^k:=by
   have h1:Y=x / B^n:=by rw [<- s,<- t,ng,bB]
   have h2:x / B^n=x / B^q:=by
    by_cases Z:q<=(ag x).length
    ·rw [show n=q from by rw [<- hn,VZ Z]]
    ·have h3:=ii x;have S:(ag x).length<=q:=Xd (YR Z);rw [show n=(ag x).length from by rw [<- hn,YQ S],WG h3];exact (WG (Vu h3 (VI zU S))).symm
   have h3:k=64*q+r:=zO;rw [hval,h1,h2,V2];congr 1;rw [h3,V4,Xl]
  rw [dR ar,e] at O;refine zW g ?_;exact ⟨v2,rfl,O,zK⟩
end
def KC {X w y:Nat}:X*B+y=X / w*B*w+(X % w*B+y):=by
 have h:=Wh X w
 generalize X / w=q at *
 generalize X % w=r at *
 subst h
 grind
section
variable {tab:Nat->Option az} {H:Heap} {s:AV}
def tl (C:Code tab) (b:Wf H) {sa:AV} (ha:One sa) :
  Ans tab (.fn cV [sa]) H fun v H'=>v=.fn (.func bg) [] [.ptr H.next 0]/\H'.get H.next=some (.cells [sa] aK true)/\H.next+1<=H'.next/\Kp H H':=by
 refine cY C.q189 zU fun T hl a=>?_;refine zW (aw hl a) ?_;exact ⟨zO,zK⟩
def EV (C:Code tab) {H0:Heap} {f g:Nat} {a:List Nat} {sa:AV} (J:Nat->Heap->Prop) (A:a.length<4611686018427387904)
  (y:Kp H0 H) (h0:J 0 H) (e:∀ k H m,J k H->J k (H.up m)) (hA:∀ k H,J k H->H.get g=some (.cells [sa] aK true)/\Lb H sa a)
  (hr:∀ i k H,i+k+1=a.length->Kp H0 H->J k H->Ans tab (.round f [.int .i64 (i:Int),.int .u64 (a.getD i 0:Nat)]) H fun v H'=>v=.bool true/\Kp H0 H'/\J (k+1) H') :
  Ans tab (.ent bg [.loopv f,.ptr g 0]) H fun _ H'=>Kp H0 H'/\J a.length H':=by
 refine TU C.q193 zU fun T hl c d=>?_;obtain ⟨q1,q2⟩:=hA _ _ h0;have u:IntKind.i64.wrap ((a.length:Int)-1)=(a.length:Int)-1:=by rw [wrap_i64] <;> omega
 refine zW (dx hl c d q1 q2.lenV u) ?_;refine aP H0 [3] (fun m vs H'=>∃ k,k<=a.length/\m=a.length-k/\vs=[.int .i64 ((a.length:Int)-1-(k:Int))]/\J k H') a.length (by simp only [U4]; exact hl) rfl zK ⟨0,Vk _,rfl,by exact zV (bO hl c d @OX @Int.sub_zero),e _ _ _ h0⟩ ?_;rintro m T1 o l n j ⟨k,z,rfl,b,h⟩;simp only [Vb,Vf,Vd,and_true] at b;have w1:=j.wf;have B:=j.le;obtain ⟨q1,q2⟩:=hA _ _ h;by_cases p:k=a.length
 ·have q:¬ (0:Int)<=(a.length:Int)-1-(k:Int):=zO;subst p;refine zW (aE l b q) ?_;exact ⟨zK,e _ _ _ h⟩
 ·obtain ⟨i,hi⟩:∃ i,i+k+1=a.length:=⟨a.length-k-1,zO⟩
  have w:(a.length:Int)-1-(k:Int)=(i:Int):=zO;rw [w] at b;have r:(0:Int)<=(i:Int):=zO;have t0:ad T1 0=.loopv f:=(n.at_ 0 zU).trans (zV (aw hl c));have t1:ad T1 1=.ptr g 0:=(n.at_ 1 zU).trans (zV (aW hl c d d));have x1:=SlV.idx1 q2 .i64 i zO;have d1:=cW q2 (i:=i) zO;have s:∀ m,Ans tab (.round f [.int .i64 (i:Int),.int .u64 (a.getD i 0:Nat)]) (o.up m) fun v H'=>v=.bool true/\Kp H0 H'/\J (k+1) H':=fun m=>hr i k _ hi (j.up m) (e _ _ _ h);have t:IntKind.i64.wrap ((i:Int)-1)=(a.length:Int)-1-((k+1:Nat):Int):=by rw [wrap_i64] <;> omega
  refine zW (jC l b r t0 t1 q1 x1 d1) ?_;refine AnsH.eq (s _) fun H2 ⟨k2,x⟩=>?_;refine zW (aE l b t) ?_;exact ⟨zK,a.length-(k+1),zO,k+1,zO,rfl,rfl,e _ _ _ x⟩
def Gz (C:Code tab) (i:Wf H) {a b:AV} {x y:Nat} (ha:bA H a x) (hb:bA H b y) (hx:Sm x) (hy:Sm y) (h0:0<y) :
  Ans tab (.fn oH [a,b]) H fun v H'=>v=.int .i64 0/\Kp H H':=by
 refine bk C.q179 zU fun T hl c d=>?_;refine zW (aE hl c d) ?_;refine AnsH.eq (iA C zF (ha.mono (Sub.bump H _)) hx) fun H2 e=>?_;obtain ⟨k2,_,k⟩:=zT H zK e;refine zW (aE hl c d) ?_;refine AnsH.eq (iA C zF (hb.mono k2.sub) hy) fun g f=>?_;obtain ⟨j,_,l⟩:=zT H zK f;have h:=cm y;have hne:¬ ((ag y).length:Int)=0:=zO;refine zW (bO hl c d hb.lenV hne) ?_;exact zK
set_option maxHeartbeats 1000000 in
def OK (C:Code tab) (hw:Wf H) {a:AV} {x w:Nat} (ha:bA H a x) (hx:Sm x) (h0:0<w) (aj:w<18446744073709551616) :
  Ans tab (.fn uC [a,.int .u64 (w:Int)]) H fun v H'=>∃ q,v=.tup [q,.int .u64 ((x % w:Nat):Int),.int .i64 0]/\bA H' q (x / w)/\Kp H H':=by
 refine bk C.q180 zU fun T hl c d=>?_;have al:¬ (w:Int)=0:=zO;unfold Sm at hx;obtain ⟨N,D⟩:∃ N,(ag x).length=N:=⟨_,rfl⟩
 have af:∀ H' id,Io H' id ae 1 8 [.int .u64 0] (.int .i64 (N:Int)) (.int .i64 (N:Int))=some (.own id 0 N N 1 true,H'.put id (.cells (aM (List.replicate N 0)) ae true)):=fun H' id =>
  (jg H' id ae 1 8 [.int .u64 0] .i64 .i64 N zO zO rfl).trans (by rw [lB])
 have ab:lenV a=some (.int .i64 (N:Int)):=by have:=ha.lenV; rwa [D] at this
 refine zW (aE hl c d) ?_;refine AnsH.eq (iA C zF (ha.mono (zG H)) hx) fun H2 z=>?_;obtain ⟨k2,_,w2⟩:=zT H zK z;have n2:=z.le;have p0:H2.get H.next=some (.cells [.int .u64 (w:Int)] ae true):=z.get (cy)
 have p1:H2.get (H.next+1)=some (.cells [.nilSl] aK true):=z.get (cy);have p2:H2.get (H.next+2)=some (.cells [.int .u64 0] ae true):=z.get (cy);have l0:=k2.wf _ _ p0;have l1:=k2.wf _ _ p1;have l2:=k2.wf _ _ p2;refine zW (jB hl c d p0 p1 p2 al ab af) ?_;refine AnsH.use (tl C zF ha.one) ?_;rintro v b ⟨rfl,P,ah,A⟩;simp only [next_put,dr] at P ah ⊢;obtain ⟨k3,_,w3⟩:=zT H zK A;have q0:b.get H.next=some (.cells [.int .u64 (w:Int)] ae true):=A.get (zV p0)
 have q1:b.get (H.next+1)=some (.cells [.own (H2.next+5) 0 N N 1 true] aK true):=A.get (cy);have q2:b.get (H.next+2)=some (.cells [.int .u64 0] ae true):=A.get (zV p2);have qb:b.get (H2.next+5)=some (.cells (aM (List.replicate N 0)) ae true):=A.get (cy);have ap:∀ j,(List.replicate N 0).getD j 0=0:=fun j=>by simp [U5,We]; split <;> rfl
 have W:x / B^N=0:=WG (by rw [<- D]; exact ii x);refine zW (aE hl c d) ?_;refine ut (fi:=bg) (args:=[.loopv b.next,.ptr (H2.next+9) 0]) (by refine zW (aE hl c d) ?_; rfl) ?_
 generalize he:Ent.loop _ _ _ _ _ _=e0
 have L:Kp H ((b.up 1).put b.next e0):=zK;have aH:=L.le;refine (EV C (H0:=H) (a:=ag x) (sa:=a) (fun k H'=>H'.get b.next=some e0/\H'.get H.next=some (.cells [.int .u64 (w:Int)] ae true)/\H'.get (H.next+1)=some (.cells [.own (H2.next+5) 0 N N 1 true] aK true) /\
   (∃ (out:List Nat) (r:Nat),H'.get (H2.next+5)=some (.cells (aM out) ae true)/\out.length=N/\Lim out/\H'.get (H.next+2)=some (.cells [.int .u64 (r:Int)] ae true)/\r=x / B^(N-k) % w/\val out=x / B^(N-k) / w*B^(N-k)/\∀ j,j<N-k->out.getD j 0=0) /\
   H'.get (H2.next+9)=some (.cells [a] aK true)/\Lb H' a (ag x)) zO L
  ⟨by exact cy,by exact zV q0,by exact zV q1,⟨List.replicate N 0,0,by exact zV qb,by simp,Lim.replicate N,by refine zW q2 ?_; rfl,by rw [ZG,W,Nat.zero_mod],by rw [ZG,W,Nat.zero_div,Yz,gw],fun j _=>ap j⟩,by exact zV P,ha.mono L.sub⟩ (fun _ _ _ h=>h) (fun k H' h=>⟨h.2.2.2.2.1,h.2.2.2.2.2⟩) ?_).mono ?_
 ·rintro i k H1 aC t ⟨f,s,g,⟨out,r,m,I,J,n,hr,hval,K⟩,j5,-⟩;rw [<- he] at f;have aN:=t.wf _ _ f;have ar:=t.wf _ _ s;have av:=t.wf _ _ g;have aw:=t.wf _ _ m;have ax:=t.wf _ _ n;have U:r<w:=by rw [hr]; exact VS _ h0
  have Z:N-k=i+1:=zO;have aa:N-(k+1)=i:=zO;have aB:i<N:=zO;rw [Z] at hr hval K;obtain ⟨y,hy⟩:∃ y,(ag x).getD i 0=y:=⟨_,rfl⟩
  have am:y<18446744073709551616:=by rw [<- hy]; exact (aL x).at i
  rw [hy];have w1:=t.wf;have aG:=t.le;have ao:y=x / B^i % B:=by rw [<- hy,jw]
  refine uP f rfl ?_;refine zW (aW hl c d f) ?_
  generalize ad:Ent.loop _ _ _ _ LoopState.busy none=Y
  refine aF ?_;refine zD (jC hl c d f s g m n) ?_;refine AnsH.use (BU C zF U am aj) ?_;rintro v o ⟨rfl,u⟩;have e:Kp H o:=Kp.trans zK u;have aJ:=e.le;have w4:=e.wf;have r0:o.get b.next=some Y:=u.get (cy)
  have r1:o.get H.next=some (.cells [.int .u64 (w:Int)] ae true):=u.get (zV s)
  have r2:o.get (H.next+1)=some (.cells [.own (H2.next+5) 0 N N 1 true] aK true):=u.get (zV g);have r3:o.get (H2.next+5)=some (.cells (aM out) ae true):=u.get (zV m);have O:o.get (H.next+2)=some (.cells [.int .u64 (r:Int)] ae true):=u.get (zV n);have r5:o.get (H2.next+9)=some (.cells [a] aK true):=u.get (zV j5);have aO:=e.wf _ _ r0;have ay:=e.wf _ _ r1;have aA:=e.wf _ _ r2;have aP:=e.wf _ _ r3;have aQ:=e.wf _ _ O;refine zD (yZ hl c d f s g m n r0 r1 r2 r3 O) ?_;rw [Ar];have hX:x / B^i=x / B^(i+1)*B+y:=by
   rw [ao,VG,<- V2,Vw];exact (Wh _ _).symm
  have S:x / B^i=x / B^(i+1) / w*B*w+(r*B+y):=by
   rw [hX,hr]; exact KC
  have ai:(r*B+y) / w<B:=by
   apply (VD h0).2
   have:(r+1)*B<=w*B:=Vj B U
   rw [Wa] at this;rw [Vw B]; unfold B at *; omega
  have V:=jD (l:=out) (k:=i) (v:=(r*B+y) / w) zO;rw [K i zO,XS,WM,hval] at V;have M:Kp H (((o.put (H2.next+5) (.cells (aM (out.set i ((r*B+y) / w))) ae true)).put (H.next+2) (.cells [.int .u64 (((r*B+y) % w:Nat):Int)] ae true)).put b.next e0):=zK;have aq:=M.le;refine zW (jB ad he r0 r1 r2 r3 O r5 aa) ?_;refine ⟨zK,⟨_,_,rfl,by simp [I],lp J ai,rfl,?_,?_,fun j hj=>?_⟩,ha.mono (zG H)⟩
  ·rw [S,Nat.mul_add_mod_self_right]
  ·rw [V,S,XO (x / B^(i+1) / w*B*w),YO _ _ h0,VG]
   grind
  ·rw [bw zO];exact K j zO
 ·rintro _ H' ⟨p,f,s,g,⟨out,r,m,I,J,n,hr,hval,-⟩,-⟩;have hlt:=p.wf _ _ f;have ar:=p.wf _ _ s;have av:=p.wf _ _ g;have aw:=p.wf _ _ m;have ax:=p.wf _ _ n;have X:=p.wf;have aD:=p.le;refine .inl ⟨f,?_⟩;refine zW (aW hl c d D) ?_;rw [D,Y5,Ye,ZW] at hr hval;rw [WF] at hval;refine aF ?_;refine zD (fE hl c d s g m n) ?_;have aR:=k2.le;have Q:((H'.up 6).kill b.next).get (H2.next+5)=some (.cells (aM out) ae true):=by exact zV m
  have w6:Wf (H'.up 6):=X.bump 6;have M:Kp H (H'.up 6):=p.up 6;have aq:=M.le;refine AnsH.eq (p9 C zF (rw':=true) I Q zO) fun G F=>?_;obtain ⟨e,_,X⟩:=zT H zK F;have r1:G.get (H.next+1)=some (.cells [.own (H2.next+5) 0 N N 1 true] aK true):=F.get (zV g);have r2:G.get (H.next+2)=some (.cells [.int .u64 (r:Int)] ae true):=F.get (zV n);have r3:G.get (H2.next+5)=some (.cells (aM out) ae true):=F.get Q;have ay:=e.wf _ _ r1;have aA:=e.wf _ _ r2;obtain ⟨E,R⟩:=sv out;rw [dR J,hval] at R ⊢;refine zD (jB hl c d s g m n r1 r2) ?_;rw [hr];refine ⟨_,rfl,Eb (E:=E) (rw':=true) ?_,zK⟩;rw [<- R];exact zV r3
end
def Ct {tab:Nat->Option az} {rd:Bool} {a rest:ACode} {l:Nat} {T:Tm} {H:Heap} {Q:Ex->Tm->Heap->Prop} (h:WC tab rd a T H (NK Q)):WC tab rd (.scopeL a l rest) T H Q:=by
 obtain ⟨x,T',H',⟨N,g⟩,b⟩:=eY a T H _ h.run;refine ⟨show ∃ x T' H',Pr tab rd (.scopeL a l rest) T H x T' H'/\Q x T' H' from ⟨x,T',H',⟨N,fun m n hm hn=>?_⟩,?_⟩⟩
 ·simp only [aN,g m n hm hn];cases x <;> first | rfl | exact b.elim
 ·cases x <;> first | exact b | exact b.elim
def oO:∀ {l:List Nat} (_:Lim l) (j:Nat),l.getD j 0=val l / B^j % B
 | [],_,j=>by simp [val]
 | a :: t,h,0=>by
  have:=h.head
  simp only [XG,val,Ye,ZW,XJ];exact (VE this).symm
 | a :: t,h,j+1=>by
  have b:=oO h.tail j;have ha:=h.head;rw [WE,b];simp only [val];rw [VG,Vw (B^j),<- V2,YX _ _ zU,WG ha,VN]
structure Dv (H:Heap) (d rb bb M n:Nat) (x1:Bool) (R L:List Nat):Prop where
 hd:H.get d=some (.cells [.own rb 0 M M 1 x1,.own bb 0 n n 1 true] gy true)
 hr:H.get rb=some (.cells (aM R) ae true)
 hb:H.get bb=some (.cells (aM L) ae true)
 lr:R.length=M
 ll:n<=L.length
 ne:rb≠bb
 limR:Lim R
 limL:Lim L
def FrX (b:Nat) (H H':Heap):Prop:=∀ c e,c≠b->H.get c=some e->H'.get c=some e
def FrX.trans {b:Nat} {H H' H'':Heap} (h:FrX b H H') (h':FrX b H' H''):FrX b H H'':=fun c e hc he=>h' c e hc (h c e hc he)
def Dv.up {H:Heap} {d rb bb M n:Nat} {x1:Bool} {R L:List Nat} (h:Dv H d rb bb M n x1 R L) (k:Nat):Dv (H.up k) d rb bb M n x1 R L:=⟨h.hd,h.hr,h.hb,h.lr,h.ll,h.ne,h.limR,h.limL⟩
def Dv.kp {H H':Heap} {d rb bb M n:Nat} {x1:Bool} {R L:List Nat} (h:Dv H d rb bb M n x1 R L) (a:Kp H H'):Dv H' d rb bb M n x1 R L:=⟨a.get h.hd,a.get h.hr,a.get h.hb,h.lr,h.ll,h.ne,h.limR,h.limL⟩
def Dv.put {H:Heap} {d rb bb M n b:Nat} {x1:Bool} {R L:List Nat} {e:Ent} (h:Dv H d rb bb M n x1 R L) (h1:d≠b) (h2:rb≠b) (h3:bb≠b):Dv (H.put b e) d rb bb M n x1 R L:=⟨by rw [aB h1]; exact h.hd,by rw [aB h2]; exact h.hr,by rw [aB h3]; exact h.hb,h.lr,h.ll,h.ne,h.limR,h.limL⟩
def Dv.ndr {H:Heap} {d rb bb M n:Nat} {x1:Bool} {R L:List Nat} (h:Dv H d rb bb M n x1 R L):d≠rb:=fun e=>by
 have h1:=h.hd;rw [e,h.hr] at h1
 injection h1 with h1; injection h1 with _ h2; exact absurd h2 zU
section
variable {b V W P f sec th hi un q r N:Nat}
def IC (hV:(hi*b+un)*P<=V) (hW:W<(N*b+th+1)*P) (e:q*hi+r=N) (h:r*b+th<q*un) (hV0:0<V):0<q/\W / V<=q-1:=by
 have h1:W<q*V:=by
  refine Vu hW ?_;refine Vn (Vj P ?_) (Vn (XN (VO q (hi*b+un) P)) (WS q hV));rw [<- e,VV,Wa,<- VO];omega
 have h2:W / V<q:=(VD hV0).2 h1;exact ⟨Wc (Vk _) h2,Yp h2⟩
def ID (hV:(hi*b+un)*P<=V) (hW:W<(N*b+th+1)*P) (d:th<b) (c:0<hi) (hV0:0<V):W / V<=N / hi:=by
 apply XQ
 apply (VD hV0).2
 have h0:=Wh N hi;have h1:=VS N c;have h2:N+1<=(N / hi+1)*hi:=by
  rw [Wa,Ya,Vw (N / hi)]
  generalize hi*(N / hi)=t at *
  omega
 refine Vu hW ?_;refine Vn (Vj P ?_) (Vn (XN (VO (N / hi+1) (hi*b+un) P)) (WS _ hV));have h3:=Vj b h2;rw [VV,<- VO];have a:(N+1)*b=N*b+b:=by rw [Wa,Ya]
 refine Vn ?_ (Vn h3 (VL _ _));rw [a];exact Z2 d _
def Sd (hs:sec<b) (a:f<hi) (h0:0<b):(f*b+sec) / hi<b:=by
 apply (VD zO).2
 have h1:(f+1)*b<=hi*b:=Vj b a;rw [Wa,Ya] at h1;rw [Vw b]; omega
end
structure GuessH (V W P f sec th hi un:Nat):Prop where
 hV:(hi*B+un)*P<=V
 hW:W<((f*B+sec)*B+th+1)*P
 hWV:W<V*B
 hV0:0<V
structure GuessI (V W f sec hi q r:Nat):Prop where
 e:q*hi+r=f*B+sec
 ge:W / V<=q
section
variable {V W P f sec th hi un q r ov lw:Nat}
def GuessI.step (G:GuessH V W P f sec th hi un) (I:GuessI V W f sec hi q r) (h:r*B+th<q*un):0<q/\GuessI V W f sec hi (q-1) (r+hi):=by
 obtain ⟨h1,h2⟩:=IC G.hV G.hW I.e h G.hV0;refine ⟨h1,?_,h2⟩;have h3:q*hi=(q-1)*hi+hi:=by
  obtain ⟨t,rfl⟩:∃ t,q=t+1:=⟨q-1,zO⟩
  rw [WR,W8]
 have:=I.e
 rw [h3] at this;rw [<- this,Wj,XO hi]
def GuessI.init (G:GuessH V W P f sec th hi un) (b:th<B) (hs:sec<B) (a:f<hi):GuessI V W f sec hi ((f*B+sec) / hi) ((f*B+sec) % hi)/\(f*B+sec) / hi<B:=by
 refine ⟨⟨?_,ID G.hV G.hW b (Wc (Vk _) a) G.hV0⟩,Sd hs a zU⟩;rw [Vw]; exact Wh _ _
def GuessH.max (G:GuessH V W P f sec th hi un):W / V<=18446744073709551615:=by
 have h:=G.hWV;rw [Vw] at h;exact XQ ((VD G.hV0).2 h)
def Qo (a:q*un / B=ov) (b:th<B) (c:r<ov):r*B+th<q*un:=by
 have h:=Wh (q*un) B;rw [a] at h;rw [<- h];have h2:(r+1)*B<=ov*B:=Vj B c;rw [Wa,Ya,Vw ov] at h2;refine Vu (Y4 b _) (Vn h2 (VL _ _))
def Qp (a:q*un / B=ov) (b:q*un % B=lw) (c:th<lw):ov*B+th<q*un:=by
 have h:=Wh (q*un) B;rw [a,b] at h;rw [<- h,Vw];exact Y4 c _
end
section
variable {tab:Nat->Option az} {H:Heap}
set_option maxHeartbeats 1000000 in
def Mc (C:Code tab) (hw:Wf H) {d rb bb M m b:Nat} {x1:Bool} {R L:List Nat} (D:Dv H d rb bb M (m+2) x1 R L) (aq:b+(m+2)<M) (hM:M<2199023255552)
  {V W P:Nat} (G:GuessH V W P (R.getD (b+(m+2)) 0) (R.getD (b+(m+1)) 0) (R.getD (b+m) 0) (L.getD (m+1) 0) (L.getD m 0)) :
  Ans tab (.fn gM [.ptr d 0,.int .i64 (b:Int)]) H fun v H'=>∃ q:Nat,v=.int .u64 (q:Int)/\q<B/\W / V<=q/\Kp H H':=by
 obtain ⟨hd,hr,hb,lr,ll,ne,limR,limL⟩:=D;refine bk C.q183 zU fun T hl e g=>?_;obtain ⟨hi,J⟩:∃ hi,L.getD (m+1) 0=hi:=⟨_,rfl⟩
 obtain ⟨un,S⟩:∃ un,L.getD m 0=un:=⟨_,rfl⟩
 obtain ⟨f,F⟩:∃ f,R.getD (b+(m+2)) 0=f:=⟨_,rfl⟩
 obtain ⟨sec,es⟩:∃ sec,R.getD (b+(m+1)) 0=sec:=⟨_,rfl⟩
 obtain ⟨th,Q⟩:∃ th,R.getD (b+m) 0=th:=⟨_,rfl⟩
 have z:hi<B:=J ▸ limL.at _;have ap:un<B:=S ▸ limL.at _;have fB:f<B:=F ▸ limR.at _;have ae:sec<B:=es ▸ limR.at _;have af:th<B:=Q ▸ limR.at _;rw [J,S,F,es,Q] at G;have ab:IntKind.i64.wrap ((b:Int)+((m+2:Nat):Int))=((b+(m+2):Nat):Int):=by rw [wrap_i64] <;> omega
 have aj:IntKind.i64.wrap (((b+(m+2):Nat):Int)-1)=((b+(m+1):Nat):Int):=by rw [wrap_i64] <;> omega
 have al:IntKind.i64.wrap (((b+(m+2):Nat):Int)-2)=((b+m:Nat):Int):=by rw [wrap_i64] <;> omega
 have am:IntKind.i64.wrap (((m+2:Nat):Int)-1)=((m+1:Nat):Int):=by rw [wrap_i64] <;> omega
 have ao:IntKind.i64.wrap (((m+2:Nat):Int)-2)=(m:Int):=by rw [wrap_i64] <;> omega
 refine zW (aE hl e g) ?_;refine Ct ?_;refine zW (aW hl e g hd) ?_;refine aF ?_;refine zD (zx hl e g hd hr hb ab aj am F es J) ?_;refine iteH.split (fun h1=>?_) fun h1=>?_
 ·simp only [js,kN,jr,my,Xt,WV];refine zW (aE hl e g) ?_;exact ⟨18446744073709551615,by simp,by decide,G.max,zK⟩
 ·simp only [js,kN,jr,my,Xt,WV];refine zW (aE hl e g) ?_;refine AnsH.use (BU C zF zO ae z) ?_;rintro v H2 ⟨rfl,ag⟩;obtain ⟨k2,_,w2⟩:=zT H zK ag;have d2:=k2.get hd;have r2:=k2.get hr;have b2:=k2.get hb;refine zW (aE hl e g) ?_;refine aF ?_;refine zD (lP hl e g d2 r2 b2 ab al ao S Q) ?_;refine Ct ?_;refine zW (aE hl e g) ?_;obtain ⟨A,hq0⟩:=GuessI.init G af ae zO;have Z:(f*B+sec) % hi<B:=Y7 (VS _ zO) z;obtain ⟨q0,N⟩:∃ q0,(f*B+sec) / hi=q0:=⟨_,rfl⟩
  obtain ⟨r0,O⟩:∃ r0,(f*B+sec) % hi=r0:=⟨_,rfl⟩
  rw [N] at A hq0;rw [O] at A Z;simp only [N,O];clear N O;refine aP H [9,10] (fun k vs H'=>∃ q r:Nat,vs=[.int .u64 (q:Int),.int .u64 (r:Int)]/\k=q/\GuessI V W f sec hi q r/\r<B/\q<B) q0 (by simp only [U4]; exact hl) rfl zK ⟨_,_,by exact zV (aE hl e g),rfl,A,Z,hq0⟩ ?_;rintro k T1 H1 i U Y ⟨q,r,hv,ai,I,aa,u⟩;obtain rfl:=ai.symm;simp only [Vb,Vf,Vd,and_true] at hv;obtain ⟨v9,n⟩:=hv;have w1:=Y.wf;have ar:=Y.le;have u8:ad T1 8=.int .u64 (hi:Int):=(U.at_ 8 zU).trans (zV (aE hl e g));have j:ad T1 11=.int .u64 (un:Int):=(U.at_ 11 zU).trans (zV (aE hl e g));have l:ad T1 12=.int .u64 (th:Int):=(U.at_ 12 zU).trans (zV (aE hl e g));refine zW (dx i v9 n u8 j l) ?_;refine AnsH.use (qf C zF u ap) ?_;rintro v H3 ⟨rfl,ah⟩;obtain ⟨k3,_,w3⟩:=zT H zK ah;obtain ⟨ov,y⟩:∃ ov,q*un / B=ov:=⟨_,rfl⟩
  obtain ⟨lw,K⟩:∃ lw,q*un % B=lw:=⟨_,rfl⟩
  rw [y,K];have s1:r<ov->0<q/\GuessI V W f sec hi (q-1) (r+hi):=fun c=>I.step G (Qo y af c);have s2:ov=r->th<lw->0<q/\GuessI V W f sec hi (q-1) (r+hi):=fun c c'=>I.step G (by rw [<- c]; exact Qp y K c');clear y K;by_cases w:ov<r
  ·refine zW (fE i v9 n u8 j l @w) ?_;exact ⟨q,rfl,u,I.ge,zK⟩
  ·by_cases x:ov=r
   ·by_cases X:lw<=th
    ·subst x;refine zW (jC i v9 n u8 j l @w X) ?_;exact ⟨q,rfl,u,I.ge,zK⟩
    ·obtain ⟨p1,s⟩:=s2 x zO;clear s1 s2;subst x;have z1:=um (a:=q) p1 u;refine zW (jB i v9 n u8 j l @w X z1) ?_;refine AnsH.eq (jA C _ ov hi 0 aa z zO) fun H4 E=>?_;subst E;have o:(fD ov hi 0).1=(ov+hi) % B:=by simp [fD]
     have p:(fD ov hi 0).2=(ov+hi) / B:=by simp [fD]
     refine zW (jB i v9 n u8 j l z1 o p) ?_;refine iteH.split (fun h=>?_) fun h=>?_
     ·have t:ov+hi<B:=by unfold B at *; omega
      refine zW (jB i v9 n u8 j l z1 o p) ?_;exact ⟨zK,q-1,zO,q-1,ov+hi,by rw [VE t],rfl,s,t,zO⟩
     ·refine zW (jB i v9 n u8 j l z1 o p) ?_;exact ⟨q-1,rfl,zO,s.ge,zK⟩
   ·obtain ⟨p1,s⟩:=s1 zO;have z1:=um (a:=q) p1 u;refine zW (jB i v9 n u8 j l @w @x z1) ?_;refine AnsH.eq (jA C _ r hi 0 aa z zO) fun H4 E=>?_;subst E;have o:(fD r hi 0).1=(r+hi) % B:=by simp [fD]
    have p:(fD r hi 0).2=(r+hi) / B:=by simp [fD]
    refine zW (jB i v9 n u8 j l z1 o p) ?_;refine iteH.split (fun h=>?_) fun h=>?_
    ·have t:r+hi<B:=by unfold B at *; omega
     refine zW (jB i v9 n u8 j l z1 o p) ?_;exact ⟨zK,q-1,zO,q-1,r+hi,by rw [VE t],rfl,s,t,zO⟩
    ·refine zW (jB i v9 n u8 j l z1 o p) ?_;exact ⟨q-1,rfl,zO,s.ge,zK⟩
end
def FrX.kp {b k:Nat} {H a H2:Heap} (h:FrX b H a) (d:Kp (a.up k) H2):FrX b H H2:=fun c e hc he=>d.get (h c e hc he)
def FrX.put {b:Nat} {e':Ent} {H a:Heap} (h:FrX b H a):FrX b H (a.put b e'):=fun c e hc he=>by rw [aB hc]; exact h c e hc he
def FrX.up {b:Nat} {H a:Heap} (h:FrX b H a) (k:Nat):FrX b H (a.up k):=h
def FrX.up0 (b k:Nat) (H:Heap):FrX b H (H.up k):=fun _ _ _ h=>h
def OY {p c:Nat} (hp:p<=340282366920938463426481119284349108225) (hc:c<18446744073709551616) :
  (p / 18446744073709551616+(p % 18446744073709551616+c) / 18446744073709551616) % 18446744073709551616=(p+c) / 18446744073709551616/\(p % 18446744073709551616+c) % 18446744073709551616=(p+c) % 18446744073709551616/\(p+c) / 18446744073709551616<18446744073709551616:=zO
def Qm {x y:Nat} (hx:x<B) (hy:y<B):x*y<=340282366920938463426481119284349108225 :=
 Vn (WA (XQ hx) (XQ hy)) zU
def JX {o w l:Nat} (a:o<18446744073709551616) (b:w<18446744073709551616) (hl:l<=1):o+(jR o w l).2*18446744073709551616=(jR o w l).1+w+l/\(jR o w l).1<18446744073709551616:=by
 unfold jR B;simp only;split <;> omega
def qJ:∀ {l:List Nat} {m:Nat},Lim l->(∀ i,m<=i->l.getD i 0=0)->val l<B^m
 | [],m,_,_=>by simp only [val]; exact VY zU
 | a :: t,0,h,b=>by
  have h0:=b 0 (Vc _);simp only [XG] at h0
  have:=qJ (l:=t) (m:=0) h.tail fun i _=>by have:=b (i+1) (Vk _); rwa [WE] at this
  simp only [Ye] at this;have h1:val t=0:=Nat.lt_one_iff.1 this;simp only [val,h0,h1,Ye];decide
 | a :: t,m+1,h,b=>by
  have c:=qJ (l:=t) (m:=m) h.tail fun i hi=>by have:=b (i+1) zO; rwa [WE] at this
  have ha:=h.head;simp only [val,VG];have h2:(val t+1)*B<=B^m*B:=Vj B c;rw [Wa,Ya,Vw] at h2;refine Vu ?_ h2;rw [XO];exact Y4 ha _
structure TakeI (a q X j:Nat) (L out:List Nat) (c l:Nat):Prop where
 e:val out+B^a*(q*val (L.take j))=X+B^(a+j)*(c+l)
def NB {P A X g h b c l c' a o d w f:Nat} (e:g+A=X+P*(c+l)) (k:h+P*o=g+P*d) (h1:f+c=c'*b+w) (h2:o+a*b=d+w+l):h+(A+P*f)=X+P*(c'*b+a*b):=by
 have i:=congrArg (P * ·) h1;have j:=congrArg (P * ·) h2;simp only [VV] at e i j ⊢
 generalize P*f=x1 at *
 generalize P*(c'*b)=x2 at *
 generalize P*(a*b)=x3 at *
 generalize P*o=m at *
 generalize P*d=n at *
 generalize P*w=p at *
 generalize P*l=q at *
 generalize P*c=r at *
 omega
def NC {P A X f g b c l a o d:Nat} (e:f+A=X+P*(c+l)) (i:g+P*o=f+P*d) (h2:o+a*b=d+c+l):g+A=X+P*(a*b):=by
 have h:=congrArg (P * ·) h2;simp only [VV] at e h
 generalize P*(a*b)=x3 at *
 generalize P*o=j at *
 generalize P*d=k at *
 generalize P*l=m at *
 generalize P*c=n at *
 omega
def TakeI.step {a q X j c l c' b d w:Nat} {L out:List Nat} (I:TakeI a q X j L out c l) (hj:a+j<out.length) (h1:q*L.getD j 0+c=c'*B+w) (h2:out.getD (a+j) 0+b*B=d+w+l):TakeI a q X (j+1) L (out.set (a+j) d) c' b:=by
 refine ⟨?_⟩;have f:=jD (l:=out) (k:=a+j) (v:=d) hj
 have:=NB I.e f h1 h2
 rw [dl,VV,VV];have e:B^a*(q*(B^j*L.getD j 0))=B^(a+j)*(q*L.getD j 0):=by rw [V4,YE q,VO]
 have e3:B^(a+(j+1))*(c'+b)=B^(a+j)*(c'*B+b*B):=by rw [<- Wj,VG,VO,Vw B,Wa]
 rw [e,e3];exact this
section
variable {tab:Nat->Option az} {H:Heap}
set_option maxHeartbeats 1000000 in
def OI (C:Code tab) {H0:Heap} (hk:Kp H0 H) {d rb bb M n a q X:Nat} {x1:Bool} {R L:List Nat} (D:Dv H d rb bb M n x1 R L) (av:H0.next<=rb) (ar:a+n<M) (hM:M<2199023255552) (hq:q<18446744073709551616) (hX:val R=X) (hz:∀ i,a+n<i->R.getD i 0=0) :
  Ans tab (.fn ib [.ptr d 0,.int .u64 (q:Int),.int .i64 (a:Int)]) H fun v H'=>∃ (R':List Nat) (l:Nat),v=.bool (decide (0<l))/\l<=1/\Dv H' d rb bb M n x1 R' L/\val R'+B^a*(q*val (L.take n))=X+B^(a+n+1)*l/\(∀ i,a+n<i->R'.getD i 0=0)/\Kp H0 H'/\FrX rb H H':=by
 have ndr:=D.ndr;obtain ⟨hd,hr,hb,lr,ll,ne,limR,limL⟩:=D;have w0:=hk.wf;have ax:=hk.le;have am:TakeI a q X 0 L R 0 0:=⟨by simp [val,hX]⟩
 clear hX;refine ni C.q184 zU fun T hl e g f=>?_;refine zW (bO hl e g f hd) ?_;refine aq H0 [7,8] (fun j vs H'=>∃ (out:List Nat) (c l:Nat),vs=[.int .u64 (c:Int),.int .u64 (l:Int)]/\H'.get rb=some (.cells (aM out) ae true)/\out.length=M/\Lim out/\c<18446744073709551616/\l<=1/\TakeI a q X j L out c l/\(∀ i,a+n<i->out.getD i 0=0)/\FrX rb H H') (a:=0) (N:=n) rfl (by refine zW (aW hl e g f) ?_; rfl) (zV (aW hl e g f)) (Vk _) zO (by simp only [U4,hl]; rfl) rfl (fun _ _ _ _ h=>h) zK
  ⟨R,0,0,by refine zW (aW hl e g f) ?_; rfl,by exact zV hr,lr,limR,by decide,Vk _,am,hz,FrX.up0 _ _ _⟩ ?_ ?_
 ·rintro j T1 U _ hj b J E F ⟨out,c,l,t,b0,Z,P,hc,K,I,af,A⟩;simp only [U4,hl] at b;simp only [Vb,Vf,Vd,and_true] at t;obtain ⟨r,s⟩:=t;have w1:=F.wf;have ao:=F.le;have d1:U.get d=some (.cells [.own rb 0 M M 1 x1,.own bb 0 n n 1 true] gy true):=A _ _ ndr hd;have b1:U.get bb=some (.cells (aM L) ae true):=A _ _ (Ne.symm ne) hb;have t0:ad T1 0=.ptr d 0:=(E.at_ 0 zU).trans (zV (aw hl e));have t1:ad T1 1=.int .u64 (q:Int):=(E.at_ 1 zU).trans (zV (bO hl e g f g));have p:ad T1 2=.int .i64 (a:Int):=(E.at_ 2 zU).trans (zV (bO hl e g f f));have S:ad T1 18=.own bb 0 n n 1 true:=(E.at_ 18 zU).trans (zV (aW hl e g f));obtain ⟨y,hy⟩:∃ y,L.getD j 0=y:=⟨_,rfl⟩
  have al:y<18446744073709551616:=by rw [<- hy]; exact limL.at j
  obtain ⟨o,m⟩:∃ o,out.getD (a+j) 0=o:=⟨_,rfl⟩
  have Q:o<18446744073709551616:=by rw [<- m]; exact P.at _
  refine zW (np b r s t0 t1 p S J b1 hy) ?_;refine AnsH.use (qf C zF hq al) ?_;rintro v H2 ⟨rfl,Y⟩;obtain ⟨k2,_,w2⟩:=zT H0 zK Y;have ai:FrX rb H H2:=A.kp Y;have d2:=ai _ _ ndr hd;have r2:H2.get rb=some (.cells (aM out) ae true):=Y.get b0;have aA:=k2.wf _ _ r2;obtain ⟨q1,q2,q3⟩:=OY (Qm hq al) hc;have aa:(q*y+c) % 18446744073709551616<18446744073709551616:=VS _ zU;have V:=Wh (q*y+c) 18446744073709551616;obtain ⟨c',ec⟩:∃ c',(q*y+c) / 18446744073709551616=c':=⟨_,rfl⟩
  obtain ⟨lw,ew⟩:∃ lw,(q*y+c) % 18446744073709551616=lw:=⟨_,rfl⟩
  rw [ec] at q1 q3 V;rw [ew] at q2 aa V;obtain ⟨f1,G⟩:=JX (o:=o) (w:=lw) (l:=l) Q aa K;have O:=vV o lw l;obtain ⟨u,z⟩:∃ u,(jR o lw l).1=u:=⟨_,rfl⟩
  obtain ⟨l2,x⟩:∃ l2,(jR o lw l).2=l2:=⟨_,rfl⟩
  rw [z,x] at f1;rw [z] at G;rw [x] at O;have I2:TakeI a q X (j+1) L (out.set (a+j) u) c' l2:=I.step zO (w:=lw) (by rw [hy,<- V,Vw]) (by rw [m]; exact f1);clear V f1;have aj:IntKind.i64.wrap ((a:Int)+(j:Int))=((a+j:Nat):Int):=by rw [wrap_i64] <;> omega
  refine zW (jC b r s t0 t1 p S J) ?_;refine AnsH.eq (jA C _ (q*y % B) c 0 (VS _ zU) hc zO) fun H3 e3=>?_;subst e3;have ag:(fD (q*y % B) c 0).1=lw:=by simp only [fD,WM]; exact q2
  have ah:(fD (q*y % B) c 0).2=(q*y % 18446744073709551616+c) / 18446744073709551616:=by simp only [fD,WM]
  refine zW (lP b r s t0 t1 p S J ag ah q1) ?_;clear ag ah q1 q2;refine aF ?_;refine zD (zx b r s t0 t1 p S J d2 r2 aj m) ?_;refine AnsH.eq (xP C _ o lw l Q aa K) fun H4 W=>?_;subst W;rw [z,x];refine zD (zx b r s t0 t1 p S J d2 r2 aj m) ?_;refine ⟨zK,_,_,_,rfl,rfl,by simp [Z],lp P G,q3,O,I2,fun i hi=>?_,(ai.up _).put⟩;rw [bw zO];exact af i hi
 ·rintro T1 U b E F ⟨out,c,l,t,b0,Z,P,hc,K,I,af,A⟩;simp only [U4,hl] at b;simp only [Vb,Vf,Vd,and_true] at t;obtain ⟨r,s⟩:=t;have w1:=F.wf;have ao:=F.le;have ay:=F.wf _ _ b0;have d1:U.get d=some (.cells [.own rb 0 M M 1 x1,.own bb 0 n n 1 true] gy true):=A _ _ ndr hd;have t0:ad T1 0=.ptr d 0:=(E.at_ 0 zU).trans (zV (aw hl e));have p:ad T1 2=.int .i64 (a:Int):=(E.at_ 2 zU).trans (zV (bO hl e g f f));have ab:IntKind.i64.wrap ((a:Int)+(n:Int))=((a+n:Nat):Int):=by rw [wrap_i64] <;> omega
  obtain ⟨o,m⟩:∃ o,out.getD (a+n) 0=o:=⟨_,rfl⟩
  have Q:o<18446744073709551616:=by rw [<- m]; exact P.at _
  obtain ⟨f1,G⟩:=JX (o:=o) (w:=c) (l:=l) Q hc K;have O:=vV o c l;obtain ⟨u,z⟩:∃ u,(jR o c l).1=u:=⟨_,rfl⟩
  obtain ⟨l2,x⟩:∃ l2,(jR o c l).2=l2:=⟨_,rfl⟩
  rw [z,x] at f1;rw [z] at G;rw [x] at O;have hval:val (out.set (a+n) u)+B^a*(q*val (L.take n))=X+B^(a+n+1)*l2:=by
   have t:=jD (l:=out) (k:=a+n) (v:=u) zO;rw [m] at t
   have:=NC I.e t f1
   rw [this,VG,VO,Vw l2]
  clear f1 I;refine zW (fE b t0 p r s d1 ab) ?_;refine aF ?_;refine zD (jB b t0 p r s d1 @b0 ab m) ?_;refine AnsH.eq (xP C _ o c l Q hc K) fun H4 W=>?_;subst W;rw [z,x];refine zD (jB b t0 p r s d1 @b0 ab m) ?_;refine ⟨_,l2,rfl,O,⟨?_,ap _ _ _,?_,by simp [Z],ll,ne,lp P G,limL⟩,hval,fun i hi=>?_,zK,(A.up _).put⟩
  ·exact zV d1
  ·rw [aB (Ne.symm ne)];exact A _ _ (Ne.symm ne) hb
  ·rw [bw zO];exact af i hi
end
def J2 {o y c:Nat} (a:o<18446744073709551616) (hy:y<18446744073709551616) (hc:c<=1):o+y+c=(fD o y c).1+(fD o y c).2*18446744073709551616/\(fD o y c).1<18446744073709551616:=by
 unfold fD B;simp only;omega
def GY {P A X d f b c c' o a y:Nat} (e:d+P*c=X+A) (i:f+P*o=d+P*a) (h:o+y+c=a+c'*b):f+P*(c'*b)=X+(A+P*y):=by
 have g:=congrArg (P * ·) h;simp only [VV] at e g ⊢
 generalize P*(c'*b)=x3 at *
 generalize P*o=j at *
 generalize P*a=k at *
 generalize P*y=l at *
 generalize P*c=m at *
 omega
structure BackI (a X j:Nat) (L out:List Nat) (c:Nat):Prop where
 e:val out+B^(a+j)*c=X+B^a*val (L.take j)
def BackI.step {a X j c c' b:Nat} {L out:List Nat} (I:BackI a X j L out c) (hj:a+j<out.length) (h:out.getD (a+j) 0+L.getD j 0+c=b+c'*B):BackI a X (j+1) L (out.set (a+j) b) c':=by
 refine ⟨?_⟩;have d:=jD (l:=out) (k:=a+j) (v:=b) hj
 have:=GY I.e d h
 rw [dl,VV,<- VO (B^a),<- V4];have e3:B^(a+(j+1))*c'=B^(a+j)*(c'*B):=by rw [<- Wj,VG,VO,Vw B]
 rw [e3];exact this
section
variable {tab:Nat->Option az} {H:Heap}
set_option maxHeartbeats 1000000 in
def OJ (C:Code tab) {H0:Heap} (V:Kp H0 H) {d rb bb M n a X:Nat} {x1:Bool} {R L:List Nat} (D:Dv H d rb bb M n x1 R L) (ah:H0.next<=rb) (ag:a+n<M) (hM:M<2199023255552) (U:val R=X) (hz:∀ i,a+n<i->R.getD i 0=0) :
  Ans tab (.fn ic [.ptr d 0,.int .i64 (a:Int)]) H fun v H'=>∃ (R':List Nat) (c:Nat),v=.bool (decide (0<c))/\c<=1/\Dv H' d rb bb M n x1 R' L/\val R'+B^(a+n+1)*c=X+B^a*val (L.take n)/\(∀ i,a+n<i->R'.getD i 0=0)/\Kp H0 H'/\FrX rb H H':=by
 have ndr:=D.ndr;obtain ⟨hd,hr,hb,lr,ll,ne,limR,limL⟩:=D;have w0:=V.wf;have ai:=V.le;have aa:BackI a X 0 L R 0:=⟨by simp [val,U]⟩
 clear U;refine bk C.q185 zU fun T hl e f=>?_;refine zW (aW hl e f hd) ?_;refine aq H0 [5] (fun j vs H'=>∃ (out:List Nat) (c:Nat),vs=[.int .u64 (c:Int)]/\H'.get rb=some (.cells (aM out) ae true)/\out.length=M/\Lim out/\c<=1/\BackI a X j L out c/\(∀ i,a+n<i->out.getD i 0=0)/\FrX rb H H') (a:=0) (N:=n) rfl (by refine zW (aE hl e f) ?_; rfl) (zV (aE hl e f)) (Vk _) zO (by simp only [U4,hl]; rfl) rfl (fun _ _ _ _ h=>h) zK
  ⟨R,0,by refine zW (aE hl e f) ?_; rfl,by exact zV hr,lr,limR,Vk _,aa,hz,FrX.up0 _ _ _⟩ ?_ ?_
 ·rintro j T1 F _ hj g J x u ⟨out,c,b,b0,K,E,hc,I,Q,t⟩;simp only [U4,hl] at g;simp only [Vb,Vf,Vd,and_true] at b;have w1:=u.wf;have ab:=u.le;have af:=u.wf _ _ b0;have d1:F.get d=some (.cells [.own rb 0 M M 1 x1,.own bb 0 n n 1 true] gy true):=t _ _ ndr hd;have b1:F.get bb=some (.cells (aM L) ae true):=t _ _ (Ne.symm ne) hb;have t0:ad T1 0=.ptr d 0:=(x.at_ 0 zU).trans (zV (aw hl e));have t1:ad T1 1=.int .i64 (a:Int):=(x.at_ 1 zU).trans (zV (aW hl e f f));have S:ad T1 12=.own bb 0 n n 1 true:=(x.at_ 12 zU).trans (zV (aE hl e f));obtain ⟨y,hy⟩:∃ y,L.getD j 0=y:=⟨_,rfl⟩
  have P:y<18446744073709551616:=by rw [<- hy]; exact limL.at j
  obtain ⟨o,m⟩:∃ o,out.getD (a+j) 0=o:=⟨_,rfl⟩
  have w:o<18446744073709551616:=by rw [<- m]; exact E.at _
  obtain ⟨f1,z⟩:=J2 w P hc;have A:=zm o y c w P hc;obtain ⟨q,s⟩:∃ q,(fD o y c).1=q:=⟨_,rfl⟩
  obtain ⟨p,r⟩:∃ p,(fD o y c).2=p:=⟨_,rfl⟩
  rw [s,r] at f1;rw [s] at z;rw [r] at A;have Z:BackI a X (j+1) L (out.set (a+j) q) p:=I.step zO (by rw [m,hy]; exact f1);clear f1 I;have W:IntKind.i64.wrap ((a:Int)+(j:Int))=((a+j:Nat):Int):=by rw [wrap_i64] <;> omega
  refine zW (jC g b t0 t1 S J b1 hy) ?_;refine aF ?_;refine zD (np g b t0 t1 S J d1 @b0 W m) ?_;refine AnsH.eq (jA C _ o y c w P hc) fun Y G=>?_;subst G;rw [s,r];refine zD (np g b t0 t1 S J d1 @b0 W m) ?_;refine ⟨zK,_,_,rfl,rfl,by simp [K],lp E z,A,Z,fun i hi=>?_,(t.up _).put⟩;rw [bw zO];exact Q i hi
 ·rintro T1 F g x u ⟨out,c,b,b0,K,E,hc,I,Q,t⟩;simp only [U4,hl] at g;simp only [Vb,Vf,Vd,and_true] at b;have w1:=u.wf;have ab:=u.le;have af:=u.wf _ _ b0;have d1:F.get d=some (.cells [.own rb 0 M M 1 x1,.own bb 0 n n 1 true] gy true):=t _ _ ndr hd;have t0:ad T1 0=.ptr d 0:=(x.at_ 0 zU).trans (zV (aw hl e));have t1:ad T1 1=.int .i64 (a:Int):=(x.at_ 1 zU).trans (zV (aW hl e f f));have O:IntKind.i64.wrap ((a:Int)+(n:Int))=((a+n:Nat):Int):=by rw [wrap_i64] <;> omega
  obtain ⟨o,m⟩:∃ o,out.getD (a+n) 0=o:=⟨_,rfl⟩
  have w:o<18446744073709551616:=by rw [<- m]; exact E.at _
  obtain ⟨f1,z⟩:=J2 (y:=0) w zU hc;have A:=zm o 0 c w zU hc;obtain ⟨q,s⟩:∃ q,(fD o 0 c).1=q:=⟨_,rfl⟩
  obtain ⟨p,r⟩:∃ p,(fD o 0 c).2=p:=⟨_,rfl⟩
  rw [s,r] at f1;rw [s] at z;rw [r] at A;have hval:val (out.set (a+n) q)+B^(a+n+1)*p=X+B^a*val (L.take n):=by
   have b:=jD (l:=out) (k:=a+n) (v:=q) zO;rw [m] at b
   have:=GY I.e b f1
   rw [VG,VO,Vw B];rw [XS,WM] at this;exact this
  clear f1 I;refine zW (dx g t0 t1 b d1 O) ?_;refine aF ?_;refine zD (jC g t0 t1 b d1 @b0 O m) ?_;refine AnsH.eq (jA C _ o 0 c w zU hc) fun Y G=>?_;subst G;rw [s,r];refine zD (jC g t0 t1 b d1 @b0 O m) ?_;refine ⟨_,p,rfl,A,⟨?_,ap _ _ _,?_,by simp [K],ll,ne,lp E z,limL⟩,hval,fun i hi=>?_,zK,(t.up _).put⟩
  ·exact zV d1
  ·rw [aB (Ne.symm ne)];exact t _ _ (Ne.symm ne) hb
  ·rw [bw zO];exact Q i hi
end
def Ga {y n:Nat} (h:(ag y).length=n+1):B^n<=y:=by
 have:=zg (dO y) (fun e=>by rw [e] at h; simp at h)
 rw [bB,h] at this;exact this
def Er {x y:Nat} (h:(ag x).length<(ag y).length):x<y:=by
 obtain ⟨n,hn⟩:∃ n,(ag y).length=n+1:=⟨(ag y).length-1,zO⟩
 exact Vu (ii x) (Vn (VI zU zO) (Ga hn))
def Et {y n:Nat} (h1:B^n<=y) (h2:y<B^(n+1)):(ag y).length=n+1:=by
 refine Xu (br h2) ?_
 apply Xz
 intro h;have h3:y<B^n:=Vu (ii y) (VI zU zO);exact absurd h1 (Nat.not_le_of_lt h3)
def LG {y:Nat} (h:(ag y).length=1):y<B/\(ag y).getD 0 0=y:=by
 have h1:=ii y;rw [h,Nat.pow_one] at h1;refine ⟨h1,?_⟩;rw [jw,Ye,ZW,VE h1]
section
variable {b y m z top P:Nat}
def N6 (a:P=2^(64-z)*2^z) (h1:top*2^z<P) (e:top*b<=y) (f:y<(top+1)*b) {c:Nat} (h2:c<=top*2^z):y*2^z<P*b/\c*b<=y*2^z:=by
 have p2:0<2^z:=VY zU;have d:top+1<=2^(64-z):=by
  rw [a] at h1;exact Nat.lt_of_mul_lt_mul_right h1
 refine ⟨?_,?_⟩
 ·refine Vu (Xm f p2) ?_;rw [Yd];refine Vj b ?_;rw [a];exact Vj _ d
 ·refine Vn (Vj b h2) ?_;rw [Yd];exact Vj _ e
end
def Ig {y m z top:Nat} (hl:(ag y).length=m+2) (c:(ag y).getD (m+1) 0=top) (g:z<64) (h1:top*2^z<18446744073709551616) (h2:9223372036854775808<=top*2^z) :
  y*2^z<B^(m+2)/\(ag (y*2^z)).length=m+2/\9223372036854775808*B^(m+1)<=y*2^z:=by
 have hy:=ii y;rw [hl] at hy;have e:y / B^(m+1)=top:=by
  rw [<- c,jw,VE]
  apply (VD (VY zU)).2
  rw [Vw,<- VG]; exact hy
 have hp:0<B^(m+1):=VY zU;have d:top*B^(m+1)<=y:=by rw [<- e]; exact Z6 _ _
 have f:y<(top+1)*B^(m+1):=(VD hp).1 (by rw [e]; exact Yr _);have b:(18446744073709551616:Nat)=2^(64-z)*2^z:=by
  rw [<- V4,show 64-z+z=64 by omega]
 obtain ⟨q1,q2⟩:=N6 b h1 d f h2;have a:18446744073709551616*B^(m+1)=B^(m+2):=by rw [VG B (m+1),Vw]
 rw [a] at q1;refine ⟨q1,Et ?_ q1,q2⟩;exact Vn (Nat.le_mul_of_pos_left _ zU) q2
def Fq {x z V m k a:Nat} (c:(ag x).length=a) (d:z<64) (hV:9223372036854775808*B^(m+1)<=V) (b:m+1+k=a):x*2^z<V*B^k:=by
 have hx:=ii x;rw [c] at hx;have h1:2^z<=9223372036854775808:=Vn (VI zU (show z<=63 by omega)) zU;have h2:x*2^z<B^a*9223372036854775808:=by
  refine Vu (Xm hx (VY zU)) (WS _ h1)
 refine Vu h2 ?_;refine Vn (XN ?_) (Vj _ hV);rw [VO,<- V4,b,Vw]
structure DivI (X V k:Nat) (Q R:List Nat):Prop where
 eq:X=V*val Q+val R
 lt:val R<V*B^k
 zero:∀ i,i<k->Q.getD i 0=0
def DivI.zeros {X V k m:Nat} {Q R:List Nat} (I:DivI X V k Q R) (hV:V<B^m) (a:Lim R):∀ i,k+m<=i->R.getD i 0=0:=fun i hi=>by
 rw [oO a];have h1:val R<B^i:=by
  refine Vu I.lt (Vn (Vj _ (Xd hV)) ?_);rw [<- V4];exact VI zU zO
 rw [WG h1,Nat.zero_mod]
def rL (Z:Nat):Z=Z / B*B+Z % B:=by rw [Vw]; exact (Wh Z B).symm
def DivI.guess {X V a m:Nat} {Q R L:List Nat} (I:DivI X V (a+1) Q R) (hV:V<B^(m+2)) (c:Lim R) (h0:0<V) (hL:∀ i,i<m+2->L.getD i 0=V / B^i % B) :
  GuessH V (val R / B^a) (B^m) (R.getD (a+(m+2)) 0) (R.getD (a+(m+1)) 0) (R.getD (a+m) 0) (L.getD (m+1) 0) (L.getD m 0):=by
 have hp:∀ j,0<B^j:=fun j=>VY zU;have b:∀ Y j,Y / B^(j+1)=Y / B^j / B:=fun Y j=>by rw [VG,V2]
 refine ⟨?_,?_,?_,h0⟩
 ·rw [hL _ zO,hL _ zO,b V m];have h1:V / B^m / B % B=V / B^m / B:=by
   rw [<- b]
   apply VE
   apply (VD (hp _)).2
   rw [Vw,<- VG]; exact hV
  rw [h1,<- rL];exact Z6 _ _
 ·rw [oO c,oO c,oO c];have e:val R / B^(a+(m+1))=val R / B^(a+m) / B:=by rw [<- Wj,b]
  have d:val R / B^(a+(m+2))=val R / B^(a+m) / B / B:=by
   rw [show a+(m+2)=a+m+1+1 by omega,b,b]
  have e3:val R / B^(a+m) / B / B % B=val R / B^(a+m) / B / B:=by
   rw [<- d]
   apply VE
   apply (VD (hp _)).2
   refine Vu I.lt (Vn (Vj _ (Xd hV)) ?_);rw [<- V4,Vw,<- VG];exact VI zU zO
  rw [d,e3,e,<- rL,<- rL];have f:val R / B^(a+m)=val R / B^a / B^m:=by rw [V2,V4]
  rw [f];exact (VD (hp m)).1 (Yr _)
 ·apply (VD (hp a)).2
  refine Vu I.lt (XN ?_);rw [VG,Vw (B^a),VO]
structure SubI (XR V a n:Nat) (R:List Nat) (q l:Nat):Prop where
 e:val R+B^a*(q*V)=XR+B^(a+n+1)*l
 ge:XR / B^a / V<=q
section
variable {XR V A q vr vr' W c:Nat}
def Qc (e:vr+A*(q*V)=XR+W*1) (hlt:vr<W) (hV:0<V) (hA:0<A) (hb:vr'+W*c=vr+A*V) (hc:c<=1):0<q/\XR / A / V<=q-1/\vr'+A*((q-1)*V)=XR+W*(1-c):=by
 have h1:XR / A / V<q:=by
  rw [V2]
  apply (VD (Zs hA hV)).2
  have:q*(A*V)=A*(q*V):=by rw [YE]
  rw [this]
  generalize A*(q*V)=t at *
  omega
 have h0:0<q:=Wc (Vk _) h1;refine ⟨h0,Yp h1,?_⟩;obtain ⟨p,rfl⟩:∃ p,q=p+1:=⟨q-1,zO⟩
 rw [W8];rw [Wa,Ya,VV] at e;have a:c=0\/c=1:=zO;rcases a with rfl | rfl
 ·simp only [XS,WF,WM,ZG] at *;omega
 ·simp only [XS,WF,WM,Y5] at *;omega
def QR (e:vr+A*(q*V)=XR) (hge:XR / A / V<=q) (hV:0<V) (hA:0<A):vr<V*A:=by
 have h1:q<=XR / (A*V):=by
  apply (YM (Zs hA hV)).2
  rw [YE,<- e];exact Nat.le_add_left _ _
 rw [V2] at hge;have h2:=Xu h1 hge;have h3:=Wh XR (A*V);rw [<- h2] at h3;have a:=VS XR (Zs hA hV);have h5:A*V*q=A*(q*V):=by rw [VO,Vw V]
 rw [h5] at h3;rw [Vw V];omega
end
def SubI.pos {XR V a n q:Nat} {R:List Nat} (I:SubI XR V a n R q 1) (hlt:val R<B^(a+n+1)):0<q:=by
 apply Nat.pos_of_ne_zero
 intro h;have e:=I.e;rw [h,Yz,XS,WM,WF] at e;rw [e] at hlt;exact absurd hlt (Nat.not_lt_of_le (Nat.le_add_left _ _))
def SubI.back {XR V a n q c:Nat} {R R':List Nat} (I:SubI XR V a n R q 1) (hlt:val R<B^(a+n+1)) (hV:0<V) (hb:val R'+B^(a+n+1)*c=val R+B^a*V) (hc:c<=1):0<q/\SubI XR V a n R' (q-1) (1-c):=by
 obtain ⟨h1,h2,h3⟩:=Qc I.e hlt hV (VY zU) hb hc;exact ⟨h1,h3,h2⟩
def DivI.next {X V a n q:Nat} {Q R R':List Nat} (I:DivI X V (a+1) Q R) (S:SubI (val R) V a n R' q 0) (hV:0<V) (ha:a<Q.length):DivI X V a (Q.set a q) R':=by
 have e:=S.e;rw [XS,WM] at e;refine ⟨?_,QR e S.ge hV (VY zU),fun i hi=>?_⟩
 ·have b:=jD (l:=Q) (k:=a) (v:=q) ha;rw [I.zero a (Yr a),XS,WM] at b;rw [b,I.eq,<- e,VV]
  have:V*(B^a*q)=B^a*(q*V):=by rw [YE,Vw V]
  rw [this];omega
 ·rw [bw zO];exact I.zero i zO
def DivI.fin {x y P:Nat} {Q R:List Nat} (a:0<P) (I:DivI (x*P) (y*P) 0 Q R):val Q=x / y/\val R=x % y*P:=by
 have e:=I.eq;have l:=I.lt;rw [Ye,WF] at l;have b:0<y*P:=Wc (Vk _) l;have h1:x*P / (y*P)=val Q:=by
  rw [e,Vw (y*P),XO,YO _ _ b,WG l,VN]
 have h2:x*P % (y*P)=val R:=by
  rw [e,Nat.mul_add_mod_self_left,VE l]
 rw [YN _ _ a] at h1;rw [ZO] at h2;exact ⟨h1.symm,h2.symm⟩
end Go.Proofs.YteaefaohjlmjdaaGreat.Ev
