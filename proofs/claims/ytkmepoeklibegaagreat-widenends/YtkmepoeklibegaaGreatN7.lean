/- A part. -/
import Derived.Test.YtkmepoeklibegaaGreatA0
import Derived.Test.YtkmepoeklibegaaGreatKit
import Derived.KernelRfl
namespace Go.Proofs.YtkmepoeklibegaaGreat.Ev
open Go Nn
set_option linter.all false
section
variable {tab:Nat->Option au} {H:Heap}
def NV (x y:Nat) (hx:x<B) (hy:y<B) :
  ((x / 4294967296*(y / 4294967296) % B+((x / 4294967296*(y % 4294967296) % B+(x % 4294967296*(y % 4294967296) % B) / 4294967296) % B) / 4294967296) % B+((((x / 4294967296*(y % 4294967296) % B+(x % 4294967296*(y % 4294967296) % B) / 4294967296) % B) % 4294967296+x % 4294967296*(y / 4294967296) % B) % B) / 4294967296) % B=x*y / B:=by
 have e:x*y=(x / 4294967296*4294967296+x % 4294967296)*(y / 4294967296*4294967296+y % 4294967296):=by
  rw [YH,YH]
 have h1:x / 4294967296<4294967296:=by unfold B at hx; omega
 have h2:y / 4294967296<4294967296:=by unfold B at hy; omega
 have h3:x % 4294967296<4294967296:=zO;have c:y % 4294967296<4294967296:=zO
 generalize x / 4294967296=x1 at *
 generalize y / 4294967296=y1 at *
 generalize x % 4294967296=a at *
 generalize y % 4294967296=b at *
 have d:x1*y1<=4294967295*4294967295:=WV zO zO;have f:x1*b<=4294967295*4294967295:=WV zO zO;have g:a*y1<=4294967295*4294967295:=WV zO zO;have h:a*b<=4294967295*4294967295:=WV zO zO;have e2:x*y=x1*y1*18446744073709551616+(x1*b)*4294967296+(a*y1)*4294967296+a*b:=by rw [e]; grind
 rw [e2];clear e e2 hx hy h1 h2 h3 c
 generalize x1*y1=p at *
 generalize x1*b=q at *
 generalize a*y1=r at *
 generalize a*b=t at *
 simp only [B];omega
def pO (C:Code tab) (c:Wf H) {x y:Nat} (hx:x<B) (hy:y<B):Ans tab (.fn iY [.int .u64 (x:Nat),.int .u64 (y:Nat)]) H fun v H'=>v=.tup [.int .u64 ((x*y / B:Nat):Int),.int .u64 ((x*y % B:Nat):Int)]/\Kp H H':=by
 refine bC C.q160 zU fun T hl a b=>?_;have e:=NV x y hx hy;simp only [B] at e;refine zW (aV hl a b e) ?_;exact zK
end
def iS:∀ {l:List Nat} {k v:Nat},k<l.length->val (l.set k v)+B^k*l.getD k 0=val l+B^k*v
 | a :: l,0,v,_=>by simp [val]; omega
 | a :: l,k+1,v,h=>by
  have b:=iS (l:=l) (k:=k) (v:=v) (by simpa using h);simp only [List.set_cons_succ,val,W5,V5]
  have:=congrArg (B * ·) b
  simp only [Ww] at this;rw [VG (B^k) B,Wc,Wc];omega
def ke {l:List Nat} (h:Lim l) {k v:Nat} (b:v<B):Lim (l.set k v):=fun a ha=>by
 rcases ZI ha with h1 | h1
 ·exact h a h1
 ·rw [h1]; exact b
section
variable {tab:Nat->Option au} {H:Heap} {s:AV} {l:List Nat}
def SlV.clipat {α:Type} {E:fO α} {ty:Nat} {v:AV} {l:List α} (hs:SlV E ty H v l) (k j:IntKind) (n:Nat) (hn:n<=l.length):∃ d,bW E.sz v none (some (.int k (n:Int))) (some (.int j (n:Int)))=some d/\SlV E ty H d (l.take n):=by
 obtain ⟨cells,hr,u,hc⟩:=hs;obtain ⟨m,hm,p⟩:=hr.length;have q:m=l.length:=Xf E.pos (by rw [<- p,hc.1]);subst q;obtain ⟨h0,h1,m',h2,h3⟩:=hr;rw [hm] at h2; cases h2;have g:n*E.sz<=l.length*E.sz:=Vy _ hn;have i:∀ x y z,bW E.sz v x y z=bL E.sz v x y z:=fun x y z=>by cases v <;> first | rfl | exact absurd rfl (h1 _)
 rw [i]
 suffices ∃ d,bL E.sz v none (some (.int k (n:Int))) (some (.int j (n:Int)))=some d/\Rd H E.sz d (cells.take (n*E.sz)) by
  obtain ⟨d,e,hr⟩:=this;exact ⟨d,e,_,hr,rU u (by rw [i]; exact e),hc.take hn⟩
 cases v with
 | own b off n' c B ex =>
  simp only [gL,V4] at hm;subst hm;simp only [aG] at h3;split at h3
  ·rename_i cs ty A hb;split at h3
   ·rename_i f;obtain ⟨t,-,hcl⟩:=f;subst t;cases h3;have w:l.length<=c:=h0;have o:((cs.drop off).take (l.length*E.sz)).take (n*E.sz)=(cs.drop off).take (n*E.sz):=by rw [XE,WG g]
    rw [o];have hp:bL E.sz (.own b off l.length c E.sz ex) none (some (.int k (n:Int))) (some (.int j (n:Int)))=some (if n=0 then .own b off 0 0 E.sz true else .own b off n n E.sz true):=by
     simp only [bL,fN,ne_eq,not_true_eq_false,if_false,Vj,WR,Xj,Xa];rw [if_pos ⟨zO,Vo _,Vz _⟩];by_cases a:n=0
     ·rw [if_pos a,if_pos a]; simp [a]
     ·rw [if_neg a,if_neg a]; simp
    refine ⟨_,hp,?_⟩;by_cases a:n=0
    ·rw [if_pos a,a];refine ⟨Vo _,(fun s h=>by cases h),0,rfl,?_⟩;simp only [aG,hb];rw [if_pos ⟨trivial,Vo _,by simp; omega⟩]
    ·rw [if_neg a];refine ⟨Vo _,(fun s h=>by cases h),n,rfl,?_⟩;simp only [aG,hb];rw [if_pos ⟨trivial,Vo _,zO⟩]
   ·cases h3
  ·cases h3
 | sl cs n' =>
  simp only [gL,V4] at hm;subst hm;simp only [aG] at h3;split at h3
  ·rename_i f;cases h3;have hcl:=f.2;refine ⟨.sl (cs.take (n*E.sz)) n,?_,trivial,(fun s h=>by cases h),n,rfl,?_⟩
   ·simp only [bL,fN,Vj,WR,Xj,Xa];rw [if_pos ⟨hn,Vo _,Vz _,zO⟩]
    simp
   ·simp only [aG];rw [if_pos ⟨Vo _,by simp only [VN]; omega⟩];rw [XE,XE,Nat.min_self,WG g]
  ·cases h3
 | nilSl =>
  simp only [gL,V4] at hm;have r:n=0:=zO;subst r;simp only [aG] at h3;split at h3
  ·cases h3;exact ⟨.nilSl,rfl,trivial,(fun s h=>by cases h),0,rfl,by simp [aG]⟩
  ·cases h3
 | str s=>exact absurd rfl (h1 s)
 | _=>simp [gL] at hm
def Fi (C:Code tab) (G:Wf H) (hs:Lb H s l) (F:l.length<4611686018427387904) :
  Ans tab (.fn tK [s]) H fun v H'=>Lb H' v (eY l)/\Kp H H':=by
 refine dg C.q161 zU fun T hl j=>?_;refine zW (aB hl j hs.lenV) ?_;refine cu H [3] (fun k vs H'=>vs=[.int .i64 (k:Int)]/\eY (l.take k)=eY l/\k<=l.length) l.length (by simp only [Vg]; exact hl) rfl zK ⟨by exact zV (aA hl j),by rw [VO],Vo _⟩ ?_;rintro k T1 r g E d ⟨f,p,n⟩;have w1:=d.wf;have I:=d.le;simp only [Vq,Vw,Vv,and_true] at f;have t0:aa T1 0=s:=(E.at_ 0 zU).trans (zV (aA hl j));have fin:∀ (m:Nat),eY (l.take k)=l.take k->∀ c,bW 1 s none (some (.int .i64 (k:Int))) (some (.int .i64 (k:Int)))=some c->Lb H c (l.take k)->Lb (r.up m) c (eY l):=fun m h1 c _ h2=>by
  rw [<- p,h1]; exact h2.mono (d.up m).sub
 obtain ⟨c,e,hr⟩:=SlV.clipat hs .i64 .i64 k n;have e':bW 1 s none (some (.int .i64 (k:Int))) (some (.int .i64 (k:Int)))=some c:=e;rcases Xs (l.take k) with h0 | ⟨b,a,h0⟩
 ·have y:k=0:=by
   have:=congrArg List.length h0; simp at this; rcases this with h | h
   ·exact h
   ·subst h; simpa using n
  subst y;have z:¬ (0:Int)<((0:Nat):Int):=zO;refine zW (cp g f t0 z e') ?_;exact ⟨fin _ (by simp; rfl) _ e' hr,zK⟩
 ·rw [Xt] at h0;have A:k=b.length+1:=by have:=congrArg List.length h0; simp at this; omega
  subst A;have B:l.take b.length=b:=by
   have:=congrArg (List.take b.length) h0
   rw [XE,WG zO] at this
   simpa using this
  have q:IntKind.i64.wrap (((b.length+1:Nat):Int)-1)=(b.length:Int):=by rw [wrap_i64] <;> omega
  have D:0<b.length+1:=zO;have x:=SlV.idx1 (hs.mono d.sub) .i64 b.length zO;have w:l.getD b.length 0=a:=by
   have this:(l.take (b.length+1)).getD b.length 0=(b++[a]).getD b.length 0:=by rw [h0]
   rw [Vh,VL,if_pos zO,<- Vh] at this;rw [this]; simp [Vh]
  have o:=fI (hs.mono d.sub) (i:=b.length) zO;rw [w] at o;refine zW (gS g f t0 D x o q) ?_;refine iteH.split (fun ha=>?_) fun ha=>?_
  ·have u:a=0:=zO;subst u;refine zW (aV g f t0 q) ?_;refine ⟨zK,b.length,zO,rfl,?_,zO⟩;rw [B,<- p,h0,eJ]
  ·have t:a≠0:=zO;refine zW (aV g f t0 e') ?_;exact ⟨fin _ (by rw [h0,iU t]) _ e' hr,zK⟩
def EW {x y o c:Nat} (hx:x<B) (hy:y<B) (a:o<B) (hc:c<B) :
  (fk (fk (x*y % B) o 0).1 c 0).1+B*(((x*y / B+(fk (x*y % B) o 0).2) % B+(fk (fk (x*y % B) o 0).1 c 0).2) % B)=x*y+o+c:=by
 have hp:x*y<=18446744073709551615*18446744073709551615:=WV (by unfold B at hx; omega) (by unfold B at hy; omega);simp only [fk,B] at *
 generalize x*y=p at *
 omega
def GZ {out b:List Nat} {i j x c d l2 a:Nat} (hlt:i+j<out.length) (f:val out+B^(i+j)*c=d+B^i*x*val (b.take j)) (he:l2+B*a=x*b.getD j 0+out.getD (i+j) 0+c) :
  val (out.set (i+j) l2)+B^(i+(j+1))*a=d+B^i*x*val (b.take (j+1)):=by
 have h1:=iS (l:=out) (k:=i+j) (v:=l2) hlt;rw [cZ];have h2:B^(i+(j+1))*a=B^(i+j)*(B*a):=by rw [<- Wx,V5,Wc]
 have h3:B^i*x*(val (b.take j)+B^j*b.getD j 0)=B^i*x*val (b.take j)+B^(i+j)*(x*b.getD j 0):=by rw [Ww,Wu]; grind
 rw [h2,h3];have e:=congrArg (B^(i+j) * ·) he;simp only [Ww] at e
 generalize B^(i+j)*(B*a)=q1 at *
 generalize B^(i+j)*l2=q2 at *
 generalize B^(i+j)*(x*b.getD j 0)=q3 at *
 generalize B^(i+j)*c=q4 at *
 generalize B^(i+j)*out.getD (i+j) 0=q5 at *
 omega
def br {l:List Nat} {i k v:Nat} (h:i≠k):(l.set i v).getD k 0=l.getD k 0:=by
 rw [Vh,Vh,XF,if_neg h]
def HD (C:Code tab) (hw:Wf H) {sa sb:AV} {a b:List Nat} (ha:Lb H sa a) (hb:Lb H sb b) (ao:a.length<1099511627776) (ap:b.length<1099511627776) (la:Lim a) (lb:Lim b) :
  Ans tab (.fn pB [sa,sb]) H fun v H'=>Lb H' v (ag (val a*val b))/\Kp H H':=by
 refine bC C.q148 zU fun T hl n f=>?_;have Q:IntKind.i64.wrap ((a.length:Int)+(b.length:Int))=((a.length+b.length:Nat):Int):=by rw [wrap_i64] <;> omega
 obtain ⟨N,W⟩:∃ N,a.length+b.length=N:=⟨_,rfl⟩
 rw [W] at Q;have af:∀ H' id,I8 H' id ae 1 8 [.int .u64 0] (.int .i64 (N:Int)) (.int .i64 (N:Int))=some (.own id 0 N N 1 true,H'.put id (.cells (aL (List.replicate N 0)) ae true)):=fun H' id=>by
  exact (jd H' id ae 1 8 [.int .u64 0] .i64 .i64 N zO zO rfl).trans (by rw [mH])
 refine zW (gS hl n f ha.lenV hb.lenV Q af) ?_;refine am H [] (fun i vs H'=>∃ out,H'.get (H.next+6)=some (.cells (aL out) ae true)/\out.length=N/\Lim out/\val out=val (a.take i)*val b/\∀ k,i+b.length<=k->out.getD k 0=0) (a:=0) (N:=a.length) rfl (by refine zW (aB hl n f) ?_; rfl) (zV (aB hl n f)) (Vz _) zO (by simp only [Vg,hl]; rfl) rfl (fun _ _ _ _ h=>h) zK
  ⟨List.replicate N 0,by exact da,by simp,Lim.replicate N,by rw [fS]; simp [val],fun k _=>by simp [Vh,Wj]; split <;> rfl⟩ ?_ ?_
 ·rintro i T1 L _ hi d X t q ⟨out,E,G,I,hval,U⟩;simp only [Vg,hl] at d;have w1:=q.wf;have ah:=q.le;have t5:aa T1 5=.own (H.next+6) 0 N N 1 true:=(t.at_ 5 zU).trans (zV (aB hl n f));have t1:aa T1 1=sb:=(t.at_ 1 zU).trans (zV (aV hl n f f));have al:aa T1 20=sa:=(t.at_ 20 zU).trans (zV (aB hl n f));have Y:=SlV.idx1 ha .i64 i hi;have ad:=fI (ha.mono q.sub) hi;refine zW (jY d t5 t1 al X Y ad hb.lenV) ?_;have R:=la.at i;refine am H [8] (fun j vs H'=>∃ o c:_,vs=[.int .u64 ((c:Nat):Int)]/\H'.get (H.next+6)=some (.cells (aL o) ae true)/\o.length=N/\Lim o/\c<B/\val o+B^(i+j)*c=val (a.take i)*val b+B^i*a.getD i 0*val (b.take j)/\∀ k,i+b.length<=k->o.getD k 0=0) (a:=0) (N:=b.length) rfl (by refine zW d ?_; rfl) (zV d) (Vz _) zO (by simp only [Vg,d]; rfl) rfl (fun _ _ _ _ h=>h) zK
   ⟨out,0,by refine zW d ?_; rfl,E,G,I,by decide,by simp [hval,val],U⟩ ?_ ?_
  ·rintro j T2 H2 _ hj g x m e ⟨o,c,p,w,J,y,hc,K,z⟩;simp only [Vg,d] at g;simp only [Vq,Vw,Vv,and_true] at p;have w2:=e.wf;have ai:=e.le;have r:aa T2 5=.own (H.next+6) 0 N N 1 true:=(m.at_ 5 zU).trans (zV (aA d t5));have s:aa T2 6=.int .i64 (i:Int):=(m.at_ 6 zU).trans (zV d);have D:aa T2 7=.int .u64 ((a.getD i 0:Nat):Int):=(m.at_ 7 zU).trans (zV d);have A:aa T2 27=sb:=(m.at_ 27 zU).trans (zV (aA d t1));have ab:=SlV.idx1 hb .i64 j hj;have Z:=fI (hb.mono e.sub) hj;have S:=lb.at j;have u:IntKind.i64.wrap ((i:Int)+(j:Int))=((i+j:Nat):Int):=by rw [wrap_i64] <;> omega
   have P:=y.at (i+j);refine zW (jY g r s D A x ab Z) ?_;refine AnsH.use (pO C zF R S) ?_;rintro v H3 ⟨rfl,O⟩;obtain ⟨k3,_,w3⟩:=zT H zK O;have d6:=O.get (b:=H.next+6) w;refine zW (lh g r s D A x p u d6) ?_;refine AnsH.eq (iR C _ (a.getD i 0*b.getD j 0 % B) (o.getD (i+j) 0) 0 (Wm _ zU) P zO) fun V F=>?_;subst F;refine zW (lh g r s D A x p u d6) ?_;refine AnsH.eq (iR C _ (fk (a.getD i 0*b.getD j 0 % B) (o.getD (i+j) 0) 0).1 c 0 (Wm _ zU) hc zO) fun V F=>?_;subst F;have ak:=k3.wf _ _ d6;refine zW (lh g r s D A x p u d6) ?_;have hs:=EW R S P hc;refine ⟨zK,_,_,rfl,rfl,by simp [J],ke y (Wm _ zU),Wm _ zU,GZ zO K hs,fun k M=>?_⟩;rw [br zO];exact z k M
  ·intro T2 H2 g m e ⟨o,c,p,w,J,y,hc,K,z⟩;simp only [Vg,d] at g;simp only [Vq,Vw,Vv,and_true] at p;have w2:=e.wf;have ai:=e.le;have r:aa T2 5=.own (H.next+6) 0 N N 1 true:=(m.at_ 5 zU).trans (zV (aA d t5));have s:aa T2 6=.int .i64 (i:Int):=(m.at_ 6 zU).trans (zV d);have u1:aa T2 1=sb:=(m.at_ 1 zU).trans (zV (aA d t1));have u:IntKind.i64.wrap ((i:Int)+(b.length:Int))=((i+b.length:Nat):Int):=by rw [wrap_i64] <;> omega
   have ak:=e.wf _ _ w;refine zW (jY g r s u1 p u w hb.lenV) ?_;have h1:=iS (l:=o) (k:=i+b.length) (v:=c) zO;rw [z _ (Vo _)] at h1;rw [VP (Vo _)] at K;refine ⟨zK,_,rfl,by simp [J],ke y hc,?_,fun k M=>?_⟩
   ·rw [cZ,Wq]; omega
   ·rw [br zO];exact z k zO
 ·intro T1 L d t q ⟨out,E,G,I,hval,U⟩;simp only [Vg,hl] at d;have w1:=q.wf;have ah:=q.le;have t5:aa T1 5=.own (H.next+6) 0 N N 1 true:=(t.at_ 5 zU).trans (zV (aB hl n f));rw [VP (Vo _)] at hval;have ho:=(uR (H0:=H) (ex:=true) E zO G).sl;refine zW (aA d t5) ?_;refine AnsH.use (Fi C zF (ho.mono (Sub.bump L _)) zO) ?_;rintro v H2 ⟨h2,e⟩;obtain ⟨k2,_,_⟩:=zT H zK e;rw [eS I,hval] at h2;refine zW d ?_;exact ⟨h2,zK⟩
end
def Ap {n m:Nat} (h:n<=m):(ag n).length<=(ag m).length:=bo (Wp h (iw m))
def Sm.mono {n m:Nat} (h:n<=m) (hm:Sm m):Sm n:=Wp (Ap h) hm
def mF:∀ (k n:Nat),(ag n).drop k=ag (n / B^k)
 | 0,n=>by simp
 | k+1,n=>by
  by_cases h:n=0
  ·subst h; simp [cQ]
  ·rw [jS h,List.drop_succ_cons,mF k,WA,V5,VG B]
def qj:∀ (k n:Nat),val ((ag n).take k)=n % B^k
 | 0,n=>by simp [val,Nat.mod_one]
 | k+1,n=>by
  by_cases h:n=0
  ·subst h; simp [cQ,val]
  ·rw [jS h,List.take_succ_cons,val,qj k,V5,VG (B^k),Nat.mod_mul]
def Fs {n:Nat} (h:n≠0) (k:Nat):List.replicate k 0++ag n=ag (n*B^k):=by
 have hne:ag n≠[]:=fun h1=>h (limbs_nil.1 h1);rw [<- wY (l:=List.replicate k 0++ag n) ((Lim.replicate k).append (bF n)) ?_,pg,fS,bI,XM,V3,VG];unfold Mf;rw [List.getLast?_append];have hn:=dG n;unfold Mf at hn;cases hg:(ag n).getLast? with
 | none=>exact absurd (List.getLast?_eq_none_iff.1 hg) hne
 | some a=>rw [hg] at hn; simpa using hn
section
variable {tab:Nat->Option au} {H:Heap} {s:AV}
def gZ (H:Heap):cd H .nilSl 0:=by
 show yY cB ae H .nilSl (ag 0);rw [cQ]; exact SlV.nil _ _ _
def nI (ls:List Nat) {j:Nat} (hj:j<ls.length):(ls.take (j+1)).sum=(ls.take j).sum+ls[j]:=by
 rw [Vr hj,List.sum_append]; simp only [Yw,List.sum_nil,WZ]
def xJ (ls:List Nat):∀ j,(ls.take j).sum<=ls.sum:=fun j=>by
 conv=>rhs; rw [<- Y5 j ls,List.sum_append]
 omega
def Dz (C:Code tab) (y:Wf H) {ls:List Nat} {ty:Nat} (hs:yY (sO (bY cB) ae) ty H s (ls.map ag)) (x:ls.length<4611686018427387904) (w:Sm ls.sum) :
  Ans tab (.fn wN [s]) H fun v H'=>cd H' v ls.sum/\Kp H H':=by
 refine dg C.q150 zU fun T hl d=>?_;have l:=hs.lenV;rw [Vp] at l;refine zW (aB hl d l) ?_;refine am H [2] (fun j vs H'=>∃ v,vs=[v]/\cd H' v (ls.take j).sum) (a:=0) (N:=ls.length) rfl (by refine zW (aA hl d) ?_; rfl) (zV (aA hl d)) (Vz _) zO (by simp only [Vg,hl]; rfl) rfl (fun _ _ _ _ h=>h) zK ⟨.nilSl,by exact zV (aA hl d),gZ _⟩ ?_ ?_
 ·rintro j T1 g _ hj b p m e ⟨v,f,hn⟩;simp only [Vq,Vw,Vv,and_true] at f;simp only [Vg,hl] at b;have w1:=e.wf;have z:=e.le;have t5:aa T1 5=s:=(m.at_ 5 zU).trans (zV (aA hl d));obtain ⟨c,n,t⟩:=SlV.at1 (hs.mono e.sub) (i:=j) (a:=ag ls[j]) (by simp [hj]);have q:=SlV.idx1 hs .i64 j (by simpa using hj);have k:Sm (ls.take (j+1)).sum:=w.mono (xJ ls _);rw [nI ls hj] at k;refine zW (eF b t5 p q t f) ?_;refine AnsH.use (I5 C zF (hn.mono (zG g)) (SlV.mono (zG g) n) (k.mono zO) (k.mono zO)) ?_;rintro v2 H2 ⟨o,rfl,u,r⟩;obtain ⟨k2,_,_⟩:=zT H zK r;refine zW b ?_;refine ⟨zK,o,rfl,?_⟩;rw [nI ls hj]; exact u
 ·rintro T1 g b m e ⟨v,f,hn⟩;simp only [Vq,Vw,Vv,and_true] at f;simp only [Vg,hl] at b;rw [VP (Vo _)] at hn;refine zW (aA b f) ?_;exact ⟨hn,e⟩
def NT (C:Code tab) (E:Wf H) {a:AV} {n:Nat} {ls:List Nat} {ty:Nat} (ha:cd H a n) (hs:yY (sO (bY cB) ae) ty H s (ls.map ag)) (A:ls.length<4611686018427387904) (p:Sm n) (B:ls.sum<=n) :
  Ans tab (.fn tM [a,s]) H fun v H'=>cd H' v (n-ls.sum)/\Kp H H':=by
 refine bC C.q151 zU fun T hl d e=>?_;have l:=hs.lenV;rw [Vp] at l;refine zW (aV hl d e l) ?_;refine am H [0] (fun j vs H'=>∃ v,vs=[v]/\cd H' v (n-(ls.take j).sum)) (a:=0) (N:=ls.length) rfl (by refine zW (aB hl d e) ?_; rfl) (zV (aB hl d e)) (Vz _) zO (by simp only [Vg,hl]; rfl) rfl (fun _ _ _ _ h=>h) zK ⟨a,by exact zV (aA hl d),ha.mono (zG H)⟩ ?_ ?_
 ·rintro j T1 g _ hj b r m k ⟨v,f,hn⟩;simp only [Vq,Vw,Vv,and_true] at f;simp only [Vg,hl] at b;have w1:=k.wf;have F:=k.le;have z:aa T1 7=s:=(m.at_ 7 zU).trans (zV (aV hl d e e));obtain ⟨c,q,w⟩:=SlV.at1 (hs.mono k.sub) (i:=j) (a:=ag ls[j]) (by simp [hj]);have t:=SlV.idx1 hs .i64 j (by simpa using hj);have D:=xJ ls (j+1);have y:=nI ls hj;refine zW (eF b z r t w f) ?_;refine AnsH.use (Dx C zF (hn.mono (zG g)) (SlV.mono (zG g) q) (p.mono zO) (p.mono zO)) ?_;rintro v2 H2 ⟨u,hr⟩;rw [if_pos zO] at hr;obtain ⟨o,rfl,x⟩:=hr;obtain ⟨k2,_,_⟩:=zT H zK u;refine zW b ?_;refine ⟨zK,o,rfl,?_⟩;rw [y,<- Nat.sub_sub]; exact x
 ·rintro T1 g b m k ⟨v,f,hn⟩;simp only [Vq,Vw,Vv,and_true] at f;simp only [Vg,hl] at b;rw [VP (Vo _)] at hn;refine zW (aA b f) ?_;exact ⟨hn.mono (Sub.bump g _),zK⟩
def NS (C:Code tab) (m:Wf H) {a:AV} {n k:Nat} (ha:cd H a n) (l:Sm n) (p:k<4398046511104) :
  Ans tab (.fn Ai [a,.int .i64 (k:Int)]) H fun v H'=>cd H' v (n*B^k)/\Kp H H':=by
 refine bC C.q152 zU fun T hl c d=>?_;unfold Sm at l;by_cases h0:n=0
 ·subst h0;have e:lenV a=some (.int .i64 0):=by have:=ha.lenV; rwa [cQ] at this
  refine zW (aV hl c d e) ?_;rw [YS];exact ⟨gZ _,zK⟩
 ·have i:¬ ((ag n).length:Int)=0:=by have:=(b7 n).2 h0; omega
  have j:∀ H' id,I8 H' id ae 1 8 [.int .u64 0] (.int .i64 (k:Int)) (.int .i64 (k:Int))=some (.own id 0 k k 1 true,H'.put id (.cells (aL (List.replicate k 0)) ae true)):=fun H' id =>
   (jd H' id ae 1 8 [.int .u64 0] .i64 .i64 k zO zO rfl).trans (by rw [mH])
  refine zW (eF hl c d ha.lenV i j) ?_;have k1:Kp H ((H.up 9).put (H.next+5) (.cells (aL (List.replicate k 0)) ae true)):=zK;have s:=k1.le;have g:=(uR (H0:=H) (H:=(H.up 9).put (H.next+5) (.cells (aL (List.replicate k 0)) ae true)) (ex:=true) (n:=k) (ap _ _ _) zO (by simp)).sl;have h1:SlV (bY cB) ae ((H.up 9).put (H.next+5) (.cells (aL (List.replicate k 0)) ae true)) (.own (H.next+5) 0 (List.replicate k 0).length (List.replicate k 0).length 1 true) (List.replicate k 0):=by simpa using g
  obtain ⟨o,H2,e1,h2,h,q,r,-⟩:=SlV.app (id:=H.next+7) (bytes:=8) h1 k1 (ha.mono k1.sub) zO (by show _<H.next+9; omega) (by rw [al zO]; exact m.fresh (b:=H.next+7) zO) (by simp; omega) (by simp; omega);have f:dr ((H.up 9).put (H.next+5) (.cells (aL (List.replicate k 0)) ae true)) (H.next+7) 1 8 ae (.own (H.next+5) 0 k k 1 true) a=some (o,H2):=by rw [XM] at e1; exact e1
  rw [Fs h0] at h2;refine zW (aV hl c d f) ?_;exact ⟨h2,h⟩
def Ce (C:Code tab) (s:Wf H) {a:AV} {n k:Nat} (ha:cd H a n) (o:Sm n) (r:k<4398046511104) :
  Ans tab (.fn qV [a,.int .i64 (k:Int)]) H fun v H'=>∃ p q,v=.tup [p,q]/\cd H' p (n % B^k)/\cd H' q (n / B^k)/\Kp H H':=by
 refine bC C.q149 zU fun T hl b c=>?_;unfold Sm at o;obtain ⟨m,hm⟩:∃ m,m=min k (ag n).length:=⟨_,rfl⟩
 have l:HG (.int .i64 (k:Int)) (.int .i64 ((ag n).length:Int))=some (.int .i64 (m:Int)):=by rw [yP]; congr 2; split <;> omega
 obtain ⟨p,e1,hp⟩:=SlV.clipat ha .i64 .i64 m zO;obtain ⟨q,e2,f⟩:=ha.lo .i64 m zO;have d:bW 1 a none (some (.int .i64 (m:Int))) (some (.int .i64 (m:Int)))=some p:=e1;have e:bW 1 a (some (.int .i64 (m:Int))) none none=some q:=e2;have i:(ag n).take m=(ag n).take k:=by
  by_cases h:k<=(ag n).length
  ·rw [hm,WG h]
  ·rw [hm,Za zO,VP (Vo _),VP zO]
 have g:(ag n).drop m=(ag n).drop k:=by
  by_cases h:k<=(ag n).length
  ·rw [hm,WG h]
  ·rw [hm,Za zO,Yr (Vo _),Yr zO]
 refine zW (cp hl b c ha.lenV l) ?_;refine aM ?_;refine zD (cp hl b c d e) ?_;refine AnsH.use (Fi C zF (hp.mono (zG H)) (by rw [VN]; omega)) ?_;rintro v H2 ⟨h2,j⟩;obtain ⟨k2,_,_⟩:=zT H zK j;rw [eS ((bF n).take m),i,qj] at h2;rw [g,mF] at f;refine zD (cp hl b c d e) ?_;exact ⟨v,q,rfl,h2,f.mono k2.sub,k2⟩
def h9 (C:Code tab) (c:Wf H) {a:AV} {n:Nat} (ha:cd H a n) (b:Sm n):Ans tab (.fn ni [a]) H fun v H'=>v=.int .i64 0/\Kp H H':=by
 unfold Sm at b;exact (oM C c ha zO).mono fun v H' ⟨h1,h2⟩=>⟨by rw [h1,if_neg (dG n)],h2⟩
def Fj (C:Code tab) (z:Wf H) {a b:AV} {x y fi:Nat} {first:List AV} (ha:cd H a x) (hb:cd H b y) (hx:Sm x) (hy:Sm y) {R:Heap->AV->Prop} (w:∀ H' v m,R H' v->R (H'.up m) v)
  (s:∀ H',Kp H H'->Ans tab (.fn fi (first++[a,b])) H' fun v H2=>R H2 v/\Kp H H2) :
  Ans tab (.fn nV [a,b,.fn (.func fi) first []]) H fun v H'=>∃ r,v=.tup [r,.int .i64 0]/\R H' r/\Kp H H':=by
 refine mN C.q140 zU fun T hl d f h=>?_;have B:=ha.one;have D:=hb.one;refine zW (aV hl d f h) ?_;refine cu H [14] (fun k vs H'=>∃ i:Nat,vs=[.int .i64 (i:Int)]/\i+k=2) 2 (by simp only [Vg]; exact hl) rfl zK ⟨0,by refine zW (aV hl d f h) ?_; rfl,rfl⟩ ?_;rintro k T1 u g n p ⟨i,o,j⟩;simp only [Vq,Vw,Vv,and_true] at o;have w1:=p.wf;have A:=p.le;have q:aa T1 13=.agg [a,b]:=(n.at_ 13 zU).trans (zV (aB hl d f));have t0:aa T1 0=a:=(n.at_ 0 zU).trans (zV (aA hl d));have t1:aa T1 1=b:=(n.at_ 1 zU).trans (zV (cp hl d f h f));have t:aa T1 2=.fn (.func fi) first []:=(n.at_ 2 zU).trans (zV (cp hl d f h h))
 match i,j with
 | 0,j =>
  have c:aa T1 14=.int .i64 0:=o;have e:IntKind.i64.wrap (0+1)=((1:Nat):Int):=by decide
  refine zW (aB g c q) ?_;refine AnsH.eq (h9 C zF (ha.mono (zG H)) hx) fun H2 l=>?_;obtain ⟨k2,_,_⟩:=zT H zK l;refine zW (aB g c e) ?_;exact ⟨zK,k-1,zO,1,rfl,zO⟩
 | 1,j =>
  have c:aa T1 14=.int .i64 1:=o;have e:IntKind.i64.wrap (1+1)=((2:Nat):Int):=by decide
  refine zW (aB g c q) ?_;refine AnsH.eq (h9 C zF (hb.mono (zG H)) hy) fun H2 l=>?_;obtain ⟨k2,_,_⟩:=zT H zK l;refine zW (aB g c e) ?_;exact ⟨zK,k-1,zO,2,rfl,zO⟩
 | 2,j =>
  have c:aa T1 14=.int .i64 2:=o;refine zW (cp g c t0 t1 t) ?_;refine AnsH.use (s _ zK) ?_;rintro v H2 ⟨h2,l⟩;refine zW g ?_;exact ⟨v,rfl,h2,l⟩
 | i+3,j=>omega
def TW {H c:Heap} {b ty t1:Nat} {α:Type} {E:fO α} {x y z:AV} {l m n:List α} (hx:SlV E t1 H x l) (hy:SlV E t1 H y m) (d:SlV E t1 H z n) (hs:Sub H c) (hg:c.get b=some (.cells [x,y,z] ty true)):yY (sO E t1) ty c (.own b 0 3 3 1 true) [l,m,n] :=
 ⟨[x,y,z],Rd.own hg rfl (Vo _),fun _ _ _ _ _ _ e=>by cases e; exact ⟨_,_,hg⟩,rfl,fun i a hi=>by
  match i with
  | 0=>simp at hi; subst hi; exact ⟨x,rfl,hx.mono hs⟩
  | 1=>simp at hi; subst hi; exact ⟨y,rfl,hy.mono hs⟩
  | 2=>simp at hi; subst hi; exact ⟨z,rfl,d.mono hs⟩
  | i+3=>simp at hi⟩
def EO {x m h:Nat} (hx:x<B^m) (h1:h<=m):x / B^h<B^(m-h):=by
 apply Nat.div_lt_of_lt_mul
 rw [<- Wu]
 have:h+(m-h)=m:=zO
 rw [this]; exact hx
def Sm.of {n k:Nat} (h:n<B^k) (a:k<1099511627776):Sm n:=Wp (bo h) a
def wW {n m:Nat} (h:(ag n).length<=m):n<B^m:=VF (iw n) (VW zU h)
set_option maxHeartbeats 2000000 in
def NU (C:Code tab):∀ (M:Nat) {H:Heap} {a b:AV} {x y:Nat},Wf H->cd H a x->cd H b y->max (ag x).length (ag y).length=M->M<274877906944 ->
  Ans tab (.fn im [.int .i64 8,a,b]) H fun v H'=>cd H' v (x*y)/\Kp H H':=by
 intro M
 induction M using Nat.strongRecOn with
 | _ M Q =>
 intro H a b x y hw ha hb hM aZ;refine mN C.q139 zU fun T hl f g i=>?_;obtain ⟨U,a0⟩:∃ U,U=min (ag x).length (ag y).length:=⟨_,rfl⟩
 have aK:HG (.int .i64 ((ag x).length:Int)) (.int .i64 ((ag y).length:Int))=some (.int .i64 (U:Int)):=by rw [yP]; congr 2; split <;> omega
 have aI:K4 (.int .i64 ((ag x).length:Int)) (.int .i64 ((ag y).length:Int))=some (.int .i64 (M:Int)):=by rw [DB]; congr 2; split <;> omega
 refine zW (gS hl f g i ha.lenV hb.lenV aK) ?_;refine iteH.split (fun h=>?_) fun h=>?_
 ·refine zW (aV hl f g i) ?_;refine AnsH.use (HD C zF (ha.mono (zG H)) (hb.mono (zG H)) zO zO (bF x) (bF y)) ?_;rintro v H2 ⟨h2,I⟩;obtain ⟨k2,_,_⟩:=zT H zK I;rw [bI,bI] at h2;refine zW (aV hl f g i) ?_;exact ⟨h2,zK⟩
 ·have aY:9<=M:=zO;obtain ⟨k,hk⟩:∃ k,k=(M+1) / 2:=⟨_,rfl⟩
  have aO:IntKind.i64.wrap ((M:Int)+1)=((M+1:Nat):Int):=by rw [wrap_i64] <;> omega
  have hq:ca .quo .int (.int .i64 ((M+1:Nat):Int)) (.int .i64 2)=some (.int .i64 (k:Int)):=by
   show some (AV.int .i64 (IntKind.i64.wrap (((M+1:Nat):Int).tdiv 2)))=_
   have:((M+1:Nat):Int).tdiv 2=(k:Int):=by rw [YA zO]; omega
   rw [this,wrap_i64] <;> omega
  have O:x<B^M:=wW zO;have P:y<B^M:=wW zO;have N:M-k<=k/\k<=M/\k+1<M:=zO;have aQ:x % B^k<B^k:=Wm _ (Wb zU);have aR:y % B^k<B^k:=Wm _ (Wb zU);have a3:x / B^k<B^(M-k):=EO O N.2.1;have a4:y / B^k<B^(M-k):=EO P N.2.1;have a1:B^(M-k)<=B^k:=VW zU N.1;have a2:2*B^k<=B^(k+1):=by rw [V5,VG]; exact XH _ zU
  have Y:x=x / B^k*B^k+x % B^k:=(YH x (B^k)).symm;have Z:y=y / B^k*B^k+y % B^k:=(YH y (B^k)).symm;have aP:IntKind.i64.wrap (2*(k:Int))=((2*k:Nat):Int):=by rw [wrap_i64] <;> omega
  have aM:Sm x:=Sm.of O zO;have aN:Sm y:=Sm.of P zO;have aL:x*y<B^(M+M):=by rw [Wu]; exact ZX O P
  have ah:Sm (x*y):=Sm.of aL zO;refine zW (lh hl f g i ha.lenV hb.lenV aI aO hq) ?_;refine AnsH.use (Ce C zF (ha.mono (zG H)) aM zO) ?_;rintro v H1 ⟨p0,p1,rfl,q,r,aB⟩;obtain ⟨k1,_,w1⟩:=zT H zK aB;refine zW (aV hl f g i) ?_;refine AnsH.use (Ce C zF (hb.mono (zG H)) aN zO) ?_;rintro v H2 ⟨q0,q1,rfl,hq0,w,I⟩;obtain ⟨R,_,_⟩:=zT H1 zK I;have k2:Kp H H2:=k1.trans R;have a5:=k2.le;have w2:=k2.wf;have q:=q.mono R.sub;have r:=r.mono R.sub
  generalize x % B^k=d at *
  generalize x / B^k=x1 at *
  generalize y % B^k=e at *
  generalize y / B^k=y1 at *
  have ba:(ag d).length<=k:=bo aQ;have bc:(ag e).length<=k:=bo aR;have bb:(ag x1).length<=k:=bo zO;have bd:(ag y1).length<=k:=bo zO;refine zW (aV hl f g i) ?_;refine AnsH.use (Q _ zO zF (q.mono (zG H2)) (hq0.mono (zG H2)) rfl zO) ?_;rintro r0 H3 ⟨m,aD⟩;obtain ⟨k23,_,w3⟩:=zT H2 zK aD;refine zW (aV hl f g i) ?_;refine AnsH.use (Q _ zO zF (r.mono (zG H2)) (w.mono (zG H2)) rfl zO) ?_;rintro r1 j ⟨s,aE⟩;obtain ⟨S,_,_⟩:=zT H3 zK aE;have u:Kp H2 j:=k23.trans S;have a6:=u.le;have w4:=S.wf;have m:=m.mono S.sub;have q:=q.mono u.sub;have r:=r.mono u.sub;have hq0:=hq0.mono u.sub;have w:=w.mono u.sub;have bi:=q.one;have bl:=r.one;have aU:=hq0.one;have bn:=w.one;have bq:=m.one;have br:=s.one;refine zW (aV hl f g i) ?_;refine AnsH.use (Dz C (ls:=[d,x1]) zF (BF q r (zG j) (by refine uo ?_; rfl)) (by simp) (Sm.of (k:=k+1) (by simp; omega) zO)) ?_;rintro sx o ⟨af,J⟩;obtain ⟨ao,_,w5⟩:=zT j zK J;have n5:j.next+15<=o.next:=J.le
  have f4:∀ c,c<15->c≠3->o.get (j.next+c)=none:=fun c hc h3=>J.free (show _<j.next+15 by omega) (by rw [al zO]; exact w4.fresh (b:=j.next+c) zO);have bm:=aU;refine zW (aV hl f g i) ?_;have s5:Sub o (o.put (j.next+7) (.cells [q0,q1] aF true)):=aX (f4 7 zO zO);refine AnsH.use (Dz C (ls:=[e,y1]) zF (BF (hq0.mono ao.sub) (w.mono ao.sub) s5 (by refine uo ?_; rfl)) (by simp) (Sm.of (k:=k+1) (by simp; omega) zO)) ?_;rintro sy z ⟨ai,D⟩;obtain ⟨ap,_,_⟩:=zT j zK D;have aW:Sub o z:=s5.trans D.sub;have w6:=ap.wf;have n6:o.next<=z.next:=D.le
  have f6:z.get (j.next+12)=none:=D.free (show _<o.next by omega) (by rw [al zO]; exact f4 12 zO zO);have ay:[d,x1].sum=d+x1:=by simp
  have az:[e,y1].sum=e+y1:=by simp
  rw [ay] at af;rw [az] at ai;have a8:(ag (d+x1)).length<=k+1:=bo zO;have a9:(ag (e+y1)).length<=k+1:=bo zO;refine zW (aV hl f g i) ?_;refine AnsH.use (Q _ zO zF (af.mono aW) ai rfl zO) ?_;rintro m0 t ⟨ab,K⟩;have E:Kp j t:=ap.trans K;have a7:=E.le;have w7:=E.wf;have n7:z.next<=t.next:=K.le
  have f7:t.get (j.next+12)=none:=K.free zO f6;have bh:=ab.one;have m:=m.mono E.sub;have s:=s.mono E.sub;have e1:(d+x1)*(e+y1)=d*e+x1*y1+(d*y1+x1*e):=by grind
  have aG:x1*y1<=x*y:=by
   rw [Y,Z];exact WV (by have:=Wb (n:=k) (show 0<B by decide); have:=ZY x1 this; omega) (by have:=Wb (n:=k) (show 0<B by decide); have:=ZY y1 this; omega)
  have aJ:(d+x1)*(e+y1)<B^((k+1)+(k+1)):=by rw [Wu]; exact ZX zO zO
  have ae:Sm ((d+x1)*(e+y1)):=Sm.of aJ zO;refine zW (aV hl f g i) ?_;have V:Sub t (t.put (j.next+12) (.cells [r0,r1] aF true)):=aX f7;refine AnsH.use (NT C (ls:=[d*e,x1*y1]) zF (ab.mono V) (BF m s V (by refine uo ?_; rfl)) (by simp) ae (by simp; omega)) ?_;rintro md l ⟨ad,aa⟩;obtain ⟨aq,_,_⟩:=zT j zK aa;have ax:Sub t l:=V.trans aa.sub;have w8:=aq.wf;have em:(d+x1)*(e+y1)-[d*e,x1*y1].sum=d*y1+x1*e:=by rw [e1]; simp only [Yw,List.sum_nil,WZ]; omega
  rw [em] at ad;have m:=m.mono ax;have s:=s.mono ax;refine zW (aV hl f g i) ?_;refine AnsH.use (NS C (k:=k) zF (ad.mono (zG l)) (ae.mono zO) zO) ?_;rintro u1 G ⟨ak,L⟩;obtain ⟨ar,_,w9⟩:=zT l zK L;have n9:l.next+11<=G.next:=L.le
  have f9:G.get (l.next+8)=none:=L.free (show _<l.next+11 by omega) (w8.fresh (b:=l.next+8) zO);refine zW (cp hl f g i aP) ?_;refine AnsH.use (NS C (k:=2*k) zF (s.mono ar.sub) (ah.mono aG) zO) ?_;rintro u2 F ⟨am,A⟩;have av:Kp l F:=ar.trans A;have bu:=av.wf;have bg:G.next<=F.next:=A.le
  have aA:F.get (l.next+8)=none:=A.free zO f9;have bs:=ak.one;have bt:=am.one;have X:[d*e,(d*y1+x1*e)*B^k,x1*y1*B^(2*k)].sum=x*y:=by
   have e2:B^(2*k)=B^k*B^k:=by rw [Nat.two_mul,Wu]
   rw [e2]
   conv=>rhs; rw [Y,Z]
   simp only [Yw,List.sum_nil,WZ]
   generalize B^k=p
   grind
  refine zW (aV hl f g i) ?_;refine AnsH.use (Dz C (ls:=[d*e,(d*y1+x1*e)*B^k,x1*y1*B^(2*k)]) zF (TW (m.mono av.sub) (ak.mono A.sub) am (aX aA) (by refine uo ?_; rfl)) (by simp) (by rw [X]; exact ah)) ?_;rintro v W ⟨hv,aC⟩;rw [X] at hv;have aS:Kp l W:=Kp.trans zK aC;have kf:Kp H W:=((k2.trans u).trans aq).trans aS;refine zW (aV hl f g i) ?_;exact ⟨hv,kf⟩
def Qf (C:Code tab) (i:Wf H) {a b:AV} {x y:Nat} (ha:cd H a x) (hb:cd H b y) (hx:(ag x).length<274877906944) (hy:(ag y).length<274877906944) :
  Ans tab (.fn wO [a,b]) H fun v H'=>∃ r,v=.tup [r,.int .i64 0]/\cd H' r (x*y)/\Kp H H':=by
 refine bC C.q126 zU fun T hl e f=>?_;refine zW (aB hl e f) ?_;refine AnsH.use (Fj C (R:=fun H' v=>cd H' v (x*y)) zF (ha.mono (zG H)) (hb.mono (zG H)) (by unfold Sm; omega) (by unfold Sm; omega) (fun H' v m h=>h.mono (Sub.bump H' m)) fun g c=>?_) ?_
 ·have k1:Kp H g:=Kp.trans zK c;refine (NU C _ c.wf (ha.mono k1.sub) (hb.mono k1.sub) rfl zO).mono ?_;rintro v H2 ⟨h2,d⟩;exact ⟨h2,c.trans d⟩
 ·rintro v H2 ⟨r,rfl,hr,d⟩;obtain ⟨k2,_,_⟩:=zT H zK d;refine zW (aB hl e f) ?_;exact ⟨r,rfl,hr,zK⟩
def Kg (C:Code tab) (B:Wf H) {a b:AV} {x y:Int} (ha:IntV H a x) (hb:IntV H b y) (hx:(ag x.natAbs).length<274877906944) (hy:(ag y.natAbs).length<274877906944):Ans tab (.fn qM [a,b]) H fun v H'=>∃ r,v=.tup [r,.int .i64 0]/\IntV H' r (x*y)/\Kp H H':=by
 obtain ⟨p,rfl,hp⟩:=ha;obtain ⟨q,rfl,i⟩:=hb;have op:=hp.one;have G:=i.one;refine bC C.q105 zU fun T hl c d=>?_;refine zW (aB hl c d) ?_;refine AnsH.eq (gV C zF (Jd (x:=x) (y:=y) (H:=H) hp i (zG H) (by refine uo ?_; rfl)) (by simp) fun z l=>?_) fun H2 f=>?_
 ·simp at l; unfold eR Sm; rcases l with rfl | rfl <;> omega
 obtain ⟨k2,_,I⟩:=zT H zK f;have b0:=f.get (b:=H.next) (e:=.cells [.bool (decide (x<0)),p] ad true) (da);have k:=f.get (b:=H.next+1) (e:=.cells [.bool (decide (y<0)),q] ad true) (da);have o:=f.get (b:=H.next+2) (e:=.cells [.bool false,.nilSl] ad true) (da);refine zW (cp hl c d @b0 k) ?_;refine AnsH.use (Qf C zF (hp.mono (zG H)) (i.mono (zG H)) hx hy) ?_;rintro v j ⟨r,rfl,hr,g⟩;obtain ⟨D,_,J⟩:=zT H zK g;have s:=g.get (b:=H.next) b0;have t:=g.get (b:=H.next+1) k;have u:=g.get (b:=H.next+2) o;refine zW (cp hl c d s @t) ?_;refine AnsH.use (fu C zF (hr.mono (zG j)) _) ?_;rintro v4 A ⟨rfl,h⟩;obtain ⟨w,_,_⟩:=zT H zK h;have F:=hr.one;have d2:=h.get (b:=H.next+2) u;have E:=w.wf _ _ d2;refine zW (aV hl c d d2) ?_;refine ⟨_,rfl,?_,zK⟩;have hm:=oP (!(decide (x<0) == decide (y<0))) ((hr.mono (Kp.sub (H:=j) (Kp.trans zK h))).monoT (SubT.put_ty (e:=.cells [.bool (!(decide (x<0) == decide (y<0)) && decide (0<(ag (x.natAbs*y.natAbs)).length)),r] ad true) d2 zU));have e:(if (!(decide (x<0) == decide (y<0)))=true then -((x.natAbs*y.natAbs:Nat):Int) else ((x.natAbs*y.natAbs:Nat):Int))=x*y:=by
  rw [Int.natCast_mul];have m:(x.natAbs:Int)=if x<0 then -x else x:=by split <;> omega
  have n:(y.natAbs:Int)=if y<0 then -y else y:=by split <;> omega
  rw [m,n];by_cases h1:x<0 <;> by_cases h2:y<0 <;> simp [h1,h2,X9,Int.mul_neg]
 rw [e] at hm;exact hm
def Ki (C:Code tab) (i:Wf H) {a b:AV} {x y:Int} (ha:IntV H a x) (hb:IntV H b y) (hx:eR x) (hy:eR y):Ans tab (.fn qN [a,b]) H fun v H'=>v=.tup [.int .i64 (gw (x-y)),.int .i64 0]/\Kp H H':=by
 obtain ⟨p,rfl,hp⟩:=ha;obtain ⟨q,rfl,g⟩:=hb;have op:=hp.one;have m:=g.one;refine bC C.q138 zU fun T hl c d=>?_;refine zW (aB hl c d) ?_;refine AnsH.use (Kf C zF ⟨p,rfl,hp.mono (zG H)⟩ ⟨q,rfl,g.mono (zG H)⟩ hx hy) ?_;rintro v H2 ⟨r,rfl,⟨w,rfl,hr⟩,e⟩;obtain ⟨k2,_,o⟩:=zT H zK e;have n:=hr.one;have l:H.next+13<=H2.next:=e.le
 have f:H2.get (H.next+10)=none:=e.free (show _<H.next+13 by omega) (by rw [al zO,al zO]; exact i.fresh (b:=H.next+10) zO);refine zW (aB hl c d) ?_;have s2:Sub H2 ((H2.put (H.next+10) (.cells [.bool false,.nilSl] ad true)).put (H.next+10) (.cells [.bool (decide (x-y<0)),w] ad true)):=(aX f).put f _;refine AnsH.eq (y8 C (x:=x-y) zF ⟨w,rfl,hr.mono s2⟩) fun j h=>?_;obtain ⟨k,_,_⟩:=zT H zK h;refine zW (aB hl c d) ?_;exact zK
def oz (C:Code tab) (r:Wf H) {n:Int} (h1 : -9223372036854775808<=n) (h2:n<9223372036854775808):Ans tab (.fn tF [.int .i64 n]) H fun v H'=>IntV H' v n/\Kp H H':=by
 refine dg C.q50 zU fun T hl d=>?_;refine zW (aA hl d) ?_;have fin:∀ (a:Heap) (g:Kp H a) (bb:Bool) (o:AV) (m:Nat) (z:Int),a.get H.next=some (.cells [.bool false,.nilSl] ad true)->Lb a o (ag m)->(if bb then -(m:Int) else m)=z ->
   IntV (a.put H.next (.cells [.bool (bb && decide (0<(ag m).length)),o] ad true)) (.agg [.bool (bb && decide (0<(ag m).length)),o]) z/\Kp H (a.put H.next (.cells [.bool (bb && decide (0<(ag m).length)),o] ad true)):=by
  intro a g bb o m z d1 j l;have s:=g.wf _ _ d1;refine ⟨?_,zK⟩;rw [<- l];exact oP bb (j.monoT (SubT.put_ty d1 zU))
 have key:∀ (c:Bool) (k:Nat),0<=k->True:=fun _ _ _=>trivial;refine iteH.split (fun h=>?_) fun h=>?_
 ·have e:IntKind.u64.wrap (0-IntKind.u64.wrap n)=((n.natAbs:Nat):Int):=by rw [kj,kj]; omega
  refine zW (aB hl d e) ?_;refine AnsH.use (Hz C zF (n:=n.natAbs) (by unfold B; omega)) ?_;rintro v H2 ⟨hn,-,i⟩;obtain ⟨k2,_,q⟩:=zT H zK i;have b0:=i.get (b:=H.next) (e:=.cells [.bool false,.nilSl] ad true) (da);have p:=hn.one;refine zW (aA hl d) ?_;refine AnsH.use (fu C zF (hn.mono (zG H2)) true) ?_;rintro v3 a ⟨rfl,f⟩;obtain ⟨g,_,_⟩:=zT H zK f;have d1:=f.get (b:=H.next) b0
  have:=fin a g true v n.natAbs n d1 (hn.mono (Kp.sub (H:=H2) (Kp.trans zK f))) (by simp; omega)
  simp only [Bool.true_and] at this;refine zW (aB hl d d1) ?_;exact this
 ·have e:IntKind.u64.wrap n=((n.natAbs:Nat):Int):=by rw [kj]; omega
  refine zW (aB hl d e) ?_;refine AnsH.use (Hz C zF (n:=n.natAbs) (by unfold B; omega)) ?_;rintro v H2 ⟨hn,-,i⟩;obtain ⟨k2,_,q⟩:=zT H zK i;have b0:=i.get (b:=H.next) (e:=.cells [.bool false,.nilSl] ad true) (da);have p:=hn.one;refine zW (aA hl d) ?_;refine AnsH.use (fu C zF (hn.mono (zG H2)) false) ?_;rintro v3 a ⟨rfl,f⟩;obtain ⟨g,_,_⟩:=zT H zK f;have d1:=f.get (b:=H.next) b0
  have:=fin a g false v n.natAbs n d1 (hn.mono (Kp.sub (H:=H2) (Kp.trans zK f))) (by simp; omega)
  simp only [Bool.false_and] at this;refine zW (aB hl d d1) ?_;exact this
end
def vT {a b:Nat} (ha:a<18446744073709551616) (hb:b<18446744073709551616):ca .or .int (.int .u64 (a:Int)) (.int .u64 (b:Int))=some (.int .u64 ((a ||| b:Nat):Int)):=by
 have h1:(BitVec.ofInt 64 (a:Int)).toNat=a:=by
  have:(BitVec.ofInt 64 (a:Int)).toNat=a % 2^64:=by simp
  rw [this]; omega
 have h2:(BitVec.ofInt 64 (b:Int)).toNat=b:=by
  have:(BitVec.ofInt 64 (b:Int)).toNat=b % 2^64:=by simp
  rw [this]; omega
 have e:(BitVec.ofInt 64 (a:Int) ||| BitVec.ofInt 64 (b:Int)).toNat=a ||| b:=by rw [BitVec.toNat_or,h1,h2]
 have hlt:a ||| b<2^64:=ZN zO zO
 show some (AV.int .u64 (IntKind.u64.wrap ((BitVec.ofInt 64 (a:Int) ||| BitVec.ofInt 64 (b:Int)).toNat:Nat)))=_;rw [e,gy zO zO]
def Gg {r:Nat} (hr:r<64) {k:IntKind}:ca .shl .int (.int .u64 1) (.int k (r:Int))=some (.int .u64 ((2^r:Nat):Int)):=by
 show kK .shl .u64 1 (r:Int)=_;unfold kK;rw [if_neg zO];have h1:Nat.min (r:Int).toNat IntKind.u64.bits=r:=by
  have:IntKind.u64.bits=64:=rfl
  rw [this,Xq]; exact WG zO
 have hlt:(2:Nat)^r<2^64:=YB zO hr;have e:(1:Int)*2^r=((2^r:Nat):Int):=by simp
 simp only [h1,e]
 generalize (2:Nat)^r=p at hlt ⊢
 rw [gy zO zO]
def Dt {a b r:Nat} (ha:a<2^r):a ||| (2^r*b)=a+2^r*b:=by
 rw [Nat.or_comm,<- Nat.two_pow_add_eq_or_of_lt ha,X5]
section
variable {tab:Nat->Option au} {H:Heap} {s:AV}
def Cd (C:Code tab) (f:Wf H) {a:AV} {x k:Nat} (ha:cd H a x) (hx:Sm x) (e:k<=65536) :
  Ans tab (.fn qU [a,.int .i64 (k:Int)]) H fun v H'=>v=.int .i64 0/\Kp H H':=by
 refine bC C.q176 zU fun T hl b c=>?_;refine zW (aB hl b c) ?_;refine AnsH.eq (h9 C zF (ha.mono (zG H)) hx) fun H2 d=>?_;obtain ⟨k2,_,_⟩:=zT H zK d;have e1:decide ((k:Int)<0)=false:=by simp
 have e2:decide ((65536:Int)<(k:Int))=false:=by simp; omega
 refine zW (cp hl b c e1 e2) ?_;exact zK
def ND {k c:Nat} (hc:0<c) (b:k<4611686018427387904):ca .quo .int (.int .i64 (k:Int)) (.int .i64 (c:Int))=some (.int .i64 ((k / c:Nat):Int)):=by
 show (if (c:Int)=0 then none else some (AV.int .i64 (IntKind.i64.wrap ((k:Int).tdiv (c:Int)))))=_;have a:k / c<=k:=XY _ _;rw [if_neg zO,YA zO,<- Int.natCast_ediv]
 generalize k / c=d at a ⊢
 rw [wrap_i64 zO zO]
def NB {k c:Nat} (hc:0<c):ca .rem .int (.int .i64 (k:Int)) (.int .i64 (c:Int))=some (.int .i64 ((k % c:Nat):Int)):=by
 show (if (c:Int)=0 then none else some (AV.int .i64 ((k:Int).tmod (c:Int))))=_;rw [if_neg zO,Zz zO,<- Int.natCast_emod]
def GW {x r:Nat} (hr:r<64):x*2^r % B=2^r*(x % 2^(64-r)):=by
 have a:B=2^r*2^(64-r):=by
  rw [<- Wu]; have:r+(64-r)=64:=zO;rw [this]
 rw [a,VG x,Nat.mul_mod_mul_left]
def RX {x r:Nat} (hx:x<B):x*2^r / B<2^r:=by
 rw [VQ zU,VG];exact Nat.mul_lt_mul_of_pos_left hx (Wb zU)
def rQ (l:List Nat):∃ E,l=eY l++E:=by
 refine ⟨(l.reverse.takeWhile (· == 0)).reverse,?_⟩;have h:=List.takeWhile_append_dropWhile (p:=(· == 0)) (l:=l.reverse);have h2:=congrArg List.reverse h;rw [List.reverse_append,List.reverse_reverse] at h2;exact h2.symm
def NF (b off n c sz:Nat) (x:Bool) (k j:IntKind) (a:n<=c):bW sz (.own b off n c sz x) none (some (.int k (n:Int))) (some (.int j (n:Int)))=some (.own b off n n sz true):=by
 show bL sz (.own b off n c sz x) none (some (.int k (n:Int))) (some (.int j (n:Int)))=_;simp only [bL,fN,ne_eq,not_true_eq_false,if_false,Vj,WR,Xj,Xa];rw [if_pos ⟨a,Vo _,Vz _⟩];split
 ·rename_i h; subst h; rfl
 ·simp
def Hq (b off n c sz m:Nat) (x:Bool) (k:IntKind) (h:m<=c):bW sz (.own b off n c sz x) none (some (.int k (m:Int))) none=some (.own b off m c sz x):=by
 show bL sz (.own b off n c sz x) none (some (.int k (m:Int))) none=_;simp only [bL,fN,ne_eq,not_true_eq_false,if_false,Vj,WR,Xj,W8,Xa,WX];rw [if_pos ⟨h,Vz _⟩]
 simp
def Ip {H:Heap} {cells:List AV} {l:List Nat} (h:Cells (bY cB) H cells l):cells=aL l:=by
 have hl:cells.length=l.length:=by have:=h.1; simpa [bY] using this
 apply W0
 intro i;by_cases hi:i<l.length
 ·obtain ⟨v,e,rfl⟩:=h.2 i _ (Vk hi);have e1:cells[i]? = some (.int .u64 (l[i]:Nat)):=by
   have:=congrArg (fun x=>x[0]?) e
   simpa [bY,VL] using this
  rw [e1];simp [aL,hi]
 ·rw [VS zO,VS (by rw [oQ]; omega)]
def wy (C:Code tab) (i:Wf H) {l:List Nat} (hs:Lb H s l) (k:l.length<1099511627776):Ans tab (.fn cz [s]) H fun v H'=>Lb H' v l/\Kp H H'/\(0<l.length->∃ b,v=.own b 0 l.length l.length 1 false/\H'.get b=some (.cells (aL l) ae true)/\H.next<=b):=by
 refine dg C.q137 zU fun T hl a=>?_;rcases hs.nilcase with ⟨rfl,rfl⟩ | hne
 ·have e:ca .eql .sl .nilSl .nilSl=some (.bool true):=rfl;refine zW (aB hl a e) ?_;exact ⟨SlV.nil _ _ _,zK,fun h=>by simp at h⟩
 ·have d:dj ([]:List AV) []=some []:=rfl;refine zW (aV hl a hne d) ?_;have k1:Kp H ((H.up 7).put (H.next+3) (.cells [] ae true)):=zK;have o:=k1.le;have h0:SlV (bY cB) ae ((H.up 7).put (H.next+3) (.cells [] ae true)) (.own (H.next+3) 0 0 0 1 true) ([]:List Nat) :=
   (show Own (bY cB) ae H _ (H.next+3) true _ [] from ⟨_,rfl,ap _ _ _,Cells.nil _ _,zO⟩).sl
  obtain ⟨j,H2,e1,h2,f,m,n,g⟩:=SlV.app (l:=[]) (id:=H.next+5) (bytes:=8) h0 k1 (hs.mono k1.sub) zO (by show _<H.next+7; omega) (by rw [al zO]; exact i.fresh (b:=H.next+5) zO) (by simp; omega) (by simp; omega);have c:dr ((H.up 7).put (H.next+3) (.cells [] ae true)) (H.next+5) 1 8 ae (.own (H.next+3) 0 0 0 1 true) s=some (j,H2):=e1;refine zW (aB hl a c) ?_;refine ⟨h2,f,fun h=>?_⟩;obtain ⟨cells,q1,q2,q3,q4⟩:=g h;rw [Xv] at q1 q3;rw [Ip q3] at q2;exact ⟨_,q1,q2,q4⟩
def iA (C:Code tab) (f:Wf H) {b n c:Nat} {x:Bool} (d:n<=c):Ans tab (.fn cE [.own b 0 n c 1 x]) H fun v H'=>v=.own b 0 n n 1 true/\Kp H H':=by
 refine dg C.q108 zU fun T hl a=>?_;have e:=NF b 0 n c 1 x .i64 .i64 d;refine zW (aB hl a e) ?_;exact zK
def Dw (C:Code tab) (D:Wf H) {l:List Nat} {b N:Nat} {rw' x:Bool} (n:l.length=N) (hb:H.get b=some (.cells (aL l) ae rw')) (A:N<4611686018427387904) :
  Ans tab (.fn pz [.own b 0 N N 1 x]) H fun v H'=>v=.own b 0 (eY l).length (eY l).length 1 true/\Kp H H':=by
 refine dg C.q93 zU fun T hl i=>?_;refine zW (aA hl i) ?_;refine cu H [0] (fun k vs H'=>vs=[.own b 0 k N 1 x]/\eY (l.take k)=eY l/\k<=l.length) l.length (by simp only [Vg]; exact hl) rfl zK ⟨by exact zV (aB hl i n),by rw [VO],Vo _⟩ ?_;rintro k T1 z d B f ⟨e,g,r⟩;have w1:=f.wf;have E:=f.le;have m:=f.get hb;simp only [Vq,Vw,Vv,and_true] at e;rcases Xs (l.take k) with h0 | ⟨c,a,h0⟩
 ·have s:k=0:=by
   have:=congrArg List.length h0; simp at this
   rcases this with h | h
   ·exact h
   ·subst h; simpa using r
  subst s;refine zW (aB d e @OH) ?_;refine AnsH.eq (iA C zF (Vz _)) fun H2 h2=>?_;have k2:Kp H H2:=Kp.trans zK h2;have y:=k2.le;rw [<- g,h0,wq];refine zW d ?_;exact zK
 ·rw [Xt] at h0;have t:k=c.length+1:=by have:=congrArg List.length h0; simp at this; omega
  subst t;have u:l.take c.length=c:=by
   have:=congrArg (List.take c.length) h0
   rw [XE,WG zO] at this
   simpa using this
  have q:l.getD c.length 0=a:=by
   have this:(l.take (c.length+1)).getD c.length 0=(c++[a]).getD c.length 0:=by rw [h0]
   rw [Vh,VL,if_pos zO,<- Vh] at this;rw [this]; simp [Vh]
  have j:IntKind.i64.wrap (((c.length+1:Nat):Int)-1)=(c.length:Int):=by rw [wrap_i64] <;> omega
  have w:0<c.length+1:=zO;have e':=Hq b 0 (c.length+1) N 1 c.length x .i64 zO;refine zW (eF d e w j m q) ?_;refine iteH.split (fun ha=>?_) fun ha=>?_
  ·have p:a=0:=zO;subst p;refine zW (aV d e j e') ?_;refine ⟨zK,c.length,zO,rfl,?_,zO⟩;rw [u,<- g,h0,eJ]
  ·have o:a≠0:=zO;refine zW (aA d e) ?_;refine AnsH.eq (iA C zF zO) fun H2 h2=>?_;have k2:Kp H H2:=Kp.trans zK h2;have y:=k2.le;rw [<- g,h0,iU o];refine zW (aA d @List.length_append.{0}) ?_;exact zK
def NQ (C:Code tab) (hw:Wf H) {a:AV} {x k:Nat} (ha:cd H a x) (hx:Sm x) (hk:k<=65536) :
  Ans tab (.fn Ag [a,.int .i64 (k:Int)]) H fun v H'=>∃ o,v=.tup [o,.int .i64 0]/\cd H' o (x*2^k)/\Kp H H'/\∃ b E,o=.own b 0 (ag (x*2^k)).length (ag (x*2^k)).length 1 true/\H'.get b=some (.cells (aL (ag (x*2^k)++E)) ae true)/\H.next<=b/\(ag (x*2^k)++E).length=k / 64+(ag x).length+1/\Lim (ag (x*2^k)++E):=by
 refine bC C.q166 zU fun T hl d f=>?_;refine zW (aB hl d f) ?_;refine AnsH.eq (Cd C zF (ha.mono (zG H)) hx hk) fun H2 ah=>?_;obtain ⟨k2,_,w2⟩:=zT H zK ah;have n2:=k2.le;unfold Sm at hx;have W:=ND (k:=k) (c:=64) zO zO;have hr:=NB (k:=k) (c:=64) zO;obtain ⟨q,eq⟩:∃ q,q=k / 64:=⟨_,rfl⟩
 obtain ⟨r,er⟩:∃ r,r=k % 64:=⟨_,rfl⟩
 rw [<- eq] at W;rw [<- er] at hr;have X:ca .quo .int (.int .i64 (k:Int)) (.int .i64 64)=some (.int .i64 (q:Int)):=W;have ao:ca .rem .int (.int .i64 (k:Int)) (.int .i64 64)=some (.int .i64 (r:Int)):=hr;have ap:IntKind.i64.wrap ((q:Int)+((ag x).length:Int))=((q+(ag x).length:Nat):Int):=by rw [wrap_i64] <;> omega
 obtain ⟨N,hN⟩:∃ N,q+(ag x).length+1=N:=⟨_,rfl⟩
 have aq:IntKind.i64.wrap (((q+(ag x).length:Nat):Int)+1)=(N:Int):=by rw [wrap_i64] <;> omega
 have al:∀ H' id,I8 H' id ae 1 8 [.int .u64 0] (.int .i64 (N:Int)) (.int .i64 (N:Int))=some (.own id 0 N N 1 true,H'.put id (.cells (aL (List.replicate N 0)) ae true)):=fun H' id =>
  (jd H' id ae 1 8 [.int .u64 0] .i64 .i64 N zO zO rfl).trans (by rw [mH])
 refine zW (jY hl d f ha.lenV X ap aq al) ?_;have y:r<64:=zO;have ai:k=64*q+r:=zO;have ab:∀ j,(List.replicate N 0).getD j 0=0:=fun j=>by simp [Vh,Wj]; split <;> rfl
 refine am H [] (fun i vs H'=>∃ out,H'.get (H2.next+8)=some (.cells (aL out) ae true)/\out.length=N/\Lim out/\val out=B^q*2^r*val ((ag x).take i)/\out.getD (q+i) 0<2^r/\∀ j,q+i<j->out.getD j 0=0) (a:=0) (N:=(ag x).length) rfl (by refine zW (aB hl d f) ?_; rfl) (zV (aB hl d f)) (Vz _) zO (by simp only [Vg,hl]; rfl) rfl (fun _ _ _ _ h=>h) zK
  ⟨List.replicate N 0,by exact da,by simp,Lim.replicate N,by rw [fS]; simp [val],by rw [ab]; exact Wb zU,fun j _=>ab j⟩ ?_ ?_
 ·rintro i T1 H1 _ hi g P z t ⟨out,A,D,u,hval,U,Z⟩;simp only [Vg,hl] at g;have w1:=t.wf;have ax:=t.le;have F:aa T1 7=.own (H2.next+8) 0 N N 1 true:=(z.at_ 7 zU).trans (zV (aB hl d f));have t1:aa T1 1=.int .i64 (k:Int):=(z.at_ 1 zU).trans (zV (aV hl d f f));have t25:aa T1 25=a:=(z.at_ 25 zU).trans (zV (aA hl d));have af:=SlV.idx1 ha .i64 i hi;have ak:=fI (ha.mono t.sub) hi;have Y:=(bF x).at i;have L:2^r<B:=by unfold B; exact YB (m:=r) (n:=64) zO y
  have hs:=Gg y (k:=.i64);refine zW (lh g F t1 t25 P af ak ao hs) ?_;refine AnsH.use (pO C zF Y L) ?_;rintro v H3 ⟨rfl,Q⟩;obtain ⟨k3,_,w3⟩:=zT H zK Q;have d6:=Q.get (b:=H2.next+8) A;have ay:=k3.wf _ _ d6;have ar:IntKind.i64.wrap ((q:Int)+(i:Int))=((q+i:Nat):Int):=by rw [wrap_i64] <;> omega
  have av:IntKind.i64.wrap (((q+i:Nat):Int)+1)=((q+i+1:Nat):Int):=by rw [wrap_i64] <;> omega
  have V:=vT (a:=out.getD (q+i) 0) (b:=(ag x).getD i 0*2^r % B) (u.at _) (Wm _ zU);rw [GW y,Dt U] at V;rw [GW y];refine zW (ur g F t1 t25 P X ar av d6 V) ?_;have K:=GW (x:=(ag x).getD i 0) y;have O:=RX (r:=r) Y;have M:=WI ((ag x).getD i 0*2^r) B;have S:out.getD (q+i) 0+(ag x).getD i 0*2^r % B<B:=by
   rw [K];have e1:out.getD (q+i) 0 ||| 2^r*((ag x).getD i 0 % 2^(64-r))<2^64:=ZN (u.at _) (by rw [<- K]; exact Wm _ zU)
   rw [Dt U] at e1; exact e1
  rw [K] at M S
  generalize (ag x).getD i 0*2^r / B=w at *
  have h1:=iS (l:=out) (k:=q+i) (v:=out.getD (q+i) 0+2^r*((ag x).getD i 0 % 2^(64-r))) zO;have h2:=iS (l:=out.set (q+i) (out.getD (q+i) 0+2^r*((ag x).getD i 0 % 2^(64-r)))) (k:=q+i+1) (v:=w) (by simp; omega);rw [br zO,Z (q+i+1) zO] at h2;refine ⟨zK,_,rfl,by simp [D],ke (ke u S) (Zp O L),?_,?_,fun j hj=>?_⟩
  ·rw [cZ,Ww,<- hval];have h3:B^q*2^r*(B^i*(ag x).getD i 0)=B^(q+i)*((ag x).getD i 0*2^r):=by rw [Wu]; grind
   rw [h3,<- M,Ww];have J:B^(q+i+1)*w=B^(q+i)*(B*w):=by rw [V5,Wc]
   rw [Ww] at h1;rw [J] at h2;have ad:q+(i+1)=q+i+1:=zO;rw [ad];omega
  ·have:(((out.set (q+i) (out.getD (q+i) 0+2^r*((ag x).getD i 0 % 2^(64-r)))).set (q+(i+1)) w).getD (q+(i+1)) 0)=w:=by
    rw [Vh,XF,if_pos rfl,if_pos (by simp; omega)]; rfl
   rw [this]; exact O
  ·rw [br zO,br zO];exact Z j zO
 ·rintro T1 H1 g z t ⟨out,A,D,u,hval,-,-⟩;simp only [Vg,hl] at g;have w1:=t.wf;have ax:=t.le;have F:aa T1 7=.own (H2.next+8) 0 N N 1 true:=(z.at_ 7 zU).trans (zV (aB hl d f));rw [VP (Vo _),bI] at hval;refine zW (aA g F) ?_;refine AnsH.eq (Dw C zF (rw':=true) D (zV @A) zO) fun H4 R=>?_;obtain ⟨k4,_,_⟩:=zT H zK R;have G:=R.get (b:=H2.next+8) (e:=.cells (aL out) ae true) (zV @A);have e:val out=x*2^k:=by
   rw [hval,ai,Wu,YC]
   have:(2:Nat)^64=B:=by decide
   rw [this,VG]
  have I:=eS u;rw [e] at I;obtain ⟨E,p⟩:=rQ out;rw [I] at p;have J:cd H4 (.own (H2.next+8) 0 (ag (x*2^k)).length (ag (x*2^k)).length 1 true) (x*2^k):=by
   refine ⟨aL (ag (x*2^k)),⟨Vo _,(fun s h=>by cases h),_,rfl,?_⟩,fun _ _ _ _ _ _ e=>by cases e; exact ⟨_,_,G⟩,tT _ _⟩;simp only [aG,G];rw [if_pos ⟨rfl,Vo _,by rw [oQ,p]; simp [bY]⟩];rw [p];simp [aL,bY]
  rw [I];refine zW g ?_;exact ⟨_,rfl,J,zK,_,E,rfl,by rw [G,p],zO,by rw [<- p,D,<- hN,eq,Wx],by rw [<- p]; exact u⟩
end
section
variable {tab:Nat->Option au} {H:Heap} {s:AV} {l:List Nat}
def pK (C:Code tab) (D:Wf H) {l:List Nat} {b N:Nat} {rw' x:Bool} (n:l.length=N) (hb:H.get b=some (.cells (aL l) ae rw')) (A:N<4611686018427387904) :
  Ans tab (.fn tN [.own b 0 N N 1 x]) H fun v H'=>v=.own b 0 (eY l).length (eY l).length 1 true/\Kp H H':=by
 refine dg C.q170 zU fun T hl i=>?_;refine zW (aA hl i) ?_;refine cu H [0] (fun k vs H'=>vs=[.own b 0 k N 1 x]/\eY (l.take k)=eY l/\k<=l.length) l.length (by simp only [Vg]; exact hl) rfl zK ⟨by exact zV (aB hl i n),by rw [VO],Vo _⟩ ?_;rintro k T1 z d B f ⟨e,g,r⟩;have w1:=f.wf;have E:=f.le;have m:=f.get hb;simp only [Vq,Vw,Vv,and_true] at e;rcases Xs (l.take k) with h0 | ⟨c,a,h0⟩
 ·have s:k=0:=by
   have:=congrArg List.length h0; simp at this
   rcases this with h | h
   ·exact h
   ·subst h; simpa using r
  subst s;refine zW (aB d e @OH) ?_;refine AnsH.eq (iA C zF (Vz _)) fun H2 h2=>?_;have k2:Kp H H2:=Kp.trans zK h2;have y:=k2.le;rw [<- g,h0,wq];refine zW d ?_;exact zK
 ·rw [Xt] at h0;have t:k=c.length+1:=by have:=congrArg List.length h0; simp at this; omega
  subst t;have u:l.take c.length=c:=by
   have:=congrArg (List.take c.length) h0
   rw [XE,WG zO] at this
   simpa using this
  have q:l.getD c.length 0=a:=by
   have this:(l.take (c.length+1)).getD c.length 0=(c++[a]).getD c.length 0:=by rw [h0]
   rw [Vh,VL,if_pos zO,<- Vh] at this;rw [this]; simp [Vh]
  have j:IntKind.i64.wrap (((c.length+1:Nat):Int)-1)=(c.length:Int):=by rw [wrap_i64] <;> omega
  have w:0<c.length+1:=zO;have e':=Hq b 0 (c.length+1) N 1 c.length x .i64 zO;refine zW (eF d e w j m q) ?_;refine iteH.split (fun ha=>?_) fun ha=>?_
  ·have p:a=0:=zO;subst p;refine zW (aV d e j e') ?_;refine ⟨zK,c.length,zO,rfl,?_,zO⟩;rw [u,<- g,h0,eJ]
  ·have o:a≠0:=zO;refine zW (aA d e) ?_;refine AnsH.eq (iA C zF zO) fun H2 h2=>?_;have k2:Kp H H2:=Kp.trans zK h2;have y:=k2.le;rw [<- g,h0,iU o];refine zW (aA d @List.length_append.{0}) ?_;exact zK
def Dr {H:Heap} {b:Nat} {l E:List Nat} {rw' x:Bool} (hb:H.get b=some (.cells (aL (l++E)) ae rw')):Lb H (.own b 0 l.length l.length 1 x) l:=by
 refine ⟨aL l,⟨Vo _,(fun s h=>by cases h),_,rfl,?_⟩,fun _ _ _ _ _ _ e=>by cases e; exact ⟨_,_,hb⟩,tT _ _⟩;simp only [aG,hb];rw [if_pos ⟨rfl,Vo _,by rw [oQ]; simp [bY]⟩];simp [aL,bY]
def AB (C:Code tab) (q:Wf H) {ls:List (List Nat)} {ty:Nat} (hs:yY (sO (bY cB) ae) ty H s ls) (p:ls.length<4611686018427387904) (hc:∀ c∈ls,c.length<4611686018427387904/\c.getLast? ≠ some 0) :
  Ans tab (.fn nW [s]) H fun v H'=>v=.int .i64 0/\Kp H H':=by
 refine dg C.q157 zU fun T hl d=>?_;refine zW (aB hl d hs.lenV) ?_;refine am H [] (fun _ _ _=>True) (a:=0) (N:=ls.length) rfl (by refine zW (aA hl d) ?_; rfl) (zV (aA hl d)) (Vz _) zO (by simp only [Vg,hl]; rfl) rfl (fun _ _ _ _ h=>h) zK trivial ?_ ?_
 ·intro j T1 i _ hj b l g e _;have w1:=e.wf;have r:=e.le;have o:aa T1 6=s:=(g.at_ 6 zU).trans (zV (aA hl d));obtain ⟨c,k,n⟩:=SlV.at1 (hs.mono e.sub) (Vk hj);have m:=SlV.idx1 hs .i64 j hj;have f:=hc _ (Vm hj);simp only [Vg,hl] at b;refine zW (cp b o l m n) ?_;refine AnsH.eq (oM C zF k f.1) fun H2 h2=>?_;rw [if_neg f.2];refine zW b ?_;have k2:Kp H H2:=Kp.trans zK h2;have t:=k2.le;exact zK
 ·intro T1 i b g e _;simp only [Vg,hl] at b;refine zW b ?_;exact zK
end
def SQ (v i:AV):Option AV:=aN (fun s=>match s with | .t 0=>v | _=>i) (.indexStr (.t 0) (.t 1))
def db {tab:Nat->Option au} (ev:Src->AV) (H:Heap) (id:Nat) (Q:AV->Heap->Prop) (x i:Src):lJ tab ev H id (.indexStr x i) Q=gu (SQ (ev x) (ev i)) (fun v=>Q v H) ():=by
 rw [bT,dU tab ev H id Q (o:=.indexStr x i) (v:=SQ (ev x) (ev i)) (fun f a e=>by cases e) (by simp only [aN,SQ]) rfl]; rfl
def QX {a b:Nat} (ha:a<18446744073709551616) (hb:0<b):ca .quo .int (.int .u64 (a:Int)) (.int .u64 (b:Int))=some (.int .u64 ((a / b:Nat):Int)):=by
 show (if (b:Int)=0 then none else some (AV.int .u64 (IntKind.u64.wrap ((a:Int).tdiv (b:Int)))))=_;have c:a / b<=a:=XY _ _;rw [if_neg zO,YA zO,<- Int.natCast_ediv]
 generalize a / b=d at c ⊢
 rw [gy zO zO]
def Tc {a b:Nat} (hb:0<b):ca .rem .int (.int .u64 (a:Int)) (.int .u64 (b:Int))=some (.int .u64 ((a % b:Nat):Int)):=by
 show (if (b:Int)=0 then none else some (AV.int .u64 ((a:Int).tmod (b:Int))))=_;rw [if_neg zO,Zz zO,<- Int.natCast_emod]
def sB {x r:Nat} (hr:r<=64) {k:IntKind}:ca .shl .int (.int .u64 (x:Int)) (.int k (r:Int))=some (.int .u64 ((x*2^r % B:Nat):Int)):=by
 show kK .shl .u64 (x:Int) (r:Int)=_;unfold kK;rw [if_neg zO];have h1:Nat.min (r:Int).toNat IntKind.u64.bits=r:=by
  have:IntKind.u64.bits=64:=rfl
  rw [this,Xq]; exact WG hr
 have e:(x:Int)*2^r=((x*2^r:Nat):Int):=by simp
 simp only [h1,e];rw [kj];rfl
def Bo {a b:Nat} (hb:b<=64) {k:IntKind}:ca .shr .int (.int .u64 (a:Int)) (.int k (b:Int))=some (.int .u64 ((a / 2^b:Nat):Int)):=by
 show kK .shr .u64 (a:Int) (b:Int)=_;unfold kK;rw [if_neg zO];have h1:Nat.min (b:Int).toNat IntKind.u64.bits=b:=by
  have:IntKind.u64.bits=64:=rfl
  rw [this,Xq]; exact WG hb
 simp only [h1];congr 2;rw [Zx _ (Xl (Int.pow_pos zO))]
 simp
def qz (a:Nat):ca .shr .int (.int .u64 (a:Int)) (.int .u64 16)=some (.int .u64 ((a / 65536:Nat):Int)):=UR a 16 zO
def zB (a:Nat):ca .shr .int (.int .u64 (a:Int)) (.int .u64 8)=some (.int .u64 ((a / 256:Nat):Int)):=UR a 8 zO
def To:AV:=.str ⟨#[0,1,2,2,3,3,3,3,4,4,4,4,4,4,4,4,5,5,5,5,5,5,5,5,5,5,5,5,5,5,5,5,6,6,6,6,6,6,6,6,6,6,6,6,6,6,6,6,6,6,6,6,6,6,6,6,6,6,6,6,6,6,6,6,7,7,7,7,7,7,7,7,7,7,7,7,7,7,7,7,7,7,7,7,7,7,7,7,7,7,7,7,7,7,7,7,7,7,7,7,7,7,7,7,7,7,7,7,7,7,7,7,7,7,7,7,7,7,7,7,7,7,7,7,7,7,7,7,8,8,8,8,8,8,8,8,8,8,8,8,8,8,8,8,8,8,8,8,8,8,8,8,8,8,8,8,8,8,8,8,8,8,8,8,8,8,8,8,8,8,8,8,8,8,8,8,8,8,8,8,8,8,8,8,8,8,8,8,8,8,8,8,8,8,8,8,8,8,8,8,8,8,8,8,8,8,8,8,8,8,8,8,8,8,8,8,8,8,8,8,8,8,8,8,8,8,8,8,8,8,8,8,8,8,8,8,8,8,8,8,8,8,8,8,8,8,8,8,8,8,8,8,8,8,8,8]⟩
def N7 (x:Nat):Bool:=match SQ To (.int .u8 (x:Int)) with
 | some (.int .u8 z)=>decide (0<=z/\z.toNat<=8/\x<2^z.toNat/\(x=0\/(1<=z.toNat/\2^(z.toNat-1)<=x)))
 | _=>false
theorem N8:(List.range 256).all N7=true:=by kernel_rfl
def Lf {x:Nat} (hx:x<256):∃ L:Nat,SQ To (.int .u8 (x:Int))=some (.int .u8 (L:Int))/\L<=8/\x<2^L/\(x=0\/(1<=L/\2^(L-1)<=x)):=by
 have h:=VJ.1 N8 x (Wt.2 hx);unfold N7 at h;split at h
 ·rename_i z e;simp only [decide_eq_true_eq] at h;obtain ⟨h0,h1,h2,h3⟩:=h;refine ⟨z.toNat,?_,h1,h2,h3⟩;rw [e,Int.toNat_of_nonneg h0]
 ·cases h
def N6 {w k L x:Nat} (hx:w / 2^k=x) (h1:x<2^L) (h2:1<=L) (h3:2^(L-1)<=x):w<2^(k+L)/\2^(k+L-1)<=w:=by
 subst hx;refine ⟨?_,?_⟩
 ·have:=(VQ (Wb zU)).1 h1
  rw [Wu,VG]; exact this
 ·have:=(Y6 (Wb zU)).1 h3
  have e:k+L-1=(L-1)+k:=zO;rw [e,Wu]; exact this
section
variable {tab:Nat->Option au} {H:Heap} {s:AV} {l:List Nat}
set_option maxRecDepth 20000 in
def Iq (C:Code tab) (o:Wf H) {w:Nat} (h0:0<w) (j:w<18446744073709551616) :
  Ans tab (.fn iZ [.int .u64 (w:Int)]) H fun v H'=>(∃ L:Nat,v=.int .i64 (L:Int)/\1<=L/\L<=64/\w<2^L/\2^(L-1)<=w)/\Kp H H':=by
 refine dg C.q175 zU fun T hl f=>?_;have fin:∀ (k x:Nat),x<256->k<=56->w / 2^k=x->0<x->∃ L:Nat,SQ (.str ⟨#[0,1,2,2,3,3,3,3,4,4,4,4,4,4,4,4,5,5,5,5,5,5,5,5,5,5,5,5,5,5,5,5,6,6,6,6,6,6,6,6,6,6,6,6,6,6,6,6,6,6,6,6,6,6,6,6,6,6,6,6,6,6,6,6,7,7,7,7,7,7,7,7,7,7,7,7,7,7,7,7,7,7,7,7,7,7,7,7,7,7,7,7,7,7,7,7,7,7,7,7,7,7,7,7,7,7,7,7,7,7,7,7,7,7,7,7,7,7,7,7,7,7,7,7,7,7,7,7,8,8,8,8,8,8,8,8,8,8,8,8,8,8,8,8,8,8,8,8,8,8,8,8,8,8,8,8,8,8,8,8,8,8,8,8,8,8,8,8,8,8,8,8,8,8,8,8,8,8,8,8,8,8,8,8,8,8,8,8,8,8,8,8,8,8,8,8,8,8,8,8,8,8,8,8,8,8,8,8,8,8,8,8,8,8,8,8,8,8,8,8,8,8,8,8,8,8,8,8,8,8,8,8,8,8,8,8,8,8,8,8,8,8,8,8,8,8,8,8,8,8,8,8,8,8,8,8]⟩) (.int .u8 (IntKind.u8.wrap (x:Int)))=some (.int .u8 (L:Int))/\IntKind.i64.wrap (L:Int)=(L:Int)/\IntKind.i64.wrap ((k:Int)+(L:Int))=((k+L:Nat):Int)/\1<=k+L/\k+L<=64/\w<2^(k+L)/\2^(k+L-1)<=w:=by
  intro k x hx l he m;obtain ⟨L,e1,e2,e3,g⟩:=Lf hx;obtain ⟨h1,h2⟩:=g.resolve_left zO;have h:IntKind.u8.wrap (x:Int)=(x:Int):=by
   show (x:Int) % 256=x;omega
  obtain ⟨h3,i⟩:=N6 he e3 h1 h2;refine ⟨L,by rw [h]; exact e1,by rw [wrap_i64] <;> omega,by rw [wrap_i64] <;> omega,zO,zO,h3,i⟩
 have a:∀ n:Nat,n<100->IntKind.i64.wrap (n:Int)=(n:Int):=fun n hn=>by rw [wrap_i64] <;> omega
 simp -dsimp (maxSteps:=1000000) (disch:=(first | omega | assumption | exact aH _ | exact aT _ _ | exact bf | exact bS _ _ _ | exact bk _ _ | exact bj _ _ _ _ _ _ | exact bX _ _ | exact bp _)) only [↓qh,qg,Nat.reduceLT,Nat.reduceEqDiff,Nat.reduceAdd,reduceIte,reduceCtorEq,Nat.reduceBEq,Int.reduceEq,Int.reduceLT,Int.reduceLE,Int.reduceAdd,Int.reduceSub,hl,f,qz,zB,↓db];refine iteH.split (fun h1=>?_) fun h1=>?_
 all_goals
  simp -dsimp (maxSteps:=1000000) (disch:=(first | omega | assumption | exact aH _ | exact aT _ _ | exact bf | exact bS _ _ _ | exact bk _ _ | exact bj _ _ _ _ _ _ | exact bX _ _ | exact bp _)) only [↓qh,qg,Nat.reduceLT,Nat.reduceEqDiff,Nat.reduceAdd,reduceIte,reduceCtorEq,Nat.reduceBEq,Int.reduceEq,Int.reduceLT,Int.reduceLE,Int.reduceAdd,Int.reduceSub,hl,f,qz,zB,↓db];refine iteH.split (fun h2=>?_) fun h2=>?_
 all_goals
  simp -dsimp (maxSteps:=1000000) (disch:=(first | omega | assumption | exact aH _ | exact aT _ _ | exact bf | exact bS _ _ _ | exact bk _ _ | exact bj _ _ _ _ _ _ | exact bX _ _ | exact bp _)) only [↓qh,qg,Nat.reduceLT,Nat.reduceEqDiff,Nat.reduceAdd,reduceIte,reduceCtorEq,Nat.reduceBEq,Int.reduceEq,Int.reduceLT,Int.reduceLE,Int.reduceAdd,Int.reduceSub,hl,f,qz,zB,↓db];refine iteH.split (fun h3=>?_) fun h3=>?_
 ·have he:w / 2^56=w / 4294967296 / 65536 / 256:=zO;obtain ⟨L,f1,b,f3,f4,d,f6,e⟩:=fin 56 (w / 4294967296 / 65536 / 256) zO zO he zO;have c:IntKind.i64.wrap (56+(L:Int))=((56+L:Nat):Int):=by rw [wrap_i64] <;> omega
  simp -dsimp (maxSteps:=1000000) (disch:=(first | omega | assumption | exact aH _ | exact aT _ _ | exact bf | exact bS _ _ _ | exact bk _ _ | exact bj _ _ _ _ _ _ | exact bX _ _ | exact bp _)) only [↓qh,qg,Nat.reduceLT,Nat.reduceEqDiff,Nat.reduceAdd,reduceIte,reduceCtorEq,Nat.reduceBEq,Int.reduceEq,Int.reduceLT,Int.reduceLE,Int.reduceAdd,Int.reduceSub,hl,f,qz,zB,↓db,f1,b,c,(show IntKind.i64.wrap 16=16 from a 16 zO),(show IntKind.i64.wrap 40=40 from a 40 zO),(show IntKind.i64.wrap 48=48 from a 48 zO),(show IntKind.i64.wrap 56=56 from a 56 zO),(show IntKind.i64.wrap 24=24 from a 24 zO),(show IntKind.i64.wrap 8=8 from a 8 zO)];exact ⟨⟨56+L,rfl,f4,d,f6,e⟩,zK⟩
 ·have he:w / 2^48=w / 4294967296 / 65536:=zO;obtain ⟨L,f1,b,f3,f4,d,f6,e⟩:=fin 48 (w / 4294967296 / 65536) zO zO he zO;have c:IntKind.i64.wrap (48+(L:Int))=((48+L:Nat):Int):=by rw [wrap_i64] <;> omega
  simp -dsimp (maxSteps:=1000000) (disch:=(first | omega | assumption | exact aH _ | exact aT _ _ | exact bf | exact bS _ _ _ | exact bk _ _ | exact bj _ _ _ _ _ _ | exact bX _ _ | exact bp _)) only [↓qh,qg,Nat.reduceLT,Nat.reduceEqDiff,Nat.reduceAdd,reduceIte,reduceCtorEq,Nat.reduceBEq,Int.reduceEq,Int.reduceLT,Int.reduceLE,Int.reduceAdd,Int.reduceSub,hl,f,qz,zB,↓db,f1,b,c,(show IntKind.i64.wrap 16=16 from a 16 zO),(show IntKind.i64.wrap 40=40 from a 40 zO),(show IntKind.i64.wrap 48=48 from a 48 zO),(show IntKind.i64.wrap 56=56 from a 56 zO),(show IntKind.i64.wrap 24=24 from a 24 zO),(show IntKind.i64.wrap 8=8 from a 8 zO)];exact ⟨⟨48+L,rfl,f4,d,f6,e⟩,zK⟩
 ·have he:w / 2^40=w / 4294967296 / 256:=zO;obtain ⟨L,f1,b,f3,f4,d,f6,e⟩:=fin 40 (w / 4294967296 / 256) zO zO he zO;have c:IntKind.i64.wrap (40+(L:Int))=((40+L:Nat):Int):=by rw [wrap_i64] <;> omega
  simp -dsimp (maxSteps:=1000000) (disch:=(first | omega | assumption | exact aH _ | exact aT _ _ | exact bf | exact bS _ _ _ | exact bk _ _ | exact bj _ _ _ _ _ _ | exact bX _ _ | exact bp _)) only [↓qh,qg,Nat.reduceLT,Nat.reduceEqDiff,Nat.reduceAdd,reduceIte,reduceCtorEq,Nat.reduceBEq,Int.reduceEq,Int.reduceLT,Int.reduceLE,Int.reduceAdd,Int.reduceSub,hl,f,qz,zB,↓db,f1,b,c,(show IntKind.i64.wrap 16=16 from a 16 zO),(show IntKind.i64.wrap 40=40 from a 40 zO),(show IntKind.i64.wrap 48=48 from a 48 zO),(show IntKind.i64.wrap 56=56 from a 56 zO),(show IntKind.i64.wrap 24=24 from a 24 zO),(show IntKind.i64.wrap 8=8 from a 8 zO)];exact ⟨⟨40+L,rfl,f4,d,f6,e⟩,zK⟩
 ·have he:w / 2^32=w / 4294967296:=zO;obtain ⟨L,f1,b,f3,f4,d,f6,e⟩:=fin 32 (w / 4294967296) zO zO he zO;have c:IntKind.i64.wrap (32+(L:Int))=((32+L:Nat):Int):=by rw [wrap_i64] <;> omega
  simp -dsimp (maxSteps:=1000000) (disch:=(first | omega | assumption | exact aH _ | exact aT _ _ | exact bf | exact bS _ _ _ | exact bk _ _ | exact bj _ _ _ _ _ _ | exact bX _ _ | exact bp _)) only [↓qh,qg,Nat.reduceLT,Nat.reduceEqDiff,Nat.reduceAdd,reduceIte,reduceCtorEq,Nat.reduceBEq,Int.reduceEq,Int.reduceLT,Int.reduceLE,Int.reduceAdd,Int.reduceSub,hl,f,qz,zB,↓db,f1,b,c,(show IntKind.i64.wrap 16=16 from a 16 zO),(show IntKind.i64.wrap 40=40 from a 40 zO),(show IntKind.i64.wrap 48=48 from a 48 zO),(show IntKind.i64.wrap 56=56 from a 56 zO),(show IntKind.i64.wrap 24=24 from a 24 zO),(show IntKind.i64.wrap 8=8 from a 8 zO)];exact ⟨⟨32+L,rfl,f4,d,f6,e⟩,zK⟩
 ·have he:w / 2^24=w / 65536 / 256:=zO;obtain ⟨L,f1,b,f3,f4,d,f6,e⟩:=fin 24 (w / 65536 / 256) zO zO he zO;have c:IntKind.i64.wrap (24+(L:Int))=((24+L:Nat):Int):=by rw [wrap_i64] <;> omega
  simp -dsimp (maxSteps:=1000000) (disch:=(first | omega | assumption | exact aH _ | exact aT _ _ | exact bf | exact bS _ _ _ | exact bk _ _ | exact bj _ _ _ _ _ _ | exact bX _ _ | exact bp _)) only [↓qh,qg,Nat.reduceLT,Nat.reduceEqDiff,Nat.reduceAdd,reduceIte,reduceCtorEq,Nat.reduceBEq,Int.reduceEq,Int.reduceLT,Int.reduceLE,Int.reduceAdd,Int.reduceSub,hl,f,qz,zB,↓db,f1,b,c,(show IntKind.i64.wrap 16=16 from a 16 zO),(show IntKind.i64.wrap 40=40 from a 40 zO),(show IntKind.i64.wrap 48=48 from a 48 zO),(show IntKind.i64.wrap 56=56 from a 56 zO),(show IntKind.i64.wrap 24=24 from a 24 zO),(show IntKind.i64.wrap 8=8 from a 8 zO)];exact ⟨⟨24+L,rfl,f4,d,f6,e⟩,zK⟩
 ·have he:w / 2^16=w / 65536:=zO;obtain ⟨L,f1,b,f3,f4,d,f6,e⟩:=fin 16 (w / 65536) zO zO he zO;have c:IntKind.i64.wrap (16+(L:Int))=((16+L:Nat):Int):=by rw [wrap_i64] <;> omega
  simp -dsimp (maxSteps:=1000000) (disch:=(first | omega | assumption | exact aH _ | exact aT _ _ | exact bf | exact bS _ _ _ | exact bk _ _ | exact bj _ _ _ _ _ _ | exact bX _ _ | exact bp _)) only [↓qh,qg,Nat.reduceLT,Nat.reduceEqDiff,Nat.reduceAdd,reduceIte,reduceCtorEq,Nat.reduceBEq,Int.reduceEq,Int.reduceLT,Int.reduceLE,Int.reduceAdd,Int.reduceSub,hl,f,qz,zB,↓db,f1,b,c,(show IntKind.i64.wrap 16=16 from a 16 zO),(show IntKind.i64.wrap 40=40 from a 40 zO),(show IntKind.i64.wrap 48=48 from a 48 zO),(show IntKind.i64.wrap 56=56 from a 56 zO),(show IntKind.i64.wrap 24=24 from a 24 zO),(show IntKind.i64.wrap 8=8 from a 8 zO)];exact ⟨⟨16+L,rfl,f4,d,f6,e⟩,zK⟩
 ·have he:w / 2^8=w / 256:=zO;obtain ⟨L,f1,b,f3,f4,d,f6,e⟩:=fin 8 (w / 256) zO zO he zO;have c:IntKind.i64.wrap (8+(L:Int))=((8+L:Nat):Int):=by rw [wrap_i64] <;> omega
  simp -dsimp (maxSteps:=1000000) (disch:=(first | omega | assumption | exact aH _ | exact aT _ _ | exact bf | exact bS _ _ _ | exact bk _ _ | exact bj _ _ _ _ _ _ | exact bX _ _ | exact bp _)) only [↓qh,qg,Nat.reduceLT,Nat.reduceEqDiff,Nat.reduceAdd,reduceIte,reduceCtorEq,Nat.reduceBEq,Int.reduceEq,Int.reduceLT,Int.reduceLE,Int.reduceAdd,Int.reduceSub,hl,f,qz,zB,↓db,f1,b,c,(show IntKind.i64.wrap 16=16 from a 16 zO),(show IntKind.i64.wrap 40=40 from a 40 zO),(show IntKind.i64.wrap 48=48 from a 48 zO),(show IntKind.i64.wrap 56=56 from a 56 zO),(show IntKind.i64.wrap 24=24 from a 24 zO),(show IntKind.i64.wrap 8=8 from a 8 zO)];exact ⟨⟨8+L,rfl,f4,d,f6,e⟩,zK⟩
 ·have he:w / 2^0=w:=zO;obtain ⟨L,f1,b,f3,f4,d,f6,e⟩:=fin 0 (w) zO zO he zO;have c:IntKind.i64.wrap (0+(L:Int))=((0+L:Nat):Int):=by rw [wrap_i64] <;> omega
  simp -dsimp (maxSteps:=1000000) (disch:=(first | omega | assumption | exact aH _ | exact aT _ _ | exact bf | exact bS _ _ _ | exact bk _ _ | exact bj _ _ _ _ _ _ | exact bX _ _ | exact bp _)) only [↓qh,qg,Nat.reduceLT,Nat.reduceEqDiff,Nat.reduceAdd,reduceIte,reduceCtorEq,Nat.reduceBEq,Int.reduceEq,Int.reduceLT,Int.reduceLE,Int.reduceAdd,Int.reduceSub,hl,f,qz,zB,↓db,f1,b,c,(show IntKind.i64.wrap 16=16 from a 16 zO),(show IntKind.i64.wrap 40=40 from a 40 zO),(show IntKind.i64.wrap 48=48 from a 48 zO),(show IntKind.i64.wrap 56=56 from a 56 zO),(show IntKind.i64.wrap 24=24 from a 24 zO),(show IntKind.i64.wrap 8=8 from a 8 zO)];exact ⟨⟨0+L,by rw [V3],f4,d,f6,e⟩,zK⟩
def CN (C:Code tab) (g:Wf H) {w:Nat} (h0:0<w) (c:w<18446744073709551616) :
  Ans tab (.fn dJ [.int .u64 (w:Int)]) H fun v H'=>(∃ z:Nat,v=.int .i64 (z:Int)/\z<64/\w*2^z<18446744073709551616/\9223372036854775808<=w*2^z)/\Kp H H':=by
 refine dg C.q165 zU fun T hl a=>?_;refine zW (aA hl a) ?_;refine AnsH.use (Iq C zF h0 c) ?_;rintro v H2 ⟨⟨L,rfl,h1,h2,h3,b⟩,d⟩;obtain ⟨k2,_,_⟩:=zT H zK d;have f:IntKind.i64.wrap (64-(L:Int))=((64-L:Nat):Int):=by rw [wrap_i64] <;> omega
 refine zW (aB hl a f) ?_;refine ⟨⟨64-L,rfl,zO,?_,?_⟩,zK⟩
 ·have:=XC h3 (Wb (n:=64-L) (show 0<2 by decide))
  rw [<- Wu] at this;have e:L+(64-L)=64:=zO;rw [e] at this;exact this
 ·have:=Vy (2^(64-L)) b
  rw [<- Wu] at this;have e:L-1+(64-L)=63:=zO;rw [e] at this;exact this
end
def Same.set {D:List Nat} {T T1:Tm} {i:Nat} {v:AV} (h:Same D T T1) (hi:i∈D):Same D T (T1.set i v) :=
 ⟨by simp [h.len],fun s hs=>by rw [lV _ _ _ _ (fun e=>hs (by rw [<- e]; exact hi))]; exact h.at_ s hs⟩
def Th (a:Nat):ca .mul .int (.int .u64 (a:Int)) (.int .u64 4294967296)=some (.int .u64 ((a*4294967296 % 18446744073709551616:Nat):Int)):=xw a 4294967296
def I7 (a:Nat):ca .mul .int (.int .u64 4294967296) (.int .u64 (a:Int))=some (.int .u64 ((4294967296*a % 18446744073709551616:Nat):Int)):=xw 4294967296 a
def tx {a:Nat} (h:0<a) (ha:a<18446744073709551616):ca .sub .int (.int .u64 (a:Int)) (.int .u64 1)=some (.int .u64 ((a-1:Nat):Int)):=by
 rw [show (1:Int)=((1:Nat):Int) from rfl,xv a 1 zO];have e:(a+18446744073709551616-1) % 18446744073709551616=a-1:=zO;rw [e]
def sub64 {z:Nat} (h:z<=64):ca .sub .int (.int .u64 64) (.int .u64 (z:Int))=some (.int .u64 ((64-z:Nat):Int)):=by
 rw [show (64:Int)=((64:Nat):Int) from rfl,xv 64 z zO];have e:(64+18446744073709551616-z) % 18446744073709551616=64-z:=zO;rw [e]
def MY {u n p R:Nat} (h:p+R=u*4294967296+n) (a:R<18446744073709551616):((u*4294967296 % 18446744073709551616+n) % 18446744073709551616+18446744073709551616-p % 18446744073709551616) % 18446744073709551616=R:=zO
section
variable {Y a b u n q r:Nat}
def xZ (c:Y=a*4294967296+b) (d:u<Y) (hn:n<4294967296) (e:q*a+r=u) (h:4294967296<=q\/4294967296*r+n<q*b):(u*4294967296+n) / Y<q:=by
 apply (VQ zO).2
 rcases h with h | h
 ·have:=Vy Y h
  omega
 ·have h1:q*Y=(q*a)*4294967296+q*b:=by rw [c,Ww,Wc]
  rw [h1]
  generalize q*a=p at *
  omega
def lY (c:Y=a*4294967296+b) (h0:0<Y) (e:q*a+r=u) (h:q*b<=4294967296*r+n):q<=(u*4294967296+n) / Y:=by
 apply (Y6 h0).2
 have h1:q*Y=(q*a)*4294967296+q*b:=by rw [c,Ww,Wc]
 rw [h1]
 generalize q*a=p at *
 omega
def nr (hb:b<4294967296) (a:q<=4294967296) (hr:4294967296<=r):q*b<=4294967296*r+n:=by
 have h1:q*b<=4294967296*4294967295:=WV a zO;omega
def xY (c:Y=a*4294967296+b) (hb:b<4294967296) (ha:2147483648<=a) (d:u<Y) (hn:n<4294967296):u / a<=4294967297/\(u*4294967296+n) / Y<=u / a:=by
 have h0:0<a:=zO;have e:=WI u a;have hr:u % a<a:=Wm _ h0;rw [VG] at e;refine ⟨?_,?_⟩
 ·apply Ya
  apply (VQ h0).2
  omega
 ·apply Ya
  apply (VQ zO).2
  have h1:(u / a+1)*Y=((u / a+1)*a)*4294967296+(u / a+1)*b:=by rw [c,Ww,Wc]
  have h2:(u / a+1)*a=u / a*a+a:=by rw [Wq,Yo]
  rw [Nat.succ_eq_add_one,h1,h2]
  generalize u / a*a=p at *
  omega
end
def lM {tab:Nat->Option au} {rd:Bool} {id:Nat} {c:ACode} {T:Tm} {H:Heap} {Q:Ex->Tm->Heap->Prop} {L:Nat} (H0:Heap) (d:List Nat) (P:Nat->List AV->Heap->Prop) (R:List AV->Heap->Prop) (m:Nat)
  (hl:T.length=L) (hp:iG c=true) (q:Kp H0 H) (h0:P m (d.map (aa T)) H)
  (hb:∀ k T1 a,T1.length=L->Same (fQ c) T T1->Kp H0 a->P k (d.map (aa T1)) a->WC tab rd c T1 a (RF id (fun T2 H2=>Kp H0 H2/\∃ f,f<k/\P f (d.map (aa T2)) H2) (fun x T2 H2=>x=.nrm/\Kp H0 H2/\R (d.map (aa T2)) H2)))
  (he:∀ T1 a,T1.length=L->Same (fQ c) T T1->Kp H0 a->R (d.map (aa T1)) a->Q .nrm T1 a):WC tab rd (ON id c) T H Q:=by
 unfold ON;refine WB.wcLoop ?_;refine C2 (fun k T1 a=>T1.length=L/\Same (fQ c) T T1/\Kp H0 a/\P k (d.map (aa T1)) a) ?_ m T H ⟨hl,Same.refl _ _,q,h0⟩;rintro k T1 a ⟨g,i,r,n⟩;refine ((hb k T1 a g i r n).wb.same hp).mono ?_;rintro x T2 H2 ⟨h,b⟩;have j:Same (fQ c) T T2:=(i.trans h).wide fun s hs=>by simpa using hs
 cases x with
 | nrm =>
  obtain ⟨t,f,p,o⟩:=b;exact ⟨f,p,h.len.trans g,j,t,o⟩
 | exit e =>
  simp only [RF] at b;show ui id Q (.exit e) T2 H2;simp only [ui];by_cases h1:e=id
  ·rw [if_pos h1] at b ⊢;exact he T2 H2 (h.len.trans g) j b.2.1 b.2.2
  ·rw [if_neg h1] at b;exact absurd b.1 (by simp)
 | goto l=>exact absurd b.1 (by simp)
 | ret=>exact absurd b.1 (by simp)
section
variable {tab:Nat->Option au} {H:Heap}
set_option maxHeartbeats 1000000 in
def Bn (C:Code tab) (hw:Wf H) {hi lo y:Nat} (hy:hi<y) (W:lo<18446744073709551616) (aI:y<18446744073709551616) :
  Ans tab (.fn i8 [.int .u64 (hi:Int),.int .u64 (lo:Int),.int .u64 (y:Int)]) H fun v H'=>v=.tup [.int .u64 (((hi*B+lo) / y:Nat):Int),.int .u64 (((hi*B+lo) % y:Nat):Int)]/\Kp H H':=by
 refine mN C.q174 zU fun T hl g i j=>?_;have e0:¬ (y:Int)=0:=zO;have e1:¬ y<=hi:=zO;refine zW (eF hl g i j e0 e1) ?_;refine iteH.split (fun h0=>?_) (fun h0=>?_)
 ·have az:hi=0:=zO;subst az;have q1:=QX (a:=lo) (b:=y) W zO;have q2:=Tc (a:=lo) (b:=y) zO;rw [YS,V3];refine zW (aV hl g i j) ?_;refine aM ?_;refine zD (eF hl g i j q1 q2) ?_;exact zK
 ·refine zW (aV hl g i j) ?_;refine AnsH.use (CN C zF zO aI) ?_;rintro v H2 ⟨⟨z,rfl,hz,Z,aJ⟩,aC⟩;obtain ⟨k2,_,w⟩:=zT H zK aC;have aB:IntKind.u64.wrap (z:Int)=(z:Int):=gy zO zO;have Q:0<2^z:=Wb zU;obtain ⟨Y,L⟩:∃ Y,y*2^z=Y:=⟨_,rfl⟩
  rw [L] at Z aJ;have s1:ca .shl .int (.int .u64 (y:Int)) (.int .u64 (z:Int))=some (.int .u64 (Y:Int)):=by rw [sB zO,L,Wd Z]
  have s2:=sub64 (z:=z) zO;have ag:hi*2^z<18446744073709551616:=Zp (XC hy Q) (by rw [L]; exact Z);have s3:ca .shl .int (.int .u64 (hi:Int)) (.int .u64 (z:Int))=some (.int .u64 ((hi*2^z:Nat):Int)):=by rw [sB zO,Wd ag]
  have s4:ca .shr .int (.int .u64 (lo:Int)) (.int .u64 ((64-z:Nat):Int))=some (.int .u64 ((lo / 2^(64-z):Nat):Int)):=Bo zO;have hB:B=2^(64-z)*2^z:=by
   rw [<- Wu]; have:64-z+z=64:=zO;rw [this]
  have aD:lo / 2^(64-z)<2^z:=by
   apply (VQ (Wb zU)).2
   rw [VG,<- hB]; exact W
  obtain ⟨u,hu⟩:∃ u,hi*2^z+lo / 2^(64-z)=u:=⟨_,rfl⟩
  have s5:ca .or .int (.int .u64 ((hi*2^z:Nat):Int)) (.int .u64 ((lo / 2^(64-z):Nat):Int))=some (.int .u64 (u:Int)):=by
   rw [vT ag (Wp (XY _ _) W),Nat.or_comm,VG hi,Dt aD,<- hu,VG hi,X5]
  obtain ⟨m,hm⟩:∃ m,lo*2^z % B=m:=⟨_,rfl⟩
  have a3:m<18446744073709551616:=by rw [<- hm]; exact Wm _ zU
  have s6:ca .shl .int (.int .u64 (lo:Int)) (.int .u64 (z:Int))=some (.int .u64 (m:Int)):=by rw [sB zO,hm]
  have hN:(hi*B+lo)*2^z=u*B+m:=by
   have h1:=WI (lo*2^z) B;rw [hm] at h1;have h2:lo*2^z / B=lo / 2^(64-z):=by rw [hB,Y7 _ _ Q]
   rw [h2] at h1;rw [Wq,<- h1,<- hu,Wq,Ys,VG B];omega
  have ar:u<Y:=by
   have h1:(hi*B+lo)*2^z<y*B*2^z:=by
    refine XC ?_ Q
    have:(hi+1)*B<=y*B:=Vy B hy
    rw [Wq] at this;unfold B at *; omega
   rw [hN,Ys,L] at h1;unfold B at h1; omega
  obtain ⟨a,ha⟩:∃ a,Y / 4294967296=a:=⟨_,rfl⟩
  obtain ⟨b,hb⟩:∃ b,Y % 4294967296=b:=⟨_,rfl⟩
  obtain ⟨f,aF⟩:∃ f,m / 4294967296=f:=⟨_,rfl⟩
  obtain ⟨c,aE⟩:∃ c,m % 4294967296=c:=⟨_,rfl⟩
  have F:Y=a*4294967296+b:=zO;have M:b<4294967296:=zO;have ad:2147483648<=a:=zO;have ai:f<4294967296:=zO;have ah:c<4294967296:=zO;have ak:∀ x:Nat,x<18446744073709551616->ca .quo .int (.int .u64 (x:Int)) (.int .u64 (a:Int))=some (.int .u64 ((x / a:Nat):Int)):=fun x hx=>QX hx zO;have ao:∀ x:Nat,x<18446744073709551616->x / a*a % 18446744073709551616=x / a*a/\(x+18446744073709551616-x / a*a) % 18446744073709551616=x % a/\x / a*a+x % a=x:=by
   intro x hx;have h1:=WI x a;rw [VG] at h1
   generalize x / a*a=p at *
   generalize x % a=t at *
   omega
  have qu:=ak u zO;obtain ⟨aO,aP,aQ⟩:=ao u zO;refine zW (JV hl g i j aB s1 s2 s3 s4 s5 s6 ha hb aF aE qu aO aP) ?_;obtain ⟨TQ,TU⟩:=xY F M ad ar ai;have af:∀ x:Nat,x % a<4294967296:=fun x=>Zp (Wm _ zO) zO;refine lM H [15,16] (fun k vs H'=>∃ q r:Nat,vs=[.int .u64 (q:Int),.int .u64 (r:Int)]/\k=q/\q*a+r=u/\(u*4294967296+f) / Y<=q/\q<=4294967297/\r<4294967296) (fun vs H'=>∃ r,vs=[.int .u64 (((u*4294967296+f) / Y:Nat):Int),r]) (u / a) (by simp only [Vg]; exact hl) rfl zK ⟨u / a,u % a,by exact zV (aV hl g i j),rfl,aQ,TU,TQ,af u⟩ ?_ ?_
  ·rintro k T1 H1 d A N ⟨q,r,D,V,e,hge,hq,hr⟩;obtain rfl:=V.symm;have w1:=N.wf;have aK:=N.le;simp only [Vq,Vw,Vv,and_true] at D;obtain ⟨s,vr⟩:=D;have o:aa T1 9=.int .u64 (a:Int):=(A.at_ 9 zU).trans (zV (aV hl g i j));have l:aa T1 10=.int .u64 (b:Int):=(A.at_ 10 zU).trans (zV (aV hl g i j));have un:aa T1 13=.int .u64 (f:Int):=(A.at_ 13 zU).trans (zV (aV hl g i j));have step:4294967296<=q\/4294967296*r+f<q*b->0<q/\(q-1)*a+(r+a)=u/\(u*4294967296+f) / Y<=q-1:=by
    intro h;have h1:=xZ F ar ai e h;have h2:0<q:=Wp (Vz _) h1;refine ⟨h2,?_,YD h1⟩;have h3:q*a=(q-1)*a+a:=by rw [<- W4]; congr 1; omega
    omega
   have w:(r+a) % 18446744073709551616=r+a:=zO;by_cases U:4294967296<=q
   ·have G:(4294967296:Int)<=(q:Int):=zO;obtain ⟨p1,p2,E⟩:=step (.inl U);have z1:=tx (a:=q) p1 zO;refine zW (lh d s vr o l un G z1 w) ?_;refine iteH.split (fun h=>?_) fun h=>?_
    ·refine zW (jY d s vr o l un z1 w) ?_
     have:=lY (Y:=Y) F zO p2 (nr M (q:=q-1) (n:=f) zO zO)
     exact ⟨zK,_,by rw [XJ this E]⟩
    ·refine zW (jY d s vr o l un z1 w) ?_;exact ⟨zK,q-1,zO,q-1,r+a,rfl,rfl,p2,E,zO,zO⟩
   ·have G:¬ (4294967296:Int)<=(q:Int):=zO;have P:q*b % 18446744073709551616=q*b:=by
     apply Wd
     have:q*b<=4294967295*4294967295:=WV zO zO
     omega
    have m2:4294967296*r % 18446744073709551616=4294967296*r:=zO;have m3:(4294967296*r+f) % 18446744073709551616=4294967296*r+f:=zO;by_cases I:4294967296*r+f<q*b
    ·obtain ⟨p1,p2,E⟩:=step (.inr I);have z1:=tx (a:=q) p1 zO;refine zW (Ml d s vr o l un G @I P m2 m3 @I7 z1 w) ?_;refine iteH.split (fun h=>?_) fun h=>?_
     ·refine zW (jY d s vr o l un z1 w) ?_
      have:=lY (Y:=Y) F zO p2 (nr M (q:=q-1) (n:=f) zO zO)
      exact ⟨zK,_,by rw [XJ this E]⟩
     ·refine zW (jY d s vr o l un z1 w) ?_;exact ⟨zK,q-1,zO,q-1,r+a,rfl,rfl,p2,E,zO,zO⟩
    ·refine zW (By d s vr o l un G @I P m2 m3 @I7) ?_
     have:=lY (Y:=Y) F zO e (Xm I)
     exact ⟨zK,_,by rw [XJ this hge]⟩
  ·rintro T1 H1 d A N ⟨r,D⟩;have w1:=N.wf;have aK:=N.le;simp only [Vq,Vw,Vv,and_true] at D;obtain ⟨ab,-⟩:=D;obtain ⟨q1,X⟩:∃ q1,(u*4294967296+f) / Y=q1:=⟨_,rfl⟩
   obtain ⟨u1,ap⟩:∃ u1,(u*4294967296+f) % Y=u1:=⟨_,rfl⟩
   have d1:=WI (u*4294967296+f) Y;rw [X,ap,VG Y] at d1;have aq:u1<Y:=by rw [<- ap]; exact Wm _ zO
   rw [X] at ab;have t2:aa T1 2=.int .u64 (Y:Int):=(A.at_ 2 zU).trans (zV (aV hl g i j));have t8:aa T1 8=.int .u64 (z:Int):=(A.at_ 8 zU).trans (zV (aV hl g i j));have t9:aa T1 9=.int .u64 (a:Int):=(A.at_ 9 zU).trans (zV (aV hl g i j));have S:aa T1 10=.int .u64 (b:Int):=(A.at_ 10 zU).trans (zV (aV hl g i j));have aY:aa T1 11=.int .u64 (u:Int):=(A.at_ 11 zU).trans (zV (aV hl g i j));have aZ:aa T1 13=.int .u64 (f:Int):=(A.at_ 13 zU).trans (zV (aV hl g i j));have R:aa T1 14=.int .u64 (c:Int):=(A.at_ 14 zU).trans (zV (aV hl g i j));have f1:((u*4294967296 % 18446744073709551616+f) % 18446744073709551616+18446744073709551616-q1*Y % 18446744073709551616) % 18446744073709551616=u1:=MY d1 zO;have aN:=ak u1 zO;obtain ⟨aR,aS,aU⟩:=ao u1 zO;obtain ⟨aW,aX⟩:=xY F M ad aq ah;refine zW (Ml d ab t2 t8 t9 S aY aZ R @Th f1 aN aR aS) ?_;refine lM H [18,16] (fun k vs H'=>∃ q r:Nat,vs=[.int .u64 (q:Int),.int .u64 (r:Int)]/\k=q/\q*a+r=u1/\(u1*4294967296+c) / Y<=q/\q<=4294967297/\r<4294967296) (fun vs H'=>∃ r,vs=[.int .u64 (((u1*4294967296+c) / Y:Nat):Int),r]) (u1 / a) (by simp only [Vg]; exact d) rfl zK ⟨u1 / a,u1 % a,by exact zV d,rfl,aU,aX,aW,af u1⟩ ?_ ?_
   ·rintro k T2 H3 J K O ⟨q,r,D,V,e,hge,hq,hr⟩;obtain rfl:=V.symm;have w1:=O.wf;have aL:=O.le;simp only [Vq,Vw,Vv,and_true] at D;obtain ⟨s,vr⟩:=D;have o:aa T2 9=.int .u64 (a:Int):=(K.at_ 9 zU).trans (zV (aV d t9 S R));have l:aa T2 10=.int .u64 (b:Int):=(K.at_ 10 zU).trans (zV (aV d t9 S R));have un:aa T2 14=.int .u64 (c:Int):=(K.at_ 14 zU).trans (zV (aV d t9 S R));have step:4294967296<=q\/4294967296*r+c<q*b->0<q/\(q-1)*a+(r+a)=u1/\(u1*4294967296+c) / Y<=q-1:=by
     intro h;have h1:=xZ F aq ah e h;have h2:0<q:=Wp (Vz _) h1;refine ⟨h2,?_,YD h1⟩;have h3:q*a=(q-1)*a+a:=by rw [<- W4]; congr 1; omega
     omega
    have w:(r+a) % 18446744073709551616=r+a:=zO;by_cases U:4294967296<=q
    ·have G:(4294967296:Int)<=(q:Int):=zO;obtain ⟨p1,p2,E⟩:=step (.inl U);have z1:=tx (a:=q) p1 zO;refine zW (lh J s vr o l un G z1 w) ?_;refine iteH.split (fun h=>?_) fun h=>?_
     ·refine zW (jY J s vr o l un z1 w) ?_
      have:=lY (Y:=Y) F zO p2 (nr M (q:=q-1) (n:=c) zO zO)
      exact ⟨zK,_,by rw [XJ this E]⟩
     ·refine zW (jY J s vr o l un z1 w) ?_;exact ⟨zK,q-1,zO,q-1,r+a,rfl,rfl,p2,E,zO,zO⟩
    ·have G:¬ (4294967296:Int)<=(q:Int):=zO;have P:q*b % 18446744073709551616=q*b:=by
      apply Wd
      have:q*b<=4294967295*4294967295:=WV zO zO
      omega
     have m2:4294967296*r % 18446744073709551616=4294967296*r:=zO;have m3:(4294967296*r+c) % 18446744073709551616=4294967296*r+c:=zO;by_cases I:4294967296*r+c<q*b
     ·obtain ⟨p1,p2,E⟩:=step (.inr I);have z1:=tx (a:=q) p1 zO;refine zW (Ml J s vr o l un G @I P m2 m3 @I7 z1 w) ?_;refine iteH.split (fun h=>?_) fun h=>?_
      ·refine zW (jY J s vr o l un z1 w) ?_
       have:=lY (Y:=Y) F zO p2 (nr M (q:=q-1) (n:=c) zO zO)
       exact ⟨zK,_,by rw [XJ this E]⟩
      ·refine zW (jY J s vr o l un z1 w) ?_;exact ⟨zK,q-1,zO,q-1,r+a,rfl,rfl,p2,E,zO,zO⟩
     ·refine zW (By J s vr o l un G @I P m2 m3 @I7) ?_
      have:=lY (Y:=Y) F zO e (Xm I)
      exact ⟨zK,_,by rw [XJ this hge]⟩
   ·rintro T2 H3 J K O ⟨r,D⟩;have w3:=O.wf;have aL:=O.le;simp only [Vq,Vw,Vv,and_true] at D;obtain ⟨av,-⟩:=D;obtain ⟨q0,hq0⟩:∃ q0,(u1*4294967296+c) / Y=q0:=⟨_,rfl⟩
    obtain ⟨r0,al⟩:∃ r0,(u1*4294967296+c) % Y=r0:=⟨_,rfl⟩
    have d2:=WI (u1*4294967296+c) Y;rw [hq0,al,VG Y] at d2;have am:r0<Y:=by rw [<- al]; exact Wm _ zO
    rw [hq0] at av;have x2:aa T2 2=.int .u64 (Y:Int):=(K.at_ 2 zU).trans (zV (aA d t2));have x8:aa T2 8=.int .u64 (z:Int):=(K.at_ 8 zU).trans (zV (aA d t8));have a0:aa T2 14=.int .u64 (c:Int):=(K.at_ 14 zU).trans (zV (aA d R));have a1:aa T2 15=.int .u64 (q1:Int):=(K.at_ 15 zU).trans (zV (aA d ab));have a2:aa T2 17=.int .u64 (u1:Int):=(K.at_ 17 zU).trans (zV d);have a5:q1<4294967296:=by
     rw [<- X]
     apply (VQ zO).2
     omega
    have a4:q0<4294967296:=by
     rw [<- hq0]
     apply (VQ zO).2
     omega
    have f2:(q1*4294967296 % 18446744073709551616+q0) % 18446744073709551616=q1*4294967296+q0:=zO;have f3:((u1*4294967296 % 18446744073709551616+c) % 18446744073709551616+18446744073709551616-q0*Y % 18446744073709551616) % 18446744073709551616=r0:=MY d2 zO;have aG:ca .shr .int (.int .u64 (r0:Int)) (.int .u64 (z:Int))=some (.int .u64 ((r0 / 2^z:Nat):Int)):=Bo zO;refine zW (sG J av x2 x8 a0 a1 a2 @Th f2 f3 aG) ?_;have ae:(hi*B+lo)*2^z=(q1*4294967296+q0)*Y+r0:=by
     rw [hN,Wq,Ys];have e5:m=f*4294967296+c:=zO
     generalize q1*Y=p at *
     generalize q0*Y=p' at *
     unfold B;omega
    have ax:(hi*B+lo) / y=q1*4294967296+q0:=by
     rw [<- Y7 _ _ Q,ae,L];rw [X5,Y8 _ _ zO,Xn am,V3]
    have ay:r0 / 2^z=(hi*B+lo) % y:=by
     have h1:(hi*B+lo)*2^z % (y*2^z)=r0:=by
      rw [ae,L,X5,Nat.add_mul_mod_self_right,Wd am]
     rw [Z3] at h1;rw [<- h1,Nat.mul_div_cancel _ Q]
    rw [ax,ay];exact ⟨rfl,zK⟩
end
def zg:∀ {out:List Nat} {M:Nat},(∀ j,j<out.length->out.getD j 0=M / B^j % B)->M<B^out.length->val out=M
 | [],M,_,h=>by simp at h; simp [val,h]
 | a :: t,M,hd,h=>by
  have h0:=hd 0 (by simp);simp only [XZ,Yt,Nat.div_one] at h0;have b:val t=M / B:=by
   refine zg (fun j hj=>?_) ?_
   ·have:=hd (j+1) (by simpa using hj)
    rw [W5] at this;rw [this,WA,V5,VG B]
   ·apply (VQ zU).2
    rw [<- V5]; simpa using h
  simp only [val,b,h0];exact Zk M B
def HM {out:List Nat} (h:∀ j,j<out.length->out.getD j 0<B):Lim out:=fun a ha=>by
 obtain ⟨j,hj,rfl⟩:=WF ha
 have:=h j hj
 rw [Vh,Vk hj] at this;exact this
def iQ (n j:Nat):(ag n).getD j 0=n / B^j % B:=by
 have h1:(ag n).drop j=ag (n / B^j):=mF j n;have h2:(ag n).getD j 0=((ag n).drop j).getD 0 0:=by
  rw [Vh,Vh,VM,WZ]
 rw [h2,h1];by_cases h0:n / B^j=0
 ·rw [h0,cQ]; rfl
 ·rw [jS h0]; rfl
def Gq {a c m M:Nat} (ha:a<c) (d:0<M):(a+c*m) % (c*M)=a+c*(m % M):=by
 have h1:m=m % M+M*(m / M):=(Zk m M).symm;have h2:a+c*m=a+c*(m % M)+c*M*(m / M):=by
  conv=>lhs; rw [h1]
  rw [Ww,Wc]; omega
 have h3:a+c*(m % M)<c*M:=by
  have b:c*(m % M+1)<=c*M:=XH c (Wm _ d);rw [Ww] at b; omega
 rw [h2,X2,Wd h3]
def AH {Y j r:Nat} (hr:r<64):Y / B^j % B / 2^r+2^(64-r)*(Y / B^(j+1) % B % 2^r)=Y / 2^r / B^j % B:=by
 have b:B=2^r*2^(64-r):=by
  rw [<- Wu]; have:r+(64-r)=64:=zO;rw [this]
 have p2:0<2^r:=Wb zU;have e:0<2^(64-r):=Wb zU;have e1:Y / 2^r / B^j=Y / B^j / 2^r:=by rw [WA,WA,VG]
 have e2:Y / B^(j+1)=Y / B^j / B:=by rw [WA,V5]
 rw [e1,e2]
 generalize Y / B^j=Z
 have d:Z=Z % B+B*(Z / B):=(Zk Z B).symm;have hl:Z % B / 2^r<2^(64-r):=by
  apply (VQ p2).2
  rw [VG,<- b]; exact Wm _ zU
 have h1:Z / 2^r=Z % B / 2^r+2^(64-r)*(Z / B):=by
  conv=>lhs; rw [d]
  rw [b,Wc,Nat.add_mul_div_left _ _ p2,<- b]
 have h2:Z / B % B % 2^r=Z / B % 2^r:=Nat.mod_mod_of_dvd _ ⟨2^(64-r),b⟩;rw [h1,h2]
 have:=Gq (a:=Z % B / 2^r) (c:=2^(64-r)) (m:=Z / B) (M:=2^r) hl p2
 rw [VG (2^(64-r)) (2^r),<- b] at this;exact this.symm
def IR {x r:Nat} (hr:r<=64):x*2^(64-r) % B=2^(64-r)*(x % 2^r):=by
 have a:B=2^(64-r)*2^r:=by
  rw [<- Wu]; have:64-r+r=64:=zO;rw [this]
 rw [a,VG x,Nat.mul_mod_mul_left]
def rh {l:List Nat} {i v:Nat} (h:i<l.length):(l.set i v).getD i 0=v:=by
 rw [Vh,XF,if_pos rfl,if_pos h]; rfl
section
variable {tab:Nat->Option au} {H:Heap} {s:AV}
def NR (C:Code tab) (hw:Wf H) {a:AV} {x k:Nat} (ha:cd H a x) (hx:Sm x) (hk:k<=65536) :
  Ans tab (.fn tJ [a,.int .i64 (k:Int)]) H fun v H'=>∃ o,v=.tup [o,.int .i64 0]/\cd H' o (x / 2^k)/\Kp H H':=by
 refine bC C.q171 zU fun T hl f d=>?_;refine zW (aB hl f d) ?_;refine AnsH.eq (Cd C zF (ha.mono (zG H)) hx hk) fun H2 al=>?_;obtain ⟨k2,_,w2⟩:=zT H zK al;have n2:=k2.le;unfold Sm at hx;have X:=ND (k:=k) (c:=64) zO zO;have hr:=NB (k:=k) (c:=64) zO;obtain ⟨q,eq⟩:∃ q,q=k / 64:=⟨_,rfl⟩
 obtain ⟨r,er⟩:∃ r,r=k % 64:=⟨_,rfl⟩
 rw [<- eq] at X;rw [<- er] at hr;have ay:ca .quo .int (.int .i64 (k:Int)) (.int .i64 64)=some (.int .i64 (q:Int)):=X;have ab:ca .rem .int (.int .i64 (k:Int)) (.int .i64 64)=some (.int .i64 (r:Int)):=hr;have K:r<64:=zO;obtain ⟨n,hn⟩:∃ n,min q (ag x).length=n:=⟨_,rfl⟩
 have av:HG (.int .i64 (q:Int)) (.int .i64 ((ag x).length:Int))=some (.int .i64 (n:Int)):=by rw [yP]; congr 2; split <;> omega
 obtain ⟨s',e0,ad⟩:=SlV.lo (ha.mono k2.sub) .i64 n zO;have e':bW 1 a (some (.int .i64 (n:Int))) none none=some s':=e0;obtain ⟨l,t⟩:∃ l,(ag x).drop n=l:=⟨_,rfl⟩
 rw [t] at ad;have aq:Lim l:=by rw [<- t]; exact (bF x).drop n
 have aI:l.length<=(ag x).length:=by rw [<- t,WN]; omega
 refine zW (gS hl f d ay ha.lenV av e') ?_;refine AnsH.use (wy C zF (ad.mono (Sub.bump H2 _)) zO) ?_;rintro v M ⟨hv,ao,W⟩;obtain ⟨k3,_,w3⟩:=zT H zK ao;obtain ⟨N,z⟩:∃ N,l.length=N:=⟨_,rfl⟩
 have aD:lenV v=some (.int .i64 (N:Int)):=by have:=hv.lenV; rwa [z] at this
 rw [z] at W;obtain ⟨b,hb⟩:∃ b,0<N->v=.own b 0 N N 1 false/\M.get b=some (.cells (aL l) ae true)/\H.next<=b:=by
  by_cases h0:0<N
  ·obtain ⟨b,h1,h2,h3⟩:=W h0
   have:H.next<=H2.next:=n2
   exact ⟨b,fun _=>⟨h1,h2,by have:H2.next<=b:=VB (VV _ _) h3; omega⟩⟩
  ·exact ⟨0,fun h=>absurd h h0⟩
 obtain ⟨Y,s⟩:∃ Y,val l=Y:=⟨_,rfl⟩
 have ak:∀ j,l.getD j 0=Y / B^j % B:=by
  intro j;have h1:l=ag Y:=by
   rw [<- t,mF] at s ⊢;rw [bI] at s; rw [s]
  rw [h1,iQ]
 have P:Y<B^N:=by rw [<- s,<- z]; exact wn aq
 refine zW (aV hl f d aD) ?_;refine am H [] (fun i vs H'=>∃ out,(0<N->H'.get b=some (.cells (aL out) ae true))/\(N=0->Lb H' v [])/\out.length=N/\(∀ j,j<i->out.getD j 0=Y / 2^r / B^j % B)/\(∀ j,i<=j->out.getD j 0=Y / B^j % B)) (a:=0) (N:=N) rfl (by refine zW (aB hl f d) ?_; rfl) (zV (aB hl f d)) (Vz _) zO (by simp only [Vg,hl]; rfl) rfl (fun _ _ H' m h=>by
   obtain ⟨out,h1,h2,h3⟩:=h;exact ⟨out,h1,fun h0=>(h2 h0).mono (Sub.bump H' m),h3⟩) zK
  ⟨l,fun h0=>by exact zV ((hb h0).2.1),fun h0=>by
   have:l=[]:=VZ zO
   subst this; exact hv.mono (Sub.bump M _),z,fun j hj=>by omega,fun j _=>ak j⟩ ?_ ?_
 ·rintro i T1 F _ hi g R D p ⟨out,b0,-,u,w,A⟩;simp only [Vg,hl] at g;have w1:=p.wf;have aF:=p.le;obtain ⟨L,-,Q⟩:=hb zO;have G:=b0 zO;have aJ:=p.wf _ _ G;have E:aa T1 7=.own b 0 N N 1 false:=(D.at_ 7 zU).trans (zV (aV hl f d L));have t1:aa T1 1=.int .i64 (k:Int):=(D.at_ 1 zU).trans (zV (aV hl f d d));have az:∀ y:Nat,ca .shr .int (.int .u64 (y:Int)) (.int .i64 (r:Int))=some (.int .u64 ((y / 2^r:Nat):Int)):=fun y=>UR y r K;have ah:IntKind.i64.wrap ((i:Int)+1)=((i+1:Nat):Int):=by rw [wrap_i64] <;> omega
  have J:=A i (Vo _);refine zW (jY g E t1 R @G ab az ah) ?_;refine iteH.split (fun h=>?_) fun h=>?_
  ·have ax:=A (i+1) zO;have aE:IntKind.i64.wrap (64-(r:Int))=((64-r:Nat):Int):=by rw [wrap_i64] <;> omega
   have gi:(out.set i (out.getD i 0 / 2^r)).getD i 0=out.getD i 0 / 2^r:=rh zO;have ai:(out.set i (out.getD i 0 / 2^r)).getD (i+1) 0=out.getD (i+1) 0:=br zO;have U:out.getD i 0<18446744073709551616:=by rw [J]; exact Wm _ zU
   have af:=sB (x:=out.getD (i+1) 0) (r:=64-r) zO (k:=.i64);have aC:out.getD i 0 / 2^r<2^(64-r):=by
    apply (VQ (Wb zU)).2
    rw [<- Wu]
    have:64-r+r=64:=zO
    rw [this]; exact U
   have V:=vT (a:=out.getD i 0 / 2^r) (b:=out.getD (i+1) 0*2^(64-r) % B) (Wp (XY _ _) U) (Wm _ zU);rw [IR zO,Dt aC] at V;rw [IR zO] at af;have ti:bz (aL (out.set i (out.getD i 0 / 2^r))) i none=some (.int .u64 ((out.getD i 0 / 2^r:Nat):Int)):=by rw [C9 (by simp; omega),gi]
   have aG:bz (aL (out.set i (out.getD i 0 / 2^r))) (i+1) none=some (.int .u64 ((out.getD (i+1) 0:Nat):Int)):=by rw [C9 (by simp; omega),ai]
   refine aM ?_;refine zD (By g E t1 R @G ab aE ah ti aG af V) ?_;refine ⟨zK,_,fun _=>rfl,fun h0=>by omega,by simp [u],fun j hj=>?_,fun j hj=>?_⟩
   ·by_cases I:j=i
    ·subst I;rw [rh (by simp; omega),J,ax];exact AH K
    ·rw [br zO,br zO];exact w j zO
   ·rw [br zO,br zO];exact A j zO
  ·refine zW g ?_;refine ⟨zK,_,fun _=>rfl,fun h0=>by omega,by simp [u],fun j hj=>?_,fun j hj=>?_⟩
   ·by_cases I:j=i
    ·subst I;rw [rh zO,J,<- AH K];have h0:Y / B^(j+1)=0:=Xn (by
      have:j+1=N:=zO
      rw [this]; exact P)
     rw [h0]; simp
    ·rw [br zO];exact w j zO
   ·rw [br zO];exact A j zO
 ·rintro T1 F g D p ⟨out,b0,hz,u,w,-⟩;simp only [Vg,hl] at g;have w1:=p.wf;have aF:=p.le;have E:aa T1 7=v:=(D.at_ 7 zU).trans (zV (aB hl f d));have ar:Lim out:=HM fun j hj=>by rw [w j zO]; exact Wm _ zU
  have hval:val out=Y / 2^r:=zg (fun j hj=>w j zO) (by rw [u]; exact Wp (XY _ _) P);have ho:Lb F v out:=by
   by_cases h0:0<N
   ·obtain ⟨L,-,Q⟩:=hb h0;rw [L];exact (uR (H0:=H) (ex:=false) (b0 h0) Q u).sl
   ·have:out=[]:=VZ zO
    subst this; exact hz zO
  refine zW (aA g E) ?_;refine AnsH.use (uL C zF (ho.mono (Sub.bump F _)) zO) ?_;rintro v2 H4 ⟨O,ap⟩;obtain ⟨k4,_,_⟩:=zT H zK ap;have e:val out=x / 2^k:=by
   have h1:Y=x / B^n:=by rw [<- s,<- t,mF,bI]
   have h2:x / B^n=x / B^q:=by
    by_cases Z:q<=(ag x).length
    ·rw [show n=q from by rw [<- hn,WG Z]]
    ·have h3:=iw x;have S:(ag x).length<=q:=Xe (Nat.lt_of_not_le Z);rw [show n=(ag x).length from by rw [<- hn,Za S],Xn h3];exact (Xn (VF h3 (VW zU S))).symm
   have h3:k=64*q+r:=zO;rw [hval,h1,h2,WA];congr 1;rw [h3,Wu,YC]
  rw [eS ar,e] at O;refine zW g ?_;exact ⟨v2,rfl,O,zK⟩
end
def Kd {X w y:Nat}:X*B+y=X / w*B*w+(X % w*B+y):=by
 have h:=WI X w
 generalize X / w=q at *
 generalize X % w=r at *
 subst h
 grind
section
variable {tab:Nat->Option au} {H:Heap} {s:AV}
def sK (C:Code tab) (b:Wf H) {sa:AV} (ha:One sa) :
  Ans tab (.fn cP [sa]) H fun v H'=>v=.fn (.func aZ) [] [.ptr H.next 0]/\H'.get H.next=some (.cells [sa] aF true)/\H.next+1<=H'.next/\Kp H H':=by
 refine dg C.q173 zU fun T hl a=>?_;refine zW (aA hl a) ?_;exact ⟨zO,zK⟩
def Ei (C:Code tab) {H0:Heap} {lb f:Nat} {a:List Nat} {sa:AV} (J:Nat->Heap->Prop) (z:a.length<4611686018427387904)
  (x:Kp H0 H) (h0:J 0 H) (e:∀ k H m,J k H->J k (H.up m)) (hA:∀ k H,J k H->H.get f=some (.cells [sa] aF true)/\Lb H sa a)
  (hr:∀ i k H,i+k+1=a.length->Kp H0 H->J k H->Ans tab (.round lb [.int .i64 (i:Int),.int .u64 (a.getD i 0:Nat)]) H fun v H'=>v=.bool true/\Kp H0 H'/\J (k+1) H') :
  Ans tab (.ent aZ [.loopv lb,.ptr f 0]) H fun _ H'=>Kp H0 H'/\J a.length H':=by
 refine SA C.q177 zU fun T hl c d=>?_;obtain ⟨q1,q2⟩:=hA _ _ h0;have t:IntKind.i64.wrap ((a.length:Int)-1)=(a.length:Int)-1:=by rw [wrap_i64] <;> omega
 refine zW (eF hl c d q1 q2.lenV t) ?_;refine cu H0 [3] (fun m vs H'=>∃ k,k<=a.length/\m=a.length-k/\vs=[.int .i64 ((a.length:Int)-1-(k:Int))]/\J k H') a.length (by simp only [Vg]; exact hl) rfl zK ⟨0,Vz _,rfl,by exact zV (cp hl c d @OH @Int.sub_zero),e _ _ _ h0⟩ ?_;rintro m T1 n j l h ⟨k,y,rfl,b,g⟩;simp only [Vq,Vw,Vv,and_true] at b;have w1:=h.wf;have A:=h.le;obtain ⟨q1,q2⟩:=hA _ _ g;by_cases o:k=a.length
 ·have p:¬ (0:Int)<=(a.length:Int)-1-(k:Int):=zO;subst o;refine zW (aB j b p) ?_;exact ⟨zK,e _ _ _ g⟩
 ·obtain ⟨i,hi⟩:∃ i,i+k+1=a.length:=⟨a.length-k-1,zO⟩
  have u:(a.length:Int)-1-(k:Int)=(i:Int):=zO;rw [u] at b;have q:(0:Int)<=(i:Int):=zO;have t0:aa T1 0=.loopv lb:=(l.at_ 0 zU).trans (zV (aA hl c));have t1:aa T1 1=.ptr f 0:=(l.at_ 1 zU).trans (zV (aV hl c d d));have x1:=SlV.idx1 q2 .i64 i zO;have d1:=fI q2 (i:=i) zO;have r:∀ m,Ans tab (.round lb [.int .i64 (i:Int),.int .u64 (a.getD i 0:Nat)]) (n.up m) fun v H'=>v=.bool true/\Kp H0 H'/\J (k+1) H':=fun m=>hr i k _ hi (h.up m) (e _ _ _ g);have s:IntKind.i64.wrap ((i:Int)-1)=(a.length:Int)-1-((k+1:Nat):Int):=by rw [wrap_i64] <;> omega
  refine zW (jY j b q t0 t1 q1 x1 d1) ?_;refine AnsH.eq (r _) fun H2 ⟨k2,w⟩=>?_;refine zW (aB j b s) ?_;exact ⟨zK,a.length-(k+1),zO,k+1,zO,rfl,rfl,e _ _ _ w⟩
def FT (C:Code tab) (i:Wf H) {a b:AV} {x y:Nat} (ha:cd H a x) (hb:cd H b y) (hx:Sm x) (hy:Sm y) (h0:0<y) :
  Ans tab (.fn oi [a,b]) H fun v H'=>v=.int .i64 0/\Kp H H':=by
 refine bC C.q163 zU fun T hl c d=>?_;refine zW (aB hl c d) ?_;refine AnsH.eq (h9 C zF (ha.mono (Sub.bump H _)) hx) fun H2 e=>?_;obtain ⟨k2,_,k⟩:=zT H zK e;refine zW (aB hl c d) ?_;refine AnsH.eq (h9 C zF (hb.mono k2.sub) hy) fun g f=>?_;obtain ⟨j,_,l⟩:=zT H zK f;have h:=b7 y;have hne:¬ ((ag y).length:Int)=0:=zO;refine zW (cp hl c d hb.lenV hne) ?_;exact zK
set_option maxHeartbeats 1000000 in
def Ox (C:Code tab) (hw:Wf H) {a:AV} {x w:Nat} (ha:cd H a x) (hx:Sm x) (h0:0<w) (ak:w<18446744073709551616) :
  Ans tab (.fn tO [a,.int .u64 (w:Int)]) H fun v H'=>∃ q,v=.tup [q,.int .u64 ((x % w:Nat):Int),.int .i64 0]/\cd H' q (x / w)/\Kp H H':=by
 refine bC C.q164 zU fun T hl c d=>?_;have al:¬ (w:Int)=0:=zO;unfold Sm at hx;obtain ⟨N,F⟩:∃ N,(ag x).length=N:=⟨_,rfl⟩
 have af:∀ H' id,I8 H' id ae 1 8 [.int .u64 0] (.int .i64 (N:Int)) (.int .i64 (N:Int))=some (.own id 0 N N 1 true,H'.put id (.cells (aL (List.replicate N 0)) ae true)):=fun H' id =>
  (jd H' id ae 1 8 [.int .u64 0] .i64 .i64 N zO zO rfl).trans (by rw [mH])
 have ab:lenV a=some (.int .i64 (N:Int)):=by have:=ha.lenV; rwa [F] at this
 refine zW (aB hl c d) ?_;refine AnsH.eq (h9 C zF (ha.mono (zG H)) hx) fun H2 z=>?_;obtain ⟨k2,_,w2⟩:=zT H zK z;have n2:=z.le;have p0:H2.get H.next=some (.cells [.int .u64 (w:Int)] ae true):=z.get (da)
 have p1:H2.get (H.next+1)=some (.cells [.nilSl] aF true):=z.get (da);have p2:H2.get (H.next+2)=some (.cells [.int .u64 0] ae true):=z.get (da);have l0:=k2.wf _ _ p0;have l1:=k2.wf _ _ p1;have l2:=k2.wf _ _ p2;refine zW (lh hl c d p0 p1 p2 al ab af) ?_;refine AnsH.use (sK C zF ha.one) ?_;rintro v b ⟨rfl,Q,ah,A⟩;simp only [next_put,cO] at Q ah ⊢;obtain ⟨k3,_,w3⟩:=zT H zK A;have q0:b.get H.next=some (.cells [.int .u64 (w:Int)] ae true):=A.get (zV p0)
 have q1:b.get (H.next+1)=some (.cells [.own (H2.next+5) 0 N N 1 true] aF true):=A.get (da);have q2:b.get (H.next+2)=some (.cells [.int .u64 0] ae true):=A.get (zV p2);have qb:b.get (H2.next+5)=some (.cells (aL (List.replicate N 0)) ae true):=A.get (da);have ap:∀ j,(List.replicate N 0).getD j 0=0:=fun j=>by simp [Vh,Wj]; split <;> rfl
 have X:x / B^N=0:=Xn (by rw [<- F]; exact iw x);refine zW (aB hl c d) ?_;refine mi (fi:=aZ) (args:=[.loopv b.next,.ptr (H2.next+9) 0]) (by refine zW (aB hl c d) ?_; rfl) ?_
 generalize he:Ent.loop _ _ _ _ _ _=e0
 have M:Kp H ((b.up 1).put b.next e0):=zK;have aI:=M.le;refine (Ei C (H0:=H) (a:=ag x) (sa:=a) (fun k H'=>H'.get b.next=some e0/\H'.get H.next=some (.cells [.int .u64 (w:Int)] ae true)/\H'.get (H.next+1)=some (.cells [.own (H2.next+5) 0 N N 1 true] aF true) /\
   (∃ (out:List Nat) (r:Nat),H'.get (H2.next+5)=some (.cells (aL out) ae true)/\out.length=N/\Lim out/\H'.get (H.next+2)=some (.cells [.int .u64 (r:Int)] ae true)/\r=x / B^(N-k) % w/\val out=x / B^(N-k) / w*B^(N-k)/\∀ j,j<N-k->out.getD j 0=0) /\
   H'.get (H2.next+9)=some (.cells [a] aF true)/\Lb H' a (ag x)) zO M
  ⟨by exact da,by exact zV q0,by exact zV q1,⟨List.replicate N 0,0,by exact zV qb,by simp,Lim.replicate N,by refine zW q2 ?_; rfl,by rw [Zn,X,Nat.zero_mod],by rw [Zn,X,Nat.zero_div,YS,fS],fun j _=>ap j⟩,by exact zV Q,ha.mono M.sub⟩ (fun _ _ _ h=>h) (fun k H' h=>⟨h.2.2.2.2.1,h.2.2.2.2.2⟩) ?_).mono ?_
 ·rintro i k H1 aD t ⟨f,s,g,⟨out,r,m,J,K,n,hr,hval,L⟩,j5,-⟩;rw [<- he] at f;have aK:=t.wf _ _ f;have ar:=t.wf _ _ s;have av:=t.wf _ _ g;have ax:=t.wf _ _ m;have ay:=t.wf _ _ n;have V:r<w:=by rw [hr]; exact Wm _ h0
  have Z:N-k=i+1:=zO;have aa:N-(k+1)=i:=zO;have aC:i<N:=zO;rw [Z] at hr hval L;obtain ⟨y,hy⟩:∃ y,(ag x).getD i 0=y:=⟨_,rfl⟩
  have am:y<18446744073709551616:=by rw [<- hy]; exact (bF x).at i
  rw [hy];have w1:=t.wf;have aG:=t.le;have ao:y=x / B^i % B:=by rw [<- hy,iQ]
  refine mR f rfl ?_;refine zW (aV hl c d f) ?_
  generalize ad:Ent.loop _ _ _ _ LoopState.busy none=e2
  refine aM ?_;refine zD (jY hl c d f s g m n) ?_;refine AnsH.use (Bn C zF V am ak) ?_;rintro v o ⟨rfl,u⟩;have e:Kp H o:=Kp.trans zK u;have aJ:=e.le;have w4:=e.wf;have r0:o.get b.next=some e2:=u.get (da)
  have r1:o.get H.next=some (.cells [.int .u64 (w:Int)] ae true):=u.get (zV s)
  have r2:o.get (H.next+1)=some (.cells [.own (H2.next+5) 0 N N 1 true] aF true):=u.get (zV g);have D:o.get (H2.next+5)=some (.cells (aL out) ae true):=u.get (zV m);have P:o.get (H.next+2)=some (.cells [.int .u64 (r:Int)] ae true):=u.get (zV n);have r5:o.get (H2.next+9)=some (.cells [a] aF true):=u.get (zV j5);have aN:=e.wf _ _ r0;have az:=e.wf _ _ r1;have aA:=e.wf _ _ r2;have aO:=e.wf _ _ D;have aP:=e.wf _ _ P;refine zD (Mm hl c d f s g m n r0 r1 r2 D P) ?_;rw [ko];have hX:x / B^i=x / B^(i+1)*B+y:=by
   rw [ao,V5,<- WA,VG];exact (WI _ _).symm
  have U:x / B^i=x / B^(i+1) / w*B*w+(r*B+y):=by
   rw [hX,hr]; exact Kd
  have ai:(r*B+y) / w<B:=by
   apply (VQ h0).2
   have:(r+1)*B<=w*B:=Vy B V
   rw [Wq] at this;rw [VG B]; unfold B at *; omega
  have W:=iS (l:=out) (k:=i) (v:=(r*B+y) / w) zO;rw [L i zO,Yb,WZ,hval] at W;have O:Kp H (((o.put (H2.next+5) (.cells (aL (out.set i ((r*B+y) / w))) ae true)).put (H.next+2) (.cells [.int .u64 (((r*B+y) % w:Nat):Int)] ae true)).put b.next e0):=zK;have aq:=O.le;refine zW (lh ad he r0 r1 r2 D P r5 aa) ?_;refine ⟨zK,⟨_,_,rfl,by simp [J],ke K ai,rfl,?_,?_,fun j hj=>?_⟩,ha.mono (zG H)⟩
  ·rw [U,Nat.mul_add_mod_self_right]
  ·rw [W,U,X5 (x / B^(i+1) / w*B*w),Y8 _ _ h0,V5]
   grind
  ·rw [br zO];exact L j zO
 ·rintro _ H' ⟨p,f,s,g,⟨out,r,m,J,K,n,hr,hval,-⟩,-⟩;have hlt:=p.wf _ _ f;have ar:=p.wf _ _ s;have av:=p.wf _ _ g;have ax:=p.wf _ _ m;have ay:=p.wf _ _ n;have Y:=p.wf;have aE:=p.le;refine .inl ⟨f,?_⟩;refine zW (aV hl c d F) ?_;rw [F,YE,Yt,Nat.div_one] at hr hval;rw [WT] at hval;refine aM ?_;refine zD (gS hl c d s g m n) ?_;have aQ:=k2.le;have R:((H'.up 6).kill b.next).get (H2.next+5)=some (.cells (aL out) ae true):=by exact zV m
  have w6:Wf (H'.up 6):=Y.bump 6;have O:Kp H (H'.up 6):=p.up 6;have aq:=O.le;refine AnsH.eq (pK C zF (rw':=true) J R zO) fun I G=>?_;obtain ⟨e,_,Y⟩:=zT H zK G;have r1:I.get (H.next+1)=some (.cells [.own (H2.next+5) 0 N N 1 true] aF true):=G.get (zV g);have r2:I.get (H.next+2)=some (.cells [.int .u64 (r:Int)] ae true):=G.get (zV n);have D:I.get (H2.next+5)=some (.cells (aL out) ae true):=G.get R;have az:=e.wf _ _ r1;have aA:=e.wf _ _ r2;obtain ⟨E,S⟩:=rQ out;rw [eS K,hval] at S ⊢;refine zD (lh hl c d s g m n r1 r2) ?_;rw [hr];refine ⟨_,rfl,Dr (E:=E) (rw':=true) ?_,zK⟩;rw [<- S];exact zV D
end
def BX {tab:Nat->Option au} {rd:Bool} {a rest:ACode} {l:Nat} {T:Tm} {H:Heap} {Q:Ex->Tm->Heap->Prop} (h:WC tab rd a T H (Nr Q)):WC tab rd (.scopeL a l rest) T H Q:=by
 obtain ⟨x,T',H',⟨N,g⟩,b⟩:=eH a T H _ h.run;refine ⟨show ∃ x T' H',O9 tab rd (.scopeL a l rest) T H x T' H'/\Q x T' H' from ⟨x,T',H',⟨N,fun m n hm hn=>?_⟩,?_⟩⟩
 ·simp only [aI,g m n hm hn];cases x <;> first | rfl | exact b.elim
 ·cases x <;> first | exact b | exact b.elim
def oA:∀ {l:List Nat} (_:Lim l) (j:Nat),l.getD j 0=val l / B^j % B
 | [],_,j=>by simp [val]
 | a :: t,h,0=>by
  have:=h.head
  simp only [XZ,val,Yt,Nat.div_one,X2];exact (Wd this).symm
 | a :: t,h,j+1=>by
  have b:=oA h.tail j;have ha:=h.head;rw [W5,b];simp only [val];rw [V5,VG (B^j),<- WA,Nat.add_mul_div_left _ _ zU,Xn ha,V3]
structure Dv (H:Heap) (d rb bb M n:Nat) (x1:Bool) (R L:List Nat):Prop where
 hd:H.get d=some (.cells [.own rb 0 M M 1 x1,.own bb 0 n n 1 true] fT true)
 hr:H.get rb=some (.cells (aL R) ae true)
 hb:H.get bb=some (.cells (aL L) ae true)
 lr:R.length=M
 ll:n<=L.length
 ne:rb≠bb
 limR:Lim R
 limL:Lim L
def FrX (b:Nat) (H H':Heap):Prop:=∀ c e,c≠b->H.get c=some e->H'.get c=some e
def FrX.refl (b:Nat) (H:Heap):FrX b H H:=fun _ _ _ h=>h
def FrX.trans {b:Nat} {H H' H'':Heap} (h:FrX b H H') (h':FrX b H' H''):FrX b H H'':=fun c e hc he=>h' c e hc (h c e hc he)
def Dv.up {H:Heap} {d rb bb M n:Nat} {x1:Bool} {R L:List Nat} (h:Dv H d rb bb M n x1 R L) (k:Nat):Dv (H.up k) d rb bb M n x1 R L:=⟨h.hd,h.hr,h.hb,h.lr,h.ll,h.ne,h.limR,h.limL⟩
def Dv.kp {H H':Heap} {d rb bb M n:Nat} {x1:Bool} {R L:List Nat} (h:Dv H d rb bb M n x1 R L) (a:Kp H H'):Dv H' d rb bb M n x1 R L:=⟨a.get h.hd,a.get h.hr,a.get h.hb,h.lr,h.ll,h.ne,h.limR,h.limL⟩
def Dv.put {H:Heap} {d rb bb M n b:Nat} {x1:Bool} {R L:List Nat} {e:Ent} (h:Dv H d rb bb M n x1 R L) (h1:d≠b) (h2:rb≠b) (h3:bb≠b):Dv (H.put b e) d rb bb M n x1 R L:=⟨by rw [al h1]; exact h.hd,by rw [al h2]; exact h.hr,by rw [al h3]; exact h.hb,h.lr,h.ll,h.ne,h.limR,h.limL⟩
def Dv.ndr {H:Heap} {d rb bb M n:Nat} {x1:Bool} {R L:List Nat} (h:Dv H d rb bb M n x1 R L):d≠rb:=fun e=>by
 have h1:=h.hd;rw [e,h.hr] at h1
 injection h1 with h1; injection h1 with _ h2; exact absurd h2 zU
section
variable {b V W P f sec th hi un q r N:Nat}
def HU (hV:(hi*b+un)*P<=V) (hW:W<(N*b+th+1)*P) (e:q*hi+r=N) (h:r*b+th<q*un) (hV0:0<V):0<q/\W / V<=q-1:=by
 have h1:W<q*V:=by
  refine VF hW ?_;refine VB (Vy P ?_) (VB (X4 (Wc q (hi*b+un) P)) (XH q hV));rw [<- e,Ww,Wq,<- Wc];omega
 have h2:W / V<q:=(VQ hV0).2 h1;exact ⟨Wp (Vz _) h2,YD h2⟩
def HV (hV:(hi*b+un)*P<=V) (hW:W<(N*b+th+1)*P) (d:th<b) (c:0<hi) (hV0:0<V):W / V<=N / hi:=by
 apply Ya
 apply (VQ hV0).2
 have h0:=WI N hi;have h1:=Wm N c;have h2:N+1<=(N / hi+1)*hi:=by
  rw [Wq,Yo,VG (N / hi)]
  generalize hi*(N / hi)=t at *
  omega
 refine VF hW ?_;refine VB (Vy P ?_) (VB (X4 (Wc (N / hi+1) (hi*b+un) P)) (XH _ hV));have h3:=Vy b h2;rw [Ww,<- Wc];have a:(N+1)*b=N*b+b:=by rw [Wq,Yo]
 refine VB ?_ (VB h3 (VV _ _));rw [a];exact Nat.add_le_add_left d _
def RT (hs:sec<b) (a:f<hi) (h0:0<b):(f*b+sec) / hi<b:=by
 apply (VQ zO).2
 have h1:(f+1)*b<=hi*b:=Vy b a;rw [Wq,Yo] at h1;rw [VG b]; omega
end
structure GuessH (V W P f sec th hi un:Nat):Prop where
 hV:(hi*B+un)*P<=V
 hW:W<((f*B+sec)*B+th+1)*P
 hWV:W<V*B
 hV0:0<V
structure GuessI (V W f sec hi q r:Nat):Prop where
 e:q*hi+r=f*B+sec
 ge:W / V<=q
section
variable {V W P f sec th hi un q r ov lw:Nat}
def GuessI.step (G:GuessH V W P f sec th hi un) (I:GuessI V W f sec hi q r) (h:r*B+th<q*un):0<q/\GuessI V W f sec hi (q-1) (r+hi):=by
 obtain ⟨h1,h2⟩:=HU G.hV G.hW I.e h G.hV0;refine ⟨h1,?_,h2⟩;have h3:q*hi=(q-1)*hi+hi:=by
  obtain ⟨t,rfl⟩:∃ t,q=t+1:=⟨q-1,zO⟩
  rw [W4,Xx]
 have:=I.e
 rw [h3] at this;rw [<- this,Wx,X5 hi]
def GuessI.init (G:GuessH V W P f sec th hi un) (b:th<B) (hs:sec<B) (a:f<hi):GuessI V W f sec hi ((f*B+sec) / hi) ((f*B+sec) % hi)/\(f*B+sec) / hi<B:=by
 refine ⟨⟨?_,HV G.hV G.hW b (Wp (Vz _) a) G.hV0⟩,RT hs a zU⟩;rw [VG]; exact WI _ _
def GuessH.max (G:GuessH V W P f sec th hi un):W / V<=18446744073709551615:=by
 have h:=G.hWV;rw [VG] at h;exact Ya ((VQ G.hV0).2 h)
def P5 (e1:q*un / B=ov) (a:th<B) (c:r<ov):r*B+th<q*un:=by
 have h:=WI (q*un) B;rw [e1] at h;rw [<- h];have h2:(r+1)*B<=ov*B:=Vy B c;rw [Wq,Yo,VG ov] at h2;refine VF (Zl a _) (VB h2 (VV _ _))
def P6 (e1:q*un / B=ov) (e2:q*un % B=lw) (c:th<lw):ov*B+th<q*un:=by
 have h:=WI (q*un) B;rw [e1,e2] at h;rw [<- h,VG];exact Zl c _
end
section
variable {tab:Nat->Option au} {H:Heap}
set_option maxHeartbeats 1000000 in
def LF (C:Code tab) (hw:Wf H) {d rb bb M m b:Nat} {x1:Bool} {R L:List Nat} (D:Dv H d rb bb M (m+2) x1 R L) (ar:b+(m+2)<M) (hM:M<2199023255552)
  {V W P:Nat} (G:GuessH V W P (R.getD (b+(m+2)) 0) (R.getD (b+(m+1)) 0) (R.getD (b+m) 0) (L.getD (m+1) 0) (L.getD m 0)) :
  Ans tab (.fn gg [.ptr d 0,.int .i64 (b:Int)]) H fun v H'=>∃ q:Nat,v=.int .u64 (q:Int)/\q<B/\W / V<=q/\Kp H H':=by
 obtain ⟨hd,hr,hb,lr,ll,ne,limR,limL⟩:=D;refine bC C.q167 zU fun T hl e g=>?_;obtain ⟨hi,K⟩:∃ hi,L.getD (m+1) 0=hi:=⟨_,rfl⟩
 obtain ⟨un,U⟩:∃ un,L.getD m 0=un:=⟨_,rfl⟩
 obtain ⟨f,J⟩:∃ f,R.getD (b+(m+2)) 0=f:=⟨_,rfl⟩
 obtain ⟨sec,es⟩:∃ sec,R.getD (b+(m+1)) 0=sec:=⟨_,rfl⟩
 obtain ⟨th,S⟩:∃ th,R.getD (b+m) 0=th:=⟨_,rfl⟩
 have A:hi<B:=K ▸ limL.at _;have aq:un<B:=U ▸ limL.at _;have fB:f<B:=J ▸ limR.at _;have af:sec<B:=es ▸ limR.at _;have ag:th<B:=S ▸ limR.at _;rw [K,U,J,es,S] at G;have ae:IntKind.i64.wrap ((b:Int)+((m+2:Nat):Int))=((b+(m+2):Nat):Int):=by rw [wrap_i64] <;> omega
 have al:IntKind.i64.wrap (((b+(m+2):Nat):Int)-1)=((b+(m+1):Nat):Int):=by rw [wrap_i64] <;> omega
 have am:IntKind.i64.wrap (((b+(m+2):Nat):Int)-2)=((b+m:Nat):Int):=by rw [wrap_i64] <;> omega
 have ao:IntKind.i64.wrap (((m+2:Nat):Int)-1)=((m+1:Nat):Int):=by rw [wrap_i64] <;> omega
 have ap:IntKind.i64.wrap (((m+2:Nat):Int)-2)=(m:Int):=by rw [wrap_i64] <;> omega
 refine zW (aB hl e g) ?_;refine BX ?_;refine zW (aV hl e g hd) ?_;refine aM ?_;refine zD (By hl e g hd hr hb ae al ao J es K) ?_;refine iteH.split (fun h1=>?_) fun h1=>?_
 ·simp only [iN,jM,iM,lS,Xv,Xy];refine zW (aB hl e g) ?_;exact ⟨18446744073709551615,by simp,by decide,G.max,zK⟩
 ·simp only [iN,jM,iM,lS,Xv,Xy];refine zW (aB hl e g) ?_;refine AnsH.use (Bn C zF zO af A) ?_;rintro v H2 ⟨rfl,ah⟩;obtain ⟨k2,_,w2⟩:=zT H zK ah;have d2:=k2.get hd;have r2:=k2.get hr;have b2:=k2.get hb;refine zW (aB hl e g) ?_;refine aM ?_;refine zD (sG hl e g d2 r2 b2 ae am ap U S) ?_;refine BX ?_;refine zW (aB hl e g) ?_;obtain ⟨E,hq0⟩:=GuessI.init G ag af zO;have ab:(f*B+sec) % hi<B:=Zp (Wm _ zO) A;obtain ⟨q0,O⟩:∃ q0,(f*B+sec) / hi=q0:=⟨_,rfl⟩
  obtain ⟨r0,Q⟩:∃ r0,(f*B+sec) % hi=r0:=⟨_,rfl⟩
  rw [O] at E hq0;rw [Q] at E ab;simp only [O,Q];clear O Q;refine cu H [9,10] (fun k vs H'=>∃ q r:Nat,vs=[.int .u64 (q:Int),.int .u64 (r:Int)]/\k=q/\GuessI V W f sec hi q r/\r<B/\q<B) q0 (by simp only [Vg]; exact hl) rfl zK ⟨_,_,by exact zV (aB hl e g),rfl,E,ab,hq0⟩ ?_;rintro k T1 H1 i X Z ⟨q,r,hv,ak,I,ad,w⟩;obtain rfl:=ak.symm;simp only [Vq,Vw,Vv,and_true] at hv;obtain ⟨v9,o⟩:=hv;have w1:=Z.wf;have av:=Z.le;have n:aa T1 8=.int .u64 (hi:Int):=(X.at_ 8 zU).trans (zV (aB hl e g));have j:aa T1 11=.int .u64 (un:Int):=(X.at_ 11 zU).trans (zV (aB hl e g));have l:aa T1 12=.int .u64 (th:Int):=(X.at_ 12 zU).trans (zV (aB hl e g));refine zW (eF i v9 o n j l) ?_;refine AnsH.use (pO C zF w aq) ?_;rintro v H3 ⟨rfl,ai⟩;obtain ⟨k3,_,w3⟩:=zT H zK ai;obtain ⟨ov,z⟩:∃ ov,q*un / B=ov:=⟨_,rfl⟩
  obtain ⟨lw,N⟩:∃ lw,q*un % B=lw:=⟨_,rfl⟩
  rw [z,N];have s1:r<ov->0<q/\GuessI V W f sec hi (q-1) (r+hi):=fun c=>I.step G (P5 z ag c);have s2:ov=r->th<lw->0<q/\GuessI V W f sec hi (q-1) (r+hi):=fun c c'=>I.step G (by rw [<- c]; exact P6 z N c');clear z N;by_cases x:ov<r
  ·refine zW (gS i v9 o n j l @x) ?_;exact ⟨q,rfl,w,I.ge,zK⟩
  ·by_cases y:ov=r
   ·by_cases Y:lw<=th
    ·subst y;refine zW (jY i v9 o n j l @x Y) ?_;exact ⟨q,rfl,w,I.ge,zK⟩
    ·obtain ⟨p1,t⟩:=s2 y zO;clear s1 s2;subst y;have z1:=tx (a:=q) p1 w;refine zW (lh i v9 o n j l @x Y z1) ?_;refine AnsH.eq (iR C _ ov hi 0 ad A zO) fun H4 F=>?_;subst F;have p:(fk ov hi 0).1=(ov+hi) % B:=by simp [fk]
     have s:(fk ov hi 0).2=(ov+hi) / B:=by simp [fk]
     refine zW (lh i v9 o n j l z1 p s) ?_;refine iteH.split (fun h=>?_) fun h=>?_
     ·have u:ov+hi<B:=by unfold B at *; omega
      refine zW (lh i v9 o n j l z1 p s) ?_;exact ⟨zK,q-1,zO,q-1,ov+hi,by rw [Wd u],rfl,t,u,zO⟩
     ·refine zW (lh i v9 o n j l z1 p s) ?_;exact ⟨q-1,rfl,zO,t.ge,zK⟩
   ·obtain ⟨p1,t⟩:=s1 zO;have z1:=tx (a:=q) p1 w;refine zW (lh i v9 o n j l @x @y z1) ?_;refine AnsH.eq (iR C _ r hi 0 ad A zO) fun H4 F=>?_;subst F;have p:(fk r hi 0).1=(r+hi) % B:=by simp [fk]
    have s:(fk r hi 0).2=(r+hi) / B:=by simp [fk]
    refine zW (lh i v9 o n j l z1 p s) ?_;refine iteH.split (fun h=>?_) fun h=>?_
    ·have u:r+hi<B:=by unfold B at *; omega
     refine zW (lh i v9 o n j l z1 p s) ?_;exact ⟨zK,q-1,zO,q-1,r+hi,by rw [Wd u],rfl,t,u,zO⟩
    ·refine zW (lh i v9 o n j l z1 p s) ?_;exact ⟨q-1,rfl,zO,t.ge,zK⟩
end
def FrX.kp {b k:Nat} {H a H2:Heap} (h:FrX b H a) (d:Kp (a.up k) H2):FrX b H H2:=fun c e hc he=>d.get (h c e hc he)
def FrX.put {b:Nat} {e':Ent} {H a:Heap} (h:FrX b H a):FrX b H (a.put b e'):=fun c e hc he=>by rw [al hc]; exact h c e hc he
def FrX.up {b:Nat} {H a:Heap} (h:FrX b H a) (k:Nat):FrX b H (a.up k):=h
def FrX.up0 (b k:Nat) (H:Heap):FrX b H (H.up k):=fun _ _ _ h=>h
def OI {p c:Nat} (hp:p<=340282366920938463426481119284349108225) (hc:c<18446744073709551616) :
  (p / 18446744073709551616+(p % 18446744073709551616+c) / 18446744073709551616) % 18446744073709551616=(p+c) / 18446744073709551616/\(p % 18446744073709551616+c) % 18446744073709551616=(p+c) % 18446744073709551616/\(p+c) / 18446744073709551616<18446744073709551616:=zO
def P4 {x y:Nat} (hx:x<B) (hy:y<B):x*y<=340282366920938463426481119284349108225 :=
 VB (WV (Ya hx) (Ya hy)) zU
def Jp {o w l:Nat} (a:o<18446744073709551616) (b:w<18446744073709551616) (hl:l<=1):o+(jh o w l).2*18446744073709551616=(jh o w l).1+w+l/\(jh o w l).1<18446744073709551616:=by
 unfold jh B;simp only;split <;> omega
def qk:∀ {l:List Nat} {m:Nat},Lim l->(∀ i,m<=i->l.getD i 0=0)->val l<B^m
 | [],m,_,_=>by simp only [val]; exact Wb zU
 | a :: t,0,h,b=>by
  have h0:=b 0 (Vo _);simp only [XZ] at h0
  have:=qk (l:=t) (m:=0) h.tail fun i _=>by have:=b (i+1) (Vz _); rwa [W5] at this
  simp only [Yt] at this;have h1:val t=0:=Nat.lt_one_iff.1 this;simp only [val,h0,h1,Yt];decide
 | a :: t,m+1,h,b=>by
  have c:=qk (l:=t) (m:=m) h.tail fun i hi=>by have:=b (i+1) zO; rwa [W5] at this
  have ha:=h.head;simp only [val,V5];have h2:(val t+1)*B<=B^m*B:=Vy B c;rw [Wq,Yo,VG] at h2;refine VF ?_ h2;rw [X5];exact Zl ha _
structure TakeI (a q X j:Nat) (L out:List Nat) (c l:Nat):Prop where
 e:val out+B^a*(q*val (L.take j))=X+B^(a+j)*(c+l)
def Nb {P A X h i b c l a d o f w g:Nat} (e:h+A=X+P*(c+l)) (m:i+P*o=h+P*f) (h1:g+c=a*b+w) (h2:o+d*b=f+w+l):i+(A+P*g)=X+P*(a*b+d*b):=by
 have j:=congrArg (P * ·) h1;have k:=congrArg (P * ·) h2;simp only [Ww] at e j k ⊢
 generalize P*g=x1 at *
 generalize P*(a*b)=x2 at *
 generalize P*(d*b)=n at *
 generalize P*o=p at *
 generalize P*f=q at *
 generalize P*w=r at *
 generalize P*l=s at *
 generalize P*c=t at *
 omega
def Nc {P A X f g b c l a o d:Nat} (e:f+A=X+P*(c+l)) (i:g+P*o=f+P*d) (h2:o+a*b=d+c+l):g+A=X+P*(a*b):=by
 have h:=congrArg (P * ·) h2;simp only [Ww] at e h
 generalize P*(a*b)=j at *
 generalize P*o=k at *
 generalize P*d=m at *
 generalize P*l=n at *
 generalize P*c=p at *
 omega
def TakeI.step {a q X j c l b d e w:Nat} {L out:List Nat} (I:TakeI a q X j L out c l) (hj:a+j<out.length) (h1:q*L.getD j 0+c=b*B+w) (h2:out.getD (a+j) 0+d*B=e+w+l):TakeI a q X (j+1) L (out.set (a+j) e) b d:=by
 refine ⟨?_⟩;have f:=iS (l:=out) (k:=a+j) (v:=e) hj
 have:=Nb I.e f h1 h2
 rw [cZ,Ww,Ww];have e2:B^a*(q*(B^j*L.getD j 0))=B^(a+j)*(q*L.getD j 0):=by rw [Wu,YW q,Wc]
 have e3:B^(a+(j+1))*(b+d)=B^(a+j)*(b*B+d*B):=by rw [<- Wx,V5,Wc,VG B,Wq]
 rw [e2,e3];exact this
section
variable {tab:Nat->Option au} {H:Heap}
set_option maxHeartbeats 1000000 in
def Ov (C:Code tab) {H0:Heap} (hk:Kp H0 H) {d rb bb M n a q X:Nat} {x1:Bool} {R L:List Nat} (D:Dv H d rb bb M n x1 R L) (ay:H0.next<=rb) (ax:a+n<M) (hM:M<2199023255552) (hq:q<18446744073709551616) (hX:val R=X) (hz:∀ i,a+n<i->R.getD i 0=0) :
  Ans tab (.fn gH [.ptr d 0,.int .u64 (q:Int),.int .i64 (a:Int)]) H fun v H'=>∃ (R':List Nat) (l:Nat),v=.bool (decide (0<l))/\l<=1/\Dv H' d rb bb M n x1 R' L/\val R'+B^a*(q*val (L.take n))=X+B^(a+n+1)*l/\(∀ i,a+n<i->R'.getD i 0=0)/\Kp H0 H'/\FrX rb H H':=by
 have ndr:=D.ndr;obtain ⟨hd,hr,hb,lr,ll,ne,limR,limL⟩:=D;have w0:=hk.wf;have az:=hk.le;have ar:TakeI a q X 0 L R 0 0:=⟨by simp [val,hX]⟩
 clear hX;refine mN C.q168 zU fun T hl e g f=>?_;refine zW (cp hl e g f hd) ?_;refine am H0 [7,8] (fun j vs H'=>∃ (out:List Nat) (c l:Nat),vs=[.int .u64 (c:Int),.int .u64 (l:Int)]/\H'.get rb=some (.cells (aL out) ae true)/\out.length=M/\Lim out/\c<18446744073709551616/\l<=1/\TakeI a q X j L out c l/\(∀ i,a+n<i->out.getD i 0=0)/\FrX rb H H') (a:=0) (N:=n) rfl (by refine zW (aV hl e g f) ?_; rfl) (zV (aV hl e g f)) (Vz _) zO (by simp only [Vg,hl]; rfl) rfl (fun _ _ _ _ h=>h) zK
  ⟨R,0,0,by refine zW (aV hl e g f) ?_; rfl,by exact zV hr,lr,limR,by decide,Vz _,ar,hz,FrX.up0 _ _ _⟩ ?_ ?_
 ·rintro j T1 U _ hj b J E F ⟨out,c,l,t,b0,ab,P,hc,K,I,ag,A⟩;simp only [Vg,hl] at b;simp only [Vq,Vw,Vv,and_true] at t;obtain ⟨r,s⟩:=t;have w1:=F.wf;have av:=F.le;have d1:U.get d=some (.cells [.own rb 0 M M 1 x1,.own bb 0 n n 1 true] fT true):=A _ _ ndr hd;have b1:U.get bb=some (.cells (aL L) ae true):=A _ _ (Ne.symm ne) hb;have t0:aa T1 0=.ptr d 0:=(E.at_ 0 zU).trans (zV (aA hl e));have t1:aa T1 1=.int .u64 (q:Int):=(E.at_ 1 zU).trans (zV (cp hl e g f g));have p:aa T1 2=.int .i64 (a:Int):=(E.at_ 2 zU).trans (zV (cp hl e g f f));have S:aa T1 18=.own bb 0 n n 1 true:=(E.at_ 18 zU).trans (zV (aV hl e g f));obtain ⟨y,hy⟩:∃ y,L.getD j 0=y:=⟨_,rfl⟩
  have aq:y<18446744073709551616:=by rw [<- hy]; exact limL.at j
  obtain ⟨o,m⟩:∃ o,out.getD (a+j) 0=o:=⟨_,rfl⟩
  have Q:o<18446744073709551616:=by rw [<- m]; exact P.at _
  refine zW (ur b r s t0 t1 p S J b1 hy) ?_;refine AnsH.use (pO C zF hq aq) ?_;rintro v H2 ⟨rfl,Z⟩;obtain ⟨k2,_,w2⟩:=zT H0 zK Z;have ak:FrX rb H H2:=A.kp Z;have d2:=ak _ _ ndr hd;have r2:H2.get rb=some (.cells (aL out) ae true):=Z.get b0;have aC:=k2.wf _ _ r2;obtain ⟨q1,q2,q3⟩:=OI (P4 hq aq) hc;have ad:(q*y+c) % 18446744073709551616<18446744073709551616:=Wm _ zU;have V:=WI (q*y+c) 18446744073709551616;obtain ⟨W,ec⟩:∃ W,(q*y+c) / 18446744073709551616=W:=⟨_,rfl⟩
  obtain ⟨lw,ew⟩:∃ lw,(q*y+c) % 18446744073709551616=lw:=⟨_,rfl⟩
  rw [ec] at q1 q3 V;rw [ew] at q2 ad V;obtain ⟨f1,G⟩:=Jp (o:=o) (w:=lw) (l:=l) Q ad K;have O:=uZ o lw l;obtain ⟨u,z⟩:∃ u,(jh o lw l).1=u:=⟨_,rfl⟩
  obtain ⟨l2,x⟩:∃ l2,(jh o lw l).2=l2:=⟨_,rfl⟩
  rw [z,x] at f1;rw [z] at G;rw [x] at O;have I2:TakeI a q X (j+1) L (out.set (a+j) u) W l2:=I.step zO (w:=lw) (by rw [hy,<- V,VG]) (by rw [m]; exact f1);clear V f1;have ao:IntKind.i64.wrap ((a:Int)+(j:Int))=((a+j:Nat):Int):=by rw [wrap_i64] <;> omega
  refine zW (jY b r s t0 t1 p S J) ?_;refine AnsH.eq (iR C _ (q*y % B) c 0 (Wm _ zU) hc zO) fun H3 e3=>?_;subst e3;have ah:(fk (q*y % B) c 0).1=lw:=by simp only [fk,WZ]; exact q2
  have ai:(fk (q*y % B) c 0).2=(q*y % 18446744073709551616+c) / 18446744073709551616:=by simp only [fk,WZ]
  refine zW (sG b r s t0 t1 p S J ah ai q1) ?_;clear ah ai q1 q2;refine aM ?_;refine zD (By b r s t0 t1 p S J d2 r2 ao m) ?_;refine AnsH.eq (xz C _ o lw l Q ad K) fun H4 Y=>?_;subst Y;rw [z,x];refine zD (By b r s t0 t1 p S J d2 r2 ao m) ?_;refine ⟨zK,_,_,_,rfl,rfl,by simp [ab],ke P G,q3,O,I2,fun i hi=>?_,(ak.up _).put⟩;rw [br zO];exact ag i hi
 ·rintro T1 U b E F ⟨out,c,l,t,b0,ab,P,hc,K,I,ag,A⟩;simp only [Vg,hl] at b;simp only [Vq,Vw,Vv,and_true] at t;obtain ⟨r,s⟩:=t;have w1:=F.wf;have av:=F.le;have aB:=F.wf _ _ b0;have d1:U.get d=some (.cells [.own rb 0 M M 1 x1,.own bb 0 n n 1 true] fT true):=A _ _ ndr hd;have t0:aa T1 0=.ptr d 0:=(E.at_ 0 zU).trans (zV (aA hl e));have p:aa T1 2=.int .i64 (a:Int):=(E.at_ 2 zU).trans (zV (cp hl e g f f));have af:IntKind.i64.wrap ((a:Int)+(n:Int))=((a+n:Nat):Int):=by rw [wrap_i64] <;> omega
  obtain ⟨o,m⟩:∃ o,out.getD (a+n) 0=o:=⟨_,rfl⟩
  have Q:o<18446744073709551616:=by rw [<- m]; exact P.at _
  obtain ⟨f1,G⟩:=Jp (o:=o) (w:=c) (l:=l) Q hc K;have O:=uZ o c l;obtain ⟨u,z⟩:∃ u,(jh o c l).1=u:=⟨_,rfl⟩
  obtain ⟨l2,x⟩:∃ l2,(jh o c l).2=l2:=⟨_,rfl⟩
  rw [z,x] at f1;rw [z] at G;rw [x] at O;have hval:val (out.set (a+n) u)+B^a*(q*val (L.take n))=X+B^(a+n+1)*l2:=by
   have t:=iS (l:=out) (k:=a+n) (v:=u) zO;rw [m] at t
   have:=Nc I.e t f1
   rw [this,V5,Wc,VG l2]
  clear f1 I;refine zW (gS b t0 p r s d1 af) ?_;refine aM ?_;refine zD (lh b t0 p r s d1 @b0 af m) ?_;refine AnsH.eq (xz C _ o c l Q hc K) fun H4 Y=>?_;subst Y;rw [z,x];refine zD (lh b t0 p r s d1 @b0 af m) ?_;refine ⟨_,l2,rfl,O,⟨?_,ap _ _ _,?_,by simp [ab],ll,ne,ke P G,limL⟩,hval,fun i hi=>?_,zK,(A.up _).put⟩
  ·exact zV d1
  ·rw [al (Ne.symm ne)];exact A _ _ (Ne.symm ne) hb
  ·rw [br zO];exact ag i hi
end
def Jt {o y c:Nat} (a:o<18446744073709551616) (hy:y<18446744073709551616) (hc:c<=1):o+y+c=(fk o y c).1+(fk o y c).2*18446744073709551616/\(fk o y c).1<18446744073709551616:=by
 unfold fk B;simp only;omega
def Gl {P A X f g b c a o d y:Nat} (e:f+P*c=X+A) (j:g+P*o=f+P*d) (h:o+y+c=d+a*b):g+P*(a*b)=X+(A+P*y):=by
 have i:=congrArg (P * ·) h;simp only [Ww] at e i ⊢
 generalize P*(a*b)=k at *
 generalize P*o=l at *
 generalize P*d=m at *
 generalize P*y=n at *
 generalize P*c=p at *
 omega
structure BackI (a X j:Nat) (L out:List Nat) (c:Nat):Prop where
 e:val out+B^(a+j)*c=X+B^a*val (L.take j)
def BackI.step {a X j c b d:Nat} {L out:List Nat} (I:BackI a X j L out c) (hj:a+j<out.length) (h:out.getD (a+j) 0+L.getD j 0+c=d+b*B):BackI a X (j+1) L (out.set (a+j) d) b:=by
 refine ⟨?_⟩;have e:=iS (l:=out) (k:=a+j) (v:=d) hj
 have:=Gl I.e e h
 rw [cZ,Ww,<- Wc (B^a),<- Wu];have e3:B^(a+(j+1))*b=B^(a+j)*(b*B):=by rw [<- Wx,V5,Wc,VG B]
 rw [e3];exact this
section
variable {tab:Nat->Option au} {H:Heap}
set_option maxHeartbeats 1000000 in
def Ow (C:Code tab) {H0:Heap} (V:Kp H0 H) {d rb bb M n a X:Nat} {x1:Bool} {R L:List Nat} (D:Dv H d rb bb M n x1 R L) (ah:H0.next<=rb) (ag:a+n<M) (hM:M<2199023255552) (U:val R=X) (hz:∀ i,a+n<i->R.getD i 0=0) :
  Ans tab (.fn gI [.ptr d 0,.int .i64 (a:Int)]) H fun v H'=>∃ (R':List Nat) (c:Nat),v=.bool (decide (0<c))/\c<=1/\Dv H' d rb bb M n x1 R' L/\val R'+B^(a+n+1)*c=X+B^a*val (L.take n)/\(∀ i,a+n<i->R'.getD i 0=0)/\Kp H0 H'/\FrX rb H H':=by
 have ndr:=D.ndr;obtain ⟨hd,hr,hb,lr,ll,ne,limR,limL⟩:=D;have w0:=V.wf;have ai:=V.le;have ab:BackI a X 0 L R 0:=⟨by simp [val,U]⟩
 clear U;refine bC C.q169 zU fun T hl e f=>?_;refine zW (aV hl e f hd) ?_;refine am H0 [5] (fun j vs H'=>∃ (out:List Nat) (c:Nat),vs=[.int .u64 (c:Int)]/\H'.get rb=some (.cells (aL out) ae true)/\out.length=M/\Lim out/\c<=1/\BackI a X j L out c/\(∀ i,a+n<i->out.getD i 0=0)/\FrX rb H H') (a:=0) (N:=n) rfl (by refine zW (aB hl e f) ?_; rfl) (zV (aB hl e f)) (Vz _) zO (by simp only [Vg,hl]; rfl) rfl (fun _ _ _ _ h=>h) zK
  ⟨R,0,by refine zW (aB hl e f) ?_; rfl,by exact zV hr,lr,limR,Vz _,ab,hz,FrX.up0 _ _ _⟩ ?_ ?_
 ·rintro j T1 F _ hj g J x u ⟨out,c,b,b0,K,E,hc,I,Q,t⟩;simp only [Vg,hl] at g;simp only [Vq,Vw,Vv,and_true] at b;have w1:=u.wf;have ad:=u.le;have af:=u.wf _ _ b0;have d1:F.get d=some (.cells [.own rb 0 M M 1 x1,.own bb 0 n n 1 true] fT true):=t _ _ ndr hd;have b1:F.get bb=some (.cells (aL L) ae true):=t _ _ (Ne.symm ne) hb;have t0:aa T1 0=.ptr d 0:=(x.at_ 0 zU).trans (zV (aA hl e));have t1:aa T1 1=.int .i64 (a:Int):=(x.at_ 1 zU).trans (zV (aV hl e f f));have S:aa T1 12=.own bb 0 n n 1 true:=(x.at_ 12 zU).trans (zV (aB hl e f));obtain ⟨y,hy⟩:∃ y,L.getD j 0=y:=⟨_,rfl⟩
  have P:y<18446744073709551616:=by rw [<- hy]; exact limL.at j
  obtain ⟨o,m⟩:∃ o,out.getD (a+j) 0=o:=⟨_,rfl⟩
  have w:o<18446744073709551616:=by rw [<- m]; exact E.at _
  obtain ⟨f1,z⟩:=Jt w P hc;have A:=yS o y c w P hc;obtain ⟨q,s⟩:∃ q,(fk o y c).1=q:=⟨_,rfl⟩
  obtain ⟨p,r⟩:∃ p,(fk o y c).2=p:=⟨_,rfl⟩
  rw [s,r] at f1;rw [s] at z;rw [r] at A;have Z:BackI a X (j+1) L (out.set (a+j) q) p:=I.step zO (by rw [m,hy]; exact f1);clear f1 I;have W:IntKind.i64.wrap ((a:Int)+(j:Int))=((a+j:Nat):Int):=by rw [wrap_i64] <;> omega
  refine zW (jY g b t0 t1 S J b1 hy) ?_;refine aM ?_;refine zD (ur g b t0 t1 S J d1 @b0 W m) ?_;refine AnsH.eq (iR C _ o y c w P hc) fun Y G=>?_;subst G;rw [s,r];refine zD (ur g b t0 t1 S J d1 @b0 W m) ?_;refine ⟨zK,_,_,rfl,rfl,by simp [K],ke E z,A,Z,fun i hi=>?_,(t.up _).put⟩;rw [br zO];exact Q i hi
 ·rintro T1 F g x u ⟨out,c,b,b0,K,E,hc,I,Q,t⟩;simp only [Vg,hl] at g;simp only [Vq,Vw,Vv,and_true] at b;have w1:=u.wf;have ad:=u.le;have af:=u.wf _ _ b0;have d1:F.get d=some (.cells [.own rb 0 M M 1 x1,.own bb 0 n n 1 true] fT true):=t _ _ ndr hd;have t0:aa T1 0=.ptr d 0:=(x.at_ 0 zU).trans (zV (aA hl e));have t1:aa T1 1=.int .i64 (a:Int):=(x.at_ 1 zU).trans (zV (aV hl e f f));have O:IntKind.i64.wrap ((a:Int)+(n:Int))=((a+n:Nat):Int):=by rw [wrap_i64] <;> omega
  obtain ⟨o,m⟩:∃ o,out.getD (a+n) 0=o:=⟨_,rfl⟩
  have w:o<18446744073709551616:=by rw [<- m]; exact E.at _
  obtain ⟨f1,z⟩:=Jt (y:=0) w zU hc;have A:=yS o 0 c w zU hc;obtain ⟨q,s⟩:∃ q,(fk o 0 c).1=q:=⟨_,rfl⟩
  obtain ⟨p,r⟩:∃ p,(fk o 0 c).2=p:=⟨_,rfl⟩
  rw [s,r] at f1;rw [s] at z;rw [r] at A;have hval:val (out.set (a+n) q)+B^(a+n+1)*p=X+B^a*val (L.take n):=by
   have b:=iS (l:=out) (k:=a+n) (v:=q) zO;rw [m] at b
   have:=Gl I.e b f1
   rw [V5,Wc,VG B];rw [Yb,WZ] at this;exact this
  clear f1 I;refine zW (eF g t0 t1 b d1 O) ?_;refine aM ?_;refine zD (jY g t0 t1 b d1 @b0 O m) ?_;refine AnsH.eq (iR C _ o 0 c w zU hc) fun Y G=>?_;subst G;rw [s,r];refine zD (jY g t0 t1 b d1 @b0 O m) ?_;refine ⟨_,p,rfl,A,⟨?_,ap _ _ _,?_,by simp [K],ll,ne,ke E z,limL⟩,hval,fun i hi=>?_,zK,(t.up _).put⟩
  ·exact zV d1
  ·rw [al (Ne.symm ne)];exact t _ _ (Ne.symm ne) hb
  ·rw [br zO];exact Q i hi
end
def Fu {y n:Nat} (h:(ag y).length=n+1):B^n<=y:=by
 have:=yO (dG y) (fun e=>by rw [e] at h; simp at h)
 rw [bI,h] at this;exact this
def DJ {x y:Nat} (h:(ag x).length<(ag y).length):x<y:=by
 obtain ⟨n,hn⟩:∃ n,(ag y).length=n+1:=⟨(ag y).length-1,zO⟩
 exact VF (iw x) (VB (VW zU zO) (Fu hn))
def DK {y n:Nat} (h1:B^n<=y) (h2:y<B^(n+1)):(ag y).length=n+1:=by
 refine XJ (bo h2) ?_
 apply Xm
 intro h;have h3:y<B^n:=VF (iw y) (VW zU zO);exact absurd h1 (Nat.not_le_of_lt h3)
def Ld {y:Nat} (h:(ag y).length=1):y<B/\(ag y).getD 0 0=y:=by
 have h1:=iw y;rw [h,Nat.pow_one] at h1;refine ⟨h1,?_⟩;rw [iQ,Yt,Nat.div_one,Wd h1]
section
variable {b y m z top P:Nat}
def NN (a:P=2^(64-z)*2^z) (h1:top*2^z<P) (e:top*b<=y) (f:y<(top+1)*b) {c:Nat} (h2:c<=top*2^z):y*2^z<P*b/\c*b<=y*2^z:=by
 have p2:0<2^z:=Wb zU;have d:top+1<=2^(64-z):=by
  rw [a] at h1;exact Nat.lt_of_mul_lt_mul_right h1
 refine ⟨?_,?_⟩
 ·refine VF (XC f p2) ?_;rw [Ys];refine Vy b ?_;rw [a];exact Vy _ d
 ·refine VB (Vy b h2) ?_;rw [Ys];exact Vy _ e
end
def Hv {y m z top:Nat} (hl:(ag y).length=m+2) (b:(ag y).getD (m+1) 0=top) (f:z<64) (h1:top*2^z<18446744073709551616) (h2:9223372036854775808<=top*2^z) :
  y*2^z<B^(m+2)/\(ag (y*2^z)).length=m+2/\9223372036854775808*B^(m+1)<=y*2^z:=by
 have hy:=iw y;rw [hl] at hy;have e:y / B^(m+1)=top:=by
  rw [<- b,iQ,Wd]
  apply (VQ (Wb zU)).2
  rw [VG,<- V5]; exact hy
 have hp:0<B^(m+1):=Wb zU;have c:top*B^(m+1)<=y:=by rw [<- e]; exact Nat.div_mul_le_self _ _
 have d:y<(top+1)*B^(m+1):=(VQ hp).1 (by rw [e]; exact YF _);have a:(18446744073709551616:Nat)=2^(64-z)*2^z:=by
  rw [<- Wu,show 64-z+z=64 by omega]
 obtain ⟨q1,q2⟩:=NN a h1 c d h2;have e2:18446744073709551616*B^(m+1)=B^(m+2):=by rw [V5 B (m+1),VG]
 rw [e2] at q1;refine ⟨q1,DK ?_ q1,q2⟩;exact VB (Nat.le_mul_of_pos_left _ zU) q2
def EN {x z V m k a:Nat} (c:(ag x).length=a) (d:z<64) (hV:9223372036854775808*B^(m+1)<=V) (b:m+1+k=a):x*2^z<V*B^k:=by
 have hx:=iw x;rw [c] at hx;have h1:2^z<=9223372036854775808:=VB (VW zU (show z<=63 by omega)) zU;have h2:x*2^z<B^a*9223372036854775808:=by
  refine VF (XC hx (Wb zU)) (XH _ h1)
 refine VF h2 ?_;refine VB (X4 ?_) (Vy _ hV);rw [Wc,<- Wu,b,VG]
structure DivI (X V k:Nat) (Q R:List Nat):Prop where
 eq:X=V*val Q+val R
 lt:val R<V*B^k
 zero:∀ i,i<k->Q.getD i 0=0
def DivI.zeros {X V k m:Nat} {Q R:List Nat} (I:DivI X V k Q R) (hV:V<B^m) (a:Lim R):∀ i,k+m<=i->R.getD i 0=0:=fun i hi=>by
 rw [oA a];have h1:val R<B^i:=by
  refine VF I.lt (VB (Vy _ (Xe hV)) ?_);rw [<- Wu];exact VW zU zO
 rw [Xn h1,Nat.zero_mod]
def rp (Z:Nat):Z=Z / B*B+Z % B:=by rw [VG]; exact (WI Z B).symm
def DivI.guess {X V a m:Nat} {Q R L:List Nat} (I:DivI X V (a+1) Q R) (hV:V<B^(m+2)) (c:Lim R) (h0:0<V) (hL:∀ i,i<m+2->L.getD i 0=V / B^i % B) :
  GuessH V (val R / B^a) (B^m) (R.getD (a+(m+2)) 0) (R.getD (a+(m+1)) 0) (R.getD (a+m) 0) (L.getD (m+1) 0) (L.getD m 0):=by
 have hp:∀ j,0<B^j:=fun j=>Wb zU;have b:∀ Y j,Y / B^(j+1)=Y / B^j / B:=fun Y j=>by rw [V5,WA]
 refine ⟨?_,?_,?_,h0⟩
 ·rw [hL _ zO,hL _ zO,b V m];have h1:V / B^m / B % B=V / B^m / B:=by
   rw [<- b]
   apply Wd
   apply (VQ (hp _)).2
   rw [VG,<- V5]; exact hV
  rw [h1,<- rp];exact Nat.div_mul_le_self _ _
 ·rw [oA c,oA c,oA c];have e1:val R / B^(a+(m+1))=val R / B^(a+m) / B:=by rw [<- Wx,b]
  have e2:val R / B^(a+(m+2))=val R / B^(a+m) / B / B:=by
   rw [show a+(m+2)=a+m+1+1 by omega,b,b]
  have e3:val R / B^(a+m) / B / B % B=val R / B^(a+m) / B / B:=by
   rw [<- e2]
   apply Wd
   apply (VQ (hp _)).2
   refine VF I.lt (VB (Vy _ (Xe hV)) ?_);rw [<- Wu,VG,<- V5];exact VW zU zO
  rw [e2,e3,e1,<- rp,<- rp];have d:val R / B^(a+m)=val R / B^a / B^m:=by rw [WA,Wu]
  rw [d];exact (VQ (hp m)).1 (YF _)
 ·apply (VQ (hp a)).2
  refine VF I.lt (X4 ?_);rw [V5,VG (B^a),Wc]
structure SubI (XR V a n:Nat) (R:List Nat) (q l:Nat):Prop where
 e:val R+B^a*(q*V)=XR+B^(a+n+1)*l
 ge:XR / B^a / V<=q
section
variable {XR V A q vr vr' W c:Nat}
def PV (e:vr+A*(q*V)=XR+W*1) (hlt:vr<W) (hV:0<V) (hA:0<A) (hb:vr'+W*c=vr+A*V) (hc:c<=1):0<q/\XR / A / V<=q-1/\vr'+A*((q-1)*V)=XR+W*(1-c):=by
 have h1:XR / A / V<q:=by
  rw [WA]
  apply (VQ (ZM hA hV)).2
  have:q*(A*V)=A*(q*V):=by rw [YW]
  rw [this]
  generalize A*(q*V)=t at *
  omega
 have h0:0<q:=Wp (Vz _) h1;refine ⟨h0,YD h1,?_⟩;obtain ⟨p,rfl⟩:∃ p,q=p+1:=⟨q-1,zO⟩
 rw [Xx];rw [Wq,Yo,Ww] at e;have a:c=0\/c=1:=zO;rcases a with rfl | rfl
 ·simp only [Yb,WT,WZ,Zn] at *;omega
 ·simp only [Yb,WT,WZ,YE] at *;omega
def Qy (e:vr+A*(q*V)=XR) (hge:XR / A / V<=q) (hV:0<V) (hA:0<A):vr<V*A:=by
 have h1:q<=XR / (A*V):=by
  apply (Y6 (ZM hA hV)).2
  rw [YW,<- e];exact Nat.le_add_left _ _
 rw [WA] at hge;have h2:=XJ h1 hge;have h3:=WI XR (A*V);rw [<- h2] at h3;have a:=Wm XR (ZM hA hV);have h5:A*V*q=A*(q*V):=by rw [Wc,VG V]
 rw [h5] at h3;rw [VG V];omega
end
def SubI.pos {XR V a n q:Nat} {R:List Nat} (I:SubI XR V a n R q 1) (hlt:val R<B^(a+n+1)):0<q:=by
 apply Nat.pos_of_ne_zero
 intro h;have e:=I.e;rw [h,YS,Yb,WZ,WT] at e;rw [e] at hlt;exact absurd hlt (Nat.not_lt_of_le (Nat.le_add_left _ _))
def SubI.back {XR V a n q c:Nat} {R R':List Nat} (I:SubI XR V a n R q 1) (hlt:val R<B^(a+n+1)) (hV:0<V) (hb:val R'+B^(a+n+1)*c=val R+B^a*V) (hc:c<=1):0<q/\SubI XR V a n R' (q-1) (1-c):=by
 obtain ⟨h1,h2,h3⟩:=PV I.e hlt hV (Wb zU) hb hc;exact ⟨h1,h3,h2⟩
def DivI.next {X V a n q:Nat} {Q R R':List Nat} (I:DivI X V (a+1) Q R) (S:SubI (val R) V a n R' q 0) (hV:0<V) (ha:a<Q.length):DivI X V a (Q.set a q) R':=by
 have e:=S.e;rw [Yb,WZ] at e;refine ⟨?_,Qy e S.ge hV (Wb zU),fun i hi=>?_⟩
 ·have b:=iS (l:=Q) (k:=a) (v:=q) ha;rw [I.zero a (YF a),Yb,WZ] at b;rw [b,I.eq,<- e,Ww]
  have:V*(B^a*q)=B^a*(q*V):=by rw [YW,VG V]
  rw [this];omega
 ·rw [br zO];exact I.zero i zO
def DivI.fin {x y P:Nat} {Q R:List Nat} (a:0<P) (I:DivI (x*P) (y*P) 0 Q R):val Q=x / y/\val R=x % y*P:=by
 have e:=I.eq;have l:=I.lt;rw [Yt,WT] at l;have b:0<y*P:=Wp (Vz _) l;have h1:x*P / (y*P)=val Q:=by
  rw [e,VG (y*P),X5,Y8 _ _ b,Xn l,V3]
 have h2:x*P % (y*P)=val R:=by
  rw [e,Nat.mul_add_mod_self_left,Wd l]
 rw [Y7 _ _ a] at h1;rw [Z3] at h2;exact ⟨h1.symm,h2.symm⟩
end Go.Proofs.YtkmepoeklibegaaGreat.Ev
