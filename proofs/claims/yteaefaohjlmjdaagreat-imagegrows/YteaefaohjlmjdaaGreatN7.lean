/- A part. -/
import Derived.Test.YteaefaohjlmjdaaGreatA0
import Derived.Test.YteaefaohjlmjdaaGreatKit
import Derived.KernelRfl
namespace Go.Proofs.YteaefaohjlmjdaaGreat.Ev
open Go Nn
set_option linter.all false
section
variable {tab:Nat->Option aA} {H:Heap}
def O0 (x y:Nat) (hx:x<B) (hy:y<B) :
  ((x / 4294967296*(y / 4294967296) % B+((x / 4294967296*(y % 4294967296) % B+(x % 4294967296*(y % 4294967296) % B) / 4294967296) % B) / 4294967296) % B+((((x / 4294967296*(y % 4294967296) % B+(x % 4294967296*(y % 4294967296) % B) / 4294967296) % B) % 4294967296+x % 4294967296*(y / 4294967296) % B) % B) / 4294967296) % B=x*y / B:=by
 have e:x*y=(x / 4294967296*4294967296+x % 4294967296)*(y / 4294967296*4294967296+y % 4294967296):=by
  rw [ZT,ZT]
 have h1:x / 4294967296<4294967296:=by unfold B at hx; omega
 have h2:y / 4294967296<4294967296:=by unfold B at hy; omega
 have h3:x % 4294967296<4294967296:=zO;have h4:y % 4294967296<4294967296:=zO
 generalize x / 4294967296=x1 at *
 generalize y / 4294967296=y1 at *
 generalize x % 4294967296=a at *
 generalize y % 4294967296=b at *
 have d:x1*y1<=4294967295*4294967295:=X0 zO zO;have f:x1*b<=4294967295*4294967295:=X0 zO zO;have g:a*y1<=4294967295*4294967295:=X0 zO zO;have h:a*b<=4294967295*4294967295:=X0 zO zO;have c:x*y=x1*y1*18446744073709551616+(x1*b)*4294967296+(a*y1)*4294967296+a*b:=by rw [e]; grind
 rw [c];clear e c hx hy h1 h2 h3 h4
 generalize x1*y1=p at *
 generalize x1*b=q at *
 generalize a*y1=r at *
 generalize a*b=t at *
 simp only [B];omega
def qw (C:Code tab) (c:Wf H) {x y:Nat} (hx:x<B) (hy:y<B):Ans tab (.fn ju [.int .u64 (x:Nat),.int .u64 (y:Nat)]) H fun v H'=>v=.tup [.int .u64 ((x*y / B:Nat):Int),.int .u64 ((x*y % B:Nat):Int)]/\Kp H H':=by
 refine bA C.q158 zU fun T hl a b=>?_;have e:=O0 x y hx hy;simp only [B] at e;refine zW (aO hl a b e) ?_;exact zK
end
def jl:∀ {l:List Nat} {k v:Nat},k<l.length->val (l.set k v)+B^k*l.getD k 0=val l+B^k*v
 | a :: l,0,v,_=>by simp [val]; omega
 | a :: l,k+1,v,h=>by
  have b:=jl (l:=l) (k:=k) (v:=v) (by simpa using h);simp only [List.set_cons_succ,val,Yh,Rb]
  have:=congrArg (B * ·) b
  simp only [XH] at this;rw [EV (B^k) B,Se,Se];omega
def kM {l:List Nat} (h:Lim l) {k v:Nat} (b:v<B):Lim (l.set k v):=fun a ha=>by
 rcases Yr ha with h1 | h1
 ·exact h a h1
 ·rw [h1]; exact b
section
variable {tab:Nat->Option aA} {H:Heap} {s:AV} {l:List Nat}
def SlV.clipat {α:Type} {E:fQ α} {ty:Nat} {v:AV} {l:List α} (hs:SlV E ty H v l) (k j:IntKind) (n:Nat) (hn:n<=l.length):∃ d,cG E.sz v none (some (.int k (n:Int))) (some (.int j (n:Int)))=some d/\SlV E ty H d (l.take n):=by
 obtain ⟨cells,hr,u,hc⟩:=hs;obtain ⟨m,hm,p⟩:=hr.length;have q:m=l.length:=YB E.pos (by rw [<- p,hc.1]);subst q;obtain ⟨h0,h1,m',h2,h3⟩:=hr;rw [hm] at h2; cases h2;have g:n*E.sz<=l.length*E.sz:=B2 _ hn;have i:∀ x y z,cG E.sz v x y z=bW E.sz v x y z:=fun x y z=>by cases v <;> first | rfl | exact absurd rfl (h1 _)
 rw [i]
 suffices ∃ d,bW E.sz v none (some (.int k (n:Int))) (some (.int j (n:Int)))=some d/\Rd H E.sz d (cells.take (n*E.sz)) by
  obtain ⟨d,e,hr⟩:=this;exact ⟨d,e,_,hr,sR u (by rw [i]; exact e),hc.take hn⟩
 cases v with
 | own b off n' c B ex =>
  simp only [im,QW] at hm;subst hm;simp only [aP] at h3;split at h3
  ·rename_i cs ty A hb;split at h3
   ·rename_i f;obtain ⟨t,-,hcl⟩:=f;subst t;cases h3;have w:l.length<=c:=h0;have o:((cs.drop off).take (l.length*E.sz)).take (n*E.sz)=(cs.drop off).take (n*E.sz):=by rw [YW,XO g]
    rw [o];have hp:bW E.sz (.own b off l.length c E.sz ex) none (some (.int k (n:Int))) (some (.int j (n:Int)))=some (if n=0 then .own b off 0 0 E.sz true else .own b off n n E.sz true):=by
     simp only [bW,gE,ne_eq,not_true_eq_false,if_false,kS,X4,YD,Yv];rw [if_pos ⟨zO,o0 _,xq _⟩];by_cases a:n=0
     ·rw [if_pos a,if_pos a]; simp [a]
     ·rw [if_neg a,if_neg a]; simp
    refine ⟨_,hp,?_⟩;by_cases a:n=0
    ·rw [if_pos a,a];refine ⟨o0 _,(fun s h=>by cases h),0,rfl,?_⟩;simp only [aP,hb];rw [if_pos ⟨trivial,o0 _,by simp; omega⟩]
    ·rw [if_neg a];refine ⟨o0 _,(fun s h=>by cases h),n,rfl,?_⟩;simp only [aP,hb];rw [if_pos ⟨trivial,o0 _,zO⟩]
   ·cases h3
  ·cases h3
 | sl cs n' =>
  simp only [im,QW] at hm;subst hm;simp only [aP] at h3;split at h3
  ·rename_i f;cases h3;have hcl:=f.2;refine ⟨.sl (cs.take (n*E.sz)) n,?_,trivial,(fun s h=>by cases h),n,rfl,?_⟩
   ·simp only [bW,gE,kS,X4,YD,Yv];rw [if_pos ⟨hn,o0 _,xq _,zO⟩]
    simp
   ·simp only [aP];rw [if_pos ⟨o0 _,by simp only [L9]; omega⟩];rw [YW,YW,Nat.min_self,XO g]
  ·cases h3
 | nilSl =>
  simp only [im,QW] at hm;have r:n=0:=zO;subst r;simp only [aP] at h3;split at h3
  ·cases h3;exact ⟨.nilSl,rfl,trivial,(fun s h=>by cases h),0,rfl,by simp [aP]⟩
  ·cases h3
 | str s=>exact absurd rfl (h1 s)
 | _=>simp [im] at hm
def GB (C:Code tab) (G:Wf H) (hs:Lb H s l) (F:l.length<4611686018427387904) :
  Ans tab (.fn uP [s]) H fun v H'=>Lb H' v (fc l)/\Kp H H':=by
 refine cT C.q159 zU fun T hl j=>?_;refine zW (aD hl j hs.lenV) ?_;refine cu H [3] (fun k vs H'=>vs=[.int .i64 (k:Int)]/\fc (l.take k)=fc l/\k<=l.length) l.length (by simp only [dz]; exact hl) rfl zK ⟨by exact zV (aE hl j),by rw [KO],o0 _⟩ ?_;rintro k T1 r g E d ⟨f,p,n⟩;have w1:=d.wf;have I:=d.le;simp only [uz,B3,Ae,and_true] at f;have t0:ad T1 0=s:=(E.at_ 0 zU).trans (zV (aE hl j));have fin:∀ (m:Nat),fc (l.take k)=l.take k->∀ c,cG 1 s none (some (.int .i64 (k:Int))) (some (.int .i64 (k:Int)))=some c->Lb H c (l.take k)->Lb (r.up m) c (fc l):=fun m h1 c _ h2=>by
  rw [<- p,h1]; exact h2.mono (d.up m).sub
 obtain ⟨c,e,hr⟩:=SlV.clipat hs .i64 .i64 k n;have e':cG 1 s none (some (.int .i64 (k:Int))) (some (.int .i64 (k:Int)))=some c:=e;rcases YL (l.take k) with h0 | ⟨b,a,h0⟩
 ·have y:k=0:=by
   have:=congrArg List.length h0; simp at this; rcases this with h | h
   ·exact h
   ·subst h; simpa using n
  subst y;have z:¬ (0:Int)<((0:Nat):Int):=zO;refine zW (bB g f t0 z e') ?_;exact ⟨fin _ (by simp; rfl) _ e' hr,zK⟩
 ·rw [YM] at h0;have A:k=b.length+1:=by have:=congrArg List.length h0; simp at this; omega
  subst A;have B:l.take b.length=b:=by
   have:=congrArg (List.take b.length) h0
   rw [YW,XO zO] at this
   simpa using this
  have q:IntKind.i64.wrap (((b.length+1:Nat):Int)-1)=(b.length:Int):=by rw [wrap_i64] <;> omega
  have D:0<b.length+1:=zO;have x:=SlV.idx1 (hs.mono d.sub) .i64 b.length zO;have w:l.getD b.length 0=a:=by
   have this:(l.take (b.length+1)).getD b.length 0=(b++[a]).getD b.length 0:=by rw [h0]
   rw [iF,Gy,if_pos zO,<- iF] at this;rw [this]; simp [iF]
  have o:=fM (hs.mono d.sub) (i:=b.length) zO;rw [w] at o;refine zW (fo g f t0 D x o q) ?_;refine iteH.split (fun ha=>?_) fun ha=>?_
  ·have u:a=0:=zO;subst u;refine zW (aO g f t0 q) ?_;refine ⟨zK,b.length,zO,rfl,?_,zO⟩;rw [B,<- p,h0,eQ]
  ·have t:a≠0:=zO;refine zW (aO g f t0 e') ?_;exact ⟨fin _ (by rw [h0,jp t]) _ e' hr,zK⟩
def Ge {x y o c:Nat} (hx:x<B) (hy:y<B) (a:o<B) (hc:c<B) :
  (fk (fk (x*y % B) o 0).1 c 0).1+B*(((x*y / B+(fk (x*y % B) o 0).2) % B+(fk (fk (x*y % B) o 0).1 c 0).2) % B)=x*y+o+c:=by
 have hp:x*y<=18446744073709551615*18446744073709551615:=X0 (by unfold B at hx; omega) (by unfold B at hy; omega);simp only [fk,B] at *
 generalize x*y=p at *
 omega
def IE {out b:List Nat} {i j x c d l2 a:Nat} (hlt:i+j<out.length) (e:val out+B^(i+j)*c=d+B^i*x*val (b.take j)) (he:l2+B*a=x*b.getD j 0+out.getD (i+j) 0+c) :
  val (out.set (i+j) l2)+B^(i+(j+1))*a=d+B^i*x*val (b.take (j+1)):=by
 have h1:=jl (l:=out) (k:=i+j) (v:=l2) hlt;rw [db];have h2:B^(i+(j+1))*a=B^(i+j)*(B*a):=by rw [<- XI,Rb,Se]
 have h3:B^i*x*(val (b.take j)+B^j*b.getD j 0)=B^i*x*val (b.take j)+B^(i+j)*(x*b.getD j 0):=by rw [XH,Th]; grind
 rw [h2,h3];have h4:=congrArg (B^(i+j) * ·) he;simp only [XH] at h4
 generalize B^(i+j)*(B*a)=q1 at *
 generalize B^(i+j)*l2=q2 at *
 generalize B^(i+j)*(x*b.getD j 0)=q3 at *
 generalize B^(i+j)*c=q4 at *
 generalize B^(i+j)*out.getD (i+j) 0=q5 at *
 omega
def bw {l:List Nat} {i k v:Nat} (h:i≠k):(l.set i v).getD k 0=l.getD k 0:=by
 rw [iF,iF,YX,if_neg h]
def I8 (C:Code tab) (hw:Wf H) {sa sb:AV} {a b:List Nat} (ha:Lb H sa a) (hb:Lb H sb b) (aj:a.length<1099511627776) (al:b.length<1099511627776) (la:Lim a) (lb:Lim b) :
  Ans tab (.fn pV [sa,sb]) H fun v H'=>Lb H' v (ah (val a*val b))/\Kp H H':=by
 refine bA C.q131 zU fun T hl n f=>?_;have O:IntKind.i64.wrap ((a.length:Int)+(b.length:Int))=((a.length+b.length:Nat):Int):=by rw [wrap_i64] <;> omega
 obtain ⟨N,S⟩:∃ N,a.length+b.length=N:=⟨_,rfl⟩
 rw [S] at O;have Z:∀ H' id,Ja H' id ae 1 8 [.int .u64 0] (.int .i64 (N:Int)) (.int .i64 (N:Int))=some (.own id 0 N N 1 true,H'.put id (.cells (aN (List.replicate N 0)) ae true)):=fun H' id=>by
  exact (iS H' id ae 1 8 [.int .u64 0] .i64 .i64 N zO zO rfl).trans (by rw [mX])
 refine zW (fo hl n f ha.lenV hb.lenV O Z) ?_;refine aq H [] (fun i vs H'=>∃ out,H'.get (H.next+6)=some (.cells (aN out) ae true)/\out.length=N/\Lim out/\val out=val (a.take i)*val b/\∀ k,i+b.length<=k->out.getD k 0=0) (a:=0) (N:=a.length) rfl (by refine zW (aD hl n f) ?_; rfl) (zV (aD hl n f)) (xq _) zO (by simp only [dz,hl]; rfl) rfl (fun _ _ _ _ h=>h) zK
  ⟨List.replicate N 0,by exact cC,by simp,Lim.replicate N,by rw [tg]; simp [val],fun k _=>by simp [iF,XG]; split <;> rfl⟩ ?_ ?_
 ·rintro i T1 J _ hi d U t q ⟨out,b6,E,F,hval,hz⟩;simp only [dz,hl] at d;have w1:=q.wf;have aa:=q.le;have t5:ad T1 5=.own (H.next+6) 0 N N 1 true:=(t.at_ 5 zU).trans (zV (aD hl n f));have t1:ad T1 1=sb:=(t.at_ 1 zU).trans (zV (aO hl n f f));have ag:ad T1 20=sa:=(t.at_ 20 zU).trans (zV (aD hl n f));have V:=SlV.idx1 ha .i64 i hi;have Y:=fM (ha.mono q.sub) hi;refine zW (fX d t5 t1 ag U V Y hb.lenV) ?_;have P:=la.at i;refine aq H [8] (fun j vs H'=>∃ o c:_,vs=[.int .u64 ((c:Nat):Int)]/\H'.get (H.next+6)=some (.cells (aN o) ae true)/\o.length=N/\Lim o/\c<B/\val o+B^(i+j)*c=val (a.take i)*val b+B^i*a.getD i 0*val (b.take j)/\∀ k,i+b.length<=k->o.getD k 0=0) (a:=0) (N:=b.length) rfl (by refine zW d ?_; rfl) (zV d) (xq _) zO (by simp only [dz,d]; rfl) rfl (fun _ _ _ _ h=>h) zK
   ⟨out,0,by refine zW d ?_; rfl,b6,E,F,by decide,by simp [hval,val],hz⟩ ?_ ?_
  ·rintro j T2 H2 _ hj g w m e ⟨o,c,p,c6,G,x,hc,I,y⟩;simp only [dz,d] at g;simp only [uz,B3,Ae,and_true] at p;have w2:=e.wf;have ab:=e.le;have r:ad T2 5=.own (H.next+6) 0 N N 1 true:=(m.at_ 5 zU).trans (zV (aE d t5));have s:ad T2 6=.int .i64 (i:Int):=(m.at_ 6 zU).trans (zV d);have A:ad T2 7=.int .u64 ((a.getD i 0:Nat):Int):=(m.at_ 7 zU).trans (zV d);have z:ad T2 27=sb:=(m.at_ 27 zU).trans (zV (aE d t1));have X:=SlV.idx1 hb .i64 j hj;have W:=fM (hb.mono e.sub) hj;have Q:=lb.at j;have u:IntKind.i64.wrap ((i:Int)+(j:Int))=((i+j:Nat):Int):=by rw [wrap_i64] <;> omega
   have M:=x.at (i+j);refine zW (fX g r s A z w X W) ?_;refine AnsH.use (qw C zF P Q) ?_;rintro v H3 ⟨rfl,L⟩;obtain ⟨k3,_,w3⟩:=zT H zK L;have d6:=L.get (b:=H.next+6) c6;refine zW (jU g r s A z w p u d6) ?_;refine AnsH.eq (ji C _ (a.getD i 0*b.getD j 0 % B) (o.getD (i+j) 0) 0 (XD _ zU) M zO) fun R D=>?_;subst D;refine zW (jU g r s A z w p u d6) ?_;refine AnsH.eq (ji C _ (fk (a.getD i 0*b.getD j 0 % B) (o.getD (i+j) 0) 0).1 c 0 (XD _ zU) hc zO) fun R D=>?_;subst D;have af:=k3.wf _ _ d6;refine zW (jU g r s A z w p u d6) ?_;have hs:=Ge P Q M hc;refine ⟨zK,_,_,rfl,rfl,by simp [G],kM x (XD _ zU),XD _ zU,IE zO I hs,fun k K=>?_⟩;rw [bw zO];exact y k K
  ·intro T2 H2 g m e ⟨o,c,p,c6,G,x,hc,I,y⟩;simp only [dz,d] at g;simp only [uz,B3,Ae,and_true] at p;have w2:=e.wf;have ab:=e.le;have r:ad T2 5=.own (H.next+6) 0 N N 1 true:=(m.at_ 5 zU).trans (zV (aE d t5));have s:ad T2 6=.int .i64 (i:Int):=(m.at_ 6 zU).trans (zV d);have u1:ad T2 1=sb:=(m.at_ 1 zU).trans (zV (aE d t1));have u:IntKind.i64.wrap ((i:Int)+(b.length:Int))=((i+b.length:Nat):Int):=by rw [wrap_i64] <;> omega
   have af:=e.wf _ _ c6;refine zW (fX g r s u1 p u c6 hb.lenV) ?_;have h1:=jl (l:=o) (k:=i+b.length) (v:=c) zO;rw [y _ (o0 _)] at h1;rw [MU (o0 _)] at I;refine ⟨zK,_,rfl,by simp [G],kM x hc,?_,fun k K=>?_⟩
   ·rw [db,XN]; omega
   ·rw [bw zO];exact y k zO
 ·intro T1 J d t q ⟨out,b6,E,F,hval,hz⟩;simp only [dz,hl] at d;have w1:=q.wf;have aa:=q.le;have t5:ad T1 5=.own (H.next+6) 0 N N 1 true:=(t.at_ 5 zU).trans (zV (aD hl n f));rw [MU (o0 _)] at hval;have ho:=(ww (H0:=H) (ex:=true) b6 zO E).sl;refine zW (aE d t5) ?_;refine AnsH.use (GB C zF (ho.mono (Sub.bump J _)) zO) ?_;rintro v H2 ⟨h2,e⟩;obtain ⟨k2,_,_⟩:=zT H zK e;rw [eW F,hval] at h2;refine zW d ?_;exact ⟨h2,zK⟩
end
def BS {n m:Nat} (h:n<=m):(ah n).length<=(ah m).length:=br (XK h (iM m))
def Sm.mono {n m:Nat} (h:n<=m) (hm:Sm m):Sm n:=XK (BS h) hm
def mV:∀ (k n:Nat),(ah n).drop k=ah (n / B^k)
 | 0,n=>by simp
 | k+1,n=>by
  by_cases h:n=0
  ·subst h; simp [cR]
  ·rw [kz h,List.drop_succ_cons,mV k,XL,Rb,EV B]
def qV:∀ (k n:Nat),val ((ah n).take k)=n % B^k
 | 0,n=>by simp [val,Nat.mod_one]
 | k+1,n=>by
  by_cases h:n=0
  ·subst h; simp [cR,val]
  ·rw [kz h,List.take_succ_cons,val,qV k,Rb,EV (B^k),Nat.mod_mul]
def GK {n:Nat} (h:n≠0) (k:Nat):List.replicate k 0++ah n=ah (n*B^k):=by
 have hne:ah n≠[]:=fun h1=>h (limbs_nil.1 h1);rw [<- Wi (l:=List.replicate k 0++ah n) ((Lim.replicate k).append (aY n)) ?_,pF,tg,bM,Ye,RO,EV];unfold Np;rw [List.getLast?_append];have hn:=dK n;unfold Np at hn;cases hg:(ah n).getLast? with
 | none=>exact absurd (List.getLast?_eq_none_iff.1 hg) hne
 | some a=>rw [hg] at hn; simpa using hn
section
variable {tab:Nat->Option aA} {H:Heap} {s:AV}
def eO (H:Heap):bO H .nilSl 0:=by
 show AD gg ae H .nilSl (ah 0);rw [cR]; exact SlV.nil _ _ _
def nS (ls:List Nat) {j:Nat} (hj:j<ls.length):(ls.take (j+1)).sum=(ls.take j).sum+ls[j]:=by
 rw [BU hj,List.sum_append]; simp only [ZI,List.sum_nil,Yj]
def yR (ls:List Nat):∀ j,(ls.take j).sum<=ls.sum:=fun j=>by
 conv=>rhs; rw [<- List.take_append_drop j ls,List.sum_append]
 omega
def E8 (C:Code tab) (y:Wf H) {ls:List Nat} {ty:Nat} (hs:AD (tT (bU gg) ae) ty H s (ls.map ah)) (x:ls.length<4611686018427387904) (w:Sm ls.sum) :
  Ans tab (.fn xY [s]) H fun v H'=>bO H' v ls.sum/\Kp H H':=by
 refine cT C.q133 zU fun T hl d=>?_;have l:=hs.lenV;rw [rR] at l;refine zW (aD hl d l) ?_;refine aq H [2] (fun j vs H'=>∃ v,vs=[v]/\bO H' v (ls.take j).sum) (a:=0) (N:=ls.length) rfl (by refine zW (aE hl d) ?_; rfl) (zV (aE hl d)) (xq _) zO (by simp only [dz,hl]; rfl) rfl (fun _ _ _ _ h=>h) zK ⟨.nilSl,by exact zV (aE hl d),eO _⟩ ?_ ?_
 ·rintro j T1 g _ hj b p m e ⟨v,f,hn⟩;simp only [uz,B3,Ae,and_true] at f;simp only [dz,hl] at b;have w1:=e.wf;have z:=e.le;have t5:ad T1 5=s:=(m.at_ 5 zU).trans (zV (aE hl d));obtain ⟨c,n,t⟩:=SlV.at1 (hs.mono e.sub) (i:=j) (a:=ah ls[j]) (by simp [hj]);have q:=SlV.idx1 hs .i64 j (by simpa using hj);have k:Sm (ls.take (j+1)).sum:=w.mono (yR ls _);rw [nS ls hj] at k;refine zW (dj b t5 p q t f) ?_;refine AnsH.use (Kn C zF (hn.mono (zG g)) (SlV.mono (zG g) n) (k.mono zO) (k.mono zO)) ?_;rintro v2 H2 ⟨o,rfl,u,r⟩;obtain ⟨k2,_,_⟩:=zT H zK r;refine zW b ?_;refine ⟨zK,o,rfl,?_⟩;rw [nS ls hj]; exact u
 ·rintro T1 g b m e ⟨v,f,hn⟩;simp only [uz,B3,Ae,and_true] at f;simp only [dz,hl] at b;rw [MU (o0 _)] at hn;refine zW (aE b f) ?_;exact ⟨hn,e⟩
def OY (C:Code tab) (E:Wf H) {a:AV} {n:Nat} {ls:List Nat} {ty:Nat} (ha:bO H a n) (hs:AD (tT (bU gg) ae) ty H s (ls.map ah)) (A:ls.length<4611686018427387904) (p:Sm n) (B:ls.sum<=n) :
  Ans tab (.fn uQ [a,s]) H fun v H'=>bO H' v (n-ls.sum)/\Kp H H':=by
 refine bA C.q134 zU fun T hl d e=>?_;have l:=hs.lenV;rw [rR] at l;refine zW (aO hl d e l) ?_;refine aq H [0] (fun j vs H'=>∃ v,vs=[v]/\bO H' v (n-(ls.take j).sum)) (a:=0) (N:=ls.length) rfl (by refine zW (aD hl d e) ?_; rfl) (zV (aD hl d e)) (xq _) zO (by simp only [dz,hl]; rfl) rfl (fun _ _ _ _ h=>h) zK ⟨a,by exact zV (aE hl d),ha.mono (zG H)⟩ ?_ ?_
 ·rintro j T1 g _ hj b r m k ⟨v,f,hn⟩;simp only [uz,B3,Ae,and_true] at f;simp only [dz,hl] at b;have w1:=k.wf;have F:=k.le;have z:ad T1 7=s:=(m.at_ 7 zU).trans (zV (aO hl d e e));obtain ⟨c,q,w⟩:=SlV.at1 (hs.mono k.sub) (i:=j) (a:=ah ls[j]) (by simp [hj]);have t:=SlV.idx1 hs .i64 j (by simpa using hj);have D:=yR ls (j+1);have y:=nS ls hj;refine zW (dj b z r t w f) ?_;refine AnsH.use (E6 C zF (hn.mono (zG g)) (SlV.mono (zG g) q) (p.mono zO) (p.mono zO)) ?_;rintro v2 H2 ⟨u,hr⟩;rw [if_pos zO] at hr;obtain ⟨o,rfl,x⟩:=hr;obtain ⟨k2,_,_⟩:=zT H zK u;refine zW b ?_;refine ⟨zK,o,rfl,?_⟩;rw [y,<- Nat.sub_sub]; exact x
 ·rintro T1 g b m k ⟨v,f,hn⟩;simp only [uz,B3,Ae,and_true] at f;simp only [dz,hl] at b;rw [MU (o0 _)] at hn;refine zW (aE b f) ?_;exact ⟨hn.mono (Sub.bump g _),zK⟩
def OX (C:Code tab) (o:Wf H) {a:AV} {n k:Nat} (ha:bO H a n) (m:Sm n) (q:k<4398046511104) :
  Ans tab (.fn BJ [a,.int .i64 (k:Int)]) H fun v H'=>bO H' v (n*B^k)/\Kp H H':=by
 refine bA C.q135 zU fun T hl c d=>?_;unfold Sm at m;by_cases h0:n=0
 ·subst h0;have e:lenV a=some (.int .i64 0):=by have:=ha.lenV; rwa [cR] at this
  refine zW (aO hl c d e) ?_;rw [Z0];exact ⟨eO _,zK⟩
 ·have j:¬ ((ah n).length:Int)=0:=by have:=(bN n).2 h0; omega
  have l:∀ H' id,Ja H' id ae 1 8 [.int .u64 0] (.int .i64 (k:Int)) (.int .i64 (k:Int))=some (.own id 0 k k 1 true,H'.put id (.cells (aN (List.replicate k 0)) ae true)):=fun H' id =>
   (iS H' id ae 1 8 [.int .u64 0] .i64 .i64 k zO zO rfl).trans (by rw [mX])
  refine zW (dj hl c d ha.lenV j l) ?_;have k1:Kp H ((H.up 9).put (H.next+5) (.cells (aN (List.replicate k 0)) ae true)):=zK;have t:=k1.le;have h:=(ww (H0:=H) (H:=(H.up 9).put (H.next+5) (.cells (aN (List.replicate k 0)) ae true)) (ex:=true) (n:=k) (al _ _ _) zO (by simp)).sl;have h1:SlV (bU gg) ae ((H.up 9).put (H.next+5) (.cells (aN (List.replicate k 0)) ae true)) (.own (H.next+5) 0 (List.replicate k 0).length (List.replicate k 0).length 1 true) (List.replicate k 0):=by simpa using h
  obtain ⟨p,H2,f,h2,i,r,s,-⟩:=SlV.app (id:=H.next+7) (bytes:=8) h1 k1 (ha.mono k1.sub) zO (by show _<H.next+9; omega) (by rw [au zO]; exact o.fresh (b:=H.next+7) zO) (by simp; omega) (by simp; omega);have g:dr ((H.up 9).put (H.next+5) (.cells (aN (List.replicate k 0)) ae true)) (H.next+7) 1 8 ae (.own (H.next+5) 0 k k 1 true) a=some (p,H2):=by rw [Ye] at f; exact f
  rw [GK h0] at h2;refine zW (aO hl c d g) ?_;exact ⟨h2,i⟩
def Dy (C:Code tab) (u:Wf H) {a:AV} {n k:Nat} (ha:bO H a n) (s:Sm n) (t:k<4398046511104) :
  Ans tab (.fn rG [a,.int .i64 (k:Int)]) H fun v H'=>∃ p q,v=.tup [p,q]/\bO H' p (n % B^k)/\bO H' q (n / B^k)/\Kp H H':=by
 refine bA C.q132 zU fun T hl b c=>?_;unfold Sm at s;obtain ⟨m,hm⟩:∃ m,m=min k (ah n).length:=⟨_,rfl⟩
 have r:Jc (.int .i64 (k:Int)) (.int .i64 ((ah n).length:Int))=some (.int .i64 (m:Int)):=by rw [Av]; congr 2; split <;> omega
 obtain ⟨p,g,hp⟩:=SlV.clipat ha .i64 .i64 m zO;obtain ⟨q,i,f⟩:=ha.lo .i64 m zO;have d:cG 1 a none (some (.int .i64 (m:Int))) (some (.int .i64 (m:Int)))=some p:=g;have e:cG 1 a (some (.int .i64 (m:Int))) none none=some q:=i;have l:(ah n).take m=(ah n).take k:=by
  by_cases h:k<=(ah n).length
  ·rw [hm,XO h]
  ·rw [hm,Nat.min_eq_right zO,MU (o0 _),MU zO]
 have j:(ah n).drop m=(ah n).drop k:=by
  by_cases h:k<=(ah n).length
  ·rw [hm,XO h]
  ·rw [hm,Nat.min_eq_right zO,ZE (o0 _),ZE zO]
 refine zW (bB hl b c ha.lenV r) ?_;refine aF ?_;refine zD (bB hl b c d e) ?_;refine AnsH.use (GB C zF (hp.mono (zG H)) (by rw [L9]; omega)) ?_;rintro v H2 ⟨h2,o⟩;obtain ⟨k2,_,_⟩:=zT H zK o;rw [eW ((aY n).take m),l,qV] at h2;rw [j,mV] at f;refine zD (bB hl b c d e) ?_;exact ⟨v,q,rfl,h2,f.mono k2.sub,k2⟩
def ij (C:Code tab) (c:Wf H) {a:AV} {n:Nat} (ha:bO H a n) (b:Sm n):Ans tab (.fn nB [a]) H fun v H'=>v=.int .i64 0/\Kp H H':=by
 unfold Sm at b;exact (oZ C c ha zO).mono fun v H' ⟨h1,h2⟩=>⟨by rw [h1,if_neg (dK n)],h2⟩
def GC (C:Code tab) (z:Wf H) {a b:AV} {x y fi:Nat} {first:List AV} (ha:bO H a x) (hb:bO H b y) (hx:Sm x) (hy:Sm y) {R:Heap->AV->Prop} (w:∀ H' v m,R H' v->R (H'.up m) v)
  (s:∀ H',Kp H H'->Ans tab (.fn fi (first++[a,b])) H' fun v H2=>R H2 v/\Kp H H2) :
  Ans tab (.fn oB [a,b,.fn (.func fi) first []]) H fun v H'=>∃ r,v=.tup [r,.int .i64 0]/\R H' r/\Kp H H':=by
 refine lC C.q115 zU fun T hl d f h=>?_;have B:=ha.one;have D:=hb.one;refine zW (aO hl d f h) ?_;refine cu H [14] (fun k vs H'=>∃ i:Nat,vs=[.int .i64 (i:Int)]/\i+k=2) 2 (by simp only [dz]; exact hl) rfl zK ⟨0,by refine zW (aO hl d f h) ?_; rfl,rfl⟩ ?_;rintro k T1 u g n p ⟨i,o,j⟩;simp only [uz,B3,Ae,and_true] at o;have w1:=p.wf;have A:=p.le;have q:ad T1 13=.agg [a,b]:=(n.at_ 13 zU).trans (zV (aD hl d f));have t0:ad T1 0=a:=(n.at_ 0 zU).trans (zV (aE hl d));have t1:ad T1 1=b:=(n.at_ 1 zU).trans (zV (bB hl d f h f));have t:ad T1 2=.fn (.func fi) first []:=(n.at_ 2 zU).trans (zV (bB hl d f h h))
 match i,j with
 | 0,j =>
  have c:ad T1 14=.int .i64 0:=o;have e:IntKind.i64.wrap (0+1)=((1:Nat):Int):=by decide
  refine zW (aD g c q) ?_;refine AnsH.eq (ij C zF (ha.mono (zG H)) hx) fun H2 l=>?_;obtain ⟨k2,_,_⟩:=zT H zK l;refine zW (aD g c e) ?_;exact ⟨zK,k-1,zO,1,rfl,zO⟩
 | 1,j =>
  have c:ad T1 14=.int .i64 1:=o;have e:IntKind.i64.wrap (1+1)=((2:Nat):Int):=by decide
  refine zW (aD g c q) ?_;refine AnsH.eq (ij C zF (hb.mono (zG H)) hy) fun H2 l=>?_;obtain ⟨k2,_,_⟩:=zT H zK l;refine zW (aD g c e) ?_;exact ⟨zK,k-1,zO,2,rfl,zO⟩
 | 2,j =>
  have c:ad T1 14=.int .i64 2:=o;refine zW (bB g c t0 t1 t) ?_;refine AnsH.use (s _ zK) ?_;rintro v H2 ⟨h2,l⟩;refine zW g ?_;exact ⟨v,rfl,h2,l⟩
 | i+3,j=>omega
def Vc {H c:Heap} {b ty t1:Nat} {α:Type} {E:fQ α} {x y z:AV} {l m n:List α} (hx:SlV E t1 H x l) (hy:SlV E t1 H y m) (hz:SlV E t1 H z n) (hs:Sub H c) (hg:c.get b=some (.cells [x,y,z] ty true)):AD (tT E t1) ty c (.own b 0 3 3 1 true) [l,m,n] :=
 ⟨[x,y,z],Rd.own hg rfl (o0 _),fun _ _ _ _ _ _ e=>by cases e; exact ⟨_,_,hg⟩,rfl,fun i a hi=>by
  match i with
  | 0=>simp at hi; subst hi; exact ⟨x,rfl,hx.mono hs⟩
  | 1=>simp at hi; subst hi; exact ⟨y,rfl,hy.mono hs⟩
  | 2=>simp at hi; subst hi; exact ⟨z,rfl,hz.mono hs⟩
  | i+3=>simp at hi⟩
def Ga {x m h:Nat} (hx:x<B^m) (h1:h<=m):x / B^h<B^(m-h):=by
 apply Nat.div_lt_of_lt_mul
 rw [<- Th]
 have:h+(m-h)=m:=zO
 rw [this]; exact hx
def Sm.of {n k:Nat} (h:n<B^k) (a:k<1099511627776):Sm n:=XK (br h) a
def yj {n m:Nat} (h:(ah n).length<=m):n<B^m:=Eb (iM n) (JR zU h)
set_option maxHeartbeats 2000000 in
def OZ (C:Code tab):∀ (M:Nat) {H:Heap} {a b:AV} {x y:Nat},Wf H->bO H a x->bO H b y->max (ah x).length (ah y).length=M->M<274877906944 ->
  Ans tab (.fn iB [.int .i64 8,a,b]) H fun v H'=>bO H' v (x*y)/\Kp H H':=by
 intro M
 induction M using Nat.strongRecOn with
 | _ M Q =>
 intro H a b x y hw ha hb hM a0;refine lC C.q114 zU fun T hl f g i=>?_;obtain ⟨U,a1⟩:∃ U,U=min (ah x).length (ah y).length:=⟨_,rfl⟩
 have aM:Jc (.int .i64 ((ah x).length:Int)) (.int .i64 ((ah y).length:Int))=some (.int .i64 (U:Int)):=by rw [Av]; congr 2; split <;> omega
 have aJ:Mi (.int .i64 ((ah x).length:Int)) (.int .i64 ((ah y).length:Int))=some (.int .i64 (M:Int)):=by rw [Fa]; congr 2; split <;> omega
 refine zW (fo hl f g i ha.lenV hb.lenV aM) ?_;refine iteH.split (fun h=>?_) fun h=>?_
 ·refine zW (aO hl f g i) ?_;refine AnsH.use (I8 C zF (ha.mono (zG H)) (hb.mono (zG H)) zO zO (aY x) (aY y)) ?_;rintro v H2 ⟨h2,I⟩;obtain ⟨k2,_,_⟩:=zT H zK I;rw [bM,bM] at h2;refine zW (aO hl f g i) ?_;exact ⟨h2,zK⟩
 ·have aZ:9<=M:=zO;obtain ⟨k,hk⟩:∃ k,k=(M+1) / 2:=⟨_,rfl⟩
  have aR:IntKind.i64.wrap ((M:Int)+1)=((M+1:Nat):Int):=by rw [wrap_i64] <;> omega
  have hq:bY .quo .int (.int .i64 ((M+1:Nat):Int)) (.int .i64 2)=some (.int .i64 (k:Int)):=by
   show some (AV.int .i64 (IntKind.i64.wrap (((M+1:Nat):Int).tdiv 2)))=_
   have:((M+1:Nat):Int).tdiv 2=(k:Int):=by rw [ZO zO]; omega
   rw [this,wrap_i64] <;> omega
  have O:x<B^M:=yj zO;have P:y<B^M:=yj zO;have N:M-k<=k/\k<=M/\k+1<M:=zO;have aT:x % B^k<B^k:=XD _ (Pm zU);have aU:y % B^k<B^k:=XD _ (Pm zU);have a4:x / B^k<B^(M-k):=Ga O N.2.1;have a5:y / B^k<B^(M-k):=Ga P N.2.1;have a2:B^(M-k)<=B^k:=JR zU N.1;have a3:2*B^k<=B^(k+1):=by rw [Rb,EV]; exact YY _ zU
  have Z:x=x / B^k*B^k+x % B^k:=(ZT x (B^k)).symm;have aa:y=y / B^k*B^k+y % B^k:=(ZT y (B^k)).symm;have aS:IntKind.i64.wrap (2*(k:Int))=((2*k:Nat):Int):=by rw [wrap_i64] <;> omega
  have aP:Sm x:=Sm.of O zO;have aQ:Sm y:=Sm.of P zO;have aN:x*y<B^(M+M):=by rw [Th]; exact Nat.mul_lt_mul'' O P
  have aj:Sm (x*y):=Sm.of aN zO;refine zW (jU hl f g i ha.lenV hb.lenV aJ aR hq) ?_;refine AnsH.use (Dy C zF (ha.mono (zG H)) aP zO) ?_;rintro v H1 ⟨p0,p1,rfl,q,r,aD⟩;obtain ⟨k1,_,w1⟩:=zT H zK aD;refine zW (aO hl f g i) ?_;refine AnsH.use (Dy C zF (hb.mono (zG H)) aQ zO) ?_;rintro v H2 ⟨q0,q1,rfl,hq0,w,I⟩;obtain ⟨R,_,_⟩:=zT H1 zK I;have k2:Kp H H2:=k1.trans R;have a6:=k2.le;have w2:=k2.wf;have q:=q.mono R.sub;have r:=r.mono R.sub
  generalize x % B^k=d at *
  generalize x / B^k=x1 at *
  generalize y % B^k=e at *
  generalize y / B^k=y1 at *
  have bb:(ah d).length<=k:=br aT;have bd:(ah e).length<=k:=br aU;have bc:(ah x1).length<=k:=br zO;have bf:(ah y1).length<=k:=br zO;refine zW (aO hl f g i) ?_;refine AnsH.use (Q _ zO zF (q.mono (zG H2)) (hq0.mono (zG H2)) rfl zO) ?_;rintro r0 H3 ⟨m,aF⟩;obtain ⟨k23,_,w3⟩:=zT H2 zK aF;refine zW (aO hl f g i) ?_;refine AnsH.use (Q _ zO zF (r.mono (zG H2)) (w.mono (zG H2)) rfl zO) ?_;rintro r1 j ⟨s,aH⟩;obtain ⟨S,_,_⟩:=zT H3 zK aH;have u:Kp H2 j:=k23.trans S;have a7:=u.le;have w4:=S.wf;have m:=m.mono S.sub;have q:=q.mono u.sub;have r:=r.mono u.sub;have hq0:=hq0.mono u.sub;have w:=w.mono u.sub;have bi:=q.one;have bj:=r.one;have aW:=hq0.one;have bl:=w.one;have bm:=m.one;have bn:=s.one;refine zW (aO hl f g i) ?_;refine AnsH.use (E8 C (ls:=[d,x1]) zF (C2 q r (zG j) (by refine vH ?_; rfl)) (by simp) (Sm.of (k:=k+1) (by simp; omega) zO)) ?_;rintro sx o ⟨ag,J⟩;obtain ⟨ap,_,w5⟩:=zT j zK J;have n5:j.next+15<=o.next:=J.le
  have Y:∀ c,c<15->c≠3->o.get (j.next+c)=none:=fun c hc h3=>J.free (show _<j.next+15 by omega) (by rw [au zO]; exact w4.fresh (b:=j.next+c) zO);have bk:=aW;refine zW (aO hl f g i) ?_;have s5:Sub o (o.put (j.next+7) (.cells [q0,q1] aK true)):=aG (Y 7 zO zO);refine AnsH.use (E8 C (ls:=[e,y1]) zF (C2 (hq0.mono ap.sub) (w.mono ap.sub) s5 (by refine vH ?_; rfl)) (by simp) (Sm.of (k:=k+1) (by simp; omega) zO)) ?_;rintro sy z ⟨al,D⟩;obtain ⟨aq,_,_⟩:=zT j zK D;have aX:Sub o z:=s5.trans D.sub;have w6:=aq.wf;have n6:o.next<=z.next:=D.le
  have f6:z.get (j.next+12)=none:=D.free (show _<o.next by omega) (by rw [au zO]; exact Y 12 zO zO);have ay:[d,x1].sum=d+x1:=by simp
  have aB:[e,y1].sum=e+y1:=by simp
  rw [ay] at ag;rw [aB] at al;have a9:(ah (d+x1)).length<=k+1:=br zO;have ba:(ah (e+y1)).length<=k+1:=br zO;refine zW (aO hl f g i) ?_;refine AnsH.use (Q _ zO zF (ag.mono aX) al rfl zO) ?_;rintro m0 t ⟨ad,K⟩;have E:Kp j t:=aq.trans K;have a8:=E.le;have w7:=E.wf;have n7:z.next<=t.next:=K.le
  have f7:t.get (j.next+12)=none:=K.free zO f6;have bh:=ad.one;have m:=m.mono E.sub;have s:=s.mono E.sub;have e1:(d+x1)*(e+y1)=d*e+x1*y1+(d*y1+x1*e):=by grind
  have aI:x1*y1<=x*y:=by
   rw [Z,aa];exact X0 (by have:=Pm (n:=k) (show 0<B by decide); have:=Nat.le_mul_of_pos_right x1 this; omega) (by have:=Pm (n:=k) (show 0<B by decide); have:=Nat.le_mul_of_pos_right y1 this; omega)
  have aL:(d+x1)*(e+y1)<B^((k+1)+(k+1)):=by rw [Th]; exact Nat.mul_lt_mul'' zO zO
  have af:Sm ((d+x1)*(e+y1)):=Sm.of aL zO;refine zW (aO hl f g i) ?_;have V:Sub t (t.put (j.next+12) (.cells [r0,r1] aK true)):=aG f7;refine AnsH.use (OY C (ls:=[d*e,x1*y1]) zF (ad.mono V) (C2 m s V (by refine vH ?_; rfl)) (by simp) af (by simp; omega)) ?_;rintro md l ⟨ae,ab⟩;obtain ⟨ar,_,_⟩:=zT j zK ab;have ax:Sub t l:=V.trans ab.sub;have w8:=ar.wf;have em:(d+x1)*(e+y1)-[d*e,x1*y1].sum=d*y1+x1*e:=by rw [e1]; simp only [ZI,List.sum_nil,Yj]; omega
  rw [em] at ae;have m:=m.mono ax;have s:=s.mono ax;refine zW (aO hl f g i) ?_;refine AnsH.use (OX C (k:=k) zF (ae.mono (zG l)) (af.mono zO) zO) ?_;rintro u1 G ⟨am,L⟩;obtain ⟨av,_,w9⟩:=zT l zK L;have n9:l.next+11<=G.next:=L.le
  have f9:G.get (l.next+8)=none:=L.free (show _<l.next+11 by omega) (w8.fresh (b:=l.next+8) zO);refine zW (bB hl f g i aS) ?_;refine AnsH.use (OX C (k:=2*k) zF (s.mono av.sub) (aj.mono aI) zO) ?_;rintro u2 F ⟨ao,A⟩;have aw:Kp l F:=av.trans A;have bs:=aw.wf;have bg:G.next<=F.next:=A.le
  have aC:F.get (l.next+8)=none:=A.free zO f9;have bp:=am.one;have bq:=ao.one;have X:[d*e,(d*y1+x1*e)*B^k,x1*y1*B^(2*k)].sum=x*y:=by
   have e2:B^(2*k)=B^k*B^k:=by rw [Nat.two_mul,Th]
   rw [e2]
   conv=>rhs; rw [Z,aa]
   simp only [ZI,List.sum_nil,Yj]
   generalize B^k=p
   grind
  refine zW (aO hl f g i) ?_;refine AnsH.use (E8 C (ls:=[d*e,(d*y1+x1*e)*B^k,x1*y1*B^(2*k)]) zF (Vc (m.mono aw.sub) (am.mono A.sub) ao (aG aC) (by refine vH ?_; rfl)) (by simp) (by rw [X]; exact aj)) ?_;rintro v W ⟨hv,aE⟩;rw [X] at hv;have aV:Kp l W:=Kp.trans zK aE;have kf:Kp H W:=((k2.trans u).trans ar).trans aV;refine zW (aO hl f g i) ?_;exact ⟨hv,kf⟩
def Rh (C:Code tab) (i:Wf H) {a b:AV} {x y:Nat} (ha:bO H a x) (hb:bO H b y) (hx:(ah x).length<274877906944) (hy:(ah y).length<274877906944) :
  Ans tab (.fn xZ [a,b]) H fun v H'=>∃ r,v=.tup [r,.int .i64 0]/\bO H' r (x*y)/\Kp H H':=by
 refine bA C.q84 zU fun T hl e f=>?_;refine zW (aD hl e f) ?_;refine AnsH.use (GC C (R:=fun H' v=>bO H' v (x*y)) zF (ha.mono (zG H)) (hb.mono (zG H)) (by unfold Sm; omega) (by unfold Sm; omega) (fun H' v m h=>h.mono (Sub.bump H' m)) fun g c=>?_) ?_
 ·have k1:Kp H g:=Kp.trans zK c;refine (OZ C _ c.wf (ha.mono k1.sub) (hb.mono k1.sub) rfl zO).mono ?_;rintro v H2 ⟨h2,d⟩;exact ⟨h2,c.trans d⟩
 ·rintro v H2 ⟨r,rfl,hr,d⟩;obtain ⟨k2,_,_⟩:=zT H zK d;refine zW (aD hl e f) ?_;exact ⟨r,rfl,hr,zK⟩
def xD (C:Code tab) (A:Wf H) {a b:AV} {x y:Int} (ha:IntV H a x) (hb:IntV H b y) (hx:(ah x.natAbs).length<274877906944) (hy:(ah y.natAbs).length<274877906944):Ans tab (.fn ry [a,b]) H fun v H'=>∃ r,v=.tup [r,.int .i64 0]/\IntV H' r (x*y)/\Kp H H':=by
 obtain ⟨p,rfl,hp⟩:=ha;obtain ⟨q,rfl,i⟩:=hb;have op:=hp.one;have F:=i.one;refine bA C.q50 zU fun T hl c d=>?_;refine zW (aD hl c d) ?_;refine AnsH.eq (ic C zF (KA (x:=x) (y:=y) (H:=H) hp i (zG H) (by refine vH ?_; rfl)) (by simp) fun z hz=>?_) fun H2 f=>?_
 ·simp at hz; unfold dD Sm; rcases hz with rfl | rfl <;> omega
 obtain ⟨k2,_,G⟩:=zT H zK f;have b0:=f.get (b:=H.next) (e:=.cells [.bool (decide (x<0)),p] aa true) (cC);have k:=f.get (b:=H.next+1) (e:=.cells [.bool (decide (y<0)),q] aa true) (cC);have n:=f.get (b:=H.next+2) (e:=.cells [.bool false,.nilSl] aa true) (cC);refine zW (bB hl c d @b0 k) ?_;refine AnsH.use (Rh C zF (hp.mono (zG H)) (i.mono (zG H)) hx hy) ?_;rintro v j ⟨r,rfl,hr,g⟩;obtain ⟨B,_,w3⟩:=zT H zK g;have o:=g.get (b:=H.next) b0;have s:=g.get (b:=H.next+1) k;have t:=g.get (b:=H.next+2) n;refine zW (bB hl c d o @s) ?_;refine AnsH.use (fw C zF (hr.mono (zG j)) _) ?_;rintro v4 w ⟨rfl,h⟩;obtain ⟨u,_,_⟩:=zT H zK h;have E:=hr.one;have d2:=h.get (b:=H.next+2) t;have D:=u.wf _ _ d2;refine zW (aO hl c d d2) ?_;refine ⟨_,rfl,?_,zK⟩;have hm:=pd (!(decide (x<0) == decide (y<0))) ((hr.mono (Kp.sub (H:=j) (Kp.trans zK h))).monoT (SubT.put_ty (e:=.cells [.bool (!(decide (x<0) == decide (y<0)) && decide (0<(ah (x.natAbs*y.natAbs)).length)),r] aa true) d2 zU));have e:(if (!(decide (x<0) == decide (y<0)))=true then -((x.natAbs*y.natAbs:Nat):Int) else ((x.natAbs*y.natAbs:Nat):Int))=x*y:=by
  rw [Int.natCast_mul];have l:(x.natAbs:Int)=if x<0 then -x else x:=by split <;> omega
  have m:(y.natAbs:Int)=if y<0 then -y else y:=by split <;> omega
  rw [l,m];by_cases h1:x<0 <;> by_cases h2:y<0 <;> simp [h1,h2,Int.neg_mul,Int.mul_neg]
 rw [e] at hm;exact hm
def xE (C:Code tab) (i:Wf H) {a b:AV} {x y:Int} (ha:IntV H a x) (hb:IntV H b y) (hx:dD x) (hy:dD y):Ans tab (.fn rz [a,b]) H fun v H'=>v=.tup [.int .i64 (gJ (x-y)),.int .i64 0]/\Kp H H':=by
 obtain ⟨p,rfl,hp⟩:=ha;obtain ⟨q,rfl,g⟩:=hb;have op:=hp.one;have m:=g.one;refine bA C.q48 zU fun T hl c d=>?_;refine zW (aD hl c d) ?_;refine AnsH.use (Ly C zF ⟨p,rfl,hp.mono (zG H)⟩ ⟨q,rfl,g.mono (zG H)⟩ hx hy) ?_;rintro v H2 ⟨r,rfl,⟨w,rfl,hr⟩,e⟩;obtain ⟨k2,_,o⟩:=zT H zK e;have n:=hr.one;have l:H.next+13<=H2.next:=e.le
 have f:H2.get (H.next+10)=none:=e.free (show _<H.next+13 by omega) (by rw [au zO,au zO]; exact i.fresh (b:=H.next+10) zO);refine zW (aD hl c d) ?_;have s2:Sub H2 ((H2.put (H.next+10) (.cells [.bool false,.nilSl] aa true)).put (H.next+10) (.cells [.bool (decide (x-y<0)),w] aa true)):=(aG f).put f _;refine AnsH.eq (AF C (x:=x-y) zF ⟨w,rfl,hr.mono s2⟩) fun j h=>?_;obtain ⟨k,_,_⟩:=zT H zK h;refine zW (aD hl c d) ?_;exact zK
def jk (C:Code tab) (q:Wf H) {n:Int} (h1 : -9223372036854775808<=n) (h2:n<9223372036854775808):Ans tab (.fn uM [.int .i64 n]) H fun v H'=>IntV H' v n/\Kp H H':=by
 refine cT C.q11 zU fun T hl d=>?_;refine zW (aE hl d) ?_;have fin:∀ (a:Heap) (g:Kp H a) (bb:Bool) (o:AV) (m:Nat) (z:Int),a.get H.next=some (.cells [.bool false,.nilSl] aa true)->Lb a o (ah m)->(if bb then -(m:Int) else m)=z ->
   IntV (a.put H.next (.cells [.bool (bb && decide (0<(ah m).length)),o] aa true)) (.agg [.bool (bb && decide (0<(ah m).length)),o]) z/\Kp H (a.put H.next (.cells [.bool (bb && decide (0<(ah m).length)),o] aa true)):=by
  intro a g bb o m z d1 j hz;have r:=g.wf _ _ d1;refine ⟨?_,zK⟩;rw [<- hz];exact pd bb (j.monoT (SubT.put_ty d1 zU))
 have key:∀ (c:Bool) (k:Nat),0<=k->True:=fun _ _ _=>trivial;refine iteH.split (fun h=>?_) fun h=>?_
 ·have e:IntKind.u64.wrap (0-IntKind.u64.wrap n)=((n.natAbs:Nat):Int):=by rw [kO,kO]; omega
  refine zW (aD hl d e) ?_;refine AnsH.use (I5 C zF (n:=n.natAbs) (by unfold B; omega)) ?_;rintro v H2 ⟨hn,-,i⟩;obtain ⟨k2,_,p⟩:=zT H zK i;have b0:=i.get (b:=H.next) (e:=.cells [.bool false,.nilSl] aa true) (cC);have l:=hn.one;refine zW (aE hl d) ?_;refine AnsH.use (fw C zF (hn.mono (zG H2)) true) ?_;rintro v3 a ⟨rfl,f⟩;obtain ⟨g,_,_⟩:=zT H zK f;have d1:=f.get (b:=H.next) b0
  have:=fin a g true v n.natAbs n d1 (hn.mono (Kp.sub (H:=H2) (Kp.trans zK f))) (by simp; omega)
  simp only [Bool.true_and] at this;refine zW (aD hl d d1) ?_;exact this
 ·have e:IntKind.u64.wrap n=((n.natAbs:Nat):Int):=by rw [kO]; omega
  refine zW (aD hl d e) ?_;refine AnsH.use (I5 C zF (n:=n.natAbs) (by unfold B; omega)) ?_;rintro v H2 ⟨hn,-,i⟩;obtain ⟨k2,_,p⟩:=zT H zK i;have b0:=i.get (b:=H.next) (e:=.cells [.bool false,.nilSl] aa true) (cC);have l:=hn.one;refine zW (aE hl d) ?_;refine AnsH.use (fw C zF (hn.mono (zG H2)) false) ?_;rintro v3 a ⟨rfl,f⟩;obtain ⟨g,_,_⟩:=zT H zK f;have d1:=f.get (b:=H.next) b0
  have:=fin a g false v n.natAbs n d1 (hn.mono (Kp.sub (H:=H2) (Kp.trans zK f))) (by simp; omega)
  simp only [Bool.false_and] at this;refine zW (aD hl d d1) ?_;exact this
end
def xv {a b:Nat} (ha:a<18446744073709551616) (hb:b<18446744073709551616):bY .or .int (.int .u64 (a:Int)) (.int .u64 (b:Int))=some (.int .u64 ((a ||| b:Nat):Int)):=by
 have h1:(BitVec.ofInt 64 (a:Int)).toNat=a:=by
  have:(BitVec.ofInt 64 (a:Int)).toNat=a % 2^64:=by simp
  rw [this]; omega
 have h2:(BitVec.ofInt 64 (b:Int)).toNat=b:=by
  have:(BitVec.ofInt 64 (b:Int)).toNat=b % 2^64:=by simp
  rw [this]; omega
 have e:(BitVec.ofInt 64 (a:Int) ||| BitVec.ofInt 64 (b:Int)).toNat=a ||| b:=by rw [BitVec.toNat_or,h1,h2]
 have hlt:a ||| b<2^64:=Nat.or_lt_two_pow zO zO
 show some (AV.int .u64 (IntKind.u64.wrap ((BitVec.ofInt 64 (a:Int) ||| BitVec.ofInt 64 (b:Int)).toNat:Nat)))=_;rw [e,gH zO zO]
def HP {r:Nat} (hr:r<64) {k:IntKind}:bY .shl .int (.int .u64 1) (.int k (r:Int))=some (.int .u64 ((2^r:Nat):Int)):=by
 show lz .shl .u64 1 (r:Int)=_;unfold lz;rw [if_neg zO];have h1:Nat.min (r:Int).toNat IntKind.u64.bits=r:=by
  have:IntKind.u64.bits=64:=rfl
  rw [this,YJ]; exact XO zO
 have hlt:(2:Nat)^r<2^64:=ZP zO hr;have e:(1:Int)*2^r=((2^r:Nat):Int):=by simp
 simp only [h1,e]
 generalize (2:Nat)^r=p at hlt ⊢
 rw [gH zO zO]
def EY {a b r:Nat} (ha:a<2^r):a ||| (2^r*b)=a+2^r*b:=by
 rw [Nat.or_comm,<- Nat.two_pow_add_eq_or_of_lt ha,Zh]
section
variable {tab:Nat->Option aA} {H:Heap} {s:AV}
def Dx (C:Code tab) (h:Wf H) {a:AV} {x k:Nat} (ha:bO H a x) (hx:Sm x) (g:k<=65536) :
  Ans tab (.fn rF [a,.int .i64 (k:Int)]) H fun v H'=>v=.int .i64 0/\Kp H H':=by
 refine bA C.q191 zU fun T hl b c=>?_;refine zW (aD hl b c) ?_;refine AnsH.eq (ij C zF (ha.mono (zG H)) hx) fun H2 f=>?_;obtain ⟨k2,_,_⟩:=zT H zK f;have d:decide ((k:Int)<0)=false:=by simp
 have e:decide ((65536:Int)<(k:Int))=false:=by simp; omega
 refine zW (bB hl b c d e) ?_;exact zK
def OD {k c:Nat} (hc:0<c) (b:k<4611686018427387904):bY .quo .int (.int .i64 (k:Int)) (.int .i64 (c:Int))=some (.int .i64 ((k / c:Nat):Int)):=by
 show (if (c:Int)=0 then none else some (AV.int .i64 (IntKind.i64.wrap ((k:Int).tdiv (c:Int)))))=_;have a:k / c<=k:=Zf _ _;rw [if_neg zO,ZO zO,<- Int.natCast_ediv]
 generalize k / c=d at a ⊢
 rw [wrap_i64 zO zO]
def OB {k c:Nat} (hc:0<c):bY .rem .int (.int .i64 (k:Int)) (.int .i64 (c:Int))=some (.int .i64 ((k % c:Nat):Int)):=by
 show (if (c:Int)=0 then none else some (AV.int .i64 ((k:Int).tmod (c:Int))))=_;rw [if_neg zO,Int.tmod_eq_emod_of_nonneg zO,<- Int.natCast_emod]
def Iz {x r:Nat} (hr:r<64):x*2^r % B=2^r*(x % 2^(64-r)):=by
 have a:B=2^r*2^(64-r):=by
  rw [<- Th]; have:r+(64-r)=64:=zO;rw [this]
 rw [a,EV x,Nat.mul_mod_mul_left]
def S8 {x r:Nat} (hx:x<B):x*2^r / B<2^r:=by
 rw [Jr zU,EV];exact Nat.mul_lt_mul_of_pos_left hx (Pm zU)
def sN (l:List Nat):∃ E,l=fc l++E:=by
 refine ⟨(l.reverse.takeWhile (· == 0)).reverse,?_⟩;have h:=List.takeWhile_append_dropWhile (p:=(· == 0)) (l:=l.reverse);have h2:=congrArg List.reverse h;rw [List.reverse_append,List.reverse_reverse] at h2;exact h2.symm
def OG (b off n c sz:Nat) (x:Bool) (k j:IntKind) (a:n<=c):cG sz (.own b off n c sz x) none (some (.int k (n:Int))) (some (.int j (n:Int)))=some (.own b off n n sz true):=by
 show bW sz (.own b off n c sz x) none (some (.int k (n:Int))) (some (.int j (n:Int)))=_;simp only [bW,gE,ne_eq,not_true_eq_false,if_false,kS,X4,YD,Yv];rw [if_pos ⟨a,o0 _,xq _⟩];split
 ·rename_i h; subst h; rfl
 ·simp
def IX (b off n c sz m:Nat) (x:Bool) (k:IntKind) (h:m<=c):cG sz (.own b off n c sz x) none (some (.int k (m:Int))) none=some (.own b off m c sz x):=by
 show bW sz (.own b off n c sz x) none (some (.int k (m:Int))) none=_;simp only [bW,gE,ne_eq,not_true_eq_false,if_false,kS,X4,YD,Yt,Yv,Yc];rw [if_pos ⟨h,xq _⟩]
 simp
def JM {H:Heap} {cells:List AV} {l:List Nat} (h:Cells (bU gg) H cells l):cells=aN l:=by
 have hl:cells.length=l.length:=by have:=h.1; simpa [bU] using this
 apply Yk
 intro i;by_cases hi:i<l.length
 ·obtain ⟨v,e,rfl⟩:=h.2 i _ (eA hi);have a:cells[i]? = some (.int .u64 (l[i]:Nat)):=by
   have:=congrArg (fun x=>x[0]?) e
   simpa [bU,Gy] using this
  rw [a];simp [aN,hi]
 ·rw [Pi zO,Pi (by rw [pf]; omega)]
def xO (C:Code tab) (j:Wf H) {l:List Nat} (hs:Lb H s l) (m:l.length<1099511627776):Ans tab (.fn cA [s]) H fun v H'=>Lb H' v l/\Kp H H'/\(0<l.length->∃ b,v=.own b 0 l.length l.length 1 false/\H'.get b=some (.cells (aN l) ae true)/\H.next<=b):=by
 refine cT C.q101 zU fun T hl a=>?_;rcases hs.nilcase with ⟨rfl,rfl⟩ | hne
 ·have e:bY .eql .sl .nilSl .nilSl=some (.bool true):=rfl;refine zW (aD hl a e) ?_;exact ⟨SlV.nil _ _ _,zK,fun h=>by simp at h⟩
 ·have f:cB ([]:List AV) []=some []:=rfl;refine zW (aO hl a hne f) ?_;have k1:Kp H ((H.up 7).put (H.next+3) (.cells [] ae true)):=zK;have p:=k1.le;have h0:SlV (bU gg) ae ((H.up 7).put (H.next+3) (.cells [] ae true)) (.own (H.next+3) 0 0 0 1 true) ([]:List Nat) :=
   (show Own (bU gg) ae H _ (H.next+3) true _ [] from ⟨_,rfl,al _ _ _,Cells.nil _ _,zO⟩).sl
  obtain ⟨k,H2,c,h2,g,n,o,i⟩:=SlV.app (l:=[]) (id:=H.next+5) (bytes:=8) h0 k1 (hs.mono k1.sub) zO (by show _<H.next+7; omega) (by rw [au zO]; exact j.fresh (b:=H.next+5) zO) (by simp; omega) (by simp; omega);have d:dr ((H.up 7).put (H.next+3) (.cells [] ae true)) (H.next+5) 1 8 ae (.own (H.next+3) 0 0 0 1 true) s=some (k,H2):=c;refine zW (aD hl a d) ?_;refine ⟨h2,g,fun h=>?_⟩;obtain ⟨cells,q1,q2,q3,q4⟩:=i h;rw [Y0] at q1 q3;rw [JM q3] at q2;exact ⟨_,q1,q2,q4⟩
def iQ (C:Code tab) (f:Wf H) {b n c:Nat} {x:Bool} (d:n<=c):Ans tab (.fn cF [.own b 0 n c 1 x]) H fun v H'=>v=.own b 0 n n 1 true/\Kp H H':=by
 refine cT C.q100 zU fun T hl a=>?_;have e:=OG b 0 n c 1 x .i64 .i64 d;refine zW (aD hl a e) ?_;exact zK
def E5 (C:Code tab) (D:Wf H) {l:List Nat} {b N:Nat} {rw' x:Bool} (n:l.length=N) (hb:H.get b=some (.cells (aN l) ae rw')) (A:N<4611686018427387904) :
  Ans tab (.fn pT [.own b 0 N N 1 x]) H fun v H'=>v=.own b 0 (fc l).length (fc l).length 1 true/\Kp H H':=by
 refine cT C.q63 zU fun T hl i=>?_;refine zW (aE hl i) ?_;refine cu H [0] (fun k vs H'=>vs=[.own b 0 k N 1 x]/\fc (l.take k)=fc l/\k<=l.length) l.length (by simp only [dz]; exact hl) rfl zK ⟨by exact zV (aD hl i n),by rw [KO],o0 _⟩ ?_;rintro k T1 z d B f ⟨e,g,r⟩;have w1:=f.wf;have E:=f.le;have m:=f.get hb;simp only [uz,B3,Ae,and_true] at e;rcases YL (l.take k) with h0 | ⟨c,a,h0⟩
 ·have s:k=0:=by
   have:=congrArg List.length h0; simp at this
   rcases this with h | h
   ·exact h
   ·subst h; simpa using r
  subst s;refine zW (aD d e @PL) ?_;refine AnsH.eq (iQ C zF (xq _)) fun H2 h2=>?_;have k2:Kp H H2:=Kp.trans zK h2;have y:=k2.le;rw [<- g,h0,xJ];refine zW d ?_;exact zK
 ·rw [YM] at h0;have t:k=c.length+1:=by have:=congrArg List.length h0; simp at this; omega
  subst t;have u:l.take c.length=c:=by
   have:=congrArg (List.take c.length) h0
   rw [YW,XO zO] at this
   simpa using this
  have q:l.getD c.length 0=a:=by
   have this:(l.take (c.length+1)).getD c.length 0=(c++[a]).getD c.length 0:=by rw [h0]
   rw [iF,Gy,if_pos zO,<- iF] at this;rw [this]; simp [iF]
  have j:IntKind.i64.wrap (((c.length+1:Nat):Int)-1)=(c.length:Int):=by rw [wrap_i64] <;> omega
  have w:0<c.length+1:=zO;have e':=IX b 0 (c.length+1) N 1 c.length x .i64 zO;refine zW (dj d e w j m q) ?_;refine iteH.split (fun ha=>?_) fun ha=>?_
  ·have p:a=0:=zO;subst p;refine zW (aO d e j e') ?_;refine ⟨zK,c.length,zO,rfl,?_,zO⟩;rw [u,<- g,h0,eQ]
  ·have o:a≠0:=zO;refine zW (aE d e) ?_;refine AnsH.eq (iQ C zF zO) fun H2 h2=>?_;have k2:Kp H H2:=Kp.trans zK h2;have y:=k2.le;rw [<- g,h0,jp o];refine zW (aE d @List.length_append.{0}) ?_;exact zK
def OU (C:Code tab) (hw:Wf H) {a:AV} {x k:Nat} (ha:bO H a x) (hx:Sm x) (hk:k<=65536) :
  Ans tab (.fn BH [a,.int .i64 (k:Int)]) H fun v H'=>∃ o,v=.tup [o,.int .i64 0]/\bO H' o (x*2^k)/\Kp H H'/\∃ b E,o=.own b 0 (ah (x*2^k)).length (ah (x*2^k)).length 1 true/\H'.get b=some (.cells (aN (ah (x*2^k)++E)) ae true)/\H.next<=b/\(ah (x*2^k)++E).length=k / 64+(ah x).length+1/\Lim (ah (x*2^k)++E):=by
 refine bA C.q182 zU fun T hl d f=>?_;refine zW (aD hl d f) ?_;refine AnsH.eq (Dx C zF (ha.mono (zG H)) hx hk) fun H2 af=>?_;obtain ⟨k2,_,w2⟩:=zT H zK af;have n2:=k2.le;unfold Sm at hx;have V:=OD (k:=k) (c:=64) zO zO;have hr:=OB (k:=k) (c:=64) zO;obtain ⟨q,eq⟩:∃ q,q=k / 64:=⟨_,rfl⟩
 obtain ⟨r,er⟩:∃ r,r=k % 64:=⟨_,rfl⟩
 rw [<- eq] at V;rw [<- er] at hr;have W:bY .quo .int (.int .i64 (k:Int)) (.int .i64 64)=some (.int .i64 (q:Int)):=V;have am:bY .rem .int (.int .i64 (k:Int)) (.int .i64 64)=some (.int .i64 (r:Int)):=hr;have ao:IntKind.i64.wrap ((q:Int)+((ah x).length:Int))=((q+(ah x).length:Nat):Int):=by rw [wrap_i64] <;> omega
 obtain ⟨N,hN⟩:∃ N,q+(ah x).length+1=N:=⟨_,rfl⟩
 have ap:IntKind.i64.wrap (((q+(ah x).length:Nat):Int)+1)=(N:Int):=by rw [wrap_i64] <;> omega
 have al:∀ H' id,Ja H' id ae 1 8 [.int .u64 0] (.int .i64 (N:Int)) (.int .i64 (N:Int))=some (.own id 0 N N 1 true,H'.put id (.cells (aN (List.replicate N 0)) ae true)):=fun H' id =>
  (iS H' id ae 1 8 [.int .u64 0] .i64 .i64 N zO zO rfl).trans (by rw [mX])
 refine zW (fX hl d f ha.lenV W ao ap al) ?_;have y:r<64:=zO;have ag:k=64*q+r:=zO;have Y:∀ j,(List.replicate N 0).getD j 0=0:=fun j=>by simp [iF,XG]; split <;> rfl
 refine aq H [] (fun i vs H'=>∃ out,H'.get (H2.next+8)=some (.cells (aN out) ae true)/\out.length=N/\Lim out/\val out=B^q*2^r*val ((ah x).take i)/\out.getD (q+i) 0<2^r/\∀ j,q+i<j->out.getD j 0=0) (a:=0) (N:=(ah x).length) rfl (by refine zW (aD hl d f) ?_; rfl) (zV (aD hl d f)) (xq _) zO (by simp only [dz,hl]; rfl) rfl (fun _ _ _ _ h=>h) zK
  ⟨List.replicate N 0,by exact cC,by simp,Lim.replicate N,by rw [tg]; simp [val],by rw [Y]; exact Pm zU,fun j _=>Y j⟩ ?_ ?_
 ·rintro i T1 Z _ hi g O z t ⟨out,b6,A,u,hval,S,hz⟩;simp only [dz,hl] at g;have w1:=t.wf;have av:=t.le;have D:ad T1 7=.own (H2.next+8) 0 N N 1 true:=(z.at_ 7 zU).trans (zV (aD hl d f));have t1:ad T1 1=.int .i64 (k:Int):=(z.at_ 1 zU).trans (zV (aO hl d f f));have t25:ad T1 25=a:=(z.at_ 25 zU).trans (zV (aE hl d));have ab:=SlV.idx1 ha .i64 i hi;have aj:=fM (ha.mono t.sub) hi;have X:=(aY x).at i;have K:2^r<B:=by unfold B; exact ZP (m:=r) (n:=64) zO y
  have hs:=HP y (k:=.i64);refine zW (jU g D t1 t25 O ab aj am hs) ?_;refine AnsH.use (qw C zF X K) ?_;rintro v H3 ⟨rfl,P⟩;obtain ⟨k3,_,w3⟩:=zT H zK P;have d6:=P.get (b:=H2.next+8) b6;have aw:=k3.wf _ _ d6;have ar:IntKind.i64.wrap ((q:Int)+(i:Int))=((q+i:Nat):Int):=by rw [wrap_i64] <;> omega
  have au:IntKind.i64.wrap (((q+i:Nat):Int)+1)=((q+i+1:Nat):Int):=by rw [wrap_i64] <;> omega
  have U:=xv (a:=out.getD (q+i) 0) (b:=(ah x).getD i 0*2^r % B) (u.at _) (XD _ zU);rw [Iz y,EY S] at U;rw [Iz y];refine zW (oK g D t1 t25 O W ar au d6 U) ?_;have I:=Iz (x:=(ah x).getD i 0) y;have M:=S8 (r:=r) X;have L:=XP ((ah x).getD i 0*2^r) B;have R:out.getD (q+i) 0+(ah x).getD i 0*2^r % B<B:=by
   rw [I];have J:out.getD (q+i) 0 ||| 2^r*((ah x).getD i 0 % 2^(64-r))<2^64:=Nat.or_lt_two_pow (u.at _) (by rw [<- I]; exact XD _ zU)
   rw [EY S] at J; exact J
  rw [I] at L R
  generalize (ah x).getD i 0*2^r / B=w at *
  have h1:=jl (l:=out) (k:=q+i) (v:=out.getD (q+i) 0+2^r*((ah x).getD i 0 % 2^(64-r))) zO;have h2:=jl (l:=out.set (q+i) (out.getD (q+i) 0+2^r*((ah x).getD i 0 % 2^(64-r)))) (k:=q+i+1) (v:=w) (by simp; omega);rw [bw zO,hz (q+i+1) zO] at h2;refine ⟨zK,_,rfl,by simp [A],kM (kM u R) (Nat.lt_trans M K),?_,?_,fun j hj=>?_⟩
  ·rw [db,XH,<- hval];have h3:B^q*2^r*(B^i*(ah x).getD i 0)=B^(q+i)*((ah x).getD i 0*2^r):=by rw [Th]; grind
   rw [h3,<- L,XH];have h4:B^(q+i+1)*w=B^(q+i)*(B*w):=by rw [Rb,Se]
   rw [XH] at h1;rw [h4] at h2;have aa:q+(i+1)=q+i+1:=zO;rw [aa];omega
  ·have:(((out.set (q+i) (out.getD (q+i) 0+2^r*((ah x).getD i 0 % 2^(64-r)))).set (q+(i+1)) w).getD (q+(i+1)) 0)=w:=by
    rw [iF,YX,if_pos rfl,if_pos (by simp; omega)]; rfl
   rw [this]; exact M
  ·rw [bw zO,bw zO];exact hz j zO
 ·rintro T1 Z g z t ⟨out,b6,A,u,hval,-,-⟩;simp only [dz,hl] at g;have w1:=t.wf;have av:=t.le;have D:ad T1 7=.own (H2.next+8) 0 N N 1 true:=(z.at_ 7 zU).trans (zV (aD hl d f));rw [MU (o0 _),bM] at hval;refine zW (aE g D) ?_;refine AnsH.eq (E5 C zF (rw':=true) A (zV @b6) zO) fun H4 Q=>?_;obtain ⟨k4,_,_⟩:=zT H zK Q;have F:=Q.get (b:=H2.next+8) (e:=.cells (aN out) ae true) (zV @b6);have e:val out=x*2^k:=by
   rw [hval,ag,Th,ZQ]
   have:(2:Nat)^64=B:=by decide
   rw [this,EV]
  have G:=eW u;rw [e] at G;obtain ⟨E,p⟩:=sN out;rw [G] at p;have h4:bO H4 (.own (H2.next+8) 0 (ah (x*2^k)).length (ah (x*2^k)).length 1 true) (x*2^k):=by
   refine ⟨aN (ah (x*2^k)),⟨o0 _,(fun s h=>by cases h),_,rfl,?_⟩,fun _ _ _ _ _ _ e=>by cases e; exact ⟨_,_,F⟩,uX _ _⟩;simp only [aP,F];rw [if_pos ⟨rfl,o0 _,by rw [pf,p]; simp [bU]⟩];rw [p];simp [aN,bU]
  rw [G];refine zW g ?_;exact ⟨_,rfl,h4,zK,_,E,rfl,by rw [F,p],zO,by rw [<- p,A,<- hN,eq,XI],by rw [<- p]; exact u⟩
end
section
variable {tab:Nat->Option aA} {H:Heap} {s:AV} {l:List Nat}
def qk (C:Code tab) (D:Wf H) {l:List Nat} {b N:Nat} {rw' x:Bool} (n:l.length=N) (hb:H.get b=some (.cells (aN l) ae rw')) (A:N<4611686018427387904) :
  Ans tab (.fn uS [.own b 0 N N 1 x]) H fun v H'=>v=.own b 0 (fc l).length (fc l).length 1 true/\Kp H H':=by
 refine cT C.q186 zU fun T hl i=>?_;refine zW (aE hl i) ?_;refine cu H [0] (fun k vs H'=>vs=[.own b 0 k N 1 x]/\fc (l.take k)=fc l/\k<=l.length) l.length (by simp only [dz]; exact hl) rfl zK ⟨by exact zV (aD hl i n),by rw [KO],o0 _⟩ ?_;rintro k T1 z d B f ⟨e,g,r⟩;have w1:=f.wf;have E:=f.le;have m:=f.get hb;simp only [uz,B3,Ae,and_true] at e;rcases YL (l.take k) with h0 | ⟨c,a,h0⟩
 ·have s:k=0:=by
   have:=congrArg List.length h0; simp at this
   rcases this with h | h
   ·exact h
   ·subst h; simpa using r
  subst s;refine zW (aD d e @PL) ?_;refine AnsH.eq (iQ C zF (xq _)) fun H2 h2=>?_;have k2:Kp H H2:=Kp.trans zK h2;have y:=k2.le;rw [<- g,h0,xJ];refine zW d ?_;exact zK
 ·rw [YM] at h0;have t:k=c.length+1:=by have:=congrArg List.length h0; simp at this; omega
  subst t;have u:l.take c.length=c:=by
   have:=congrArg (List.take c.length) h0
   rw [YW,XO zO] at this
   simpa using this
  have q:l.getD c.length 0=a:=by
   have this:(l.take (c.length+1)).getD c.length 0=(c++[a]).getD c.length 0:=by rw [h0]
   rw [iF,Gy,if_pos zO,<- iF] at this;rw [this]; simp [iF]
  have j:IntKind.i64.wrap (((c.length+1:Nat):Int)-1)=(c.length:Int):=by rw [wrap_i64] <;> omega
  have w:0<c.length+1:=zO;have e':=IX b 0 (c.length+1) N 1 c.length x .i64 zO;refine zW (dj d e w j m q) ?_;refine iteH.split (fun ha=>?_) fun ha=>?_
  ·have p:a=0:=zO;subst p;refine zW (aO d e j e') ?_;refine ⟨zK,c.length,zO,rfl,?_,zO⟩;rw [u,<- g,h0,eQ]
  ·have o:a≠0:=zO;refine zW (aE d e) ?_;refine AnsH.eq (iQ C zF zO) fun H2 h2=>?_;have k2:Kp H H2:=Kp.trans zK h2;have y:=k2.le;rw [<- g,h0,jp o];refine zW (aE d @List.length_append.{0}) ?_;exact zK
def EX {H:Heap} {b:Nat} {l E:List Nat} {rw' x:Bool} (hb:H.get b=some (.cells (aN (l++E)) ae rw')):Lb H (.own b 0 l.length l.length 1 x) l:=by
 refine ⟨aN l,⟨o0 _,(fun s h=>by cases h),_,rfl,?_⟩,fun _ _ _ _ _ _ e=>by cases e; exact ⟨_,_,hb⟩,uX _ _⟩;simp only [aP,hb];rw [if_pos ⟨rfl,o0 _,by rw [pf]; simp [bU]⟩];simp [aN,bU]
def B7 (C:Code tab) (q:Wf H) {ls:List (List Nat)} {ty:Nat} (hs:AD (tT (bU gg) ae) ty H s ls) (p:ls.length<4611686018427387904) (hc:∀ c∈ls,c.length<4611686018427387904/\c.getLast? ≠ some 0) :
  Ans tab (.fn oE [s]) H fun v H'=>v=.int .i64 0/\Kp H H':=by
 refine cT C.q176 zU fun T hl d=>?_;refine zW (aD hl d hs.lenV) ?_;refine aq H [] (fun _ _ _=>True) (a:=0) (N:=ls.length) rfl (by refine zW (aE hl d) ?_; rfl) (zV (aE hl d)) (xq _) zO (by simp only [dz,hl]; rfl) rfl (fun _ _ _ _ h=>h) zK trivial ?_ ?_
 ·intro j T1 i _ hj b l g e _;have w1:=e.wf;have r:=e.le;have o:ad T1 6=s:=(g.at_ 6 zU).trans (zV (aE hl d));obtain ⟨c,k,n⟩:=SlV.at1 (hs.mono e.sub) (eA hj);have m:=SlV.idx1 hs .i64 j hj;have f:=hc _ (mQ hj);simp only [dz,hl] at b;refine zW (bB b o l m n) ?_;refine AnsH.eq (oZ C zF k f.1) fun H2 h2=>?_;rw [if_neg f.2];refine zW b ?_;have k2:Kp H H2:=Kp.trans zK h2;have t:=k2.le;exact zK
 ·intro T1 i b g e _;simp only [dz,hl] at b;refine zW b ?_;exact zK
end
def Xq (v i:AV):Option AV:=aS (fun s=>match s with | .t 0=>v | _=>i) (.indexStr (.t 0) (.t 1))
def dl {tab:Nat->Option aA} (ev:Src->AV) (H:Heap) (id:Nat) (Q:AV->Heap->Prop) (x i:Src):nj tab ev H id (.indexStr x i) Q=ii (Xq (ev x) (ev i)) (fun v=>Q v H) ():=by
 rw [co,eP tab ev H id Q (o:=.indexStr x i) (v:=Xq (ev x) (ev i)) (fun f a e=>by cases e) (by simp only [aS,Xq]) rfl]; rfl
def R8 {a b:Nat} (ha:a<18446744073709551616) (hb:0<b):bY .quo .int (.int .u64 (a:Int)) (.int .u64 (b:Int))=some (.int .u64 ((a / b:Nat):Int)):=by
 show (if (b:Int)=0 then none else some (AV.int .u64 (IntKind.u64.wrap ((a:Int).tdiv (b:Int)))))=_;have c:a / b<=a:=Zf _ _;rw [if_neg zO,ZO zO,<- Int.natCast_ediv]
 generalize a / b=d at c ⊢
 rw [gH zO zO]
def Ut {a b:Nat} (hb:0<b):bY .rem .int (.int .u64 (a:Int)) (.int .u64 (b:Int))=some (.int .u64 ((a % b:Nat):Int)):=by
 show (if (b:Int)=0 then none else some (AV.int .u64 ((a:Int).tmod (b:Int))))=_;rw [if_neg zO,Int.tmod_eq_emod_of_nonneg zO,<- Int.natCast_emod]
def tD {x r:Nat} (hr:r<=64) {k:IntKind}:bY .shl .int (.int .u64 (x:Int)) (.int k (r:Int))=some (.int .u64 ((x*2^r % B:Nat):Int)):=by
 show lz .shl .u64 (x:Int) (r:Int)=_;unfold lz;rw [if_neg zO];have h1:Nat.min (r:Int).toNat IntKind.u64.bits=r:=by
  have:IntKind.u64.bits=64:=rfl
  rw [this,YJ]; exact XO hr
 have e:(x:Int)*2^r=((x*2^r:Nat):Int):=by simp
 simp only [h1,e];rw [kO];rfl
def CO {a b:Nat} (hb:b<=64) {k:IntKind}:bY .shr .int (.int .u64 (a:Int)) (.int k (b:Int))=some (.int .u64 ((a / 2^b:Nat):Int)):=by
 show lz .shr .u64 (a:Int) (b:Int)=_;unfold lz;rw [if_neg zO];have h1:Nat.min (b:Int).toNat IntKind.u64.bits=b:=by
  have:IntKind.u64.bits=64:=rfl
  rw [this,YJ]; exact XO hb
 simp only [h1];congr 2;rw [Int.fdiv_eq_ediv_of_nonneg _ (YF (Int.pow_pos zO))]
 simp
def rh (a:Nat):bY .shr .int (.int .u64 (a:Int)) (.int .u64 16)=some (.int .u64 ((a / 65536:Nat):Int)):=tC a 16 zO
def Bh (a:Nat):bY .shr .int (.int .u64 (a:Int)) (.int .u64 8)=some (.int .u64 ((a / 256:Nat):Int)):=tC a 8 zO
def UD:AV:=.str ⟨#[0,1,2,2,3,3,3,3,4,4,4,4,4,4,4,4,5,5,5,5,5,5,5,5,5,5,5,5,5,5,5,5,6,6,6,6,6,6,6,6,6,6,6,6,6,6,6,6,6,6,6,6,6,6,6,6,6,6,6,6,6,6,6,6,7,7,7,7,7,7,7,7,7,7,7,7,7,7,7,7,7,7,7,7,7,7,7,7,7,7,7,7,7,7,7,7,7,7,7,7,7,7,7,7,7,7,7,7,7,7,7,7,7,7,7,7,7,7,7,7,7,7,7,7,7,7,7,7,8,8,8,8,8,8,8,8,8,8,8,8,8,8,8,8,8,8,8,8,8,8,8,8,8,8,8,8,8,8,8,8,8,8,8,8,8,8,8,8,8,8,8,8,8,8,8,8,8,8,8,8,8,8,8,8,8,8,8,8,8,8,8,8,8,8,8,8,8,8,8,8,8,8,8,8,8,8,8,8,8,8,8,8,8,8,8,8,8,8,8,8,8,8,8,8,8,8,8,8,8,8,8,8,8,8,8,8,8,8,8,8,8,8,8,8,8,8,8,8,8,8,8,8,8,8,8,8]⟩
def Pa (x:Nat):Bool:=match Xq UD (.int .u8 (x:Int)) with
 | some (.int .u8 z)=>decide (0<=z/\z.toNat<=8/\x<2^z.toNat/\(x=0\/(1<=z.toNat/\2^(z.toNat-1)<=x)))
 | _=>false
theorem Pb:(List.range 256).all Pa=true:=by kernel_rfl
def Ms {x:Nat} (hx:x<256):∃ L:Nat,Xq UD (.int .u8 (x:Int))=some (.int .u8 (L:Int))/\L<=8/\x<2^L/\(x=0\/(1<=L/\2^(L-1)<=x)):=by
 have h:=GR.1 Pb x (XU.2 hx);unfold Pa at h;split at h
 ·rename_i z e;simp only [decide_eq_true_eq] at h;obtain ⟨h0,h1,h2,h3⟩:=h;refine ⟨z.toNat,?_,h1,h2,h3⟩;rw [e,Int.toNat_of_nonneg h0]
 ·cases h
def O9 {w k L x:Nat} (hx:w / 2^k=x) (h1:x<2^L) (h2:1<=L) (h3:2^(L-1)<=x):w<2^(k+L)/\2^(k+L-1)<=w:=by
 subst hx;refine ⟨?_,?_⟩
 ·have:=(Jr (Pm zU)).1 h1
  rw [Th,EV]; exact this
 ·have:=(Nat.le_div_iff_mul_le (Pm zU)).1 h3
  have e:k+L-1=(L-1)+k:=zO;rw [e,Th]; exact this
section
variable {tab:Nat->Option aA} {H:Heap} {s:AV} {l:List Nat}
set_option maxRecDepth 20000 in
def JN (C:Code tab) (o:Wf H) {w:Nat} (h0:0<w) (j:w<18446744073709551616) :
  Ans tab (.fn jv [.int .u64 (w:Int)]) H fun v H'=>(∃ L:Nat,v=.int .i64 (L:Int)/\1<=L/\L<=64/\w<2^L/\2^(L-1)<=w)/\Kp H H':=by
 refine cT C.q190 zU fun T hl f=>?_;have fin:∀ (k x:Nat),x<256->k<=56->w / 2^k=x->0<x->∃ L:Nat,Xq (.str ⟨#[0,1,2,2,3,3,3,3,4,4,4,4,4,4,4,4,5,5,5,5,5,5,5,5,5,5,5,5,5,5,5,5,6,6,6,6,6,6,6,6,6,6,6,6,6,6,6,6,6,6,6,6,6,6,6,6,6,6,6,6,6,6,6,6,7,7,7,7,7,7,7,7,7,7,7,7,7,7,7,7,7,7,7,7,7,7,7,7,7,7,7,7,7,7,7,7,7,7,7,7,7,7,7,7,7,7,7,7,7,7,7,7,7,7,7,7,7,7,7,7,7,7,7,7,7,7,7,7,8,8,8,8,8,8,8,8,8,8,8,8,8,8,8,8,8,8,8,8,8,8,8,8,8,8,8,8,8,8,8,8,8,8,8,8,8,8,8,8,8,8,8,8,8,8,8,8,8,8,8,8,8,8,8,8,8,8,8,8,8,8,8,8,8,8,8,8,8,8,8,8,8,8,8,8,8,8,8,8,8,8,8,8,8,8,8,8,8,8,8,8,8,8,8,8,8,8,8,8,8,8,8,8,8,8,8,8,8,8,8,8,8,8,8,8,8,8,8,8,8,8,8,8,8,8,8,8]⟩) (.int .u8 (IntKind.u8.wrap (x:Int)))=some (.int .u8 (L:Int))/\IntKind.i64.wrap (L:Int)=(L:Int)/\IntKind.i64.wrap ((k:Int)+(L:Int))=((k+L:Nat):Int)/\1<=k+L/\k+L<=64/\w<2^(k+L)/\2^(k+L-1)<=w:=by
  intro k x hx l he m;obtain ⟨L,g,i,e3,h⟩:=Ms hx;obtain ⟨h1,h2⟩:=h.resolve_left zO;have e5:IntKind.u8.wrap (x:Int)=(x:Int):=by
   show (x:Int) % 256=x;omega
  obtain ⟨h3,h4⟩:=O9 he e3 h1 h2;refine ⟨L,by rw [e5]; exact g,by rw [wrap_i64] <;> omega,by rw [wrap_i64] <;> omega,zO,zO,h3,h4⟩
 have a:∀ n:Nat,n<100->IntKind.i64.wrap (n:Int)=(n:Int):=fun n hn=>by rw [wrap_i64] <;> omega
 simp -dsimp (maxSteps:=1000000) (disch:=(first | omega | assumption | exact ai _ | exact bo _ _ | exact bH | exact cY _ _ _ | exact b9 _ _ | exact bT _ _ _ _ _ _ | exact dm _ _ | exact cz _)) only [↓yM,yL,Nat.reduceLT,Nat.reduceEqDiff,Nat.reduceAdd,reduceIte,reduceCtorEq,Nat.reduceBEq,Int.reduceEq,Int.reduceLT,Int.reduceLE,Int.reduceAdd,Int.reduceSub,hl,f,rh,Bh,↓dl];refine iteH.split (fun h1=>?_) fun h1=>?_
 all_goals
  simp -dsimp (maxSteps:=1000000) (disch:=(first | omega | assumption | exact ai _ | exact bo _ _ | exact bH | exact cY _ _ _ | exact b9 _ _ | exact bT _ _ _ _ _ _ | exact dm _ _ | exact cz _)) only [↓yM,yL,Nat.reduceLT,Nat.reduceEqDiff,Nat.reduceAdd,reduceIte,reduceCtorEq,Nat.reduceBEq,Int.reduceEq,Int.reduceLT,Int.reduceLE,Int.reduceAdd,Int.reduceSub,hl,f,rh,Bh,↓dl];refine iteH.split (fun h2=>?_) fun h2=>?_
 all_goals
  simp -dsimp (maxSteps:=1000000) (disch:=(first | omega | assumption | exact ai _ | exact bo _ _ | exact bH | exact cY _ _ _ | exact b9 _ _ | exact bT _ _ _ _ _ _ | exact dm _ _ | exact cz _)) only [↓yM,yL,Nat.reduceLT,Nat.reduceEqDiff,Nat.reduceAdd,reduceIte,reduceCtorEq,Nat.reduceBEq,Int.reduceEq,Int.reduceLT,Int.reduceLE,Int.reduceAdd,Int.reduceSub,hl,f,rh,Bh,↓dl];refine iteH.split (fun h3=>?_) fun h3=>?_
 ·have he:w / 2^56=w / 4294967296 / 65536 / 256:=zO;obtain ⟨L,f1,b,f3,d,f5,f6,e⟩:=fin 56 (w / 4294967296 / 65536 / 256) zO zO he zO;have c:IntKind.i64.wrap (56+(L:Int))=((56+L:Nat):Int):=by rw [wrap_i64] <;> omega
  simp -dsimp (maxSteps:=1000000) (disch:=(first | omega | assumption | exact ai _ | exact bo _ _ | exact bH | exact cY _ _ _ | exact b9 _ _ | exact bT _ _ _ _ _ _ | exact dm _ _ | exact cz _)) only [↓yM,yL,Nat.reduceLT,Nat.reduceEqDiff,Nat.reduceAdd,reduceIte,reduceCtorEq,Nat.reduceBEq,Int.reduceEq,Int.reduceLT,Int.reduceLE,Int.reduceAdd,Int.reduceSub,hl,f,rh,Bh,↓dl,f1,b,c,(show IntKind.i64.wrap 16=16 from a 16 zO),(show IntKind.i64.wrap 40=40 from a 40 zO),(show IntKind.i64.wrap 48=48 from a 48 zO),(show IntKind.i64.wrap 56=56 from a 56 zO),(show IntKind.i64.wrap 24=24 from a 24 zO),(show IntKind.i64.wrap 8=8 from a 8 zO)];exact ⟨⟨56+L,rfl,d,f5,f6,e⟩,zK⟩
 ·have he:w / 2^48=w / 4294967296 / 65536:=zO;obtain ⟨L,f1,b,f3,d,f5,f6,e⟩:=fin 48 (w / 4294967296 / 65536) zO zO he zO;have c:IntKind.i64.wrap (48+(L:Int))=((48+L:Nat):Int):=by rw [wrap_i64] <;> omega
  simp -dsimp (maxSteps:=1000000) (disch:=(first | omega | assumption | exact ai _ | exact bo _ _ | exact bH | exact cY _ _ _ | exact b9 _ _ | exact bT _ _ _ _ _ _ | exact dm _ _ | exact cz _)) only [↓yM,yL,Nat.reduceLT,Nat.reduceEqDiff,Nat.reduceAdd,reduceIte,reduceCtorEq,Nat.reduceBEq,Int.reduceEq,Int.reduceLT,Int.reduceLE,Int.reduceAdd,Int.reduceSub,hl,f,rh,Bh,↓dl,f1,b,c,(show IntKind.i64.wrap 16=16 from a 16 zO),(show IntKind.i64.wrap 40=40 from a 40 zO),(show IntKind.i64.wrap 48=48 from a 48 zO),(show IntKind.i64.wrap 56=56 from a 56 zO),(show IntKind.i64.wrap 24=24 from a 24 zO),(show IntKind.i64.wrap 8=8 from a 8 zO)];exact ⟨⟨48+L,rfl,d,f5,f6,e⟩,zK⟩
 ·have he:w / 2^40=w / 4294967296 / 256:=zO;obtain ⟨L,f1,b,f3,d,f5,f6,e⟩:=fin 40 (w / 4294967296 / 256) zO zO he zO;have c:IntKind.i64.wrap (40+(L:Int))=((40+L:Nat):Int):=by rw [wrap_i64] <;> omega
  simp -dsimp (maxSteps:=1000000) (disch:=(first | omega | assumption | exact ai _ | exact bo _ _ | exact bH | exact cY _ _ _ | exact b9 _ _ | exact bT _ _ _ _ _ _ | exact dm _ _ | exact cz _)) only [↓yM,yL,Nat.reduceLT,Nat.reduceEqDiff,Nat.reduceAdd,reduceIte,reduceCtorEq,Nat.reduceBEq,Int.reduceEq,Int.reduceLT,Int.reduceLE,Int.reduceAdd,Int.reduceSub,hl,f,rh,Bh,↓dl,f1,b,c,(show IntKind.i64.wrap 16=16 from a 16 zO),(show IntKind.i64.wrap 40=40 from a 40 zO),(show IntKind.i64.wrap 48=48 from a 48 zO),(show IntKind.i64.wrap 56=56 from a 56 zO),(show IntKind.i64.wrap 24=24 from a 24 zO),(show IntKind.i64.wrap 8=8 from a 8 zO)];exact ⟨⟨40+L,rfl,d,f5,f6,e⟩,zK⟩
 ·have he:w / 2^32=w / 4294967296:=zO;obtain ⟨L,f1,b,f3,d,f5,f6,e⟩:=fin 32 (w / 4294967296) zO zO he zO;have c:IntKind.i64.wrap (32+(L:Int))=((32+L:Nat):Int):=by rw [wrap_i64] <;> omega
  simp -dsimp (maxSteps:=1000000) (disch:=(first | omega | assumption | exact ai _ | exact bo _ _ | exact bH | exact cY _ _ _ | exact b9 _ _ | exact bT _ _ _ _ _ _ | exact dm _ _ | exact cz _)) only [↓yM,yL,Nat.reduceLT,Nat.reduceEqDiff,Nat.reduceAdd,reduceIte,reduceCtorEq,Nat.reduceBEq,Int.reduceEq,Int.reduceLT,Int.reduceLE,Int.reduceAdd,Int.reduceSub,hl,f,rh,Bh,↓dl,f1,b,c,(show IntKind.i64.wrap 16=16 from a 16 zO),(show IntKind.i64.wrap 40=40 from a 40 zO),(show IntKind.i64.wrap 48=48 from a 48 zO),(show IntKind.i64.wrap 56=56 from a 56 zO),(show IntKind.i64.wrap 24=24 from a 24 zO),(show IntKind.i64.wrap 8=8 from a 8 zO)];exact ⟨⟨32+L,rfl,d,f5,f6,e⟩,zK⟩
 ·have he:w / 2^24=w / 65536 / 256:=zO;obtain ⟨L,f1,b,f3,d,f5,f6,e⟩:=fin 24 (w / 65536 / 256) zO zO he zO;have c:IntKind.i64.wrap (24+(L:Int))=((24+L:Nat):Int):=by rw [wrap_i64] <;> omega
  simp -dsimp (maxSteps:=1000000) (disch:=(first | omega | assumption | exact ai _ | exact bo _ _ | exact bH | exact cY _ _ _ | exact b9 _ _ | exact bT _ _ _ _ _ _ | exact dm _ _ | exact cz _)) only [↓yM,yL,Nat.reduceLT,Nat.reduceEqDiff,Nat.reduceAdd,reduceIte,reduceCtorEq,Nat.reduceBEq,Int.reduceEq,Int.reduceLT,Int.reduceLE,Int.reduceAdd,Int.reduceSub,hl,f,rh,Bh,↓dl,f1,b,c,(show IntKind.i64.wrap 16=16 from a 16 zO),(show IntKind.i64.wrap 40=40 from a 40 zO),(show IntKind.i64.wrap 48=48 from a 48 zO),(show IntKind.i64.wrap 56=56 from a 56 zO),(show IntKind.i64.wrap 24=24 from a 24 zO),(show IntKind.i64.wrap 8=8 from a 8 zO)];exact ⟨⟨24+L,rfl,d,f5,f6,e⟩,zK⟩
 ·have he:w / 2^16=w / 65536:=zO;obtain ⟨L,f1,b,f3,d,f5,f6,e⟩:=fin 16 (w / 65536) zO zO he zO;have c:IntKind.i64.wrap (16+(L:Int))=((16+L:Nat):Int):=by rw [wrap_i64] <;> omega
  simp -dsimp (maxSteps:=1000000) (disch:=(first | omega | assumption | exact ai _ | exact bo _ _ | exact bH | exact cY _ _ _ | exact b9 _ _ | exact bT _ _ _ _ _ _ | exact dm _ _ | exact cz _)) only [↓yM,yL,Nat.reduceLT,Nat.reduceEqDiff,Nat.reduceAdd,reduceIte,reduceCtorEq,Nat.reduceBEq,Int.reduceEq,Int.reduceLT,Int.reduceLE,Int.reduceAdd,Int.reduceSub,hl,f,rh,Bh,↓dl,f1,b,c,(show IntKind.i64.wrap 16=16 from a 16 zO),(show IntKind.i64.wrap 40=40 from a 40 zO),(show IntKind.i64.wrap 48=48 from a 48 zO),(show IntKind.i64.wrap 56=56 from a 56 zO),(show IntKind.i64.wrap 24=24 from a 24 zO),(show IntKind.i64.wrap 8=8 from a 8 zO)];exact ⟨⟨16+L,rfl,d,f5,f6,e⟩,zK⟩
 ·have he:w / 2^8=w / 256:=zO;obtain ⟨L,f1,b,f3,d,f5,f6,e⟩:=fin 8 (w / 256) zO zO he zO;have c:IntKind.i64.wrap (8+(L:Int))=((8+L:Nat):Int):=by rw [wrap_i64] <;> omega
  simp -dsimp (maxSteps:=1000000) (disch:=(first | omega | assumption | exact ai _ | exact bo _ _ | exact bH | exact cY _ _ _ | exact b9 _ _ | exact bT _ _ _ _ _ _ | exact dm _ _ | exact cz _)) only [↓yM,yL,Nat.reduceLT,Nat.reduceEqDiff,Nat.reduceAdd,reduceIte,reduceCtorEq,Nat.reduceBEq,Int.reduceEq,Int.reduceLT,Int.reduceLE,Int.reduceAdd,Int.reduceSub,hl,f,rh,Bh,↓dl,f1,b,c,(show IntKind.i64.wrap 16=16 from a 16 zO),(show IntKind.i64.wrap 40=40 from a 40 zO),(show IntKind.i64.wrap 48=48 from a 48 zO),(show IntKind.i64.wrap 56=56 from a 56 zO),(show IntKind.i64.wrap 24=24 from a 24 zO),(show IntKind.i64.wrap 8=8 from a 8 zO)];exact ⟨⟨8+L,rfl,d,f5,f6,e⟩,zK⟩
 ·have he:w / 2^0=w:=zO;obtain ⟨L,f1,b,f3,d,f5,f6,e⟩:=fin 0 (w) zO zO he zO;have c:IntKind.i64.wrap (0+(L:Int))=((0+L:Nat):Int):=by rw [wrap_i64] <;> omega
  simp -dsimp (maxSteps:=1000000) (disch:=(first | omega | assumption | exact ai _ | exact bo _ _ | exact bH | exact cY _ _ _ | exact b9 _ _ | exact bT _ _ _ _ _ _ | exact dm _ _ | exact cz _)) only [↓yM,yL,Nat.reduceLT,Nat.reduceEqDiff,Nat.reduceAdd,reduceIte,reduceCtorEq,Nat.reduceBEq,Int.reduceEq,Int.reduceLT,Int.reduceLE,Int.reduceAdd,Int.reduceSub,hl,f,rh,Bh,↓dl,f1,b,c,(show IntKind.i64.wrap 16=16 from a 16 zO),(show IntKind.i64.wrap 40=40 from a 40 zO),(show IntKind.i64.wrap 48=48 from a 48 zO),(show IntKind.i64.wrap 56=56 from a 56 zO),(show IntKind.i64.wrap 24=24 from a 24 zO),(show IntKind.i64.wrap 8=8 from a 8 zO)];exact ⟨⟨0+L,by rw [RO],d,f5,f6,e⟩,zK⟩
def Eg (C:Code tab) (f:Wf H) {w:Nat} (h0:0<w) (b:w<18446744073709551616) :
  Ans tab (.fn dN [.int .u64 (w:Int)]) H fun v H'=>(∃ z:Nat,v=.int .i64 (z:Int)/\z<64/\w*2^z<18446744073709551616/\9223372036854775808<=w*2^z)/\Kp H H':=by
 refine cT C.q181 zU fun T hl a=>?_;refine zW (aE hl a) ?_;refine AnsH.use (JN C zF h0 b) ?_;rintro v H2 ⟨⟨L,rfl,h1,h2,h3,h4⟩,c⟩;obtain ⟨k2,_,_⟩:=zT H zK c;have d:IntKind.i64.wrap (64-(L:Int))=((64-L:Nat):Int):=by rw [wrap_i64] <;> omega
 refine zW (aD hl a d) ?_;refine ⟨⟨64-L,rfl,zO,?_,?_⟩,zK⟩
 ·have:=YT h3 (Pm (n:=64-L) (show 0<2 by decide))
  rw [<- Th] at this;have e:L+(64-L)=64:=zO;rw [e] at this;exact this
 ·have:=B2 (2^(64-L)) h4
  rw [<- Th] at this;have e:L-1+(64-L)=63:=zO;rw [e] at this;exact this
end
def Same.set {D:List Nat} {T T1:Tm} {i:Nat} {v:AV} (h:Same D T T1) (hi:i∈D):Same D T (T1.set i v) :=
 ⟨by simp [h.len],fun s hs=>by rw [mr _ _ _ _ (fun e=>hs (by rw [<- e]; exact hi))]; exact h.at_ s hs⟩
def Uy (a:Nat):bY .mul .int (.int .u64 (a:Int)) (.int .u64 4294967296)=some (.int .u64 ((a*4294967296 % 18446744073709551616:Nat):Int)):=yD a 4294967296
def Ks (a:Nat):bY .mul .int (.int .u64 4294967296) (.int .u64 (a:Int))=some (.int .u64 ((4294967296*a % 18446744073709551616:Nat):Int)):=yD 4294967296 a
def uG {a:Nat} (h:0<a) (ha:a<18446744073709551616):bY .sub .int (.int .u64 (a:Int)) (.int .u64 1)=some (.int .u64 ((a-1:Nat):Int)):=by
 rw [show (1:Int)=((1:Nat):Int) from rfl,yC a 1 zO];have e:(a+18446744073709551616-1) % 18446744073709551616=a-1:=zO;rw [e]
def sub64 {z:Nat} (h:z<=64):bY .sub .int (.int .u64 64) (.int .u64 (z:Int))=some (.int .u64 ((64-z:Nat):Int)):=by
 rw [show (64:Int)=((64:Nat):Int) from rfl,yC 64 z zO];have e:(64+18446744073709551616-z) % 18446744073709551616=64-z:=zO;rw [e]
def N4 {u n p R:Nat} (h:p+R=u*4294967296+n) (a:R<18446744073709551616):((u*4294967296 % 18446744073709551616+n) % 18446744073709551616+18446744073709551616-p % 18446744073709551616) % 18446744073709551616=R:=zO
section
variable {Y a b u n q r:Nat}
def zq (c:Y=a*4294967296+b) (d:u<Y) (hn:n<4294967296) (e:q*a+r=u) (h:4294967296<=q\/4294967296*r+n<q*b):(u*4294967296+n) / Y<q:=by
 apply (Jr zO).2
 rcases h with h | h
 ·have:=B2 Y h
  omega
 ·have h1:q*Y=(q*a)*4294967296+q*b:=by rw [c,XH,Se]
  rw [h1]
  generalize q*a=p at *
  omega
def my (c:Y=a*4294967296+b) (h0:0<Y) (e:q*a+r=u) (h:q*b<=4294967296*r+n):q<=(u*4294967296+n) / Y:=by
 apply (Nat.le_div_iff_mul_le h0).2
 have h1:q*Y=(q*a)*4294967296+q*b:=by rw [c,XH,Se]
 rw [h1]
 generalize q*a=p at *
 omega
def nJ (hb:b<4294967296) (a:q<=4294967296) (hr:4294967296<=r):q*b<=4294967296*r+n:=by
 have h1:q*b<=4294967296*4294967295:=X0 a zO;omega
def zp (c:Y=a*4294967296+b) (hb:b<4294967296) (ha:2147483648<=a) (d:u<Y) (hn:n<4294967296):u / a<=4294967297/\(u*4294967296+n) / Y<=u / a:=by
 have h0:0<a:=zO;have e:=XP u a;have hr:u % a<a:=XD _ h0;rw [EV] at e;refine ⟨?_,?_⟩
 ·apply Zp
  apply (Jr h0).2
  omega
 ·apply Zp
  apply (Jr zO).2
  have h1:(u / a+1)*Y=((u / a+1)*a)*4294967296+(u / a+1)*b:=by rw [c,XH,Se]
  have h2:(u / a+1)*a=u / a*a+a:=by rw [XN,ZC]
  rw [Nat.succ_eq_add_one,h1,h2]
  generalize u / a*a=p at *
  omega
end
def mi {tab:Nat->Option aA} {rd:Bool} {id:Nat} {c:ACode} {T:Tm} {H:Heap} {Q:Ex->Tm->Heap->Prop} {L:Nat} (H0:Heap) (d:List Nat) (P:Nat->List AV->Heap->Prop) (R:List AV->Heap->Prop) (m:Nat)
  (hl:T.length=L) (hp:iW c=true) (q:Kp H0 H) (h0:P m (d.map (ad T)) H)
  (hb:∀ k T1 a,T1.length=L->Same (fU c) T T1->Kp H0 a->P k (d.map (ad T1)) a->WC tab rd c T1 a (SM id (fun T2 H2=>Kp H0 H2/\∃ f,f<k/\P f (d.map (ad T2)) H2) (fun x T2 H2=>x=.nrm/\Kp H0 H2/\R (d.map (ad T2)) H2)))
  (he:∀ T1 a,T1.length=L->Same (fU c) T T1->Kp H0 a->R (d.map (ad T1)) a->Q .nrm T1 a):WC tab rd (PQ id c) T H Q:=by
 unfold PQ;refine WB.wcLoop ?_;refine Et (fun k T1 a=>T1.length=L/\Same (fU c) T T1/\Kp H0 a/\P k (d.map (ad T1)) a) ?_ m T H ⟨hl,Same.refl _ _,q,h0⟩;rintro k T1 a ⟨g,i,r,n⟩;refine ((hb k T1 a g i r n).wb.same hp).mono ?_;rintro x T2 H2 ⟨h,b⟩;have j:Same (fU c) T T2:=(i.trans h).wide fun s hs=>by simpa using hs
 cases x with
 | nrm =>
  obtain ⟨t,f,p,o⟩:=b;exact ⟨f,p,h.len.trans g,j,t,o⟩
 | exit e =>
  simp only [SM] at b;show vC id Q (.exit e) T2 H2;simp only [vC];by_cases h1:e=id
  ·rw [if_pos h1] at b ⊢;exact he T2 H2 (h.len.trans g) j b.2.1 b.2.2
  ·rw [if_neg h1] at b;exact absurd b.1 (by simp)
 | goto l=>exact absurd b.1 (by simp)
 | ret=>exact absurd b.1 (by simp)
section
variable {tab:Nat->Option aA} {H:Heap}
set_option maxHeartbeats 1000000 in
def CN (C:Code tab) (hw:Wf H) {hi lo y:Nat} (hy:hi<y) (V:lo<18446744073709551616) (aI:y<18446744073709551616) :
  Ans tab (.fn jw [.int .u64 (hi:Int),.int .u64 (lo:Int),.int .u64 (y:Int)]) H fun v H'=>v=.tup [.int .u64 (((hi*B+lo) / y:Nat):Int),.int .u64 (((hi*B+lo) % y:Nat):Int)]/\Kp H H':=by
 refine lC C.q189 zU fun T hl g i j=>?_;have e0:¬ (y:Int)=0:=zO;have e1:¬ y<=hi:=zO;refine zW (dj hl g i j e0 e1) ?_;refine iteH.split (fun h0=>?_) (fun h0=>?_)
 ·have ax:hi=0:=zO;subst ax;have q1:=R8 (a:=lo) (b:=y) V zO;have q2:=Ut (a:=lo) (b:=y) zO;rw [Z0,RO];refine zW (aO hl g i j) ?_;refine aF ?_;refine zD (dj hl g i j q1 q2) ?_;exact zK
 ·refine zW (aO hl g i j) ?_;refine AnsH.use (Eg C zF zO aI) ?_;rintro v H2 ⟨⟨z,rfl,hz,X,aJ⟩,aB⟩;obtain ⟨k2,_,w⟩:=zT H zK aB;have ay:IntKind.u64.wrap (z:Int)=(z:Int):=gH zO zO;have P:0<2^z:=Pm zU;obtain ⟨Y,K⟩:∃ Y,y*2^z=Y:=⟨_,rfl⟩
  rw [K] at X aJ;have s1:bY .shl .int (.int .u64 (y:Int)) (.int .u64 (z:Int))=some (.int .u64 (Y:Int)):=by rw [tD zO,K,Sl X]
  have s2:=sub64 (z:=z) zO;have af:hi*2^z<18446744073709551616:=Nat.lt_trans (YT hy P) (by rw [K]; exact X);have s3:bY .shl .int (.int .u64 (hi:Int)) (.int .u64 (z:Int))=some (.int .u64 ((hi*2^z:Nat):Int)):=by rw [tD zO,Sl af]
  have s4:bY .shr .int (.int .u64 (lo:Int)) (.int .u64 ((64-z:Nat):Int))=some (.int .u64 ((lo / 2^(64-z):Nat):Int)):=CO zO;have hB:B=2^(64-z)*2^z:=by
   rw [<- Th]; have:64-z+z=64:=zO;rw [this]
  have aC:lo / 2^(64-z)<2^z:=by
   apply (Jr (Pm zU)).2
   rw [EV,<- hB]; exact V
  obtain ⟨u,hu⟩:∃ u,hi*2^z+lo / 2^(64-z)=u:=⟨_,rfl⟩
  have s5:bY .or .int (.int .u64 ((hi*2^z:Nat):Int)) (.int .u64 ((lo / 2^(64-z):Nat):Int))=some (.int .u64 (u:Int)):=by
   rw [xv af (XK (Zf _ _) V),Nat.or_comm,EV hi,EY aC,<- hu,EV hi,Zh]
  obtain ⟨m,hm⟩:∃ m,lo*2^z % B=m:=⟨_,rfl⟩
  have a1:m<18446744073709551616:=by rw [<- hm]; exact XD _ zU
  have s6:bY .shl .int (.int .u64 (lo:Int)) (.int .u64 (z:Int))=some (.int .u64 (m:Int)):=by rw [tD zO,hm]
  have hN:(hi*B+lo)*2^z=u*B+m:=by
   have h1:=XP (lo*2^z) B;rw [hm] at h1;have h2:lo*2^z / B=lo / 2^(64-z):=by rw [hB,Nat.mul_div_mul_right _ _ P]
   rw [h2] at h1;rw [XN,<- h1,<- hu,XN,ZF,EV B];omega
  have ar:u<Y:=by
   have h1:(hi*B+lo)*2^z<y*B*2^z:=by
    refine YT ?_ P
    have:(hi+1)*B<=y*B:=B2 B hy
    rw [XN] at this;unfold B at *; omega
   rw [hN,ZF,K] at h1;unfold B at h1; omega
  obtain ⟨a,ha⟩:∃ a,Y / 4294967296=a:=⟨_,rfl⟩
  obtain ⟨b,hb⟩:∃ b,Y % 4294967296=b:=⟨_,rfl⟩
  obtain ⟨f,aG⟩:∃ f,m / 4294967296=f:=⟨_,rfl⟩
  obtain ⟨c,aD⟩:∃ c,m % 4294967296=c:=⟨_,rfl⟩
  have E:Y=a*4294967296+b:=zO;have L:b<4294967296:=zO;have aa:2147483648<=a:=zO;have ah:f<4294967296:=zO;have ag:c<4294967296:=zO;have aj:∀ x:Nat,x<18446744073709551616->bY .quo .int (.int .u64 (x:Int)) (.int .u64 (a:Int))=some (.int .u64 ((x / a:Nat):Int)):=fun x hx=>R8 hx zO;have ao:∀ x:Nat,x<18446744073709551616->x / a*a % 18446744073709551616=x / a*a/\(x+18446744073709551616-x / a*a) % 18446744073709551616=x % a/\x / a*a+x % a=x:=by
   intro x hx;have h1:=XP x a;rw [EV] at h1
   generalize x / a*a=p at *
   generalize x % a=t at *
   omega
  have qu:=aj u zO;obtain ⟨aN,aP,aQ⟩:=ao u zO;refine zW (Nx hl g i j ay s1 s2 s3 s4 s5 s6 ha hb aG aD qu aN aP) ?_;obtain ⟨U9,U8⟩:=zp E L aa ar ah;have ae:∀ x:Nat,x % a<4294967296:=fun x=>Nat.lt_trans (XD _ zO) zO;refine mi H [15,16] (fun k vs H'=>∃ q r:Nat,vs=[.int .u64 (q:Int),.int .u64 (r:Int)]/\k=q/\q*a+r=u/\(u*4294967296+f) / Y<=q/\q<=4294967297/\r<4294967296) (fun vs H'=>∃ r,vs=[.int .u64 (((u*4294967296+f) / Y:Nat):Int),r]) (u / a) (by simp only [dz]; exact hl) rfl zK ⟨u / a,u % a,by exact zV (aO hl g i j),rfl,aQ,U8,U9,ae u⟩ ?_ ?_
  ·rintro k T1 H1 d A M ⟨q,r,D,U,e,hge,hq,hr⟩;obtain rfl:=U.symm;have w1:=M.wf;have aK:=M.le;simp only [uz,B3,Ae,and_true] at D;obtain ⟨s,vr⟩:=D;have o:ad T1 9=.int .u64 (a:Int):=(A.at_ 9 zU).trans (zV (aO hl g i j));have l:ad T1 10=.int .u64 (b:Int):=(A.at_ 10 zU).trans (zV (aO hl g i j));have un:ad T1 13=.int .u64 (f:Int):=(A.at_ 13 zU).trans (zV (aO hl g i j));have step:4294967296<=q\/4294967296*r+f<q*b->0<q/\(q-1)*a+(r+a)=u/\(u*4294967296+f) / Y<=q-1:=by
    intro h;have h1:=zq E ar ah e h;have h2:0<q:=XK (xq _) h1;refine ⟨h2,?_,ZR h1⟩;have h3:q*a=(q-1)*a+a:=by rw [<- Yn]; congr 1; omega
    omega
   have w:(r+a) % 18446744073709551616=r+a:=zO;by_cases S:4294967296<=q
   ·have F:(4294967296:Int)<=(q:Int):=zO;obtain ⟨p1,p2,p3⟩:=step (.inl S);have z1:=uG (a:=q) p1 zO;refine zW (jU d s vr o l un F z1 w) ?_;refine iteH.split (fun h=>?_) fun h=>?_
    ·refine zW (fX d s vr o l un z1 w) ?_
     have:=my (Y:=Y) E zO p2 (nJ L (q:=q-1) (n:=f) zO zO)
     exact ⟨zK,_,by rw [Y3 this p3]⟩
    ·refine zW (fX d s vr o l un z1 w) ?_;exact ⟨zK,q-1,zO,q-1,r+a,rfl,rfl,p2,p3,zO,zO⟩
   ·have F:¬ (4294967296:Int)<=(q:Int):=zO;have O:q*b % 18446744073709551616=q*b:=by
     apply Sl
     have:q*b<=4294967295*4294967295:=X0 zO zO
     omega
    have m2:4294967296*r % 18446744073709551616=4294967296*r:=zO;have m3:(4294967296*r+f) % 18446744073709551616=4294967296*r+f:=zO;by_cases G:4294967296*r+f<q*b
    ·obtain ⟨p1,p2,p3⟩:=step (.inr G);have z1:=uG (a:=q) p1 zO;refine zW (Ln d s vr o l un F @G O m2 m3 @Ks z1 w) ?_;refine iteH.split (fun h=>?_) fun h=>?_
     ·refine zW (fX d s vr o l un z1 w) ?_
      have:=my (Y:=Y) E zO p2 (nJ L (q:=q-1) (n:=f) zO zO)
      exact ⟨zK,_,by rw [Y3 this p3]⟩
     ·refine zW (fX d s vr o l un z1 w) ?_;exact ⟨zK,q-1,zO,q-1,r+a,rfl,rfl,p2,p3,zO,zO⟩
    ·refine zW (qQ d s vr o l un F @G O m2 m3 @Ks) ?_
     have:=my (Y:=Y) E zO e (Y6 G)
     exact ⟨zK,_,by rw [Y3 this hge]⟩
  ·rintro T1 H1 d A M ⟨r,D⟩;have w1:=M.wf;have aK:=M.le;simp only [uz,B3,Ae,and_true] at D;obtain ⟨Z,-⟩:=D;obtain ⟨q1,W⟩:∃ q1,(u*4294967296+f) / Y=q1:=⟨_,rfl⟩
   obtain ⟨u1,ap⟩:∃ u1,(u*4294967296+f) % Y=u1:=⟨_,rfl⟩
   have d1:=XP (u*4294967296+f) Y;rw [W,ap,EV Y] at d1;have aq:u1<Y:=by rw [<- ap]; exact XD _ zO
   rw [W] at Z;have t2:ad T1 2=.int .u64 (Y:Int):=(A.at_ 2 zU).trans (zV (aO hl g i j));have t8:ad T1 8=.int .u64 (z:Int):=(A.at_ 8 zU).trans (zV (aO hl g i j));have t9:ad T1 9=.int .u64 (a:Int):=(A.at_ 9 zU).trans (zV (aO hl g i j));have R:ad T1 10=.int .u64 (b:Int):=(A.at_ 10 zU).trans (zV (aO hl g i j));have aW:ad T1 11=.int .u64 (u:Int):=(A.at_ 11 zU).trans (zV (aO hl g i j));have aX:ad T1 13=.int .u64 (f:Int):=(A.at_ 13 zU).trans (zV (aO hl g i j));have Q:ad T1 14=.int .u64 (c:Int):=(A.at_ 14 zU).trans (zV (aO hl g i j));have f1:((u*4294967296 % 18446744073709551616+f) % 18446744073709551616+18446744073709551616-q1*Y % 18446744073709551616) % 18446744073709551616=u1:=N4 d1 zO;have aM:=aj u1 zO;obtain ⟨aR,aS,aT⟩:=ao u1 zO;obtain ⟨aU,aV⟩:=zp E L aa aq ag;refine zW (Ln d Z t2 t8 t9 R aW aX Q @Uy f1 aM aR aS) ?_;refine mi H [18,16] (fun k vs H'=>∃ q r:Nat,vs=[.int .u64 (q:Int),.int .u64 (r:Int)]/\k=q/\q*a+r=u1/\(u1*4294967296+c) / Y<=q/\q<=4294967297/\r<4294967296) (fun vs H'=>∃ r,vs=[.int .u64 (((u1*4294967296+c) / Y:Nat):Int),r]) (u1 / a) (by simp only [dz]; exact d) rfl zK ⟨u1 / a,u1 % a,by exact zV d,rfl,aT,aV,aU,ae u1⟩ ?_ ?_
   ·rintro k T2 H3 I J N ⟨q,r,D,U,e,hge,hq,hr⟩;obtain rfl:=U.symm;have w1:=N.wf;have aL:=N.le;simp only [uz,B3,Ae,and_true] at D;obtain ⟨s,vr⟩:=D;have o:ad T2 9=.int .u64 (a:Int):=(J.at_ 9 zU).trans (zV (aO d t9 R Q));have l:ad T2 10=.int .u64 (b:Int):=(J.at_ 10 zU).trans (zV (aO d t9 R Q));have un:ad T2 14=.int .u64 (c:Int):=(J.at_ 14 zU).trans (zV (aO d t9 R Q));have step:4294967296<=q\/4294967296*r+c<q*b->0<q/\(q-1)*a+(r+a)=u1/\(u1*4294967296+c) / Y<=q-1:=by
     intro h;have h1:=zq E aq ag e h;have h2:0<q:=XK (xq _) h1;refine ⟨h2,?_,ZR h1⟩;have h3:q*a=(q-1)*a+a:=by rw [<- Yn]; congr 1; omega
     omega
    have w:(r+a) % 18446744073709551616=r+a:=zO;by_cases S:4294967296<=q
    ·have F:(4294967296:Int)<=(q:Int):=zO;obtain ⟨p1,p2,p3⟩:=step (.inl S);have z1:=uG (a:=q) p1 zO;refine zW (jU I s vr o l un F z1 w) ?_;refine iteH.split (fun h=>?_) fun h=>?_
     ·refine zW (fX I s vr o l un z1 w) ?_
      have:=my (Y:=Y) E zO p2 (nJ L (q:=q-1) (n:=c) zO zO)
      exact ⟨zK,_,by rw [Y3 this p3]⟩
     ·refine zW (fX I s vr o l un z1 w) ?_;exact ⟨zK,q-1,zO,q-1,r+a,rfl,rfl,p2,p3,zO,zO⟩
    ·have F:¬ (4294967296:Int)<=(q:Int):=zO;have O:q*b % 18446744073709551616=q*b:=by
      apply Sl
      have:q*b<=4294967295*4294967295:=X0 zO zO
      omega
     have m2:4294967296*r % 18446744073709551616=4294967296*r:=zO;have m3:(4294967296*r+c) % 18446744073709551616=4294967296*r+c:=zO;by_cases G:4294967296*r+c<q*b
     ·obtain ⟨p1,p2,p3⟩:=step (.inr G);have z1:=uG (a:=q) p1 zO;refine zW (Ln I s vr o l un F @G O m2 m3 @Ks z1 w) ?_;refine iteH.split (fun h=>?_) fun h=>?_
      ·refine zW (fX I s vr o l un z1 w) ?_
       have:=my (Y:=Y) E zO p2 (nJ L (q:=q-1) (n:=c) zO zO)
       exact ⟨zK,_,by rw [Y3 this p3]⟩
      ·refine zW (fX I s vr o l un z1 w) ?_;exact ⟨zK,q-1,zO,q-1,r+a,rfl,rfl,p2,p3,zO,zO⟩
     ·refine zW (qQ I s vr o l un F @G O m2 m3 @Ks) ?_
      have:=my (Y:=Y) E zO e (Y6 G)
      exact ⟨zK,_,by rw [Y3 this hge]⟩
   ·rintro T2 H3 I J N ⟨r,D⟩;have w3:=N.wf;have aL:=N.le;simp only [uz,B3,Ae,and_true] at D;obtain ⟨au,-⟩:=D;obtain ⟨q0,hq0⟩:∃ q0,(u1*4294967296+c) / Y=q0:=⟨_,rfl⟩
    obtain ⟨r0,al⟩:∃ r0,(u1*4294967296+c) % Y=r0:=⟨_,rfl⟩
    have d2:=XP (u1*4294967296+c) Y;rw [hq0,al,EV Y] at d2;have am:r0<Y:=by rw [<- al]; exact XD _ zO
    rw [hq0] at au;have x2:ad T2 2=.int .u64 (Y:Int):=(J.at_ 2 zU).trans (zV (aE d t2));have x8:ad T2 8=.int .u64 (z:Int):=(J.at_ 8 zU).trans (zV (aE d t8));have aY:ad T2 14=.int .u64 (c:Int):=(J.at_ 14 zU).trans (zV (aE d Q));have aZ:ad T2 15=.int .u64 (q1:Int):=(J.at_ 15 zU).trans (zV (aE d Z));have a0:ad T2 17=.int .u64 (u1:Int):=(J.at_ 17 zU).trans (zV d);have a3:q1<4294967296:=by
     rw [<- W]
     apply (Jr zO).2
     omega
    have a2:q0<4294967296:=by
     rw [<- hq0]
     apply (Jr zO).2
     omega
    have f2:(q1*4294967296 % 18446744073709551616+q0) % 18446744073709551616=q1*4294967296+q0:=zO;have f3:((u1*4294967296 % 18446744073709551616+c) % 18446744073709551616+18446744073709551616-q0*Y % 18446744073709551616) % 18446744073709551616=r0:=N4 d2 zO;have aH:bY .shr .int (.int .u64 (r0:Int)) (.int .u64 (z:Int))=some (.int .u64 ((r0 / 2^z:Nat):Int)):=CO zO;refine zW (ia I au x2 x8 aY aZ a0 @Uy f2 f3 aH) ?_;have ab:(hi*B+lo)*2^z=(q1*4294967296+q0)*Y+r0:=by
     rw [hN,XN,ZF];have e5:m=f*4294967296+c:=zO
     generalize q1*Y=p at *
     generalize q0*Y=p' at *
     unfold B;omega
    have av:(hi*B+lo) / y=q1*4294967296+q0:=by
     rw [<- Nat.mul_div_mul_right _ _ P,ab,K];rw [Zh,Nat.add_mul_div_right _ _ zO,YG am,RO]
    have aw:r0 / 2^z=(hi*B+lo) % y:=by
     have h1:(hi*B+lo)*2^z % (y*2^z)=r0:=by
      rw [ab,K,Zh,Nat.add_mul_mod_self_right,Sl am]
     rw [Nat.mul_mod_mul_right] at h1;rw [<- h1,Nat.mul_div_cancel _ P]
    rw [av,aw];exact ⟨rfl,zK⟩
end
def AO:∀ {out:List Nat} {M:Nat},(∀ j,j<out.length->out.getD j 0=M / B^j % B)->M<B^out.length->val out=M
 | [],M,_,h=>by simp at h; simp [val,h]
 | a :: t,M,hd,h=>by
  have h0:=hd 0 (by simp);simp only [Zg,ZG,Nat.div_one] at h0;have b:val t=M / B:=by
   refine AO (fun j hj=>?_) ?_
   ·have:=hd (j+1) (by simpa using hj)
    rw [Yh] at this;rw [this,XL,Rb,EV B]
   ·apply (Jr zU).2
    rw [<- Rb]; simpa using h
  simp only [val,b,h0];exact Nat.mod_add_div M B
def Ji {out:List Nat} (h:∀ j,j<out.length->out.getD j 0<B):Lim out:=fun a ha=>by
 obtain ⟨j,hj,rfl⟩:=U0 ha
 have:=h j hj
 rw [iF,eA hj] at this;exact this
def jh (n j:Nat):(ah n).getD j 0=n / B^j % B:=by
 have h1:(ah n).drop j=ah (n / B^j):=mV j n;have h2:(ah n).getD j 0=((ah n).drop j).getD 0 0:=by
  rw [iF,iF,GQ,Yj]
 rw [h2,h1];by_cases h0:n / B^j=0
 ·rw [h0,cR]; rfl
 ·rw [kz h0]; rfl
def HY {a c m M:Nat} (ha:a<c) (b:0<M):(a+c*m) % (c*M)=a+c*(m % M):=by
 have h1:m=m % M+M*(m / M):=(Nat.mod_add_div m M).symm;have h2:a+c*m=a+c*(m % M)+c*M*(m / M):=by
  conv=>lhs; rw [h1]
  rw [XH,Se]; omega
 have h3:a+c*(m % M)<c*M:=by
  have h4:c*(m % M+1)<=c*M:=YY c (XD _ b);rw [XH] at h4; omega
 rw [h2,Zk,Sl h3]
def Cc {Y j r:Nat} (hr:r<64):Y / B^j % B / 2^r+2^(64-r)*(Y / B^(j+1) % B % 2^r)=Y / 2^r / B^j % B:=by
 have b:B=2^r*2^(64-r):=by
  rw [<- Th]; have:r+(64-r)=64:=zO;rw [this]
 have p2:0<2^r:=Pm zU;have p3:0<2^(64-r):=Pm zU;have d:Y / 2^r / B^j=Y / B^j / 2^r:=by rw [XL,XL,EV]
 have e:Y / B^(j+1)=Y / B^j / B:=by rw [XL,Rb]
 rw [d,e]
 generalize Y / B^j=Z
 have hz:Z=Z % B+B*(Z / B):=(Nat.mod_add_div Z B).symm;have hl:Z % B / 2^r<2^(64-r):=by
  apply (Jr p2).2
  rw [EV,<- b]; exact XD _ zU
 have h1:Z / 2^r=Z % B / 2^r+2^(64-r)*(Z / B):=by
  conv=>lhs; rw [hz]
  rw [b,Se,Nat.add_mul_div_left _ _ p2,<- b]
 have h2:Z / B % B % 2^r=Z / B % 2^r:=Nat.mod_mod_of_dvd _ ⟨2^(64-r),b⟩;rw [h1,h2]
 have:=HY (a:=Z % B / 2^r) (c:=2^(64-r)) (m:=Z / B) (M:=2^r) hl p2
 rw [EV (2^(64-r)) (2^r),<- b] at this;exact this.symm
def Ka {x r:Nat} (hr:r<=64):x*2^(64-r) % B=2^(64-r)*(x % 2^r):=by
 have a:B=2^(64-r)*2^r:=by
  rw [<- Th]; have:64-r+r=64:=zO;rw [this]
 rw [a,EV x,Nat.mul_mod_mul_left]
def rS {l:List Nat} {i v:Nat} (h:i<l.length):(l.set i v).getD i 0=v:=by
 rw [iF,YX,if_pos rfl,if_pos h]; rfl
section
variable {tab:Nat->Option aA} {H:Heap} {s:AV}
def OV (C:Code tab) (hw:Wf H) {a:AV} {x k:Nat} (ha:bO H a x) (hx:Sm x) (hk:k<=65536) :
  Ans tab (.fn uO [a,.int .i64 (k:Int)]) H fun v H'=>∃ o,v=.tup [o,.int .i64 0]/\bO H' o (x / 2^k)/\Kp H H':=by
 refine bA C.q187 zU fun T hl f d=>?_;refine zW (aD hl f d) ?_;refine AnsH.eq (Dx C zF (ha.mono (zG H)) hx hk) fun H2 aj=>?_;obtain ⟨k2,_,w2⟩:=zT H zK aj;have n2:=k2.le;unfold Sm at hx;have V:=OD (k:=k) (c:=64) zO zO;have hr:=OB (k:=k) (c:=64) zO;obtain ⟨q,eq⟩:∃ q,q=k / 64:=⟨_,rfl⟩
 obtain ⟨r,er⟩:∃ r,r=k % 64:=⟨_,rfl⟩
 rw [<- eq] at V;rw [<- er] at hr;have av:bY .quo .int (.int .i64 (k:Int)) (.int .i64 64)=some (.int .i64 (q:Int)):=V;have X:bY .rem .int (.int .i64 (k:Int)) (.int .i64 64)=some (.int .i64 (r:Int)):=hr;have J:r<64:=zO;obtain ⟨n,hn⟩:∃ n,min q (ah x).length=n:=⟨_,rfl⟩
 have ar:Jc (.int .i64 (q:Int)) (.int .i64 ((ah x).length:Int))=some (.int .i64 (n:Int)):=by rw [Av]; congr 2; split <;> omega
 obtain ⟨s',e0,Z⟩:=SlV.lo (ha.mono k2.sub) .i64 n zO;have e':cG 1 a (some (.int .i64 (n:Int))) none none=some s':=e0;obtain ⟨l,t⟩:∃ l,(ah x).drop n=l:=⟨_,rfl⟩
 rw [t] at Z;have ao:Lim l:=by rw [<- t]; exact (aY x).drop n
 have aH:l.length<=(ah x).length:=by rw [<- t,XX]; omega
 refine zW (fo hl f d av ha.lenV ar e') ?_;refine AnsH.use (xO C zF (Z.mono (Sub.bump H2 _)) zO) ?_;rintro v L ⟨hv,al,U⟩;obtain ⟨k3,_,w3⟩:=zT H zK al;obtain ⟨N,z⟩:∃ N,l.length=N:=⟨_,rfl⟩
 have ay:lenV v=some (.int .i64 (N:Int)):=by have:=hv.lenV; rwa [z] at this
 rw [z] at U;obtain ⟨b,hb⟩:∃ b,0<N->v=.own b 0 N N 1 false/\L.get b=some (.cells (aN l) ae true)/\H.next<=b:=by
  by_cases h0:0<N
  ·obtain ⟨b,h1,h2,h3⟩:=U h0
   have:H.next<=H2.next:=n2
   exact ⟨b,fun _=>⟨h1,h2,by have:H2.next<=b:=B5 (Ob _ _) h3; omega⟩⟩
  ·exact ⟨0,fun h=>absurd h h0⟩
 obtain ⟨Y,s⟩:∃ Y,val l=Y:=⟨_,rfl⟩
 have ag:∀ j,l.getD j 0=Y / B^j % B:=by
  intro j;have h1:l=ah Y:=by
   rw [<- t,mV] at s ⊢;rw [bM] at s; rw [s]
  rw [h1,jh]
 have M:Y<B^N:=by rw [<- s,<- z]; exact xI ao
 refine zW (aO hl f d ay) ?_;refine aq H [] (fun i vs H'=>∃ out,(0<N->H'.get b=some (.cells (aN out) ae true))/\(N=0->Lb H' v [])/\out.length=N/\(∀ j,j<i->out.getD j 0=Y / 2^r / B^j % B)/\(∀ j,i<=j->out.getD j 0=Y / B^j % B)) (a:=0) (N:=N) rfl (by refine zW (aD hl f d) ?_; rfl) (zV (aD hl f d)) (xq _) zO (by simp only [dz,hl]; rfl) rfl (fun _ _ H' m h=>by
   obtain ⟨out,h1,h2,h3⟩:=h;exact ⟨out,h1,fun h0=>(h2 h0).mono (Sub.bump H' m),h3⟩) zK
  ⟨l,fun h0=>by exact zV ((hb h0).2.1),fun h0=>by
   have:l=[]:=OK zO
   subst this; exact hv.mono (Sub.bump L _),z,fun j hj=>by omega,fun j _=>ag j⟩ ?_ ?_
 ·rintro i T1 F _ hi g P D p ⟨out,b0,-,u,w,A⟩;simp only [dz,hl] at g;have w1:=p.wf;have aC:=p.le;obtain ⟨K,-,O⟩:=hb zO;have b6:=b0 zO;have aI:=p.wf _ _ b6;have E:ad T1 7=.own b 0 N N 1 false:=(D.at_ 7 zU).trans (zV (aO hl f d K));have t1:ad T1 1=.int .i64 (k:Int):=(D.at_ 1 zU).trans (zV (aO hl f d d));have aw:∀ y:Nat,bY .shr .int (.int .u64 (y:Int)) (.int .i64 (r:Int))=some (.int .u64 ((y / 2^r:Nat):Int)):=fun y=>tC y r J;have ab:IntKind.i64.wrap ((i:Int)+1)=((i+1:Nat):Int):=by rw [wrap_i64] <;> omega
  have I:=A i (o0 _);refine zW (fX g E t1 P @b6 X aw ab) ?_;refine iteH.split (fun h=>?_) fun h=>?_
  ·have au:=A (i+1) zO;have aB:IntKind.i64.wrap (64-(r:Int))=((64-r:Nat):Int):=by rw [wrap_i64] <;> omega
   have gi:(out.set i (out.getD i 0 / 2^r)).getD i 0=out.getD i 0 / 2^r:=rS zO;have af:(out.set i (out.getD i 0 / 2^r)).getD (i+1) 0=out.getD (i+1) 0:=bw zO;have R:out.getD i 0<18446744073709551616:=by rw [I]; exact XD _ zU
   have aa:=tD (x:=out.getD (i+1) 0) (r:=64-r) zO (k:=.i64);have ax:out.getD i 0 / 2^r<2^(64-r):=by
    apply (Jr (Pm zU)).2
    rw [<- Th]
    have:64-r+r=64:=zO
    rw [this]; exact R
   have S:=xv (a:=out.getD i 0 / 2^r) (b:=out.getD (i+1) 0*2^(64-r) % B) (XK (Zf _ _) R) (XD _ zU);rw [Ka zO,EY ax] at S;rw [Ka zO] at aa;have ti:bf (aN (out.set i (out.getD i 0 / 2^r))) i none=some (.int .u64 ((out.getD i 0 / 2^r:Nat):Int)):=by rw [EE (by simp; omega),gi]
   have aG:bf (aN (out.set i (out.getD i 0 / 2^r))) (i+1) none=some (.int .u64 ((out.getD (i+1) 0:Nat):Int)):=by rw [EE (by simp; omega),af]
   refine aF ?_;refine zD (qQ g E t1 P @b6 X aB ab ti aG aa S) ?_;refine ⟨zK,_,fun _=>rfl,fun h0=>by omega,by simp [u],fun j hj=>?_,fun j hj=>?_⟩
   ·by_cases G:j=i
    ·subst G;rw [rS (by simp; omega),I,au];exact Cc J
    ·rw [bw zO,bw zO];exact w j zO
   ·rw [bw zO,bw zO];exact A j zO
  ·refine zW g ?_;refine ⟨zK,_,fun _=>rfl,fun h0=>by omega,by simp [u],fun j hj=>?_,fun j hj=>?_⟩
   ·by_cases G:j=i
    ·subst G;rw [rS zO,I,<- Cc J];have h0:Y / B^(j+1)=0:=YG (by
      have:j+1=N:=zO
      rw [this]; exact M)
     rw [h0]; simp
    ·rw [bw zO];exact w j zO
   ·rw [bw zO];exact A j zO
 ·rintro T1 F g D p ⟨out,b0,hz,u,w,-⟩;simp only [dz,hl] at g;have w1:=p.wf;have aC:=p.le;have E:ad T1 7=v:=(D.at_ 7 zU).trans (zV (aD hl f d));have ap:Lim out:=Ji fun j hj=>by rw [w j zO]; exact XD _ zU
  have hval:val out=Y / 2^r:=AO (fun j hj=>w j zO) (by rw [u]; exact XK (Zf _ _) M);have ho:Lb F v out:=by
   by_cases h0:0<N
   ·obtain ⟨K,-,O⟩:=hb h0;rw [K];exact (ww (H0:=H) (ex:=false) (b0 h0) O u).sl
   ·have:out=[]:=OK zO
    subst this; exact hz zO
  refine zW (aE g E) ?_;refine AnsH.use (wh C zF (ho.mono (Sub.bump F _)) zO) ?_;rintro v2 H4 ⟨h4,am⟩;obtain ⟨k4,_,_⟩:=zT H zK am;have e:val out=x / 2^k:=by
   have h1:Y=x / B^n:=by rw [<- s,<- t,mV,bM]
   have h2:x / B^n=x / B^q:=by
    by_cases W:q<=(ah x).length
    ·rw [show n=q from by rw [<- hn,XO W]]
    ·have h3:=iM x;have Q:(ah x).length<=q:=Ys (Nat.lt_of_not_le W);rw [show n=(ah x).length from by rw [<- hn,Nat.min_eq_right Q],YG h3];exact (YG (Eb h3 (JR zU Q))).symm
   have h3:k=64*q+r:=zO;rw [hval,h1,h2,XL];congr 1;rw [h3,Th,ZQ]
  rw [eW ap,e] at h4;refine zW g ?_;exact ⟨v2,rfl,h4,zK⟩
end
def Lx {X w y:Nat}:X*B+y=X / w*B*w+(X % w*B+y):=by
 have h:=XP X w
 generalize X / w=q at *
 generalize X % w=r at *
 subst h
 grind
section
variable {tab:Nat->Option aA} {H:Heap} {s:AV}
def tM (C:Code tab) (b:Wf H) {sa:AV} (ha:One sa) :
  Ans tab (.fn cQ [sa]) H fun v H'=>v=.fn (.func bh) [] [.ptr H.next 0]/\H'.get H.next=some (.cells [sa] aK true)/\H.next+1<=H'.next/\Kp H H':=by
 refine cT C.q188 zU fun T hl a=>?_;refine zW (aE hl a) ?_;exact ⟨zO,zK⟩
def FM (C:Code tab) {H0:Heap} {f g:Nat} {a:List Nat} {sa:AV} (J:Nat->Heap->Prop) (z:a.length<4611686018427387904)
  (x:Kp H0 H) (h0:J 0 H) (e:∀ k H m,J k H->J k (H.up m)) (hA:∀ k H,J k H->H.get g=some (.cells [sa] aK true)/\Lb H sa a)
  (hr:∀ i k H,i+k+1=a.length->Kp H0 H->J k H->Ans tab (.round f [.int .i64 (i:Int),.int .u64 (a.getD i 0:Nat)]) H fun v H'=>v=.bool true/\Kp H0 H'/\J (k+1) H') :
  Ans tab (.ent bh [.loopv f,.ptr g 0]) H fun _ H'=>Kp H0 H'/\J a.length H':=by
 refine TJ C.q192 zU fun T hl c d=>?_;obtain ⟨q1,q2⟩:=hA _ _ h0;have u:IntKind.i64.wrap ((a.length:Int)-1)=(a.length:Int)-1:=by rw [wrap_i64] <;> omega
 refine zW (dj hl c d q1 q2.lenV u) ?_;refine cu H0 [3] (fun m vs H'=>∃ k,k<=a.length/\m=a.length-k/\vs=[.int .i64 ((a.length:Int)-1-(k:Int))]/\J k H') a.length (by simp only [dz]; exact hl) rfl zK ⟨0,xq _,rfl,by exact zV (bB hl c d @PL @Int.sub_zero),e _ _ _ h0⟩ ?_;rintro m T1 o l n j ⟨k,y,rfl,b,h⟩;simp only [uz,B3,Ae,and_true] at b;have w1:=j.wf;have A:=j.le;obtain ⟨q1,q2⟩:=hA _ _ h;by_cases p:k=a.length
 ·have q:¬ (0:Int)<=(a.length:Int)-1-(k:Int):=zO;subst p;refine zW (aD l b q) ?_;exact ⟨zK,e _ _ _ h⟩
 ·obtain ⟨i,hi⟩:∃ i,i+k+1=a.length:=⟨a.length-k-1,zO⟩
  have hz:(a.length:Int)-1-(k:Int)=(i:Int):=zO;rw [hz] at b;have r:(0:Int)<=(i:Int):=zO;have t0:ad T1 0=.loopv f:=(n.at_ 0 zU).trans (zV (aE hl c));have t1:ad T1 1=.ptr g 0:=(n.at_ 1 zU).trans (zV (aO hl c d d));have x1:=SlV.idx1 q2 .i64 i zO;have d1:=fM q2 (i:=i) zO;have s:∀ m,Ans tab (.round f [.int .i64 (i:Int),.int .u64 (a.getD i 0:Nat)]) (o.up m) fun v H'=>v=.bool true/\Kp H0 H'/\J (k+1) H':=fun m=>hr i k _ hi (j.up m) (e _ _ _ h);have t:IntKind.i64.wrap ((i:Int)-1)=(a.length:Int)-1-((k+1:Nat):Int):=by rw [wrap_i64] <;> omega
  refine zW (fX l b r t0 t1 q1 x1 d1) ?_;refine AnsH.eq (s _) fun H2 ⟨k2,w⟩=>?_;refine zW (aD l b t) ?_;exact ⟨zK,a.length-(k+1),zO,k+1,zO,rfl,rfl,e _ _ _ w⟩
def Hm (C:Code tab) (i:Wf H) {a b:AV} {x y:Nat} (ha:bO H a x) (hb:bO H b y) (hx:Sm x) (hy:Sm y) (h0:0<y) :
  Ans tab (.fn oG [a,b]) H fun v H'=>v=.int .i64 0/\Kp H H':=by
 refine bA C.q179 zU fun T hl c d=>?_;refine zW (aD hl c d) ?_;refine AnsH.eq (ij C zF (ha.mono (Sub.bump H _)) hx) fun H2 e=>?_;obtain ⟨k2,_,k⟩:=zT H zK e;refine zW (aD hl c d) ?_;refine AnsH.eq (ij C zF (hb.mono k2.sub) hy) fun g f=>?_;obtain ⟨j,_,w3⟩:=zT H zK f;have h:=bN y;have hne:¬ ((ah y).length:Int)=0:=zO;refine zW (bB hl c d hb.lenV hne) ?_;exact zK
set_option maxHeartbeats 1000000 in
def PB (C:Code tab) (hw:Wf H) {a:AV} {x w:Nat} (ha:bO H a x) (hx:Sm x) (h0:0<w) (ag:w<18446744073709551616) :
  Ans tab (.fn uT [a,.int .u64 (w:Int)]) H fun v H'=>∃ q,v=.tup [q,.int .u64 ((x % w:Nat):Int),.int .i64 0]/\bO H' q (x / w)/\Kp H H':=by
 refine bA C.q180 zU fun T hl c d=>?_;have aj:¬ (w:Int)=0:=zO;unfold Sm at hx;obtain ⟨N,D⟩:∃ N,(ah x).length=N:=⟨_,rfl⟩
 have ab:∀ H' id,Ja H' id ae 1 8 [.int .u64 0] (.int .i64 (N:Int)) (.int .i64 (N:Int))=some (.own id 0 N N 1 true,H'.put id (.cells (aN (List.replicate N 0)) ae true)):=fun H' id =>
  (iS H' id ae 1 8 [.int .u64 0] .i64 .i64 N zO zO rfl).trans (by rw [mX])
 have Z:lenV a=some (.int .i64 (N:Int)):=by have:=ha.lenV; rwa [D] at this
 refine zW (aD hl c d) ?_;refine AnsH.eq (ij C zF (ha.mono (zG H)) hx) fun H2 z=>?_;obtain ⟨k2,_,w2⟩:=zT H zK z;have n2:=z.le;have p0:H2.get H.next=some (.cells [.int .u64 (w:Int)] ae true):=z.get (cC)
 have p1:H2.get (H.next+1)=some (.cells [.nilSl] aK true):=z.get (cC);have p2:H2.get (H.next+2)=some (.cells [.int .u64 0] ae true):=z.get (cC);have l0:=k2.wf _ _ p0;have l1:=k2.wf _ _ p1;have l2:=k2.wf _ _ p2;refine zW (jU hl c d p0 p1 p2 aj Z ab) ?_;refine AnsH.use (tM C zF ha.one) ?_;rintro v b ⟨rfl,M,ad,A⟩;simp only [next_put,dg] at M ad ⊢;obtain ⟨k3,_,w3⟩:=zT H zK A;have q0:b.get H.next=some (.cells [.int .u64 (w:Int)] ae true):=A.get (zV p0)
 have q1:b.get (H.next+1)=some (.cells [.own (H2.next+5) 0 N N 1 true] aK true):=A.get (cC);have q2:b.get (H.next+2)=some (.cells [.int .u64 0] ae true):=A.get (zV p2);have qb:b.get (H2.next+5)=some (.cells (aN (List.replicate N 0)) ae true):=A.get (cC);have ao:∀ j,(List.replicate N 0).getD j 0=0:=fun j=>by simp [iF,XG]; split <;> rfl
 have S:x / B^N=0:=YG (by rw [<- D]; exact iM x);refine zW (aD hl c d) ?_;refine pJ (fi:=bh) (args:=[.loopv b.next,.ptr (H2.next+9) 0]) (by refine zW (aD hl c d) ?_; rfl) ?_
 generalize he:Ent.loop _ _ _ _ _ _=e0
 have K:Kp H ((b.up 1).put b.next e0):=zK;have aG:=K.le;refine (FM C (H0:=H) (a:=ah x) (sa:=a) (fun k H'=>H'.get b.next=some e0/\H'.get H.next=some (.cells [.int .u64 (w:Int)] ae true)/\H'.get (H.next+1)=some (.cells [.own (H2.next+5) 0 N N 1 true] aK true) /\
   (∃ (out:List Nat) (r:Nat),H'.get (H2.next+5)=some (.cells (aN out) ae true)/\out.length=N/\Lim out/\H'.get (H.next+2)=some (.cells [.int .u64 (r:Int)] ae true)/\r=x / B^(N-k) % w/\val out=x / B^(N-k) / w*B^(N-k)/\∀ j,j<N-k->out.getD j 0=0) /\
   H'.get (H2.next+9)=some (.cells [a] aK true)/\Lb H' a (ah x)) zO K
  ⟨by exact cC,by exact zV q0,by exact zV q1,⟨List.replicate N 0,0,by exact zV qb,by simp,Lim.replicate N,by refine zW q2 ?_; rfl,by rw [Nat.sub_zero,S,Nat.zero_mod],by rw [Nat.sub_zero,S,Nat.zero_div,Z0,tg],fun j _=>ao j⟩,by exact zV M,ha.mono K.sub⟩ (fun _ _ _ h=>h) (fun k H' h=>⟨h.2.2.2.2.1,h.2.2.2.2.2⟩) ?_).mono ?_
 ·rintro i k H1 aB t ⟨f,s,g,⟨out,r,m,I,J,n,hr,hval,hz⟩,j5,-⟩;rw [<- he] at f;have aI:=t.wf _ _ f;have aq:=t.wf _ _ s;have ar:=t.wf _ _ g;have au:=t.wf _ _ m;have av:=t.wf _ _ n;have Q:r<w:=by rw [hr]; exact XD _ h0
  have W:N-k=i+1:=zO;have X:N-(k+1)=i:=zO;have ay:i<N:=zO;rw [W] at hr hval hz;obtain ⟨y,hy⟩:∃ y,(ah x).getD i 0=y:=⟨_,rfl⟩
  have al:y<18446744073709551616:=by rw [<- hy]; exact (aY x).at i
  rw [hy];have w1:=t.wf;have aE:=t.le;have am:y=x / B^i % B:=by rw [<- hy,jh]
  refine qB f rfl ?_;refine zW (aO hl c d f) ?_
  generalize aa:Ent.loop _ _ _ _ LoopState.busy none=V
  refine aF ?_;refine zD (fX hl c d f s g m n) ?_;refine AnsH.use (CN C zF Q al ag) ?_;rintro v o ⟨rfl,u⟩;have e:Kp H o:=Kp.trans zK u;have aH:=e.le;have w4:=e.wf;have r0:o.get b.next=some V:=u.get (cC)
  have r1:o.get H.next=some (.cells [.int .u64 (w:Int)] ae true):=u.get (zV s)
  have r2:o.get (H.next+1)=some (.cells [.own (H2.next+5) 0 N N 1 true] aK true):=u.get (zV g);have r3:o.get (H2.next+5)=some (.cells (aN out) ae true):=u.get (zV m);have r4:o.get (H.next+2)=some (.cells [.int .u64 (r:Int)] ae true):=u.get (zV n);have r5:o.get (H2.next+9)=some (.cells [a] aK true):=u.get (zV j5);have aJ:=e.wf _ _ r0;have aw:=e.wf _ _ r1;have ax:=e.wf _ _ r2;have aL:=e.wf _ _ r3;have aM:=e.wf _ _ r4;refine zD (Ih hl c d f s g m n r0 r1 r2 r3 r4) ?_;rw [vS];have Y:x / B^i=x / B^(i+1)*B+y:=by
   rw [am,Rb,<- XL,EV];exact (XP _ _).symm
  have P:x / B^i=x / B^(i+1) / w*B*w+(r*B+y):=by
   rw [Y,hr]; exact Lx
  have af:(r*B+y) / w<B:=by
   apply (Jr h0).2
   have:(r+1)*B<=w*B:=B2 B Q
   rw [XN] at this;rw [EV B]; unfold B at *; omega
  have R:=jl (l:=out) (k:=i) (v:=(r*B+y) / w) zO;rw [hz i zO,Zq,Yj,hval] at R;have L:Kp H (((o.put (H2.next+5) (.cells (aN (out.set i ((r*B+y) / w))) ae true)).put (H.next+2) (.cells [.int .u64 (((r*B+y) % w:Nat):Int)] ae true)).put b.next e0):=zK;have ap:=L.le;refine zW (jU aa he r0 r1 r2 r3 r4 r5 X) ?_;refine ⟨zK,⟨_,_,rfl,by simp [I],kM J af,rfl,?_,?_,fun j hj=>?_⟩,ha.mono (zG H)⟩
  ·rw [P,Nat.mul_add_mod_self_right]
  ·rw [R,P,Zh (x / B^(i+1) / w*B*w),Nat.add_mul_div_right _ _ h0,Rb]
   grind
  ·rw [bw zO];exact hz j zO
 ·rintro _ H' ⟨p,f,s,g,⟨out,r,m,I,J,n,hr,hval,-⟩,-⟩;have hlt:=p.wf _ _ f;have aq:=p.wf _ _ s;have ar:=p.wf _ _ g;have au:=p.wf _ _ m;have av:=p.wf _ _ n;have U:=p.wf;have aC:=p.le;refine .inl ⟨f,?_⟩;refine zW (aO hl c d D) ?_;rw [D,Nat.sub_self,ZG,Nat.div_one] at hr hval;rw [Yb] at hval;refine aF ?_;refine zD (fo hl c d s g m n) ?_;have aP:=k2.le;have b6:((H'.up 6).kill b.next).get (H2.next+5)=some (.cells (aN out) ae true):=by exact zV m
  have w6:Wf (H'.up 6):=U.bump 6;have L:Kp H (H'.up 6):=p.up 6;have ap:=L.le;refine AnsH.eq (qk C zF (rw':=true) I b6 zO) fun G F=>?_;obtain ⟨e,_,U⟩:=zT H zK F;have r1:G.get (H.next+1)=some (.cells [.own (H2.next+5) 0 N N 1 true] aK true):=F.get (zV g);have r2:G.get (H.next+2)=some (.cells [.int .u64 (r:Int)] ae true):=F.get (zV n);have r3:G.get (H2.next+5)=some (.cells (aN out) ae true):=F.get b6;have aw:=e.wf _ _ r1;have ax:=e.wf _ _ r2;obtain ⟨E,O⟩:=sN out;rw [eW J,hval] at O ⊢;refine zD (jU hl c d s g m n r1 r2) ?_;rw [hr];refine ⟨_,rfl,EX (E:=E) (rw':=true) ?_,zK⟩;rw [<- O];exact zV r3
end
def Dj {tab:Nat->Option aA} {rd:Bool} {a rest:ACode} {l:Nat} {T:Tm} {H:Heap} {Q:Ex->Tm->Heap->Prop} (h:WC tab rd a T H (Or Q)):WC tab rd (.scopeL a l rest) T H Q:=by
 obtain ⟨x,T',H',⟨N,g⟩,b⟩:=eN a T H _ h.run;refine ⟨show ∃ x T' H',Qa tab rd (.scopeL a l rest) T H x T' H'/\Q x T' H' from ⟨x,T',H',⟨N,fun m n hm hn=>?_⟩,?_⟩⟩
 ·simp only [aL,g m n hm hn];cases x <;> first | rfl | exact b.elim
 ·cases x <;> first | exact b | exact b.elim
def oM:∀ {l:List Nat} (_:Lim l) (j:Nat),l.getD j 0=val l / B^j % B
 | [],_,j=>by simp [val]
 | a :: t,h,0=>by
  have:=h.head
  simp only [Zg,val,ZG,Nat.div_one,Zk];exact (Sl this).symm
 | a :: t,h,j+1=>by
  have b:=oM h.tail j;have ha:=h.head;rw [Yh,b];simp only [val];rw [Rb,EV (B^j),<- XL,Nat.add_mul_div_left _ _ zU,YG ha,RO]
structure Dv (H:Heap) (d rb bb M n:Nat) (x1:Bool) (R L:List Nat):Prop where
 hd:H.get d=some (.cells [.own rb 0 M M 1 x1,.own bb 0 n n 1 true] fZ true)
 hr:H.get rb=some (.cells (aN R) ae true)
 hb:H.get bb=some (.cells (aN L) ae true)
 lr:R.length=M
 ll:n<=L.length
 ne:rb≠bb
 limR:Lim R
 limL:Lim L
def FrX (b:Nat) (H H':Heap):Prop:=∀ c e,c≠b->H.get c=some e->H'.get c=some e
def FrX.refl (b:Nat) (H:Heap):FrX b H H:=fun _ _ _ h=>h
def FrX.trans {b:Nat} {H H' H'':Heap} (h:FrX b H H') (h':FrX b H' H''):FrX b H H'':=fun c e hc he=>h' c e hc (h c e hc he)
def Dv.up {H:Heap} {d rb bb M n:Nat} {x1:Bool} {R L:List Nat} (h:Dv H d rb bb M n x1 R L) (k:Nat):Dv (H.up k) d rb bb M n x1 R L:=⟨h.hd,h.hr,h.hb,h.lr,h.ll,h.ne,h.limR,h.limL⟩
def Dv.kp {H H':Heap} {d rb bb M n:Nat} {x1:Bool} {R L:List Nat} (h:Dv H d rb bb M n x1 R L) (a:Kp H H'):Dv H' d rb bb M n x1 R L:=⟨a.get h.hd,a.get h.hr,a.get h.hb,h.lr,h.ll,h.ne,h.limR,h.limL⟩
def Dv.put {H:Heap} {d rb bb M n b:Nat} {x1:Bool} {R L:List Nat} {e:Ent} (h:Dv H d rb bb M n x1 R L) (h1:d≠b) (h2:rb≠b) (h3:bb≠b):Dv (H.put b e) d rb bb M n x1 R L:=⟨by rw [au h1]; exact h.hd,by rw [au h2]; exact h.hr,by rw [au h3]; exact h.hb,h.lr,h.ll,h.ne,h.limR,h.limL⟩
def Dv.ndr {H:Heap} {d rb bb M n:Nat} {x1:Bool} {R L:List Nat} (h:Dv H d rb bb M n x1 R L):d≠rb:=fun e=>by
 have h1:=h.hd;rw [e,h.hr] at h1
 injection h1 with h1; injection h1 with _ h2; exact absurd h2 zU
section
variable {b V W P f sec th hi un q r N:Nat}
def Jn (hV:(hi*b+un)*P<=V) (hW:W<(N*b+th+1)*P) (e:q*hi+r=N) (h:r*b+th<q*un) (hV0:0<V):0<q/\W / V<=q-1:=by
 have h1:W<q*V:=by
  refine Eb hW ?_;refine B5 (B2 P ?_) (B5 (Zm (Se q (hi*b+un) P)) (YY q hV));rw [<- e,XH,XN,<- Se];omega
 have h2:W / V<q:=(Jr hV0).2 h1;exact ⟨XK (xq _) h2,ZR h2⟩
def Jo (hV:(hi*b+un)*P<=V) (hW:W<(N*b+th+1)*P) (c:th<b) (a:0<hi) (hV0:0<V):W / V<=N / hi:=by
 apply Zp
 apply (Jr hV0).2
 have h0:=XP N hi;have h1:=XD N a;have h2:N+1<=(N / hi+1)*hi:=by
  rw [XN,ZC,EV (N / hi)]
  generalize hi*(N / hi)=t at *
  omega
 refine Eb hW ?_;refine B5 (B2 P ?_) (B5 (Zm (Se (N / hi+1) (hi*b+un) P)) (YY _ hV));have h3:=B2 b h2;rw [XH,<- Se];have h4:(N+1)*b=N*b+b:=by rw [XN,ZC]
 refine B5 ?_ (B5 h3 (Ob _ _));rw [h4];exact Nat.add_le_add_left c _
def S0 (hs:sec<b) (a:f<hi) (h0:0<b):(f*b+sec) / hi<b:=by
 apply (Jr zO).2
 have h1:(f+1)*b<=hi*b:=B2 b a;rw [XN,ZC] at h1;rw [EV b]; omega
end
structure GuessH (V W P f sec th hi un:Nat):Prop where
 hV:(hi*B+un)*P<=V
 hW:W<((f*B+sec)*B+th+1)*P
 hWV:W<V*B
 hV0:0<V
structure GuessI (V W f sec hi q r:Nat):Prop where
 e:q*hi+r=f*B+sec
 ge:W / V<=q
section
variable {V W P f sec th hi un q r ov lw:Nat}
def GuessI.step (G:GuessH V W P f sec th hi un) (I:GuessI V W f sec hi q r) (h:r*B+th<q*un):0<q/\GuessI V W f sec hi (q-1) (r+hi):=by
 obtain ⟨h1,h2⟩:=Jn G.hV G.hW I.e h G.hV0;refine ⟨h1,?_,h2⟩;have h3:q*hi=(q-1)*hi+hi:=by
  obtain ⟨t,rfl⟩:∃ t,q=t+1:=⟨q-1,zO⟩
  rw [Yn,YP]
 have:=I.e
 rw [h3] at this;rw [<- this,XI,Zh hi]
def GuessI.init (G:GuessH V W P f sec th hi un) (b:th<B) (hs:sec<B) (a:f<hi):GuessI V W f sec hi ((f*B+sec) / hi) ((f*B+sec) % hi)/\(f*B+sec) / hi<B:=by
 refine ⟨⟨?_,Jo G.hV G.hW b (XK (xq _) a) G.hV0⟩,S0 hs a zU⟩;rw [EV]; exact XP _ _
def GuessH.max (G:GuessH V W P f sec th hi un):W / V<=18446744073709551615:=by
 have h:=G.hWV;rw [EV] at h;exact Zp ((Jr G.hV0).2 h)
def Q6 (a:q*un / B=ov) (b:th<B) (c:r<ov):r*B+th<q*un:=by
 have h:=XP (q*un) B;rw [a] at h;rw [<- h];have h2:(r+1)*B<=ov*B:=B2 B c;rw [XN,ZC,EV ov] at h2;refine Eb (Nat.add_lt_add_left b _) (B5 h2 (Ob _ _))
def Q7 (a:q*un / B=ov) (b:q*un % B=lw) (c:th<lw):ov*B+th<q*un:=by
 have h:=XP (q*un) B;rw [a,b] at h;rw [<- h,EV];exact Nat.add_lt_add_left c _
end
section
variable {tab:Nat->Option aA} {H:Heap}
set_option maxHeartbeats 1000000 in
def MP (C:Code tab) (hw:Wf H) {d rb bb M m b:Nat} {x1:Bool} {R L:List Nat} (D:Dv H d rb bb M (m+2) x1 R L) (au:b+(m+2)<M) (hM:M<2199023255552)
  {V W P:Nat} (G:GuessH V W P (R.getD (b+(m+2)) 0) (R.getD (b+(m+1)) 0) (R.getD (b+m) 0) (L.getD (m+1) 0) (L.getD m 0)) :
  Ans tab (.fn gA [.ptr d 0,.int .i64 (b:Int)]) H fun v H'=>∃ q:Nat,v=.int .u64 (q:Int)/\q<B/\W / V<=q/\Kp H H':=by
 obtain ⟨hd,hr,hb,lr,ll,ne,limR,limL⟩:=D;refine bA C.q183 zU fun T hl e g=>?_;obtain ⟨hi,K⟩:∃ hi,L.getD (m+1) 0=hi:=⟨_,rfl⟩
 obtain ⟨un,U⟩:∃ un,L.getD m 0=un:=⟨_,rfl⟩
 obtain ⟨f,J⟩:∃ f,R.getD (b+(m+2)) 0=f:=⟨_,rfl⟩
 obtain ⟨sec,es⟩:∃ sec,R.getD (b+(m+1)) 0=sec:=⟨_,rfl⟩
 obtain ⟨th,S⟩:∃ th,R.getD (b+m) 0=th:=⟨_,rfl⟩
 have A:hi<B:=K ▸ limL.at _;have ar:un<B:=U ▸ limL.at _;have fB:f<B:=J ▸ limR.at _;have af:sec<B:=es ▸ limR.at _;have ag:th<B:=S ▸ limR.at _;rw [K,U,J,es,S] at G;have ae:IntKind.i64.wrap ((b:Int)+((m+2:Nat):Int))=((b+(m+2):Nat):Int):=by rw [wrap_i64] <;> omega
 have am:IntKind.i64.wrap (((b+(m+2):Nat):Int)-1)=((b+(m+1):Nat):Int):=by rw [wrap_i64] <;> omega
 have ao:IntKind.i64.wrap (((b+(m+2):Nat):Int)-2)=((b+m:Nat):Int):=by rw [wrap_i64] <;> omega
 have ap:IntKind.i64.wrap (((m+2:Nat):Int)-1)=((m+1:Nat):Int):=by rw [wrap_i64] <;> omega
 have aq:IntKind.i64.wrap (((m+2:Nat):Int)-2)=(m:Int):=by rw [wrap_i64] <;> omega
 refine zW (aD hl e g) ?_;refine Dj ?_;refine zW (aO hl e g hd) ?_;refine aF ?_;refine zD (qQ hl e g hd hr hb ae am ap J es K) ?_;refine iteH.split (fun h1=>?_) fun h1=>?_
 ·simp only [je,ko,jd,mo,Y0,YQ];refine zW (aD hl e g) ?_;exact ⟨18446744073709551615,by simp,by decide,G.max,zK⟩
 ·simp only [je,ko,jd,mo,Y0,YQ];refine zW (aD hl e g) ?_;refine AnsH.use (CN C zF zO af A) ?_;rintro v H2 ⟨rfl,ah⟩;obtain ⟨k2,_,w2⟩:=zT H zK ah;have d2:=k2.get hd;have r2:=k2.get hr;have b2:=k2.get hb;refine zW (aD hl e g) ?_;refine aF ?_;refine zD (ia hl e g d2 r2 b2 ae ao aq U S) ?_;refine Dj ?_;refine zW (aD hl e g) ?_;obtain ⟨E,hq0⟩:=GuessI.init G ag af zO;have aa:(f*B+sec) % hi<B:=Nat.lt_trans (XD _ zO) A;obtain ⟨q0,O⟩:∃ q0,(f*B+sec) / hi=q0:=⟨_,rfl⟩
  obtain ⟨r0,Q⟩:∃ r0,(f*B+sec) % hi=r0:=⟨_,rfl⟩
  rw [O] at E hq0;rw [Q] at E aa;simp only [O,Q];clear O Q;refine cu H [9,10] (fun k vs H'=>∃ q r:Nat,vs=[.int .u64 (q:Int),.int .u64 (r:Int)]/\k=q/\GuessI V W f sec hi q r/\r<B/\q<B) q0 (by simp only [dz]; exact hl) rfl zK ⟨_,_,by exact zV (aD hl e g),rfl,E,aa,hq0⟩ ?_;rintro k T1 H1 i X Z ⟨q,r,hv,al,I,ab,w⟩;obtain rfl:=al.symm;simp only [uz,B3,Ae,and_true] at hv;obtain ⟨v9,o⟩:=hv;have w1:=Z.wf;have av:=Z.le;have n:ad T1 8=.int .u64 (hi:Int):=(X.at_ 8 zU).trans (zV (aD hl e g));have j:ad T1 11=.int .u64 (un:Int):=(X.at_ 11 zU).trans (zV (aD hl e g));have l:ad T1 12=.int .u64 (th:Int):=(X.at_ 12 zU).trans (zV (aD hl e g));refine zW (dj i v9 o n j l) ?_;refine AnsH.use (qw C zF w ar) ?_;rintro v H3 ⟨rfl,aj⟩;obtain ⟨k3,_,w3⟩:=zT H zK aj;obtain ⟨ov,z⟩:∃ ov,q*un / B=ov:=⟨_,rfl⟩
  obtain ⟨lw,N⟩:∃ lw,q*un % B=lw:=⟨_,rfl⟩
  rw [z,N];have s1:r<ov->0<q/\GuessI V W f sec hi (q-1) (r+hi):=fun c=>I.step G (Q6 z ag c);have s2:ov=r->th<lw->0<q/\GuessI V W f sec hi (q-1) (r+hi):=fun c c'=>I.step G (by rw [<- c]; exact Q7 z N c');clear z N;by_cases x:ov<r
  ·refine zW (fo i v9 o n j l @x) ?_;exact ⟨q,rfl,w,I.ge,zK⟩
  ·by_cases y:ov=r
   ·by_cases Y:lw<=th
    ·subst y;refine zW (fX i v9 o n j l @x Y) ?_;exact ⟨q,rfl,w,I.ge,zK⟩
    ·obtain ⟨p1,t⟩:=s2 y zO;clear s1 s2;subst y;have z1:=uG (a:=q) p1 w;refine zW (jU i v9 o n j l @x Y z1) ?_;refine AnsH.eq (ji C _ ov hi 0 ab A zO) fun H4 F=>?_;subst F;have p:(fk ov hi 0).1=(ov+hi) % B:=by simp [fk]
     have s:(fk ov hi 0).2=(ov+hi) / B:=by simp [fk]
     refine zW (jU i v9 o n j l z1 p s) ?_;refine iteH.split (fun h=>?_) fun h=>?_
     ·have u:ov+hi<B:=by unfold B at *; omega
      refine zW (jU i v9 o n j l z1 p s) ?_;exact ⟨zK,q-1,zO,q-1,ov+hi,by rw [Sl u],rfl,t,u,zO⟩
     ·refine zW (jU i v9 o n j l z1 p s) ?_;exact ⟨q-1,rfl,zO,t.ge,zK⟩
   ·obtain ⟨p1,t⟩:=s1 zO;have z1:=uG (a:=q) p1 w;refine zW (jU i v9 o n j l @x @y z1) ?_;refine AnsH.eq (ji C _ r hi 0 ab A zO) fun H4 F=>?_;subst F;have p:(fk r hi 0).1=(r+hi) % B:=by simp [fk]
    have s:(fk r hi 0).2=(r+hi) / B:=by simp [fk]
    refine zW (jU i v9 o n j l z1 p s) ?_;refine iteH.split (fun h=>?_) fun h=>?_
    ·have u:r+hi<B:=by unfold B at *; omega
     refine zW (jU i v9 o n j l z1 p s) ?_;exact ⟨zK,q-1,zO,q-1,r+hi,by rw [Sl u],rfl,t,u,zO⟩
    ·refine zW (jU i v9 o n j l z1 p s) ?_;exact ⟨q-1,rfl,zO,t.ge,zK⟩
end
def FrX.kp {b k:Nat} {H a H2:Heap} (h:FrX b H a) (d:Kp (a.up k) H2):FrX b H H2:=fun c e hc he=>d.get (h c e hc he)
def FrX.put {b:Nat} {e':Ent} {H a:Heap} (h:FrX b H a):FrX b H (a.put b e'):=fun c e hc he=>by rw [au hc]; exact h c e hc he
def FrX.up {b:Nat} {H a:Heap} (h:FrX b H a) (k:Nat):FrX b H (a.up k):=h
def FrX.up0 (b k:Nat) (H:Heap):FrX b H (H.up k):=fun _ _ _ h=>h
def PM {p c:Nat} (hp:p<=340282366920938463426481119284349108225) (hc:c<18446744073709551616) :
  (p / 18446744073709551616+(p % 18446744073709551616+c) / 18446744073709551616) % 18446744073709551616=(p+c) / 18446744073709551616/\(p % 18446744073709551616+c) % 18446744073709551616=(p+c) % 18446744073709551616/\(p+c) / 18446744073709551616<18446744073709551616:=zO
def Q5 {x y:Nat} (hx:x<B) (hy:y<B):x*y<=340282366920938463426481119284349108225 :=
 B5 (X0 (Zp hx) (Zp hy)) zU
def KP {o w l:Nat} (a:o<18446744073709551616) (b:w<18446744073709551616) (hl:l<=1):o+(jF o w l).2*18446744073709551616=(jF o w l).1+w+l/\(jF o w l).1<18446744073709551616:=by
 unfold jF B;simp only;split <;> omega
def qW:∀ {l:List Nat} {m:Nat},Lim l->(∀ i,m<=i->l.getD i 0=0)->val l<B^m
 | [],m,_,_=>by simp only [val]; exact Pm zU
 | a :: t,0,h,hz=>by
  have h0:=hz 0 (o0 _);simp only [Zg] at h0
  have:=qW (l:=t) (m:=0) h.tail fun i _=>by have:=hz (i+1) (xq _); rwa [Yh] at this
  simp only [ZG] at this;have h1:val t=0:=Nat.lt_one_iff.1 this;simp only [val,h0,h1,ZG];decide
 | a :: t,m+1,h,hz=>by
  have b:=qW (l:=t) (m:=m) h.tail fun i hi=>by have:=hz (i+1) zO; rwa [Yh] at this
  have ha:=h.head;simp only [val,Rb];have h2:(val t+1)*B<=B^m*B:=B2 B b;rw [XN,ZC,EV] at h2;refine Eb ?_ h2;rw [Zh];exact Nat.add_lt_add_left ha _
structure TakeI (a q X j:Nat) (L out:List Nat) (c l:Nat):Prop where
 e:val out+B^a*(q*val (L.take j))=X+B^(a+j)*(c+l)
def Of {P A X h i b c l a d o f w g:Nat} (e:h+A=X+P*(c+l)) (k:i+P*o=h+P*f) (h1:g+c=a*b+w) (h2:o+d*b=f+w+l):i+(A+P*g)=X+P*(a*b+d*b):=by
 have j:=congrArg (P * ·) h1;have e5:=congrArg (P * ·) h2;simp only [XH] at e j e5 ⊢
 generalize P*g=x1 at *
 generalize P*(a*b)=x2 at *
 generalize P*(d*b)=m at *
 generalize P*o=x4 at *
 generalize P*f=x5 at *
 generalize P*w=x6 at *
 generalize P*l=n at *
 generalize P*c=p at *
 omega
def Og {P A X f g b c l a o d:Nat} (e:f+A=X+P*(c+l)) (h:g+P*o=f+P*d) (h2:o+a*b=d+c+l):g+A=X+P*(a*b):=by
 have e5:=congrArg (P * ·) h2;simp only [XH] at e e5
 generalize P*(a*b)=i at *
 generalize P*o=x4 at *
 generalize P*d=x5 at *
 generalize P*l=j at *
 generalize P*c=k at *
 omega
def TakeI.step {a q X j c l b d e w:Nat} {L out:List Nat} (I:TakeI a q X j L out c l) (hj:a+j<out.length) (h1:q*L.getD j 0+c=b*B+w) (h2:out.getD (a+j) 0+d*B=e+w+l):TakeI a q X (j+1) L (out.set (a+j) e) b d:=by
 refine ⟨?_⟩;have g:=jl (l:=out) (k:=a+j) (v:=e) hj
 have:=Of I.e g h1 h2
 rw [db,XH,XH];have f:B^a*(q*(B^j*L.getD j 0))=B^(a+j)*(q*L.getD j 0):=by rw [Th,Z6 q,Se]
 have e3:B^(a+(j+1))*(b+d)=B^(a+j)*(b*B+d*B):=by rw [<- XI,Rb,Se,EV B,XN]
 rw [f,e3];exact this
section
variable {tab:Nat->Option aA} {H:Heap}
set_option maxHeartbeats 1000000 in
def Pz (C:Code tab) {H0:Heap} (hk:Kp H0 H) {d rb bb M n a q X:Nat} {x1:Bool} {R L:List Nat} (D:Dv H d rb bb M n x1 R L) (ax:H0.next<=rb) (aw:a+n<M) (hM:M<2199023255552) (hq:q<18446744073709551616) (hX:val R=X) (hz:∀ i,a+n<i->R.getD i 0=0) :
  Ans tab (.fn gQ [.ptr d 0,.int .u64 (q:Int),.int .i64 (a:Int)]) H fun v H'=>∃ (R':List Nat) (l:Nat),v=.bool (decide (0<l))/\l<=1/\Dv H' d rb bb M n x1 R' L/\val R'+B^a*(q*val (L.take n))=X+B^(a+n+1)*l/\(∀ i,a+n<i->R'.getD i 0=0)/\Kp H0 H'/\FrX rb H H':=by
 have ndr:=D.ndr;obtain ⟨hd,hr,hb,lr,ll,ne,limR,limL⟩:=D;have w0:=hk.wf;have ay:=hk.le;have ar:TakeI a q X 0 L R 0 0:=⟨by simp [val,hX]⟩
 clear hX;refine lC C.q184 zU fun T hl e g f=>?_;refine zW (bB hl e g f hd) ?_;refine aq H0 [7,8] (fun j vs H'=>∃ (out:List Nat) (c l:Nat),vs=[.int .u64 (c:Int),.int .u64 (l:Int)]/\H'.get rb=some (.cells (aN out) ae true)/\out.length=M/\Lim out/\c<18446744073709551616/\l<=1/\TakeI a q X j L out c l/\(∀ i,a+n<i->out.getD i 0=0)/\FrX rb H H') (a:=0) (N:=n) rfl (by refine zW (aO hl e g f) ?_; rfl) (zV (aO hl e g f)) (xq _) zO (by simp only [dz,hl]; rfl) rfl (fun _ _ _ _ h=>h) zK
  ⟨R,0,0,by refine zW (aO hl e g f) ?_; rfl,by exact zV hr,lr,limR,by decide,xq _,ar,hz,FrX.up0 _ _ _⟩ ?_ ?_
 ·rintro j T1 U _ hj b J E F ⟨out,c,l,t,b0,aa,P,hc,K,I,ag,A⟩;simp only [dz,hl] at b;simp only [uz,B3,Ae,and_true] at t;obtain ⟨r,s⟩:=t;have w1:=F.wf;have av:=F.le;have d1:U.get d=some (.cells [.own rb 0 M M 1 x1,.own bb 0 n n 1 true] fZ true):=A _ _ ndr hd;have b1:U.get bb=some (.cells (aN L) ae true):=A _ _ (Ne.symm ne) hb;have t0:ad T1 0=.ptr d 0:=(E.at_ 0 zU).trans (zV (aE hl e));have t1:ad T1 1=.int .u64 (q:Int):=(E.at_ 1 zU).trans (zV (bB hl e g f g));have p:ad T1 2=.int .i64 (a:Int):=(E.at_ 2 zU).trans (zV (bB hl e g f f));have S:ad T1 18=.own bb 0 n n 1 true:=(E.at_ 18 zU).trans (zV (aO hl e g f));obtain ⟨y,hy⟩:∃ y,L.getD j 0=y:=⟨_,rfl⟩
  have ap:y<18446744073709551616:=by rw [<- hy]; exact limL.at j
  obtain ⟨o,m⟩:∃ o,out.getD (a+j) 0=o:=⟨_,rfl⟩
  have Q:o<18446744073709551616:=by rw [<- m]; exact P.at _
  refine zW (oK b r s t0 t1 p S J b1 hy) ?_;refine AnsH.use (qw C zF hq ap) ?_;rintro v H2 ⟨rfl,Z⟩;obtain ⟨k2,_,w2⟩:=zT H0 zK Z;have am:FrX rb H H2:=A.kp Z;have d2:=am _ _ ndr hd;have r2:H2.get rb=some (.cells (aN out) ae true):=Z.get b0;have aC:=k2.wf _ _ r2;obtain ⟨q1,q2,q3⟩:=PM (Q5 hq ap) hc;have ab:(q*y+c) % 18446744073709551616<18446744073709551616:=XD _ zU;have V:=XP (q*y+c) 18446744073709551616;obtain ⟨W,ec⟩:∃ W,(q*y+c) / 18446744073709551616=W:=⟨_,rfl⟩
  obtain ⟨lw,ew⟩:∃ lw,(q*y+c) % 18446744073709551616=lw:=⟨_,rfl⟩
  rw [ec] at q1 q3 V;rw [ew] at q2 ab V;obtain ⟨f1,G⟩:=KP (o:=o) (w:=lw) (l:=l) Q ab K;have O:=wL o lw l;obtain ⟨u,z⟩:∃ u,(jF o lw l).1=u:=⟨_,rfl⟩
  obtain ⟨l2,x⟩:∃ l2,(jF o lw l).2=l2:=⟨_,rfl⟩
  rw [z,x] at f1;rw [z] at G;rw [x] at O;have I2:TakeI a q X (j+1) L (out.set (a+j) u) W l2:=I.step zO (w:=lw) (by rw [hy,<- V,EV]) (by rw [m]; exact f1);clear V f1;have ao:IntKind.i64.wrap ((a:Int)+(j:Int))=((a+j:Nat):Int):=by rw [wrap_i64] <;> omega
  refine zW (fX b r s t0 t1 p S J) ?_;refine AnsH.eq (ji C _ (q*y % B) c 0 (XD _ zU) hc zO) fun H3 e3=>?_;subst e3;have ah:(fk (q*y % B) c 0).1=lw:=by simp only [fk,Yj]; exact q2
  have aj:(fk (q*y % B) c 0).2=(q*y % 18446744073709551616+c) / 18446744073709551616:=by simp only [fk,Yj]
  refine zW (ia b r s t0 t1 p S J ah aj q1) ?_;clear ah aj q1 q2;refine aF ?_;refine zD (qQ b r s t0 t1 p S J d2 r2 ao m) ?_;refine AnsH.eq (yF C _ o lw l Q ab K) fun H4 Y=>?_;subst Y;rw [z,x];refine zD (qQ b r s t0 t1 p S J d2 r2 ao m) ?_;refine ⟨zK,_,_,_,rfl,rfl,by simp [aa],kM P G,q3,O,I2,fun i hi=>?_,(am.up _).put⟩;rw [bw zO];exact ag i hi
 ·rintro T1 U b E F ⟨out,c,l,t,b0,aa,P,hc,K,I,ag,A⟩;simp only [dz,hl] at b;simp only [uz,B3,Ae,and_true] at t;obtain ⟨r,s⟩:=t;have w1:=F.wf;have av:=F.le;have aB:=F.wf _ _ b0;have d1:U.get d=some (.cells [.own rb 0 M M 1 x1,.own bb 0 n n 1 true] fZ true):=A _ _ ndr hd;have t0:ad T1 0=.ptr d 0:=(E.at_ 0 zU).trans (zV (aE hl e));have p:ad T1 2=.int .i64 (a:Int):=(E.at_ 2 zU).trans (zV (bB hl e g f f));have af:IntKind.i64.wrap ((a:Int)+(n:Int))=((a+n:Nat):Int):=by rw [wrap_i64] <;> omega
  obtain ⟨o,m⟩:∃ o,out.getD (a+n) 0=o:=⟨_,rfl⟩
  have Q:o<18446744073709551616:=by rw [<- m]; exact P.at _
  obtain ⟨f1,G⟩:=KP (o:=o) (w:=c) (l:=l) Q hc K;have O:=wL o c l;obtain ⟨u,z⟩:∃ u,(jF o c l).1=u:=⟨_,rfl⟩
  obtain ⟨l2,x⟩:∃ l2,(jF o c l).2=l2:=⟨_,rfl⟩
  rw [z,x] at f1;rw [z] at G;rw [x] at O;have hval:val (out.set (a+n) u)+B^a*(q*val (L.take n))=X+B^(a+n+1)*l2:=by
   have t:=jl (l:=out) (k:=a+n) (v:=u) zO;rw [m] at t
   have:=Og I.e t f1
   rw [this,Rb,Se,EV l2]
  clear f1 I;refine zW (fo b t0 p r s d1 af) ?_;refine aF ?_;refine zD (jU b t0 p r s d1 @b0 af m) ?_;refine AnsH.eq (yF C _ o c l Q hc K) fun H4 Y=>?_;subst Y;rw [z,x];refine zD (jU b t0 p r s d1 @b0 af m) ?_;refine ⟨_,l2,rfl,O,⟨?_,al _ _ _,?_,by simp [aa],ll,ne,kM P G,limL⟩,hval,fun i hi=>?_,zK,(A.up _).put⟩
  ·exact zV d1
  ·rw [au (Ne.symm ne)];exact A _ _ (Ne.symm ne) hb
  ·rw [bw zO];exact ag i hi
end
def KS {o y c:Nat} (a:o<18446744073709551616) (hy:y<18446744073709551616) (hc:c<=1):o+y+c=(fk o y c).1+(fk o y c).2*18446744073709551616/\(fk o y c).1<18446744073709551616:=by
 unfold fk B;simp only;omega
def HS {P A X f g b c a o d y:Nat} (e:f+P*c=X+A) (i:g+P*o=f+P*d) (h:o+y+c=d+a*b):g+P*(a*b)=X+(A+P*y):=by
 have e5:=congrArg (P * ·) h;simp only [XH] at e e5 ⊢
 generalize P*(a*b)=j at *
 generalize P*o=x4 at *
 generalize P*d=x5 at *
 generalize P*y=k at *
 generalize P*c=l at *
 omega
structure BackI (a X j:Nat) (L out:List Nat) (c:Nat):Prop where
 e:val out+B^(a+j)*c=X+B^a*val (L.take j)
def BackI.step {a X j c b d:Nat} {L out:List Nat} (I:BackI a X j L out c) (hj:a+j<out.length) (h:out.getD (a+j) 0+L.getD j 0+c=d+b*B):BackI a X (j+1) L (out.set (a+j) d) b:=by
 refine ⟨?_⟩;have e:=jl (l:=out) (k:=a+j) (v:=d) hj
 have:=HS I.e e h
 rw [db,XH,<- Se (B^a),<- Th];have e3:B^(a+(j+1))*b=B^(a+j)*(b*B):=by rw [<- XI,Rb,Se,EV B]
 rw [e3];exact this
section
variable {tab:Nat->Option aA} {H:Heap}
set_option maxHeartbeats 1000000 in
def PA (C:Code tab) {H0:Heap} (V:Kp H0 H) {d rb bb M n a X:Nat} {x1:Bool} {R L:List Nat} (D:Dv H d rb bb M n x1 R L) (ah:H0.next<=rb) (ag:a+n<M) (hM:M<2199023255552) (U:val R=X) (hz:∀ i,a+n<i->R.getD i 0=0) :
  Ans tab (.fn gR [.ptr d 0,.int .i64 (a:Int)]) H fun v H'=>∃ (R':List Nat) (c:Nat),v=.bool (decide (0<c))/\c<=1/\Dv H' d rb bb M n x1 R' L/\val R'+B^(a+n+1)*c=X+B^a*val (L.take n)/\(∀ i,a+n<i->R'.getD i 0=0)/\Kp H0 H'/\FrX rb H H':=by
 have ndr:=D.ndr;obtain ⟨hd,hr,hb,lr,ll,ne,limR,limL⟩:=D;have w0:=V.wf;have aj:=V.le;have aa:BackI a X 0 L R 0:=⟨by simp [val,U]⟩
 clear U;refine bA C.q185 zU fun T hl e f=>?_;refine zW (aO hl e f hd) ?_;refine aq H0 [5] (fun j vs H'=>∃ (out:List Nat) (c:Nat),vs=[.int .u64 (c:Int)]/\H'.get rb=some (.cells (aN out) ae true)/\out.length=M/\Lim out/\c<=1/\BackI a X j L out c/\(∀ i,a+n<i->out.getD i 0=0)/\FrX rb H H') (a:=0) (N:=n) rfl (by refine zW (aD hl e f) ?_; rfl) (zV (aD hl e f)) (xq _) zO (by simp only [dz,hl]; rfl) rfl (fun _ _ _ _ h=>h) zK
  ⟨R,0,by refine zW (aD hl e f) ?_; rfl,by exact zV hr,lr,limR,xq _,aa,hz,FrX.up0 _ _ _⟩ ?_ ?_
 ·rintro j T1 F _ hj g J x u ⟨out,c,b,b0,K,E,hc,I,Q,t⟩;simp only [dz,hl] at g;simp only [uz,B3,Ae,and_true] at b;have w1:=u.wf;have ab:=u.le;have af:=u.wf _ _ b0;have d1:F.get d=some (.cells [.own rb 0 M M 1 x1,.own bb 0 n n 1 true] fZ true):=t _ _ ndr hd;have b1:F.get bb=some (.cells (aN L) ae true):=t _ _ (Ne.symm ne) hb;have t0:ad T1 0=.ptr d 0:=(x.at_ 0 zU).trans (zV (aE hl e));have t1:ad T1 1=.int .i64 (a:Int):=(x.at_ 1 zU).trans (zV (aO hl e f f));have S:ad T1 12=.own bb 0 n n 1 true:=(x.at_ 12 zU).trans (zV (aD hl e f));obtain ⟨y,hy⟩:∃ y,L.getD j 0=y:=⟨_,rfl⟩
  have P:y<18446744073709551616:=by rw [<- hy]; exact limL.at j
  obtain ⟨o,m⟩:∃ o,out.getD (a+j) 0=o:=⟨_,rfl⟩
  have w:o<18446744073709551616:=by rw [<- m]; exact E.at _
  obtain ⟨f1,z⟩:=KS w P hc;have A:=Ay o y c w P hc;obtain ⟨q,s⟩:∃ q,(fk o y c).1=q:=⟨_,rfl⟩
  obtain ⟨p,r⟩:∃ p,(fk o y c).2=p:=⟨_,rfl⟩
  rw [s,r] at f1;rw [s] at z;rw [r] at A;have Z:BackI a X (j+1) L (out.set (a+j) q) p:=I.step zO (by rw [m,hy]; exact f1);clear f1 I;have W:IntKind.i64.wrap ((a:Int)+(j:Int))=((a+j:Nat):Int):=by rw [wrap_i64] <;> omega
  refine zW (fX g b t0 t1 S J b1 hy) ?_;refine aF ?_;refine zD (oK g b t0 t1 S J d1 @b0 W m) ?_;refine AnsH.eq (ji C _ o y c w P hc) fun Y G=>?_;subst G;rw [s,r];refine zD (oK g b t0 t1 S J d1 @b0 W m) ?_;refine ⟨zK,_,_,rfl,rfl,by simp [K],kM E z,A,Z,fun i hi=>?_,(t.up _).put⟩;rw [bw zO];exact Q i hi
 ·rintro T1 F g x u ⟨out,c,b,b0,K,E,hc,I,Q,t⟩;simp only [dz,hl] at g;simp only [uz,B3,Ae,and_true] at b;have w1:=u.wf;have ab:=u.le;have af:=u.wf _ _ b0;have d1:F.get d=some (.cells [.own rb 0 M M 1 x1,.own bb 0 n n 1 true] fZ true):=t _ _ ndr hd;have t0:ad T1 0=.ptr d 0:=(x.at_ 0 zU).trans (zV (aE hl e));have t1:ad T1 1=.int .i64 (a:Int):=(x.at_ 1 zU).trans (zV (aO hl e f f));have O:IntKind.i64.wrap ((a:Int)+(n:Int))=((a+n:Nat):Int):=by rw [wrap_i64] <;> omega
  obtain ⟨o,m⟩:∃ o,out.getD (a+n) 0=o:=⟨_,rfl⟩
  have w:o<18446744073709551616:=by rw [<- m]; exact E.at _
  obtain ⟨f1,z⟩:=KS (y:=0) w zU hc;have A:=Ay o 0 c w zU hc;obtain ⟨q,s⟩:∃ q,(fk o 0 c).1=q:=⟨_,rfl⟩
  obtain ⟨p,r⟩:∃ p,(fk o 0 c).2=p:=⟨_,rfl⟩
  rw [s,r] at f1;rw [s] at z;rw [r] at A;have hval:val (out.set (a+n) q)+B^(a+n+1)*p=X+B^a*val (L.take n):=by
   have b:=jl (l:=out) (k:=a+n) (v:=q) zO;rw [m] at b
   have:=HS I.e b f1
   rw [Rb,Se,EV B];rw [Zq,Yj] at this;exact this
  clear f1 I;refine zW (dj g t0 t1 b d1 O) ?_;refine aF ?_;refine zD (fX g t0 t1 b d1 @b0 O m) ?_;refine AnsH.eq (ji C _ o 0 c w zU hc) fun Y G=>?_;subst G;rw [s,r];refine zD (fX g t0 t1 b d1 @b0 O m) ?_;refine ⟨_,p,rfl,A,⟨?_,al _ _ _,?_,by simp [K],ll,ne,kM E z,limL⟩,hval,fun i hi=>?_,zK,(t.up _).put⟩
  ·exact zV d1
  ·rw [au (Ne.symm ne)];exact t _ _ (Ne.symm ne) hb
  ·rw [bw zO];exact Q i hi
end
def GL {y n:Nat} (h:(ah y).length=n+1):B^n<=y:=by
 have:=At (dK y) (fun e=>by rw [e] at h; simp at h)
 rw [bM,h] at this;exact this
def Fh {x y:Nat} (h:(ah x).length<(ah y).length):x<y:=by
 obtain ⟨n,hn⟩:∃ n,(ah y).length=n+1:=⟨(ah y).length-1,zO⟩
 exact Eb (iM x) (B5 (JR zU zO) (GL hn))
def Fi {y n:Nat} (h1:B^n<=y) (h2:y<B^(n+1)):(ah y).length=n+1:=by
 refine Y3 (br h2) ?_
 apply Y6
 intro h;have h3:y<B^n:=Eb (iM y) (JR zU zO);exact absurd h1 (Nat.not_le_of_lt h3)
def Mq {y:Nat} (h:(ah y).length=1):y<B/\(ah y).getD 0 0=y:=by
 have h1:=iM y;rw [h,Nat.pow_one] at h1;refine ⟨h1,?_⟩;rw [jh,ZG,Nat.div_one,Sl h1]
section
variable {b y m z top P:Nat}
def OQ (a:P=2^(64-z)*2^z) (h1:top*2^z<P) (e:top*b<=y) (f:y<(top+1)*b) {c:Nat} (h2:c<=top*2^z):y*2^z<P*b/\c*b<=y*2^z:=by
 have p2:0<2^z:=Pm zU;have d:top+1<=2^(64-z):=by
  rw [a] at h1;exact Nat.lt_of_mul_lt_mul_right h1
 refine ⟨?_,?_⟩
 ·refine Eb (YT f p2) ?_;rw [ZF];refine B2 b ?_;rw [a];exact B2 _ d
 ·refine B5 (B2 b h2) ?_;rw [ZF];exact B2 _ e
end
def IZ {y m z top:Nat} (hl:(ah y).length=m+2) (c:(ah y).getD (m+1) 0=top) (hz:z<64) (h1:top*2^z<18446744073709551616) (h2:9223372036854775808<=top*2^z) :
  y*2^z<B^(m+2)/\(ah (y*2^z)).length=m+2/\9223372036854775808*B^(m+1)<=y*2^z:=by
 have hy:=iM y;rw [hl] at hy;have e:y / B^(m+1)=top:=by
  rw [<- c,jh,Sl]
  apply (Jr (Pm zU)).2
  rw [EV,<- Rb]; exact hy
 have hp:0<B^(m+1):=Pm zU;have d:top*B^(m+1)<=y:=by rw [<- e]; exact Nat.div_mul_le_self _ _
 have f:y<(top+1)*B^(m+1):=(Jr hp).1 (by rw [e]; exact ZS _);have b:(18446744073709551616:Nat)=2^(64-z)*2^z:=by
  rw [<- Th,show 64-z+z=64 by omega]
 obtain ⟨q1,q2⟩:=OQ b h1 d f h2;have a:18446744073709551616*B^(m+1)=B^(m+2):=by rw [Rb B (m+1),EV]
 rw [a] at q1;refine ⟨q1,Fi ?_ q1,q2⟩;exact B5 (Nat.le_mul_of_pos_left _ zU) q2
def F9 {x z V m k a:Nat} (c:(ah x).length=a) (hz:z<64) (hV:9223372036854775808*B^(m+1)<=V) (b:m+1+k=a):x*2^z<V*B^k:=by
 have hx:=iM x;rw [c] at hx;have h1:2^z<=9223372036854775808:=B5 (JR zU (show z<=63 by omega)) zU;have h2:x*2^z<B^a*9223372036854775808:=by
  refine Eb (YT hx (Pm zU)) (YY _ h1)
 refine Eb h2 ?_;refine B5 (Zm ?_) (B2 _ hV);rw [Se,<- Th,b,EV]
structure DivI (X V k:Nat) (Q R:List Nat):Prop where
 eq:X=V*val Q+val R
 lt:val R<V*B^k
 zero:∀ i,i<k->Q.getD i 0=0
def DivI.zeros {X V k m:Nat} {Q R:List Nat} (I:DivI X V k Q R) (hV:V<B^m) (a:Lim R):∀ i,k+m<=i->R.getD i 0=0:=fun i hi=>by
 rw [oM a];have h1:val R<B^i:=by
  refine Eb I.lt (B5 (B2 _ (Ys hV)) ?_);rw [<- Th];exact JR zU zO
 rw [YG h1,Nat.zero_mod]
def rX (Z:Nat):Z=Z / B*B+Z % B:=by rw [EV]; exact (XP Z B).symm
def DivI.guess {X V a m:Nat} {Q R L:List Nat} (I:DivI X V (a+1) Q R) (hV:V<B^(m+2)) (c:Lim R) (h0:0<V) (hL:∀ i,i<m+2->L.getD i 0=V / B^i % B) :
  GuessH V (val R / B^a) (B^m) (R.getD (a+(m+2)) 0) (R.getD (a+(m+1)) 0) (R.getD (a+m) 0) (L.getD (m+1) 0) (L.getD m 0):=by
 have hp:∀ j,0<B^j:=fun j=>Pm zU;have b:∀ Y j,Y / B^(j+1)=Y / B^j / B:=fun Y j=>by rw [Rb,XL]
 refine ⟨?_,?_,?_,h0⟩
 ·rw [hL _ zO,hL _ zO,b V m];have h1:V / B^m / B % B=V / B^m / B:=by
   rw [<- b]
   apply Sl
   apply (Jr (hp _)).2
   rw [EV,<- Rb]; exact hV
  rw [h1,<- rX];exact Nat.div_mul_le_self _ _
 ·rw [oM c,oM c,oM c];have e:val R / B^(a+(m+1))=val R / B^(a+m) / B:=by rw [<- XI,b]
  have d:val R / B^(a+(m+2))=val R / B^(a+m) / B / B:=by
   rw [show a+(m+2)=a+m+1+1 by omega,b,b]
  have e3:val R / B^(a+m) / B / B % B=val R / B^(a+m) / B / B:=by
   rw [<- d]
   apply Sl
   apply (Jr (hp _)).2
   refine Eb I.lt (B5 (B2 _ (Ys hV)) ?_);rw [<- Th,EV,<- Rb];exact JR zU zO
  rw [d,e3,e,<- rX,<- rX];have f:val R / B^(a+m)=val R / B^a / B^m:=by rw [XL,Th]
  rw [f];exact (Jr (hp m)).1 (ZS _)
 ·apply (Jr (hp a)).2
  refine Eb I.lt (Zm ?_);rw [Rb,EV (B^a),Se]
structure SubI (XR V a n:Nat) (R:List Nat) (q l:Nat):Prop where
 e:val R+B^a*(q*V)=XR+B^(a+n+1)*l
 ge:XR / B^a / V<=q
section
variable {XR V A q vr vr' W c:Nat}
def QV (e:vr+A*(q*V)=XR+W*1) (hlt:vr<W) (hV:0<V) (hA:0<A) (hb:vr'+W*c=vr+A*V) (hc:c<=1):0<q/\XR / A / V<=q-1/\vr'+A*((q-1)*V)=XR+W*(1-c):=by
 have h1:XR / A / V<q:=by
  rw [XL]
  apply (Jr (Nat.mul_pos hA hV)).2
  have:q*(A*V)=A*(q*V):=by rw [Z6]
  rw [this]
  generalize A*(q*V)=t at *
  omega
 have h0:0<q:=XK (xq _) h1;refine ⟨h0,ZR h1,?_⟩;obtain ⟨p,rfl⟩:∃ p,q=p+1:=⟨q-1,zO⟩
 rw [YP];rw [XN,ZC,XH] at e;have a:c=0\/c=1:=zO;rcases a with rfl | rfl
 ·simp only [Zq,Yb,Yj,Nat.sub_zero] at *;omega
 ·simp only [Zq,Yb,Yj,Nat.sub_self] at *;omega
def RF (e:vr+A*(q*V)=XR) (hge:XR / A / V<=q) (hV:0<V) (hA:0<A):vr<V*A:=by
 have h1:q<=XR / (A*V):=by
  apply (Nat.le_div_iff_mul_le (Nat.mul_pos hA hV)).2
  rw [Z6,<- e];exact Nat.le_add_left _ _
 rw [XL] at hge;have h2:=Y3 h1 hge;have h3:=XP XR (A*V);rw [<- h2] at h3;have h4:=XD XR (Nat.mul_pos hA hV);have h5:A*V*q=A*(q*V):=by rw [Se,EV V]
 rw [h5] at h3;rw [EV V];omega
end
def SubI.pos {XR V a n q:Nat} {R:List Nat} (I:SubI XR V a n R q 1) (hlt:val R<B^(a+n+1)):0<q:=by
 apply Nat.pos_of_ne_zero
 intro h;have e:=I.e;rw [h,Z0,Zq,Yj,Yb] at e;rw [e] at hlt;exact absurd hlt (Nat.not_lt_of_le (Nat.le_add_left _ _))
def SubI.back {XR V a n q c:Nat} {R R':List Nat} (I:SubI XR V a n R q 1) (hlt:val R<B^(a+n+1)) (hV:0<V) (hb:val R'+B^(a+n+1)*c=val R+B^a*V) (hc:c<=1):0<q/\SubI XR V a n R' (q-1) (1-c):=by
 obtain ⟨h1,h2,h3⟩:=QV I.e hlt hV (Pm zU) hb hc;exact ⟨h1,h3,h2⟩
def DivI.next {X V a n q:Nat} {Q R R':List Nat} (I:DivI X V (a+1) Q R) (S:SubI (val R) V a n R' q 0) (hV:0<V) (ha:a<Q.length):DivI X V a (Q.set a q) R':=by
 have e:=S.e;rw [Zq,Yj] at e;refine ⟨?_,RF e S.ge hV (Pm zU),fun i hi=>?_⟩
 ·have b:=jl (l:=Q) (k:=a) (v:=q) ha;rw [I.zero a (ZS a),Zq,Yj] at b;rw [b,I.eq,<- e,XH]
  have:V*(B^a*q)=B^a*(q*V):=by rw [Z6,EV V]
  rw [this];omega
 ·rw [bw zO];exact I.zero i zO
def DivI.fin {x y P:Nat} {Q R:List Nat} (a:0<P) (I:DivI (x*P) (y*P) 0 Q R):val Q=x / y/\val R=x % y*P:=by
 have e:=I.eq;have l:=I.lt;rw [ZG,Yb] at l;have b:0<y*P:=XK (xq _) l;have h1:x*P / (y*P)=val Q:=by
  rw [e,EV (y*P),Zh,Nat.add_mul_div_right _ _ b,YG l,RO]
 have h2:x*P % (y*P)=val R:=by
  rw [e,Nat.mul_add_mod_self_left,Sl l]
 rw [Nat.mul_div_mul_right _ _ a] at h1;rw [Nat.mul_mod_mul_right] at h2;exact ⟨h1.symm,h2.symm⟩
end Go.Proofs.YteaefaohjlmjdaaGreat.Ev
