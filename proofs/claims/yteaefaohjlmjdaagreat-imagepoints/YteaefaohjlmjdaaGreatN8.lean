/- A part. -/
import Derived.Test.YteaefaohjlmjdaaGreatA0
import Derived.Test.YteaefaohjlmjdaaGreatKit
import Derived.KernelRfl
namespace Go.Proofs.YteaefaohjlmjdaaGreat.Ev
open Go Nn
set_option linter.all false
def jl:∀ {l:List Nat} {k v:Nat},k<l.length->val (l.set k v)+B^k*l.getD k 0=val l+B^k*v
 | a :: l,0,v,_=>by simp [val]; omega
 | a :: l,k+1,v,h=>by
  have b:=jl (l:=l) (k:=k) (v:=v) (by simpa using h);simp only [List.set_cons_succ,val,XD,WO]
  have:=congrArg (B * ·) b
  simp only [W8] at this;rw [Wq (B^k) B,WV,WV];omega
def kM {l:List Nat} (h:Lim l) {k v:Nat} (b:v<B):Lim (l.set k v):=fun a ha=>by
 rcases XM ha with h1 | h1
 ·exact h a h1
 ·rw [h1]; exact b
section
variable {tab:Nat->Option aA} {H:Heap} {s:AV} {l:List Nat}
def SlV.clipat {α:Type} {E:fQ α} {ty:Nat} {v:AV} {l:List α} (hs:SlV E ty H v l) (k j:IntKind) (n:Nat) (hn:n<=l.length):∃ d,cG E.sz v none (some (.int k (n:Int))) (some (.int j (n:Int)))=some d/\SlV E ty H d (l.take n):=by
 obtain ⟨cells,hr,u,hc⟩:=hs;obtain ⟨m,hm,p⟩:=hr.length;have q:m=l.length:=XX E.pos (by rw [<- p,hc.1]);subst q;obtain ⟨h0,h1,m',h2,h3⟩:=hr;rw [hm] at h2; cases h2;have g:n*E.sz<=l.length*E.sz:=Wh _ hn;have i:∀ x y z,cG E.sz v x y z=bW E.sz v x y z:=fun x y z=>by cases v <;> first | rfl | exact absurd rfl (h1 _)
 rw [i]
 suffices ∃ d,bW E.sz v none (some (.int k (n:Int))) (some (.int j (n:Int)))=some d/\Rd H E.sz d (cells.take (n*E.sz)) by
  obtain ⟨d,e,hr⟩:=this;exact ⟨d,e,_,hr,sR u (by rw [i]; exact e),hc.take hn⟩
 cases v with
 | own b off n' c B ex =>
  simp only [im,WP] at hm;subst hm;simp only [aP] at h3;split at h3
  ·rename_i cs ty A hb;split at h3
   ·rename_i f;obtain ⟨t,-,hcl⟩:=f;subst t;cases h3;have w:l.length<=c:=h0;have o:((cs.drop off).take (l.length*E.sz)).take (n*E.sz)=(cs.drop off).take (n*E.sz):=by rw [Yp,Xf g]
    rw [o];have hp:bW E.sz (.own b off l.length c E.sz ex) none (some (.int k (n:Int))) (some (.int j (n:Int)))=some (if n=0 then .own b off 0 0 E.sz true else .own b off n n E.sz true):=by
     simp only [bW,gE,ne_eq,not_true_eq_false,if_false,V3,Xt,X0,XQ];rw [if_pos ⟨zO,V6 _,Wd _⟩];by_cases a:n=0
     ·rw [if_pos a,if_pos a]; simp [a]
     ·rw [if_neg a,if_neg a]; simp
    refine ⟨_,hp,?_⟩;by_cases a:n=0
    ·rw [if_pos a,a];refine ⟨V6 _,(fun s h=>by cases h),0,rfl,?_⟩;simp only [aP,hb];rw [if_pos ⟨trivial,V6 _,by simp; omega⟩]
    ·rw [if_neg a];refine ⟨V6 _,(fun s h=>by cases h),n,rfl,?_⟩;simp only [aP,hb];rw [if_pos ⟨trivial,V6 _,zO⟩]
   ·cases h3
  ·cases h3
 | sl cs n' =>
  simp only [im,WP] at hm;subst hm;simp only [aP] at h3;split at h3
  ·rename_i f;cases h3;have hcl:=f.2;refine ⟨.sl (cs.take (n*E.sz)) n,?_,trivial,(fun s h=>by cases h),n,rfl,?_⟩
   ·simp only [bW,gE,V3,Xt,X0,XQ];rw [if_pos ⟨hn,V6 _,Wd _,zO⟩]
    simp
   ·simp only [aP];rw [if_pos ⟨V6 _,by simp only [WE]; omega⟩];rw [Yp,Yp,Nat.min_self,Xf g]
  ·cases h3
 | nilSl =>
  simp only [im,WP] at hm;have r:n=0:=zO;subst r;simp only [aP] at h3;split at h3
  ·cases h3;exact ⟨.nilSl,rfl,trivial,(fun s h=>by cases h),0,rfl,by simp [aP]⟩
  ·cases h3
 | str s=>exact absurd rfl (h1 s)
 | _=>simp [im] at hm
def GB (C:Code tab) (G:Wf H) (hs:Lb H s l) (F:l.length<4611686018427387904) :
  Ans tab (.fn uP [s]) H fun v H'=>Lb H' v (fc l)/\Kp H H':=by
 refine cT C.q139 zU fun T hl j=>?_;refine zW (aD hl j hs.lenV) ?_;refine cu H [3] (fun k vs H'=>vs=[.int .i64 (k:Int)]/\fc (l.take k)=fc l/\k<=l.length) l.length (by simp only [VX]; exact hl) rfl zK ⟨by exact zV (aE hl j),by rw [WF],V6 _⟩ ?_;rintro k T1 r g E d ⟨f,p,n⟩;have w1:=d.wf;have I:=d.le;simp only [V9,Wg,Wb,and_true] at f;have t0:ad T1 0=s:=(E.at_ 0 zU).trans (zV (aE hl j));have fin:∀ (m:Nat),fc (l.take k)=l.take k->∀ c,cG 1 s none (some (.int .i64 (k:Int))) (some (.int .i64 (k:Int)))=some c->Lb H c (l.take k)->Lb (r.up m) c (fc l):=fun m h1 c _ h2=>by
  rw [<- p,h1]; exact h2.mono (d.up m).sub
 obtain ⟨c,e,hr⟩:=SlV.clipat hs .i64 .i64 k n;have e':cG 1 s none (some (.int .i64 (k:Int))) (some (.int .i64 (k:Int)))=some c:=e;rcases Ye (l.take k) with h0 | ⟨b,a,h0⟩
 ·have y:k=0:=by
   have:=congrArg List.length h0; simp at this; rcases this with h | h
   ·exact h
   ·subst h; simpa using n
  subst y;have z:¬ (0:Int)<((0:Nat):Int):=zO;refine zW (bB g f t0 z e') ?_;exact ⟨fin _ (by simp; rfl) _ e' hr,zK⟩
 ·rw [Yf] at h0;have A:k=b.length+1:=by have:=congrArg List.length h0; simp at this; omega
  subst A;have B:l.take b.length=b:=by
   have:=congrArg (List.take b.length) h0
   rw [Yp,Xf zO] at this
   simpa using this
  have q:IntKind.i64.wrap (((b.length+1:Nat):Int)-1)=(b.length:Int):=by rw [wrap_i64] <;> omega
  have D:0<b.length+1:=zO;have x:=SlV.idx1 (hs.mono d.sub) .i64 b.length zO;have w:l.getD b.length 0=a:=by
   have this:(l.take (b.length+1)).getD b.length 0=(b++[a]).getD b.length 0:=by rw [h0]
   rw [VY,Wt,if_pos zO,<- VY] at this;rw [this]; simp [VY]
  have o:=fM (hs.mono d.sub) (i:=b.length) zO;rw [w] at o;refine zW (fo g f t0 D x o q) ?_;refine iteH.split (fun ha=>?_) fun ha=>?_
  ·have u:a=0:=zO;subst u;refine zW (aO g f t0 q) ?_;refine ⟨zK,b.length,zO,rfl,?_,zO⟩;rw [B,<- p,h0,eQ]
  ·have t:a≠0:=zO;refine zW (aO g f t0 e') ?_;exact ⟨fin _ (by rw [h0,jp t]) _ e' hr,zK⟩
def Ge {x y o c:Nat} (hx:x<B) (hy:y<B) (a:o<B) (hc:c<B) :
  (fk (fk (x*y % B) o 0).1 c 0).1+B*(((x*y / B+(fk (x*y % B) o 0).2) % B+(fk (fk (x*y % B) o 0).1 c 0).2) % B)=x*y+o+c:=by
 have hp:x*y<=18446744073709551615*18446744073709551615:=Xq (by unfold B at hx; omega) (by unfold B at hy; omega);simp only [fk,B] at *
 generalize x*y=p at *
 omega
def IE {out b:List Nat} {i j x c e d a:Nat} (hlt:i+j<out.length) (f:val out+B^(i+j)*c=e+B^i*x*val (b.take j)) (he:d+B*a=x*b.getD j 0+out.getD (i+j) 0+c) :
  val (out.set (i+j) d)+B^(i+(j+1))*a=e+B^i*x*val (b.take (j+1)):=by
 have h1:=jl (l:=out) (k:=i+j) (v:=d) hlt;rw [db];have h2:B^(i+(j+1))*a=B^(i+j)*(B*a):=by rw [<- W9,WO,WV]
 have h3:B^i*x*(val (b.take j)+B^j*b.getD j 0)=B^i*x*val (b.take j)+B^(i+j)*(x*b.getD j 0):=by rw [W8,W0]; grind
 rw [h2,h3];have h4:=congrArg (B^(i+j) * ·) he;simp only [W8] at h4
 generalize B^(i+j)*(B*a)=q1 at *
 generalize B^(i+j)*d=q2 at *
 generalize B^(i+j)*(x*b.getD j 0)=q3 at *
 generalize B^(i+j)*c=q4 at *
 generalize B^(i+j)*out.getD (i+j) 0=q5 at *
 omega
def bw {l:List Nat} {i k v:Nat} (h:i≠k):(l.set i v).getD k 0=l.getD k 0:=by
 rw [VY,VY,Yc,if_neg h]
def I8 (C:Code tab) (hw:Wf H) {sa sb:AV} {a b:List Nat} (ha:Lb H sa a) (hb:Lb H sb b) (aj:a.length<1099511627776) (al:b.length<1099511627776) (la:Lim a) (lb:Lim b) :
  Ans tab (.fn pV [sa,sb]) H fun v H'=>Lb H' v (ah (val a*val b))/\Kp H H':=by
 refine bA C.q121 zU fun T hl n f=>?_;have O:IntKind.i64.wrap ((a.length:Int)+(b.length:Int))=((a.length+b.length:Nat):Int):=by rw [wrap_i64] <;> omega
 obtain ⟨N,S⟩:∃ N,a.length+b.length=N:=⟨_,rfl⟩
 rw [S] at O;have Z:∀ H' id,Ja H' id ae 1 8 [.int .u64 0] (.int .i64 (N:Int)) (.int .i64 (N:Int))=some (.own id 0 N N 1 true,H'.put id (.cells (aN (List.replicate N 0)) ae true)):=fun H' id=>by
  exact (iS H' id ae 1 8 [.int .u64 0] .i64 .i64 N zO zO rfl).trans (by rw [mX])
 refine zW (fo hl n f ha.lenV hb.lenV O Z) ?_;refine aq H [] (fun i vs H'=>∃ out,H'.get (H.next+6)=some (.cells (aN out) ae true)/\out.length=N/\Lim out/\val out=val (a.take i)*val b/\∀ k,i+b.length<=k->out.getD k 0=0) (a:=0) (N:=a.length) rfl (by refine zW (aD hl n f) ?_; rfl) (zV (aD hl n f)) (Wd _) zO (by simp only [VX,hl]; rfl) rfl (fun _ _ _ _ h=>h) zK
  ⟨List.replicate N 0,by exact cC,by simp,Lim.replicate N,by rw [fY]; simp [val],fun k _=>by simp [VY,W7]; split <;> rfl⟩ ?_ ?_
 ·rintro i T1 J _ hi d U t q ⟨out,D,E,F,hval,hz⟩;simp only [VX,hl] at d;have w1:=q.wf;have aa:=q.le;have t5:ad T1 5=.own (H.next+6) 0 N N 1 true:=(t.at_ 5 zU).trans (zV (aD hl n f));have t1:ad T1 1=sb:=(t.at_ 1 zU).trans (zV (aO hl n f f));have ag:ad T1 20=sa:=(t.at_ 20 zU).trans (zV (aD hl n f));have V:=SlV.idx1 ha .i64 i hi;have Y:=fM (ha.mono q.sub) hi;refine zW (fX d t5 t1 ag U V Y hb.lenV) ?_;have P:=la.at i;refine aq H [8] (fun j vs H'=>∃ o c:_,vs=[.int .u64 ((c:Nat):Int)]/\H'.get (H.next+6)=some (.cells (aN o) ae true)/\o.length=N/\Lim o/\c<B/\val o+B^(i+j)*c=val (a.take i)*val b+B^i*a.getD i 0*val (b.take j)/\∀ k,i+b.length<=k->o.getD k 0=0) (a:=0) (N:=b.length) rfl (by refine zW d ?_; rfl) (zV d) (Wd _) zO (by simp only [VX,d]; rfl) rfl (fun _ _ _ _ h=>h) zK
   ⟨out,0,by refine zW d ?_; rfl,D,E,F,by decide,by simp [hval,val],hz⟩ ?_ ?_
  ·rintro j T2 H2 _ hj g w m e ⟨o,c,p,c6,G,x,hc,I,y⟩;simp only [VX,d] at g;simp only [V9,Wg,Wb,and_true] at p;have w2:=e.wf;have ab:=e.le;have r:ad T2 5=.own (H.next+6) 0 N N 1 true:=(m.at_ 5 zU).trans (zV (aE d t5));have s:ad T2 6=.int .i64 (i:Int):=(m.at_ 6 zU).trans (zV d);have A:ad T2 7=.int .u64 ((a.getD i 0:Nat):Int):=(m.at_ 7 zU).trans (zV d);have z:ad T2 27=sb:=(m.at_ 27 zU).trans (zV (aE d t1));have X:=SlV.idx1 hb .i64 j hj;have W:=fM (hb.mono e.sub) hj;have Q:=lb.at j;have u:IntKind.i64.wrap ((i:Int)+(j:Int))=((i+j:Nat):Int):=by rw [wrap_i64] <;> omega
   have M:=x.at (i+j);refine zW (fX g r s A z w X W) ?_;refine AnsH.use (qw C zF P Q) ?_;rintro v H3 ⟨rfl,L⟩;obtain ⟨k3,_,w3⟩:=zT H zK L;have d6:=L.get (b:=H.next+6) c6;refine zW (jU g r s A z w p u d6) ?_;refine AnsH.eq (ji C _ (a.getD i 0*b.getD j 0 % B) (o.getD (i+j) 0) 0 (W4 _ zU) M zO) fun R e4=>?_;subst e4;refine zW (jU g r s A z w p u d6) ?_;refine AnsH.eq (ji C _ (fk (a.getD i 0*b.getD j 0 % B) (o.getD (i+j) 0) 0).1 c 0 (W4 _ zU) hc zO) fun R e4=>?_;subst e4;have af:=k3.wf _ _ d6;refine zW (jU g r s A z w p u d6) ?_;have hs:=Ge P Q M hc;refine ⟨zK,_,_,rfl,rfl,by simp [G],kM x (W4 _ zU),W4 _ zU,IE zO I hs,fun k K=>?_⟩;rw [bw zO];exact y k K
  ·intro T2 H2 g m e ⟨o,c,p,c6,G,x,hc,I,y⟩;simp only [VX,d] at g;simp only [V9,Wg,Wb,and_true] at p;have w2:=e.wf;have ab:=e.le;have r:ad T2 5=.own (H.next+6) 0 N N 1 true:=(m.at_ 5 zU).trans (zV (aE d t5));have s:ad T2 6=.int .i64 (i:Int):=(m.at_ 6 zU).trans (zV d);have u1:ad T2 1=sb:=(m.at_ 1 zU).trans (zV (aE d t1));have u:IntKind.i64.wrap ((i:Int)+(b.length:Int))=((i+b.length:Nat):Int):=by rw [wrap_i64] <;> omega
   have af:=e.wf _ _ c6;refine zW (fX g r s u1 p u c6 hb.lenV) ?_;have h1:=jl (l:=o) (k:=i+b.length) (v:=c) zO;rw [y _ (V6 _)] at h1;rw [WG (V6 _)] at I;refine ⟨zK,_,rfl,by simp [G],kM x hc,?_,fun k K=>?_⟩
   ·rw [db,Xe]; omega
   ·rw [bw zO];exact y k zO
 ·intro T1 J d t q ⟨out,D,E,F,hval,hz⟩;simp only [VX,hl] at d;have w1:=q.wf;have aa:=q.le;have t5:ad T1 5=.own (H.next+6) 0 N N 1 true:=(t.at_ 5 zU).trans (zV (aD hl n f));rw [WG (V6 _)] at hval;have ho:=(ww (H0:=H) (ex:=true) D zO E).sl;refine zW (aE d t5) ?_;refine AnsH.use (GB C zF (ho.mono (Sub.bump J _)) zO) ?_;rintro v H2 ⟨h2,e⟩;obtain ⟨k2,_,_⟩:=zT H zK e;rw [eW F,hval] at h2;refine zW d ?_;exact ⟨h2,zK⟩
end
def BS {n m:Nat} (h:n<=m):(ah n).length<=(ah m).length:=br (Xb h (iM m))
def Sm.mono {n m:Nat} (h:n<=m) (hm:Sm m):Sm n:=Xb (BS h) hm
def mV:∀ (k n:Nat),(ah n).drop k=ah (n / B^k)
 | 0,n=>by simp
 | k+1,n=>by
  by_cases h:n=0
  ·subst h; simp [cR]
  ·rw [kz h,List.drop_succ_cons,mV k,Xc,WO,Wq B]
def qV:∀ (k n:Nat),val ((ah n).take k)=n % B^k
 | 0,n=>by simp [val,Nat.mod_one]
 | k+1,n=>by
  by_cases h:n=0
  ·subst h; simp [cR,val]
  ·rw [kz h,List.take_succ_cons,val,qV k,WO,Wq (B^k),Nat.mod_mul]
def GK {n:Nat} (h:n≠0) (k:Nat):List.replicate k 0++ah n=ah (n*B^k):=by
 have hne:ah n≠[]:=fun h1=>h (limbs_nil.1 h1);rw [<- yl (l:=List.replicate k 0++ah n) ((Lim.replicate k).append (aY n)) ?_,pF,fY,bM,Xv,WT,Wq];unfold Np;rw [List.getLast?_append];have hn:=dK n;unfold Np at hn;cases hg:(ah n).getLast? with
 | none=>exact absurd (List.getLast?_eq_none_iff.1 hg) hne
 | some a=>rw [hg] at hn; simpa using hn
section
variable {tab:Nat->Option aA} {H:Heap} {s:AV}
def eO (H:Heap):bO H .nilSl 0:=by
 show AD cr ae H .nilSl (ah 0);rw [cR]; exact SlV.nil _ _ _
def nS (ls:List Nat) {j:Nat} (hj:j<ls.length):(ls.take (j+1)).sum=(ls.take j).sum+ls[j]:=by
 rw [We hj,List.sum_append]; simp only [Y7,List.sum_nil,XH]
def yR (ls:List Nat):∀ j,(ls.take j).sum<=ls.sum:=fun j=>by
 conv=>rhs; rw [<- ZD j ls,List.sum_append]
 omega
def E8 (C:Code tab) (y:Wf H) {ls:List Nat} {ty:Nat} (hs:AD (tT (bU cr) ae) ty H s (ls.map ah)) (x:ls.length<4611686018427387904) (w:Sm ls.sum) :
  Ans tab (.fn xY [s]) H fun v H'=>bO H' v ls.sum/\Kp H H':=by
 refine cT C.q123 zU fun T hl d=>?_;have l:=hs.lenV;rw [V7] at l;refine zW (aD hl d l) ?_;refine aq H [2] (fun j vs H'=>∃ v,vs=[v]/\bO H' v (ls.take j).sum) (a:=0) (N:=ls.length) rfl (by refine zW (aE hl d) ?_; rfl) (zV (aE hl d)) (Wd _) zO (by simp only [VX,hl]; rfl) rfl (fun _ _ _ _ h=>h) zK ⟨.nilSl,by exact zV (aE hl d),eO _⟩ ?_ ?_
 ·rintro j T1 g _ hj b p m e ⟨v,f,hn⟩;simp only [V9,Wg,Wb,and_true] at f;simp only [VX,hl] at b;have w1:=e.wf;have z:=e.le;have t5:ad T1 5=s:=(m.at_ 5 zU).trans (zV (aE hl d));obtain ⟨c,n,t⟩:=SlV.at1 (hs.mono e.sub) (i:=j) (a:=ah ls[j]) (by simp [hj]);have q:=SlV.idx1 hs .i64 j (by simpa using hj);have k:Sm (ls.take (j+1)).sum:=w.mono (yR ls _);rw [nS ls hj] at k;refine zW (dj b t5 p q t f) ?_;refine AnsH.use (Kn C zF (hn.mono (zG g)) (SlV.mono (zG g) n) (k.mono zO) (k.mono zO)) ?_;rintro v2 H2 ⟨o,rfl,u,r⟩;obtain ⟨k2,_,_⟩:=zT H zK r;refine zW b ?_;refine ⟨zK,o,rfl,?_⟩;rw [nS ls hj]; exact u
 ·rintro T1 g b m e ⟨v,f,hn⟩;simp only [V9,Wg,Wb,and_true] at f;simp only [VX,hl] at b;rw [WG (V6 _)] at hn;refine zW (aE b f) ?_;exact ⟨hn,e⟩
def OY (C:Code tab) (E:Wf H) {a:AV} {n:Nat} {ls:List Nat} {ty:Nat} (ha:bO H a n) (hs:AD (tT (bU cr) ae) ty H s (ls.map ah)) (A:ls.length<4611686018427387904) (p:Sm n) (B:ls.sum<=n) :
  Ans tab (.fn uQ [a,s]) H fun v H'=>bO H' v (n-ls.sum)/\Kp H H':=by
 refine bA C.q124 zU fun T hl d e=>?_;have l:=hs.lenV;rw [V7] at l;refine zW (aO hl d e l) ?_;refine aq H [0] (fun j vs H'=>∃ v,vs=[v]/\bO H' v (n-(ls.take j).sum)) (a:=0) (N:=ls.length) rfl (by refine zW (aD hl d e) ?_; rfl) (zV (aD hl d e)) (Wd _) zO (by simp only [VX,hl]; rfl) rfl (fun _ _ _ _ h=>h) zK ⟨a,by exact zV (aE hl d),ha.mono (zG H)⟩ ?_ ?_
 ·rintro j T1 g _ hj b r m k ⟨v,f,hn⟩;simp only [V9,Wg,Wb,and_true] at f;simp only [VX,hl] at b;have w1:=k.wf;have F:=k.le;have z:ad T1 7=s:=(m.at_ 7 zU).trans (zV (aO hl d e e));obtain ⟨c,q,w⟩:=SlV.at1 (hs.mono k.sub) (i:=j) (a:=ah ls[j]) (by simp [hj]);have t:=SlV.idx1 hs .i64 j (by simpa using hj);have D:=yR ls (j+1);have y:=nS ls hj;refine zW (dj b z r t w f) ?_;refine AnsH.use (E6 C zF (hn.mono (zG g)) (SlV.mono (zG g) q) (p.mono zO) (p.mono zO)) ?_;rintro v2 H2 ⟨u,hr⟩;rw [if_pos zO] at hr;obtain ⟨o,rfl,x⟩:=hr;obtain ⟨k2,_,_⟩:=zT H zK u;refine zW b ?_;refine ⟨zK,o,rfl,?_⟩;rw [y,<- Nat.sub_sub]; exact x
 ·rintro T1 g b m k ⟨v,f,hn⟩;simp only [V9,Wg,Wb,and_true] at f;simp only [VX,hl] at b;rw [WG (V6 _)] at hn;refine zW (aE b f) ?_;exact ⟨hn.mono (Sub.bump g _),zK⟩
def OX (C:Code tab) (o:Wf H) {a:AV} {n k:Nat} (ha:bO H a n) (m:Sm n) (q:k<4398046511104) :
  Ans tab (.fn BJ [a,.int .i64 (k:Int)]) H fun v H'=>bO H' v (n*B^k)/\Kp H H':=by
 refine bA C.q125 zU fun T hl c d=>?_;unfold Sm at m;by_cases h0:n=0
 ·subst h0;have e:lenV a=some (.int .i64 0):=by have:=ha.lenV; rwa [cR] at this
  refine zW (aO hl c d e) ?_;rw [Zr];exact ⟨eO _,zK⟩
 ·have j:¬ ((ah n).length:Int)=0:=by have:=(bN n).2 h0; omega
  have l:∀ H' id,Ja H' id ae 1 8 [.int .u64 0] (.int .i64 (k:Int)) (.int .i64 (k:Int))=some (.own id 0 k k 1 true,H'.put id (.cells (aN (List.replicate k 0)) ae true)):=fun H' id =>
   (iS H' id ae 1 8 [.int .u64 0] .i64 .i64 k zO zO rfl).trans (by rw [mX])
  refine zW (dj hl c d ha.lenV j l) ?_;have k1:Kp H ((H.up 9).put (H.next+5) (.cells (aN (List.replicate k 0)) ae true)):=zK;have t:=k1.le;have h:=(ww (H0:=H) (H:=(H.up 9).put (H.next+5) (.cells (aN (List.replicate k 0)) ae true)) (ex:=true) (n:=k) (al _ _ _) zO (by simp)).sl;have h1:SlV (bU cr) ae ((H.up 9).put (H.next+5) (.cells (aN (List.replicate k 0)) ae true)) (.own (H.next+5) 0 (List.replicate k 0).length (List.replicate k 0).length 1 true) (List.replicate k 0):=by simpa using h
  obtain ⟨p,H2,f,h2,i,r,s,-⟩:=SlV.app (id:=H.next+7) (bytes:=8) h1 k1 (ha.mono k1.sub) zO (by show _<H.next+9; omega) (by rw [au zO]; exact o.fresh (b:=H.next+7) zO) zS zS;have g:dr ((H.up 9).put (H.next+5) (.cells (aN (List.replicate k 0)) ae true)) (H.next+7) 1 8 ae (.own (H.next+5) 0 k k 1 true) a=some (p,H2):=by rw [Xv] at f; exact f
  rw [GK h0] at h2;refine zW (aO hl c d g) ?_;exact ⟨h2,i⟩
def Dy (C:Code tab) (u:Wf H) {a:AV} {n k:Nat} (ha:bO H a n) (s:Sm n) (t:k<4398046511104) :
  Ans tab (.fn rG [a,.int .i64 (k:Int)]) H fun v H'=>∃ p q,v=.tup [p,q]/\bO H' p (n % B^k)/\bO H' q (n / B^k)/\Kp H H':=by
 refine bA C.q122 zU fun T hl b c=>?_;unfold Sm at s;obtain ⟨m,hm⟩:∃ m,m=min k (ah n).length:=⟨_,rfl⟩
 have r:Jc (.int .i64 (k:Int)) (.int .i64 ((ah n).length:Int))=some (.int .i64 (m:Int)):=by rw [Av]; congr 2; split <;> omega
 obtain ⟨p,g,hp⟩:=SlV.clipat ha .i64 .i64 m zO;obtain ⟨q,i,f⟩:=ha.lo .i64 m zO;have d:cG 1 a none (some (.int .i64 (m:Int))) (some (.int .i64 (m:Int)))=some p:=g;have e:cG 1 a (some (.int .i64 (m:Int))) none none=some q:=i;have l:(ah n).take m=(ah n).take k:=by
  by_cases h:k<=(ah n).length
  ·rw [hm,Xf h]
  ·rw [hm,ZI zO,WG (V6 _),WG zO]
 have j:(ah n).drop m=(ah n).drop k:=by
  by_cases h:k<=(ah n).length
  ·rw [hm,Xf h]
  ·rw [hm,ZI zO,Y3 (V6 _),Y3 zO]
 refine zW (bB hl b c ha.lenV r) ?_;refine aF ?_;refine zD (bB hl b c d e) ?_;refine AnsH.use (GB C zF (hp.mono (zG H)) (by rw [WE]; omega)) ?_;rintro v H2 ⟨h2,o⟩;obtain ⟨k2,_,_⟩:=zT H zK o;rw [eW ((aY n).take m),l,qV] at h2;rw [j,mV] at f;refine zD (bB hl b c d e) ?_;exact ⟨v,q,rfl,h2,f.mono k2.sub,k2⟩
def ij (C:Code tab) (c:Wf H) {a:AV} {n:Nat} (ha:bO H a n) (b:Sm n):Ans tab (.fn nB [a]) H fun v H'=>v=.int .i64 0/\Kp H H':=by
 unfold Sm at b;exact (oZ C c ha zO).mono fun v H' ⟨h1,h2⟩=>⟨by rw [h1,if_neg (dK n)],h2⟩
def GC (C:Code tab) (z:Wf H) {a b:AV} {x y fi:Nat} {first:List AV} (ha:bO H a x) (hb:bO H b y) (hx:Sm x) (hy:Sm y) {R:Heap->AV->Prop} (w:∀ H' v m,R H' v->R (H'.up m) v)
  (s:∀ H',Kp H H'->Ans tab (.fn fi (first++[a,b])) H' fun v H2=>R H2 v/\Kp H H2) :
  Ans tab (.fn oB [a,b,.fn (.func fi) first []]) H fun v H'=>∃ r,v=.tup [r,.int .i64 0]/\R H' r/\Kp H H':=by
 refine lC C.q101 zU fun T hl d f h=>?_;have B:=ha.one;have D:=hb.one;refine zW (aO hl d f h) ?_;refine cu H [14] (fun k vs H'=>∃ i:Nat,vs=[.int .i64 (i:Int)]/\i+k=2) 2 (by simp only [VX]; exact hl) rfl zK ⟨0,by refine zW (aO hl d f h) ?_; rfl,rfl⟩ ?_;rintro k T1 u g n p ⟨i,o,j⟩;simp only [V9,Wg,Wb,and_true] at o;have w1:=p.wf;have A:=p.le;have q:ad T1 13=.agg [a,b]:=(n.at_ 13 zU).trans (zV (aD hl d f));have t0:ad T1 0=a:=(n.at_ 0 zU).trans (zV (aE hl d));have t1:ad T1 1=b:=(n.at_ 1 zU).trans (zV (bB hl d f h f));have t:ad T1 2=.fn (.func fi) first []:=(n.at_ 2 zU).trans (zV (bB hl d f h h))
 match i,j with
 | 0,j =>
  have c:ad T1 14=.int .i64 0:=o;have e:IntKind.i64.wrap (0+1)=((1:Nat):Int):=by decide
  refine zW (aD g c q) ?_;refine AnsH.eq (ij C zF (ha.mono (zG H)) hx) fun H2 l=>?_;obtain ⟨k2,_,_⟩:=zT H zK l;refine zW (aD g c e) ?_;exact ⟨zK,k-1,zO,1,rfl,zO⟩
 | 1,j =>
  have c:ad T1 14=.int .i64 1:=o;have e:IntKind.i64.wrap (1+1)=((2:Nat):Int):=by decide
  refine zW (aD g c q) ?_;refine AnsH.eq (ij C zF (hb.mono (zG H)) hy) fun H2 l=>?_;obtain ⟨k2,_,_⟩:=zT H zK l;refine zW (aD g c e) ?_;exact ⟨zK,k-1,zO,2,rfl,zO⟩
 | 2,j =>
  have c:ad T1 14=.int .i64 2:=o;refine zW (bB g c t0 t1 t) ?_;refine AnsH.use (s _ zK) ?_;rintro v H2 ⟨h2,l⟩;refine zW g ?_;exact ⟨v,rfl,h2,l⟩
 | i+3,j=>omega
def Vc {H c:Heap} {b ty t1:Nat} {α:Type} {E:fQ α} {x y z:AV} {l m n:List α} (hx:SlV E t1 H x l) (hy:SlV E t1 H y m) (hz:SlV E t1 H z n) (hs:Sub H c) (hg:c.get b=some (.cells [x,y,z] ty true)):AD (tT E t1) ty c (.own b 0 3 3 1 true) [l,m,n] :=
 ⟨[x,y,z],Rd.own hg rfl (V6 _),fun _ _ _ _ _ _ e=>by cases e; exact ⟨_,_,hg⟩,rfl,fun i a hi=>by
  match i with
  | 0=>simp at hi; subst hi; exact ⟨x,rfl,hx.mono hs⟩
  | 1=>simp at hi; subst hi; exact ⟨y,rfl,hy.mono hs⟩
  | 2=>simp at hi; subst hi; exact ⟨z,rfl,hz.mono hs⟩
  | i+3=>simp at hi⟩
def Ga {x m h:Nat} (hx:x<B^m) (h1:h<=m):x / B^h<B^(m-h):=by
 apply Nat.div_lt_of_lt_mul
 rw [<- W0]
 have:h+(m-h)=m:=zO
 rw [this]; exact hx
def Sm.of {n k:Nat} (h:n<B^k) (a:k<1099511627776):Sm n:=Xb (br h) a
def yj {n m:Nat} (h:(ah n).length<=m):n<B^m:=Wo (iM n) (Wx zU h)
set_option maxHeartbeats 2000000 in
def OZ (C:Code tab):∀ (M:Nat) {H:Heap} {a b:AV} {x y:Nat},Wf H->bO H a x->bO H b y->max (ah x).length (ah y).length=M->M<274877906944 ->
  Ans tab (.fn iB [.int .i64 8,a,b]) H fun v H'=>bO H' v (x*y)/\Kp H H':=by
 intro M
 induction M using Nat.strongRecOn with
 | _ M Q =>
 intro H a b x y hw ha hb hM aZ;refine lC C.q100 zU fun T hl f g i=>?_;obtain ⟨U,a0⟩:∃ U,U=min (ah x).length (ah y).length:=⟨_,rfl⟩
 have aL:Jc (.int .i64 ((ah x).length:Int)) (.int .i64 ((ah y).length:Int))=some (.int .i64 (U:Int)):=by rw [Av]; congr 2; split <;> omega
 have aI:Mi (.int .i64 ((ah x).length:Int)) (.int .i64 ((ah y).length:Int))=some (.int .i64 (M:Int)):=by rw [Fa]; congr 2; split <;> omega
 refine zW (fo hl f g i ha.lenV hb.lenV aL) ?_;refine iteH.split (fun h=>?_) fun h=>?_
 ·refine zW (aO hl f g i) ?_;refine AnsH.use (I8 C zF (ha.mono (zG H)) (hb.mono (zG H)) zO zO (aY x) (aY y)) ?_;rintro v H2 ⟨h2,I⟩;obtain ⟨k2,_,_⟩:=zT H zK I;rw [bM,bM] at h2;refine zW (aO hl f g i) ?_;exact ⟨h2,zK⟩
 ·have aX:9<=M:=zO;obtain ⟨k,hk⟩:∃ k,k=(M+1) / 2:=⟨_,rfl⟩
  have aQ:IntKind.i64.wrap ((M:Int)+1)=((M+1:Nat):Int):=by rw [wrap_i64] <;> omega
  have hq:bY .quo .int (.int .i64 ((M+1:Nat):Int)) (.int .i64 2)=some (.int .i64 (k:Int)):=by
   show some (AV.int .i64 (IntKind.i64.wrap (((M+1:Nat):Int).tdiv 2)))=_
   have:((M+1:Nat):Int).tdiv 2=(k:Int):=by rw [Ze zO]; omega
   rw [this,wrap_i64] <;> omega
  have O:x<B^M:=yj zO;have P:y<B^M:=yj zO;have N:M-k<=k/\k<=M/\k+1<M:=zO;have aS:x % B^k<B^k:=W4 _ (WL zU);have aT:y % B^k<B^k:=W4 _ (WL zU);have a3:x / B^k<B^(M-k):=Ga O N.2.1;have a4:y / B^k<B^(M-k):=Ga P N.2.1;have a1:B^(M-k)<=B^k:=Wx zU N.1;have a2:2*B^k<=B^(k+1):=by rw [WO,Wq]; exact Yq _ zU
  have Y:x=x / B^k*B^k+x % B^k:=(Zj x (B^k)).symm;have Z:y=y / B^k*B^k+y % B^k:=(Zj y (B^k)).symm;have aR:IntKind.i64.wrap (2*(k:Int))=((2*k:Nat):Int):=by rw [wrap_i64] <;> omega
  have aN:Sm x:=Sm.of O zO;have aP:Sm y:=Sm.of P zO;have aM:x*y<B^(M+M):=by rw [W0]; exact Nat.mul_lt_mul'' O P
  have ag:Sm (x*y):=Sm.of aM zO;refine zW (jU hl f g i ha.lenV hb.lenV aI aQ hq) ?_;refine AnsH.use (Dy C zF (ha.mono (zG H)) aN zO) ?_;rintro v H1 ⟨p0,p1,rfl,q,r,aC⟩;obtain ⟨k1,_,w1⟩:=zT H zK aC;refine zW (aO hl f g i) ?_;refine AnsH.use (Dy C zF (hb.mono (zG H)) aP zO) ?_;rintro v H2 ⟨q0,q1,rfl,hq0,w,I⟩;obtain ⟨R,_,_⟩:=zT H1 zK I;have k2:Kp H H2:=k1.trans R;have a5:=k2.le;have w2:=k2.wf;have q:=q.mono R.sub;have r:=r.mono R.sub
  generalize x % B^k=d at *
  generalize x / B^k=x1 at *
  generalize y % B^k=e at *
  generalize y / B^k=y1 at *
  have ba:(ah d).length<=k:=br aS;have bc:(ah e).length<=k:=br aT;have bb:(ah x1).length<=k:=br zO;have bd:(ah y1).length<=k:=br zO;refine zW (aO hl f g i) ?_;refine AnsH.use (Q _ zO zF (q.mono (zG H2)) (hq0.mono (zG H2)) rfl zO) ?_;rintro r0 H3 ⟨m,aE⟩;obtain ⟨k23,_,w3⟩:=zT H2 zK aE;refine zW (aO hl f g i) ?_;refine AnsH.use (Q _ zO zF (r.mono (zG H2)) (w.mono (zG H2)) rfl zO) ?_;rintro r1 j ⟨s,aF⟩;obtain ⟨S,_,_⟩:=zT H3 zK aF;have u:Kp H2 j:=k23.trans S;have a6:=u.le;have w4:=S.wf;have m:=m.mono S.sub;have q:=q.mono u.sub;have r:=r.mono u.sub;have hq0:=hq0.mono u.sub;have w:=w.mono u.sub;have bh:=q.one;have bi:=r.one;have aV:=hq0.one;have bk:=w.one;have bl:=m.one;have bm:=s.one;refine zW (aO hl f g i) ?_;refine AnsH.use (E8 C (ls:=[d,x1]) zF (C2 q r (zG j) (by refine vH ?_; rfl)) (by simp) (Sm.of (k:=k+1) zS zO)) ?_;rintro sx o ⟨af,J⟩;obtain ⟨ao,_,w5⟩:=zT j zK J;have n5:j.next+15<=o.next:=J.le
  have f4:∀ c,c<15->c≠3->o.get (j.next+c)=none:=fun c hc h3=>J.free (show _<j.next+15 by omega) (by rw [au zO]; exact w4.fresh (b:=j.next+c) zO);have bj:=aV;refine zW (aO hl f g i) ?_;have s5:Sub o (o.put (j.next+7) (.cells [q0,q1] aK true)):=aG (f4 7 zO zO);refine AnsH.use (E8 C (ls:=[e,y1]) zF (C2 (hq0.mono ao.sub) (w.mono ao.sub) s5 (by refine vH ?_; rfl)) (by simp) (Sm.of (k:=k+1) zS zO)) ?_;rintro sy z ⟨aj,D⟩;obtain ⟨ap,_,_⟩:=zT j zK D;have aW:Sub o z:=s5.trans D.sub;have w6:=ap.wf;have n6:o.next<=z.next:=D.le
  have f6:z.get (j.next+12)=none:=D.free (show _<o.next by omega) (by rw [au zO]; exact f4 12 zO zO);have ax:[d,x1].sum=d+x1:=by simp
  have ay:[e,y1].sum=e+y1:=by simp
  rw [ax] at af;rw [ay] at aj;have a8:(ah (d+x1)).length<=k+1:=br zO;have a9:(ah (e+y1)).length<=k+1:=br zO;refine zW (aO hl f g i) ?_;refine AnsH.use (Q _ zO zF (af.mono aW) aj rfl zO) ?_;rintro m0 t ⟨ab,K⟩;have E:Kp j t:=ap.trans K;have a7:=E.le;have w7:=E.wf;have n7:z.next<=t.next:=K.le
  have f7:t.get (j.next+12)=none:=K.free zO f6;have bg:=ab.one;have m:=m.mono E.sub;have s:=s.mono E.sub;have e1:(d+x1)*(e+y1)=d*e+x1*y1+(d*y1+x1*e):=by grind
  have aH:x1*y1<=x*y:=by
   rw [Y,Z];exact Xq (by have:=WL (n:=k) (show 0<B by decide); have:=Zq x1 this; omega) (by have:=WL (n:=k) (show 0<B by decide); have:=Zq y1 this; omega)
  have aJ:(d+x1)*(e+y1)<B^((k+1)+(k+1)):=by rw [W0]; exact Nat.mul_lt_mul'' zO zO
  have ae:Sm ((d+x1)*(e+y1)):=Sm.of aJ zO;refine zW (aO hl f g i) ?_;have V:Sub t (t.put (j.next+12) (.cells [r0,r1] aK true)):=aG f7;refine AnsH.use (OY C (ls:=[d*e,x1*y1]) zF (ab.mono V) (C2 m s V (by refine vH ?_; rfl)) (by simp) ae zS) ?_;rintro md l ⟨ad,aa⟩;obtain ⟨aq,_,_⟩:=zT j zK aa;have aw:Sub t l:=V.trans aa.sub;have w8:=aq.wf;have em:(d+x1)*(e+y1)-[d*e,x1*y1].sum=d*y1+x1*e:=by rw [e1]; simp only [Y7,List.sum_nil,XH]; omega
  rw [em] at ad;have m:=m.mono aw;have s:=s.mono aw;refine zW (aO hl f g i) ?_;refine AnsH.use (OX C (k:=k) zF (ad.mono (zG l)) (ae.mono zO) zO) ?_;rintro u1 G ⟨al,L⟩;obtain ⟨ar,_,w9⟩:=zT l zK L;have n9:l.next+11<=G.next:=L.le
  have f9:G.get (l.next+8)=none:=L.free (show _<l.next+11 by omega) (w8.fresh (b:=l.next+8) zO);refine zW (bB hl f g i aR) ?_;refine AnsH.use (OX C (k:=2*k) zF (s.mono ar.sub) (ag.mono aH) zO) ?_;rintro u2 F ⟨am,A⟩;have av:Kp l F:=ar.trans A;have bq:=av.wf;have bf:G.next<=F.next:=A.le
  have aB:F.get (l.next+8)=none:=A.free zO f9;have bn:=al.one;have bp:=am.one;have X:[d*e,(d*y1+x1*e)*B^k,x1*y1*B^(2*k)].sum=x*y:=by
   have e2:B^(2*k)=B^k*B^k:=by rw [Nat.two_mul,W0]
   rw [e2]
   conv=>rhs; rw [Y,Z]
   simp only [Y7,List.sum_nil,XH]
   generalize B^k=p
   grind
  refine zW (aO hl f g i) ?_;refine AnsH.use (E8 C (ls:=[d*e,(d*y1+x1*e)*B^k,x1*y1*B^(2*k)]) zF (Vc (m.mono av.sub) (al.mono A.sub) am (aG aB) (by refine vH ?_; rfl)) (by simp) (by rw [X]; exact ag)) ?_;rintro v W ⟨hv,aD⟩;rw [X] at hv;have aU:Kp l W:=Kp.trans zK aD;have kf:Kp H W:=((k2.trans u).trans aq).trans aU;refine zW (aO hl f g i) ?_;exact ⟨hv,kf⟩
def Rh (C:Code tab) (i:Wf H) {a b:AV} {x y:Nat} (ha:bO H a x) (hb:bO H b y) (hx:(ah x).length<274877906944) (hy:(ah y).length<274877906944) :
  Ans tab (.fn xZ [a,b]) H fun v H'=>∃ r,v=.tup [r,.int .i64 0]/\bO H' r (x*y)/\Kp H H':=by
 refine bA C.q73 zU fun T hl e f=>?_;refine zW (aD hl e f) ?_;refine AnsH.use (GC C (R:=fun H' v=>bO H' v (x*y)) zF (ha.mono (zG H)) (hb.mono (zG H)) (by unfold Sm; omega) (by unfold Sm; omega) (fun H' v m h=>h.mono (Sub.bump H' m)) fun g c=>?_) ?_
 ·have k1:Kp H g:=Kp.trans zK c;refine (OZ C _ c.wf (ha.mono k1.sub) (hb.mono k1.sub) rfl zO).mono ?_;rintro v H2 ⟨h2,d⟩;exact ⟨h2,c.trans d⟩
 ·rintro v H2 ⟨r,rfl,hr,d⟩;obtain ⟨k2,_,_⟩:=zT H zK d;refine zW (aD hl e f) ?_;exact ⟨r,rfl,hr,zK⟩
def xD (C:Code tab) (A:Wf H) {a b:AV} {x y:Int} (ha:IntV H a x) (hb:IntV H b y) (hx:(ah x.natAbs).length<274877906944) (hy:(ah y.natAbs).length<274877906944):Ans tab (.fn ry [a,b]) H fun v H'=>∃ r,v=.tup [r,.int .i64 0]/\IntV H' r (x*y)/\Kp H H':=by
 obtain ⟨p,rfl,hp⟩:=ha;obtain ⟨q,rfl,i⟩:=hb;have op:=hp.one;have F:=i.one;refine bA C.q42 zU fun T hl c d=>?_;refine zW (aD hl c d) ?_;refine AnsH.eq (ic C zF (KA (x:=x) (y:=y) (H:=H) hp i (zG H) (by refine vH ?_; rfl)) (by simp) fun z hz=>?_) fun H2 f=>?_
 ·simp at hz; unfold dD Sm; rcases hz with rfl | rfl <;> omega
 obtain ⟨k2,_,w2⟩:=zT H zK f;have b0:=f.get (b:=H.next) (e:=.cells [.bool (decide (x<0)),p] aa true) (cC);have k:=f.get (b:=H.next+1) (e:=.cells [.bool (decide (y<0)),q] aa true) (cC);have n:=f.get (b:=H.next+2) (e:=.cells [.bool false,.nilSl] aa true) (cC);refine zW (bB hl c d @b0 k) ?_;refine AnsH.use (Rh C zF (hp.mono (zG H)) (i.mono (zG H)) hx hy) ?_;rintro v j ⟨r,rfl,hr,g⟩;obtain ⟨B,_,G⟩:=zT H zK g;have o:=g.get (b:=H.next) b0;have s:=g.get (b:=H.next+1) k;have t:=g.get (b:=H.next+2) n;refine zW (bB hl c d o @s) ?_;refine AnsH.use (fw C zF (hr.mono (zG j)) _) ?_;rintro v4 w ⟨rfl,h⟩;obtain ⟨u,_,_⟩:=zT H zK h;have E:=hr.one;have d2:=h.get (b:=H.next+2) t;have D:=u.wf _ _ d2;refine zW (aO hl c d d2) ?_;refine ⟨_,rfl,?_,zK⟩;have hm:=pd (!(decide (x<0) == decide (y<0))) ((hr.mono (Kp.sub (H:=j) (Kp.trans zK h))).monoT (SubT.put_ty (e:=.cells [.bool (!(decide (x<0) == decide (y<0)) && decide (0<(ah (x.natAbs*y.natAbs)).length)),r] aa true) d2 zU));have e:(if (!(decide (x<0) == decide (y<0)))=true then -((x.natAbs*y.natAbs:Nat):Int) else ((x.natAbs*y.natAbs:Nat):Int))=x*y:=by
  rw [Int.natCast_mul];have l:(x.natAbs:Int)=if x<0 then -x else x:=by split <;> omega
  have m:(y.natAbs:Int)=if y<0 then -y else y:=by split <;> omega
  rw [l,m];by_cases h1:x<0 <;> by_cases h2:y<0 <;> simp [h1,h2,ZO,Int.mul_neg]
 rw [e] at hm;exact hm
def xE (C:Code tab) (i:Wf H) {a b:AV} {x y:Int} (ha:IntV H a x) (hb:IntV H b y) (hx:dD x) (hy:dD y):Ans tab (.fn rz [a,b]) H fun v H'=>v=.tup [.int .i64 (gJ (x-y)),.int .i64 0]/\Kp H H':=by
 obtain ⟨p,rfl,hp⟩:=ha;obtain ⟨q,rfl,g⟩:=hb;have op:=hp.one;have m:=g.one;refine bA C.q56 zU fun T hl c d=>?_;refine zW (aD hl c d) ?_;refine AnsH.use (Ly C zF ⟨p,rfl,hp.mono (zG H)⟩ ⟨q,rfl,g.mono (zG H)⟩ hx hy) ?_;rintro v H2 ⟨r,rfl,⟨w,rfl,hr⟩,e⟩;obtain ⟨k2,_,w2⟩:=zT H zK e;have n:=hr.one;have l:H.next+13<=H2.next:=e.le
 have f:H2.get (H.next+10)=none:=e.free (show _<H.next+13 by omega) (by rw [au zO,au zO]; exact i.fresh (b:=H.next+10) zO);refine zW (aD hl c d) ?_;have s2:Sub H2 ((H2.put (H.next+10) (.cells [.bool false,.nilSl] aa true)).put (H.next+10) (.cells [.bool (decide (x-y<0)),w] aa true)):=(aG f).put f _;refine AnsH.eq (AF C (x:=x-y) zF ⟨w,rfl,hr.mono s2⟩) fun j h=>?_;obtain ⟨k,_,_⟩:=zT H zK h;refine zW (aD hl c d) ?_;exact zK
def jk (C:Code tab) (p:Wf H) {n:Int} (h1 : -9223372036854775808<=n) (h2:n<9223372036854775808):Ans tab (.fn uM [.int .i64 n]) H fun v H'=>IntV H' v n/\Kp H H':=by
 refine cT C.q31 zU fun T hl d=>?_;refine zW (aE hl d) ?_;have fin:∀ (a:Heap) (g:Kp H a) (bb:Bool) (o:AV) (m:Nat) (z:Int),a.get H.next=some (.cells [.bool false,.nilSl] aa true)->Lb a o (ah m)->(if bb then -(m:Int) else m)=z ->
   IntV (a.put H.next (.cells [.bool (bb && decide (0<(ah m).length)),o] aa true)) (.agg [.bool (bb && decide (0<(ah m).length)),o]) z/\Kp H (a.put H.next (.cells [.bool (bb && decide (0<(ah m).length)),o] aa true)):=by
  intro a g bb o m z d1 j hz;have q:=g.wf _ _ d1;refine ⟨?_,zK⟩;rw [<- hz];exact pd bb (j.monoT (SubT.put_ty d1 zU))
 have key:∀ (c:Bool) (k:Nat),0<=k->True:=fun _ _ _=>trivial;refine iteH.split (fun h=>?_) fun h=>?_
 ·have e:IntKind.u64.wrap (0-IntKind.u64.wrap n)=((n.natAbs:Nat):Int):=by rw [kO,kO]; omega
  refine zW (aD hl d e) ?_;refine AnsH.use (I5 C zF (n:=n.natAbs) (by unfold B; omega)) ?_;rintro v H2 ⟨hn,-,i⟩;obtain ⟨k2,_,w2⟩:=zT H zK i;have b0:=i.get (b:=H.next) (e:=.cells [.bool false,.nilSl] aa true) (cC);have l:=hn.one;refine zW (aE hl d) ?_;refine AnsH.use (fw C zF (hn.mono (zG H2)) true) ?_;rintro v3 a ⟨rfl,f⟩;obtain ⟨g,_,_⟩:=zT H zK f;have d1:=f.get (b:=H.next) b0
  have:=fin a g true v n.natAbs n d1 (hn.mono (Kp.sub (H:=H2) (Kp.trans zK f))) zS
  simp only [Bool.true_and] at this;refine zW (aD hl d d1) ?_;exact this
 ·have e:IntKind.u64.wrap n=((n.natAbs:Nat):Int):=by rw [kO]; omega
  refine zW (aD hl d e) ?_;refine AnsH.use (I5 C zF (n:=n.natAbs) (by unfold B; omega)) ?_;rintro v H2 ⟨hn,-,i⟩;obtain ⟨k2,_,w2⟩:=zT H zK i;have b0:=i.get (b:=H.next) (e:=.cells [.bool false,.nilSl] aa true) (cC);have l:=hn.one;refine zW (aE hl d) ?_;refine AnsH.use (fw C zF (hn.mono (zG H2)) false) ?_;rintro v3 a ⟨rfl,f⟩;obtain ⟨g,_,_⟩:=zT H zK f;have d1:=f.get (b:=H.next) b0
  have:=fin a g false v n.natAbs n d1 (hn.mono (Kp.sub (H:=H2) (Kp.trans zK f))) zS
  simp only [Bool.false_and] at this;refine zW (aD hl d d1) ?_;exact this
end
def xv {a b:Nat} (ha:a<18446744073709551616) (hb:b<18446744073709551616):bY .or .int (.int .u64 (a:Int)) (.int .u64 (b:Int))=some (.int .u64 ((a ||| b:Nat):Int)):=by
 have h1:(BitVec.ofInt 64 (a:Int)).toNat=a:=by
  have:(BitVec.ofInt 64 (a:Int)).toNat=a % 2^64:=by simp
  rw [this]; omega
 have h2:(BitVec.ofInt 64 (b:Int)).toNat=b:=by
  have:(BitVec.ofInt 64 (b:Int)).toNat=b % 2^64:=by simp
  rw [this]; omega
 have e:(BitVec.ofInt 64 (a:Int) ||| BitVec.ofInt 64 (b:Int)).toNat=a ||| b:=by rw [BitVec.toNat_or,h1,h2]
 have hlt:a ||| b<2^64:=Nat.or_lt_two_pow zO zO
 show some (AV.int .u64 (IntKind.u64.wrap ((BitVec.ofInt 64 (a:Int) ||| BitVec.ofInt 64 (b:Int)).toNat:Nat)))=_;rw [e,gH zO zO]
def HP {r:Nat} (hr:r<64) {k:IntKind}:bY .shl .int (.int .u64 1) (.int k (r:Int))=some (.int .u64 ((2^r:Nat):Int)):=by
 show lz .shl .u64 1 (r:Int)=_;unfold lz;rw [if_neg zO];have h1:Nat.min (r:Int).toNat IntKind.u64.bits=r:=by
  have:IntKind.u64.bits=64:=rfl
  rw [this,Yb]; exact Xf zO
 have hlt:(2:Nat)^r<2^64:=Zf zO hr;have e:(1:Int)*2^r=((2^r:Nat):Int):=by simp
 simp only [h1,e]
 generalize (2:Nat)^r=p at hlt ⊢
 rw [gH zO zO]
def EY {a b r:Nat} (ha:a<2^r):a ||| (2^r*b)=a+2^r*b:=by
 rw [Nat.or_comm,<- Nat.two_pow_add_eq_or_of_lt ha,YL]
section
variable {tab:Nat->Option aA} {H:Heap} {s:AV}
def Dx (C:Code tab) (h:Wf H) {a:AV} {x k:Nat} (ha:bO H a x) (hx:Sm x) (g:k<=65536) :
  Ans tab (.fn rF [a,.int .i64 (k:Int)]) H fun v H'=>v=.int .i64 0/\Kp H H':=by
 refine bA C.q186 zU fun T hl b c=>?_;refine zW (aD hl b c) ?_;refine AnsH.eq (ij C zF (ha.mono (zG H)) hx) fun H2 f=>?_;obtain ⟨k2,_,_⟩:=zT H zK f;have d:decide ((k:Int)<0)=false:=by simp
 have e:decide ((65536:Int)<(k:Int))=false:=by simp; omega
 refine zW (bB hl b c d e) ?_;exact zK
def OD {k c:Nat} (hc:0<c) (b:k<4611686018427387904):bY .quo .int (.int .i64 (k:Int)) (.int .i64 (c:Int))=some (.int .i64 ((k / c:Nat):Int)):=by
 show (if (c:Int)=0 then none else some (AV.int .i64 (IntKind.i64.wrap ((k:Int).tdiv (c:Int)))))=_;have a:k / c<=k:=YE _ _;rw [if_neg zO,Ze zO,<- Int.natCast_ediv]
 generalize k / c=d at a ⊢
 rw [wrap_i64 zO zO]
def OB {k c:Nat} (hc:0<c):bY .rem .int (.int .i64 (k:Int)) (.int .i64 (c:Int))=some (.int .i64 ((k % c:Nat):Int)):=by
 show (if (c:Int)=0 then none else some (AV.int .i64 ((k:Int).tmod (c:Int))))=_;rw [if_neg zO,Int.tmod_eq_emod_of_nonneg zO,<- Int.natCast_emod]
def Iz {x r:Nat} (hr:r<64):x*2^r % B=2^r*(x % 2^(64-r)):=by
 have a:B=2^r*2^(64-r):=by
  rw [<- W0]; have:r+(64-r)=64:=zO;rw [this]
 rw [a,Wq x,Nat.mul_mod_mul_left]
def S8 {x r:Nat} (hx:x<B):x*2^r / B<2^r:=by
 rw [Ww zU,Wq];exact Nat.mul_lt_mul_of_pos_left hx (WL zU)
def sN (l:List Nat):∃ E,l=fc l++E:=by
 refine ⟨(l.reverse.takeWhile (· == 0)).reverse,?_⟩;have h:=List.takeWhile_append_dropWhile (p:=(· == 0)) (l:=l.reverse);have h2:=congrArg List.reverse h;rw [List.reverse_append,List.reverse_reverse] at h2;exact h2.symm
def OG (b off n c sz:Nat) (x:Bool) (k j:IntKind) (a:n<=c):cG sz (.own b off n c sz x) none (some (.int k (n:Int))) (some (.int j (n:Int)))=some (.own b off n n sz true):=by
 show bW sz (.own b off n c sz x) none (some (.int k (n:Int))) (some (.int j (n:Int)))=_;simp only [bW,gE,ne_eq,not_true_eq_false,if_false,V3,Xt,X0,XQ];rw [if_pos ⟨a,V6 _,Wd _⟩];split
 ·rename_i h; subst h; rfl
 ·simp
def IX (b off n c sz m:Nat) (x:Bool) (k:IntKind) (h:m<=c):cG sz (.own b off n c sz x) none (some (.int k (m:Int))) none=some (.own b off m c sz x):=by
 show bW sz (.own b off n c sz x) none (some (.int k (m:Int))) none=_;simp only [bW,gE,ne_eq,not_true_eq_false,if_false,V3,Xt,X0,XO,XQ,XE];rw [if_pos ⟨h,Wd _⟩]
 simp
def JM {H:Heap} {cells:List AV} {l:List Nat} (h:Cells (bU cr) H cells l):cells=aN l:=by
 have hl:cells.length=l.length:=by have:=h.1; simpa [bU] using this
 apply XI
 intro i;by_cases hi:i<l.length
 ·obtain ⟨v,e,rfl⟩:=h.2 i _ (VZ hi);have a:cells[i]? = some (.int .u64 (l[i]:Nat)):=by
   have:=congrArg (fun x=>x[0]?) e
   simpa [bU,Wt] using this
  rw [a];simp [aN,hi]
 ·rw [WN zO,WN (by rw [pf]; omega)]
def xO (C:Code tab) (j:Wf H) {l:List Nat} (hs:Lb H s l) (m:l.length<1099511627776):Ans tab (.fn cA [s]) H fun v H'=>Lb H' v l/\Kp H H'/\(0<l.length->∃ b,v=.own b 0 l.length l.length 1 false/\H'.get b=some (.cells (aN l) ae true)/\H.next<=b):=by
 refine cT C.q102 zU fun T hl a=>?_;rcases hs.nilcase with ⟨rfl,rfl⟩ | hne
 ·have e:bY .eql .sl .nilSl .nilSl=some (.bool true):=rfl;refine zW (aD hl a e) ?_;exact ⟨SlV.nil _ _ _,zK,fun h=>by simp at h⟩
 ·have f:cB ([]:List AV) []=some []:=rfl;refine zW (aO hl a hne f) ?_;have k1:Kp H ((H.up 7).put (H.next+3) (.cells [] ae true)):=zK;have p:=k1.le;have h0:SlV (bU cr) ae ((H.up 7).put (H.next+3) (.cells [] ae true)) (.own (H.next+3) 0 0 0 1 true) ([]:List Nat) :=
   (show Own (bU cr) ae H _ (H.next+3) true _ [] from ⟨_,rfl,al _ _ _,Cells.nil _ _,zO⟩).sl
  obtain ⟨k,H2,c,h2,g,n,o,i⟩:=SlV.app (l:=[]) (id:=H.next+5) (bytes:=8) h0 k1 (hs.mono k1.sub) zO (by show _<H.next+7; omega) (by rw [au zO]; exact j.fresh (b:=H.next+5) zO) zS zS;have d:dr ((H.up 7).put (H.next+3) (.cells [] ae true)) (H.next+5) 1 8 ae (.own (H.next+3) 0 0 0 1 true) s=some (k,H2):=c;refine zW (aD hl a d) ?_;refine ⟨h2,g,fun h=>?_⟩;obtain ⟨cells,q1,q2,q3,q4⟩:=i h;rw [Ys] at q1 q3;rw [JM q3] at q2;exact ⟨_,q1,q2,q4⟩
def iQ (C:Code tab) (f:Wf H) {b n c:Nat} {x:Bool} (d:n<=c):Ans tab (.fn cF [.own b 0 n c 1 x]) H fun v H'=>v=.own b 0 n n 1 true/\Kp H H':=by
 refine cT C.q120 zU fun T hl a=>?_;have e:=OG b 0 n c 1 x .i64 .i64 d;refine zW (aD hl a e) ?_;exact zK
def E5 (C:Code tab) (D:Wf H) {l:List Nat} {b N:Nat} {rw' x:Bool} (n:l.length=N) (hb:H.get b=some (.cells (aN l) ae rw')) (A:N<4611686018427387904) :
  Ans tab (.fn pT [.own b 0 N N 1 x]) H fun v H'=>v=.own b 0 (fc l).length (fc l).length 1 true/\Kp H H':=by
 refine cT C.q94 zU fun T hl i=>?_;refine zW (aE hl i) ?_;refine cu H [0] (fun k vs H'=>vs=[.own b 0 k N 1 x]/\fc (l.take k)=fc l/\k<=l.length) l.length (by simp only [VX]; exact hl) rfl zK ⟨by exact zV (aD hl i n),by rw [WF],V6 _⟩ ?_;rintro k T1 z d B f ⟨e,g,r⟩;have w1:=f.wf;have E:=f.le;have m:=f.get hb;simp only [V9,Wg,Wb,and_true] at e;rcases Ye (l.take k) with h0 | ⟨c,a,h0⟩
 ·have s:k=0:=by
   have:=congrArg List.length h0; simp at this
   rcases this with h | h
   ·exact h
   ·subst h; simpa using r
  subst s;refine zW (aD d e @PL) ?_;refine AnsH.eq (iQ C zF (Wd _)) fun H2 h2=>?_;have k2:Kp H H2:=Kp.trans zK h2;have y:=k2.le;rw [<- g,h0,xJ];refine zW d ?_;exact zK
 ·rw [Yf] at h0;have t:k=c.length+1:=by have:=congrArg List.length h0; simp at this; omega
  subst t;have u:l.take c.length=c:=by
   have:=congrArg (List.take c.length) h0
   rw [Yp,Xf zO] at this
   simpa using this
  have q:l.getD c.length 0=a:=by
   have this:(l.take (c.length+1)).getD c.length 0=(c++[a]).getD c.length 0:=by rw [h0]
   rw [VY,Wt,if_pos zO,<- VY] at this;rw [this]; simp [VY]
  have j:IntKind.i64.wrap (((c.length+1:Nat):Int)-1)=(c.length:Int):=by rw [wrap_i64] <;> omega
  have w:0<c.length+1:=zO;have e':=IX b 0 (c.length+1) N 1 c.length x .i64 zO;refine zW (dj d e w j m q) ?_;refine iteH.split (fun ha=>?_) fun ha=>?_
  ·have p:a=0:=zO;subst p;refine zW (aO d e j e') ?_;refine ⟨zK,c.length,zO,rfl,?_,zO⟩;rw [u,<- g,h0,eQ]
  ·have o:a≠0:=zO;refine zW (aE d e) ?_;refine AnsH.eq (iQ C zF zO) fun H2 h2=>?_;have k2:Kp H H2:=Kp.trans zK h2;have y:=k2.le;rw [<- g,h0,jp o];refine zW (aE d @List.length_append.{0}) ?_;exact zK
def OU (C:Code tab) (hw:Wf H) {a:AV} {x k:Nat} (ha:bO H a x) (hx:Sm x) (hk:k<=65536) :
  Ans tab (.fn BH [a,.int .i64 (k:Int)]) H fun v H'=>∃ o,v=.tup [o,.int .i64 0]/\bO H' o (x*2^k)/\Kp H H'/\∃ b E,o=.own b 0 (ah (x*2^k)).length (ah (x*2^k)).length 1 true/\H'.get b=some (.cells (aN (ah (x*2^k)++E)) ae true)/\H.next<=b/\(ah (x*2^k)++E).length=k / 64+(ah x).length+1/\Lim (ah (x*2^k)++E):=by
 refine bA C.q177 zU fun T hl d f=>?_;refine zW (aD hl d f) ?_;refine AnsH.eq (Dx C zF (ha.mono (zG H)) hx hk) fun H2 af=>?_;obtain ⟨k2,_,w2⟩:=zT H zK af;have n2:=k2.le;unfold Sm at hx;have V:=OD (k:=k) (c:=64) zO zO;have hr:=OB (k:=k) (c:=64) zO;obtain ⟨q,eq⟩:∃ q,q=k / 64:=⟨_,rfl⟩
 obtain ⟨r,er⟩:∃ r,r=k % 64:=⟨_,rfl⟩
 rw [<- eq] at V;rw [<- er] at hr;have W:bY .quo .int (.int .i64 (k:Int)) (.int .i64 64)=some (.int .i64 (q:Int)):=V;have am:bY .rem .int (.int .i64 (k:Int)) (.int .i64 64)=some (.int .i64 (r:Int)):=hr;have ao:IntKind.i64.wrap ((q:Int)+((ah x).length:Int))=((q+(ah x).length:Nat):Int):=by rw [wrap_i64] <;> omega
 obtain ⟨N,hN⟩:∃ N,q+(ah x).length+1=N:=⟨_,rfl⟩
 have ap:IntKind.i64.wrap (((q+(ah x).length:Nat):Int)+1)=(N:Int):=by rw [wrap_i64] <;> omega
 have al:∀ H' id,Ja H' id ae 1 8 [.int .u64 0] (.int .i64 (N:Int)) (.int .i64 (N:Int))=some (.own id 0 N N 1 true,H'.put id (.cells (aN (List.replicate N 0)) ae true)):=fun H' id =>
  (iS H' id ae 1 8 [.int .u64 0] .i64 .i64 N zO zO rfl).trans (by rw [mX])
 refine zW (fX hl d f ha.lenV W ao ap al) ?_;have y:r<64:=zO;have ag:k=64*q+r:=zO;have Y:∀ j,(List.replicate N 0).getD j 0=0:=fun j=>by simp [VY,W7]; split <;> rfl
 refine aq H [] (fun i vs H'=>∃ out,H'.get (H2.next+8)=some (.cells (aN out) ae true)/\out.length=N/\Lim out/\val out=B^q*2^r*val ((ah x).take i)/\out.getD (q+i) 0<2^r/\∀ j,q+i<j->out.getD j 0=0) (a:=0) (N:=(ah x).length) rfl (by refine zW (aD hl d f) ?_; rfl) (zV (aD hl d f)) (Wd _) zO (by simp only [VX,hl]; rfl) rfl (fun _ _ _ _ h=>h) zK
  ⟨List.replicate N 0,by exact cC,by simp,Lim.replicate N,by rw [fY]; simp [val],by rw [Y]; exact WL zU,fun j _=>Y j⟩ ?_ ?_
 ·rintro i T1 Z _ hi g O z t ⟨out,A,D,u,hval,S,hz⟩;simp only [VX,hl] at g;have w1:=t.wf;have av:=t.le;have F:ad T1 7=.own (H2.next+8) 0 N N 1 true:=(z.at_ 7 zU).trans (zV (aD hl d f));have t1:ad T1 1=.int .i64 (k:Int):=(z.at_ 1 zU).trans (zV (aO hl d f f));have t25:ad T1 25=a:=(z.at_ 25 zU).trans (zV (aE hl d));have ab:=SlV.idx1 ha .i64 i hi;have aj:=fM (ha.mono t.sub) hi;have X:=(aY x).at i;have K:2^r<B:=by unfold B; exact Zf (m:=r) (n:=64) zO y
  have hs:=HP y (k:=.i64);refine zW (jU g F t1 t25 O ab aj am hs) ?_;refine AnsH.use (qw C zF X K) ?_;rintro v H3 ⟨rfl,P⟩;obtain ⟨k3,_,w3⟩:=zT H zK P;have d6:=P.get (b:=H2.next+8) A;have aw:=k3.wf _ _ d6;have ar:IntKind.i64.wrap ((q:Int)+(i:Int))=((q+i:Nat):Int):=by rw [wrap_i64] <;> omega
  have au:IntKind.i64.wrap (((q+i:Nat):Int)+1)=((q+i+1:Nat):Int):=by rw [wrap_i64] <;> omega
  have U:=xv (a:=out.getD (q+i) 0) (b:=(ah x).getD i 0*2^r % B) (u.at _) (W4 _ zU);rw [Iz y,EY S] at U;rw [Iz y];refine zW (oK g F t1 t25 O W ar au d6 U) ?_;have I:=Iz (x:=(ah x).getD i 0) y;have M:=S8 (r:=r) X;have L:=Xh ((ah x).getD i 0*2^r) B;have R:out.getD (q+i) 0+(ah x).getD i 0*2^r % B<B:=by
   rw [I];have J:out.getD (q+i) 0 ||| 2^r*((ah x).getD i 0 % 2^(64-r))<2^64:=Nat.or_lt_two_pow (u.at _) (by rw [<- I]; exact W4 _ zU)
   rw [EY S] at J; exact J
  rw [I] at L R
  generalize (ah x).getD i 0*2^r / B=w at *
  have h1:=jl (l:=out) (k:=q+i) (v:=out.getD (q+i) 0+2^r*((ah x).getD i 0 % 2^(64-r))) zO;have h2:=jl (l:=out.set (q+i) (out.getD (q+i) 0+2^r*((ah x).getD i 0 % 2^(64-r)))) (k:=q+i+1) (v:=w) zS;rw [bw zO,hz (q+i+1) zO] at h2;refine ⟨zK,_,rfl,by simp [D],kM (kM u R) (Z1 M K),?_,?_,fun j hj=>?_⟩
  ·rw [db,W8,<- hval];have h3:B^q*2^r*(B^i*(ah x).getD i 0)=B^(q+i)*((ah x).getD i 0*2^r):=by rw [W0]; grind
   rw [h3,<- L,W8];have h4:B^(q+i+1)*w=B^(q+i)*(B*w):=by rw [WO,WV]
   rw [W8] at h1;rw [h4] at h2;have aa:q+(i+1)=q+i+1:=zO;rw [aa];omega
  ·have:(((out.set (q+i) (out.getD (q+i) 0+2^r*((ah x).getD i 0 % 2^(64-r)))).set (q+(i+1)) w).getD (q+(i+1)) 0)=w:=by
    rw [VY,Yc,if_pos rfl,if_pos zS]; rfl
   rw [this]; exact M
  ·rw [bw zO,bw zO];exact hz j zO
 ·rintro T1 Z g z t ⟨out,A,D,u,hval,-,-⟩;simp only [VX,hl] at g;have w1:=t.wf;have av:=t.le;have F:ad T1 7=.own (H2.next+8) 0 N N 1 true:=(z.at_ 7 zU).trans (zV (aD hl d f));rw [WG (V6 _),bM] at hval;refine zW (aE g F) ?_;refine AnsH.eq (E5 C zF (rw':=true) D (zV @A) zO) fun H4 Q=>?_;obtain ⟨k4,_,_⟩:=zT H zK Q;have b4:=Q.get (b:=H2.next+8) (e:=.cells (aN out) ae true) (zV @A);have e:val out=x*2^k:=by
   rw [hval,ag,W0,Zg]
   have:(2:Nat)^64=B:=by decide
   rw [this,Wq]
  have G:=eW u;rw [e] at G;obtain ⟨E,p⟩:=sN out;rw [G] at p;have h4:bO H4 (.own (H2.next+8) 0 (ah (x*2^k)).length (ah (x*2^k)).length 1 true) (x*2^k):=by
   refine ⟨aN (ah (x*2^k)),⟨V6 _,(fun s h=>by cases h),_,rfl,?_⟩,fun _ _ _ _ _ _ e=>by cases e; exact ⟨_,_,b4⟩,uX _ _⟩;simp only [aP,b4];rw [if_pos ⟨rfl,V6 _,by rw [pf,p]; simp [bU]⟩];rw [p];simp [aN,bU]
  rw [G];refine zW g ?_;exact ⟨_,rfl,h4,zK,_,E,rfl,by rw [b4,p],zO,by rw [<- p,D,<- hN,eq,W9],by rw [<- p]; exact u⟩
end
section
variable {tab:Nat->Option aA} {H:Heap} {s:AV} {l:List Nat}
def qk (C:Code tab) (D:Wf H) {l:List Nat} {b N:Nat} {rw' x:Bool} (n:l.length=N) (hb:H.get b=some (.cells (aN l) ae rw')) (A:N<4611686018427387904) :
  Ans tab (.fn uS [.own b 0 N N 1 x]) H fun v H'=>v=.own b 0 (fc l).length (fc l).length 1 true/\Kp H H':=by
 refine cT C.q181 zU fun T hl i=>?_;refine zW (aE hl i) ?_;refine cu H [0] (fun k vs H'=>vs=[.own b 0 k N 1 x]/\fc (l.take k)=fc l/\k<=l.length) l.length (by simp only [VX]; exact hl) rfl zK ⟨by exact zV (aD hl i n),by rw [WF],V6 _⟩ ?_;rintro k T1 z d B f ⟨e,g,r⟩;have w1:=f.wf;have E:=f.le;have m:=f.get hb;simp only [V9,Wg,Wb,and_true] at e;rcases Ye (l.take k) with h0 | ⟨c,a,h0⟩
 ·have s:k=0:=by
   have:=congrArg List.length h0; simp at this
   rcases this with h | h
   ·exact h
   ·subst h; simpa using r
  subst s;refine zW (aD d e @PL) ?_;refine AnsH.eq (iQ C zF (Wd _)) fun H2 h2=>?_;have k2:Kp H H2:=Kp.trans zK h2;have y:=k2.le;rw [<- g,h0,xJ];refine zW d ?_;exact zK
 ·rw [Yf] at h0;have t:k=c.length+1:=by have:=congrArg List.length h0; simp at this; omega
  subst t;have u:l.take c.length=c:=by
   have:=congrArg (List.take c.length) h0
   rw [Yp,Xf zO] at this
   simpa using this
  have q:l.getD c.length 0=a:=by
   have this:(l.take (c.length+1)).getD c.length 0=(c++[a]).getD c.length 0:=by rw [h0]
   rw [VY,Wt,if_pos zO,<- VY] at this;rw [this]; simp [VY]
  have j:IntKind.i64.wrap (((c.length+1:Nat):Int)-1)=(c.length:Int):=by rw [wrap_i64] <;> omega
  have w:0<c.length+1:=zO;have e':=IX b 0 (c.length+1) N 1 c.length x .i64 zO;refine zW (dj d e w j m q) ?_;refine iteH.split (fun ha=>?_) fun ha=>?_
  ·have p:a=0:=zO;subst p;refine zW (aO d e j e') ?_;refine ⟨zK,c.length,zO,rfl,?_,zO⟩;rw [u,<- g,h0,eQ]
  ·have o:a≠0:=zO;refine zW (aE d e) ?_;refine AnsH.eq (iQ C zF zO) fun H2 h2=>?_;have k2:Kp H H2:=Kp.trans zK h2;have y:=k2.le;rw [<- g,h0,jp o];refine zW (aE d @List.length_append.{0}) ?_;exact zK
def EX {H:Heap} {b:Nat} {l E:List Nat} {rw' x:Bool} (hb:H.get b=some (.cells (aN (l++E)) ae rw')):Lb H (.own b 0 l.length l.length 1 x) l:=by
 refine ⟨aN l,⟨V6 _,(fun s h=>by cases h),_,rfl,?_⟩,fun _ _ _ _ _ _ e=>by cases e; exact ⟨_,_,hb⟩,uX _ _⟩;simp only [aP,hb];rw [if_pos ⟨rfl,V6 _,by rw [pf]; simp [bU]⟩];simp [aN,bU]
def B7 (C:Code tab) (q:Wf H) {ls:List (List Nat)} {ty:Nat} (hs:AD (tT (bU cr) ae) ty H s ls) (p:ls.length<4611686018427387904) (hc:∀ c∈ls,c.length<4611686018427387904/\c.getLast? ≠ some 0) :
  Ans tab (.fn oE [s]) H fun v H'=>v=.int .i64 0/\Kp H H':=by
 refine cT C.q171 zU fun T hl d=>?_;refine zW (aD hl d hs.lenV) ?_;refine aq H [] (fun _ _ _=>True) (a:=0) (N:=ls.length) rfl (by refine zW (aE hl d) ?_; rfl) (zV (aE hl d)) (Wd _) zO (by simp only [VX,hl]; rfl) rfl (fun _ _ _ _ h=>h) zK trivial ?_ ?_
 ·intro j T1 i _ hj b l g e _;have w1:=e.wf;have r:=e.le;have o:ad T1 6=s:=(g.at_ 6 zU).trans (zV (aE hl d));obtain ⟨c,k,n⟩:=SlV.at1 (hs.mono e.sub) (VZ hj);have m:=SlV.idx1 hs .i64 j hj;have f:=hc _ (V4 hj);simp only [VX,hl] at b;refine zW (bB b o l m n) ?_;refine AnsH.eq (oZ C zF k f.1) fun H2 h2=>?_;rw [if_neg f.2];refine zW b ?_;have k2:Kp H H2:=Kp.trans zK h2;have t:=k2.le;exact zK
 ·intro T1 i b g e _;simp only [VX,hl] at b;refine zW b ?_;exact zK
end
def T8 (v i:AV):Option AV:=aS (fun s=>match s with | .t 0=>v | _=>i) (.indexStr (.t 0) (.t 1))
def dl {tab:Nat->Option aA} (ev:Src->AV) (H:Heap) (id:Nat) (Q:AV->Heap->Prop) (x i:Src):nj tab ev H id (.indexStr x i) Q=ii (T8 (ev x) (ev i)) (fun v=>Q v H) ():=by
 rw [co,eP tab ev H id Q (o:=.indexStr x i) (v:=T8 (ev x) (ev i)) (fun f a e=>by cases e) (by simp only [aS,T8]) rfl]; rfl
def R8 {a b:Nat} (ha:a<18446744073709551616) (hb:0<b):bY .quo .int (.int .u64 (a:Int)) (.int .u64 (b:Int))=some (.int .u64 ((a / b:Nat):Int)):=by
 show (if (b:Int)=0 then none else some (AV.int .u64 (IntKind.u64.wrap ((a:Int).tdiv (b:Int)))))=_;have c:a / b<=a:=YE _ _;rw [if_neg zO,Ze zO,<- Int.natCast_ediv]
 generalize a / b=d at c ⊢
 rw [gH zO zO]
def Ut {a b:Nat} (hb:0<b):bY .rem .int (.int .u64 (a:Int)) (.int .u64 (b:Int))=some (.int .u64 ((a % b:Nat):Int)):=by
 show (if (b:Int)=0 then none else some (AV.int .u64 ((a:Int).tmod (b:Int))))=_;rw [if_neg zO,Int.tmod_eq_emod_of_nonneg zO,<- Int.natCast_emod]
def tD {x r:Nat} (hr:r<=64) {k:IntKind}:bY .shl .int (.int .u64 (x:Int)) (.int k (r:Int))=some (.int .u64 ((x*2^r % B:Nat):Int)):=by
 show lz .shl .u64 (x:Int) (r:Int)=_;unfold lz;rw [if_neg zO];have h1:Nat.min (r:Int).toNat IntKind.u64.bits=r:=by
  have:IntKind.u64.bits=64:=rfl
  rw [this,Yb]; exact Xf hr
 have e:(x:Int)*2^r=((x*2^r:Nat):Int):=by simp
 simp only [h1,e];rw [kO];rfl
def CO {a b:Nat} (hb:b<=64) {k:IntKind}:bY .shr .int (.int .u64 (a:Int)) (.int k (b:Int))=some (.int .u64 ((a / 2^b:Nat):Int)):=by
 show lz .shr .u64 (a:Int) (b:Int)=_;unfold lz;rw [if_neg zO];have h1:Nat.min (b:Int).toNat IntKind.u64.bits=b:=by
  have:IntKind.u64.bits=64:=rfl
  rw [this,Yb]; exact Xf hb
 simp only [h1];congr 2;rw [Z9 _ (X5 (Int.pow_pos zO))]
 simp
def rh (a:Nat):bY .shr .int (.int .u64 (a:Int)) (.int .u64 16)=some (.int .u64 ((a / 65536:Nat):Int)):=tC a 16 zO
def Bh (a:Nat):bY .shr .int (.int .u64 (a:Int)) (.int .u64 8)=some (.int .u64 ((a / 256:Nat):Int)):=tC a 8 zO
def UD:AV:=.str ⟨#[0,1,2,2,3,3,3,3,4,4,4,4,4,4,4,4,5,5,5,5,5,5,5,5,5,5,5,5,5,5,5,5,6,6,6,6,6,6,6,6,6,6,6,6,6,6,6,6,6,6,6,6,6,6,6,6,6,6,6,6,6,6,6,6,7,7,7,7,7,7,7,7,7,7,7,7,7,7,7,7,7,7,7,7,7,7,7,7,7,7,7,7,7,7,7,7,7,7,7,7,7,7,7,7,7,7,7,7,7,7,7,7,7,7,7,7,7,7,7,7,7,7,7,7,7,7,7,7,8,8,8,8,8,8,8,8,8,8,8,8,8,8,8,8,8,8,8,8,8,8,8,8,8,8,8,8,8,8,8,8,8,8,8,8,8,8,8,8,8,8,8,8,8,8,8,8,8,8,8,8,8,8,8,8,8,8,8,8,8,8,8,8,8,8,8,8,8,8,8,8,8,8,8,8,8,8,8,8,8,8,8,8,8,8,8,8,8,8,8,8,8,8,8,8,8,8,8,8,8,8,8,8,8,8,8,8,8,8,8,8,8,8,8,8,8,8,8,8,8,8,8,8,8,8,8,8]⟩
def Pa (x:Nat):Bool:=match T8 UD (.int .u8 (x:Int)) with
 | some (.int .u8 z)=>decide (0<=z/\z.toNat<=8/\x<2^z.toNat/\(x=0\/(1<=z.toNat/\2^(z.toNat-1)<=x)))
 | _=>false
theorem Pb:(List.range 256).all Pa=true:=by kernel_rfl
def Ms {x:Nat} (hx:x<256):∃ L:Nat,T8 UD (.int .u8 (x:Int))=some (.int .u8 (L:Int))/\L<=8/\x<2^L/\(x=0\/(1<=L/\2^(L-1)<=x)):=by
 have h:=Wv.1 Pb x (Xk.2 hx);unfold Pa at h;split at h
 ·rename_i z e;simp only [decide_eq_true_eq] at h;obtain ⟨h0,h1,h2,h3⟩:=h;refine ⟨z.toNat,?_,h1,h2,h3⟩;rw [e,Int.toNat_of_nonneg h0]
 ·cases h
def O9 {w k L x:Nat} (hx:w / 2^k=x) (h1:x<2^L) (h2:1<=L) (h3:2^(L-1)<=x):w<2^(k+L)/\2^(k+L-1)<=w:=by
 subst hx;refine ⟨?_,?_⟩
 ·have:=(Ww (WL zU)).1 h1
  rw [W0,Wq]; exact this
 ·have:=(ZE (WL zU)).1 h3
  have e:k+L-1=(L-1)+k:=zO;rw [e,W0]; exact this
section
variable {tab:Nat->Option aA} {H:Heap} {s:AV} {l:List Nat}
set_option maxRecDepth 20000 in
def JN (C:Code tab) (m:Wf H) {w:Nat} (h0:0<w) (i:w<18446744073709551616) :
  Ans tab (.fn jv [.int .u64 (w:Int)]) H fun v H'=>(∃ L:Nat,v=.int .i64 (L:Int)/\1<=L/\L<=64/\w<2^L/\2^(L-1)<=w)/\Kp H H':=by
 refine cT C.q185 zU fun T hl e=>?_;have fin:∀ (k x:Nat),x<256->k<=56->w / 2^k=x->0<x->∃ L:Nat,T8 (.str ⟨#[0,1,2,2,3,3,3,3,4,4,4,4,4,4,4,4,5,5,5,5,5,5,5,5,5,5,5,5,5,5,5,5,6,6,6,6,6,6,6,6,6,6,6,6,6,6,6,6,6,6,6,6,6,6,6,6,6,6,6,6,6,6,6,6,7,7,7,7,7,7,7,7,7,7,7,7,7,7,7,7,7,7,7,7,7,7,7,7,7,7,7,7,7,7,7,7,7,7,7,7,7,7,7,7,7,7,7,7,7,7,7,7,7,7,7,7,7,7,7,7,7,7,7,7,7,7,7,7,8,8,8,8,8,8,8,8,8,8,8,8,8,8,8,8,8,8,8,8,8,8,8,8,8,8,8,8,8,8,8,8,8,8,8,8,8,8,8,8,8,8,8,8,8,8,8,8,8,8,8,8,8,8,8,8,8,8,8,8,8,8,8,8,8,8,8,8,8,8,8,8,8,8,8,8,8,8,8,8,8,8,8,8,8,8,8,8,8,8,8,8,8,8,8,8,8,8,8,8,8,8,8,8,8,8,8,8,8,8,8,8,8,8,8,8,8,8,8,8,8,8,8,8,8,8,8,8]⟩) (.int .u8 (IntKind.u8.wrap (x:Int)))=some (.int .u8 (L:Int))/\IntKind.i64.wrap (L:Int)=(L:Int)/\IntKind.i64.wrap ((k:Int)+(L:Int))=((k+L:Nat):Int)/\1<=k+L/\k+L<=64/\w<2^(k+L)/\2^(k+L-1)<=w:=by
  intro k x hx j he l;obtain ⟨L,f,h,e3,e4⟩:=Ms hx;obtain ⟨h1,h2⟩:=e4.resolve_left zO;have g:IntKind.u8.wrap (x:Int)=(x:Int):=by
   show (x:Int) % 256=x;omega
  obtain ⟨h3,h4⟩:=O9 he e3 h1 h2;refine ⟨L,by rw [g]; exact f,by rw [wrap_i64] <;> omega,by rw [wrap_i64] <;> omega,zO,zO,h3,h4⟩
 have a:∀ n:Nat,n<100->IntKind.i64.wrap (n:Int)=(n:Int):=fun n hn=>by rw [wrap_i64] <;> omega
 simp -dsimp (maxSteps:=1000000) (disch:=(first | omega | assumption | exact ai _ | exact bo _ _ | exact bH | exact cY _ _ _ | exact b9 _ _ | exact bT _ _ _ _ _ _ | exact dm _ _ | exact cz _)) only [↓yM,yL,Nat.reduceLT,Nat.reduceEqDiff,Nat.reduceAdd,reduceIte,reduceCtorEq,Nat.reduceBEq,Int.reduceEq,Int.reduceLT,Int.reduceLE,Int.reduceAdd,Int.reduceSub,hl,e,rh,Bh,↓dl];refine iteH.split (fun h1=>?_) fun h1=>?_
 all_goals
  simp -dsimp (maxSteps:=1000000) (disch:=(first | omega | assumption | exact ai _ | exact bo _ _ | exact bH | exact cY _ _ _ | exact b9 _ _ | exact bT _ _ _ _ _ _ | exact dm _ _ | exact cz _)) only [↓yM,yL,Nat.reduceLT,Nat.reduceEqDiff,Nat.reduceAdd,reduceIte,reduceCtorEq,Nat.reduceBEq,Int.reduceEq,Int.reduceLT,Int.reduceLE,Int.reduceAdd,Int.reduceSub,hl,e,rh,Bh,↓dl];refine iteH.split (fun h2=>?_) fun h2=>?_
 all_goals
  simp -dsimp (maxSteps:=1000000) (disch:=(first | omega | assumption | exact ai _ | exact bo _ _ | exact bH | exact cY _ _ _ | exact b9 _ _ | exact bT _ _ _ _ _ _ | exact dm _ _ | exact cz _)) only [↓yM,yL,Nat.reduceLT,Nat.reduceEqDiff,Nat.reduceAdd,reduceIte,reduceCtorEq,Nat.reduceBEq,Int.reduceEq,Int.reduceLT,Int.reduceLE,Int.reduceAdd,Int.reduceSub,hl,e,rh,Bh,↓dl];refine iteH.split (fun h3=>?_) fun h3=>?_
 ·have he:w / 2^56=w / 4294967296 / 65536 / 256:=zO;obtain ⟨L,f1,b,f3,f4,f5,f6,d⟩:=fin 56 (w / 4294967296 / 65536 / 256) zO zO he zO;have c:IntKind.i64.wrap (56+(L:Int))=((56+L:Nat):Int):=by rw [wrap_i64] <;> omega
  simp -dsimp (maxSteps:=1000000) (disch:=(first | omega | assumption | exact ai _ | exact bo _ _ | exact bH | exact cY _ _ _ | exact b9 _ _ | exact bT _ _ _ _ _ _ | exact dm _ _ | exact cz _)) only [↓yM,yL,Nat.reduceLT,Nat.reduceEqDiff,Nat.reduceAdd,reduceIte,reduceCtorEq,Nat.reduceBEq,Int.reduceEq,Int.reduceLT,Int.reduceLE,Int.reduceAdd,Int.reduceSub,hl,e,rh,Bh,↓dl,f1,b,c,(show IntKind.i64.wrap 16=16 from a 16 zO),(show IntKind.i64.wrap 40=40 from a 40 zO),(show IntKind.i64.wrap 48=48 from a 48 zO),(show IntKind.i64.wrap 56=56 from a 56 zO),(show IntKind.i64.wrap 24=24 from a 24 zO),(show IntKind.i64.wrap 8=8 from a 8 zO)];exact ⟨⟨56+L,rfl,f4,f5,f6,d⟩,zK⟩
 ·have he:w / 2^48=w / 4294967296 / 65536:=zO;obtain ⟨L,f1,b,f3,f4,f5,f6,d⟩:=fin 48 (w / 4294967296 / 65536) zO zO he zO;have c:IntKind.i64.wrap (48+(L:Int))=((48+L:Nat):Int):=by rw [wrap_i64] <;> omega
  simp -dsimp (maxSteps:=1000000) (disch:=(first | omega | assumption | exact ai _ | exact bo _ _ | exact bH | exact cY _ _ _ | exact b9 _ _ | exact bT _ _ _ _ _ _ | exact dm _ _ | exact cz _)) only [↓yM,yL,Nat.reduceLT,Nat.reduceEqDiff,Nat.reduceAdd,reduceIte,reduceCtorEq,Nat.reduceBEq,Int.reduceEq,Int.reduceLT,Int.reduceLE,Int.reduceAdd,Int.reduceSub,hl,e,rh,Bh,↓dl,f1,b,c,(show IntKind.i64.wrap 16=16 from a 16 zO),(show IntKind.i64.wrap 40=40 from a 40 zO),(show IntKind.i64.wrap 48=48 from a 48 zO),(show IntKind.i64.wrap 56=56 from a 56 zO),(show IntKind.i64.wrap 24=24 from a 24 zO),(show IntKind.i64.wrap 8=8 from a 8 zO)];exact ⟨⟨48+L,rfl,f4,f5,f6,d⟩,zK⟩
 ·have he:w / 2^40=w / 4294967296 / 256:=zO;obtain ⟨L,f1,b,f3,f4,f5,f6,d⟩:=fin 40 (w / 4294967296 / 256) zO zO he zO;have c:IntKind.i64.wrap (40+(L:Int))=((40+L:Nat):Int):=by rw [wrap_i64] <;> omega
  simp -dsimp (maxSteps:=1000000) (disch:=(first | omega | assumption | exact ai _ | exact bo _ _ | exact bH | exact cY _ _ _ | exact b9 _ _ | exact bT _ _ _ _ _ _ | exact dm _ _ | exact cz _)) only [↓yM,yL,Nat.reduceLT,Nat.reduceEqDiff,Nat.reduceAdd,reduceIte,reduceCtorEq,Nat.reduceBEq,Int.reduceEq,Int.reduceLT,Int.reduceLE,Int.reduceAdd,Int.reduceSub,hl,e,rh,Bh,↓dl,f1,b,c,(show IntKind.i64.wrap 16=16 from a 16 zO),(show IntKind.i64.wrap 40=40 from a 40 zO),(show IntKind.i64.wrap 48=48 from a 48 zO),(show IntKind.i64.wrap 56=56 from a 56 zO),(show IntKind.i64.wrap 24=24 from a 24 zO),(show IntKind.i64.wrap 8=8 from a 8 zO)];exact ⟨⟨40+L,rfl,f4,f5,f6,d⟩,zK⟩
 ·have he:w / 2^32=w / 4294967296:=zO;obtain ⟨L,f1,b,f3,f4,f5,f6,d⟩:=fin 32 (w / 4294967296) zO zO he zO;have c:IntKind.i64.wrap (32+(L:Int))=((32+L:Nat):Int):=by rw [wrap_i64] <;> omega
  simp -dsimp (maxSteps:=1000000) (disch:=(first | omega | assumption | exact ai _ | exact bo _ _ | exact bH | exact cY _ _ _ | exact b9 _ _ | exact bT _ _ _ _ _ _ | exact dm _ _ | exact cz _)) only [↓yM,yL,Nat.reduceLT,Nat.reduceEqDiff,Nat.reduceAdd,reduceIte,reduceCtorEq,Nat.reduceBEq,Int.reduceEq,Int.reduceLT,Int.reduceLE,Int.reduceAdd,Int.reduceSub,hl,e,rh,Bh,↓dl,f1,b,c,(show IntKind.i64.wrap 16=16 from a 16 zO),(show IntKind.i64.wrap 40=40 from a 40 zO),(show IntKind.i64.wrap 48=48 from a 48 zO),(show IntKind.i64.wrap 56=56 from a 56 zO),(show IntKind.i64.wrap 24=24 from a 24 zO),(show IntKind.i64.wrap 8=8 from a 8 zO)];exact ⟨⟨32+L,rfl,f4,f5,f6,d⟩,zK⟩
 ·have he:w / 2^24=w / 65536 / 256:=zO;obtain ⟨L,f1,b,f3,f4,f5,f6,d⟩:=fin 24 (w / 65536 / 256) zO zO he zO;have c:IntKind.i64.wrap (24+(L:Int))=((24+L:Nat):Int):=by rw [wrap_i64] <;> omega
  simp -dsimp (maxSteps:=1000000) (disch:=(first | omega | assumption | exact ai _ | exact bo _ _ | exact bH | exact cY _ _ _ | exact b9 _ _ | exact bT _ _ _ _ _ _ | exact dm _ _ | exact cz _)) only [↓yM,yL,Nat.reduceLT,Nat.reduceEqDiff,Nat.reduceAdd,reduceIte,reduceCtorEq,Nat.reduceBEq,Int.reduceEq,Int.reduceLT,Int.reduceLE,Int.reduceAdd,Int.reduceSub,hl,e,rh,Bh,↓dl,f1,b,c,(show IntKind.i64.wrap 16=16 from a 16 zO),(show IntKind.i64.wrap 40=40 from a 40 zO),(show IntKind.i64.wrap 48=48 from a 48 zO),(show IntKind.i64.wrap 56=56 from a 56 zO),(show IntKind.i64.wrap 24=24 from a 24 zO),(show IntKind.i64.wrap 8=8 from a 8 zO)];exact ⟨⟨24+L,rfl,f4,f5,f6,d⟩,zK⟩
 ·have he:w / 2^16=w / 65536:=zO;obtain ⟨L,f1,b,f3,f4,f5,f6,d⟩:=fin 16 (w / 65536) zO zO he zO;have c:IntKind.i64.wrap (16+(L:Int))=((16+L:Nat):Int):=by rw [wrap_i64] <;> omega
  simp -dsimp (maxSteps:=1000000) (disch:=(first | omega | assumption | exact ai _ | exact bo _ _ | exact bH | exact cY _ _ _ | exact b9 _ _ | exact bT _ _ _ _ _ _ | exact dm _ _ | exact cz _)) only [↓yM,yL,Nat.reduceLT,Nat.reduceEqDiff,Nat.reduceAdd,reduceIte,reduceCtorEq,Nat.reduceBEq,Int.reduceEq,Int.reduceLT,Int.reduceLE,Int.reduceAdd,Int.reduceSub,hl,e,rh,Bh,↓dl,f1,b,c,(show IntKind.i64.wrap 16=16 from a 16 zO),(show IntKind.i64.wrap 40=40 from a 40 zO),(show IntKind.i64.wrap 48=48 from a 48 zO),(show IntKind.i64.wrap 56=56 from a 56 zO),(show IntKind.i64.wrap 24=24 from a 24 zO),(show IntKind.i64.wrap 8=8 from a 8 zO)];exact ⟨⟨16+L,rfl,f4,f5,f6,d⟩,zK⟩
 ·have he:w / 2^8=w / 256:=zO;obtain ⟨L,f1,b,f3,f4,f5,f6,d⟩:=fin 8 (w / 256) zO zO he zO;have c:IntKind.i64.wrap (8+(L:Int))=((8+L:Nat):Int):=by rw [wrap_i64] <;> omega
  simp -dsimp (maxSteps:=1000000) (disch:=(first | omega | assumption | exact ai _ | exact bo _ _ | exact bH | exact cY _ _ _ | exact b9 _ _ | exact bT _ _ _ _ _ _ | exact dm _ _ | exact cz _)) only [↓yM,yL,Nat.reduceLT,Nat.reduceEqDiff,Nat.reduceAdd,reduceIte,reduceCtorEq,Nat.reduceBEq,Int.reduceEq,Int.reduceLT,Int.reduceLE,Int.reduceAdd,Int.reduceSub,hl,e,rh,Bh,↓dl,f1,b,c,(show IntKind.i64.wrap 16=16 from a 16 zO),(show IntKind.i64.wrap 40=40 from a 40 zO),(show IntKind.i64.wrap 48=48 from a 48 zO),(show IntKind.i64.wrap 56=56 from a 56 zO),(show IntKind.i64.wrap 24=24 from a 24 zO),(show IntKind.i64.wrap 8=8 from a 8 zO)];exact ⟨⟨8+L,rfl,f4,f5,f6,d⟩,zK⟩
 ·have he:w / 2^0=w:=zO;obtain ⟨L,f1,b,f3,f4,f5,f6,d⟩:=fin 0 (w) zO zO he zO;have c:IntKind.i64.wrap (0+(L:Int))=((0+L:Nat):Int):=by rw [wrap_i64] <;> omega
  simp -dsimp (maxSteps:=1000000) (disch:=(first | omega | assumption | exact ai _ | exact bo _ _ | exact bH | exact cY _ _ _ | exact b9 _ _ | exact bT _ _ _ _ _ _ | exact dm _ _ | exact cz _)) only [↓yM,yL,Nat.reduceLT,Nat.reduceEqDiff,Nat.reduceAdd,reduceIte,reduceCtorEq,Nat.reduceBEq,Int.reduceEq,Int.reduceLT,Int.reduceLE,Int.reduceAdd,Int.reduceSub,hl,e,rh,Bh,↓dl,f1,b,c,(show IntKind.i64.wrap 16=16 from a 16 zO),(show IntKind.i64.wrap 40=40 from a 40 zO),(show IntKind.i64.wrap 48=48 from a 48 zO),(show IntKind.i64.wrap 56=56 from a 56 zO),(show IntKind.i64.wrap 24=24 from a 24 zO),(show IntKind.i64.wrap 8=8 from a 8 zO)];exact ⟨⟨0+L,by rw [WT],f4,f5,f6,d⟩,zK⟩
def Eg (C:Code tab) (f:Wf H) {w:Nat} (h0:0<w) (b:w<18446744073709551616) :
  Ans tab (.fn dN [.int .u64 (w:Int)]) H fun v H'=>(∃ z:Nat,v=.int .i64 (z:Int)/\z<64/\w*2^z<18446744073709551616/\9223372036854775808<=w*2^z)/\Kp H H':=by
 refine cT C.q176 zU fun T hl a=>?_;refine zW (aE hl a) ?_;refine AnsH.use (JN C zF h0 b) ?_;rintro v H2 ⟨⟨L,rfl,h1,h2,h3,h4⟩,c⟩;obtain ⟨k2,_,_⟩:=zT H zK c;have d:IntKind.i64.wrap (64-(L:Int))=((64-L:Nat):Int):=by rw [wrap_i64] <;> omega
 refine zW (aD hl a d) ?_;refine ⟨⟨64-L,rfl,zO,?_,?_⟩,zK⟩
 ·have:=Ym h3 (WL (n:=64-L) (show 0<2 by decide))
  rw [<- W0] at this;have e:L+(64-L)=64:=zO;rw [e] at this;exact this
 ·have:=Wh (2^(64-L)) h4
  rw [<- W0] at this;have e:L-1+(64-L)=63:=zO;rw [e] at this;exact this
end
def Same.set {D:List Nat} {T T1:Tm} {i:Nat} {v:AV} (h:Same D T T1) (hi:i∈D):Same D T (T1.set i v) :=
 ⟨by simp [h.len],fun s hs=>by rw [mr _ _ _ _ (fun e=>hs (by rw [<- e]; exact hi))]; exact h.at_ s hs⟩
def Uy (a:Nat):bY .mul .int (.int .u64 (a:Int)) (.int .u64 4294967296)=some (.int .u64 ((a*4294967296 % 18446744073709551616:Nat):Int)):=yD a 4294967296
def Ks (a:Nat):bY .mul .int (.int .u64 4294967296) (.int .u64 (a:Int))=some (.int .u64 ((4294967296*a % 18446744073709551616:Nat):Int)):=yD 4294967296 a
def uG {a:Nat} (h:0<a) (ha:a<18446744073709551616):bY .sub .int (.int .u64 (a:Int)) (.int .u64 1)=some (.int .u64 ((a-1:Nat):Int)):=by
 rw [show (1:Int)=((1:Nat):Int) from rfl,yC a 1 zO];have e:(a+18446744073709551616-1) % 18446744073709551616=a-1:=zO;rw [e]
def sub64 {z:Nat} (h:z<=64):bY .sub .int (.int .u64 64) (.int .u64 (z:Int))=some (.int .u64 ((64-z:Nat):Int)):=by
 rw [show (64:Int)=((64:Nat):Int) from rfl,yC 64 z zO];have e:(64+18446744073709551616-z) % 18446744073709551616=64-z:=zO;rw [e]
def N4 {u n p R:Nat} (h:p+R=u*4294967296+n) (a:R<18446744073709551616):((u*4294967296 % 18446744073709551616+n) % 18446744073709551616+18446744073709551616-p % 18446744073709551616) % 18446744073709551616=R:=zO
section
variable {Y a b u n q r:Nat}
def zq (c:Y=a*4294967296+b) (d:u<Y) (hn:n<4294967296) (e:q*a+r=u) (h:4294967296<=q\/4294967296*r+n<q*b):(u*4294967296+n) / Y<q:=by
 apply (Ww zO).2
 rcases h with h | h
 ·have:=Wh Y h
  omega
 ·have h1:q*Y=(q*a)*4294967296+q*b:=by rw [c,W8,WV]
  rw [h1]
  generalize q*a=p at *
  omega
def my (c:Y=a*4294967296+b) (h0:0<Y) (e:q*a+r=u) (h:q*b<=4294967296*r+n):q<=(u*4294967296+n) / Y:=by
 apply (ZE h0).2
 have h1:q*Y=(q*a)*4294967296+q*b:=by rw [c,W8,WV]
 rw [h1]
 generalize q*a=p at *
 omega
def nJ (hb:b<4294967296) (a:q<=4294967296) (hr:4294967296<=r):q*b<=4294967296*r+n:=by
 have h1:q*b<=4294967296*4294967295:=Xq a zO;omega
def zp (c:Y=a*4294967296+b) (hb:b<4294967296) (ha:2147483648<=a) (d:u<Y) (hn:n<4294967296):u / a<=4294967297/\(u*4294967296+n) / Y<=u / a:=by
 have h0:0<a:=zO;have e:=Xh u a;have hr:u % a<a:=W4 _ h0;rw [Wq] at e;refine ⟨?_,?_⟩
 ·apply YO
  apply (Ww h0).2
  omega
 ·apply YO
  apply (Ww zO).2
  have h1:(u / a+1)*Y=((u / a+1)*a)*4294967296+(u / a+1)*b:=by rw [c,W8,WV]
  have h2:(u / a+1)*a=u / a*a+a:=by rw [Xe,Y1]
  rw [Nat.succ_eq_add_one,h1,h2]
  generalize u / a*a=p at *
  omega
end
def mi {tab:Nat->Option aA} {rd:Bool} {id:Nat} {c:ACode} {T:Tm} {H:Heap} {Q:Ex->Tm->Heap->Prop} {L:Nat} (H0:Heap) (d:List Nat) (P:Nat->List AV->Heap->Prop) (R:List AV->Heap->Prop) (m:Nat)
  (hl:T.length=L) (hp:iW c=true) (q:Kp H0 H) (h0:P m (d.map (ad T)) H)
  (hb:∀ k T1 a,T1.length=L->Same (fU c) T T1->Kp H0 a->P k (d.map (ad T1)) a->WC tab rd c T1 a (SM id (fun T2 H2=>Kp H0 H2/\∃ f,f<k/\P f (d.map (ad T2)) H2) (fun x T2 H2=>x=.nrm/\Kp H0 H2/\R (d.map (ad T2)) H2)))
  (he:∀ T1 a,T1.length=L->Same (fU c) T T1->Kp H0 a->R (d.map (ad T1)) a->Q .nrm T1 a):WC tab rd (PQ id c) T H Q:=by
 unfold PQ;refine WB.wcLoop ?_;refine Et (fun k T1 a=>T1.length=L/\Same (fU c) T T1/\Kp H0 a/\P k (d.map (ad T1)) a) ?_ m T H ⟨hl,Same.refl _ _,q,h0⟩;rintro k T1 a ⟨g,i,r,n⟩;refine ((hb k T1 a g i r n).wb.same hp).mono ?_;rintro x T2 H2 ⟨h,b⟩;have j:Same (fU c) T T2:=(i.trans h).wide fun s hs=>by simpa using hs
 cases x with
 | nrm =>
  obtain ⟨t,f,p,o⟩:=b;exact ⟨f,p,h.len.trans g,j,t,o⟩
 | exit e =>
  simp only [SM] at b;show vC id Q (.exit e) T2 H2;simp only [vC];by_cases h1:e=id
  ·rw [if_pos h1] at b ⊢;exact he T2 H2 (h.len.trans g) j b.2.1 b.2.2
  ·rw [if_neg h1] at b;exact absurd b.1 (by simp)
 | goto l=>exact absurd b.1 (by simp)
 | ret=>exact absurd b.1 (by simp)
section
variable {tab:Nat->Option aA} {H:Heap}
set_option maxHeartbeats 1000000 in
def CN (C:Code tab) (hw:Wf H) {hi lo y:Nat} (hy:hi<y) (U:lo<18446744073709551616) (aI:y<18446744073709551616) :
  Ans tab (.fn jw [.int .u64 (hi:Int),.int .u64 (lo:Int),.int .u64 (y:Int)]) H fun v H'=>v=.tup [.int .u64 (((hi*B+lo) / y:Nat):Int),.int .u64 (((hi*B+lo) % y:Nat):Int)]/\Kp H H':=by
 refine lC C.q184 zU fun T hl g i j=>?_;have e0:¬ (y:Int)=0:=zO;have e1:¬ y<=hi:=zO;refine zW (dj hl g i j e0 e1) ?_;refine iteH.split (fun h0=>?_) (fun h0=>?_)
 ·have ax:hi=0:=zO;subst ax;have q1:=R8 (a:=lo) (b:=y) U zO;have q2:=Ut (a:=lo) (b:=y) zO;rw [Zr,WT];refine zW (aO hl g i j) ?_;refine aF ?_;refine zD (dj hl g i j q1 q2) ?_;exact zK
 ·refine zW (aO hl g i j) ?_;refine AnsH.use (Eg C zF zO aI) ?_;rintro v H2 ⟨⟨z,rfl,hz,W,aJ⟩,aB⟩;obtain ⟨k2,_,w2⟩:=zT H zK aB;have ay:IntKind.u64.wrap (z:Int)=(z:Int):=gH zO zO;have O:0<2^z:=WL zU;obtain ⟨Y,J⟩:∃ Y,y*2^z=Y:=⟨_,rfl⟩
  rw [J] at W aJ;have s1:bY .shl .int (.int .u64 (y:Int)) (.int .u64 (z:Int))=some (.int .u64 (Y:Int)):=by rw [tD zO,J,WW W]
  have s2:=sub64 (z:=z) zO;have af:hi*2^z<18446744073709551616:=Z1 (Ym hy O) (by rw [J]; exact W);have s3:bY .shl .int (.int .u64 (hi:Int)) (.int .u64 (z:Int))=some (.int .u64 ((hi*2^z:Nat):Int)):=by rw [tD zO,WW af]
  have s4:bY .shr .int (.int .u64 (lo:Int)) (.int .u64 ((64-z:Nat):Int))=some (.int .u64 ((lo / 2^(64-z):Nat):Int)):=CO zO;have Z:B=2^(64-z)*2^z:=by
   rw [<- W0]; have:64-z+z=64:=zO;rw [this]
  have aC:lo / 2^(64-z)<2^z:=by
   apply (Ww (WL zU)).2
   rw [Wq,<- Z]; exact U
  obtain ⟨u,hu⟩:∃ u,hi*2^z+lo / 2^(64-z)=u:=⟨_,rfl⟩
  have s5:bY .or .int (.int .u64 ((hi*2^z:Nat):Int)) (.int .u64 ((lo / 2^(64-z):Nat):Int))=some (.int .u64 (u:Int)):=by
   rw [xv af (Xb (YE _ _) U),Nat.or_comm,Wq hi,EY aC,<- hu,Wq hi,YL]
  obtain ⟨m,hm⟩:∃ m,lo*2^z % B=m:=⟨_,rfl⟩
  have a1:m<18446744073709551616:=by rw [<- hm]; exact W4 _ zU
  have s6:bY .shl .int (.int .u64 (lo:Int)) (.int .u64 (z:Int))=some (.int .u64 (m:Int)):=by rw [tD zO,hm]
  have hN:(hi*B+lo)*2^z=u*B+m:=by
   have h1:=Xh (lo*2^z) B;rw [hm] at h1;have h2:lo*2^z / B=lo / 2^(64-z):=by rw [Z,ZF _ _ O]
   rw [h2] at h1;rw [Xe,<- h1,<- hu,Xe,Y4,Wq B];omega
  have ar:u<Y:=by
   have h1:(hi*B+lo)*2^z<y*B*2^z:=by
    refine Ym ?_ O
    have:(hi+1)*B<=y*B:=Wh B hy
    rw [Xe] at this;unfold B at *; omega
   rw [hN,Y4,J] at h1;unfold B at h1; omega
  obtain ⟨a,ha⟩:∃ a,Y / 4294967296=a:=⟨_,rfl⟩
  obtain ⟨b,hb⟩:∃ b,Y % 4294967296=b:=⟨_,rfl⟩
  obtain ⟨f,aG⟩:∃ f,m / 4294967296=f:=⟨_,rfl⟩
  obtain ⟨c,aD⟩:∃ c,m % 4294967296=c:=⟨_,rfl⟩
  have D:Y=a*4294967296+b:=zO;have K:b<4294967296:=zO;have aa:2147483648<=a:=zO;have ah:f<4294967296:=zO;have ag:c<4294967296:=zO;have aj:∀ x:Nat,x<18446744073709551616->bY .quo .int (.int .u64 (x:Int)) (.int .u64 (a:Int))=some (.int .u64 ((x / a:Nat):Int)):=fun x hx=>R8 hx zO;have ao:∀ x:Nat,x<18446744073709551616->x / a*a % 18446744073709551616=x / a*a/\(x+18446744073709551616-x / a*a) % 18446744073709551616=x % a/\x / a*a+x % a=x:=by
   intro x hx;have h1:=Xh x a;rw [Wq] at h1
   generalize x / a*a=p at *
   generalize x % a=t at *
   omega
  have qu:=aj u zO;obtain ⟨aN,aP,aQ⟩:=ao u zO;refine zW (Nx hl g i j ay s1 s2 s3 s4 s5 s6 ha hb aG aD qu aN aP) ?_;obtain ⟨U9,U8⟩:=zp D K aa ar ah;have ae:∀ x:Nat,x % a<4294967296:=fun x=>Z1 (W4 _ zO) zO;refine mi H [15,16] (fun k vs H'=>∃ q r:Nat,vs=[.int .u64 (q:Int),.int .u64 (r:Int)]/\k=q/\q*a+r=u/\(u*4294967296+f) / Y<=q/\q<=4294967297/\r<4294967296) (fun vs H'=>∃ r,vs=[.int .u64 (((u*4294967296+f) / Y:Nat):Int),r]) (u / a) (by simp only [VX]; exact hl) rfl zK ⟨u / a,u % a,by exact zV (aO hl g i j),rfl,aQ,U8,U9,ae u⟩ ?_ ?_
  ·rintro k T1 H1 d w L ⟨q,r,A,S,e,hge,hq,hr⟩;obtain rfl:=S.symm;have w1:=L.wf;have aK:=L.le;simp only [V9,Wg,Wb,and_true] at A;obtain ⟨s,vr⟩:=A;have o:ad T1 9=.int .u64 (a:Int):=(w.at_ 9 zU).trans (zV (aO hl g i j));have l:ad T1 10=.int .u64 (b:Int):=(w.at_ 10 zU).trans (zV (aO hl g i j));have un:ad T1 13=.int .u64 (f:Int):=(w.at_ 13 zU).trans (zV (aO hl g i j));have step:4294967296<=q\/4294967296*r+f<q*b->0<q/\(q-1)*a+(r+a)=u/\(u*4294967296+f) / Y<=q-1:=by
    intro h;have h1:=zq D ar ah e h;have h2:0<q:=Xb (Wd _) h1;refine ⟨h2,?_,Zh h1⟩;have h3:q*a=(q-1)*a+a:=by rw [<- XK]; congr 1; omega
    omega
   have w2:(r+a) % 18446744073709551616=r+a:=zO;by_cases R:4294967296<=q
   ·have E:(4294967296:Int)<=(q:Int):=zO;obtain ⟨p1,p2,p3⟩:=step (.inl R);have z1:=uG (a:=q) p1 zO;refine zW (jU d s vr o l un E z1 w2) ?_;refine iteH.split (fun h=>?_) fun h=>?_
    ·refine zW (fX d s vr o l un z1 w2) ?_
     have:=my (Y:=Y) D zO p2 (nJ K (q:=q-1) (n:=f) zO zO)
     exact ⟨zK,_,by rw [Yt this p3]⟩
    ·refine zW (fX d s vr o l un z1 w2) ?_;exact ⟨zK,q-1,zO,q-1,r+a,rfl,rfl,p2,p3,zO,zO⟩
   ·have E:¬ (4294967296:Int)<=(q:Int):=zO;have N:q*b % 18446744073709551616=q*b:=by
     apply WW
     have:q*b<=4294967295*4294967295:=Xq zO zO
     omega
    have m2:4294967296*r % 18446744073709551616=4294967296*r:=zO;have m3:(4294967296*r+f) % 18446744073709551616=4294967296*r+f:=zO;by_cases F:4294967296*r+f<q*b
    ·obtain ⟨p1,p2,p3⟩:=step (.inr F);have z1:=uG (a:=q) p1 zO;refine zW (Ln d s vr o l un E @F N m2 m3 @Ks z1 w2) ?_;refine iteH.split (fun h=>?_) fun h=>?_
     ·refine zW (fX d s vr o l un z1 w2) ?_
      have:=my (Y:=Y) D zO p2 (nJ K (q:=q-1) (n:=f) zO zO)
      exact ⟨zK,_,by rw [Yt this p3]⟩
     ·refine zW (fX d s vr o l un z1 w2) ?_;exact ⟨zK,q-1,zO,q-1,r+a,rfl,rfl,p2,p3,zO,zO⟩
    ·refine zW (qQ d s vr o l un E @F N m2 m3 @Ks) ?_
     have:=my (Y:=Y) D zO e (Yx F)
     exact ⟨zK,_,by rw [Yt this hge]⟩
  ·rintro T1 H1 d w L ⟨r,A⟩;have w1:=L.wf;have aK:=L.le;simp only [V9,Wg,Wb,and_true] at A;obtain ⟨X,-⟩:=A;obtain ⟨q1,V⟩:∃ q1,(u*4294967296+f) / Y=q1:=⟨_,rfl⟩
   obtain ⟨u1,ap⟩:∃ u1,(u*4294967296+f) % Y=u1:=⟨_,rfl⟩
   have d1:=Xh (u*4294967296+f) Y;rw [V,ap,Wq Y] at d1;have aq:u1<Y:=by rw [<- ap]; exact W4 _ zO
   rw [V] at X;have t2:ad T1 2=.int .u64 (Y:Int):=(w.at_ 2 zU).trans (zV (aO hl g i j));have t8:ad T1 8=.int .u64 (z:Int):=(w.at_ 8 zU).trans (zV (aO hl g i j));have t9:ad T1 9=.int .u64 (a:Int):=(w.at_ 9 zU).trans (zV (aO hl g i j));have Q:ad T1 10=.int .u64 (b:Int):=(w.at_ 10 zU).trans (zV (aO hl g i j));have aW:ad T1 11=.int .u64 (u:Int):=(w.at_ 11 zU).trans (zV (aO hl g i j));have aX:ad T1 13=.int .u64 (f:Int):=(w.at_ 13 zU).trans (zV (aO hl g i j));have P:ad T1 14=.int .u64 (c:Int):=(w.at_ 14 zU).trans (zV (aO hl g i j));have f1:((u*4294967296 % 18446744073709551616+f) % 18446744073709551616+18446744073709551616-q1*Y % 18446744073709551616) % 18446744073709551616=u1:=N4 d1 zO;have aM:=aj u1 zO;obtain ⟨aR,aS,aT⟩:=ao u1 zO;obtain ⟨aU,aV⟩:=zp D K aa aq ag;refine zW (Ln d X t2 t8 t9 Q aW aX P @Uy f1 aM aR aS) ?_;refine mi H [18,16] (fun k vs H'=>∃ q r:Nat,vs=[.int .u64 (q:Int),.int .u64 (r:Int)]/\k=q/\q*a+r=u1/\(u1*4294967296+c) / Y<=q/\q<=4294967297/\r<4294967296) (fun vs H'=>∃ r,vs=[.int .u64 (((u1*4294967296+c) / Y:Nat):Int),r]) (u1 / a) (by simp only [VX]; exact d) rfl zK ⟨u1 / a,u1 % a,by exact zV d,rfl,aT,aV,aU,ae u1⟩ ?_ ?_
   ·rintro k T2 H3 G I M ⟨q,r,A,S,e,hge,hq,hr⟩;obtain rfl:=S.symm;have w1:=M.wf;have aL:=M.le;simp only [V9,Wg,Wb,and_true] at A;obtain ⟨s,vr⟩:=A;have o:ad T2 9=.int .u64 (a:Int):=(I.at_ 9 zU).trans (zV (aO d t9 Q P));have l:ad T2 10=.int .u64 (b:Int):=(I.at_ 10 zU).trans (zV (aO d t9 Q P));have un:ad T2 14=.int .u64 (c:Int):=(I.at_ 14 zU).trans (zV (aO d t9 Q P));have step:4294967296<=q\/4294967296*r+c<q*b->0<q/\(q-1)*a+(r+a)=u1/\(u1*4294967296+c) / Y<=q-1:=by
     intro h;have h1:=zq D aq ag e h;have h2:0<q:=Xb (Wd _) h1;refine ⟨h2,?_,Zh h1⟩;have h3:q*a=(q-1)*a+a:=by rw [<- XK]; congr 1; omega
     omega
    have w2:(r+a) % 18446744073709551616=r+a:=zO;by_cases R:4294967296<=q
    ·have E:(4294967296:Int)<=(q:Int):=zO;obtain ⟨p1,p2,p3⟩:=step (.inl R);have z1:=uG (a:=q) p1 zO;refine zW (jU G s vr o l un E z1 w2) ?_;refine iteH.split (fun h=>?_) fun h=>?_
     ·refine zW (fX G s vr o l un z1 w2) ?_
      have:=my (Y:=Y) D zO p2 (nJ K (q:=q-1) (n:=c) zO zO)
      exact ⟨zK,_,by rw [Yt this p3]⟩
     ·refine zW (fX G s vr o l un z1 w2) ?_;exact ⟨zK,q-1,zO,q-1,r+a,rfl,rfl,p2,p3,zO,zO⟩
    ·have E:¬ (4294967296:Int)<=(q:Int):=zO;have N:q*b % 18446744073709551616=q*b:=by
      apply WW
      have:q*b<=4294967295*4294967295:=Xq zO zO
      omega
     have m2:4294967296*r % 18446744073709551616=4294967296*r:=zO;have m3:(4294967296*r+c) % 18446744073709551616=4294967296*r+c:=zO;by_cases F:4294967296*r+c<q*b
     ·obtain ⟨p1,p2,p3⟩:=step (.inr F);have z1:=uG (a:=q) p1 zO;refine zW (Ln G s vr o l un E @F N m2 m3 @Ks z1 w2) ?_;refine iteH.split (fun h=>?_) fun h=>?_
      ·refine zW (fX G s vr o l un z1 w2) ?_
       have:=my (Y:=Y) D zO p2 (nJ K (q:=q-1) (n:=c) zO zO)
       exact ⟨zK,_,by rw [Yt this p3]⟩
      ·refine zW (fX G s vr o l un z1 w2) ?_;exact ⟨zK,q-1,zO,q-1,r+a,rfl,rfl,p2,p3,zO,zO⟩
     ·refine zW (qQ G s vr o l un E @F N m2 m3 @Ks) ?_
      have:=my (Y:=Y) D zO e (Yx F)
      exact ⟨zK,_,by rw [Yt this hge]⟩
   ·rintro T2 H3 G I M ⟨r,A⟩;have w3:=M.wf;have aL:=M.le;simp only [V9,Wg,Wb,and_true] at A;obtain ⟨au,-⟩:=A;obtain ⟨q0,hq0⟩:∃ q0,(u1*4294967296+c) / Y=q0:=⟨_,rfl⟩
    obtain ⟨r0,al⟩:∃ r0,(u1*4294967296+c) % Y=r0:=⟨_,rfl⟩
    have d2:=Xh (u1*4294967296+c) Y;rw [hq0,al,Wq Y] at d2;have am:r0<Y:=by rw [<- al]; exact W4 _ zO
    rw [hq0] at au;have x2:ad T2 2=.int .u64 (Y:Int):=(I.at_ 2 zU).trans (zV (aE d t2));have x8:ad T2 8=.int .u64 (z:Int):=(I.at_ 8 zU).trans (zV (aE d t8));have aY:ad T2 14=.int .u64 (c:Int):=(I.at_ 14 zU).trans (zV (aE d P));have aZ:ad T2 15=.int .u64 (q1:Int):=(I.at_ 15 zU).trans (zV (aE d X));have a0:ad T2 17=.int .u64 (u1:Int):=(I.at_ 17 zU).trans (zV d);have a3:q1<4294967296:=by
     rw [<- V]
     apply (Ww zO).2
     omega
    have a2:q0<4294967296:=by
     rw [<- hq0]
     apply (Ww zO).2
     omega
    have f2:(q1*4294967296 % 18446744073709551616+q0) % 18446744073709551616=q1*4294967296+q0:=zO;have f3:((u1*4294967296 % 18446744073709551616+c) % 18446744073709551616+18446744073709551616-q0*Y % 18446744073709551616) % 18446744073709551616=r0:=N4 d2 zO;have aH:bY .shr .int (.int .u64 (r0:Int)) (.int .u64 (z:Int))=some (.int .u64 ((r0 / 2^z:Nat):Int)):=CO zO;refine zW (ia G au x2 x8 aY aZ a0 @Uy f2 f3 aH) ?_;have ab:(hi*B+lo)*2^z=(q1*4294967296+q0)*Y+r0:=by
     rw [hN,Xe,Y4];have e5:m=f*4294967296+c:=zO
     generalize q1*Y=p at *
     generalize q0*Y=p' at *
     unfold B;omega
    have av:(hi*B+lo) / y=q1*4294967296+q0:=by
     rw [<- ZF _ _ O,ab,J];rw [YL,ZG _ _ zO,X9 am,WT]
    have aw:r0 / 2^z=(hi*B+lo) % y:=by
     have h1:(hi*B+lo)*2^z % (y*2^z)=r0:=by
      rw [ab,J,YL,Nat.add_mul_mod_self_right,WW am]
     rw [Nat.mul_mod_mul_right] at h1;rw [<- h1,Nat.mul_div_cancel _ O]
    rw [av,aw];exact ⟨rfl,zK⟩
end
def AO:∀ {out:List Nat} {M:Nat},(∀ j,j<out.length->out.getD j 0=M / B^j % B)->M<B^out.length->val out=M
 | [],M,_,h=>by simp at h; simp [val,h]
 | a :: t,M,hd,h=>by
  have h0:=hd 0 (by simp);simp only [YG,Y5,Nat.div_one] at h0;have b:val t=M / B:=by
   refine AO (fun j hj=>?_) ?_
   ·have:=hd (j+1) (by simpa using hj)
    rw [XD] at this;rw [this,Xc,WO,Wq B]
   ·apply (Ww zU).2
    rw [<- WO]; simpa using h
  simp only [val,b,h0];exact ZV M B
def Ji {out:List Nat} (h:∀ j,j<out.length->out.getD j 0<B):Lim out:=fun a ha=>by
 obtain ⟨j,hj,rfl⟩:=Xd ha
 have:=h j hj
 rw [VY,VZ hj] at this;exact this
def jh (n j:Nat):(ah n).getD j 0=n / B^j % B:=by
 have h1:(ah n).drop j=ah (n / B^j):=mV j n;have h2:(ah n).getD j 0=((ah n).drop j).getD 0 0:=by
  rw [VY,VY,Wu,XH]
 rw [h2,h1];by_cases h0:n / B^j=0
 ·rw [h0,cR]; rfl
 ·rw [kz h0]; rfl
def HY {a c m M:Nat} (ha:a<c) (b:0<M):(a+c*m) % (c*M)=a+c*(m % M):=by
 have h1:m=m % M+M*(m / M):=(ZV m M).symm;have h2:a+c*m=a+c*(m % M)+c*M*(m / M):=by
  conv=>lhs; rw [h1]
  rw [W8,WV]; omega
 have h3:a+c*(m % M)<c*M:=by
  have h4:c*(m % M+1)<=c*M:=Yq c (W4 _ b);rw [W8] at h4; omega
 rw [h2,YI,WW h3]
def Cc {Y j r:Nat} (hr:r<64):Y / B^j % B / 2^r+2^(64-r)*(Y / B^(j+1) % B % 2^r)=Y / 2^r / B^j % B:=by
 have b:B=2^r*2^(64-r):=by
  rw [<- W0]; have:r+(64-r)=64:=zO;rw [this]
 have p2:0<2^r:=WL zU;have p3:0<2^(64-r):=WL zU;have d:Y / 2^r / B^j=Y / B^j / 2^r:=by rw [Xc,Xc,Wq]
 have e:Y / B^(j+1)=Y / B^j / B:=by rw [Xc,WO]
 rw [d,e]
 generalize Y / B^j=Z
 have hz:Z=Z % B+B*(Z / B):=(ZV Z B).symm;have hl:Z % B / 2^r<2^(64-r):=by
  apply (Ww p2).2
  rw [Wq,<- b]; exact W4 _ zU
 have h1:Z / 2^r=Z % B / 2^r+2^(64-r)*(Z / B):=by
  conv=>lhs; rw [hz]
  rw [b,WV,Nat.add_mul_div_left _ _ p2,<- b]
 have h2:Z / B % B % 2^r=Z / B % 2^r:=Nat.mod_mod_of_dvd _ ⟨2^(64-r),b⟩;rw [h1,h2]
 have:=HY (a:=Z % B / 2^r) (c:=2^(64-r)) (m:=Z / B) (M:=2^r) hl p2
 rw [Wq (2^(64-r)) (2^r),<- b] at this;exact this.symm
def Ka {x r:Nat} (hr:r<=64):x*2^(64-r) % B=2^(64-r)*(x % 2^r):=by
 have a:B=2^(64-r)*2^r:=by
  rw [<- W0]; have:64-r+r=64:=zO;rw [this]
 rw [a,Wq x,Nat.mul_mod_mul_left]
def rS {l:List Nat} {i v:Nat} (h:i<l.length):(l.set i v).getD i 0=v:=by
 rw [VY,Yc,if_pos rfl,if_pos h]; rfl
section
variable {tab:Nat->Option aA} {H:Heap} {s:AV}
def OV (C:Code tab) (hw:Wf H) {a:AV} {x k:Nat} (ha:bO H a x) (hx:Sm x) (hk:k<=65536) :
  Ans tab (.fn uO [a,.int .i64 (k:Int)]) H fun v H'=>∃ o,v=.tup [o,.int .i64 0]/\bO H' o (x / 2^k)/\Kp H H':=by
 refine bA C.q182 zU fun T hl f d=>?_;refine zW (aD hl f d) ?_;refine AnsH.eq (Dx C zF (ha.mono (zG H)) hx hk) fun H2 al=>?_;obtain ⟨k2,_,w2⟩:=zT H zK al;have n2:=k2.le;unfold Sm at hx;have W:=OD (k:=k) (c:=64) zO zO;have hr:=OB (k:=k) (c:=64) zO;obtain ⟨q,eq⟩:∃ q,q=k / 64:=⟨_,rfl⟩
 obtain ⟨r,er⟩:∃ r,r=k % 64:=⟨_,rfl⟩
 rw [<- eq] at W;rw [<- er] at hr;have aw:bY .quo .int (.int .i64 (k:Int)) (.int .i64 64)=some (.int .i64 (q:Int)):=W;have Z:bY .rem .int (.int .i64 (k:Int)) (.int .i64 64)=some (.int .i64 (r:Int)):=hr;have K:r<64:=zO;obtain ⟨n,hn⟩:∃ n,min q (ah x).length=n:=⟨_,rfl⟩
 have au:Jc (.int .i64 (q:Int)) (.int .i64 ((ah x).length:Int))=some (.int .i64 (n:Int)):=by rw [Av]; congr 2; split <;> omega
 obtain ⟨s',e0,aa⟩:=SlV.lo (ha.mono k2.sub) .i64 n zO;have e':cG 1 a (some (.int .i64 (n:Int))) none none=some s':=e0;obtain ⟨l,t⟩:∃ l,(ah x).drop n=l:=⟨_,rfl⟩
 rw [t] at aa;have ap:Lim l:=by rw [<- t]; exact (aY x).drop n
 have aI:l.length<=(ah x).length:=by rw [<- t,Xm]; omega
 refine zW (fo hl f d aw ha.lenV au e') ?_;refine AnsH.use (xO C zF (aa.mono (Sub.bump H2 _)) zO) ?_;rintro v M ⟨hv,am,V⟩;obtain ⟨k3,_,w3⟩:=zT H zK am;obtain ⟨N,z⟩:∃ N,l.length=N:=⟨_,rfl⟩
 have aB:lenV v=some (.int .i64 (N:Int)):=by have:=hv.lenV; rwa [z] at this
 rw [z] at V;obtain ⟨b,hb⟩:∃ b,0<N->v=.own b 0 N N 1 false/\M.get b=some (.cells (aN l) ae true)/\H.next<=b:=by
  by_cases h0:0<N
  ·obtain ⟨b,h1,h2,h3⟩:=V h0
   have:H.next<=H2.next:=n2
   exact ⟨b,fun _=>⟨h1,h2,by have:H2.next<=b:=Wj (WJ _ _) h3; omega⟩⟩
  ·exact ⟨0,fun h=>absurd h h0⟩
 obtain ⟨Y,s⟩:∃ Y,val l=Y:=⟨_,rfl⟩
 have aj:∀ j,l.getD j 0=Y / B^j % B:=by
  intro j;have h1:l=ah Y:=by
   rw [<- t,mV] at s ⊢;rw [bM] at s; rw [s]
  rw [h1,jh]
 have O:Y<B^N:=by rw [<- s,<- z]; exact xI ap
 refine zW (aO hl f d aB) ?_;refine aq H [] (fun i vs H'=>∃ out,(0<N->H'.get b=some (.cells (aN out) ae true))/\(N=0->Lb H' v [])/\out.length=N/\(∀ j,j<i->out.getD j 0=Y / 2^r / B^j % B)/\(∀ j,i<=j->out.getD j 0=Y / B^j % B)) (a:=0) (N:=N) rfl (by refine zW (aD hl f d) ?_; rfl) (zV (aD hl f d)) (Wd _) zO (by simp only [VX,hl]; rfl) rfl (fun _ _ H' m h=>by
   obtain ⟨out,h1,h2,h3⟩:=h;exact ⟨out,h1,fun h0=>(h2 h0).mono (Sub.bump H' m),h3⟩) zK
  ⟨l,fun h0=>by exact zV ((hb h0).2.1),fun h0=>by
   have:l=[]:=WR zO
   subst this; exact hv.mono (Sub.bump M _),z,fun j hj=>by omega,fun j _=>aj j⟩ ?_ ?_
 ·rintro i T1 F _ hi g Q D p ⟨out,b0,-,u,w,A⟩;simp only [VX,hl] at g;have w1:=p.wf;have aG:=p.le;obtain ⟨L,-,P⟩:=hb zO;have G:=b0 zO;have aJ:=p.wf _ _ G;have E:ad T1 7=.own b 0 N N 1 false:=(D.at_ 7 zU).trans (zV (aO hl f d L));have t1:ad T1 1=.int .i64 (k:Int):=(D.at_ 1 zU).trans (zV (aO hl f d d));have ax:∀ y:Nat,bY .shr .int (.int .u64 (y:Int)) (.int .i64 (r:Int))=some (.int .u64 ((y / 2^r:Nat):Int)):=fun y=>tC y r K;have af:IntKind.i64.wrap ((i:Int)+1)=((i+1:Nat):Int):=by rw [wrap_i64] <;> omega
  have J:=A i (V6 _);refine zW (fX g E t1 Q @G Z ax af) ?_;refine iteH.split (fun h=>?_) fun h=>?_
  ·have av:=A (i+1) zO;have aC:IntKind.i64.wrap (64-(r:Int))=((64-r:Nat):Int):=by rw [wrap_i64] <;> omega
   have gi:(out.set i (out.getD i 0 / 2^r)).getD i 0=out.getD i 0 / 2^r:=rS zO;have ag:(out.set i (out.getD i 0 / 2^r)).getD (i+1) 0=out.getD (i+1) 0:=bw zO;have S:out.getD i 0<18446744073709551616:=by rw [J]; exact W4 _ zU
   have ab:=tD (x:=out.getD (i+1) 0) (r:=64-r) zO (k:=.i64);have ay:out.getD i 0 / 2^r<2^(64-r):=by
    apply (Ww (WL zU)).2
    rw [<- W0]
    have:64-r+r=64:=zO
    rw [this]; exact S
   have U:=xv (a:=out.getD i 0 / 2^r) (b:=out.getD (i+1) 0*2^(64-r) % B) (Xb (YE _ _) S) (W4 _ zU);rw [Ka zO,EY ay] at U;rw [Ka zO] at ab;have ti:bf (aN (out.set i (out.getD i 0 / 2^r))) i none=some (.int .u64 ((out.getD i 0 / 2^r:Nat):Int)):=by rw [EE zS,gi]
   have aH:bf (aN (out.set i (out.getD i 0 / 2^r))) (i+1) none=some (.int .u64 ((out.getD (i+1) 0:Nat):Int)):=by rw [EE zS,ag]
   refine aF ?_;refine zD (qQ g E t1 Q @G Z aC af ti aH ab U) ?_;refine ⟨zK,_,fun _=>rfl,fun h0=>by omega,by simp [u],fun j hj=>?_,fun j hj=>?_⟩
   ·by_cases I:j=i
    ·subst I;rw [rS zS,J,av];exact Cc K
    ·rw [bw zO,bw zO];exact w j zO
   ·rw [bw zO,bw zO];exact A j zO
  ·refine zW g ?_;refine ⟨zK,_,fun _=>rfl,fun h0=>by omega,by simp [u],fun j hj=>?_,fun j hj=>?_⟩
   ·by_cases I:j=i
    ·subst I;rw [rS zO,J,<- Cc K];have h0:Y / B^(j+1)=0:=X9 (by
      have:j+1=N:=zO
      rw [this]; exact O)
     rw [h0]; simp
    ·rw [bw zO];exact w j zO
   ·rw [bw zO];exact A j zO
 ·rintro T1 F g D p ⟨out,b0,hz,u,w,-⟩;simp only [VX,hl] at g;have w1:=p.wf;have aG:=p.le;have E:ad T1 7=v:=(D.at_ 7 zU).trans (zV (aD hl f d));have ar:Lim out:=Ji fun j hj=>by rw [w j zO]; exact W4 _ zU
  have hval:val out=Y / 2^r:=AO (fun j hj=>w j zO) (by rw [u]; exact Xb (YE _ _) O);have ho:Lb F v out:=by
   by_cases h0:0<N
   ·obtain ⟨L,-,P⟩:=hb h0;rw [L];exact (ww (H0:=H) (ex:=false) (b0 h0) P u).sl
   ·have:out=[]:=WR zO
    subst this; exact hz zO
  refine zW (aE g E) ?_;refine AnsH.use (wh C zF (ho.mono (Sub.bump F _)) zO) ?_;rintro v2 H4 ⟨h4,ao⟩;obtain ⟨k4,_,_⟩:=zT H zK ao;have e:val out=x / 2^k:=by
   have h1:Y=x / B^n:=by rw [<- s,<- t,mV,bM]
   have h2:x / B^n=x / B^q:=by
    by_cases X:q<=(ah x).length
    ·rw [show n=q from by rw [<- hn,Xf X]]
    ·have h3:=iM x;have R:(ah x).length<=q:=XN (Nat.lt_of_not_le X);rw [show n=(ah x).length from by rw [<- hn,ZI R],X9 h3];exact (X9 (Wo h3 (Wx zU R))).symm
   have h3:k=64*q+r:=zO;rw [hval,h1,h2,Xc];congr 1;rw [h3,W0,Zg]
  rw [eW ar,e] at h4;refine zW g ?_;exact ⟨v2,rfl,h4,zK⟩
end
def Lx {X w y:Nat}:X*B+y=X / w*B*w+(X % w*B+y):=by
 have h:=Xh X w
 generalize X / w=q at *
 generalize X % w=r at *
 subst h
 grind
section
variable {tab:Nat->Option aA} {H:Heap} {s:AV}
def tM (C:Code tab) (b:Wf H) {sa:AV} (ha:One sa) :
  Ans tab (.fn cQ [sa]) H fun v H'=>v=.fn (.func bh) [] [.ptr H.next 0]/\H'.get H.next=some (.cells [sa] aK true)/\H.next+1<=H'.next/\Kp H H':=by
 refine cT C.q183 zU fun T hl a=>?_;refine zW (aE hl a) ?_;exact ⟨zO,zK⟩
def FM (C:Code tab) {H0:Heap} {f g:Nat} {a:List Nat} {sa:AV} (J:Nat->Heap->Prop) (z:a.length<4611686018427387904)
  (x:Kp H0 H) (h0:J 0 H) (e:∀ k H m,J k H->J k (H.up m)) (hA:∀ k H,J k H->H.get g=some (.cells [sa] aK true)/\Lb H sa a)
  (hr:∀ i k H,i+k+1=a.length->Kp H0 H->J k H->Ans tab (.round f [.int .i64 (i:Int),.int .u64 (a.getD i 0:Nat)]) H fun v H'=>v=.bool true/\Kp H0 H'/\J (k+1) H') :
  Ans tab (.ent bh [.loopv f,.ptr g 0]) H fun _ H'=>Kp H0 H'/\J a.length H':=by
 refine TJ C.q187 zU fun T hl c d=>?_;obtain ⟨q1,q2⟩:=hA _ _ h0;have u:IntKind.i64.wrap ((a.length:Int)-1)=(a.length:Int)-1:=by rw [wrap_i64] <;> omega
 refine zW (dj hl c d q1 q2.lenV u) ?_;refine cu H0 [3] (fun m vs H'=>∃ k,k<=a.length/\m=a.length-k/\vs=[.int .i64 ((a.length:Int)-1-(k:Int))]/\J k H') a.length (by simp only [VX]; exact hl) rfl zK ⟨0,Wd _,rfl,by exact zV (bB hl c d @PL @Int.sub_zero),e _ _ _ h0⟩ ?_;rintro m T1 o l n j ⟨k,y,rfl,b,h⟩;simp only [V9,Wg,Wb,and_true] at b;have w1:=j.wf;have A:=j.le;obtain ⟨q1,q2⟩:=hA _ _ h;by_cases p:k=a.length
 ·have q:¬ (0:Int)<=(a.length:Int)-1-(k:Int):=zO;subst p;refine zW (aD l b q) ?_;exact ⟨zK,e _ _ _ h⟩
 ·obtain ⟨i,hi⟩:∃ i,i+k+1=a.length:=⟨a.length-k-1,zO⟩
  have hz:(a.length:Int)-1-(k:Int)=(i:Int):=zO;rw [hz] at b;have r:(0:Int)<=(i:Int):=zO;have t0:ad T1 0=.loopv f:=(n.at_ 0 zU).trans (zV (aE hl c));have t1:ad T1 1=.ptr g 0:=(n.at_ 1 zU).trans (zV (aO hl c d d));have x1:=SlV.idx1 q2 .i64 i zO;have d1:=fM q2 (i:=i) zO;have s:∀ m,Ans tab (.round f [.int .i64 (i:Int),.int .u64 (a.getD i 0:Nat)]) (o.up m) fun v H'=>v=.bool true/\Kp H0 H'/\J (k+1) H':=fun m=>hr i k _ hi (j.up m) (e _ _ _ h);have t:IntKind.i64.wrap ((i:Int)-1)=(a.length:Int)-1-((k+1:Nat):Int):=by rw [wrap_i64] <;> omega
  refine zW (fX l b r t0 t1 q1 x1 d1) ?_;refine AnsH.eq (s _) fun H2 ⟨k2,w⟩=>?_;refine zW (aD l b t) ?_;exact ⟨zK,a.length-(k+1),zO,k+1,zO,rfl,rfl,e _ _ _ w⟩
def Hm (C:Code tab) (i:Wf H) {a b:AV} {x y:Nat} (ha:bO H a x) (hb:bO H b y) (hx:Sm x) (hy:Sm y) (h0:0<y) :
  Ans tab (.fn oG [a,b]) H fun v H'=>v=.int .i64 0/\Kp H H':=by
 refine bA C.q174 zU fun T hl c d=>?_;refine zW (aD hl c d) ?_;refine AnsH.eq (ij C zF (ha.mono (Sub.bump H _)) hx) fun H2 e=>?_;obtain ⟨k2,_,w2⟩:=zT H zK e;refine zW (aD hl c d) ?_;refine AnsH.eq (ij C zF (hb.mono k2.sub) hy) fun g f=>?_;obtain ⟨j,_,k⟩:=zT H zK f;have h:=bN y;have hne:¬ ((ah y).length:Int)=0:=zO;refine zW (bB hl c d hb.lenV hne) ?_;exact zK
set_option maxHeartbeats 1000000 in
def PB (C:Code tab) (hw:Wf H) {a:AV} {x w:Nat} (ha:bO H a x) (hx:Sm x) (h0:0<w) (aj:w<18446744073709551616) :
  Ans tab (.fn uT [a,.int .u64 (w:Int)]) H fun v H'=>∃ q,v=.tup [q,.int .u64 ((x % w:Nat):Int),.int .i64 0]/\bO H' q (x / w)/\Kp H H':=by
 refine bA C.q175 zU fun T hl c d=>?_;have al:¬ (w:Int)=0:=zO;unfold Sm at hx;obtain ⟨N,D⟩:∃ N,(ah x).length=N:=⟨_,rfl⟩
 have ad:∀ H' id,Ja H' id ae 1 8 [.int .u64 0] (.int .i64 (N:Int)) (.int .i64 (N:Int))=some (.own id 0 N N 1 true,H'.put id (.cells (aN (List.replicate N 0)) ae true)):=fun H' id =>
  (iS H' id ae 1 8 [.int .u64 0] .i64 .i64 N zO zO rfl).trans (by rw [mX])
 have aa:lenV a=some (.int .i64 (N:Int)):=by have:=ha.lenV; rwa [D] at this
 refine zW (aD hl c d) ?_;refine AnsH.eq (ij C zF (ha.mono (zG H)) hx) fun H2 z=>?_;obtain ⟨k2,_,w2⟩:=zT H zK z;have n2:=z.le;have p0:H2.get H.next=some (.cells [.int .u64 (w:Int)] ae true):=z.get (cC)
 have p1:H2.get (H.next+1)=some (.cells [.nilSl] aK true):=z.get (cC);have p2:H2.get (H.next+2)=some (.cells [.int .u64 0] ae true):=z.get (cC);have l0:=k2.wf _ _ p0;have l1:=k2.wf _ _ p1;have l2:=k2.wf _ _ p2;refine zW (jU hl c d p0 p1 p2 al aa ad) ?_;refine AnsH.use (tM C zF ha.one) ?_;rintro v b ⟨rfl,M,af,A⟩;simp only [next_put,dg] at M af ⊢;obtain ⟨k3,_,w3⟩:=zT H zK A;have q0:b.get H.next=some (.cells [.int .u64 (w:Int)] ae true):=A.get (zV p0)
 have q1:b.get (H.next+1)=some (.cells [.own (H2.next+5) 0 N N 1 true] aK true):=A.get (cC);have q2:b.get (H.next+2)=some (.cells [.int .u64 0] ae true):=A.get (zV p2);have qb:b.get (H2.next+5)=some (.cells (aN (List.replicate N 0)) ae true):=A.get (cC);have ap:∀ j,(List.replicate N 0).getD j 0=0:=fun j=>by simp [VY,W7]; split <;> rfl
 have U:x / B^N=0:=X9 (by rw [<- D]; exact iM x);refine zW (aD hl c d) ?_;refine pJ (fi:=bh) (args:=[.loopv b.next,.ptr (H2.next+9) 0]) (by refine zW (aD hl c d) ?_; rfl) ?_
 generalize he:Ent.loop _ _ _ _ _ _=e0
 have K:Kp H ((b.up 1).put b.next e0):=zK;have aH:=K.le;refine (FM C (H0:=H) (a:=ah x) (sa:=a) (fun k H'=>H'.get b.next=some e0/\H'.get H.next=some (.cells [.int .u64 (w:Int)] ae true)/\H'.get (H.next+1)=some (.cells [.own (H2.next+5) 0 N N 1 true] aK true) /\
   (∃ (out:List Nat) (r:Nat),H'.get (H2.next+5)=some (.cells (aN out) ae true)/\out.length=N/\Lim out/\H'.get (H.next+2)=some (.cells [.int .u64 (r:Int)] ae true)/\r=x / B^(N-k) % w/\val out=x / B^(N-k) / w*B^(N-k)/\∀ j,j<N-k->out.getD j 0=0) /\
   H'.get (H2.next+9)=some (.cells [a] aK true)/\Lb H' a (ah x)) zO K
  ⟨by exact cC,by exact zV q0,by exact zV q1,⟨List.replicate N 0,0,by exact zV qb,by simp,Lim.replicate N,by refine zW q2 ?_; rfl,by rw [Nat.sub_zero,U,Nat.zero_mod],by rw [Nat.sub_zero,U,Nat.zero_div,Zr,fY],fun j _=>ap j⟩,by exact zV M,ha.mono K.sub⟩ (fun _ _ _ h=>h) (fun k H' h=>⟨h.2.2.2.2.1,h.2.2.2.2.2⟩) ?_).mono ?_
 ·rintro i k H1 aC t ⟨f,s,g,⟨out,r,m,I,J,n,hr,hval,hz⟩,j5,-⟩;rw [<- he] at f;have aJ:=t.wf _ _ f;have ar:=t.wf _ _ s;have au:=t.wf _ _ g;have av:=t.wf _ _ m;have aw:=t.wf _ _ n;have R:r<w:=by rw [hr]; exact W4 _ h0
  have X:N-k=i+1:=zO;have Y:N-(k+1)=i:=zO;have aB:i<N:=zO;rw [X] at hr hval hz;obtain ⟨y,hy⟩:∃ y,(ah x).getD i 0=y:=⟨_,rfl⟩
  have am:y<18446744073709551616:=by rw [<- hy]; exact (aY x).at i
  rw [hy];have w1:=t.wf;have aG:=t.le;have ao:y=x / B^i % B:=by rw [<- hy,jh]
  refine qB f rfl ?_;refine zW (aO hl c d f) ?_
  generalize ab:Ent.loop _ _ _ _ LoopState.busy none=W
  refine aF ?_;refine zD (fX hl c d f s g m n) ?_;refine AnsH.use (CN C zF R am aj) ?_;rintro v o ⟨rfl,u⟩;have e:Kp H o:=Kp.trans zK u;have aI:=e.le;have w4:=e.wf;have r0:o.get b.next=some W:=u.get (cC)
  have r1:o.get H.next=some (.cells [.int .u64 (w:Int)] ae true):=u.get (zV s)
  have r2:o.get (H.next+1)=some (.cells [.own (H2.next+5) 0 N N 1 true] aK true):=u.get (zV g);have r3:o.get (H2.next+5)=some (.cells (aN out) ae true):=u.get (zV m);have r4:o.get (H.next+2)=some (.cells [.int .u64 (r:Int)] ae true):=u.get (zV n);have r5:o.get (H2.next+9)=some (.cells [a] aK true):=u.get (zV j5);have aL:=e.wf _ _ r0;have ax:=e.wf _ _ r1;have ay:=e.wf _ _ r2;have aM:=e.wf _ _ r3;have aP:=e.wf _ _ r4;refine zD (Ih hl c d f s g m n r0 r1 r2 r3 r4) ?_;rw [vS];have Z:x / B^i=x / B^(i+1)*B+y:=by
   rw [ao,WO,<- Xc,Wq];exact (Xh _ _).symm
  have Q:x / B^i=x / B^(i+1) / w*B*w+(r*B+y):=by
   rw [Z,hr]; exact Lx
  have ag:(r*B+y) / w<B:=by
   apply (Ww h0).2
   have:(r+1)*B<=w*B:=Wh B R
   rw [Xe] at this;rw [Wq B]; unfold B at *; omega
  have S:=jl (l:=out) (k:=i) (v:=(r*B+y) / w) zO;rw [hz i zO,YP,XH,hval] at S;have L:Kp H (((o.put (H2.next+5) (.cells (aN (out.set i ((r*B+y) / w))) ae true)).put (H.next+2) (.cells [.int .u64 (((r*B+y) % w:Nat):Int)] ae true)).put b.next e0):=zK;have aq:=L.le;refine zW (jU ab he r0 r1 r2 r3 r4 r5 Y) ?_;refine ⟨zK,⟨_,_,rfl,by simp [I],kM J ag,rfl,?_,?_,fun j hj=>?_⟩,ha.mono (zG H)⟩
  ·rw [Q,Nat.mul_add_mod_self_right]
  ·rw [S,Q,YL (x / B^(i+1) / w*B*w),ZG _ _ h0,WO]
   grind
  ·rw [bw zO];exact hz j zO
 ·rintro _ H' ⟨p,f,s,g,⟨out,r,m,I,J,n,hr,hval,-⟩,-⟩;have hlt:=p.wf _ _ f;have ar:=p.wf _ _ s;have au:=p.wf _ _ g;have av:=p.wf _ _ m;have aw:=p.wf _ _ n;have V:=p.wf;have aE:=p.le;refine .inl ⟨f,?_⟩;refine zW (aO hl c d D) ?_;rw [D,ZZ,Y5,Nat.div_one] at hr hval;rw [Xy] at hval;refine aF ?_;refine zD (fo hl c d s g m n) ?_;have aQ:=k2.le;have O:((H'.up 6).kill b.next).get (H2.next+5)=some (.cells (aN out) ae true):=by exact zV m
  have w6:Wf (H'.up 6):=V.bump 6;have L:Kp H (H'.up 6):=p.up 6;have aq:=L.le;refine AnsH.eq (qk C zF (rw':=true) I O zO) fun G F=>?_;obtain ⟨e,_,V⟩:=zT H zK F;have r1:G.get (H.next+1)=some (.cells [.own (H2.next+5) 0 N N 1 true] aK true):=F.get (zV g);have r2:G.get (H.next+2)=some (.cells [.int .u64 (r:Int)] ae true):=F.get (zV n);have r3:G.get (H2.next+5)=some (.cells (aN out) ae true):=F.get O;have ax:=e.wf _ _ r1;have ay:=e.wf _ _ r2;obtain ⟨E,P⟩:=sN out;rw [eW J,hval] at P ⊢;refine zD (jU hl c d s g m n r1 r2) ?_;rw [hr];refine ⟨_,rfl,EX (E:=E) (rw':=true) ?_,zK⟩;rw [<- P];exact zV r3
end
def Dj {tab:Nat->Option aA} {rd:Bool} {a rest:ACode} {l:Nat} {T:Tm} {H:Heap} {Q:Ex->Tm->Heap->Prop} (h:WC tab rd a T H (Or Q)):WC tab rd (.scopeL a l rest) T H Q:=by
 obtain ⟨x,T',H',⟨N,g⟩,b⟩:=eN a T H _ h.run;refine ⟨show ∃ x T' H',Qa tab rd (.scopeL a l rest) T H x T' H'/\Q x T' H' from ⟨x,T',H',⟨N,fun m n hm hn=>?_⟩,?_⟩⟩
 ·simp only [aL,g m n hm hn];cases x <;> first | rfl | exact b.elim
 ·cases x <;> first | exact b | exact b.elim
def oM:∀ {l:List Nat} (_:Lim l) (j:Nat),l.getD j 0=val l / B^j % B
 | [],_,j=>by simp [val]
 | a :: t,h,0=>by
  have:=h.head
  simp only [YG,val,Y5,Nat.div_one,YI];exact (WW this).symm
 | a :: t,h,j+1=>by
  have b:=oM h.tail j;have ha:=h.head;rw [XD,b];simp only [val];rw [WO,Wq (B^j),<- Xc,Nat.add_mul_div_left _ _ zU,X9 ha,WT]
structure Dv (H:Heap) (d rb bb M n:Nat) (x1:Bool) (R L:List Nat):Prop where
 hd:H.get d=some (.cells [.own rb 0 M M 1 x1,.own bb 0 n n 1 true] fZ true)
 hr:H.get rb=some (.cells (aN R) ae true)
 hb:H.get bb=some (.cells (aN L) ae true)
 lr:R.length=M
 ll:n<=L.length
 ne:rb≠bb
 limR:Lim R
 limL:Lim L
def FrX (b:Nat) (H H':Heap):Prop:=∀ c e,c≠b->H.get c=some e->H'.get c=some e
def FrX.trans {b:Nat} {H H' H'':Heap} (h:FrX b H H') (h':FrX b H' H''):FrX b H H'':=fun c e hc he=>h' c e hc (h c e hc he)
def Dv.up {H:Heap} {d rb bb M n:Nat} {x1:Bool} {R L:List Nat} (h:Dv H d rb bb M n x1 R L) (k:Nat):Dv (H.up k) d rb bb M n x1 R L:=⟨h.hd,h.hr,h.hb,h.lr,h.ll,h.ne,h.limR,h.limL⟩
def Dv.kp {H H':Heap} {d rb bb M n:Nat} {x1:Bool} {R L:List Nat} (h:Dv H d rb bb M n x1 R L) (a:Kp H H'):Dv H' d rb bb M n x1 R L:=⟨a.get h.hd,a.get h.hr,a.get h.hb,h.lr,h.ll,h.ne,h.limR,h.limL⟩
def Dv.put {H:Heap} {d rb bb M n b:Nat} {x1:Bool} {R L:List Nat} {e:Ent} (h:Dv H d rb bb M n x1 R L) (h1:d≠b) (h2:rb≠b) (h3:bb≠b):Dv (H.put b e) d rb bb M n x1 R L:=⟨by rw [au h1]; exact h.hd,by rw [au h2]; exact h.hr,by rw [au h3]; exact h.hb,h.lr,h.ll,h.ne,h.limR,h.limL⟩
def Dv.ndr {H:Heap} {d rb bb M n:Nat} {x1:Bool} {R L:List Nat} (h:Dv H d rb bb M n x1 R L):d≠rb:=fun e=>by
 have h1:=h.hd;rw [e,h.hr] at h1
 injection h1 with h1; injection h1 with _ h2; exact absurd h2 zU
section
variable {b V W P f sec th hi un q r N:Nat}
def Jn (hV:(hi*b+un)*P<=V) (hW:W<(N*b+th+1)*P) (e:q*hi+r=N) (h:r*b+th<q*un) (hV0:0<V):0<q/\W / V<=q-1:=by
 have h1:W<q*V:=by
  refine Wo hW ?_;refine Wj (Wh P ?_) (Wj (YK (WV q (hi*b+un) P)) (Yq q hV));rw [<- e,W8,Xe,<- WV];omega
 have h2:W / V<q:=(Ww hV0).2 h1;exact ⟨Xb (Wd _) h2,Zh h2⟩
def Jo (hV:(hi*b+un)*P<=V) (hW:W<(N*b+th+1)*P) (c:th<b) (a:0<hi) (hV0:0<V):W / V<=N / hi:=by
 apply YO
 apply (Ww hV0).2
 have h0:=Xh N hi;have h1:=W4 N a;have h2:N+1<=(N / hi+1)*hi:=by
  rw [Xe,Y1,Wq (N / hi)]
  generalize hi*(N / hi)=t at *
  omega
 refine Wo hW ?_;refine Wj (Wh P ?_) (Wj (YK (WV (N / hi+1) (hi*b+un) P)) (Yq _ hV));have h3:=Wh b h2;rw [W8,<- WV];have h4:(N+1)*b=N*b+b:=by rw [Xe,Y1]
 refine Wj ?_ (Wj h3 (WJ _ _));rw [h4];exact Nat.add_le_add_left c _
def S0 (hs:sec<b) (a:f<hi) (h0:0<b):(f*b+sec) / hi<b:=by
 apply (Ww zO).2
 have h1:(f+1)*b<=hi*b:=Wh b a;rw [Xe,Y1] at h1;rw [Wq b]; omega
end
structure GuessH (V W P f sec th hi un:Nat):Prop where
 hV:(hi*B+un)*P<=V
 hW:W<((f*B+sec)*B+th+1)*P
 hWV:W<V*B
 hV0:0<V
structure GuessI (V W f sec hi q r:Nat):Prop where
 e:q*hi+r=f*B+sec
 ge:W / V<=q
section
variable {V W P f sec th hi un q r ov lw:Nat}
def GuessI.step (G:GuessH V W P f sec th hi un) (I:GuessI V W f sec hi q r) (h:r*B+th<q*un):0<q/\GuessI V W f sec hi (q-1) (r+hi):=by
 obtain ⟨h1,h2⟩:=Jn G.hV G.hW I.e h G.hV0;refine ⟨h1,?_,h2⟩;have h3:q*hi=(q-1)*hi+hi:=by
  obtain ⟨t,rfl⟩:∃ t,q=t+1:=⟨q-1,zO⟩
  rw [XK,Yi]
 have:=I.e
 rw [h3] at this;rw [<- this,W9,YL hi]
def GuessI.init (G:GuessH V W P f sec th hi un) (b:th<B) (hs:sec<B) (a:f<hi):GuessI V W f sec hi ((f*B+sec) / hi) ((f*B+sec) % hi)/\(f*B+sec) / hi<B:=by
 refine ⟨⟨?_,Jo G.hV G.hW b (Xb (Wd _) a) G.hV0⟩,S0 hs a zU⟩;rw [Wq]; exact Xh _ _
def GuessH.max (G:GuessH V W P f sec th hi un):W / V<=18446744073709551615:=by
 have h:=G.hWV;rw [Wq] at h;exact YO ((Ww G.hV0).2 h)
def Q6 (a:q*un / B=ov) (b:th<B) (c:r<ov):r*B+th<q*un:=by
 have h:=Xh (q*un) B;rw [a] at h;rw [<- h];have h2:(r+1)*B<=ov*B:=Wh B c;rw [Xe,Y1,Wq ov] at h2;refine Wo (ZX b _) (Wj h2 (WJ _ _))
def Q7 (a:q*un / B=ov) (b:q*un % B=lw) (c:th<lw):ov*B+th<q*un:=by
 have h:=Xh (q*un) B;rw [a,b] at h;rw [<- h,Wq];exact ZX c _
end
section
variable {tab:Nat->Option aA} {H:Heap}
set_option maxHeartbeats 1000000 in
def MP (C:Code tab) (hw:Wf H) {d rb bb M m b:Nat} {x1:Bool} {R L:List Nat} (D:Dv H d rb bb M (m+2) x1 R L) (aq:b+(m+2)<M) (hM:M<2199023255552)
  {V W P:Nat} (G:GuessH V W P (R.getD (b+(m+2)) 0) (R.getD (b+(m+1)) 0) (R.getD (b+m) 0) (L.getD (m+1) 0) (L.getD m 0)) :
  Ans tab (.fn gA [.ptr d 0,.int .i64 (b:Int)]) H fun v H'=>∃ q:Nat,v=.int .u64 (q:Int)/\q<B/\W / V<=q/\Kp H H':=by
 obtain ⟨hd,hr,hb,lr,ll,ne,limR,limL⟩:=D;refine bA C.q178 zU fun T hl e g=>?_;obtain ⟨hi,F⟩:∃ hi,L.getD (m+1) 0=hi:=⟨_,rfl⟩
 obtain ⟨un,Q⟩:∃ un,L.getD m 0=un:=⟨_,rfl⟩
 obtain ⟨f,E⟩:∃ f,R.getD (b+(m+2)) 0=f:=⟨_,rfl⟩
 obtain ⟨sec,es⟩:∃ sec,R.getD (b+(m+1)) 0=sec:=⟨_,rfl⟩
 obtain ⟨th,O⟩:∃ th,R.getD (b+m) 0=th:=⟨_,rfl⟩
 have z:hi<B:=F ▸ limL.at _;have ap:un<B:=Q ▸ limL.at _;have fB:f<B:=E ▸ limR.at _;have ab:sec<B:=es ▸ limR.at _;have ae:th<B:=O ▸ limR.at _;rw [F,Q,E,es,O] at G;have aa:IntKind.i64.wrap ((b:Int)+((m+2:Nat):Int))=((b+(m+2):Nat):Int):=by rw [wrap_i64] <;> omega
 have aj:IntKind.i64.wrap (((b+(m+2):Nat):Int)-1)=((b+(m+1):Nat):Int):=by rw [wrap_i64] <;> omega
 have al:IntKind.i64.wrap (((b+(m+2):Nat):Int)-2)=((b+m:Nat):Int):=by rw [wrap_i64] <;> omega
 have am:IntKind.i64.wrap (((m+2:Nat):Int)-1)=((m+1:Nat):Int):=by rw [wrap_i64] <;> omega
 have ao:IntKind.i64.wrap (((m+2:Nat):Int)-2)=(m:Int):=by rw [wrap_i64] <;> omega
 refine zW (aD hl e g) ?_;refine Dj ?_;refine zW (aO hl e g hd) ?_;refine aF ?_;refine zD (qQ hl e g hd hr hb aa aj am E es F) ?_;refine iteH.split (fun h1=>?_) fun h1=>?_
 ·simp only [je,ko,jd,mo,Ys,Yj];refine zW (aD hl e g) ?_;exact ⟨18446744073709551615,by simp,by decide,G.max,zK⟩
 ·simp only [je,ko,jd,mo,Ys,Yj];refine zW (aD hl e g) ?_;refine AnsH.use (CN C zF zO ab z) ?_;rintro v H2 ⟨rfl,af⟩;obtain ⟨k2,_,w2⟩:=zT H zK af;have d2:=k2.get hd;have r2:=k2.get hr;have b2:=k2.get hb;refine zW (aD hl e g) ?_;refine aF ?_;refine zD (ia hl e g d2 r2 b2 aa al ao Q O) ?_;refine Dj ?_;refine zW (aD hl e g) ?_;obtain ⟨A,hq0⟩:=GuessI.init G ae ab zO;have Y:(f*B+sec) % hi<B:=Z1 (W4 _ zO) z;obtain ⟨q0,K⟩:∃ q0,(f*B+sec) / hi=q0:=⟨_,rfl⟩
  obtain ⟨r0,N⟩:∃ r0,(f*B+sec) % hi=r0:=⟨_,rfl⟩
  rw [K] at A hq0;rw [N] at A Y;simp only [K,N];clear K N;refine cu H [9,10] (fun k vs H'=>∃ q r:Nat,vs=[.int .u64 (q:Int),.int .u64 (r:Int)]/\k=q/\GuessI V W f sec hi q r/\r<B/\q<B) q0 (by simp only [VX]; exact hl) rfl zK ⟨_,_,by exact zV (aD hl e g),rfl,A,Y,hq0⟩ ?_;rintro k T1 H1 i S X ⟨q,r,hv,ah,I,Z,u⟩;obtain rfl:=ah.symm;simp only [V9,Wg,Wb,and_true] at hv;obtain ⟨v9,n⟩:=hv;have w1:=X.wf;have ar:=X.le;have u8:ad T1 8=.int .u64 (hi:Int):=(S.at_ 8 zU).trans (zV (aD hl e g));have j:ad T1 11=.int .u64 (un:Int):=(S.at_ 11 zU).trans (zV (aD hl e g));have l:ad T1 12=.int .u64 (th:Int):=(S.at_ 12 zU).trans (zV (aD hl e g));refine zW (dj i v9 n u8 j l) ?_;refine AnsH.use (qw C zF u ap) ?_;rintro v H3 ⟨rfl,ag⟩;obtain ⟨k3,_,w3⟩:=zT H zK ag;obtain ⟨ov,y⟩:∃ ov,q*un / B=ov:=⟨_,rfl⟩
  obtain ⟨lw,J⟩:∃ lw,q*un % B=lw:=⟨_,rfl⟩
  rw [y,J];have s1:r<ov->0<q/\GuessI V W f sec hi (q-1) (r+hi):=fun c=>I.step G (Q6 y ae c);have s2:ov=r->th<lw->0<q/\GuessI V W f sec hi (q-1) (r+hi):=fun c c'=>I.step G (by rw [<- c]; exact Q7 y J c');clear y J;by_cases w:ov<r
  ·refine zW (fo i v9 n u8 j l @w) ?_;exact ⟨q,rfl,u,I.ge,zK⟩
  ·by_cases x:ov=r
   ·by_cases U:lw<=th
    ·subst x;refine zW (fX i v9 n u8 j l @w U) ?_;exact ⟨q,rfl,u,I.ge,zK⟩
    ·obtain ⟨p1,s⟩:=s2 x zO;clear s1 s2;subst x;have z1:=uG (a:=q) p1 u;refine zW (jU i v9 n u8 j l @w U z1) ?_;refine AnsH.eq (ji C _ ov hi 0 Z z zO) fun H4 e4=>?_;subst e4;have o:(fk ov hi 0).1=(ov+hi) % B:=by simp [fk]
     have p:(fk ov hi 0).2=(ov+hi) / B:=by simp [fk]
     refine zW (jU i v9 n u8 j l z1 o p) ?_;refine iteH.split (fun h=>?_) fun h=>?_
     ·have t:ov+hi<B:=by unfold B at *; omega
      refine zW (jU i v9 n u8 j l z1 o p) ?_;exact ⟨zK,q-1,zO,q-1,ov+hi,by rw [WW t],rfl,s,t,zO⟩
     ·refine zW (jU i v9 n u8 j l z1 o p) ?_;exact ⟨q-1,rfl,zO,s.ge,zK⟩
   ·obtain ⟨p1,s⟩:=s1 zO;have z1:=uG (a:=q) p1 u;refine zW (jU i v9 n u8 j l @w @x z1) ?_;refine AnsH.eq (ji C _ r hi 0 Z z zO) fun H4 e4=>?_;subst e4;have o:(fk r hi 0).1=(r+hi) % B:=by simp [fk]
    have p:(fk r hi 0).2=(r+hi) / B:=by simp [fk]
    refine zW (jU i v9 n u8 j l z1 o p) ?_;refine iteH.split (fun h=>?_) fun h=>?_
    ·have t:r+hi<B:=by unfold B at *; omega
     refine zW (jU i v9 n u8 j l z1 o p) ?_;exact ⟨zK,q-1,zO,q-1,r+hi,by rw [WW t],rfl,s,t,zO⟩
    ·refine zW (jU i v9 n u8 j l z1 o p) ?_;exact ⟨q-1,rfl,zO,s.ge,zK⟩
end
def FrX.kp {b k:Nat} {H a H2:Heap} (h:FrX b H a) (d:Kp (a.up k) H2):FrX b H H2:=fun c e hc he=>d.get (h c e hc he)
def FrX.put {b:Nat} {e':Ent} {H a:Heap} (h:FrX b H a):FrX b H (a.put b e'):=fun c e hc he=>by rw [au hc]; exact h c e hc he
def FrX.up {b:Nat} {H a:Heap} (h:FrX b H a) (k:Nat):FrX b H (a.up k):=h
def FrX.up0 (b k:Nat) (H:Heap):FrX b H (H.up k):=fun _ _ _ h=>h
def PM {p c:Nat} (hp:p<=340282366920938463426481119284349108225) (hc:c<18446744073709551616) :
  (p / 18446744073709551616+(p % 18446744073709551616+c) / 18446744073709551616) % 18446744073709551616=(p+c) / 18446744073709551616/\(p % 18446744073709551616+c) % 18446744073709551616=(p+c) % 18446744073709551616/\(p+c) / 18446744073709551616<18446744073709551616:=zO
def Q5 {x y:Nat} (hx:x<B) (hy:y<B):x*y<=340282366920938463426481119284349108225 :=
 Wj (Xq (YO hx) (YO hy)) zU
def KP {o w l:Nat} (a:o<18446744073709551616) (b:w<18446744073709551616) (hl:l<=1):o+(jF o w l).2*18446744073709551616=(jF o w l).1+w+l/\(jF o w l).1<18446744073709551616:=by
 unfold jF B;simp only;split <;> omega
def qW:∀ {l:List Nat} {m:Nat},Lim l->(∀ i,m<=i->l.getD i 0=0)->val l<B^m
 | [],m,_,_=>by simp only [val]; exact WL zU
 | a :: t,0,h,hz=>by
  have h0:=hz 0 (V6 _);simp only [YG] at h0
  have:=qW (l:=t) (m:=0) h.tail fun i _=>by have:=hz (i+1) (Wd _); rwa [XD] at this
  simp only [Y5] at this;have h1:val t=0:=Nat.lt_one_iff.1 this;simp only [val,h0,h1,Y5];decide
 | a :: t,m+1,h,hz=>by
  have b:=qW (l:=t) (m:=m) h.tail fun i hi=>by have:=hz (i+1) zO; rwa [XD] at this
  have ha:=h.head;simp only [val,WO];have h2:(val t+1)*B<=B^m*B:=Wh B b;rw [Xe,Y1,Wq] at h2;refine Wo ?_ h2;rw [YL];exact ZX ha _
structure TakeI (a q X j:Nat) (L out:List Nat) (c l:Nat):Prop where
 e:val out+B^a*(q*val (L.take j))=X+B^(a+j)*(c+l)
def Of {P A X h i b c l a d o f w g:Nat} (e:h+A=X+P*(c+l)) (k:i+P*o=h+P*f) (h1:g+c=a*b+w) (h2:o+d*b=f+w+l):i+(A+P*g)=X+P*(a*b+d*b):=by
 have e4:=congrArg (P * ·) h1;have j:=congrArg (P * ·) h2;simp only [W8] at e e4 j ⊢
 generalize P*g=x1 at *
 generalize P*(a*b)=m at *
 generalize P*(d*b)=x3 at *
 generalize P*o=x4 at *
 generalize P*f=x5 at *
 generalize P*w=x6 at *
 generalize P*l=n at *
 generalize P*c=p at *
 omega
def Og {P A X f g b c l a o d:Nat} (e:f+A=X+P*(c+l)) (i:g+P*o=f+P*d) (h2:o+a*b=d+c+l):g+A=X+P*(a*b):=by
 have h:=congrArg (P * ·) h2;simp only [W8] at e h
 generalize P*(a*b)=x3 at *
 generalize P*o=x4 at *
 generalize P*d=x5 at *
 generalize P*l=j at *
 generalize P*c=k at *
 omega
def TakeI.step {a q X j c l b d e w:Nat} {L out:List Nat} (I:TakeI a q X j L out c l) (hj:a+j<out.length) (h1:q*L.getD j 0+c=b*B+w) (h2:out.getD (a+j) 0+d*B=e+w+l):TakeI a q X (j+1) L (out.set (a+j) e) b d:=by
 refine ⟨?_⟩;have g:=jl (l:=out) (k:=a+j) (v:=e) hj
 have:=Of I.e g h1 h2
 rw [db,W8,W8];have f:B^a*(q*(B^j*L.getD j 0))=B^(a+j)*(q*L.getD j 0):=by rw [W0,Zw q,WV]
 have e3:B^(a+(j+1))*(b+d)=B^(a+j)*(b*B+d*B):=by rw [<- W9,WO,WV,Wq B,Xe]
 rw [f,e3];exact this
section
variable {tab:Nat->Option aA} {H:Heap}
set_option maxHeartbeats 1000000 in
def Pz (C:Code tab) {H0:Heap} (hk:Kp H0 H) {d rb bb M n a q X:Nat} {x1:Bool} {R L:List Nat} (D:Dv H d rb bb M n x1 R L) (ax:H0.next<=rb) (aw:a+n<M) (hM:M<2199023255552) (hq:q<18446744073709551616) (hX:val R=X) (hz:∀ i,a+n<i->R.getD i 0=0) :
  Ans tab (.fn gQ [.ptr d 0,.int .u64 (q:Int),.int .i64 (a:Int)]) H fun v H'=>∃ (R':List Nat) (l:Nat),v=.bool (decide (0<l))/\l<=1/\Dv H' d rb bb M n x1 R' L/\val R'+B^a*(q*val (L.take n))=X+B^(a+n+1)*l/\(∀ i,a+n<i->R'.getD i 0=0)/\Kp H0 H'/\FrX rb H H':=by
 have ndr:=D.ndr;obtain ⟨hd,hr,hb,lr,ll,ne,limR,limL⟩:=D;have w0:=hk.wf;have ay:=hk.le;have ar:TakeI a q X 0 L R 0 0:=⟨by simp [val,hX]⟩
 clear hX;refine lC C.q179 zU fun T hl e g f=>?_;refine zW (bB hl e g f hd) ?_;refine aq H0 [7,8] (fun j vs H'=>∃ (out:List Nat) (c l:Nat),vs=[.int .u64 (c:Int),.int .u64 (l:Int)]/\H'.get rb=some (.cells (aN out) ae true)/\out.length=M/\Lim out/\c<18446744073709551616/\l<=1/\TakeI a q X j L out c l/\(∀ i,a+n<i->out.getD i 0=0)/\FrX rb H H') (a:=0) (N:=n) rfl (by refine zW (aO hl e g f) ?_; rfl) (zV (aO hl e g f)) (Wd _) zO (by simp only [VX,hl]; rfl) rfl (fun _ _ _ _ h=>h) zK
  ⟨R,0,0,by refine zW (aO hl e g f) ?_; rfl,by exact zV hr,lr,limR,by decide,Wd _,ar,hz,FrX.up0 _ _ _⟩ ?_ ?_
 ·rintro j T1 V _ hj b K F G ⟨out,c,l,u,b0,aa,Q,hc,O,I,ag,E⟩;simp only [VX,hl] at b;simp only [V9,Wg,Wb,and_true] at u;obtain ⟨s,t⟩:=u;have w1:=G.wf;have av:=G.le;have d1:V.get d=some (.cells [.own rb 0 M M 1 x1,.own bb 0 n n 1 true] fZ true):=E _ _ ndr hd;have b1:V.get bb=some (.cells (aN L) ae true):=E _ _ (Ne.symm ne) hb;have t0:ad T1 0=.ptr d 0:=(F.at_ 0 zU).trans (zV (aE hl e));have t1:ad T1 1=.int .u64 (q:Int):=(F.at_ 1 zU).trans (zV (bB hl e g f g));have r:ad T1 2=.int .i64 (a:Int):=(F.at_ 2 zU).trans (zV (bB hl e g f f));have U:ad T1 18=.own bb 0 n n 1 true:=(F.at_ 18 zU).trans (zV (aO hl e g f));obtain ⟨y,hy⟩:∃ y,L.getD j 0=y:=⟨_,rfl⟩
  have ap:y<18446744073709551616:=by rw [<- hy]; exact limL.at j
  obtain ⟨o,m⟩:∃ o,out.getD (a+j) 0=o:=⟨_,rfl⟩
  have S:o<18446744073709551616:=by rw [<- m]; exact Q.at _
  refine zW (oK b s t t0 t1 r U K b1 hy) ?_;refine AnsH.use (qw C zF hq ap) ?_;rintro v H2 ⟨rfl,Z⟩;obtain ⟨k2,_,w2⟩:=zT H0 zK Z;have am:FrX rb H H2:=E.kp Z;have d2:=am _ _ ndr hd;have r2:H2.get rb=some (.cells (aN out) ae true):=Z.get b0;have aC:=k2.wf _ _ r2;obtain ⟨q1,q2,q3⟩:=PM (Q5 hq ap) hc;have ab:(q*y+c) % 18446744073709551616<18446744073709551616:=W4 _ zU;have W:=Xh (q*y+c) 18446744073709551616;obtain ⟨Y,ec⟩:∃ Y,(q*y+c) / 18446744073709551616=Y:=⟨_,rfl⟩
  obtain ⟨lw,ew⟩:∃ lw,(q*y+c) % 18446744073709551616=lw:=⟨_,rfl⟩
  rw [ec] at q1 q3 W;rw [ew] at q2 ab W;obtain ⟨f1,J⟩:=KP (o:=o) (w:=lw) (l:=l) S ab O;have P:=wL o lw l;obtain ⟨x,A⟩:∃ x,(jF o lw l).1=x:=⟨_,rfl⟩
  obtain ⟨p,z⟩:∃ p,(jF o lw l).2=p:=⟨_,rfl⟩
  rw [A,z] at f1;rw [A] at J;rw [z] at P;have I2:TakeI a q X (j+1) L (out.set (a+j) x) Y p:=I.step zO (w:=lw) (by rw [hy,<- W,Wq]) (by rw [m]; exact f1);clear W f1;have ao:IntKind.i64.wrap ((a:Int)+(j:Int))=((a+j:Nat):Int):=by rw [wrap_i64] <;> omega
  refine zW (fX b s t t0 t1 r U K) ?_;refine AnsH.eq (ji C _ (q*y % B) c 0 (W4 _ zU) hc zO) fun H3 e3=>?_;subst e3;have ah:(fk (q*y % B) c 0).1=lw:=by simp only [fk,XH]; exact q2
  have aj:(fk (q*y % B) c 0).2=(q*y % 18446744073709551616+c) / 18446744073709551616:=by simp only [fk,XH]
  refine zW (ia b s t t0 t1 r U K ah aj q1) ?_;clear ah aj q1 q2;refine aF ?_;refine zD (qQ b s t t0 t1 r U K d2 r2 ao m) ?_;refine AnsH.eq (yF C _ o lw l S ab O) fun H4 e4=>?_;subst e4;rw [A,z];refine zD (qQ b s t t0 t1 r U K d2 r2 ao m) ?_;refine ⟨zK,_,_,_,rfl,rfl,by simp [aa],kM Q J,q3,P,I2,fun i hi=>?_,(am.up _).put⟩;rw [bw zO];exact ag i hi
 ·rintro T1 V b F G ⟨out,c,l,u,b0,aa,Q,hc,O,I,ag,E⟩;simp only [VX,hl] at b;simp only [V9,Wg,Wb,and_true] at u;obtain ⟨s,t⟩:=u;have w1:=G.wf;have av:=G.le;have aB:=G.wf _ _ b0;have d1:V.get d=some (.cells [.own rb 0 M M 1 x1,.own bb 0 n n 1 true] fZ true):=E _ _ ndr hd;have t0:ad T1 0=.ptr d 0:=(F.at_ 0 zU).trans (zV (aE hl e));have r:ad T1 2=.int .i64 (a:Int):=(F.at_ 2 zU).trans (zV (bB hl e g f f));have af:IntKind.i64.wrap ((a:Int)+(n:Int))=((a+n:Nat):Int):=by rw [wrap_i64] <;> omega
  obtain ⟨o,m⟩:∃ o,out.getD (a+n) 0=o:=⟨_,rfl⟩
  have S:o<18446744073709551616:=by rw [<- m]; exact Q.at _
  obtain ⟨f1,J⟩:=KP (o:=o) (w:=c) (l:=l) S hc O;have P:=wL o c l;obtain ⟨x,A⟩:∃ x,(jF o c l).1=x:=⟨_,rfl⟩
  obtain ⟨p,z⟩:∃ p,(jF o c l).2=p:=⟨_,rfl⟩
  rw [A,z] at f1;rw [A] at J;rw [z] at P;have hval:val (out.set (a+n) x)+B^a*(q*val (L.take n))=X+B^(a+n+1)*p:=by
   have u:=jl (l:=out) (k:=a+n) (v:=x) zO;rw [m] at u
   have:=Og I.e u f1
   rw [this,WO,WV,Wq p]
  clear f1 I;refine zW (fo b t0 r s t d1 af) ?_;refine aF ?_;refine zD (jU b t0 r s t d1 @b0 af m) ?_;refine AnsH.eq (yF C _ o c l S hc O) fun H4 e4=>?_;subst e4;rw [A,z];refine zD (jU b t0 r s t d1 @b0 af m) ?_;refine ⟨_,p,rfl,P,⟨?_,al _ _ _,?_,by simp [aa],ll,ne,kM Q J,limL⟩,hval,fun i hi=>?_,zK,(E.up _).put⟩
  ·exact zV d1
  ·rw [au (Ne.symm ne)];exact E _ _ (Ne.symm ne) hb
  ·rw [bw zO];exact ag i hi
end
def KS {o y c:Nat} (a:o<18446744073709551616) (hy:y<18446744073709551616) (hc:c<=1):o+y+c=(fk o y c).1+(fk o y c).2*18446744073709551616/\(fk o y c).1<18446744073709551616:=by
 unfold fk B;simp only;omega
def HS {P A X f g b c a o d y:Nat} (e:f+P*c=X+A) (j:g+P*o=f+P*d) (h:o+y+c=d+a*b):g+P*(a*b)=X+(A+P*y):=by
 have i:=congrArg (P * ·) h;simp only [W8] at e i ⊢
 generalize P*(a*b)=x3 at *
 generalize P*o=x4 at *
 generalize P*d=x5 at *
 generalize P*y=k at *
 generalize P*c=l at *
 omega
structure BackI (a X j:Nat) (L out:List Nat) (c:Nat):Prop where
 e:val out+B^(a+j)*c=X+B^a*val (L.take j)
def BackI.step {a X j c b d:Nat} {L out:List Nat} (I:BackI a X j L out c) (hj:a+j<out.length) (h:out.getD (a+j) 0+L.getD j 0+c=d+b*B):BackI a X (j+1) L (out.set (a+j) d) b:=by
 refine ⟨?_⟩;have e:=jl (l:=out) (k:=a+j) (v:=d) hj
 have:=HS I.e e h
 rw [db,W8,<- WV (B^a),<- W0];have e3:B^(a+(j+1))*b=B^(a+j)*(b*B):=by rw [<- W9,WO,WV,Wq B]
 rw [e3];exact this
section
variable {tab:Nat->Option aA} {H:Heap}
set_option maxHeartbeats 1000000 in
def PA (C:Code tab) {H0:Heap} (U:Kp H0 H) {d rb bb M n a X:Nat} {x1:Bool} {R L:List Nat} (D:Dv H d rb bb M n x1 R L) (ah:H0.next<=rb) (ag:a+n<M) (hM:M<2199023255552) (S:val R=X) (hz:∀ i,a+n<i->R.getD i 0=0) :
  Ans tab (.fn gR [.ptr d 0,.int .i64 (a:Int)]) H fun v H'=>∃ (R':List Nat) (c:Nat),v=.bool (decide (0<c))/\c<=1/\Dv H' d rb bb M n x1 R' L/\val R'+B^(a+n+1)*c=X+B^a*val (L.take n)/\(∀ i,a+n<i->R'.getD i 0=0)/\Kp H0 H'/\FrX rb H H':=by
 have ndr:=D.ndr;obtain ⟨hd,hr,hb,lr,ll,ne,limR,limL⟩:=D;have w0:=U.wf;have aj:=U.le;have aa:BackI a X 0 L R 0:=⟨by simp [val,S]⟩
 clear S;refine bA C.q180 zU fun T hl e f=>?_;refine zW (aO hl e f hd) ?_;refine aq H0 [5] (fun j vs H'=>∃ (out:List Nat) (c:Nat),vs=[.int .u64 (c:Int)]/\H'.get rb=some (.cells (aN out) ae true)/\out.length=M/\Lim out/\c<=1/\BackI a X j L out c/\(∀ i,a+n<i->out.getD i 0=0)/\FrX rb H H') (a:=0) (N:=n) rfl (by refine zW (aD hl e f) ?_; rfl) (zV (aD hl e f)) (Wd _) zO (by simp only [VX,hl]; rfl) rfl (fun _ _ _ _ h=>h) zK
  ⟨R,0,by refine zW (aD hl e f) ?_; rfl,by exact zV hr,lr,limR,Wd _,aa,hz,FrX.up0 _ _ _⟩ ?_ ?_
 ·rintro j T1 F _ hj g G x u ⟨out,c,b,b0,J,E,hc,I,P,t⟩;simp only [VX,hl] at g;simp only [V9,Wg,Wb,and_true] at b;have w1:=u.wf;have ab:=u.le;have af:=u.wf _ _ b0;have d1:F.get d=some (.cells [.own rb 0 M M 1 x1,.own bb 0 n n 1 true] fZ true):=t _ _ ndr hd;have Z:F.get bb=some (.cells (aN L) ae true):=t _ _ (Ne.symm ne) hb;have t0:ad T1 0=.ptr d 0:=(x.at_ 0 zU).trans (zV (aE hl e));have t1:ad T1 1=.int .i64 (a:Int):=(x.at_ 1 zU).trans (zV (aO hl e f f));have Q:ad T1 12=.own bb 0 n n 1 true:=(x.at_ 12 zU).trans (zV (aD hl e f));obtain ⟨y,hy⟩:∃ y,L.getD j 0=y:=⟨_,rfl⟩
  have O:y<18446744073709551616:=by rw [<- hy]; exact limL.at j
  obtain ⟨o,m⟩:∃ o,out.getD (a+j) 0=o:=⟨_,rfl⟩
  have w:o<18446744073709551616:=by rw [<- m]; exact E.at _
  obtain ⟨f1,z⟩:=KS w O hc;have A:=Ay o y c w O hc;obtain ⟨q,s⟩:∃ q,(fk o y c).1=q:=⟨_,rfl⟩
  obtain ⟨p,r⟩:∃ p,(fk o y c).2=p:=⟨_,rfl⟩
  rw [s,r] at f1;rw [s] at z;rw [r] at A;have Y:BackI a X (j+1) L (out.set (a+j) q) p:=I.step zO (by rw [m,hy]; exact f1);clear f1 I;have V:IntKind.i64.wrap ((a:Int)+(j:Int))=((a+j:Nat):Int):=by rw [wrap_i64] <;> omega
  refine zW (fX g b t0 t1 Q G Z hy) ?_;refine aF ?_;refine zD (oK g b t0 t1 Q G d1 @b0 V m) ?_;refine AnsH.eq (ji C _ o y c w O hc) fun W e4=>?_;subst e4;rw [s,r];refine zD (oK g b t0 t1 Q G d1 @b0 V m) ?_;refine ⟨zK,_,_,rfl,rfl,by simp [J],kM E z,A,Y,fun i hi=>?_,(t.up _).put⟩;rw [bw zO];exact P i hi
 ·rintro T1 F g x u ⟨out,c,b,b0,J,E,hc,I,P,t⟩;simp only [VX,hl] at g;simp only [V9,Wg,Wb,and_true] at b;have w1:=u.wf;have ab:=u.le;have af:=u.wf _ _ b0;have d1:F.get d=some (.cells [.own rb 0 M M 1 x1,.own bb 0 n n 1 true] fZ true):=t _ _ ndr hd;have t0:ad T1 0=.ptr d 0:=(x.at_ 0 zU).trans (zV (aE hl e));have t1:ad T1 1=.int .i64 (a:Int):=(x.at_ 1 zU).trans (zV (aO hl e f f));have K:IntKind.i64.wrap ((a:Int)+(n:Int))=((a+n:Nat):Int):=by rw [wrap_i64] <;> omega
  obtain ⟨o,m⟩:∃ o,out.getD (a+n) 0=o:=⟨_,rfl⟩
  have w:o<18446744073709551616:=by rw [<- m]; exact E.at _
  obtain ⟨f1,z⟩:=KS (y:=0) w zU hc;have A:=Ay o 0 c w zU hc;obtain ⟨q,s⟩:∃ q,(fk o 0 c).1=q:=⟨_,rfl⟩
  obtain ⟨p,r⟩:∃ p,(fk o 0 c).2=p:=⟨_,rfl⟩
  rw [s,r] at f1;rw [s] at z;rw [r] at A;have hval:val (out.set (a+n) q)+B^(a+n+1)*p=X+B^a*val (L.take n):=by
   have b:=jl (l:=out) (k:=a+n) (v:=q) zO;rw [m] at b
   have:=HS I.e b f1
   rw [WO,WV,Wq B];rw [YP,XH] at this;exact this
  clear f1 I;refine zW (dj g t0 t1 b d1 K) ?_;refine aF ?_;refine zD (fX g t0 t1 b d1 @b0 K m) ?_;refine AnsH.eq (ji C _ o 0 c w zU hc) fun W e4=>?_;subst e4;rw [s,r];refine zD (fX g t0 t1 b d1 @b0 K m) ?_;refine ⟨_,p,rfl,A,⟨?_,al _ _ _,?_,by simp [J],ll,ne,kM E z,limL⟩,hval,fun i hi=>?_,zK,(t.up _).put⟩
  ·exact zV d1
  ·rw [au (Ne.symm ne)];exact t _ _ (Ne.symm ne) hb
  ·rw [bw zO];exact P i hi
end
def GL {y n:Nat} (h:(ah y).length=n+1):B^n<=y:=by
 have:=At (dK y) (fun e=>by rw [e] at h; simp at h)
 rw [bM,h] at this;exact this
def Fh {x y:Nat} (h:(ah x).length<(ah y).length):x<y:=by
 obtain ⟨n,hn⟩:∃ n,(ah y).length=n+1:=⟨(ah y).length-1,zO⟩
 exact Wo (iM x) (Wj (Wx zU zO) (GL hn))
def Fi {y n:Nat} (h1:B^n<=y) (h2:y<B^(n+1)):(ah y).length=n+1:=by
 refine Yt (br h2) ?_
 apply Yx
 intro h;have h3:y<B^n:=Wo (iM y) (Wx zU zO);exact absurd h1 (Nat.not_le_of_lt h3)
def Mq {y:Nat} (h:(ah y).length=1):y<B/\(ah y).getD 0 0=y:=by
 have h1:=iM y;rw [h,Nat.pow_one] at h1;refine ⟨h1,?_⟩;rw [jh,Y5,Nat.div_one,WW h1]
section
variable {b y m z top P:Nat}
def OQ (a:P=2^(64-z)*2^z) (h1:top*2^z<P) (e:top*b<=y) (f:y<(top+1)*b) {c:Nat} (h2:c<=top*2^z):y*2^z<P*b/\c*b<=y*2^z:=by
 have p2:0<2^z:=WL zU;have d:top+1<=2^(64-z):=by
  rw [a] at h1;exact Nat.lt_of_mul_lt_mul_right h1
 refine ⟨?_,?_⟩
 ·refine Wo (Ym f p2) ?_;rw [Y4];refine Wh b ?_;rw [a];exact Wh _ d
 ·refine Wj (Wh b h2) ?_;rw [Y4];exact Wh _ e
end
def IZ {y m z top:Nat} (hl:(ah y).length=m+2) (c:(ah y).getD (m+1) 0=top) (hz:z<64) (h1:top*2^z<18446744073709551616) (h2:9223372036854775808<=top*2^z) :
  y*2^z<B^(m+2)/\(ah (y*2^z)).length=m+2/\9223372036854775808*B^(m+1)<=y*2^z:=by
 have hy:=iM y;rw [hl] at hy;have e:y / B^(m+1)=top:=by
  rw [<- c,jh,WW]
  apply (Ww (WL zU)).2
  rw [Wq,<- WO]; exact hy
 have hp:0<B^(m+1):=WL zU;have d:top*B^(m+1)<=y:=by rw [<- e]; exact Nat.div_mul_le_self _ _
 have f:y<(top+1)*B^(m+1):=(Ww hp).1 (by rw [e]; exact Zi _);have b:(18446744073709551616:Nat)=2^(64-z)*2^z:=by
  rw [<- W0,show 64-z+z=64 by omega]
 obtain ⟨q1,q2⟩:=OQ b h1 d f h2;have a:18446744073709551616*B^(m+1)=B^(m+2):=by rw [WO B (m+1),Wq]
 rw [a] at q1;refine ⟨q1,Fi ?_ q1,q2⟩;exact Wj (Nat.le_mul_of_pos_left _ zU) q2
def F9 {x z V m k a:Nat} (c:(ah x).length=a) (hz:z<64) (hV:9223372036854775808*B^(m+1)<=V) (b:m+1+k=a):x*2^z<V*B^k:=by
 have hx:=iM x;rw [c] at hx;have h1:2^z<=9223372036854775808:=Wj (Wx zU (show z<=63 by omega)) zU;have h2:x*2^z<B^a*9223372036854775808:=by
  refine Wo (Ym hx (WL zU)) (Yq _ h1)
 refine Wo h2 ?_;refine Wj (YK ?_) (Wh _ hV);rw [WV,<- W0,b,Wq]
structure DivI (X V k:Nat) (Q R:List Nat):Prop where
 eq:X=V*val Q+val R
 lt:val R<V*B^k
 zero:∀ i,i<k->Q.getD i 0=0
def DivI.zeros {X V k m:Nat} {Q R:List Nat} (I:DivI X V k Q R) (hV:V<B^m) (a:Lim R):∀ i,k+m<=i->R.getD i 0=0:=fun i hi=>by
 rw [oM a];have h1:val R<B^i:=by
  refine Wo I.lt (Wj (Wh _ (XN hV)) ?_);rw [<- W0];exact Wx zU zO
 rw [X9 h1,Nat.zero_mod]
def rX (Z:Nat):Z=Z / B*B+Z % B:=by rw [Wq]; exact (Xh Z B).symm
def DivI.guess {X V a m:Nat} {Q R L:List Nat} (I:DivI X V (a+1) Q R) (hV:V<B^(m+2)) (c:Lim R) (h0:0<V) (hL:∀ i,i<m+2->L.getD i 0=V / B^i % B) :
  GuessH V (val R / B^a) (B^m) (R.getD (a+(m+2)) 0) (R.getD (a+(m+1)) 0) (R.getD (a+m) 0) (L.getD (m+1) 0) (L.getD m 0):=by
 have hp:∀ j,0<B^j:=fun j=>WL zU;have b:∀ Y j,Y / B^(j+1)=Y / B^j / B:=fun Y j=>by rw [WO,Xc]
 refine ⟨?_,?_,?_,h0⟩
 ·rw [hL _ zO,hL _ zO,b V m];have h1:V / B^m / B % B=V / B^m / B:=by
   rw [<- b]
   apply WW
   apply (Ww (hp _)).2
   rw [Wq,<- WO]; exact hV
  rw [h1,<- rX];exact Nat.div_mul_le_self _ _
 ·rw [oM c,oM c,oM c];have e:val R / B^(a+(m+1))=val R / B^(a+m) / B:=by rw [<- W9,b]
  have d:val R / B^(a+(m+2))=val R / B^(a+m) / B / B:=by
   rw [show a+(m+2)=a+m+1+1 by omega,b,b]
  have e3:val R / B^(a+m) / B / B % B=val R / B^(a+m) / B / B:=by
   rw [<- d]
   apply WW
   apply (Ww (hp _)).2
   refine Wo I.lt (Wj (Wh _ (XN hV)) ?_);rw [<- W0,Wq,<- WO];exact Wx zU zO
  rw [d,e3,e,<- rX,<- rX];have e4:val R / B^(a+m)=val R / B^a / B^m:=by rw [Xc,W0]
  rw [e4];exact (Ww (hp m)).1 (Zi _)
 ·apply (Ww (hp a)).2
  refine Wo I.lt (YK ?_);rw [WO,Wq (B^a),WV]
structure SubI (XR V a n:Nat) (R:List Nat) (q l:Nat):Prop where
 e:val R+B^a*(q*V)=XR+B^(a+n+1)*l
 ge:XR / B^a / V<=q
section
variable {XR V A q vr vr' W c:Nat}
def QV (e:vr+A*(q*V)=XR+W*1) (hlt:vr<W) (hV:0<V) (hA:0<A) (hb:vr'+W*c=vr+A*V) (hc:c<=1):0<q/\XR / A / V<=q-1/\vr'+A*((q-1)*V)=XR+W*(1-c):=by
 have h1:XR / A / V<q:=by
  rw [Xc]
  apply (Ww (Nat.mul_pos hA hV)).2
  have:q*(A*V)=A*(q*V):=by rw [Zw]
  rw [this]
  generalize A*(q*V)=t at *
  omega
 have h0:0<q:=Xb (Wd _) h1;refine ⟨h0,Zh h1,?_⟩;obtain ⟨p,rfl⟩:∃ p,q=p+1:=⟨q-1,zO⟩
 rw [Yi];rw [Xe,Y1,W8] at e;have a:c=0\/c=1:=zO;rcases a with rfl | rfl
 ·simp only [YP,Xy,XH,Nat.sub_zero] at *;omega
 ·simp only [YP,Xy,XH,ZZ] at *;omega
def RF (e:vr+A*(q*V)=XR) (hge:XR / A / V<=q) (hV:0<V) (hA:0<A):vr<V*A:=by
 have h1:q<=XR / (A*V):=by
  apply (ZE (Nat.mul_pos hA hV)).2
  rw [Zw,<- e];exact Nat.le_add_left _ _
 rw [Xc] at hge;have h2:=Yt h1 hge;have h3:=Xh XR (A*V);rw [<- h2] at h3;have h4:=W4 XR (Nat.mul_pos hA hV);have h5:A*V*q=A*(q*V):=by rw [WV,Wq V]
 rw [h5] at h3;rw [Wq V];omega
end
def SubI.pos {XR V a n q:Nat} {R:List Nat} (I:SubI XR V a n R q 1) (hlt:val R<B^(a+n+1)):0<q:=by
 apply Nat.pos_of_ne_zero
 intro h;have e:=I.e;rw [h,Zr,YP,XH,Xy] at e;rw [e] at hlt;exact absurd hlt (Nat.not_lt_of_le (Nat.le_add_left _ _))
def SubI.back {XR V a n q c:Nat} {R R':List Nat} (I:SubI XR V a n R q 1) (hlt:val R<B^(a+n+1)) (hV:0<V) (hb:val R'+B^(a+n+1)*c=val R+B^a*V) (hc:c<=1):0<q/\SubI XR V a n R' (q-1) (1-c):=by
 obtain ⟨h1,h2,h3⟩:=QV I.e hlt hV (WL zU) hb hc;exact ⟨h1,h3,h2⟩
def DivI.next {X V a n q:Nat} {Q R R':List Nat} (I:DivI X V (a+1) Q R) (S:SubI (val R) V a n R' q 0) (hV:0<V) (ha:a<Q.length):DivI X V a (Q.set a q) R':=by
 have e:=S.e;rw [YP,XH] at e;refine ⟨?_,RF e S.ge hV (WL zU),fun i hi=>?_⟩
 ·have b:=jl (l:=Q) (k:=a) (v:=q) ha;rw [I.zero a (Zi a),YP,XH] at b;rw [b,I.eq,<- e,W8]
  have:V*(B^a*q)=B^a*(q*V):=by rw [Zw,Wq V]
  rw [this];omega
 ·rw [bw zO];exact I.zero i zO
def DivI.fin {x y P:Nat} {Q R:List Nat} (a:0<P) (I:DivI (x*P) (y*P) 0 Q R):val Q=x / y/\val R=x % y*P:=by
 have e:=I.eq;have l:=I.lt;rw [Y5,Xy] at l;have b:0<y*P:=Xb (Wd _) l;have h1:x*P / (y*P)=val Q:=by
  rw [e,Wq (y*P),YL,ZG _ _ b,X9 l,WT]
 have h2:x*P % (y*P)=val R:=by
  rw [e,Nat.mul_add_mod_self_left,WW l]
 rw [ZF _ _ a] at h1;rw [Nat.mul_mod_mul_right] at h2;exact ⟨h1.symm,h2.symm⟩
end Go.Proofs.YteaefaohjlmjdaaGreat.Ev
