/- A part. -/
import Derived.Test.YthjdfjlhjnihfaaGreatA0
import Derived.Test.YthjdfjlhjnihfaaGreatKit
import Derived.KernelRfl
namespace Go.Proofs.YthjdfjlhjnihfaaGreat.Ev
open Go Nn
set_option linter.all false
def iK:∀ {l:List Nat} {k v:Nat},k<l.length->val (l.set k v)+B^k*l.getD k 0=val l+B^k*v
 | a :: l,0,v,_=>by simp [val]; omega
 | a :: l,k+1,v,h=>by
  have ih:=iK (l:=l) (k:=k) (v:=v) (by simpa using h);simp only [List.set_cons_succ,val,WG,VF]
  have:=congrArg (B * ·) ih
  simp only [VY] at this;rw [Vk (B^k) B,VJ,VJ];omega
def jT {l:List Nat} (h:Lim l) {k v:Nat} (hv:v<B):Lim (l.set k v):=fun a ha=>by
 rcases Zd ha with h1 | h1
 ·exact h a h1
 ·rw [h1]; exact hv
section
variable {tab:Nat->Option aw} {H:Heap} {s:AV} {l:List Nat}
def SlV.clipat {α:Type} {E:fh α} {ty:Nat} {v:AV} {l:List α} (hs:SlV E ty H v l) (k j:IntKind) (n:Nat) (hn:n<=l.length):∃ v',bD E.sz v none (some (.int k (n:Int))) (some (.int j (n:Int)))=some v'/\SlV E ty H v' (l.take n):=by
 obtain ⟨cells,hr,ht,hc⟩:=hs;obtain ⟨m,hm,hlen⟩:=hr.length;have hml:m=l.length:=WI E.pos (by rw [<- hlen,hc.1]);subst hml;obtain ⟨h0,h1,m',h2,h3⟩:=hr;rw [hm] at h2; cases h2;have hle:n*E.sz<=l.length*E.sz:=Ji _ hn;have hns:∀ x y z,bD E.sz v x y z=bE E.sz v x y z:=fun x y z=>by cases v <;> first | rfl | exact absurd rfl (h1 _)
 rw [hns]
 suffices ∃ v',bE E.sz v none (some (.int k (n:Int))) (some (.int j (n:Int)))=some v'/\Rd H E.sz v' (cells.take (n*E.sz)) by
  obtain ⟨v',e,hr⟩:=this;exact ⟨v',e,_,hr,qG ht (by rw [hns]; exact e),hc.take hn⟩
 cases v with
 | own b off n' c sz' ex =>
  simp only [gP,VE] at hm;subst hm;simp only [aL] at h3;split at h3
  ·rename_i cs ty rw0 hb;split at h3
   ·rename_i hcond;obtain ⟨hsz,-,hcl⟩:=hcond;subst hsz;cases h3;have hnc:l.length<=c:=h0;have et:((cs.drop off).take (l.length*E.sz)).take (n*E.sz)=(cs.drop off).take (n*E.sz):=by rw [Xe,V7 hle]
    rw [et];have hp:bE E.sz (.own b off l.length c E.sz ex) none (some (.int k (n:Int))) (some (.int j (n:Int)))=some (if n=0 then .own b off 0 0 E.sz true else .own b off n n E.sz true):=by
     simp only [bE,e9,ne_eq,not_true_eq_false,if_false,qh,Wj,WU,WM];rw [if_pos ⟨zO,wT _,II _⟩];by_cases h00:n=0
     ·rw [if_pos h00,if_pos h00]; simp [h00]
     ·rw [if_neg h00,if_neg h00]; simp
    refine ⟨_,hp,?_⟩;by_cases h00:n=0
    ·rw [if_pos h00,h00];refine ⟨wT _,(fun s h=>by cases h),0,rfl,?_⟩;simp only [aL,hb];rw [if_pos ⟨trivial,wT _,by simp; omega⟩]
    ·rw [if_neg h00];refine ⟨wT _,(fun s h=>by cases h),n,rfl,?_⟩;simp only [aL,hb];rw [if_pos ⟨trivial,wT _,zO⟩]
   ·cases h3
  ·cases h3
 | sl cs n' =>
  simp only [gP,VE] at hm;subst hm;simp only [aL] at h3;split at h3
  ·rename_i hcond;cases h3;have hcl:=hcond.2;refine ⟨.sl (cs.take (n*E.sz)) n,?_,trivial,(fun s h=>by cases h),n,rfl,?_⟩
   ·simp only [bE,e9,qh,Wj,WU,WM];rw [if_pos ⟨hn,wT _,II _,zO⟩]
    simp
   ·simp only [aL];rw [if_pos ⟨wT _,by simp only [Vu]; omega⟩];rw [Xe,Xe,Nat.min_self,V7 hle]
  ·cases h3
 | nilSl =>
  simp only [gP,VE] at hm;have hn0:n=0:=zO;subst hn0;simp only [aL] at h3;split at h3
  ·cases h3;exact ⟨.nilSl,rfl,trivial,(fun s h=>by cases h),0,rfl,by simp [aL]⟩
  ·cases h3
 | str s=>exact absurd rfl (h1 s)
 | _=>simp [gP] at hm
def DE (C:Code tab) (hw:Wf H) (hs:Lb H s l) (hbig:l.length<4611686018427387904) :
  Ans tab (.fn r9 [s]) H fun v H'=>Lb H' v (eQ l)/\Kp H H':=by
 refine cQ C.q168 zU fun T hl g0=>?_;refine zW (aC hl g0 hs.lenV) ?_;refine bC H [3] (fun k vs H'=>vs=[.int .i64 (k:Int)]/\eQ (l.take k)=eQ l/\k<=l.length) l.length (by simp only [dj]; exact hl) rfl zK ⟨by exact zV (aB hl g0),by rw [Vo],wT _⟩ ?_;rintro k T1 H1 hl1 hs1 hk1 ⟨hv,ht,hk⟩;have w1:=hk1.wf;have le_hk1:=hk1.le;simp only [wW,AO,zB,and_true] at hv;have t0:ad T1 0=s:=(hs1.at_ 0 zU).trans (zV (aB hl g0));have fin:∀ (m:Nat),eQ (l.take k)=l.take k->∀ v',bD 1 s none (some (.int .i64 (k:Int))) (some (.int .i64 (k:Int)))=some v'->Lb H v' (l.take k)->Lb (H1.up m) v' (eQ l):=fun m h1 v' _ h2=>by
  rw [<- ht,h1]; exact h2.mono (hk1.up m).sub
 obtain ⟨v',e,hr⟩:=SlV.clipat hs .i64 .i64 k hk;have e':bD 1 s none (some (.int .i64 (k:Int))) (some (.int .i64 (k:Int)))=some v':=e;rcases W4 (l.take k) with h0 | ⟨l',a,h0⟩
 ·have hk0:k=0:=by
   have:=congrArg List.length h0; simp at this; rcases this with h | h
   ·exact h
   ·subst h; simpa using hk
  subst hk0;have z:¬ (0:Int)<((0:Nat):Int):=zO;refine zW (cr hl1 hv t0 z e') ?_;exact ⟨fin _ (by simp; rfl) _ e' hr,zK⟩
 ·rw [W5] at h0;have hk1':k=l'.length+1:=by have:=congrArg List.length h0; simp at this; omega
  subst hk1';have hl':l.take l'.length=l':=by
   have:=congrArg (List.take l'.length) h0
   rw [Xe,V7 zO] at this
   simpa using this
  have hwr:IntKind.i64.wrap (((l'.length+1:Nat):Int)-1)=(l'.length:Int):=by rw [wrap_i64] <;> omega
  have hpos:0<l'.length+1:=zO;have hix:=SlV.idx1 (hs.mono hk1.sub) .i64 l'.length zO;have hga:l.getD l'.length 0=a:=by
   have this:(l.take (l'.length+1)).getD l'.length 0=(l'++[a]).getD l'.length 0:=by rw [h0]
   rw [dH,Vm,if_pos zO,<- dH] at this;rw [this]; simp [dH]
  have hld:=eZ (hs.mono hk1.sub) (i:=l'.length) zO;rw [hga] at hld;refine zW (gf hl1 hv t0 hpos hix hld hwr) ?_;refine iteH.split (fun ha=>?_) fun ha=>?_
  ·have ha0:a=0:=zO;subst ha0;refine zW (aV hl1 hv t0 hwr) ?_;refine ⟨zK,l'.length,zO,rfl,?_,zO⟩;rw [hl',<- ht,h0,eD]
  ·have ha':a≠0:=zO;refine zW (aV hl1 hv t0 e') ?_;exact ⟨fin _ (by rw [h0,iM ha']) _ e' hr,zK⟩
def Dg {x y o c:Nat} (hx:x<B) (hy:y<B) (ho:o<B) (hc:c<B) :
  (fg (fg (x*y % B) o 0).1 c 0).1+B*(((x*y / B+(fg (x*y % B) o 0).2) % B+(fg (fg (x*y % B) o 0).1 c 0).2) % B)=x*y+o+c:=by
 have hp:x*y<=18446744073709551615*18446744073709551615:=Wq (by unfold B at hx; omega) (by unfold B at hy; omega);simp only [fg,B] at *
 generalize x*y=p at *
 omega
def FA {out b:List Nat} {i j x c V0 l2 c':Nat} (hlt:i+j<out.length) (hv:val out+B^(i+j)*c=V0+B^i*x*val (b.take j)) (he:l2+B*c'=x*b.getD j 0+out.getD (i+j) 0+c) :
  val (out.set (i+j) l2)+B^(i+(j+1))*c'=V0+B^i*x*val (b.take (j+1)):=by
 have h1:=iK (l:=out) (k:=i+j) (v:=l2) hlt;rw [cY];have h2:B^(i+(j+1))*c'=B^(i+j)*(B*c'):=by rw [<- V2,VF,VJ]
 have h3:B^i*x*(val (b.take j)+B^j*b.getD j 0)=B^i*x*val (b.take j)+B^(i+j)*(x*b.getD j 0):=by rw [VY,VZ]; grind
 rw [h2,h3];have h4:=congrArg (B^(i+j) * ·) he;simp only [VY] at h4
 generalize B^(i+j)*(B*c')=q1 at *
 generalize B^(i+j)*l2=q2 at *
 generalize B^(i+j)*(x*b.getD j 0)=q3 at *
 generalize B^(i+j)*c=q4 at *
 generalize B^(i+j)*out.getD (i+j) 0=q5 at *
 omega
def bj {l:List Nat} {i k v:Nat} (h:i≠k):(l.set i v).getD k 0=l.getD k 0:=by
 rw [dH,dH,Xf,if_neg h]
def FX (C:Code tab) (hw:Wf H) {sa sb:AV} {a b:List Nat} (ha:Lb H sa a) (hb:Lb H sb b) (hla:a.length<1099511627776) (hlb:b.length<1099511627776) (la:Lim a) (lb:Lim b) :
  Ans tab (.fn SW [sa,sb]) H fun v H'=>Lb H' v (ag (val a*val b))/\Kp H H':=by
 refine bz C.q139 zU fun T hl g0 g1=>?_;have hwr:IntKind.i64.wrap ((a.length:Int)+(b.length:Int))=((a.length+b.length:Nat):Int):=by rw [wrap_i64] <;> omega
 obtain ⟨N,hN⟩:∃ N,a.length+b.length=N:=⟨_,rfl⟩
 rw [hN] at hwr;have hmk:∀ H' id,Ho H' id ae 1 8 [.int .u64 0] (.int .i64 (N:Int)) (.int .i64 (N:Int))=some (.own id 0 N N 1 true,H'.put id (.cells (aK (List.replicate N 0)) ae true)):=fun H' id=>by
  exact (iW H' id ae 1 8 [.int .u64 0] .i64 .i64 N zO zO rfl).trans (by rw [lH])
 refine zW (gf hl g0 g1 ha.lenV hb.lenV hwr hmk) ?_;refine am H [] (fun i vs H'=>∃ out,H'.get (H.next+6)=some (.cells (aK out) ae true)/\out.length=N/\Lim out/\val out=val (a.take i)*val b/\∀ k,i+b.length<=k->out.getD k 0=0) (a:=0) (N:=a.length) rfl (by refine zW (aC hl g0 g1) ?_; rfl) (zV (aC hl g0 g1)) (II _) zO (by simp only [dj,hl]; rfl) rfl (fun _ _ _ _ h=>h) zK
  ⟨List.replicate N 0,by exact cR,by simp,Lim.replicate N,by rw [fK]; simp [val],fun k _=>by simp [dH,V9]; split <;> rfl⟩ ?_ ?_
 ·rintro i T1 H1 _ hi hl1 hi1 hs1 hk1 ⟨out,b6,hlen,hlim,hval,hz⟩;simp only [dj,hl] at hl1;have w1:=hk1.wf;have le_hk1:=hk1.le;have t5:ad T1 5=.own (H.next+6) 0 N N 1 true:=(hs1.at_ 5 zU).trans (zV (aC hl g0 g1));have t1:ad T1 1=sb:=(hs1.at_ 1 zU).trans (zV (aV hl g0 g1 g1));have t20:ad T1 20=sa:=(hs1.at_ 20 zU).trans (zV (aC hl g0 g1));have hix:=SlV.idx1 ha .i64 i hi;have hld:=eZ (ha.mono hk1.sub) hi;refine zW (ki hl1 t5 t1 t20 hi1 hix hld hb.lenV) ?_;have hxB:=la.at i;refine am H [8] (fun j vs H'=>∃ o c:_,vs=[.int .u64 ((c:Nat):Int)]/\H'.get (H.next+6)=some (.cells (aK o) ae true)/\o.length=N/\Lim o/\c<B/\val o+B^(i+j)*c=val (a.take i)*val b+B^i*a.getD i 0*val (b.take j)/\∀ k,i+b.length<=k->o.getD k 0=0) (a:=0) (N:=b.length) rfl (by refine zW hl1 ?_; rfl) (zV hl1) (II _) zO (by simp only [dj,hl1]; rfl) rfl (fun _ _ _ _ h=>h) zK
   ⟨out,0,by refine zW hl1 ?_; rfl,b6,hlen,hlim,by decide,by simp [hval,val],hz⟩ ?_ ?_
  ·rintro j T2 H2 _ hj hl2 hi2 hs2 hk2 ⟨o,c,hv,c6,holen,holim,hc,hoval,hoz⟩;simp only [dj,hl1] at hl2;simp only [wW,AO,zB,and_true] at hv;have w2:=hk2.wf;have le_hk2:=hk2.le;have u5:ad T2 5=.own (H.next+6) 0 N N 1 true:=(hs2.at_ 5 zU).trans (zV (aB hl1 t5));have u6:ad T2 6=.int .i64 (i:Int):=(hs2.at_ 6 zU).trans (zV hl1);have u7:ad T2 7=.int .u64 ((a.getD i 0:Nat):Int):=(hs2.at_ 7 zU).trans (zV hl1);have u27:ad T2 27=sb:=(hs2.at_ 27 zU).trans (zV (aB hl1 t1));have hjx:=SlV.idx1 hb .i64 j hj;have hjd:=eZ (hb.mono hk2.sub) hj;have hyB:=lb.at j;have hwij:IntKind.i64.wrap ((i:Int)+(j:Int))=((i+j:Nat):Int):=by rw [wrap_i64] <;> omega
   have hoB:=holim.at (i+j);refine zW (ki hl2 u5 u6 u7 u27 hi2 hjx hjd) ?_;refine AnsH.use (oK C zF hxB hyB) ?_;rintro v H3 ⟨rfl,hk3⟩;obtain ⟨k3,_,w3⟩:=zT H zK hk3;have d6:=hk3.get (b:=H.next+6) c6;refine zW (kj hl2 u5 u6 u7 u27 hi2 hv hwij d6) ?_;refine AnsH.eq (iJ C _ (a.getD i 0*b.getD j 0 % B) (o.getD (i+j) 0) 0 (VO _ zU) hoB zO) fun H4 e4=>?_;subst e4;refine zW (kj hl2 u5 u6 u7 u27 hi2 hv hwij d6) ?_;refine AnsH.eq (iJ C _ (fg (a.getD i 0*b.getD j 0 % B) (o.getD (i+j) 0) 0).1 c 0 (VO _ zU) hc zO) fun H4 e4=>?_;subst e4;have lt6:=k3.wf _ _ d6;refine zW (kj hl2 u5 u6 u7 u27 hi2 hv hwij d6) ?_;have hs:=Dg hxB hyB hoB hc;refine ⟨zK,_,_,rfl,rfl,by simp [holen],jT holim (VO _ zU),VO _ zU,FA zO hoval hs,fun k hk=>?_⟩;rw [bj zO];exact hoz k hk
  ·intro T2 H2 hl2 hs2 hk2 ⟨o,c,hv,c6,holen,holim,hc,hoval,hoz⟩;simp only [dj,hl1] at hl2;simp only [wW,AO,zB,and_true] at hv;have w2:=hk2.wf;have le_hk2:=hk2.le;have u5:ad T2 5=.own (H.next+6) 0 N N 1 true:=(hs2.at_ 5 zU).trans (zV (aB hl1 t5));have u6:ad T2 6=.int .i64 (i:Int):=(hs2.at_ 6 zU).trans (zV hl1);have u1:ad T2 1=sb:=(hs2.at_ 1 zU).trans (zV (aB hl1 t1));have hwij:IntKind.i64.wrap ((i:Int)+(b.length:Int))=((i+b.length:Nat):Int):=by rw [wrap_i64] <;> omega
   have lt6:=hk2.wf _ _ c6;refine zW (ki hl2 u5 u6 u1 hv hwij c6 hb.lenV) ?_;have h1:=iK (l:=o) (k:=i+b.length) (v:=c) zO;rw [hoz _ (wT _)] at h1;rw [Vl (wT _)] at hoval;refine ⟨zK,_,rfl,by simp [holen],jT holim hc,?_,fun k hk=>?_⟩
   ·rw [cY,VW]; omega
   ·rw [bj zO];exact hoz k zO
 ·intro T1 H1 hl1 hs1 hk1 ⟨out,b6,hlen,hlim,hval,hz⟩;simp only [dj,hl] at hl1;have w1:=hk1.wf;have le_hk1:=hk1.le;have t5:ad T1 5=.own (H.next+6) 0 N N 1 true:=(hs1.at_ 5 zU).trans (zV (aC hl g0 g1));rw [Vl (wT _)] at hval;have ho:=(tp (H0:=H) (ex:=true) b6 zO hlen).sl;refine zW (aB hl1 t5) ?_;refine AnsH.use (DE C zF (ho.mono (Sub.bump H1 _)) zO) ?_;rintro v H2 ⟨h2,hk2⟩;obtain ⟨k2,_,_⟩:=zT H zK hk2;rw [eM hlim,hval] at h2;refine zW hl1 ?_;exact ⟨h2,zK⟩
end
def yQ {n m:Nat} (h:n<=m):(ag n).length<=(ag m).length:=gZ (VS h (ii m))
def Sm.mono {n m:Nat} (h:n<=m) (hm:Sm m):Sm n:=VS (yQ h) hm
def lD:∀ (k n:Nat),(ag n).drop k=ag (n / B^k)
 | 0,n=>by simp
 | k+1,n=>by
  by_cases h:n=0
  ·subst h; simp [cP]
  ·rw [jL h,List.drop_succ_cons,lD k,V5,VF,Vk B]
def o0:∀ (k n:Nat),val ((ag n).take k)=n % B^k
 | 0,n=>by simp [val,Nat.mod_one]
 | k+1,n=>by
  by_cases h:n=0
  ·subst h; simp [cP,val]
  ·rw [jL h,ZT,val,o0 k,VF,Vk (B^k),Nat.mod_mul]
def DQ {n:Nat} (h:n≠0) (k:Nat):List.replicate k 0++ag n=ag (n*B^k):=by
 have hne:ag n≠[]:=fun h1=>h (limbs_nil.1 h1);rw [<- uX (l:=List.replicate k 0++ag n) ((Lim.replicate k).append (bu n)) ?_,nN,fK,bI,Xy,VB,Vk];unfold Kq;rw [List.getLast?_append];have hn:=cW n;unfold Kq at hn;cases hg:(ag n).getLast? with
 | none=>exact absurd (List.getLast?_eq_none_iff.1 hg) hne
 | some a=>rw [hg] at hn; simpa using hn
section
variable {tab:Nat->Option aw} {H:Heap} {s:AV}
def fM (H:Heap):cp H .nilSl 0:=by
 show xJ cm ae H .nilSl (ag 0);rw [cP]; exact SlV.nil _ _ _
def mD (ls:List Nat) {j:Nat} (hj:j<ls.length):(ls.take (j+1)).sum=(ls.take j).sum+ls[j]:=by
 rw [Bj hj,List.sum_append]; simp only [X0,Z6,Wy]
def vW (ls:List Nat):∀ j,(ls.take j).sum<=ls.sum:=fun j=>by
 conv=>rhs; rw [<- ZD j ls,List.sum_append]
 omega
def Cg (C:Code tab) (hw:Wf H) {ls:List Nat} {ty:Nat} (hs:xJ (rl (bT cm) ae) ty H s (ls.map ag)) (hbig:ls.length<4611686018427387904) (hsm:Sm ls.sum) :
  Ans tab (.fn uO [s]) H fun v H'=>cp H' v ls.sum/\Kp H H':=by
 refine cQ C.q141 zU fun T hl g0=>?_;have hlen:=hs.lenV;rw [B8] at hlen;refine zW (aC hl g0 hlen) ?_;refine am H [2] (fun j vs H'=>∃ v,vs=[v]/\cp H' v (ls.take j).sum) (a:=0) (N:=ls.length) rfl (by refine zW (aB hl g0) ?_; rfl) (zV (aB hl g0)) (II _) zO (by simp only [dj,hl]; rfl) rfl (fun _ _ _ _ h=>h) zK ⟨.nilSl,by exact zV (aB hl g0),fM _⟩ ?_ ?_
 ·rintro j T1 H1 _ hj hl1 hi1 hs1 hk1 ⟨v,hv,hn⟩;simp only [wW,AO,zB,and_true] at hv;simp only [dj,hl] at hl1;have w1:=hk1.wf;have le_hk1:=hk1.le;have t5:ad T1 5=s:=(hs1.at_ 5 zU).trans (zV (aB hl g0));obtain ⟨c,hcr,hld⟩:=SlV.at1 (hs.mono hk1.sub) (i:=j) (a:=ag ls[j]) (by simp [hj]);have hix:=SlV.idx1 hs .i64 j (by simpa using hj);have hsj:Sm (ls.take (j+1)).sum:=hsm.mono (vW ls _);rw [mD ls hj] at hsj;refine zW (eW hl1 t5 hi1 hix hld hv) ?_;refine AnsH.use (Hl C zF (hn.mono (zG H1)) (SlV.mono (zG H1) hcr) (hsj.mono zO) (hsj.mono zO)) ?_;rintro v2 H2 ⟨o,rfl,ho,hk2⟩;obtain ⟨k2,_,_⟩:=zT H zK hk2;refine zW hl1 ?_;refine ⟨zK,o,rfl,?_⟩;rw [mD ls hj]; exact ho
 ·rintro T1 H1 hl1 hs1 hk1 ⟨v,hv,hn⟩;simp only [wW,AO,zB,and_true] at hv;simp only [dj,hl] at hl1;rw [Vl (wT _)] at hn;refine zW (aB hl1 hv) ?_;exact ⟨hn,hk1⟩
def LS (C:Code tab) (hw:Wf H) {a:AV} {n:Nat} {ls:List Nat} {ty:Nat} (ha:cp H a n) (hs:xJ (rl (bT cm) ae) ty H s (ls.map ag)) (hbig:ls.length<4611686018427387904) (hsm:Sm n) (hle:ls.sum<=n) :
  Ans tab (.fn se [a,s]) H fun v H'=>cp H' v (n-ls.sum)/\Kp H H':=by
 refine bz C.q142 zU fun T hl g0 g1=>?_;have hlen:=hs.lenV;rw [B8] at hlen;refine zW (aV hl g0 g1 hlen) ?_;refine am H [0] (fun j vs H'=>∃ v,vs=[v]/\cp H' v (n-(ls.take j).sum)) (a:=0) (N:=ls.length) rfl (by refine zW (aC hl g0 g1) ?_; rfl) (zV (aC hl g0 g1)) (II _) zO (by simp only [dj,hl]; rfl) rfl (fun _ _ _ _ h=>h) zK ⟨a,by exact zV (aB hl g0),ha.mono (zG H)⟩ ?_ ?_
 ·rintro j T1 H1 _ hj hl1 hi1 hs1 hk1 ⟨v,hv,hn⟩;simp only [wW,AO,zB,and_true] at hv;simp only [dj,hl] at hl1;have w1:=hk1.wf;have le_hk1:=hk1.le;have t7:ad T1 7=s:=(hs1.at_ 7 zU).trans (zV (aV hl g0 g1 g1));obtain ⟨c,hcr,hld⟩:=SlV.at1 (hs.mono hk1.sub) (i:=j) (a:=ag ls[j]) (by simp [hj]);have hix:=SlV.idx1 hs .i64 j (by simpa using hj);have hsj:=vW ls (j+1);have hsj2:=mD ls hj;refine zW (eW hl1 t7 hi1 hix hld hv) ?_;refine AnsH.use (Ce C zF (hn.mono (zG H1)) (SlV.mono (zG H1) hcr) (hsm.mono zO) (hsm.mono zO)) ?_;rintro v2 H2 ⟨hk2,hr⟩;rw [if_pos zO] at hr;obtain ⟨o,rfl,ho⟩:=hr;obtain ⟨k2,_,_⟩:=zT H zK hk2;refine zW hl1 ?_;refine ⟨zK,o,rfl,?_⟩;rw [hsj2,<- Nat.sub_sub]; exact ho
 ·rintro T1 H1 hl1 hs1 hk1 ⟨v,hv,hn⟩;simp only [wW,AO,zB,and_true] at hv;simp only [dj,hl] at hl1;rw [Vl (wT _)] at hn;refine zW (aB hl1 hv) ?_;exact ⟨hn.mono (Sub.bump H1 _),zK⟩
def LQ (C:Code tab) (hw:Wf H) {a:AV} {n k:Nat} (ha:cp H a n) (hsm:Sm n) (hk:k<4398046511104) :
  Ans tab (.fn yJ [a,.int .i64 (k:Int)]) H fun v H'=>cp H' v (n*B^k)/\Kp H H':=by
 refine bz C.q143 zU fun T hl g0 g1=>?_;unfold Sm at hsm;by_cases h0:n=0
 ·subst h0;have e:lenV a=some (.int .i64 0):=by have:=ha.lenV; rwa [cP] at this
  refine zW (aV hl g0 g1 e) ?_;rw [Yo];exact ⟨fM _,zK⟩
 ·have hlen:¬ ((ag n).length:Int)=0:=by have:=(bZ n).2 h0; omega
  have hmk:∀ H' id,Ho H' id ae 1 8 [.int .u64 0] (.int .i64 (k:Int)) (.int .i64 (k:Int))=some (.own id 0 k k 1 true,H'.put id (.cells (aK (List.replicate k 0)) ae true)):=fun H' id =>
   (iW H' id ae 1 8 [.int .u64 0] .i64 .i64 k zO zO rfl).trans (by rw [lH])
  refine zW (eW hl g0 g1 ha.lenV hlen hmk) ?_;have k1:Kp H ((H.up 9).put (H.next+5) (.cells (aK (List.replicate k 0)) ae true)):=zK;have le_k1:=k1.le;have h0':=(tp (H0:=H) (H:=(H.up 9).put (H.next+5) (.cells (aK (List.replicate k 0)) ae true)) (ex:=true) (n:=k) (au _ _ _) zO (by simp)).sl;have h1:SlV (bT cm) ae ((H.up 9).put (H.next+5) (.cells (aK (List.replicate k 0)) ae true)) (.own (H.next+5) 0 (List.replicate k 0).length (List.replicate k 0).length 1 true) (List.replicate k 0):=by simpa using h0'
  obtain ⟨v',H2,e1,h2,hk2,hn2,hs2,-⟩:=SlV.app (id:=H.next+7) (bytes:=8) h1 k1 (ha.mono k1.sub) zO (by show _<H.next+9; omega) (by rw [az zO]; exact hw.fresh (b:=H.next+7) zO) zS zS;have e1':cN ((H.up 9).put (H.next+5) (.cells (aK (List.replicate k 0)) ae true)) (H.next+7) 1 8 ae (.own (H.next+5) 0 k k 1 true) a=some (v',H2):=by rw [Xy] at e1; exact e1
  rw [DQ h0] at h2;refine zW (aV hl g0 g1 e1') ?_;exact ⟨h2,hk2⟩
def AT (C:Code tab) (hw:Wf H) {a:AV} {n k:Nat} (ha:cp H a n) (hsm:Sm n) (hk:k<4398046511104) :
  Ans tab (.fn pH [a,.int .i64 (k:Int)]) H fun v H'=>∃ p q,v=.tup [p,q]/\cp H' p (n % B^k)/\cp H' q (n / B^k)/\Kp H H':=by
 refine bz C.q140 zU fun T hl g0 g1=>?_;unfold Sm at hsm;obtain ⟨m,hm⟩:∃ m,m=min k (ag n).length:=⟨_,rfl⟩
 have hmin:DJ (.int .i64 (k:Int)) (.int .i64 ((ag n).length:Int))=some (.int .i64 (m:Int)):=by rw [tj]; congr 2; split <;> omega
 obtain ⟨p,e1,hp⟩:=SlV.clipat ha .i64 .i64 m zO;obtain ⟨q,e2,hq⟩:=ha.lo .i64 m zO;have e1':bD 1 a none (some (.int .i64 (m:Int))) (some (.int .i64 (m:Int)))=some p:=e1;have e2':bD 1 a (some (.int .i64 (m:Int))) none none=some q:=e2;have et:(ag n).take m=(ag n).take k:=by
  by_cases h:k<=(ag n).length
  ·rw [hm,V7 h]
  ·rw [hm,YI zO,Vl (wT _),Vl zO]
 have ed:(ag n).drop m=(ag n).drop k:=by
  by_cases h:k<=(ag n).length
  ·rw [hm,V7 h]
  ·rw [hm,YI zO,XW (wT _),XW zO]
 refine zW (cr hl g0 g1 ha.lenV hmin) ?_;refine aH ?_;refine zD (cr hl g0 g1 e1' e2') ?_;refine AnsH.use (DE C zF (hp.mono (zG H)) (by rw [Vu]; omega)) ?_;rintro v H2 ⟨h2,hk2⟩;obtain ⟨k2,_,_⟩:=zT H zK hk2;rw [eM ((bu n).take m),et,o0] at h2;rw [ed,lD] at hq;refine zD (cr hl g0 g1 e1' e2') ?_;exact ⟨v,q,rfl,h2,hq.mono k2.sub,k2⟩
def gN (C:Code tab) (hw:Wf H) {a:AV} {n:Nat} (ha:cp H a n) (hsm:Sm n):Ans tab (.fn mf [a]) H fun v H'=>v=.int .i64 0/\Kp H H':=by
 unfold Sm at hsm;exact (kR C hw ha zO).mono fun v H' ⟨h1,h2⟩=>⟨by rw [h1,if_neg (cW n)],h2⟩
def DF (C:Code tab) (hw:Wf H) {a b:AV} {x y fi:Nat} {first:List AV} (ha:cp H a x) (hb:cp H b y) (hx:Sm x) (hy:Sm y) {R:Heap->AV->Prop} (hR:∀ H' v m,R H' v->R (H'.up m) v)
  (hf:∀ H',Kp H H'->Ans tab (.fn fi (first++[a,b])) H' fun v H2=>R H2 v/\Kp H H2) :
  Ans tab (.fn mU [a,b,.fn (.func fi) first []]) H fun v H'=>∃ r,v=.tup [r,.int .i64 0]/\R H' r/\Kp H H':=by
 refine lU C.q112 zU fun T hl g0 g1 g2=>?_;have oa:=ha.one;have ob:=hb.one;refine zW (aV hl g0 g1 g2) ?_;refine bC H [14] (fun k vs H'=>∃ i:Nat,vs=[.int .i64 (i:Int)]/\i+k=2) 2 (by simp only [dj]; exact hl) rfl zK ⟨0,by refine zW (aV hl g0 g1 g2) ?_; rfl,rfl⟩ ?_;rintro k T1 H1 hl1 hs1 hk1 ⟨i,hv,hik⟩;simp only [wW,AO,zB,and_true] at hv;have w1:=hk1.wf;have le_hk1:=hk1.le;have t13:ad T1 13=.agg [a,b]:=(hs1.at_ 13 zU).trans (zV (aC hl g0 g1));have t0:ad T1 0=a:=(hs1.at_ 0 zU).trans (zV (aB hl g0));have t1:ad T1 1=b:=(hs1.at_ 1 zU).trans (zV (cr hl g0 g1 g2 g1));have t2:ad T1 2=.fn (.func fi) first []:=(hs1.at_ 2 zU).trans (zV (cr hl g0 g1 g2 g2))
 match i,hik with
 | 0,hik =>
  have hv':ad T1 14=.int .i64 0:=hv;have e:IntKind.i64.wrap (0+1)=((1:Nat):Int):=by decide
  refine zW (aC hl1 hv' t13) ?_;refine AnsH.eq (gN C zF (ha.mono (zG H)) hx) fun H2 hk2=>?_;obtain ⟨k2,_,_⟩:=zT H zK hk2;refine zW (aC hl1 hv' e) ?_;exact ⟨zK,k-1,zO,1,rfl,zO⟩
 | 1,hik =>
  have hv':ad T1 14=.int .i64 1:=hv;have e:IntKind.i64.wrap (1+1)=((2:Nat):Int):=by decide
  refine zW (aC hl1 hv' t13) ?_;refine AnsH.eq (gN C zF (hb.mono (zG H)) hy) fun H2 hk2=>?_;obtain ⟨k2,_,_⟩:=zT H zK hk2;refine zW (aC hl1 hv' e) ?_;exact ⟨zK,k-1,zO,2,rfl,zO⟩
 | 2,hik =>
  have hv':ad T1 14=.int .i64 2:=hv;refine zW (cr hl1 hv' t0 t1 t2) ?_;refine AnsH.use (hf _ zK) ?_;rintro v H2 ⟨h2,hk2⟩;refine zW hl1 ?_;exact ⟨v,rfl,h2,hk2⟩
 | i+3,hik=>omega
def RJ {H H1:Heap} {b ty t1:Nat} {α:Type} {E:fh α} {x y z:AV} {l m n:List α} (hx:SlV E t1 H x l) (hy:SlV E t1 H y m) (hz:SlV E t1 H z n) (hs:Sub H H1) (hg:H1.get b=some (.cells [x,y,z] ty true)):xJ (rl E t1) ty H1 (.own b 0 3 3 1 true) [l,m,n] :=
 ⟨[x,y,z],Rd.own hg rfl (wT _),fun _ _ _ _ _ _ e=>by cases e; exact ⟨_,_,hg⟩,rfl,fun i a hi=>by
  match i with
  | 0=>simp at hi; subst hi; exact ⟨x,rfl,hx.mono hs⟩
  | 1=>simp at hi; subst hi; exact ⟨y,rfl,hy.mono hs⟩
  | 2=>simp at hi; subst hi; exact ⟨z,rfl,hz.mono hs⟩
  | i+3=>simp at hi⟩
def Dc {x m h:Nat} (hx:x<B^m) (h1:h<=m):x / B^h<B^(m-h):=by
 apply ZI
 rw [<- VZ]
 have:h+(m-h)=m:=zO
 rw [this]; exact hx
def Sm.of {n k:Nat} (h:n<B^k) (hk:k<1099511627776):Sm n:=VS (gZ h) hk
def uV {n m:Nat} (h:(ag n).length<=m):n<B^m:=Vi (ii n) (VD zU h)
set_option maxHeartbeats 2000000 in
def LT (C:Code tab):∀ (M:Nat) {H:Heap} {a b:AV} {x y:Nat},Wf H->cp H a x->cp H b y->max (ag x).length (ag y).length=M->M<274877906944 ->
  Ans tab (.fn SF [.int .i64 8,a,b]) H fun v H'=>cp H' v (x*y)/\Kp H H':=by
 intro M
 induction M using Nat.strongRecOn with
 | _ M ih =>
 intro H a b x y hw ha hb hM hbig;refine lU C.q111 zU fun T hl g0 g1 g2=>?_;obtain ⟨mn,hmn⟩:∃ mn,mn=min (ag x).length (ag y).length:=⟨_,rfl⟩
 have hmin:DJ (.int .i64 ((ag x).length:Int)) (.int .i64 ((ag y).length:Int))=some (.int .i64 (mn:Int)):=by rw [tj]; congr 2; split <;> omega
 have hmax:Jk (.int .i64 ((ag x).length:Int)) (.int .i64 ((ag y).length:Int))=some (.int .i64 (M:Int)):=by rw [Ci]; congr 2; split <;> omega
 refine zW (gf hl g0 g1 g2 ha.lenV hb.lenV hmin) ?_;refine iteH.split (fun h=>?_) fun h=>?_
 ·refine zW (aV hl g0 g1 g2) ?_;refine AnsH.use (FX C zF (ha.mono (zG H)) (hb.mono (zG H)) zO zO (bu x) (bu y)) ?_;rintro v H2 ⟨h2,hk2⟩;obtain ⟨k2,_,_⟩:=zT H zK hk2;rw [bI,bI] at h2;refine zW (aV hl g0 g1 g2) ?_;exact ⟨h2,zK⟩
 ·have hM9:9<=M:=zO;obtain ⟨k,hk⟩:∃ k,k=(M+1) / 2:=⟨_,rfl⟩
  have hw1:IntKind.i64.wrap ((M:Int)+1)=((M+1:Nat):Int):=by rw [wrap_i64] <;> omega
  have hq:bX .quo .int (.int .i64 ((M+1:Nat):Int)) (.int .i64 2)=some (.int .i64 (k:Int)):=by
   show some (AV.int .i64 (IntKind.i64.wrap (((M+1:Nat):Int).tdiv 2)))=_
   have:((M+1:Nat):Int).tdiv 2=(k:Int):=by rw [Yb zO]; omega
   rw [this,wrap_i64] <;> omega
  have hxM:x<B^M:=uV zO;have hyM:y<B^M:=uV zO;have hkM:M-k<=k/\k<=M/\k+1<M:=zO;have hx0:x % B^k<B^k:=VO _ (VL zU);have hy0:y % B^k<B^k:=VO _ (VL zU);have hx1:x / B^k<B^(M-k):=Dc hxM hkM.2.1;have hy1:y / B^k<B^(M-k):=Dc hyM hkM.2.1;have hpk:B^(M-k)<=B^k:=VD zU hkM.1;have hpk1:2*B^k<=B^(k+1):=by rw [VF,Vk]; exact Xg _ zU
  have hex:x=x / B^k*B^k+x % B^k:=(Yf x (B^k)).symm;have hey:y=y / B^k*B^k+y % B^k:=(Yf y (B^k)).symm;have hw2:IntKind.i64.wrap (2*(k:Int))=((2*k:Nat):Int):=by rw [wrap_i64] <;> omega
  have hsx:Sm x:=Sm.of hxM zO;have hsy:Sm y:=Sm.of hyM zO;have hprod:x*y<B^(M+M):=by rw [VZ]; exact Zs hxM hyM
  have hsxy:Sm (x*y):=Sm.of hprod zO;refine zW (kj hl g0 g1 g2 ha.lenV hb.lenV hmax hw1 hq) ?_;refine AnsH.use (AT C zF (ha.mono (zG H)) hsx zO) ?_;rintro v H1 ⟨p0,p1,rfl,hp0,hp1,hk1⟩;obtain ⟨k1,_,w1⟩:=zT H zK hk1;refine zW (aV hl g0 g1 g2) ?_;refine AnsH.use (AT C zF (hb.mono (zG H)) hsy zO) ?_;rintro v H2 ⟨q0,q1,rfl,hq0,hq1,hk2⟩;obtain ⟨k12,_,_⟩:=zT H1 zK hk2;have k2:Kp H H2:=k1.trans k12;have le_k2:=k2.le;have w2:=k2.wf;have hp0:=hp0.mono k12.sub;have hp1:=hp1.mono k12.sub
  generalize x % B^k=x0 at *
  generalize x / B^k=x1 at *
  generalize y % B^k=y0 at *
  generalize y / B^k=y1 at *
  have lx0:(ag x0).length<=k:=gZ hx0;have ly0:(ag y0).length<=k:=gZ hy0;have lx1:(ag x1).length<=k:=gZ zO;have ly1:(ag y1).length<=k:=gZ zO;refine zW (aV hl g0 g1 g2) ?_;refine AnsH.use (ih _ zO zF (hp0.mono (zG H2)) (hq0.mono (zG H2)) rfl zO) ?_;rintro r0 H3 ⟨hr0,hk3⟩;obtain ⟨k23,_,w3⟩:=zT H2 zK hk3;refine zW (aV hl g0 g1 g2) ?_;refine AnsH.use (ih _ zO zF (hp1.mono (zG H2)) (hq1.mono (zG H2)) rfl zO) ?_;rintro r1 H4 ⟨hr1,hk4⟩;obtain ⟨k34,_,_⟩:=zT H3 zK hk4;have k24:Kp H2 H4:=k23.trans k34;have le_k24:=k24.le;have w4:=k34.wf;have hr0:=hr0.mono k34.sub;have hp0:=hp0.mono k24.sub;have hp1:=hp1.mono k24.sub;have hq0:=hq0.mono k24.sub;have hq1:=hq1.mono k24.sub;have op0:=hp0.one;have op1:=hp1.one;have oq0:=hq0.one;have oq1:=hq1.one;have or0:=hr0.one;have or1:=hr1.one;refine zW (aV hl g0 g1 g2) ?_;refine AnsH.use (Cg C (ls:=[x0,x1]) zF (Ar hp0 hp1 (zG H4) (by refine uv ?_; rfl)) (by simp) (Sm.of (k:=k+1) zS zO)) ?_;rintro sx H5 ⟨hsx',hk5⟩;obtain ⟨k45,_,w5⟩:=zT H4 zK hk5;have n5:H4.next+15<=H5.next:=hk5.le
  have f4:∀ c,c<15->c≠3->H5.get (H4.next+c)=none:=fun c hc h3=>hk5.free (show _<H4.next+15 by omega) (by rw [az zO]; exact w4.fresh (b:=H4.next+c) zO);have oq0':=oq0;refine zW (aV hl g0 g1 g2) ?_;have s5:Sub H5 (H5.put (H4.next+7) (.cells [q0,q1] aG true)):=aP (f4 7 zO zO);refine AnsH.use (Cg C (ls:=[y0,y1]) zF (Ar (hq0.mono k45.sub) (hq1.mono k45.sub) s5 (by refine uv ?_; rfl)) (by simp) (Sm.of (k:=k+1) zS zO)) ?_;rintro sy H6 ⟨hsy',hk6⟩;obtain ⟨k46,_,_⟩:=zT H4 zK hk6;have s56:Sub H5 H6:=s5.trans hk6.sub;have w6:=k46.wf;have n6:H5.next<=H6.next:=hk6.le
  have f6:H6.get (H4.next+12)=none:=hk6.free (show _<H5.next by omega) (by rw [az zO]; exact f4 12 zO zO);have ex0:[x0,x1].sum=x0+x1:=by simp
  have ey0:[y0,y1].sum=y0+y1:=by simp
  rw [ex0] at hsx';rw [ey0] at hsy';have lsx:(ag (x0+x1)).length<=k+1:=gZ zO;have lsy:(ag (y0+y1)).length<=k+1:=gZ zO;refine zW (aV hl g0 g1 g2) ?_;refine AnsH.use (ih _ zO zF (hsx'.mono s56) hsy' rfl zO) ?_;rintro m0 H7 ⟨hm0,hk7⟩;have k47:Kp H4 H7:=k46.trans hk7;have le_k47:=k47.le;have w7:=k47.wf;have n7:H6.next<=H7.next:=hk7.le
  have f7:H7.get (H4.next+12)=none:=hk7.free zO f6;have om0:=hm0.one;have hr0:=hr0.mono k47.sub;have hr1:=hr1.mono k47.sub;have e1:(x0+x1)*(y0+y1)=x0*y0+x1*y1+(x0*y1+x1*y0):=by grind
  have hlast:x1*y1<=x*y:=by
   rw [hex,hey];exact Wq (by have:=VL (n:=k) (show 0<B by decide); have:=Zt x1 this; omega) (by have:=VL (n:=k) (show 0<B by decide); have:=Zt y1 this; omega)
  have hmid:(x0+x1)*(y0+y1)<B^((k+1)+(k+1)):=by rw [VZ]; exact Zs zO zO
  have hsm:Sm ((x0+x1)*(y0+y1)):=Sm.of hmid zO;refine zW (aV hl g0 g1 g2) ?_;have s7:Sub H7 (H7.put (H4.next+12) (.cells [r0,r1] aG true)):=aP f7;refine AnsH.use (LS C (ls:=[x0*y0,x1*y1]) zF (hm0.mono s7) (Ar hr0 hr1 s7 (by refine uv ?_; rfl)) (by simp) hsm zS) ?_;rintro md H8 ⟨hmd,hk8⟩;obtain ⟨k48,_,_⟩:=zT H4 zK hk8;have s78:Sub H7 H8:=s7.trans hk8.sub;have w8:=k48.wf;have em:(x0+x1)*(y0+y1)-[x0*y0,x1*y1].sum=x0*y1+x1*y0:=by rw [e1]; simp only [X0,Z6,Wy]; omega
  rw [em] at hmd;have hr0:=hr0.mono s78;have hr1:=hr1.mono s78;refine zW (aV hl g0 g1 g2) ?_;refine AnsH.use (LQ C (k:=k) zF (hmd.mono (zG H8)) (hsm.mono zO) zO) ?_;rintro u1 H9 ⟨hu1,hk9⟩;obtain ⟨k89,_,w9⟩:=zT H8 zK hk9;have n9:H8.next+11<=H9.next:=hk9.le
  have f9:H9.get (H8.next+8)=none:=hk9.free (show _<H8.next+11 by omega) (w8.fresh (b:=H8.next+8) zO);refine zW (cr hl g0 g1 g2 hw2) ?_;refine AnsH.use (LQ C (k:=2*k) zF (hr1.mono k89.sub) (hsxy.mono hlast) zO) ?_;rintro u2 H10 ⟨hu2,hk10⟩;have k8a:Kp H8 H10:=k89.trans hk10;have w10:=k8a.wf;have n10:H9.next<=H10.next:=hk10.le
  have f10:H10.get (H8.next+8)=none:=hk10.free zO f9;have ou1:=hu1.one;have ou2:=hu2.one;have etot:[x0*y0,(x0*y1+x1*y0)*B^k,x1*y1*B^(2*k)].sum=x*y:=by
   have e2:B^(2*k)=B^k*B^k:=by rw [Nat.two_mul,VZ]
   rw [e2]
   conv=>rhs; rw [hex,hey]
   simp only [X0,Z6,Wy]
   generalize B^k=p
   grind
  refine zW (aV hl g0 g1 g2) ?_;refine AnsH.use (Cg C (ls:=[x0*y0,(x0*y1+x1*y0)*B^k,x1*y1*B^(2*k)]) zF (RJ (hr0.mono k8a.sub) (hu1.mono hk10.sub) hu2 (aP f10) (by refine uv ?_; rfl)) (by simp) (by rw [etot]; exact hsxy)) ?_;rintro v H11 ⟨hv,hk11⟩;rw [etot] at hv;have k8b:Kp H8 H11:=Kp.trans zK hk11;have kf:Kp H H11:=((k2.trans k24).trans k48).trans k8b;refine zW (aV hl g0 g1 g2) ?_;exact ⟨hv,kf⟩
def Oa (C:Code tab) (hw:Wf H) {a b:AV} {x y:Nat} (ha:cp H a x) (hb:cp H b y) (hx:(ag x).length<274877906944) (hy:(ag y).length<274877906944) :
  Ans tab (.fn uP [a,b]) H fun v H'=>∃ r,v=.tup [r,.int .i64 0]/\cp H' r (x*y)/\Kp H H':=by
 refine bz C.q90 zU fun T hl g0 g1=>?_;refine zW (aC hl g0 g1) ?_;refine AnsH.use (DF C (R:=fun H' v=>cp H' v (x*y)) zF (ha.mono (zG H)) (hb.mono (zG H)) (by unfold Sm; omega) (by unfold Sm; omega) (fun H' v m h=>h.mono (Sub.bump H' m)) fun H1 hk1=>?_) ?_
 ·have k1:Kp H H1:=Kp.trans zK hk1;refine (LT C _ hk1.wf (ha.mono k1.sub) (hb.mono k1.sub) rfl zO).mono ?_;rintro v H2 ⟨h2,hk2⟩;exact ⟨h2,hk1.trans hk2⟩
 ·rintro v H2 ⟨r,rfl,hr,hk2⟩;obtain ⟨k2,_,_⟩:=zT H zK hk2;refine zW (aC hl g0 g1) ?_;exact ⟨r,rfl,hr,zK⟩
def Iu (C:Code tab) (hw:Wf H) {a b:AV} {x y:Int} (ha:IntV H a x) (hb:IntV H b y) (hx:(ag x.natAbs).length<274877906944) (hy:(ag y.natAbs).length<274877906944):Ans tab (.fn S8 [a,b]) H fun v H'=>∃ r,v=.tup [r,.int .i64 0]/\IntV H' r (x*y)/\Kp H H':=by
 obtain ⟨p,rfl,hp⟩:=ha;obtain ⟨q,rfl,hq⟩:=hb;have op:=hp.one;have oq:=hq.one;refine bz C.q58 zU fun T hl g0 g1=>?_;refine zW (aC hl g0 g1) ?_;refine AnsH.eq (gL C zF (DO (x:=x) (y:=y) (H:=H) hp hq (zG H) (by refine uv ?_; rfl)) (by simp) fun z hz=>?_) fun H2 hk2=>?_
 ·simp at hz; unfold St Sm; rcases hz with rfl | rfl <;> omega
 obtain ⟨k2,_,w2⟩:=zT H zK hk2;have b0:=hk2.get (b:=H.next) (e:=.cells [.bool (decide (x<0)),p] aa true) (cR);have b1:=hk2.get (b:=H.next+1) (e:=.cells [.bool (decide (y<0)),q] aa true) (cR);have b2:=hk2.get (b:=H.next+2) (e:=.cells [.bool false,.nilSl] aa true) (cR);refine zW (cr hl g0 g1 @b0 b1) ?_;refine AnsH.use (Oa C zF (hp.mono (zG H)) (hq.mono (zG H)) hx hy) ?_;rintro v H3 ⟨r,rfl,hr,hk3⟩;obtain ⟨k3,_,w3⟩:=zT H zK hk3;have c0:=hk3.get (b:=H.next) b0;have c1:=hk3.get (b:=H.next+1) b1;have c2:=hk3.get (b:=H.next+2) b2;refine zW (cr hl g0 g1 c0 @c1) ?_;refine AnsH.use (fm C zF (hr.mono (zG H3)) _) ?_;rintro v4 H4 ⟨rfl,hk4⟩;obtain ⟨k4,_,_⟩:=zT H zK hk4;have o3:=hr.one;have d2:=hk4.get (b:=H.next+2) c2;have lt2:=k4.wf _ _ d2;refine zW (aV hl g0 g1 d2) ?_;refine ⟨_,rfl,?_,zK⟩;have hm:=ny (!(decide (x<0) == decide (y<0))) ((hr.mono (Kp.sub (H:=H3) (Kp.trans zK hk4))).monoT (SubT.put_ty (e:=.cells [.bool (!(decide (x<0) == decide (y<0)) && decide (0<(ag (x.natAbs*y.natAbs)).length)),r] aa true) d2 zU));have e:(if (!(decide (x<0) == decide (y<0)))=true then -((x.natAbs*y.natAbs:Nat):Int) else ((x.natAbs*y.natAbs:Nat):Int))=x*y:=by
  rw [Int.natCast_mul];have ax:(x.natAbs:Int)=if x<0 then -x else x:=by split <;> omega
  have ay:(y.natAbs:Int)=if y<0 then -y else y:=by split <;> omega
  rw [ax,ay];by_cases h1:x<0 <;> by_cases h2:y<0 <;> simp [h1,h2,Xs,Int.mul_neg]
 rw [e] at hm;exact hm
def Iv (C:Code tab) (hw:Wf H) {a b:AV} {x y:Int} (ha:IntV H a x) (hb:IntV H b y) (hx:St x) (hy:St y):Ans tab (.fn pw [a,b]) H fun v H'=>v=.tup [.int .i64 (iv (x-y)),.int .i64 0]/\Kp H H':=by
 obtain ⟨p,rfl,hp⟩:=ha;obtain ⟨q,rfl,hq⟩:=hb;have op:=hp.one;have oq:=hq.one;refine bz C.q32 zU fun T hl g0 g1=>?_;refine zW (aC hl g0 g1) ?_;refine AnsH.use (It C zF ⟨p,rfl,hp.mono (zG H)⟩ ⟨q,rfl,hq.mono (zG H)⟩ hx hy) ?_;rintro v H2 ⟨r,rfl,⟨w,rfl,hr⟩,hk2⟩;obtain ⟨k2,_,w2⟩:=zT H zK hk2;have ow:=hr.one;have n2:H.next+13<=H2.next:=hk2.le
 have f2:H2.get (H.next+10)=none:=hk2.free (show _<H.next+13 by omega) (by rw [az zO,az zO]; exact hw.fresh (b:=H.next+10) zO);refine zW (aC hl g0 g1) ?_;have s2:Sub H2 ((H2.put (H.next+10) (.cells [.bool false,.nilSl] aa true)).put (H.next+10) (.cells [.bool (decide (x-y<0)),w] aa true)):=(aP f2).put f2 _;refine AnsH.eq (xM C (x:=x-y) zF ⟨w,rfl,hr.mono s2⟩) fun H3 hk3=>?_;obtain ⟨k3,_,_⟩:=zT H zK hk3;refine zW (aC hl g0 g1) ?_;exact zK
def nf (C:Code tab) (hw:Wf H) {n:Int} (h1 : -9223372036854775808<=n) (h2:n<9223372036854775808):Ans tab (.fn rW [.int .i64 n]) H fun v H'=>IntV H' v n/\Kp H H':=by
 refine cQ C.q46 zU fun T hl g0=>?_;refine zW (aB hl g0) ?_;have fin:∀ (H3:Heap) (k3:Kp H H3) (bb:Bool) (o:AV) (m:Nat) (z:Int),H3.get H.next=some (.cells [.bool false,.nilSl] aa true)->Lb H3 o (ag m)->(if bb then -(m:Int) else m)=z ->
   IntV (H3.put H.next (.cells [.bool (bb && decide (0<(ag m).length)),o] aa true)) (.agg [.bool (bb && decide (0<(ag m).length)),o]) z/\Kp H (H3.put H.next (.cells [.bool (bb && decide (0<(ag m).length)),o] aa true)):=by
  intro H3 k3 bb o m z d1 ho hz;have lt1:=k3.wf _ _ d1;refine ⟨?_,zK⟩;rw [<- hz];exact ny bb (ho.monoT (SubT.put_ty d1 zU))
 have key:∀ (c:Bool) (k:Nat),0<=k->True:=fun _ _ _=>trivial;refine iteH.split (fun h=>?_) fun h=>?_
 ·have e:IntKind.u64.wrap (0-IntKind.u64.wrap n)=((n.natAbs:Nat):Int):=by rw [jV,jV]; omega
  refine zW (aC hl g0 e) ?_;refine AnsH.use (FU C zF (n:=n.natAbs) (by unfold B; omega)) ?_;rintro v H2 ⟨hn,-,hk2⟩;obtain ⟨k2,_,w2⟩:=zT H zK hk2;have b0:=hk2.get (b:=H.next) (e:=.cells [.bool false,.nilSl] aa true) (cR);have o2:=hn.one;refine zW (aB hl g0) ?_;refine AnsH.use (fm C zF (hn.mono (zG H2)) true) ?_;rintro v3 H3 ⟨rfl,hk3⟩;obtain ⟨k3,_,_⟩:=zT H zK hk3;have d1:=hk3.get (b:=H.next) b0
  have:=fin H3 k3 true v n.natAbs n d1 (hn.mono (Kp.sub (H:=H2) (Kp.trans zK hk3))) zS
  simp only [Zo] at this;refine zW (aC hl g0 d1) ?_;exact this
 ·have e:IntKind.u64.wrap n=((n.natAbs:Nat):Int):=by rw [jV]; omega
  refine zW (aC hl g0 e) ?_;refine AnsH.use (FU C zF (n:=n.natAbs) (by unfold B; omega)) ?_;rintro v H2 ⟨hn,-,hk2⟩;obtain ⟨k2,_,w2⟩:=zT H zK hk2;have b0:=hk2.get (b:=H.next) (e:=.cells [.bool false,.nilSl] aa true) (cR);have o2:=hn.one;refine zW (aB hl g0) ?_;refine AnsH.use (fm C zF (hn.mono (zG H2)) false) ?_;rintro v3 H3 ⟨rfl,hk3⟩;obtain ⟨k3,_,_⟩:=zT H zK hk3;have d1:=hk3.get (b:=H.next) b0
  have:=fin H3 k3 false v n.natAbs n d1 (hn.mono (Kp.sub (H:=H2) (Kp.trans zK hk3))) zS
  simp only [Y4] at this;refine zW (aC hl g0 d1) ?_;exact this
end
def um {a b:Nat} (ha:a<18446744073709551616) (hb:b<18446744073709551616):bX .or .int (.int .u64 (a:Int)) (.int .u64 (b:Int))=some (.int .u64 ((a ||| b:Nat):Int)):=by
 have h1:(BitVec.ofInt 64 (a:Int)).toNat=a:=by
  have:(BitVec.ofInt 64 (a:Int)).toNat=a % 2^64:=by simp
  rw [this]; omega
 have h2:(BitVec.ofInt 64 (b:Int)).toNat=b:=by
  have:(BitVec.ofInt 64 (b:Int)).toNat=b % 2^64:=by simp
  rw [this]; omega
 have e:(BitVec.ofInt 64 (a:Int) ||| BitVec.ofInt 64 (b:Int)).toNat=a ||| b:=by rw [BitVec.toNat_or,h1,h2]
 have hlt:a ||| b<2^64:=Zi zO zO
 show some (AV.int .u64 (IntKind.u64.wrap ((BitVec.ofInt 64 (a:Int) ||| BitVec.ofInt 64 (b:Int)).toNat:Nat)))=_;rw [e,SA zO zO]
def EQ {r:Nat} (hr:r<64) {k:IntKind}:bX .shl .int (.int .u64 1) (.int k (r:Int))=some (.int .u64 ((2^r:Nat):Int)):=by
 show kn .shl .u64 1 (r:Int)=_;unfold kn;rw [if_neg zO];have h1:Nat.min (r:Int).toNat IntKind.u64.bits=r:=by
  have:IntKind.u64.bits=64:=rfl
  rw [this,W2]; exact V7 zO
 have hlt:(2:Nat)^r<2^64:=Yc zO hr;have e:(1:Int)*2^r=((2^r:Nat):Int):=by simp
 simp only [h1,e]
 generalize (2:Nat)^r=p at hlt ⊢
 rw [SA zO zO]
def Ca {a b r:Nat} (ha:a<2^r):a ||| (2^r*b)=a+2^r*b:=by
 rw [Nat.or_comm,<- Nat.two_pow_add_eq_or_of_lt ha,XF]
section
variable {tab:Nat->Option aw} {H:Heap} {s:AV}
def AS (C:Code tab) (hw:Wf H) {a:AV} {x k:Nat} (ha:cp H a x) (hx:Sm x) (hk:k<=65536) :
  Ans tab (.fn Ta [a,.int .i64 (k:Int)]) H fun v H'=>v=.int .i64 0/\Kp H H':=by
 refine bz C.q147 zU fun T hl g0 g1=>?_;refine zW (aC hl g0 g1) ?_;refine AnsH.eq (gN C zF (ha.mono (zG H)) hx) fun H2 hk2=>?_;obtain ⟨k2,_,_⟩:=zT H zK hk2;have e1:decide ((k:Int)<0)=false:=by simp
 have e2:decide ((65536:Int)<(k:Int))=false:=by simp; omega
 refine zW (cr hl g0 g1 e1 e2) ?_;exact zK
def LC {k c:Nat} (hc:0<c) (hk:k<4611686018427387904):bX .quo .int (.int .i64 (k:Int)) (.int .i64 (c:Int))=some (.int .i64 ((k / c:Nat):Int)):=by
 show (if (c:Int)=0 then none else some (AV.int .i64 (IntKind.i64.wrap ((k:Int).tdiv (c:Int)))))=_;have hle:k / c<=k:=Xm _ _;rw [if_neg zO,Yb zO,<- Int.natCast_ediv]
 generalize k / c=d at hle ⊢
 rw [wrap_i64 zO zO]
def LB {k c:Nat} (hc:0<c):bX .rem .int (.int .i64 (k:Int)) (.int .i64 (c:Int))=some (.int .i64 ((k % c:Nat):Int)):=by
 show (if (c:Int)=0 then none else some (AV.int .i64 ((k:Int).tmod (c:Int))))=_;rw [if_neg zO,Y5 zO,<- Int.natCast_emod]
def Fx {x r:Nat} (hr:r<64):x*2^r % B=2^r*(x % 2^(64-r)):=by
 have hB:B=2^r*2^(64-r):=by
  rw [<- VZ]; have:r+(64-r)=64:=zO;rw [this]
 rw [hB,Vk x,ZJ]
def PT {x r:Nat} (hx:x<B):x*2^r / B<2^r:=by
 rw [Vr zU,Vk];exact Nat.mul_lt_mul_of_pos_left hx (VL zU)
def qD (l:List Nat):∃ E,l=eQ l++E:=by
 refine ⟨(l.reverse.takeWhile (· == 0)).reverse,?_⟩;have h:=List.takeWhile_append_dropWhile (p:=(· == 0)) (l:=l.reverse);have h2:=congrArg List.reverse h;rw [List.reverse_append,List.reverse_reverse] at h2;exact h2.symm
def LE (b off n c sz:Nat) (x:Bool) (k j:IntKind) (hnc:n<=c):bD sz (.own b off n c sz x) none (some (.int k (n:Int))) (some (.int j (n:Int)))=some (.own b off n n sz true):=by
 show bE sz (.own b off n c sz x) none (some (.int k (n:Int))) (some (.int j (n:Int)))=_;simp only [bE,e9,ne_eq,not_true_eq_false,if_false,qh,Wj,WU,WM];rw [if_pos ⟨hnc,wT _,II _⟩];split
 ·rename_i h; subst h; rfl
 ·simp
def FN (b off n c sz m:Nat) (x:Bool) (k:IntKind) (h:m<=c):bD sz (.own b off n c sz x) none (some (.int k (m:Int))) none=some (.own b off m c sz x):=by
 show bE sz (.own b off n c sz x) none (some (.int k (m:Int))) none=_;simp only [bE,e9,ne_eq,not_true_eq_false,if_false,qh,Wj,WU,WJ,WM,Ww];rw [if_pos ⟨h,II _⟩]
 simp
def GA {H:Heap} {cells:List AV} {l:List Nat} (h:Cells (bT cm) H cells l):cells=aK l:=by
 have hl:cells.length=l.length:=by have:=h.1; simpa [bT] using this
 apply Wz
 intro i;by_cases hi:i<l.length
 ·obtain ⟨v,e,rfl⟩:=h.2 i _ (pD hi);have e1:cells[i]? = some (.int .u64 (l[i]:Nat)):=by
   have:=congrArg (fun x=>x[0]?) e
   simpa [bT,Vm] using this
  rw [e1];simp [aK,hi]
 ·rw [VC zO,VC (by rw [nz]; omega)]
def uC (C:Code tab) (hw:Wf H) {l:List Nat} (hs:Lb H s l) (hbig:l.length<1099511627776):Ans tab (.fn cw [s]) H fun v H'=>Lb H' v l/\Kp H H'/\(0<l.length->∃ b,v=.own b 0 l.length l.length 1 false/\H'.get b=some (.cells (aK l) ae true)/\H.next<=b):=by
 refine cQ C.q115 zU fun T hl g0=>?_;rcases hs.nilcase with ⟨rfl,rfl⟩ | hne
 ·have e:bX .eql .sl .nilSl .nilSl=some (.bool true):=rfl;refine zW (aC hl g0 e) ?_;exact ⟨SlV.nil _ _ _,zK,fun h=>by simp at h⟩
 ·have ef:cX ([]:List AV) []=some []:=rfl;refine zW (aV hl g0 hne ef) ?_;have k1:Kp H ((H.up 7).put (H.next+3) (.cells [] ae true)):=zK;have le_k1:=k1.le;have h0:SlV (bT cm) ae ((H.up 7).put (H.next+3) (.cells [] ae true)) (.own (H.next+3) 0 0 0 1 true) ([]:List Nat) :=
   (show Own (bT cm) ae H _ (H.next+3) true _ [] from ⟨_,rfl,au _ _ _,Cells.nil _ _,zO⟩).sl
  obtain ⟨v',H2,e1,h2,hk2,hn2,hs2,ho⟩:=SlV.app (l:=[]) (id:=H.next+5) (bytes:=8) h0 k1 (hs.mono k1.sub) zO (by show _<H.next+7; omega) (by rw [az zO]; exact hw.fresh (b:=H.next+5) zO) zS zS;have e1':cN ((H.up 7).put (H.next+3) (.cells [] ae true)) (H.next+5) 1 8 ae (.own (H.next+3) 0 0 0 1 true) s=some (v',H2):=e1;refine zW (aC hl g0 e1') ?_;refine ⟨h2,hk2,fun h=>?_⟩;obtain ⟨cells,q1,q2,q3,q4⟩:=ho h;rw [Xk] at q1 q3;rw [GA q3] at q2;exact ⟨_,q1,q2,q4⟩
def io (C:Code tab) (hw:Wf H) {b n c:Nat} {x:Bool} (hnc:n<=c):Ans tab (.fn cy [.own b 0 n c 1 x]) H fun v H'=>v=.own b 0 n n 1 true/\Kp H H':=by
 refine cQ C.q129 zU fun T hl g0=>?_;have e:=LE b 0 n c 1 x .i64 .i64 hnc;refine zW (aC hl g0 e) ?_;exact zK
def Cd (C:Code tab) (hw:Wf H) {l:List Nat} {b N:Nat} {rw' x:Bool} (hN:l.length=N) (hb:H.get b=some (.cells (aK l) ae rw')) (hbig:N<4611686018427387904) :
  Ans tab (.fn oj [.own b 0 N N 1 x]) H fun v H'=>v=.own b 0 (eQ l).length (eQ l).length 1 true/\Kp H H':=by
 refine cQ C.q98 zU fun T hl g0=>?_;refine zW (aB hl g0) ?_;refine bC H [0] (fun k vs H'=>vs=[.own b 0 k N 1 x]/\eQ (l.take k)=eQ l/\k<=l.length) l.length (by simp only [dj]; exact hl) rfl zK ⟨by exact zV (aC hl g0 hN),by rw [Vo],wT _⟩ ?_;rintro k T1 H1 hl1 hs1 hk1 ⟨hv,ht,hk⟩;have w1:=hk1.wf;have le_hk1:=hk1.le;have b1:=hk1.get hb;simp only [wW,AO,zB,and_true] at hv;rcases W4 (l.take k) with h0 | ⟨l',a,h0⟩
 ·have hk0:k=0:=by
   have:=congrArg List.length h0; simp at this
   rcases this with h | h
   ·exact h
   ·subst h; simpa using hk
  subst hk0;refine zW (aC hl1 hv @ME) ?_;refine AnsH.eq (io C zF (II _)) fun H2 h2=>?_;have k2:Kp H H2:=Kp.trans zK h2;have le_k2:=k2.le;rw [<- ht,h0,uz];refine zW hl1 ?_;exact zK
 ·rw [W5] at h0;have hk1':k=l'.length+1:=by have:=congrArg List.length h0; simp at this; omega
  subst hk1';have hl':l.take l'.length=l':=by
   have:=congrArg (List.take l'.length) h0
   rw [Xe,V7 zO] at this
   simpa using this
  have hga:l.getD l'.length 0=a:=by
   have this:(l.take (l'.length+1)).getD l'.length 0=(l'++[a]).getD l'.length 0:=by rw [h0]
   rw [dH,Vm,if_pos zO,<- dH] at this;rw [this]; simp [dH]
  have hwr:IntKind.i64.wrap (((l'.length+1:Nat):Int)-1)=(l'.length:Int):=by rw [wrap_i64] <;> omega
  have hpos:0<l'.length+1:=zO;have e':=FN b 0 (l'.length+1) N 1 l'.length x .i64 zO;refine zW (eW hl1 hv hpos hwr b1 hga) ?_;refine iteH.split (fun ha=>?_) fun ha=>?_
  ·have ha0:a=0:=zO;subst ha0;refine zW (aV hl1 hv hwr e') ?_;refine ⟨zK,l'.length,zO,rfl,?_,zO⟩;rw [hl',<- ht,h0,eD]
  ·have ha':a≠0:=zO;refine zW (aB hl1 hv) ?_;refine AnsH.eq (io C zF zO) fun H2 h2=>?_;have k2:Kp H H2:=Kp.trans zK h2;have le_k2:=k2.le;rw [<- ht,h0,iM ha'];refine zW (aB hl1 @List.length_append.{0}) ?_;exact zK
def LO (C:Code tab) (hw:Wf H) {a:AV} {x k:Nat} (ha:cp H a x) (hx:Sm x) (hk:k<=65536) :
  Ans tab (.fn yH [a,.int .i64 (k:Int)]) H fun v H'=>∃ o,v=.tup [o,.int .i64 0]/\cp H' o (x*2^k)/\Kp H H'/\∃ b E,o=.own b 0 (ag (x*2^k)).length (ag (x*2^k)).length 1 true/\H'.get b=some (.cells (aK (ag (x*2^k)++E)) ae true)/\H.next<=b/\(ag (x*2^k)++E).length=k / 64+(ag x).length+1/\Lim (ag (x*2^k)++E):=by
 refine bz C.q117 zU fun T hl g0 g1=>?_;refine zW (aC hl g0 g1) ?_;refine AnsH.eq (AS C zF (ha.mono (zG H)) hx hk) fun H2 hk2=>?_;obtain ⟨k2,_,w2⟩:=zT H zK hk2;have n2:=k2.le;unfold Sm at hx;have hq:=LC (k:=k) (c:=64) zO zO;have hr:=LB (k:=k) (c:=64) zO;obtain ⟨q,eq⟩:∃ q,q=k / 64:=⟨_,rfl⟩
 obtain ⟨r,er⟩:∃ r,r=k % 64:=⟨_,rfl⟩
 rw [<- eq] at hq;rw [<- er] at hr;have hq':bX .quo .int (.int .i64 (k:Int)) (.int .i64 64)=some (.int .i64 (q:Int)):=hq;have hr':bX .rem .int (.int .i64 (k:Int)) (.int .i64 64)=some (.int .i64 (r:Int)):=hr;have hw1:IntKind.i64.wrap ((q:Int)+((ag x).length:Int))=((q+(ag x).length:Nat):Int):=by rw [wrap_i64] <;> omega
 obtain ⟨N,hN⟩:∃ N,q+(ag x).length+1=N:=⟨_,rfl⟩
 have hw2:IntKind.i64.wrap (((q+(ag x).length:Nat):Int)+1)=(N:Int):=by rw [wrap_i64] <;> omega
 have hmk:∀ H' id,Ho H' id ae 1 8 [.int .u64 0] (.int .i64 (N:Int)) (.int .i64 (N:Int))=some (.own id 0 N N 1 true,H'.put id (.cells (aK (List.replicate N 0)) ae true)):=fun H' id =>
  (iW H' id ae 1 8 [.int .u64 0] .i64 .i64 N zO zO rfl).trans (by rw [lH])
 refine zW (ki hl g0 g1 ha.lenV hq' hw1 hw2 hmk) ?_;have hr64:r<64:=zO;have hkqr:k=64*q+r:=zO;have hz0:∀ j,(List.replicate N 0).getD j 0=0:=fun j=>by simp [dH,V9]; split <;> rfl
 refine am H [] (fun i vs H'=>∃ out,H'.get (H2.next+8)=some (.cells (aK out) ae true)/\out.length=N/\Lim out/\val out=B^q*2^r*val ((ag x).take i)/\out.getD (q+i) 0<2^r/\∀ j,q+i<j->out.getD j 0=0) (a:=0) (N:=(ag x).length) rfl (by refine zW (aC hl g0 g1) ?_; rfl) (zV (aC hl g0 g1)) (II _) zO (by simp only [dj,hl]; rfl) rfl (fun _ _ _ _ h=>h) zK
  ⟨List.replicate N 0,by exact cR,by simp,Lim.replicate N,by rw [fK]; simp [val],by rw [hz0]; exact VL zU,fun j _=>hz0 j⟩ ?_ ?_
 ·rintro i T1 H1 _ hi hl1 hi1 hs1 hk1 ⟨out,b6,hlen,hlim,hval,hlow,hz⟩;simp only [dj,hl] at hl1;have w1:=hk1.wf;have le_hk1:=hk1.le;have t7:ad T1 7=.own (H2.next+8) 0 N N 1 true:=(hs1.at_ 7 zU).trans (zV (aC hl g0 g1));have t1:ad T1 1=.int .i64 (k:Int):=(hs1.at_ 1 zU).trans (zV (aV hl g0 g1 g1));have t25:ad T1 25=a:=(hs1.at_ 25 zU).trans (zV (aB hl g0));have hix:=SlV.idx1 ha .i64 i hi;have hld:=eZ (ha.mono hk1.sub) hi;have hxB:=(bu x).at i;have h2r:2^r<B:=by unfold B; exact Yc (m:=r) (n:=64) zO hr64
  have hs:=EQ hr64 (k:=.i64);refine zW (kj hl1 t7 t1 t25 hi1 hix hld hr' hs) ?_;refine AnsH.use (oK C zF hxB h2r) ?_;rintro v H3 ⟨rfl,hk3⟩;obtain ⟨k3,_,w3⟩:=zT H zK hk3;have d6:=hk3.get (b:=H2.next+8) b6;have lt6:=k3.wf _ _ d6;have hwi:IntKind.i64.wrap ((q:Int)+(i:Int))=((q+i:Nat):Int):=by rw [wrap_i64] <;> omega
  have hwi1:IntKind.i64.wrap (((q+i:Nat):Int)+1)=((q+i+1:Nat):Int):=by rw [wrap_i64] <;> omega
  have hor:=um (a:=out.getD (q+i) 0) (b:=(ag x).getD i 0*2^r % B) (hlim.at _) (VO _ zU);rw [Fx hr64,Ca hlow] at hor;rw [Fx hr64];refine zW (rM hl1 t7 t1 t25 hi1 hq' hwi hwi1 d6 hor) ?_;have hlo:=Fx (x:=(ag x).getD i 0) hr64;have hhi:=PT (r:=r) hxB;have hdm:=VX ((ag x).getD i 0*2^r) B;have hloB:out.getD (q+i) 0+(ag x).getD i 0*2^r % B<B:=by
   rw [hlo];have e1:out.getD (q+i) 0 ||| 2^r*((ag x).getD i 0 % 2^(64-r))<2^64:=Zi (hlim.at _) (by rw [<- hlo]; exact VO _ zU)
   rw [Ca hlow] at e1; exact e1
  rw [hlo] at hdm hloB
  generalize (ag x).getD i 0*2^r / B=hi' at *
  have h1:=iK (l:=out) (k:=q+i) (v:=out.getD (q+i) 0+2^r*((ag x).getD i 0 % 2^(64-r))) zO;have h2:=iK (l:=out.set (q+i) (out.getD (q+i) 0+2^r*((ag x).getD i 0 % 2^(64-r)))) (k:=q+i+1) (v:=hi') zS;rw [bj zO,hz (q+i+1) zO] at h2;refine ⟨zK,_,rfl,by simp [hlen],jT (jT hlim hloB) (YV hhi h2r),?_,?_,fun j hj=>?_⟩
  ·rw [cY,VY,<- hval];have h3:B^q*2^r*(B^i*(ag x).getD i 0)=B^(q+i)*((ag x).getD i 0*2^r):=by rw [VZ]; grind
   rw [h3,<- hdm,VY];have h4:B^(q+i+1)*hi'=B^(q+i)*(B*hi'):=by rw [VF,VJ]
   rw [VY] at h1;rw [h4] at h2;have eqi:q+(i+1)=q+i+1:=zO;rw [eqi];omega
  ·have:(((out.set (q+i) (out.getD (q+i) 0+2^r*((ag x).getD i 0 % 2^(64-r)))).set (q+(i+1)) hi').getD (q+(i+1)) 0)=hi':=by
    rw [dH,Xf,if_pos rfl,if_pos zS]; rfl
   rw [this]; exact hhi
  ·rw [bj zO,bj zO];exact hz j zO
 ·rintro T1 H1 hl1 hs1 hk1 ⟨out,b6,hlen,hlim,hval,-,-⟩;simp only [dj,hl] at hl1;have w1:=hk1.wf;have le_hk1:=hk1.le;have t7:ad T1 7=.own (H2.next+8) 0 N N 1 true:=(hs1.at_ 7 zU).trans (zV (aC hl g0 g1));rw [Vl (wT _),bI] at hval;refine zW (aB hl1 t7) ?_;refine AnsH.eq (Cd C zF (rw':=true) hlen (zV @b6) zO) fun H4 hk4=>?_;obtain ⟨k4,_,_⟩:=zT H zK hk4;have b4:=hk4.get (b:=H2.next+8) (e:=.cells (aK out) ae true) (zV @b6);have e:val out=x*2^k:=by
   rw [hval,hkqr,VZ,Ym]
   have:(2:Nat)^64=B:=by decide
   rw [this,Vk]
  have et:=eM hlim;rw [e] at et;obtain ⟨E,hE⟩:=qD out;rw [et] at hE;have h4:cp H4 (.own (H2.next+8) 0 (ag (x*2^k)).length (ag (x*2^k)).length 1 true) (x*2^k):=by
   refine ⟨aK (ag (x*2^k)),⟨wT _,(fun s h=>by cases h),_,rfl,?_⟩,fun _ _ _ _ _ _ e=>by cases e; exact ⟨_,_,b4⟩,su _ _⟩;simp only [aL,b4];rw [if_pos ⟨rfl,wT _,by rw [nz,hE]; simp [bT]⟩];rw [hE];simp [aK,bT]
  rw [et];refine zW hl1 ?_;exact ⟨_,rfl,h4,zK,_,E,rfl,by rw [b4,hE],zO,by rw [<- hE,hlen,<- hN,eq,V2],by rw [<- hE]; exact hlim⟩
end
section
variable {tab:Nat->Option aw} {H:Heap} {s:AV} {l:List Nat}
def oG (C:Code tab) (hw:Wf H) {l:List Nat} {b N:Nat} {rw' x:Bool} (hN:l.length=N) (hb:H.get b=some (.cells (aK l) ae rw')) (hbig:N<4611686018427387904) :
  Ans tab (.fn sf [.own b 0 N N 1 x]) H fun v H'=>v=.own b 0 (eQ l).length (eQ l).length 1 true/\Kp H H':=by
 refine cQ C.q121 zU fun T hl g0=>?_;refine zW (aB hl g0) ?_;refine bC H [0] (fun k vs H'=>vs=[.own b 0 k N 1 x]/\eQ (l.take k)=eQ l/\k<=l.length) l.length (by simp only [dj]; exact hl) rfl zK ⟨by exact zV (aC hl g0 hN),by rw [Vo],wT _⟩ ?_;rintro k T1 H1 hl1 hs1 hk1 ⟨hv,ht,hk⟩;have w1:=hk1.wf;have le_hk1:=hk1.le;have b1:=hk1.get hb;simp only [wW,AO,zB,and_true] at hv;rcases W4 (l.take k) with h0 | ⟨l',a,h0⟩
 ·have hk0:k=0:=by
   have:=congrArg List.length h0; simp at this
   rcases this with h | h
   ·exact h
   ·subst h; simpa using hk
  subst hk0;refine zW (aC hl1 hv @ME) ?_;refine AnsH.eq (io C zF (II _)) fun H2 h2=>?_;have k2:Kp H H2:=Kp.trans zK h2;have le_k2:=k2.le;rw [<- ht,h0,uz];refine zW hl1 ?_;exact zK
 ·rw [W5] at h0;have hk1':k=l'.length+1:=by have:=congrArg List.length h0; simp at this; omega
  subst hk1';have hl':l.take l'.length=l':=by
   have:=congrArg (List.take l'.length) h0
   rw [Xe,V7 zO] at this
   simpa using this
  have hga:l.getD l'.length 0=a:=by
   have this:(l.take (l'.length+1)).getD l'.length 0=(l'++[a]).getD l'.length 0:=by rw [h0]
   rw [dH,Vm,if_pos zO,<- dH] at this;rw [this]; simp [dH]
  have hwr:IntKind.i64.wrap (((l'.length+1:Nat):Int)-1)=(l'.length:Int):=by rw [wrap_i64] <;> omega
  have hpos:0<l'.length+1:=zO;have e':=FN b 0 (l'.length+1) N 1 l'.length x .i64 zO;refine zW (eW hl1 hv hpos hwr b1 hga) ?_;refine iteH.split (fun ha=>?_) fun ha=>?_
  ·have ha0:a=0:=zO;subst ha0;refine zW (aV hl1 hv hwr e') ?_;refine ⟨zK,l'.length,zO,rfl,?_,zO⟩;rw [hl',<- ht,h0,eD]
  ·have ha':a≠0:=zO;refine zW (aB hl1 hv) ?_;refine AnsH.eq (io C zF zO) fun H2 h2=>?_;have k2:Kp H H2:=Kp.trans zK h2;have le_k2:=k2.le;rw [<- ht,h0,iM ha'];refine zW (aB hl1 @List.length_append.{0}) ?_;exact zK
def B9 {H:Heap} {b:Nat} {l E:List Nat} {rw' x:Bool} (hb:H.get b=some (.cells (aK (l++E)) ae rw')):Lb H (.own b 0 l.length l.length 1 x) l:=by
 refine ⟨aK l,⟨wT _,(fun s h=>by cases h),_,rfl,?_⟩,fun _ _ _ _ _ _ e=>by cases e; exact ⟨_,_,hb⟩,su _ _⟩;simp only [aL,hb];rw [if_pos ⟨rfl,wT _,by rw [nz]; simp [bT]⟩];simp [aK,bT]
def y8 (C:Code tab) (hw:Wf H) {ls:List (List Nat)} {ty:Nat} (hs:xJ (rl (bT cm) ae) ty H s ls) (hbig:ls.length<4611686018427387904) (hc:∀ c∈ls,c.length<4611686018427387904/\c.getLast? ≠ some 0) :
  Ans tab (.fn mV [s]) H fun v H'=>v=.int .i64 0/\Kp H H':=by
 refine cQ C.q186 zU fun T hl g0=>?_;refine zW (aC hl g0 hs.lenV) ?_;refine am H [] (fun _ _ _=>True) (a:=0) (N:=ls.length) rfl (by refine zW (aB hl g0) ?_; rfl) (zV (aB hl g0)) (II _) zO (by simp only [dj,hl]; rfl) rfl (fun _ _ _ _ h=>h) zK trivial ?_ ?_
 ·intro j T1 H1 _ hj hl1 hi1 hs1 hk1 _;have w1:=hk1.wf;have le_hk1:=hk1.le;have t6:ad T1 6=s:=(hs1.at_ 6 zU).trans (zV (aB hl g0));obtain ⟨c,hcr,hld⟩:=SlV.at1 (hs.mono hk1.sub) (pD hj);have hix:=SlV.idx1 hs .i64 j hj;have hcc:=hc _ (rZ hj);simp only [dj,hl] at hl1;refine zW (cr hl1 t6 hi1 hix hld) ?_;refine AnsH.eq (kR C zF hcr hcc.1) fun H2 h2=>?_;rw [if_neg hcc.2];refine zW hl1 ?_;have k2:Kp H H2:=Kp.trans zK h2;have le_k2:=k2.le;exact zK
 ·intro T1 H1 hl1 hs1 hk1 _;simp only [dj,hl] at hl1;refine zW hl1 ?_;exact zK
end
def QH (v i:AV):Option AV:=aM (fun s=>match s with | .t 0=>v | _=>i) (.indexStr (.t 0) (.t 1))
def da {tab:Nat->Option aw} (ev:Src->AV) (H:Heap) (id:Nat) (Q:AV->Heap->Prop) (x i:Src):kW tab ev H id (.indexStr x i) Q=SC (QH (ev x) (ev i)) (fun v=>Q v H) ():=by
 rw [bY,dU tab ev H id Q (o:=.indexStr x i) (v:=QH (ev x) (ev i)) (fun f a e=>by cases e) (by simp only [aM,QH]) rfl]; rfl
def OW {a b:Nat} (ha:a<18446744073709551616) (hb:0<b):bX .quo .int (.int .u64 (a:Int)) (.int .u64 (b:Int))=some (.int .u64 ((a / b:Nat):Int)):=by
 show (if (b:Int)=0 then none else some (AV.int .u64 (IntKind.u64.wrap ((a:Int).tdiv (b:Int)))))=_;have hle:a / b<=a:=Xm _ _;rw [if_neg zO,Yb zO,<- Int.natCast_ediv]
 generalize a / b=d at hle ⊢
 rw [SA zO zO]
def QY {a b:Nat} (hb:0<b):bX .rem .int (.int .u64 (a:Int)) (.int .u64 (b:Int))=some (.int .u64 ((a % b:Nat):Int)):=by
 show (if (b:Int)=0 then none else some (AV.int .u64 ((a:Int).tmod (b:Int))))=_;rw [if_neg zO,Y5 zO,<- Int.natCast_emod]
def qV {x r:Nat} (hr:r<=64) {k:IntKind}:bX .shl .int (.int .u64 (x:Int)) (.int k (r:Int))=some (.int .u64 ((x*2^r % B:Nat):Int)):=by
 show kn .shl .u64 (x:Int) (r:Int)=_;unfold kn;rw [if_neg zO];have h1:Nat.min (r:Int).toNat IntKind.u64.bits=r:=by
  have:IntKind.u64.bits=64:=rfl
  rw [this,W2]; exact V7 hr
 have e:(x:Int)*2^r=((x*2^r:Nat):Int):=by simp
 simp only [h1,e];rw [jV];rfl
def Ae {a b:Nat} (hb:b<=64) {k:IntKind}:bX .shr .int (.int .u64 (a:Int)) (.int k (b:Int))=some (.int .u64 ((a / 2^b:Nat):Int)):=by
 show kn .shr .u64 (a:Int) (b:Int)=_;unfold kn;rw [if_neg zO];have h1:Nat.min (b:Int).toNat IntKind.u64.bits=b:=by
  have:IntKind.u64.bits=64:=rfl
  rw [this,W2]; exact V7 hb
 simp only [h1];congr 2;rw [Y2 _ (Wn (Int.pow_pos zO))]
 simp
def pg (a:Nat):bX .shr .int (.int .u64 (a:Int)) (.int .u64 16)=some (.int .u64 ((a / 65536:Nat):Int)):=qU a 16 zO
def yj (a:Nat):bX .shr .int (.int .u64 (a:Int)) (.int .u64 8)=some (.int .u64 ((a / 256:Nat):Int)):=qU a 8 zO
def Q8:AV:=.str ⟨#[0,1,2,2,3,3,3,3,4,4,4,4,4,4,4,4,5,5,5,5,5,5,5,5,5,5,5,5,5,5,5,5,6,6,6,6,6,6,6,6,6,6,6,6,6,6,6,6,6,6,6,6,6,6,6,6,6,6,6,6,6,6,6,6,7,7,7,7,7,7,7,7,7,7,7,7,7,7,7,7,7,7,7,7,7,7,7,7,7,7,7,7,7,7,7,7,7,7,7,7,7,7,7,7,7,7,7,7,7,7,7,7,7,7,7,7,7,7,7,7,7,7,7,7,7,7,7,7,8,8,8,8,8,8,8,8,8,8,8,8,8,8,8,8,8,8,8,8,8,8,8,8,8,8,8,8,8,8,8,8,8,8,8,8,8,8,8,8,8,8,8,8,8,8,8,8,8,8,8,8,8,8,8,8,8,8,8,8,8,8,8,8,8,8,8,8,8,8,8,8,8,8,8,8,8,8,8,8,8,8,8,8,8,8,8,8,8,8,8,8,8,8,8,8,8,8,8,8,8,8,8,8,8,8,8,8,8,8,8,8,8,8,8,8,8,8,8,8,8,8,8,8,8,8,8,8]⟩
def L8 (x:Nat):Bool:=match QH Q8 (.int .u8 (x:Int)) with
 | some (.int .u8 z)=>decide (0<=z/\z.toNat<=8/\x<2^z.toNat/\(x=0\/(1<=z.toNat/\2^(z.toNat-1)<=x)))
 | _=>false
theorem L9:(List.range 256).all L8=true:=by kernel_rfl
def Jt {x:Nat} (hx:x<256):∃ L:Nat,QH Q8 (.int .u8 (x:Int))=some (.int .u8 (L:Int))/\L<=8/\x<2^L/\(x=0\/(1<=L/\2^(L-1)<=x)):=by
 have h:=Vq.1 L9 x (Wb.2 hx);unfold L8 at h;split at h
 ·rename_i z e;simp only [decide_eq_true_eq] at h;obtain ⟨h0,h1,h2,h3⟩:=h;refine ⟨z.toNat,?_,h1,h2,h3⟩;rw [e,ZU h0]
 ·cases h
def L7 {w k L x:Nat} (hx:w / 2^k=x) (h1:x<2^L) (h2:1<=L) (h3:2^(L-1)<=x):w<2^(k+L)/\2^(k+L-1)<=w:=by
 subst hx;refine ⟨?_,?_⟩
 ·have:=(Vr (VL zU)).1 h1
  rw [VZ,Vk]; exact this
 ·have:=(YE (VL zU)).1 h3
  have e:k+L-1=(L-1)+k:=zO;rw [e,VZ]; exact this
section
variable {tab:Nat->Option aw} {H:Heap} {s:AV} {l:List Nat}
set_option maxRecDepth 20000 in
def Ac (C:Code tab) (hw:Wf H) {w:Nat} (h0:0<w) (hB:w<18446744073709551616) :
  Ans tab (.fn iS [.int .u64 (w:Int)]) H fun v H'=>(∃ L:Nat,v=.int .i64 (L:Int)/\1<=L/\L<=64/\w<2^L/\2^(L-1)<=w)/\Kp H H':=by
 refine cQ C.q146 zU fun T hl g0=>?_;have fin:∀ (k x:Nat),x<256->k<=56->w / 2^k=x->0<x->∃ L:Nat,QH (.str ⟨#[0,1,2,2,3,3,3,3,4,4,4,4,4,4,4,4,5,5,5,5,5,5,5,5,5,5,5,5,5,5,5,5,6,6,6,6,6,6,6,6,6,6,6,6,6,6,6,6,6,6,6,6,6,6,6,6,6,6,6,6,6,6,6,6,7,7,7,7,7,7,7,7,7,7,7,7,7,7,7,7,7,7,7,7,7,7,7,7,7,7,7,7,7,7,7,7,7,7,7,7,7,7,7,7,7,7,7,7,7,7,7,7,7,7,7,7,7,7,7,7,7,7,7,7,7,7,7,7,8,8,8,8,8,8,8,8,8,8,8,8,8,8,8,8,8,8,8,8,8,8,8,8,8,8,8,8,8,8,8,8,8,8,8,8,8,8,8,8,8,8,8,8,8,8,8,8,8,8,8,8,8,8,8,8,8,8,8,8,8,8,8,8,8,8,8,8,8,8,8,8,8,8,8,8,8,8,8,8,8,8,8,8,8,8,8,8,8,8,8,8,8,8,8,8,8,8,8,8,8,8,8,8,8,8,8,8,8,8,8,8,8,8,8,8,8,8,8,8,8,8,8,8,8,8,8,8]⟩) (.int .u8 (IntKind.u8.wrap (x:Int)))=some (.int .u8 (L:Int))/\IntKind.i64.wrap (L:Int)=(L:Int)/\IntKind.i64.wrap ((k:Int)+(L:Int))=((k+L:Nat):Int)/\1<=k+L/\k+L<=64/\w<2^(k+L)/\2^(k+L-1)<=w:=by
  intro k x hx hk he hpos;obtain ⟨L,e1,e2,e3,e4⟩:=Jt hx;obtain ⟨h1,h2⟩:=e4.resolve_left zO;have e5:IntKind.u8.wrap (x:Int)=(x:Int):=by
   show (x:Int) % 256=x;omega
  obtain ⟨h3,h4⟩:=L7 he e3 h1 h2;refine ⟨L,by rw [e5]; exact e1,by rw [wrap_i64] <;> omega,by rw [wrap_i64] <;> omega,zO,zO,h3,h4⟩
 have wk:∀ n:Nat,n<100->IntKind.i64.wrap (n:Int)=(n:Int):=fun n hn=>by rw [wrap_i64] <;> omega
 simp -dsimp (maxSteps:=1000000) (disch:=(first | omega | assumption | exact aQ _ | exact bf _ _ | exact bp | exact cz _ _ _ | exact bF _ _ | exact bo _ _ _ _ _ _ | exact cJ _ _ | exact bH _)) only [↓sL,sK,Nat.reduceLT,Nat.reduceEqDiff,Nat.reduceAdd,reduceIte,reduceCtorEq,Nat.reduceBEq,Int.reduceEq,Int.reduceLT,Int.reduceLE,Int.reduceAdd,Int.reduceSub,hl,g0,pg,yj,↓da];refine iteH.split (fun h1=>?_) fun h1=>?_
 all_goals
  simp -dsimp (maxSteps:=1000000) (disch:=(first | omega | assumption | exact aQ _ | exact bf _ _ | exact bp | exact cz _ _ _ | exact bF _ _ | exact bo _ _ _ _ _ _ | exact cJ _ _ | exact bH _)) only [↓sL,sK,Nat.reduceLT,Nat.reduceEqDiff,Nat.reduceAdd,reduceIte,reduceCtorEq,Nat.reduceBEq,Int.reduceEq,Int.reduceLT,Int.reduceLE,Int.reduceAdd,Int.reduceSub,hl,g0,pg,yj,↓da];refine iteH.split (fun h2=>?_) fun h2=>?_
 all_goals
  simp -dsimp (maxSteps:=1000000) (disch:=(first | omega | assumption | exact aQ _ | exact bf _ _ | exact bp | exact cz _ _ _ | exact bF _ _ | exact bo _ _ _ _ _ _ | exact cJ _ _ | exact bH _)) only [↓sL,sK,Nat.reduceLT,Nat.reduceEqDiff,Nat.reduceAdd,reduceIte,reduceCtorEq,Nat.reduceBEq,Int.reduceEq,Int.reduceLT,Int.reduceLE,Int.reduceAdd,Int.reduceSub,hl,g0,pg,yj,↓da];refine iteH.split (fun h3=>?_) fun h3=>?_
 ·have he:w / 2^56=w / 4294967296 / 65536 / 256:=zO;obtain ⟨L,f1,f2,f3,f4,f5,f6,f7⟩:=fin 56 (w / 4294967296 / 65536 / 256) zO zO he zO;have f3':IntKind.i64.wrap (56+(L:Int))=((56+L:Nat):Int):=by rw [wrap_i64] <;> omega
  simp -dsimp (maxSteps:=1000000) (disch:=(first | omega | assumption | exact aQ _ | exact bf _ _ | exact bp | exact cz _ _ _ | exact bF _ _ | exact bo _ _ _ _ _ _ | exact cJ _ _ | exact bH _)) only [↓sL,sK,Nat.reduceLT,Nat.reduceEqDiff,Nat.reduceAdd,reduceIte,reduceCtorEq,Nat.reduceBEq,Int.reduceEq,Int.reduceLT,Int.reduceLE,Int.reduceAdd,Int.reduceSub,hl,g0,pg,yj,↓da,f1,f2,f3',(show IntKind.i64.wrap 16=16 from wk 16 zO),(show IntKind.i64.wrap 40=40 from wk 40 zO),(show IntKind.i64.wrap 48=48 from wk 48 zO),(show IntKind.i64.wrap 56=56 from wk 56 zO),(show IntKind.i64.wrap 24=24 from wk 24 zO),(show IntKind.i64.wrap 8=8 from wk 8 zO)];exact ⟨⟨56+L,rfl,f4,f5,f6,f7⟩,zK⟩
 ·have he:w / 2^48=w / 4294967296 / 65536:=zO;obtain ⟨L,f1,f2,f3,f4,f5,f6,f7⟩:=fin 48 (w / 4294967296 / 65536) zO zO he zO;have f3':IntKind.i64.wrap (48+(L:Int))=((48+L:Nat):Int):=by rw [wrap_i64] <;> omega
  simp -dsimp (maxSteps:=1000000) (disch:=(first | omega | assumption | exact aQ _ | exact bf _ _ | exact bp | exact cz _ _ _ | exact bF _ _ | exact bo _ _ _ _ _ _ | exact cJ _ _ | exact bH _)) only [↓sL,sK,Nat.reduceLT,Nat.reduceEqDiff,Nat.reduceAdd,reduceIte,reduceCtorEq,Nat.reduceBEq,Int.reduceEq,Int.reduceLT,Int.reduceLE,Int.reduceAdd,Int.reduceSub,hl,g0,pg,yj,↓da,f1,f2,f3',(show IntKind.i64.wrap 16=16 from wk 16 zO),(show IntKind.i64.wrap 40=40 from wk 40 zO),(show IntKind.i64.wrap 48=48 from wk 48 zO),(show IntKind.i64.wrap 56=56 from wk 56 zO),(show IntKind.i64.wrap 24=24 from wk 24 zO),(show IntKind.i64.wrap 8=8 from wk 8 zO)];exact ⟨⟨48+L,rfl,f4,f5,f6,f7⟩,zK⟩
 ·have he:w / 2^40=w / 4294967296 / 256:=zO;obtain ⟨L,f1,f2,f3,f4,f5,f6,f7⟩:=fin 40 (w / 4294967296 / 256) zO zO he zO;have f3':IntKind.i64.wrap (40+(L:Int))=((40+L:Nat):Int):=by rw [wrap_i64] <;> omega
  simp -dsimp (maxSteps:=1000000) (disch:=(first | omega | assumption | exact aQ _ | exact bf _ _ | exact bp | exact cz _ _ _ | exact bF _ _ | exact bo _ _ _ _ _ _ | exact cJ _ _ | exact bH _)) only [↓sL,sK,Nat.reduceLT,Nat.reduceEqDiff,Nat.reduceAdd,reduceIte,reduceCtorEq,Nat.reduceBEq,Int.reduceEq,Int.reduceLT,Int.reduceLE,Int.reduceAdd,Int.reduceSub,hl,g0,pg,yj,↓da,f1,f2,f3',(show IntKind.i64.wrap 16=16 from wk 16 zO),(show IntKind.i64.wrap 40=40 from wk 40 zO),(show IntKind.i64.wrap 48=48 from wk 48 zO),(show IntKind.i64.wrap 56=56 from wk 56 zO),(show IntKind.i64.wrap 24=24 from wk 24 zO),(show IntKind.i64.wrap 8=8 from wk 8 zO)];exact ⟨⟨40+L,rfl,f4,f5,f6,f7⟩,zK⟩
 ·have he:w / 2^32=w / 4294967296:=zO;obtain ⟨L,f1,f2,f3,f4,f5,f6,f7⟩:=fin 32 (w / 4294967296) zO zO he zO;have f3':IntKind.i64.wrap (32+(L:Int))=((32+L:Nat):Int):=by rw [wrap_i64] <;> omega
  simp -dsimp (maxSteps:=1000000) (disch:=(first | omega | assumption | exact aQ _ | exact bf _ _ | exact bp | exact cz _ _ _ | exact bF _ _ | exact bo _ _ _ _ _ _ | exact cJ _ _ | exact bH _)) only [↓sL,sK,Nat.reduceLT,Nat.reduceEqDiff,Nat.reduceAdd,reduceIte,reduceCtorEq,Nat.reduceBEq,Int.reduceEq,Int.reduceLT,Int.reduceLE,Int.reduceAdd,Int.reduceSub,hl,g0,pg,yj,↓da,f1,f2,f3',(show IntKind.i64.wrap 16=16 from wk 16 zO),(show IntKind.i64.wrap 40=40 from wk 40 zO),(show IntKind.i64.wrap 48=48 from wk 48 zO),(show IntKind.i64.wrap 56=56 from wk 56 zO),(show IntKind.i64.wrap 24=24 from wk 24 zO),(show IntKind.i64.wrap 8=8 from wk 8 zO)];exact ⟨⟨32+L,rfl,f4,f5,f6,f7⟩,zK⟩
 ·have he:w / 2^24=w / 65536 / 256:=zO;obtain ⟨L,f1,f2,f3,f4,f5,f6,f7⟩:=fin 24 (w / 65536 / 256) zO zO he zO;have f3':IntKind.i64.wrap (24+(L:Int))=((24+L:Nat):Int):=by rw [wrap_i64] <;> omega
  simp -dsimp (maxSteps:=1000000) (disch:=(first | omega | assumption | exact aQ _ | exact bf _ _ | exact bp | exact cz _ _ _ | exact bF _ _ | exact bo _ _ _ _ _ _ | exact cJ _ _ | exact bH _)) only [↓sL,sK,Nat.reduceLT,Nat.reduceEqDiff,Nat.reduceAdd,reduceIte,reduceCtorEq,Nat.reduceBEq,Int.reduceEq,Int.reduceLT,Int.reduceLE,Int.reduceAdd,Int.reduceSub,hl,g0,pg,yj,↓da,f1,f2,f3',(show IntKind.i64.wrap 16=16 from wk 16 zO),(show IntKind.i64.wrap 40=40 from wk 40 zO),(show IntKind.i64.wrap 48=48 from wk 48 zO),(show IntKind.i64.wrap 56=56 from wk 56 zO),(show IntKind.i64.wrap 24=24 from wk 24 zO),(show IntKind.i64.wrap 8=8 from wk 8 zO)];exact ⟨⟨24+L,rfl,f4,f5,f6,f7⟩,zK⟩
 ·have he:w / 2^16=w / 65536:=zO;obtain ⟨L,f1,f2,f3,f4,f5,f6,f7⟩:=fin 16 (w / 65536) zO zO he zO;have f3':IntKind.i64.wrap (16+(L:Int))=((16+L:Nat):Int):=by rw [wrap_i64] <;> omega
  simp -dsimp (maxSteps:=1000000) (disch:=(first | omega | assumption | exact aQ _ | exact bf _ _ | exact bp | exact cz _ _ _ | exact bF _ _ | exact bo _ _ _ _ _ _ | exact cJ _ _ | exact bH _)) only [↓sL,sK,Nat.reduceLT,Nat.reduceEqDiff,Nat.reduceAdd,reduceIte,reduceCtorEq,Nat.reduceBEq,Int.reduceEq,Int.reduceLT,Int.reduceLE,Int.reduceAdd,Int.reduceSub,hl,g0,pg,yj,↓da,f1,f2,f3',(show IntKind.i64.wrap 16=16 from wk 16 zO),(show IntKind.i64.wrap 40=40 from wk 40 zO),(show IntKind.i64.wrap 48=48 from wk 48 zO),(show IntKind.i64.wrap 56=56 from wk 56 zO),(show IntKind.i64.wrap 24=24 from wk 24 zO),(show IntKind.i64.wrap 8=8 from wk 8 zO)];exact ⟨⟨16+L,rfl,f4,f5,f6,f7⟩,zK⟩
 ·have he:w / 2^8=w / 256:=zO;obtain ⟨L,f1,f2,f3,f4,f5,f6,f7⟩:=fin 8 (w / 256) zO zO he zO;have f3':IntKind.i64.wrap (8+(L:Int))=((8+L:Nat):Int):=by rw [wrap_i64] <;> omega
  simp -dsimp (maxSteps:=1000000) (disch:=(first | omega | assumption | exact aQ _ | exact bf _ _ | exact bp | exact cz _ _ _ | exact bF _ _ | exact bo _ _ _ _ _ _ | exact cJ _ _ | exact bH _)) only [↓sL,sK,Nat.reduceLT,Nat.reduceEqDiff,Nat.reduceAdd,reduceIte,reduceCtorEq,Nat.reduceBEq,Int.reduceEq,Int.reduceLT,Int.reduceLE,Int.reduceAdd,Int.reduceSub,hl,g0,pg,yj,↓da,f1,f2,f3',(show IntKind.i64.wrap 16=16 from wk 16 zO),(show IntKind.i64.wrap 40=40 from wk 40 zO),(show IntKind.i64.wrap 48=48 from wk 48 zO),(show IntKind.i64.wrap 56=56 from wk 56 zO),(show IntKind.i64.wrap 24=24 from wk 24 zO),(show IntKind.i64.wrap 8=8 from wk 8 zO)];exact ⟨⟨8+L,rfl,f4,f5,f6,f7⟩,zK⟩
 ·have he:w / 2^0=w:=zO;obtain ⟨L,f1,f2,f3,f4,f5,f6,f7⟩:=fin 0 (w) zO zO he zO;have f3':IntKind.i64.wrap (0+(L:Int))=((0+L:Nat):Int):=by rw [wrap_i64] <;> omega
  simp -dsimp (maxSteps:=1000000) (disch:=(first | omega | assumption | exact aQ _ | exact bf _ _ | exact bp | exact cz _ _ _ | exact bF _ _ | exact bo _ _ _ _ _ _ | exact cJ _ _ | exact bH _)) only [↓sL,sK,Nat.reduceLT,Nat.reduceEqDiff,Nat.reduceAdd,reduceIte,reduceCtorEq,Nat.reduceBEq,Int.reduceEq,Int.reduceLT,Int.reduceLE,Int.reduceAdd,Int.reduceSub,hl,g0,pg,yj,↓da,f1,f2,f3',(show IntKind.i64.wrap 16=16 from wk 16 zO),(show IntKind.i64.wrap 40=40 from wk 40 zO),(show IntKind.i64.wrap 48=48 from wk 48 zO),(show IntKind.i64.wrap 56=56 from wk 56 zO),(show IntKind.i64.wrap 24=24 from wk 24 zO),(show IntKind.i64.wrap 8=8 from wk 8 zO)];exact ⟨⟨0+L,by rw [VB],f4,f5,f6,f7⟩,zK⟩
def Bv (C:Code tab) (hw:Wf H) {w:Nat} (h0:0<w) (hB:w<18446744073709551616) :
  Ans tab (.fn dE [.int .u64 (w:Int)]) H fun v H'=>(∃ z:Nat,v=.int .i64 (z:Int)/\z<64/\w*2^z<18446744073709551616/\9223372036854775808<=w*2^z)/\Kp H H':=by
 refine cQ C.q116 zU fun T hl g0=>?_;refine zW (aB hl g0) ?_;refine AnsH.use (Ac C zF h0 hB) ?_;rintro v H2 ⟨⟨L,rfl,h1,h2,h3,h4⟩,hk2⟩;obtain ⟨k2,_,_⟩:=zT H zK hk2;have hwr:IntKind.i64.wrap (64-(L:Int))=((64-L:Nat):Int):=by rw [wrap_i64] <;> omega
 refine zW (aC hl g0 hwr) ?_;refine ⟨⟨64-L,rfl,zO,?_,?_⟩,zK⟩
 ·have:=Xb h3 (VL (n:=64-L) (show 0<2 by decide))
  rw [<- VZ] at this;have e:L+(64-L)=64:=zO;rw [e] at this;exact this
 ·have:=Ji (2^(64-L)) h4
  rw [<- VZ] at this;have e:L-1+(64-L)=63:=zO;rw [e] at this;exact this
end
def Same.set {D:List Nat} {T T1:Tm} {i:Nat} {v:AV} (h:Same D T T1) (hi:i∈D):Same D T (T1.set i v) :=
 ⟨by simp [h.len],fun s hs=>by rw [kS _ _ _ _ (fun e=>hs (by rw [<- e]; exact hi))]; exact h.at_ s hs⟩
def Q2 (a:Nat):bX .mul .int (.int .u64 (a:Int)) (.int .u64 4294967296)=some (.int .u64 ((a*4294967296 % 18446744073709551616:Nat):Int)):=vI a 4294967296
def Hn (a:Nat):bX .mul .int (.int .u64 4294967296) (.int .u64 (a:Int))=some (.int .u64 ((4294967296*a % 18446744073709551616:Nat):Int)):=vI 4294967296 a
def rP {a:Nat} (h:0<a) (ha:a<18446744073709551616):bX .sub .int (.int .u64 (a:Int)) (.int .u64 1)=some (.int .u64 ((a-1:Nat):Int)):=by
 rw [show (1:Int)=((1:Nat):Int) from rfl,vH a 1 zO];have e:(a+18446744073709551616-1) % 18446744073709551616=a-1:=zO;rw [e]
def sub64 {z:Nat} (h:z<=64):bX .sub .int (.int .u64 64) (.int .u64 (z:Int))=some (.int .u64 ((64-z:Nat):Int)):=by
 rw [show (64:Int)=((64:Nat):Int) from rfl,vH 64 z zO];have e:(64+18446744073709551616-z) % 18446744073709551616=64-z:=zO;rw [e]
def K3 {u n p R:Nat} (h:p+R=u*4294967296+n) (hR:R<18446744073709551616):((u*4294967296 % 18446744073709551616+n) % 18446744073709551616+18446744073709551616-p % 18446744073709551616) % 18446744073709551616=R:=zO
section
variable {Y a b u n q r:Nat}
def wE (hY:Y=a*4294967296+b) (hu:u<Y) (hn:n<4294967296) (e:q*a+r=u) (h:4294967296<=q\/4294967296*r+n<q*b):(u*4294967296+n) / Y<q:=by
 apply (Vr zO).2
 rcases h with h | h
 ·have:=Ji Y h
  omega
 ·have h1:q*Y=(q*a)*4294967296+q*b:=by rw [hY,VY,VJ]
  rw [h1]
  generalize q*a=p at *
  omega
def kU (hY:Y=a*4294967296+b) (h0:0<Y) (e:q*a+r=u) (h:q*b<=4294967296*r+n):q<=(u*4294967296+n) / Y:=by
 apply (YE h0).2
 have h1:q*Y=(q*a)*4294967296+q*b:=by rw [hY,VY,VJ]
 rw [h1]
 generalize q*a=p at *
 omega
def mm (hb:b<4294967296) (hq:q<=4294967296) (hr:4294967296<=r):q*b<=4294967296*r+n:=by
 have h1:q*b<=4294967296*4294967295:=Wq hq zO;omega
def wD (hY:Y=a*4294967296+b) (hb:b<4294967296) (ha:2147483648<=a) (hu:u<Y) (hn:n<4294967296):u / a<=4294967297/\(u*4294967296+n) / Y<=u / a:=by
 have h0:0<a:=zO;have e:=VX u a;have hr:u % a<a:=VO _ h0;rw [Vk] at e;refine ⟨?_,?_⟩
 ·apply XI
  apply (Vr h0).2
  omega
 ·apply XI
  apply (Vr zO).2
  have h1:(u / a+1)*Y=((u / a+1)*a)*4294967296+(u / a+1)*b:=by rw [hY,VY,VJ]
  have h2:(u / a+1)*a=u / a*a+a:=by rw [VW,XU]
  rw [Nat.succ_eq_add_one,h1,h2]
  generalize u / a*a=p at *
  omega
end
def kN {tab:Nat->Option aw} {rd:Bool} {id:Nat} {c:ACode} {T:Tm} {H:Heap} {Q:Ex->Tm->Heap->Prop} {L:Nat} (H0:Heap) (live:List Nat) (P:Nat->List AV->Heap->Prop) (R:List AV->Heap->Prop) (k0:Nat)
  (hl:T.length=L) (hp:iw c=true) (hk0:Kp H0 H) (h0:P k0 (live.map (ad T)) H)
  (hb:∀ k T1 H1,T1.length=L->Same (fI c) T T1->Kp H0 H1->P k (live.map (ad T1)) H1->WC tab rd c T1 H1 (PA id (fun T2 H2=>Kp H0 H2/\∃ k',k'<k/\P k' (live.map (ad T2)) H2) (fun x T2 H2=>x=.nrm/\Kp H0 H2/\R (live.map (ad T2)) H2)))
  (he:∀ T1 H1,T1.length=L->Same (fI c) T T1->Kp H0 H1->R (live.map (ad T1)) H1->Q .nrm T1 H1):WC tab rd (MJ id c) T H Q:=by
 unfold MJ;refine WB.wcLoop ?_;refine BM (fun k T1 H1=>T1.length=L/\Same (fI c) T T1/\Kp H0 H1/\P k (live.map (ad T1)) H1) ?_ k0 T H ⟨hl,Same.refl _ _,hk0,h0⟩;rintro k T1 H1 ⟨hl1,hs1,hk1,hP1⟩;refine ((hb k T1 H1 hl1 hs1 hk1 hP1).wb.same hp).mono ?_;rintro x T2 H2 ⟨hs2,hq⟩;have hsame:Same (fI c) T T2:=(hs1.trans hs2).wide fun s hs=>by simpa using hs
 cases x with
 | nrm =>
  obtain ⟨hk2,k',hk',hP2⟩:=hq;exact ⟨k',hk',hs2.len.trans hl1,hsame,hk2,hP2⟩
 | exit e =>
  simp only [PA] at hq;show sD id Q (.exit e) T2 H2;simp only [sD];by_cases h1:e=id
  ·rw [if_pos h1] at hq ⊢;exact he T2 H2 (hs2.len.trans hl1) hsame hq.2.1 hq.2.2
  ·rw [if_neg h1] at hq;exact absurd hq.1 (by simp)
 | goto l=>exact absurd hq.1 (by simp)
 | ret=>exact absurd hq.1 (by simp)
section
variable {tab:Nat->Option aw} {H:Heap}
set_option maxHeartbeats 1000000 in
def Ad (C:Code tab) (hw:Wf H) {hi lo y:Nat} (hy:hi<y) (hlo:lo<18446744073709551616) (hyB:y<18446744073709551616) :
  Ans tab (.fn iT [.int .u64 (hi:Int),.int .u64 (lo:Int),.int .u64 (y:Int)]) H fun v H'=>v=.tup [.int .u64 (((hi*B+lo) / y:Nat):Int),.int .u64 (((hi*B+lo) % y:Nat):Int)]/\Kp H H':=by
 refine lU C.q145 zU fun T hl g0 g1 g2=>?_;have e0:¬ (y:Int)=0:=zO;have e1:¬ y<=hi:=zO;refine zW (eW hl g0 g1 g2 e0 e1) ?_;refine iteH.split (fun h0=>?_) (fun h0=>?_)
 ·have h0':hi=0:=zO;subst h0';have q1:=OW (a:=lo) (b:=y) hlo zO;have q2:=QY (a:=lo) (b:=y) zO;rw [Yo,VB];refine zW (aV hl g0 g1 g2) ?_;refine aH ?_;refine zD (eW hl g0 g1 g2 q1 q2) ?_;exact zK
 ·refine zW (aV hl g0 g1 g2) ?_;refine AnsH.use (Bv C zF zO hyB) ?_;rintro v H2 ⟨⟨z,rfl,hz,hz1,hz2⟩,hk2⟩;obtain ⟨k2,_,w2⟩:=zT H zK hk2;have hcz:IntKind.u64.wrap (z:Int)=(z:Int):=SA zO zO;have p2z:0<2^z:=VL zU;obtain ⟨Y,hY⟩:∃ Y,y*2^z=Y:=⟨_,rfl⟩
  rw [hY] at hz1 hz2;have s1:bX .shl .int (.int .u64 (y:Int)) (.int .u64 (z:Int))=some (.int .u64 (Y:Int)):=by rw [qV zO,hY,VK hz1]
  have s2:=sub64 (z:=z) zO;have hhi:hi*2^z<18446744073709551616:=YV (Xb hy p2z) (by rw [hY]; exact hz1);have s3:bX .shl .int (.int .u64 (hi:Int)) (.int .u64 (z:Int))=some (.int .u64 ((hi*2^z:Nat):Int)):=by rw [qV zO,VK hhi]
  have s4:bX .shr .int (.int .u64 (lo:Int)) (.int .u64 ((64-z:Nat):Int))=some (.int .u64 ((lo / 2^(64-z):Nat):Int)):=Ae zO;have hB:B=2^(64-z)*2^z:=by
   rw [<- VZ]; have:64-z+z=64:=zO;rw [this]
  have hlz:lo / 2^(64-z)<2^z:=by
   apply (Vr (VL zU)).2
   rw [Vk,<- hB]; exact hlo
  obtain ⟨u,hu⟩:∃ u,hi*2^z+lo / 2^(64-z)=u:=⟨_,rfl⟩
  have s5:bX .or .int (.int .u64 ((hi*2^z:Nat):Int)) (.int .u64 ((lo / 2^(64-z):Nat):Int))=some (.int .u64 (u:Int)):=by
   rw [um hhi (VS (Xm _ _) hlo),Nat.or_comm,Vk hi,Ca hlz,<- hu,Vk hi,XF]
  obtain ⟨m,hm⟩:∃ m,lo*2^z % B=m:=⟨_,rfl⟩
  have hmB:m<18446744073709551616:=by rw [<- hm]; exact VO _ zU
  have s6:bX .shl .int (.int .u64 (lo:Int)) (.int .u64 (z:Int))=some (.int .u64 (m:Int)):=by rw [qV zO,hm]
  have hN:(hi*B+lo)*2^z=u*B+m:=by
   have h1:=VX (lo*2^z) B;rw [hm] at h1;have h2:lo*2^z / B=lo / 2^(64-z):=by rw [hB,YF _ _ p2z]
   rw [h2] at h1;rw [VW,<- h1,<- hu,VW,XX,Vk B];omega
  have huY:u<Y:=by
   have h1:(hi*B+lo)*2^z<y*B*2^z:=by
    refine Xb ?_ p2z
    have:(hi+1)*B<=y*B:=Ji B hy
    rw [VW] at this;unfold B at *; omega
   rw [hN,XX,hY] at h1;unfold B at h1; omega
  obtain ⟨a,ha⟩:∃ a,Y / 4294967296=a:=⟨_,rfl⟩
  obtain ⟨b,hb⟩:∃ b,Y % 4294967296=b:=⟨_,rfl⟩
  obtain ⟨n1,hn1⟩:∃ n1,m / 4294967296=n1:=⟨_,rfl⟩
  obtain ⟨n0,hn0⟩:∃ n0,m % 4294967296=n0:=⟨_,rfl⟩
  have hab:Y=a*4294967296+b:=zO;have hbl:b<4294967296:=zO;have hal:2147483648<=a:=zO;have hn1l:n1<4294967296:=zO;have hn0l:n0<4294967296:=zO;have hquo:∀ x:Nat,x<18446744073709551616->bX .quo .int (.int .u64 (x:Int)) (.int .u64 (a:Int))=some (.int .u64 ((x / a:Nat):Int)):=fun x hx=>OW hx zO;have hrest:∀ x:Nat,x<18446744073709551616->x / a*a % 18446744073709551616=x / a*a/\(x+18446744073709551616-x / a*a) % 18446744073709551616=x % a/\x / a*a+x % a=x:=by
   intro x hx;have h1:=VX x a;rw [Vk] at h1
   generalize x / a*a=p at *
   generalize x % a=t at *
   omega
  have qu:=hquo u zO;obtain ⟨ru1,ru2,ru3⟩:=hrest u zO;refine zW (BC hl g0 g1 g2 hcz s1 s2 s3 s4 s5 s6 ha hb hn1 hn0 qu ru1 ru2) ?_;obtain ⟨RF,RE⟩:=wD hab hbl hal huY hn1l;have ham:∀ x:Nat,x % a<4294967296:=fun x=>YV (VO _ zO) zO;refine kN H [15,16] (fun k vs H'=>∃ q r:Nat,vs=[.int .u64 (q:Int),.int .u64 (r:Int)]/\k=q/\q*a+r=u/\(u*4294967296+n1) / Y<=q/\q<=4294967297/\r<4294967296) (fun vs H'=>∃ r,vs=[.int .u64 (((u*4294967296+n1) / Y:Nat):Int),r]) (u / a) (by simp only [dj]; exact hl) rfl zK ⟨u / a,u % a,by exact zV (aV hl g0 g1 g2),rfl,ru3,RE,RF,ham u⟩ ?_ ?_
  ·rintro k T1 H1 hl1 hs1 hk1 ⟨q,r,hv,hkq,e,hge,hq,hr⟩;obtain rfl:=hkq.symm;have w1:=hk1.wf;have le_hk1:=hk1.le;simp only [wW,AO,zB,and_true] at hv;obtain ⟨vq,vr⟩:=hv;have u9:ad T1 9=.int .u64 (a:Int):=(hs1.at_ 9 zU).trans (zV (aV hl g0 g1 g2));have u10:ad T1 10=.int .u64 (b:Int):=(hs1.at_ 10 zU).trans (zV (aV hl g0 g1 g2));have un:ad T1 13=.int .u64 (n1:Int):=(hs1.at_ 13 zU).trans (zV (aV hl g0 g1 g2));have step:4294967296<=q\/4294967296*r+n1<q*b->0<q/\(q-1)*a+(r+a)=u/\(u*4294967296+n1) / Y<=q-1:=by
    intro h;have h1:=wE hab huY hn1l e h;have h2:0<q:=VS (II _) h1;refine ⟨h2,?_,Yd h1⟩;have h3:q*a=(q-1)*a+a:=by rw [<- WF]; congr 1; omega
    omega
   have w2:(r+a) % 18446744073709551616=r+a:=zO;by_cases c1:4294967296<=q
   ·have c1':(4294967296:Int)<=(q:Int):=zO;obtain ⟨p1,p2,p3⟩:=step (.inl c1);have z1:=rP (a:=q) p1 zO;refine zW (kj hl1 vq vr u9 u10 un c1' z1 w2) ?_;refine iteH.split (fun h=>?_) fun h=>?_
    ·refine zW (ki hl1 vq vr u9 u10 un z1 w2) ?_
     have:=kU (Y:=Y) hab zO p2 (mm hbl (q:=q-1) (n:=n1) zO zO)
     exact ⟨zK,_,by rw [Xl this p3]⟩
    ·refine zW (ki hl1 vq vr u9 u10 un z1 w2) ?_;exact ⟨zK,q-1,zO,q-1,r+a,rfl,rfl,p2,p3,zO,zO⟩
   ·have c1':¬ (4294967296:Int)<=(q:Int):=zO;have m1:q*b % 18446744073709551616=q*b:=by
     apply VK
     have:q*b<=4294967295*4294967295:=Wq zO zO
     omega
    have m2:4294967296*r % 18446744073709551616=4294967296*r:=zO;have m3:(4294967296*r+n1) % 18446744073709551616=4294967296*r+n1:=zO;by_cases c2:4294967296*r+n1<q*b
    ·obtain ⟨p1,p2,p3⟩:=step (.inr c2);have z1:=rP (a:=q) p1 zO;refine zW (Ik hl1 vq vr u9 u10 un c1' @c2 m1 m2 m3 @Hn z1 w2) ?_;refine iteH.split (fun h=>?_) fun h=>?_
     ·refine zW (ki hl1 vq vr u9 u10 un z1 w2) ?_
      have:=kU (Y:=Y) hab zO p2 (mm hbl (q:=q-1) (n:=n1) zO zO)
      exact ⟨zK,_,by rw [Xl this p3]⟩
     ·refine zW (ki hl1 vq vr u9 u10 un z1 w2) ?_;exact ⟨zK,q-1,zO,q-1,r+a,rfl,rfl,p2,p3,zO,zO⟩
    ·refine zW (Al hl1 vq vr u9 u10 un c1' @c2 m1 m2 m3 @Hn) ?_
     have:=kU (Y:=Y) hab zO e (Xp c2)
     exact ⟨zK,_,by rw [Xl this hge]⟩
  ·rintro T1 H1 hl1 hs1 hk1 ⟨r,hv⟩;have w1:=hk1.wf;have le_hk1:=hk1.le;simp only [wW,AO,zB,and_true] at hv;obtain ⟨v15,-⟩:=hv;obtain ⟨q1,hq1⟩:∃ q1,(u*4294967296+n1) / Y=q1:=⟨_,rfl⟩
   obtain ⟨u1,hu1⟩:∃ u1,(u*4294967296+n1) % Y=u1:=⟨_,rfl⟩
   have d1:=VX (u*4294967296+n1) Y;rw [hq1,hu1,Vk Y] at d1;have hu1Y:u1<Y:=by rw [<- hu1]; exact VO _ zO
   rw [hq1] at v15;have t2:ad T1 2=.int .u64 (Y:Int):=(hs1.at_ 2 zU).trans (zV (aV hl g0 g1 g2));have t8:ad T1 8=.int .u64 (z:Int):=(hs1.at_ 8 zU).trans (zV (aV hl g0 g1 g2));have t9:ad T1 9=.int .u64 (a:Int):=(hs1.at_ 9 zU).trans (zV (aV hl g0 g1 g2));have t10:ad T1 10=.int .u64 (b:Int):=(hs1.at_ 10 zU).trans (zV (aV hl g0 g1 g2));have t11:ad T1 11=.int .u64 (u:Int):=(hs1.at_ 11 zU).trans (zV (aV hl g0 g1 g2));have t13:ad T1 13=.int .u64 (n1:Int):=(hs1.at_ 13 zU).trans (zV (aV hl g0 g1 g2));have t14:ad T1 14=.int .u64 (n0:Int):=(hs1.at_ 14 zU).trans (zV (aV hl g0 g1 g2));have f1:((u*4294967296 % 18446744073709551616+n1) % 18446744073709551616+18446744073709551616-q1*Y % 18446744073709551616) % 18446744073709551616=u1:=K3 d1 zO;have qu1:=hquo u1 zO;obtain ⟨rv1,rv2,rv3⟩:=hrest u1 zO;obtain ⟨st3,st4⟩:=wD hab hbl hal hu1Y hn0l;refine zW (Ik hl1 v15 t2 t8 t9 t10 t11 t13 t14 @Q2 f1 qu1 rv1 rv2) ?_;refine kN H [18,16] (fun k vs H'=>∃ q r:Nat,vs=[.int .u64 (q:Int),.int .u64 (r:Int)]/\k=q/\q*a+r=u1/\(u1*4294967296+n0) / Y<=q/\q<=4294967297/\r<4294967296) (fun vs H'=>∃ r,vs=[.int .u64 (((u1*4294967296+n0) / Y:Nat):Int),r]) (u1 / a) (by simp only [dj]; exact hl1) rfl zK ⟨u1 / a,u1 % a,by exact zV hl1,rfl,rv3,st4,st3,ham u1⟩ ?_ ?_
   ·rintro k T2 H3 hl2 hs2 hk3 ⟨q,r,hv,hkq,e,hge,hq,hr⟩;obtain rfl:=hkq.symm;have w1:=hk3.wf;have le_hk3:=hk3.le;simp only [wW,AO,zB,and_true] at hv;obtain ⟨vq,vr⟩:=hv;have u9:ad T2 9=.int .u64 (a:Int):=(hs2.at_ 9 zU).trans (zV (aV hl1 t9 t10 t14));have u10:ad T2 10=.int .u64 (b:Int):=(hs2.at_ 10 zU).trans (zV (aV hl1 t9 t10 t14));have un:ad T2 14=.int .u64 (n0:Int):=(hs2.at_ 14 zU).trans (zV (aV hl1 t9 t10 t14));have step:4294967296<=q\/4294967296*r+n0<q*b->0<q/\(q-1)*a+(r+a)=u1/\(u1*4294967296+n0) / Y<=q-1:=by
     intro h;have h1:=wE hab hu1Y hn0l e h;have h2:0<q:=VS (II _) h1;refine ⟨h2,?_,Yd h1⟩;have h3:q*a=(q-1)*a+a:=by rw [<- WF]; congr 1; omega
     omega
    have w2:(r+a) % 18446744073709551616=r+a:=zO;by_cases c1:4294967296<=q
    ·have c1':(4294967296:Int)<=(q:Int):=zO;obtain ⟨p1,p2,p3⟩:=step (.inl c1);have z1:=rP (a:=q) p1 zO;refine zW (kj hl2 vq vr u9 u10 un c1' z1 w2) ?_;refine iteH.split (fun h=>?_) fun h=>?_
     ·refine zW (ki hl2 vq vr u9 u10 un z1 w2) ?_
      have:=kU (Y:=Y) hab zO p2 (mm hbl (q:=q-1) (n:=n0) zO zO)
      exact ⟨zK,_,by rw [Xl this p3]⟩
     ·refine zW (ki hl2 vq vr u9 u10 un z1 w2) ?_;exact ⟨zK,q-1,zO,q-1,r+a,rfl,rfl,p2,p3,zO,zO⟩
    ·have c1':¬ (4294967296:Int)<=(q:Int):=zO;have m1:q*b % 18446744073709551616=q*b:=by
      apply VK
      have:q*b<=4294967295*4294967295:=Wq zO zO
      omega
     have m2:4294967296*r % 18446744073709551616=4294967296*r:=zO;have m3:(4294967296*r+n0) % 18446744073709551616=4294967296*r+n0:=zO;by_cases c2:4294967296*r+n0<q*b
     ·obtain ⟨p1,p2,p3⟩:=step (.inr c2);have z1:=rP (a:=q) p1 zO;refine zW (Ik hl2 vq vr u9 u10 un c1' @c2 m1 m2 m3 @Hn z1 w2) ?_;refine iteH.split (fun h=>?_) fun h=>?_
      ·refine zW (ki hl2 vq vr u9 u10 un z1 w2) ?_
       have:=kU (Y:=Y) hab zO p2 (mm hbl (q:=q-1) (n:=n0) zO zO)
       exact ⟨zK,_,by rw [Xl this p3]⟩
      ·refine zW (ki hl2 vq vr u9 u10 un z1 w2) ?_;exact ⟨zK,q-1,zO,q-1,r+a,rfl,rfl,p2,p3,zO,zO⟩
     ·refine zW (Al hl2 vq vr u9 u10 un c1' @c2 m1 m2 m3 @Hn) ?_
      have:=kU (Y:=Y) hab zO e (Xp c2)
      exact ⟨zK,_,by rw [Xl this hge]⟩
   ·rintro T2 H3 hl2 hs2 hk3 ⟨r,hv⟩;have w3:=hk3.wf;have le_hk3:=hk3.le;simp only [wW,AO,zB,and_true] at hv;obtain ⟨v18,-⟩:=hv;obtain ⟨q0,hq0⟩:∃ q0,(u1*4294967296+n0) / Y=q0:=⟨_,rfl⟩
    obtain ⟨r0,hr0⟩:∃ r0,(u1*4294967296+n0) % Y=r0:=⟨_,rfl⟩
    have d2:=VX (u1*4294967296+n0) Y;rw [hq0,hr0,Vk Y] at d2;have hr0Y:r0<Y:=by rw [<- hr0]; exact VO _ zO
    rw [hq0] at v18;have x2:ad T2 2=.int .u64 (Y:Int):=(hs2.at_ 2 zU).trans (zV (aB hl1 t2));have x8:ad T2 8=.int .u64 (z:Int):=(hs2.at_ 8 zU).trans (zV (aB hl1 t8));have x14:ad T2 14=.int .u64 (n0:Int):=(hs2.at_ 14 zU).trans (zV (aB hl1 t14));have x15:ad T2 15=.int .u64 (q1:Int):=(hs2.at_ 15 zU).trans (zV (aB hl1 v15));have x17:ad T2 17=.int .u64 (u1:Int):=(hs2.at_ 17 zU).trans (zV hl1);have hq1l:q1<4294967296:=by
     rw [<- hq1]
     apply (Vr zO).2
     omega
    have hq0l:q0<4294967296:=by
     rw [<- hq0]
     apply (Vr zO).2
     omega
    have f2:(q1*4294967296 % 18446744073709551616+q0) % 18446744073709551616=q1*4294967296+q0:=zO;have f3:((u1*4294967296 % 18446744073709551616+n0) % 18446744073709551616+18446744073709551616-q0*Y % 18446744073709551616) % 18446744073709551616=r0:=K3 d2 zO;have hsh:bX .shr .int (.int .u64 (r0:Int)) (.int .u64 (z:Int))=some (.int .u64 ((r0 / 2^z:Nat):Int)):=Ae zO;refine zW (rc hl2 v18 x2 x8 x14 x15 x17 @Q2 f2 f3 hsh) ?_;have hall:(hi*B+lo)*2^z=(q1*4294967296+q0)*Y+r0:=by
     rw [hN,VW,XX];have e5:m=n1*4294967296+n0:=zO
     generalize q1*Y=p at *
     generalize q0*Y=p' at *
     unfold B;omega
    have g1':(hi*B+lo) / y=q1*4294967296+q0:=by
     rw [<- YF _ _ p2z,hall,hY];rw [XF,YG _ _ zO,WX hr0Y,VB]
    have g2':r0 / 2^z=(hi*B+lo) % y:=by
     have h1:(hi*B+lo)*2^z % (y*2^z)=r0:=by
      rw [hall,hY,XF,Nat.add_mul_mod_self_right,VK hr0Y]
     rw [ZE] at h1;rw [<- h1,Z1 _ p2z]
    rw [g1',g2'];exact ⟨rfl,zK⟩
end
def xU:∀ {out:List Nat} {M:Nat},(∀ j,j<out.length->out.getD j 0=M / B^j % B)->M<B^out.length->val out=M
 | [],M,_,h=>by simp at h; simp [val,h]
 | a :: t,M,hd,h=>by
  have h0:=hd 0 (by simp);simp only [Xx,XY,ZK] at h0;have ht:val t=M / B:=by
   refine xU (fun j hj=>?_) ?_
   ·have:=hd (j+1) (by simpa using hj)
    rw [WG] at this;rw [this,V5,VF,Vk B]
   ·apply (Vr zU).2
    rw [<- VF]; simpa using h
  simp only [val,ht,h0];exact YR M B
def F6 {out:List Nat} (h:∀ j,j<out.length->out.getD j 0<B):Lim out:=fun a ha=>by
 obtain ⟨j,hj,rfl⟩:=V6 ha
 have:=h j hj
 rw [dH,pD hj] at this;exact this
def iI (n j:Nat):(ag n).getD j 0=n / B^j % B:=by
 have h1:(ag n).drop j=ag (n / B^j):=lD j n;have h2:(ag n).getD j 0=((ag n).drop j).getD 0 0:=by
  rw [dH,dH,Vn,Wy]
 rw [h2,h1];by_cases h0:n / B^j=0
 ·rw [h0,cP]; rfl
 ·rw [jL h0]; rfl
def E0 {a c m M:Nat} (ha:a<c) (hM:0<M):(a+c*m) % (c*M)=a+c*(m % M):=by
 have h1:m=m % M+M*(m / M):=(YR m M).symm;have h2:a+c*m=a+c*(m % M)+c*M*(m / M):=by
  conv=>lhs; rw [h1]
  rw [VY,VJ]; omega
 have h3:a+c*(m % M)<c*M:=by
  have h4:c*(m % M+1)<=c*M:=Xg c (VO _ hM);rw [VY] at h4; omega
 rw [h2,XA,VK h3]
def zf {Y j r:Nat} (hr:r<64):Y / B^j % B / 2^r+2^(64-r)*(Y / B^(j+1) % B % 2^r)=Y / 2^r / B^j % B:=by
 have hB:B=2^r*2^(64-r):=by
  rw [<- VZ]; have:r+(64-r)=64:=zO;rw [this]
 have p2:0<2^r:=VL zU;have p3:0<2^(64-r):=VL zU;have e1:Y / 2^r / B^j=Y / B^j / 2^r:=by rw [V5,V5,Vk]
 have e2:Y / B^(j+1)=Y / B^j / B:=by rw [V5,VF]
 rw [e1,e2]
 generalize Y / B^j=Z
 have hz:Z=Z % B+B*(Z / B):=(YR Z B).symm;have hl:Z % B / 2^r<2^(64-r):=by
  apply (Vr p2).2
  rw [Vk,<- hB]; exact VO _ zU
 have h1:Z / 2^r=Z % B / 2^r+2^(64-r)*(Z / B):=by
  conv=>lhs; rw [hz]
  rw [hB,VJ,ZL _ _ p2,<- hB]
 have h2:Z / B % B % 2^r=Z / B % 2^r:=Nat.mod_mod_of_dvd _ ⟨2^(64-r),hB⟩;rw [h1,h2]
 have:=E0 (a:=Z % B / 2^r) (c:=2^(64-r)) (m:=Z / B) (M:=2^r) hl p2
 rw [Vk (2^(64-r)) (2^r),<- hB] at this;exact this.symm
def GZ {x r:Nat} (hr:r<=64):x*2^(64-r) % B=2^(64-r)*(x % 2^r):=by
 have hB:B=2^(64-r)*2^r:=by
  rw [<- VZ]; have:64-r+r=64:=zO;rw [this]
 rw [hB,Vk x,ZJ]
def pR {l:List Nat} {i v:Nat} (h:i<l.length):(l.set i v).getD i 0=v:=by
 rw [dH,Xf,if_pos rfl,if_pos h]; rfl
section
variable {tab:Nat->Option aw} {H:Heap} {s:AV}
def LP (C:Code tab) (hw:Wf H) {a:AV} {x k:Nat} (ha:cp H a x) (hx:Sm x) (hk:k<=65536) :
  Ans tab (.fn r8 [a,.int .i64 (k:Int)]) H fun v H'=>∃ o,v=.tup [o,.int .i64 0]/\cp H' o (x / 2^k)/\Kp H H':=by
 refine bz C.q122 zU fun T hl g0 g1=>?_;refine zW (aC hl g0 g1) ?_;refine AnsH.eq (AS C zF (ha.mono (zG H)) hx hk) fun H2 hk2=>?_;obtain ⟨k2,_,w2⟩:=zT H zK hk2;have n2:=k2.le;unfold Sm at hx;have hq:=LC (k:=k) (c:=64) zO zO;have hr:=LB (k:=k) (c:=64) zO;obtain ⟨q,eq⟩:∃ q,q=k / 64:=⟨_,rfl⟩
 obtain ⟨r,er⟩:∃ r,r=k % 64:=⟨_,rfl⟩
 rw [<- eq] at hq;rw [<- er] at hr;have hq':bX .quo .int (.int .i64 (k:Int)) (.int .i64 64)=some (.int .i64 (q:Int)):=hq;have hr':bX .rem .int (.int .i64 (k:Int)) (.int .i64 64)=some (.int .i64 (r:Int)):=hr;have hr64:r<64:=zO;obtain ⟨n,hn⟩:∃ n,min q (ag x).length=n:=⟨_,rfl⟩
 have hmin:DJ (.int .i64 (q:Int)) (.int .i64 ((ag x).length:Int))=some (.int .i64 (n:Int)):=by rw [tj]; congr 2; split <;> omega
 obtain ⟨s',e0,hs'⟩:=SlV.lo (ha.mono k2.sub) .i64 n zO;have e':bD 1 a (some (.int .i64 (n:Int))) none none=some s':=e0;obtain ⟨l,hl0⟩:∃ l,(ag x).drop n=l:=⟨_,rfl⟩
 rw [hl0] at hs';have hlim:Lim l:=by rw [<- hl0]; exact (bu x).drop n
 have hln:l.length<=(ag x).length:=by rw [<- hl0,Wc]; omega
 refine zW (gf hl g0 g1 hq' ha.lenV hmin e') ?_;refine AnsH.use (uC C zF (hs'.mono (Sub.bump H2 _)) zO) ?_;rintro v H3 ⟨hv,hk3,hown⟩;obtain ⟨k3,_,w3⟩:=zT H zK hk3;obtain ⟨N,hN⟩:∃ N,l.length=N:=⟨_,rfl⟩
 have hvl:lenV v=some (.int .i64 (N:Int)):=by have:=hv.lenV; rwa [hN] at this
 rw [hN] at hown;obtain ⟨b,hb⟩:∃ b,0<N->v=.own b 0 N N 1 false/\H3.get b=some (.cells (aK l) ae true)/\H.next<=b:=by
  by_cases h0:0<N
  ·obtain ⟨b,h1,h2,h3⟩:=hown h0
   have:H.next<=H2.next:=n2
   exact ⟨b,fun _=>⟨h1,h2,by have:H2.next<=b:=Oc (Vz _ _) h3; omega⟩⟩
  ·exact ⟨0,fun h=>absurd h h0⟩
 obtain ⟨Y,hY⟩:∃ Y,val l=Y:=⟨_,rfl⟩
 have hdig:∀ j,l.getD j 0=Y / B^j % B:=by
  intro j;have h1:l=ag Y:=by
   rw [<- hl0,lD] at hY ⊢;rw [bI] at hY; rw [hY]
  rw [h1,iI]
 have hYB:Y<B^N:=by rw [<- hY,<- hN]; exact uy hlim
 refine zW (aV hl g0 g1 hvl) ?_;refine am H [] (fun i vs H'=>∃ out,(0<N->H'.get b=some (.cells (aK out) ae true))/\(N=0->Lb H' v [])/\out.length=N/\(∀ j,j<i->out.getD j 0=Y / 2^r / B^j % B)/\(∀ j,i<=j->out.getD j 0=Y / B^j % B)) (a:=0) (N:=N) rfl (by refine zW (aC hl g0 g1) ?_; rfl) (zV (aC hl g0 g1)) (II _) zO (by simp only [dj,hl]; rfl) rfl (fun _ _ H' m h=>by
   obtain ⟨out,h1,h2,h3⟩:=h;exact ⟨out,h1,fun h0=>(h2 h0).mono (Sub.bump H' m),h3⟩) zK
  ⟨l,fun h0=>by exact zV ((hb h0).2.1),fun h0=>by
   have:l=[]:=Vp zO
   subst this; exact hv.mono (Sub.bump H3 _),hN,fun j hj=>by omega,fun j _=>hdig j⟩ ?_ ?_
 ·rintro i T1 H1 _ hi hl1 hi1 hs1 hk1 ⟨out,b0,-,hlen,hlow,hhigh⟩;simp only [dj,hl] at hl1;have w1:=hk1.wf;have le_hk1:=hk1.le;obtain ⟨hv',-,hbH⟩:=hb zO;have b6:=b0 zO;have lt6:=hk1.wf _ _ b6;have t7:ad T1 7=.own b 0 N N 1 false:=(hs1.at_ 7 zU).trans (zV (aV hl g0 g1 hv'));have t1:ad T1 1=.int .i64 (k:Int):=(hs1.at_ 1 zU).trans (zV (aV hl g0 g1 g1));have hsh:∀ y:Nat,bX .shr .int (.int .u64 (y:Int)) (.int .i64 (r:Int))=some (.int .u64 ((y / 2^r:Nat):Int)):=fun y=>qU y r hr64;have hwi1:IntKind.i64.wrap ((i:Int)+1)=((i+1:Nat):Int):=by rw [wrap_i64] <;> omega
  have hoi:=hhigh i (wT _);refine zW (ki hl1 t7 t1 hi1 @b6 hr' hsh hwi1) ?_;refine iteH.split (fun h=>?_) fun h=>?_
  ·have hoi1:=hhigh (i+1) zO;have hw64:IntKind.i64.wrap (64-(r:Int))=((64-r:Nat):Int):=by rw [wrap_i64] <;> omega
   have gi:(out.set i (out.getD i 0 / 2^r)).getD i 0=out.getD i 0 / 2^r:=pR zO;have gi1:(out.set i (out.getD i 0 / 2^r)).getD (i+1) 0=out.getD (i+1) 0:=bj zO;have hoB:out.getD i 0<18446744073709551616:=by rw [hoi]; exact VO _ zU
   have hs2:=qV (x:=out.getD (i+1) 0) (r:=64-r) zO (k:=.i64);have hv1:out.getD i 0 / 2^r<2^(64-r):=by
    apply (Vr (VL zU)).2
    rw [<- VZ]
    have:64-r+r=64:=zO
    rw [this]; exact hoB
   have hor:=um (a:=out.getD i 0 / 2^r) (b:=out.getD (i+1) 0*2^(64-r) % B) (VS (Xm _ _) hoB) (VO _ zU);rw [GZ zO,Ca hv1] at hor;rw [GZ zO] at hs2;have ti:cA (aK (out.set i (out.getD i 0 / 2^r))) i none=some (.int .u64 ((out.getD i 0 / 2^r:Nat):Int)):=by rw [BS zS,gi]
   have ti1:cA (aK (out.set i (out.getD i 0 / 2^r))) (i+1) none=some (.int .u64 ((out.getD (i+1) 0:Nat):Int)):=by rw [BS zS,gi1]
   refine aH ?_;refine zD (Al hl1 t7 t1 hi1 @b6 hr' hw64 hwi1 ti ti1 hs2 hor) ?_;refine ⟨zK,_,fun _=>rfl,fun h0=>by omega,by simp [hlen],fun j hj=>?_,fun j hj=>?_⟩
   ·by_cases hji:j=i
    ·subst hji;rw [pR zS,hoi,hoi1];exact zf hr64
    ·rw [bj zO,bj zO];exact hlow j zO
   ·rw [bj zO,bj zO];exact hhigh j zO
  ·refine zW hl1 ?_;refine ⟨zK,_,fun _=>rfl,fun h0=>by omega,by simp [hlen],fun j hj=>?_,fun j hj=>?_⟩
   ·by_cases hji:j=i
    ·subst hji;rw [pR zO,hoi,<- zf hr64];have h0:Y / B^(j+1)=0:=WX (by
      have:j+1=N:=zO
      rw [this]; exact hYB)
     rw [h0]; simp
    ·rw [bj zO];exact hlow j zO
   ·rw [bj zO];exact hhigh j zO
 ·rintro T1 H1 hl1 hs1 hk1 ⟨out,b0,hz,hlen,hlow,-⟩;simp only [dj,hl] at hl1;have w1:=hk1.wf;have le_hk1:=hk1.le;have t7:ad T1 7=v:=(hs1.at_ 7 zU).trans (zV (aC hl g0 g1));have hlim':Lim out:=F6 fun j hj=>by rw [hlow j zO]; exact VO _ zU
  have hval:val out=Y / 2^r:=xU (fun j hj=>hlow j zO) (by rw [hlen]; exact VS (Xm _ _) hYB);have ho:Lb H1 v out:=by
   by_cases h0:0<N
   ·obtain ⟨hv',-,hbH⟩:=hb h0;rw [hv'];exact (tp (H0:=H) (ex:=false) (b0 h0) hbH hlen).sl
   ·have:out=[]:=Vp zO
    subst this; exact hz zO
  refine zW (aB hl1 t7) ?_;refine AnsH.use (Tu C zF (ho.mono (Sub.bump H1 _)) zO) ?_;rintro v2 H4 ⟨h4,hk4⟩;obtain ⟨k4,_,_⟩:=zT H zK hk4;have e:val out=x / 2^k:=by
   have h1:Y=x / B^n:=by rw [<- hY,<- hl0,lD,bI]
   have h2:x / B^n=x / B^q:=by
    by_cases hqn:q<=(ag x).length
    ·rw [show n=q from by rw [<- hn,V7 hqn]]
    ·have h3:=ii x;have hlq:(ag x).length<=q:=WW (Nat.lt_of_not_le hqn);rw [show n=(ag x).length from by rw [<- hn,YI hlq],WX h3];exact (WX (Vi h3 (VD zU hlq))).symm
   have h3:k=64*q+r:=zO;rw [hval,h1,h2,V5];congr 1;rw [h3,VZ,Ym]
  rw [eM hlim',e] at h4;refine zW hl1 ?_;exact ⟨v2,rfl,h4,zK⟩
end
def Is {X w y:Nat}:X*B+y=X / w*B*w+(X % w*B+y):=by
 have h:=VX X w
 generalize X / w=q at *
 generalize X % w=r at *
 subst h
 grind
section
variable {tab:Nat->Option aw} {H:Heap} {s:AV}
def rh (C:Code tab) (hw:Wf H) {sa:AV} (ha:One sa) :
  Ans tab (.fn cO [sa]) H fun v H'=>v=.fn (.func aY) [] [.ptr H.next 0]/\H'.get H.next=some (.cells [sa] aG true)/\H.next+1<=H'.next/\Kp H H':=by
 refine cQ C.q144 zU fun T hl g0=>?_;refine zW (aB hl g0) ?_;exact ⟨zO,zK⟩
def CO (C:Code tab) {H0:Heap} {lb ba:Nat} {a:List Nat} {sa:AV} (J:Nat->Heap->Prop) (hla:a.length<4611686018427387904)
  (hk:Kp H0 H) (h0:J 0 H) (hup:∀ k H m,J k H->J k (H.up m)) (hA:∀ k H,J k H->H.get ba=some (.cells [sa] aG true)/\Lb H sa a)
  (hr:∀ i k H,i+k+1=a.length->Kp H0 H->J k H->Ans tab (.round lb [.int .i64 (i:Int),.int .u64 (a.getD i 0:Nat)]) H fun v H'=>v=.bool true/\Kp H0 H'/\J (k+1) H') :
  Ans tab (.ent aY [.loopv lb,.ptr ba 0]) H fun _ H'=>Kp H0 H'/\J a.length H':=by
 refine Rm C.q169 zU fun T hl g0 g1=>?_;obtain ⟨q1,q2⟩:=hA _ _ h0;have hwr:IntKind.i64.wrap ((a.length:Int)-1)=(a.length:Int)-1:=by rw [wrap_i64] <;> omega
 refine zW (eW hl g0 g1 q1 q2.lenV hwr) ?_;refine bC H0 [3] (fun m vs H'=>∃ k,k<=a.length/\m=a.length-k/\vs=[.int .i64 ((a.length:Int)-1-(k:Int))]/\J k H') a.length (by simp only [dj]; exact hl) rfl zK ⟨0,II _,rfl,by exact zV (cr hl g0 g1 @ME @Int.sub_zero),hup _ _ _ h0⟩ ?_;rintro m T1 H1 hl1 hs1 hk1 ⟨k,hka,rfl,hv,hJ⟩;simp only [wW,AO,zB,and_true] at hv;have w1:=hk1.wf;have le_hk1:=hk1.le;obtain ⟨q1,q2⟩:=hA _ _ hJ;by_cases hkl:k=a.length
 ·have hneg:¬ (0:Int)<=(a.length:Int)-1-(k:Int):=zO;subst hkl;refine zW (aC hl1 hv hneg) ?_;exact ⟨zK,hup _ _ _ hJ⟩
 ·obtain ⟨i,hi⟩:∃ i,i+k+1=a.length:=⟨a.length-k-1,zO⟩
  have hz:(a.length:Int)-1-(k:Int)=(i:Int):=zO;rw [hz] at hv;have hpos:(0:Int)<=(i:Int):=zO;have t0:ad T1 0=.loopv lb:=(hs1.at_ 0 zU).trans (zV (aB hl g0));have t1:ad T1 1=.ptr ba 0:=(hs1.at_ 1 zU).trans (zV (aV hl g0 g1 g1));have x1:=SlV.idx1 q2 .i64 i zO;have d1:=eZ q2 (i:=i) zO;have hround:∀ m,Ans tab (.round lb [.int .i64 (i:Int),.int .u64 (a.getD i 0:Nat)]) (H1.up m) fun v H'=>v=.bool true/\Kp H0 H'/\J (k+1) H':=fun m=>hr i k _ hi (hk1.up m) (hup _ _ _ hJ);have hwi:IntKind.i64.wrap ((i:Int)-1)=(a.length:Int)-1-((k+1:Nat):Int):=by rw [wrap_i64] <;> omega
  refine zW (ki hl1 hv hpos t0 t1 q1 x1 d1) ?_;refine AnsH.eq (hround _) fun H2 ⟨k2,j2⟩=>?_;refine zW (aC hl1 hv hwi) ?_;exact ⟨zK,a.length-(k+1),zO,k+1,zO,rfl,rfl,hup _ _ _ j2⟩
def Er (C:Code tab) (hw:Wf H) {a b:AV} {x y:Nat} (ha:cp H a x) (hb:cp H b y) (hx:Sm x) (hy:Sm y) (h0:0<y) :
  Ans tab (.fn mY [a,b]) H fun v H'=>v=.int .i64 0/\Kp H H':=by
 refine bz C.q113 zU fun T hl g0 g1=>?_;refine zW (aC hl g0 g1) ?_;refine AnsH.eq (gN C zF (ha.mono (Sub.bump H _)) hx) fun H2 hk2=>?_;obtain ⟨k2,_,w2⟩:=zT H zK hk2;refine zW (aC hl g0 g1) ?_;refine AnsH.eq (gN C zF (hb.mono k2.sub) hy) fun H3 hk3=>?_;obtain ⟨k3,_,w3⟩:=zT H zK hk3;have hlen:=bZ y;have hne:¬ ((ag y).length:Int)=0:=zO;refine zW (cr hl g0 g1 hb.lenV hne) ?_;exact zK
set_option maxHeartbeats 1000000 in
def Ms (C:Code tab) (hw:Wf H) {a:AV} {x w:Nat} (ha:cp H a x) (hx:Sm x) (h0:0<w) (hwB:w<18446744073709551616) :
  Ans tab (.fn sj [a,.int .u64 (w:Int)]) H fun v H'=>∃ q,v=.tup [q,.int .u64 ((x % w:Nat):Int),.int .i64 0]/\cp H' q (x / w)/\Kp H H':=by
 refine bz C.q114 zU fun T hl g0 g1=>?_;have hwne:¬ (w:Int)=0:=zO;unfold Sm at hx;obtain ⟨N,hN⟩:∃ N,(ag x).length=N:=⟨_,rfl⟩
 have hmk:∀ H' id,Ho H' id ae 1 8 [.int .u64 0] (.int .i64 (N:Int)) (.int .i64 (N:Int))=some (.own id 0 N N 1 true,H'.put id (.cells (aK (List.replicate N 0)) ae true)):=fun H' id =>
  (iW H' id ae 1 8 [.int .u64 0] .i64 .i64 N zO zO rfl).trans (by rw [lH])
 have hal:lenV a=some (.int .i64 (N:Int)):=by have:=ha.lenV; rwa [hN] at this
 refine zW (aC hl g0 g1) ?_;refine AnsH.eq (gN C zF (ha.mono (zG H)) hx) fun H2 hk2=>?_;obtain ⟨k2,_,w2⟩:=zT H zK hk2;have n2:=hk2.le;have p0:H2.get H.next=some (.cells [.int .u64 (w:Int)] ae true):=hk2.get (cR)
 have p1:H2.get (H.next+1)=some (.cells [.nilSl] aG true):=hk2.get (cR);have p2:H2.get (H.next+2)=some (.cells [.int .u64 0] ae true):=hk2.get (cR);have l0:=k2.wf _ _ p0;have l1:=k2.wf _ _ p1;have l2:=k2.wf _ _ p2;refine zW (kj hl g0 g1 p0 p1 p2 hwne hal hmk) ?_;refine AnsH.use (rh C zF ha.one) ?_;rintro v H3 ⟨rfl,b1,hn3,hk3⟩;simp only [next_put,cZ] at b1 hn3 ⊢;obtain ⟨k3,_,w3⟩:=zT H zK hk3;have q0:H3.get H.next=some (.cells [.int .u64 (w:Int)] ae true):=hk3.get (zV p0)
 have q1:H3.get (H.next+1)=some (.cells [.own (H2.next+5) 0 N N 1 true] aG true):=hk3.get (cR);have q2:H3.get (H.next+2)=some (.cells [.int .u64 0] ae true):=hk3.get (zV p2);have qb:H3.get (H2.next+5)=some (.cells (aK (List.replicate N 0)) ae true):=hk3.get (cR);have hz0:∀ j,(List.replicate N 0).getD j 0=0:=fun j=>by simp [dH,V9]; split <;> rfl
 have hxN:x / B^N=0:=WX (by rw [<- hN]; exact ii x);refine zW (aC hl g0 g1) ?_;refine rT (fi:=aY) (args:=[.loopv H3.next,.ptr (H2.next+9) 0]) (by refine zW (aC hl g0 g1) ?_; rfl) ?_
 generalize he:Ent.loop _ _ _ _ _ _=e0
 have k4:Kp H ((H3.up 1).put H3.next e0):=zK;have le_k4:=k4.le;refine (CO C (H0:=H) (a:=ag x) (sa:=a) (fun k H'=>H'.get H3.next=some e0/\H'.get H.next=some (.cells [.int .u64 (w:Int)] ae true)/\H'.get (H.next+1)=some (.cells [.own (H2.next+5) 0 N N 1 true] aG true) /\
   (∃ (out:List Nat) (r:Nat),H'.get (H2.next+5)=some (.cells (aK out) ae true)/\out.length=N/\Lim out/\H'.get (H.next+2)=some (.cells [.int .u64 (r:Int)] ae true)/\r=x / B^(N-k) % w/\val out=x / B^(N-k) / w*B^(N-k)/\∀ j,j<N-k->out.getD j 0=0) /\
   H'.get (H2.next+9)=some (.cells [a] aG true)/\Lb H' a (ag x)) zO k4
  ⟨by exact cR,by exact zV q0,by exact zV q1,⟨List.replicate N 0,0,by exact zV qb,by simp,Lim.replicate N,by refine zW q2 ?_; rfl,by rw [Zv,hxN,Nat.zero_mod],by rw [Zv,hxN,Nat.zero_div,Yo,fK],fun j _=>hz0 j⟩,by exact zV b1,ha.mono k4.sub⟩ (fun _ _ _ h=>h) (fun k H' h=>⟨h.2.2.2.2.1,h.2.2.2.2.2⟩) ?_).mono ?_
 ·rintro i k H1 hik hk1 ⟨j0,j1,j2,⟨out,r,j3,hlen,hlim,j4,hr,hval,hz⟩,j5,-⟩;rw [<- he] at j0;have lt0:=hk1.wf _ _ j0;have lt1:=hk1.wf _ _ j1;have lt2:=hk1.wf _ _ j2;have lt3:=hk1.wf _ _ j3;have lt4:=hk1.wf _ _ j4;have hrw:r<w:=by rw [hr]; exact VO _ h0
  have hNk:N-k=i+1:=zO;have hNk1:N-(k+1)=i:=zO;have hiN:i<N:=zO;rw [hNk] at hr hval hz;obtain ⟨y,hy⟩:∃ y,(ag x).getD i 0=y:=⟨_,rfl⟩
  have hyB:y<18446744073709551616:=by rw [<- hy]; exact (bu x).at i
  rw [hy];have w1:=hk1.wf;have le_hk1:=hk1.le;have hyd:y=x / B^i % B:=by rw [<- hy,iI]
  refine sE j0 rfl ?_;refine zW (aV hl g0 g1 j0) ?_
  generalize he2:Ent.loop _ _ _ _ LoopState.busy none=e2
  refine aH ?_;refine zD (ki hl g0 g1 j0 j1 j2 j3 j4) ?_;refine AnsH.use (Ad C zF hrw hyB hwB) ?_;rintro v H4 ⟨rfl,hk4'⟩;have k5:Kp H H4:=Kp.trans zK hk4';have le_k5:=k5.le;have w4:=k5.wf;have r0:H4.get H3.next=some e2:=hk4'.get (cR)
  have r1:H4.get H.next=some (.cells [.int .u64 (w:Int)] ae true):=hk4'.get (zV j1)
  have r2:H4.get (H.next+1)=some (.cells [.own (H2.next+5) 0 N N 1 true] aG true):=hk4'.get (zV j2);have r3:H4.get (H2.next+5)=some (.cells (aK out) ae true):=hk4'.get (zV j3);have r4:H4.get (H.next+2)=some (.cells [.int .u64 (r:Int)] ae true):=hk4'.get (zV j4);have r5:H4.get (H2.next+9)=some (.cells [a] aG true):=hk4'.get (zV j5);have lu0:=k5.wf _ _ r0;have lu1:=k5.wf _ _ r1;have lu2:=k5.wf _ _ r2;have lu3:=k5.wf _ _ r3;have lu4:=k5.wf _ _ r4;refine zD (xK hl g0 g1 j0 j1 j2 j3 j4 r0 r1 r2 r3 r4) ?_;rw [yu];have hX:x / B^i=x / B^(i+1)*B+y:=by
   rw [hyd,VF,<- V5,Vk];exact (VX _ _).symm
  have hX2:x / B^i=x / B^(i+1) / w*B*w+(r*B+y):=by
   rw [hX,hr]; exact Is
  have hq':(r*B+y) / w<B:=by
   apply (Vr h0).2
   have:(r+1)*B<=w*B:=Ji B hrw
   rw [VW] at this;rw [Vk B]; unfold B at *; omega
  have hvs:=iK (l:=out) (k:=i) (v:=(r*B+y) / w) zO;rw [hz i zO,XJ,Wy,hval] at hvs;have k6:Kp H (((H4.put (H2.next+5) (.cells (aK (out.set i ((r*B+y) / w))) ae true)).put (H.next+2) (.cells [.int .u64 (((r*B+y) % w:Nat):Int)] ae true)).put H3.next e0):=zK;have le_k6:=k6.le;refine zW (kj he2 he r0 r1 r2 r3 r4 r5 hNk1) ?_;refine ⟨zK,⟨_,_,rfl,by simp [hlen],jT hlim hq',rfl,?_,?_,fun j hj=>?_⟩,ha.mono (zG H)⟩
  ·rw [hX2,Nat.mul_add_mod_self_right]
  ·rw [hvs,hX2,XF (x / B^(i+1) / w*B*w),YG _ _ h0,VF]
   grind
  ·rw [bj zO];exact hz j zO
 ·rintro _ H' ⟨hk',j0,j1,j2,⟨out,r,j3,hlen,hlim,j4,hr,hval,-⟩,-⟩;have hlt:=hk'.wf _ _ j0;have lt1:=hk'.wf _ _ j1;have lt2:=hk'.wf _ _ j2;have lt3:=hk'.wf _ _ j3;have lt4:=hk'.wf _ _ j4;have w5:=hk'.wf;have le_hk':=hk'.le;refine .inl ⟨j0,?_⟩;refine zW (aV hl g0 g1 hN) ?_;rw [hN,YT,XY,ZK] at hr hval;rw [Wo] at hval;refine aH ?_;refine zD (gf hl g0 g1 j1 j2 j3 j4) ?_;have n2':=k2.le;have b6:((H'.up 6).kill H3.next).get (H2.next+5)=some (.cells (aK out) ae true):=by exact zV j3
  have w6:Wf (H'.up 6):=w5.bump 6;have k6:Kp H (H'.up 6):=hk'.up 6;have le_k6:=k6.le;refine AnsH.eq (oG C zF (rw':=true) hlen b6 zO) fun H5 hk5=>?_;obtain ⟨k5,_,w5⟩:=zT H zK hk5;have r1:H5.get (H.next+1)=some (.cells [.own (H2.next+5) 0 N N 1 true] aG true):=hk5.get (zV j2);have r2:H5.get (H.next+2)=some (.cells [.int .u64 (r:Int)] ae true):=hk5.get (zV j4);have r3:H5.get (H2.next+5)=some (.cells (aK out) ae true):=hk5.get b6;have lu1:=k5.wf _ _ r1;have lu2:=k5.wf _ _ r2;obtain ⟨E,hE⟩:=qD out;rw [eM hlim,hval] at hE ⊢;refine zD (kj hl g0 g1 j1 j2 j3 j4 r1 r2) ?_;rw [hr];refine ⟨_,rfl,B9 (E:=E) (rw':=true) ?_,zK⟩;rw [<- hE];exact zV r3
end
def AG {tab:Nat->Option aw} {rd:Bool} {a rest:ACode} {l:Nat} {T:Tm} {H:Heap} {Q:Ex->Tm->Heap->Prop} (h:WC tab rd a T H (Lq Q)):WC tab rd (.scopeL a l rest) T H Q:=by
 obtain ⟨x,T',H',⟨N,g⟩,hq⟩:=eC a T H _ h.run;refine ⟨show ∃ x T' H',M4 tab rd (.scopeL a l rest) T H x T' H'/\Q x T' H' from ⟨x,T',H',⟨N,fun m n hm hn=>?_⟩,?_⟩⟩
 ·simp only [aI,g m n hm hn];cases x <;> first | rfl | exact hq.elim
 ·cases x <;> first | exact hq | exact hq.elim
def ng:∀ {l:List Nat} (_:Lim l) (j:Nat),l.getD j 0=val l / B^j % B
 | [],_,j=>by simp [val]
 | a :: t,h,0=>by
  have:=h.head
  simp only [Xx,val,XY,ZK,XA];exact (VK this).symm
 | a :: t,h,j+1=>by
  have ih:=ng h.tail j;have ha:=h.head;rw [WG,ih];simp only [val];rw [VF,Vk (B^j),<- V5,ZL _ _ zU,WX ha,VB]
structure Dv (H:Heap) (d rb bb M n:Nat) (x1:Bool) (R L:List Nat):Prop where
 hd:H.get d=some (.cells [.own rb 0 M M 1 x1,.own bb 0 n n 1 true] Sy true)
 hr:H.get rb=some (.cells (aK R) ae true)
 hb:H.get bb=some (.cells (aK L) ae true)
 lr:R.length=M
 ll:n<=L.length
 ne:rb≠bb
 limR:Lim R
 limL:Lim L
def FrX (b:Nat) (H H':Heap):Prop:=∀ c e,c≠b->H.get c=some e->H'.get c=some e
def FrX.trans {b:Nat} {H H' H'':Heap} (h:FrX b H H') (h':FrX b H' H''):FrX b H H'':=fun c e hc he=>h' c e hc (h c e hc he)
def Dv.up {H:Heap} {d rb bb M n:Nat} {x1:Bool} {R L:List Nat} (h:Dv H d rb bb M n x1 R L) (k:Nat):Dv (H.up k) d rb bb M n x1 R L:=⟨h.hd,h.hr,h.hb,h.lr,h.ll,h.ne,h.limR,h.limL⟩
def Dv.kp {H H':Heap} {d rb bb M n:Nat} {x1:Bool} {R L:List Nat} (h:Dv H d rb bb M n x1 R L) (hk:Kp H H'):Dv H' d rb bb M n x1 R L:=⟨hk.get h.hd,hk.get h.hr,hk.get h.hb,h.lr,h.ll,h.ne,h.limR,h.limL⟩
def Dv.put {H:Heap} {d rb bb M n b:Nat} {x1:Bool} {R L:List Nat} {e:Ent} (h:Dv H d rb bb M n x1 R L) (h1:d≠b) (h2:rb≠b) (h3:bb≠b):Dv (H.put b e) d rb bb M n x1 R L:=⟨by rw [az h1]; exact h.hd,by rw [az h2]; exact h.hr,by rw [az h3]; exact h.hb,h.lr,h.ll,h.ne,h.limR,h.limL⟩
def Dv.ndr {H:Heap} {d rb bb M n:Nat} {x1:Bool} {R L:List Nat} (h:Dv H d rb bb M n x1 R L):d≠rb:=fun e=>by
 have h1:=h.hd;rw [e,h.hr] at h1
 injection h1 with h1; injection h1 with _ h2; exact absurd h2 zU
section
variable {b V W P f sec th hi un q r N:Nat}
def Gc (hV:(hi*b+un)*P<=V) (hW:W<(N*b+th+1)*P) (e:q*hi+r=N) (h:r*b+th<q*un) (hV0:0<V):0<q/\W / V<=q-1:=by
 have h1:W<q*V:=by
  refine Vi hW ?_;refine Oc (Ji P ?_) (Oc (XE (VJ q (hi*b+un) P)) (Xg q hV));rw [<- e,VY,VW,<- VJ];omega
 have h2:W / V<q:=(Vr hV0).2 h1;exact ⟨VS (II _) h2,Yd h2⟩
def Gd (hV:(hi*b+un)*P<=V) (hW:W<(N*b+th+1)*P) (ht:th<b) (hf:0<hi) (hV0:0<V):W / V<=N / hi:=by
 apply XI
 apply (Vr hV0).2
 have h0:=VX N hi;have h1:=VO N hf;have h2:N+1<=(N / hi+1)*hi:=by
  rw [VW,XU,Vk (N / hi)]
  generalize hi*(N / hi)=t at *
  omega
 refine Vi hW ?_;refine Oc (Ji P ?_) (Oc (XE (VJ (N / hi+1) (hi*b+un) P)) (Xg _ hV));have h3:=Ji b h2;rw [VY,<- VJ];have h4:(N+1)*b=N*b+b:=by rw [VW,XU]
 refine Oc ?_ (Oc h3 (Vz _ _));rw [h4];exact ZS ht _
def PP (hs:sec<b) (hf:f<hi) (h0:0<b):(f*b+sec) / hi<b:=by
 apply (Vr zO).2
 have h1:(f+1)*b<=hi*b:=Ji b hf;rw [VW,XU] at h1;rw [Vk b]; omega
end
structure GuessH (V W P f sec th hi un:Nat):Prop where
 hV:(hi*B+un)*P<=V
 hW:W<((f*B+sec)*B+th+1)*P
 hWV:W<V*B
 hV0:0<V
structure GuessI (V W f sec hi q r:Nat):Prop where
 e:q*hi+r=f*B+sec
 ge:W / V<=q
section
variable {V W P f sec th hi un q r ov lw:Nat}
def GuessI.step (G:GuessH V W P f sec th hi un) (I:GuessI V W f sec hi q r) (h:r*B+th<q*un):0<q/\GuessI V W f sec hi (q-1) (r+hi):=by
 obtain ⟨h1,h2⟩:=Gc G.hV G.hW I.e h G.hV0;refine ⟨h1,?_,h2⟩;have h3:q*hi=(q-1)*hi+hi:=by
  obtain ⟨t,rfl⟩:∃ t,q=t+1:=⟨q-1,zO⟩
  rw [WF,W7]
 have:=I.e
 rw [h3] at this;rw [<- this,V2,XF hi]
def GuessI.init (G:GuessH V W P f sec th hi un) (ht:th<B) (hs:sec<B) (hf:f<hi):GuessI V W f sec hi ((f*B+sec) / hi) ((f*B+sec) % hi)/\(f*B+sec) / hi<B:=by
 refine ⟨⟨?_,Gd G.hV G.hW ht (VS (II _) hf) G.hV0⟩,PP hs hf zU⟩;rw [Vk]; exact VX _ _
def GuessH.max (G:GuessH V W P f sec th hi un):W / V<=18446744073709551615:=by
 have h:=G.hWV;rw [Vk] at h;exact XI ((Vr G.hV0).2 h)
def NX (e1:q*un / B=ov) (ht:th<B) (c:r<ov):r*B+th<q*un:=by
 have h:=VX (q*un) B;rw [e1] at h;rw [<- h];have h2:(r+1)*B<=ov*B:=Ji B c;rw [VW,XU,Vk ov] at h2;refine Vi (YS ht _) (Oc h2 (Vz _ _))
def NY (e1:q*un / B=ov) (e2:q*un % B=lw) (c:th<lw):ov*B+th<q*un:=by
 have h:=VX (q*un) B;rw [e1,e2] at h;rw [<- h,Vk];exact YS c _
end
section
variable {tab:Nat->Option aw} {H:Heap}
set_option maxHeartbeats 1000000 in
def JQ (C:Code tab) (hw:Wf H) {d rb bb M m at':Nat} {x1:Bool} {R L:List Nat} (D:Dv H d rb bb M (m+2) x1 R L) (hat:at'+(m+2)<M) (hM:M<2199023255552)
  {V W P:Nat} (G:GuessH V W P (R.getD (at'+(m+2)) 0) (R.getD (at'+(m+1)) 0) (R.getD (at'+m) 0) (L.getD (m+1) 0) (L.getD m 0)) :
  Ans tab (.fn Sz [.ptr d 0,.int .i64 (at':Int)]) H fun v H'=>∃ q:Nat,v=.int .u64 (q:Int)/\q<B/\W / V<=q/\Kp H H':=by
 obtain ⟨hd,hr,hb,lr,ll,ne,limR,limL⟩:=D;refine bz C.q118 zU fun T hl g0 g1=>?_;obtain ⟨hi,ehi⟩:∃ hi,L.getD (m+1) 0=hi:=⟨_,rfl⟩
 obtain ⟨un,eun⟩:∃ un,L.getD m 0=un:=⟨_,rfl⟩
 obtain ⟨f,ef⟩:∃ f,R.getD (at'+(m+2)) 0=f:=⟨_,rfl⟩
 obtain ⟨sec,es⟩:∃ sec,R.getD (at'+(m+1)) 0=sec:=⟨_,rfl⟩
 obtain ⟨th,et⟩:∃ th,R.getD (at'+m) 0=th:=⟨_,rfl⟩
 have hiB:hi<B:=ehi ▸ limL.at _;have unB:un<B:=eun ▸ limL.at _;have fB:f<B:=ef ▸ limR.at _;have seB:sec<B:=es ▸ limR.at _;have thB:th<B:=et ▸ limR.at _;rw [ehi,eun,ef,es,et] at G;have hw1:IntKind.i64.wrap ((at':Int)+((m+2:Nat):Int))=((at'+(m+2):Nat):Int):=by rw [wrap_i64] <;> omega
 have hw2:IntKind.i64.wrap (((at'+(m+2):Nat):Int)-1)=((at'+(m+1):Nat):Int):=by rw [wrap_i64] <;> omega
 have hw3:IntKind.i64.wrap (((at'+(m+2):Nat):Int)-2)=((at'+m:Nat):Int):=by rw [wrap_i64] <;> omega
 have hw4:IntKind.i64.wrap (((m+2:Nat):Int)-1)=((m+1:Nat):Int):=by rw [wrap_i64] <;> omega
 have hw5:IntKind.i64.wrap (((m+2:Nat):Int)-2)=(m:Int):=by rw [wrap_i64] <;> omega
 refine zW (aC hl g0 g1) ?_;refine AG ?_;refine zW (aV hl g0 g1 hd) ?_;refine aH ?_;refine zD (Al hl g0 g1 hd hr hb hw1 hw2 hw4 ef es ehi) ?_;refine iteH.split (fun h1=>?_) fun h1=>?_
 ·simp only [iF,jG,iD,kP,Xk,W8];refine zW (aC hl g0 g1) ?_;exact ⟨18446744073709551615,by simp,by decide,G.max,zK⟩
 ·simp only [iF,jG,iD,kP,Xk,W8];refine zW (aC hl g0 g1) ?_;refine AnsH.use (Ad C zF zO seB hiB) ?_;rintro v H2 ⟨rfl,hk2⟩;obtain ⟨k2,_,w2⟩:=zT H zK hk2;have d2:=k2.get hd;have r2:=k2.get hr;have b2:=k2.get hb;refine zW (aC hl g0 g1) ?_;refine aH ?_;refine zD (rc hl g0 g1 d2 r2 b2 hw1 hw3 hw5 eun et) ?_;refine AG ?_;refine zW (aC hl g0 g1) ?_;obtain ⟨I0,hq0⟩:=GuessI.init G thB seB zO;have hr0:(f*B+sec) % hi<B:=YV (VO _ zO) hiB;obtain ⟨q0,eq0⟩:∃ q0,(f*B+sec) / hi=q0:=⟨_,rfl⟩
  obtain ⟨r0,er0⟩:∃ r0,(f*B+sec) % hi=r0:=⟨_,rfl⟩
  rw [eq0] at I0 hq0;rw [er0] at I0 hr0;simp only [eq0,er0];clear eq0 er0;refine bC H [9,10] (fun k vs H'=>∃ q r:Nat,vs=[.int .u64 (q:Int),.int .u64 (r:Int)]/\k=q/\GuessI V W f sec hi q r/\r<B/\q<B) q0 (by simp only [dj]; exact hl) rfl zK ⟨_,_,by exact zV (aC hl g0 g1),rfl,I0,hr0,hq0⟩ ?_;rintro k T1 H1 hl1 hs1 hk1 ⟨q,r,hv,hkq,I,hrB,hqB⟩;obtain rfl:=hkq.symm;simp only [wW,AO,zB,and_true] at hv;obtain ⟨v9,v10⟩:=hv;have w1:=hk1.wf;have le_hk1:=hk1.le;have u8:ad T1 8=.int .u64 (hi:Int):=(hs1.at_ 8 zU).trans (zV (aC hl g0 g1));have u11:ad T1 11=.int .u64 (un:Int):=(hs1.at_ 11 zU).trans (zV (aC hl g0 g1));have u12:ad T1 12=.int .u64 (th:Int):=(hs1.at_ 12 zU).trans (zV (aC hl g0 g1));refine zW (eW hl1 v9 v10 u8 u11 u12) ?_;refine AnsH.use (oK C zF hqB unB) ?_;rintro v H3 ⟨rfl,hk3⟩;obtain ⟨k3,_,w3⟩:=zT H zK hk3;obtain ⟨ov,eov⟩:∃ ov,q*un / B=ov:=⟨_,rfl⟩
  obtain ⟨lw,elw⟩:∃ lw,q*un % B=lw:=⟨_,rfl⟩
  rw [eov,elw];have s1:r<ov->0<q/\GuessI V W f sec hi (q-1) (r+hi):=fun c=>I.step G (NX eov thB c);have s2:ov=r->th<lw->0<q/\GuessI V W f sec hi (q-1) (r+hi):=fun c c'=>I.step G (by rw [<- c]; exact NY eov elw c');clear eov elw;by_cases c1:ov<r
  ·refine zW (gf hl1 v9 v10 u8 u11 u12 @c1) ?_;exact ⟨q,rfl,hqB,I.ge,zK⟩
  ·by_cases c2:ov=r
   ·by_cases c3:lw<=th
    ·subst c2;refine zW (ki hl1 v9 v10 u8 u11 u12 @c1 c3) ?_;exact ⟨q,rfl,hqB,I.ge,zK⟩
    ·obtain ⟨p1,I2⟩:=s2 c2 zO;clear s1 s2;subst c2;have z1:=rP (a:=q) p1 hqB;refine zW (kj hl1 v9 v10 u8 u11 u12 @c1 c3 z1) ?_;refine AnsH.eq (iJ C _ ov hi 0 hrB hiB zO) fun H4 e4=>?_;subst e4;have ef1:(fg ov hi 0).1=(ov+hi) % B:=by simp [fg]
     have ef2:(fg ov hi 0).2=(ov+hi) / B:=by simp [fg]
     refine zW (kj hl1 v9 v10 u8 u11 u12 z1 ef1 ef2) ?_;refine iteH.split (fun h=>?_) fun h=>?_
     ·have hlt':ov+hi<B:=by unfold B at *; omega
      refine zW (kj hl1 v9 v10 u8 u11 u12 z1 ef1 ef2) ?_;exact ⟨zK,q-1,zO,q-1,ov+hi,by rw [VK hlt'],rfl,I2,hlt',zO⟩
     ·refine zW (kj hl1 v9 v10 u8 u11 u12 z1 ef1 ef2) ?_;exact ⟨q-1,rfl,zO,I2.ge,zK⟩
   ·obtain ⟨p1,I2⟩:=s1 zO;have z1:=rP (a:=q) p1 hqB;refine zW (kj hl1 v9 v10 u8 u11 u12 @c1 @c2 z1) ?_;refine AnsH.eq (iJ C _ r hi 0 hrB hiB zO) fun H4 e4=>?_;subst e4;have ef1:(fg r hi 0).1=(r+hi) % B:=by simp [fg]
    have ef2:(fg r hi 0).2=(r+hi) / B:=by simp [fg]
    refine zW (kj hl1 v9 v10 u8 u11 u12 z1 ef1 ef2) ?_;refine iteH.split (fun h=>?_) fun h=>?_
    ·have hlt':r+hi<B:=by unfold B at *; omega
     refine zW (kj hl1 v9 v10 u8 u11 u12 z1 ef1 ef2) ?_;exact ⟨zK,q-1,zO,q-1,r+hi,by rw [VK hlt'],rfl,I2,hlt',zO⟩
    ·refine zW (kj hl1 v9 v10 u8 u11 u12 z1 ef1 ef2) ?_;exact ⟨q-1,rfl,zO,I2.ge,zK⟩
end
def FrX.kp {b k:Nat} {H H1 H2:Heap} (h:FrX b H H1) (hk:Kp (H1.up k) H2):FrX b H H2:=fun c e hc he=>hk.get (h c e hc he)
def FrX.put {b:Nat} {e':Ent} {H H1:Heap} (h:FrX b H H1):FrX b H (H1.put b e'):=fun c e hc he=>by rw [az hc]; exact h c e hc he
def FrX.up {b:Nat} {H H1:Heap} (h:FrX b H H1) (k:Nat):FrX b H (H1.up k):=h
def FrX.up0 (b k:Nat) (H:Heap):FrX b H (H.up k):=fun _ _ _ h=>h
def MF {p c:Nat} (hp:p<=340282366920938463426481119284349108225) (hc:c<18446744073709551616) :
  (p / 18446744073709551616+(p % 18446744073709551616+c) / 18446744073709551616) % 18446744073709551616=(p+c) / 18446744073709551616/\(p % 18446744073709551616+c) % 18446744073709551616=(p+c) % 18446744073709551616/\(p+c) / 18446744073709551616<18446744073709551616:=zO
def NW {x y:Nat} (hx:x<B) (hy:y<B):x*y<=340282366920938463426481119284349108225 :=
 Oc (Wq (XI hx) (XI hy)) zU
def HG {o w l:Nat} (ho:o<18446744073709551616) (hw:w<18446744073709551616) (hl:l<=1):o+(iZ o w l).2*18446744073709551616=(iZ o w l).1+w+l/\(iZ o w l).1<18446744073709551616:=by
 unfold iZ B;simp only;split <;> omega
def pa:∀ {l:List Nat} {m:Nat},Lim l->(∀ i,m<=i->l.getD i 0=0)->val l<B^m
 | [],m,_,_=>by simp only [val]; exact VL zU
 | a :: t,0,h,hz=>by
  have h0:=hz 0 (wT _);simp only [Xx] at h0
  have:=pa (l:=t) (m:=0) h.tail fun i _=>by have:=hz (i+1) (II _); rwa [WG] at this
  simp only [XY] at this;have h1:val t=0:=Nat.lt_one_iff.1 this;simp only [val,h0,h1,XY];decide
 | a :: t,m+1,h,hz=>by
  have ih:=pa (l:=t) (m:=m) h.tail fun i hi=>by have:=hz (i+1) zO; rwa [WG] at this
  have ha:=h.head;simp only [val,VF];have h2:(val t+1)*B<=B^m*B:=Ji B ih;rw [VW,XU,Vk] at h2;refine Vi ?_ h2;rw [XF];exact YS ha _
structure TakeI (a q X j:Nat) (L out:List Nat) (c l:Nat):Prop where
 e:val out+B^a*(q*val (L.take j))=X+B^(a+j)*(c+l)
def Lf {P A X vo vo' b c l c' l' o o' w qy:Nat} (e:vo+A=X+P*(c+l)) (hv:vo'+P*o=vo+P*o') (h1:qy+c=c'*b+w) (h2:o+l'*b=o'+w+l):vo'+(A+P*qy)=X+P*(c'*b+l'*b):=by
 have e4:=congrArg (P * ·) h1;have e5:=congrArg (P * ·) h2;simp only [VY] at e e4 e5 ⊢
 generalize P*qy=x1 at *
 generalize P*(c'*b)=x2 at *
 generalize P*(l'*b)=x3 at *
 generalize P*o=x4 at *
 generalize P*o'=x5 at *
 generalize P*w=x6 at *
 generalize P*l=x7 at *
 generalize P*c=x8 at *
 omega
def Lg {P A X vo vo' b c l l' o o':Nat} (e:vo+A=X+P*(c+l)) (hv:vo'+P*o=vo+P*o') (h2:o+l'*b=o'+c+l):vo'+A=X+P*(l'*b):=by
 have e5:=congrArg (P * ·) h2;simp only [VY] at e e5
 generalize P*(l'*b)=x3 at *
 generalize P*o=x4 at *
 generalize P*o'=x5 at *
 generalize P*l=x7 at *
 generalize P*c=x8 at *
 omega
def TakeI.step {a q X j c l c' l' o' w:Nat} {L out:List Nat} (I:TakeI a q X j L out c l) (hj:a+j<out.length) (h1:q*L.getD j 0+c=c'*B+w) (h2:out.getD (a+j) 0+l'*B=o'+w+l):TakeI a q X (j+1) L (out.set (a+j) o') c' l':=by
 refine ⟨?_⟩;have hv:=iK (l:=out) (k:=a+j) (v:=o') hj
 have:=Lf I.e hv h1 h2
 rw [cY,VY,VY];have e2:B^a*(q*(B^j*L.getD j 0))=B^(a+j)*(q*L.getD j 0):=by rw [VZ,Yu q,VJ]
 have e3:B^(a+(j+1))*(c'+l')=B^(a+j)*(c'*B+l'*B):=by rw [<- V2,VF,VJ,Vk B,VW]
 rw [e2,e3];exact this
section
variable {tab:Nat->Option aw} {H:Heap}
set_option maxHeartbeats 1000000 in
def Mq (C:Code tab) {H0:Heap} (hk:Kp H0 H) {d rb bb M n a q X:Nat} {x1:Bool} {R L:List Nat} (D:Dv H d rb bb M n x1 R L) (hrb:H0.next<=rb) (hat:a+n<M) (hM:M<2199023255552) (hq:q<18446744073709551616) (hX:val R=X) (hz:∀ i,a+n<i->R.getD i 0=0) :
  Ans tab (.fn SD [.ptr d 0,.int .u64 (q:Int),.int .i64 (a:Int)]) H fun v H'=>∃ (R':List Nat) (l:Nat),v=.bool (decide (0<l))/\l<=1/\Dv H' d rb bb M n x1 R' L/\val R'+B^a*(q*val (L.take n))=X+B^(a+n+1)*l/\(∀ i,a+n<i->R'.getD i 0=0)/\Kp H0 H'/\FrX rb H H':=by
 have ndr:=D.ndr;obtain ⟨hd,hr,hb,lr,ll,ne,limR,limL⟩:=D;have w0:=hk.wf;have le_hk:=hk.le;have hI0:TakeI a q X 0 L R 0 0:=⟨by simp [val,hX]⟩
 clear hX;refine lU C.q119 zU fun T hl g0 g1 g2=>?_;refine zW (cr hl g0 g1 g2 hd) ?_;refine am H0 [7,8] (fun j vs H'=>∃ (out:List Nat) (c l:Nat),vs=[.int .u64 (c:Int),.int .u64 (l:Int)]/\H'.get rb=some (.cells (aK out) ae true)/\out.length=M/\Lim out/\c<18446744073709551616/\l<=1/\TakeI a q X j L out c l/\(∀ i,a+n<i->out.getD i 0=0)/\FrX rb H H') (a:=0) (N:=n) rfl (by refine zW (aV hl g0 g1 g2) ?_; rfl) (zV (aV hl g0 g1 g2)) (II _) zO (by simp only [dj,hl]; rfl) rfl (fun _ _ _ _ h=>h) zK
  ⟨R,0,0,by refine zW (aV hl g0 g1 g2) ?_; rfl,by exact zV hr,lr,limR,by decide,II _,hI0,hz,FrX.up0 _ _ _⟩ ?_ ?_
 ·rintro j T1 H1 _ hj hl1 hi1 hs1 hk1 ⟨out,c,l,hv,b0,hlen,hlim,hc,hl',I,hz1,hfr⟩;simp only [dj,hl] at hl1;simp only [wW,AO,zB,and_true] at hv;obtain ⟨v7,v8⟩:=hv;have w1:=hk1.wf;have le_hk1:=hk1.le;have d1:H1.get d=some (.cells [.own rb 0 M M 1 x1,.own bb 0 n n 1 true] Sy true):=hfr _ _ ndr hd;have b1:H1.get bb=some (.cells (aK L) ae true):=hfr _ _ (Ne.symm ne) hb;have t0:ad T1 0=.ptr d 0:=(hs1.at_ 0 zU).trans (zV (aB hl g0));have t1:ad T1 1=.int .u64 (q:Int):=(hs1.at_ 1 zU).trans (zV (cr hl g0 g1 g2 g1));have t2:ad T1 2=.int .i64 (a:Int):=(hs1.at_ 2 zU).trans (zV (cr hl g0 g1 g2 g2));have t18:ad T1 18=.own bb 0 n n 1 true:=(hs1.at_ 18 zU).trans (zV (aV hl g0 g1 g2));obtain ⟨y,hy⟩:∃ y,L.getD j 0=y:=⟨_,rfl⟩
  have hyB:y<18446744073709551616:=by rw [<- hy]; exact limL.at j
  obtain ⟨o,ho⟩:∃ o,out.getD (a+j) 0=o:=⟨_,rfl⟩
  have hoB:o<18446744073709551616:=by rw [<- ho]; exact hlim.at _
  refine zW (rM hl1 v7 v8 t0 t1 t2 t18 hi1 b1 hy) ?_;refine AnsH.use (oK C zF hq hyB) ?_;rintro v H2 ⟨rfl,hk2⟩;obtain ⟨k2,_,w2⟩:=zT H0 zK hk2;have hfr2:FrX rb H H2:=hfr.kp hk2;have d2:=hfr2 _ _ ndr hd;have r2:H2.get rb=some (.cells (aK out) ae true):=hk2.get b0;have lt2:=k2.wf _ _ r2;obtain ⟨q1,q2,q3⟩:=MF (NW hq hyB) hc;have hlw:(q*y+c) % 18446744073709551616<18446744073709551616:=VO _ zU;have hdm:=VX (q*y+c) 18446744073709551616;obtain ⟨c',ec⟩:∃ c',(q*y+c) / 18446744073709551616=c':=⟨_,rfl⟩
  obtain ⟨lw,ew⟩:∃ lw,(q*y+c) % 18446744073709551616=lw:=⟨_,rfl⟩
  rw [ec] at q1 q3 hdm;rw [ew] at q2 hlw hdm;obtain ⟨f1,f2⟩:=HG (o:=o) (w:=lw) (l:=l) hoB hlw hl';have hl2:=tE o lw l;obtain ⟨o',eo'⟩:∃ o',(iZ o lw l).1=o':=⟨_,rfl⟩
  obtain ⟨l2,el2⟩:∃ l2,(iZ o lw l).2=l2:=⟨_,rfl⟩
  rw [eo',el2] at f1;rw [eo'] at f2;rw [el2] at hl2;have I2:TakeI a q X (j+1) L (out.set (a+j) o') c' l2:=I.step zO (w:=lw) (by rw [hy,<- hdm,Vk]) (by rw [ho]; exact f1);clear hdm f1;have hwj:IntKind.i64.wrap ((a:Int)+(j:Int))=((a+j:Nat):Int):=by rw [wrap_i64] <;> omega
  refine zW (ki hl1 v7 v8 t0 t1 t2 t18 hi1) ?_;refine AnsH.eq (iJ C _ (q*y % B) c 0 (VO _ zU) hc zO) fun H3 e3=>?_;subst e3;have ef1:(fg (q*y % B) c 0).1=lw:=by simp only [fg,Wy]; exact q2
  have ef2:(fg (q*y % B) c 0).2=(q*y % 18446744073709551616+c) / 18446744073709551616:=by simp only [fg,Wy]
  refine zW (rc hl1 v7 v8 t0 t1 t2 t18 hi1 ef1 ef2 q1) ?_;clear ef1 ef2 q1 q2;refine aH ?_;refine zD (Al hl1 v7 v8 t0 t1 t2 t18 hi1 d2 r2 hwj ho) ?_;refine AnsH.eq (vL C _ o lw l hoB hlw hl') fun H4 e4=>?_;subst e4;rw [eo',el2];refine zD (Al hl1 v7 v8 t0 t1 t2 t18 hi1 d2 r2 hwj ho) ?_;refine ⟨zK,_,_,_,rfl,rfl,by simp [hlen],jT hlim f2,q3,hl2,I2,fun i hi=>?_,(hfr2.up _).put⟩;rw [bj zO];exact hz1 i hi
 ·rintro T1 H1 hl1 hs1 hk1 ⟨out,c,l,hv,b0,hlen,hlim,hc,hl',I,hz1,hfr⟩;simp only [dj,hl] at hl1;simp only [wW,AO,zB,and_true] at hv;obtain ⟨v7,v8⟩:=hv;have w1:=hk1.wf;have le_hk1:=hk1.le;have lt1:=hk1.wf _ _ b0;have d1:H1.get d=some (.cells [.own rb 0 M M 1 x1,.own bb 0 n n 1 true] Sy true):=hfr _ _ ndr hd;have t0:ad T1 0=.ptr d 0:=(hs1.at_ 0 zU).trans (zV (aB hl g0));have t2:ad T1 2=.int .i64 (a:Int):=(hs1.at_ 2 zU).trans (zV (cr hl g0 g1 g2 g2));have hwn:IntKind.i64.wrap ((a:Int)+(n:Int))=((a+n:Nat):Int):=by rw [wrap_i64] <;> omega
  obtain ⟨o,ho⟩:∃ o,out.getD (a+n) 0=o:=⟨_,rfl⟩
  have hoB:o<18446744073709551616:=by rw [<- ho]; exact hlim.at _
  obtain ⟨f1,f2⟩:=HG (o:=o) (w:=c) (l:=l) hoB hc hl';have hl2:=tE o c l;obtain ⟨o',eo'⟩:∃ o',(iZ o c l).1=o':=⟨_,rfl⟩
  obtain ⟨l2,el2⟩:∃ l2,(iZ o c l).2=l2:=⟨_,rfl⟩
  rw [eo',el2] at f1;rw [eo'] at f2;rw [el2] at hl2;have hval:val (out.set (a+n) o')+B^a*(q*val (L.take n))=X+B^(a+n+1)*l2:=by
   have hv:=iK (l:=out) (k:=a+n) (v:=o') zO;rw [ho] at hv
   have:=Lg I.e hv f1
   rw [this,VF,VJ,Vk l2]
  clear f1 I;refine zW (gf hl1 t0 t2 v7 v8 d1 hwn) ?_;refine aH ?_;refine zD (kj hl1 t0 t2 v7 v8 d1 @b0 hwn ho) ?_;refine AnsH.eq (vL C _ o c l hoB hc hl') fun H4 e4=>?_;subst e4;rw [eo',el2];refine zD (kj hl1 t0 t2 v7 v8 d1 @b0 hwn ho) ?_;refine ⟨_,l2,rfl,hl2,⟨?_,au _ _ _,?_,by simp [hlen],ll,ne,jT hlim f2,limL⟩,hval,fun i hi=>?_,zK,(hfr.up _).put⟩
  ·exact zV d1
  ·rw [az (Ne.symm ne)];exact hfr _ _ (Ne.symm ne) hb
  ·rw [bj zO];exact hz1 i hi
end
def HJ {o y c:Nat} (ho:o<18446744073709551616) (hy:y<18446744073709551616) (hc:c<=1):o+y+c=(fg o y c).1+(fg o y c).2*18446744073709551616/\(fg o y c).1<18446744073709551616:=by
 unfold fg B;simp only;omega
def EU {P A X vo vo' b c c' o o' y:Nat} (e:vo+P*c=X+A) (hv:vo'+P*o=vo+P*o') (h:o+y+c=o'+c'*b):vo'+P*(c'*b)=X+(A+P*y):=by
 have e5:=congrArg (P * ·) h;simp only [VY] at e e5 ⊢
 generalize P*(c'*b)=x3 at *
 generalize P*o=x4 at *
 generalize P*o'=x5 at *
 generalize P*y=x7 at *
 generalize P*c=x8 at *
 omega
structure BackI (a X j:Nat) (L out:List Nat) (c:Nat):Prop where
 e:val out+B^(a+j)*c=X+B^a*val (L.take j)
def BackI.step {a X j c c' o':Nat} {L out:List Nat} (I:BackI a X j L out c) (hj:a+j<out.length) (h:out.getD (a+j) 0+L.getD j 0+c=o'+c'*B):BackI a X (j+1) L (out.set (a+j) o') c':=by
 refine ⟨?_⟩;have hv:=iK (l:=out) (k:=a+j) (v:=o') hj
 have:=EU I.e hv h
 rw [cY,VY,<- VJ (B^a),<- VZ];have e3:B^(a+(j+1))*c'=B^(a+j)*(c'*B):=by rw [<- V2,VF,VJ,Vk B]
 rw [e3];exact this
section
variable {tab:Nat->Option aw} {H:Heap}
set_option maxHeartbeats 1000000 in
def Mr (C:Code tab) {H0:Heap} (hk:Kp H0 H) {d rb bb M n a X:Nat} {x1:Bool} {R L:List Nat} (D:Dv H d rb bb M n x1 R L) (hrb:H0.next<=rb) (hat:a+n<M) (hM:M<2199023255552) (hX:val R=X) (hz:∀ i,a+n<i->R.getD i 0=0) :
  Ans tab (.fn gB [.ptr d 0,.int .i64 (a:Int)]) H fun v H'=>∃ (R':List Nat) (c:Nat),v=.bool (decide (0<c))/\c<=1/\Dv H' d rb bb M n x1 R' L/\val R'+B^(a+n+1)*c=X+B^a*val (L.take n)/\(∀ i,a+n<i->R'.getD i 0=0)/\Kp H0 H'/\FrX rb H H':=by
 have ndr:=D.ndr;obtain ⟨hd,hr,hb,lr,ll,ne,limR,limL⟩:=D;have w0:=hk.wf;have le_hk:=hk.le;have hI0:BackI a X 0 L R 0:=⟨by simp [val,hX]⟩
 clear hX;refine bz C.q120 zU fun T hl g0 g1=>?_;refine zW (aV hl g0 g1 hd) ?_;refine am H0 [5] (fun j vs H'=>∃ (out:List Nat) (c:Nat),vs=[.int .u64 (c:Int)]/\H'.get rb=some (.cells (aK out) ae true)/\out.length=M/\Lim out/\c<=1/\BackI a X j L out c/\(∀ i,a+n<i->out.getD i 0=0)/\FrX rb H H') (a:=0) (N:=n) rfl (by refine zW (aC hl g0 g1) ?_; rfl) (zV (aC hl g0 g1)) (II _) zO (by simp only [dj,hl]; rfl) rfl (fun _ _ _ _ h=>h) zK
  ⟨R,0,by refine zW (aC hl g0 g1) ?_; rfl,by exact zV hr,lr,limR,II _,hI0,hz,FrX.up0 _ _ _⟩ ?_ ?_
 ·rintro j T1 H1 _ hj hl1 hi1 hs1 hk1 ⟨out,c,hv,b0,hlen,hlim,hc,I,hz1,hfr⟩;simp only [dj,hl] at hl1;simp only [wW,AO,zB,and_true] at hv;have w1:=hk1.wf;have le_hk1:=hk1.le;have lt1:=hk1.wf _ _ b0;have d1:H1.get d=some (.cells [.own rb 0 M M 1 x1,.own bb 0 n n 1 true] Sy true):=hfr _ _ ndr hd;have b1:H1.get bb=some (.cells (aK L) ae true):=hfr _ _ (Ne.symm ne) hb;have t0:ad T1 0=.ptr d 0:=(hs1.at_ 0 zU).trans (zV (aB hl g0));have t1:ad T1 1=.int .i64 (a:Int):=(hs1.at_ 1 zU).trans (zV (aV hl g0 g1 g1));have t12:ad T1 12=.own bb 0 n n 1 true:=(hs1.at_ 12 zU).trans (zV (aC hl g0 g1));obtain ⟨y,hy⟩:∃ y,L.getD j 0=y:=⟨_,rfl⟩
  have hyB:y<18446744073709551616:=by rw [<- hy]; exact limL.at j
  obtain ⟨o,ho⟩:∃ o,out.getD (a+j) 0=o:=⟨_,rfl⟩
  have hoB:o<18446744073709551616:=by rw [<- ho]; exact hlim.at _
  obtain ⟨f1,f2⟩:=HJ hoB hyB hc;have hc2:=xE o y c hoB hyB hc;obtain ⟨o',eo'⟩:∃ o',(fg o y c).1=o':=⟨_,rfl⟩
  obtain ⟨c2,ec2⟩:∃ c2,(fg o y c).2=c2:=⟨_,rfl⟩
  rw [eo',ec2] at f1;rw [eo'] at f2;rw [ec2] at hc2;have I2:BackI a X (j+1) L (out.set (a+j) o') c2:=I.step zO (by rw [ho,hy]; exact f1);clear f1 I;have hwj:IntKind.i64.wrap ((a:Int)+(j:Int))=((a+j:Nat):Int):=by rw [wrap_i64] <;> omega
  refine zW (ki hl1 hv t0 t1 t12 hi1 b1 hy) ?_;refine aH ?_;refine zD (rM hl1 hv t0 t1 t12 hi1 d1 @b0 hwj ho) ?_;refine AnsH.eq (iJ C _ o y c hoB hyB hc) fun H4 e4=>?_;subst e4;rw [eo',ec2];refine zD (rM hl1 hv t0 t1 t12 hi1 d1 @b0 hwj ho) ?_;refine ⟨zK,_,_,rfl,rfl,by simp [hlen],jT hlim f2,hc2,I2,fun i hi=>?_,(hfr.up _).put⟩;rw [bj zO];exact hz1 i hi
 ·rintro T1 H1 hl1 hs1 hk1 ⟨out,c,hv,b0,hlen,hlim,hc,I,hz1,hfr⟩;simp only [dj,hl] at hl1;simp only [wW,AO,zB,and_true] at hv;have w1:=hk1.wf;have le_hk1:=hk1.le;have lt1:=hk1.wf _ _ b0;have d1:H1.get d=some (.cells [.own rb 0 M M 1 x1,.own bb 0 n n 1 true] Sy true):=hfr _ _ ndr hd;have t0:ad T1 0=.ptr d 0:=(hs1.at_ 0 zU).trans (zV (aB hl g0));have t1:ad T1 1=.int .i64 (a:Int):=(hs1.at_ 1 zU).trans (zV (aV hl g0 g1 g1));have hwn:IntKind.i64.wrap ((a:Int)+(n:Int))=((a+n:Nat):Int):=by rw [wrap_i64] <;> omega
  obtain ⟨o,ho⟩:∃ o,out.getD (a+n) 0=o:=⟨_,rfl⟩
  have hoB:o<18446744073709551616:=by rw [<- ho]; exact hlim.at _
  obtain ⟨f1,f2⟩:=HJ (y:=0) hoB zU hc;have hc2:=xE o 0 c hoB zU hc;obtain ⟨o',eo'⟩:∃ o',(fg o 0 c).1=o':=⟨_,rfl⟩
  obtain ⟨c2,ec2⟩:∃ c2,(fg o 0 c).2=c2:=⟨_,rfl⟩
  rw [eo',ec2] at f1;rw [eo'] at f2;rw [ec2] at hc2;have hval:val (out.set (a+n) o')+B^(a+n+1)*c2=X+B^a*val (L.take n):=by
   have hv:=iK (l:=out) (k:=a+n) (v:=o') zO;rw [ho] at hv
   have:=EU I.e hv f1
   rw [VF,VJ,Vk B];rw [XJ,Wy] at this;exact this
  clear f1 I;refine zW (eW hl1 t0 t1 hv d1 hwn) ?_;refine aH ?_;refine zD (ki hl1 t0 t1 hv d1 @b0 hwn ho) ?_;refine AnsH.eq (iJ C _ o 0 c hoB zU hc) fun H4 e4=>?_;subst e4;rw [eo',ec2];refine zD (ki hl1 t0 t1 hv d1 @b0 hwn ho) ?_;refine ⟨_,c2,rfl,hc2,⟨?_,au _ _ _,?_,by simp [hlen],ll,ne,jT hlim f2,limL⟩,hval,fun i hi=>?_,zK,(hfr.up _).put⟩
  ·exact zV d1
  ·rw [az (Ne.symm ne)];exact hfr _ _ (Ne.symm ne) hb
  ·rw [bj zO];exact hz1 i hi
end
def DT {y n:Nat} (h:(ag y).length=n+1):B^n<=y:=by
 have:=xB (cW y) (fun e=>by rw [e] at h; simp at h)
 rw [bI,h] at this;exact this
def Co {x y:Nat} (h:(ag x).length<(ag y).length):x<y:=by
 obtain ⟨n,hn⟩:∃ n,(ag y).length=n+1:=⟨(ag y).length-1,zO⟩
 exact Vi (ii x) (Oc (VD zU zO) (DT hn))
def Cp {y n:Nat} (h1:B^n<=y) (h2:y<B^(n+1)):(ag y).length=n+1:=by
 refine Xl (gZ h2) ?_
 apply Xp
 intro h;have h3:y<B^n:=Vi (ii y) (VD zU zO);exact absurd h1 (Nat.not_le_of_lt h3)
def Jr {y:Nat} (h:(ag y).length=1):y<B/\(ag y).getD 0 0=y:=by
 have h1:=ii y;rw [h,Nat.pow_one] at h1;refine ⟨h1,?_⟩;rw [iI,XY,ZK,VK h1]
section
variable {b y m z top P:Nat}
def LM (h64:P=2^(64-z)*2^z) (h1:top*2^z<P) (hy1:top*b<=y) (hy2:y<(top+1)*b) {c:Nat} (h2:c<=top*2^z):y*2^z<P*b/\c*b<=y*2^z:=by
 have p2:0<2^z:=VL zU;have ht:top+1<=2^(64-z):=by
  rw [h64] at h1;exact Nat.lt_of_mul_lt_mul_right h1
 refine ⟨?_,?_⟩
 ·refine Vi (Xb hy2 p2) ?_;rw [XX];refine Ji b ?_;rw [h64];exact Ji _ ht
 ·refine Oc (Ji b h2) ?_;rw [XX];exact Ji _ hy1
end
def FR {y m z top:Nat} (hl:(ag y).length=m+2) (ht:(ag y).getD (m+1) 0=top) (hz:z<64) (h1:top*2^z<18446744073709551616) (h2:9223372036854775808<=top*2^z) :
  y*2^z<B^(m+2)/\(ag (y*2^z)).length=m+2/\9223372036854775808*B^(m+1)<=y*2^z:=by
 have hy:=ii y;rw [hl] at hy;have e:y / B^(m+1)=top:=by
  rw [<- ht,iI,VK]
  apply (Vr (VL zU)).2
  rw [Vk,<- VF]; exact hy
 have hp:0<B^(m+1):=VL zU;have hy1:top*B^(m+1)<=y:=by rw [<- e]; exact ZV _ _
 have hy2:y<(top+1)*B^(m+1):=(Vr hp).1 (by rw [e]; exact Ye _);have h64:(18446744073709551616:Nat)=2^(64-z)*2^z:=by
  rw [<- VZ,show 64-z+z=64 by omega]
 obtain ⟨q1,q2⟩:=LM h64 h1 hy1 hy2 h2;have e2:18446744073709551616*B^(m+1)=B^(m+2):=by rw [VF B (m+1),Vk]
 rw [e2] at q1;refine ⟨q1,Cp ?_ q1,q2⟩;exact Oc (Nat.le_mul_of_pos_left _ zU) q2
def Da {x z V m k la:Nat} (hla:(ag x).length=la) (hz:z<64) (hV:9223372036854775808*B^(m+1)<=V) (hk:m+1+k=la):x*2^z<V*B^k:=by
 have hx:=ii x;rw [hla] at hx;have h1:2^z<=9223372036854775808:=Oc (VD zU (show z<=63 by omega)) zU;have h2:x*2^z<B^la*9223372036854775808:=by
  refine Vi (Xb hx (VL zU)) (Xg _ h1)
 refine Vi h2 ?_;refine Oc (XE ?_) (Ji _ hV);rw [VJ,<- VZ,hk,Vk]
structure DivI (X V k:Nat) (Q R:List Nat):Prop where
 eq:X=V*val Q+val R
 lt:val R<V*B^k
 zero:∀ i,i<k->Q.getD i 0=0
def DivI.zeros {X V k m:Nat} {Q R:List Nat} (I:DivI X V k Q R) (hV:V<B^m) (hR:Lim R):∀ i,k+m<=i->R.getD i 0=0:=fun i hi=>by
 rw [ng hR];have h1:val R<B^i:=by
  refine Vi I.lt (Oc (Ji _ (WW hV)) ?_);rw [<- VZ];exact VD zU zO
 rw [WX h1,Nat.zero_mod]
def pW (Z:Nat):Z=Z / B*B+Z % B:=by rw [Vk]; exact (VX Z B).symm
def DivI.guess {X V a m:Nat} {Q R L:List Nat} (I:DivI X V (a+1) Q R) (hV:V<B^(m+2)) (hR:Lim R) (h0:0<V) (hL:∀ i,i<m+2->L.getD i 0=V / B^i % B) :
  GuessH V (val R / B^a) (B^m) (R.getD (a+(m+2)) 0) (R.getD (a+(m+1)) 0) (R.getD (a+m) 0) (L.getD (m+1) 0) (L.getD m 0):=by
 have hp:∀ j,0<B^j:=fun j=>VL zU;have hdp:∀ Y j,Y / B^(j+1)=Y / B^j / B:=fun Y j=>by rw [VF,V5]
 refine ⟨?_,?_,?_,h0⟩
 ·rw [hL _ zO,hL _ zO,hdp V m];have h1:V / B^m / B % B=V / B^m / B:=by
   rw [<- hdp]
   apply VK
   apply (Vr (hp _)).2
   rw [Vk,<- VF]; exact hV
  rw [h1,<- pW];exact ZV _ _
 ·rw [ng hR,ng hR,ng hR];have e1:val R / B^(a+(m+1))=val R / B^(a+m) / B:=by rw [<- V2,hdp]
  have e2:val R / B^(a+(m+2))=val R / B^(a+m) / B / B:=by
   rw [show a+(m+2)=a+m+1+1 by omega,hdp,hdp]
  have e3:val R / B^(a+m) / B / B % B=val R / B^(a+m) / B / B:=by
   rw [<- e2]
   apply VK
   apply (Vr (hp _)).2
   refine Vi I.lt (Oc (Ji _ (WW hV)) ?_);rw [<- VZ,Vk,<- VF];exact VD zU zO
  rw [e2,e3,e1,<- pW,<- pW];have e4:val R / B^(a+m)=val R / B^a / B^m:=by rw [V5,VZ]
  rw [e4];exact (Vr (hp m)).1 (Ye _)
 ·apply (Vr (hp a)).2
  refine Vi I.lt (XE ?_);rw [VF,Vk (B^a),VJ]
structure SubI (XR V a n:Nat) (R:List Nat) (q l:Nat):Prop where
 e:val R+B^a*(q*V)=XR+B^(a+n+1)*l
 ge:XR / B^a / V<=q
section
variable {XR V A q vr vr' W c:Nat}
def NO (e:vr+A*(q*V)=XR+W*1) (hlt:vr<W) (hV:0<V) (hA:0<A) (hb:vr'+W*c=vr+A*V) (hc:c<=1):0<q/\XR / A / V<=q-1/\vr'+A*((q-1)*V)=XR+W*(1-c):=by
 have h1:XR / A / V<q:=by
  rw [V5]
  apply (Vr (Zh hA hV)).2
  have:q*(A*V)=A*(q*V):=by rw [Yu]
  rw [this]
  generalize A*(q*V)=t at *
  omega
 have h0:0<q:=VS (II _) h1;refine ⟨h0,Yd h1,?_⟩;obtain ⟨p,rfl⟩:∃ p,q=p+1:=⟨q-1,zO⟩
 rw [W7];rw [VW,XU,VY] at e;have hcc:c=0\/c=1:=zO;rcases hcc with rfl | rfl
 ·simp only [XJ,Wo,Wy,Zv] at *;omega
 ·simp only [XJ,Wo,Wy,YT] at *;omega
def Ov (e:vr+A*(q*V)=XR) (hge:XR / A / V<=q) (hV:0<V) (hA:0<A):vr<V*A:=by
 have h1:q<=XR / (A*V):=by
  apply (YE (Zh hA hV)).2
  rw [Yu,<- e];exact Nat.le_add_left _ _
 rw [V5] at hge;have h2:=Xl h1 hge;have h3:=VX XR (A*V);rw [<- h2] at h3;have h4:=VO XR (Zh hA hV);have h5:A*V*q=A*(q*V):=by rw [VJ,Vk V]
 rw [h5] at h3;rw [Vk V];omega
end
def SubI.pos {XR V a n q:Nat} {R:List Nat} (I:SubI XR V a n R q 1) (hlt:val R<B^(a+n+1)):0<q:=by
 apply Nat.pos_of_ne_zero
 intro h;have e:=I.e;rw [h,Yo,XJ,Wy,Wo] at e;rw [e] at hlt;exact absurd hlt (Nat.not_lt_of_le (Nat.le_add_left _ _))
def SubI.back {XR V a n q c:Nat} {R R':List Nat} (I:SubI XR V a n R q 1) (hlt:val R<B^(a+n+1)) (hV:0<V) (hb:val R'+B^(a+n+1)*c=val R+B^a*V) (hc:c<=1):0<q/\SubI XR V a n R' (q-1) (1-c):=by
 obtain ⟨h1,h2,h3⟩:=NO I.e hlt hV (VL zU) hb hc;exact ⟨h1,h3,h2⟩
def DivI.next {X V a n q:Nat} {Q R R':List Nat} (I:DivI X V (a+1) Q R) (S:SubI (val R) V a n R' q 0) (hV:0<V) (ha:a<Q.length):DivI X V a (Q.set a q) R':=by
 have e:=S.e;rw [XJ,Wy] at e;refine ⟨?_,Ov e S.ge hV (VL zU),fun i hi=>?_⟩
 ·have hv:=iK (l:=Q) (k:=a) (v:=q) ha;rw [I.zero a (Ye a),XJ,Wy] at hv;rw [hv,I.eq,<- e,VY]
  have:V*(B^a*q)=B^a*(q*V):=by rw [Yu,Vk V]
  rw [this];omega
 ·rw [bj zO];exact I.zero i zO
def DivI.fin {x y P:Nat} {Q R:List Nat} (hP:0<P) (I:DivI (x*P) (y*P) 0 Q R):val Q=x / y/\val R=x % y*P:=by
 have e:=I.eq;have l:=I.lt;rw [XY,Wo] at l;have hyP:0<y*P:=VS (II _) l;have h1:x*P / (y*P)=val Q:=by
  rw [e,Vk (y*P),XF,YG _ _ hyP,WX l,VB]
 have h2:x*P % (y*P)=val R:=by
  rw [e,Nat.mul_add_mod_self_left,VK l]
 rw [YF _ _ hP] at h1;rw [ZE] at h2;exact ⟨h1.symm,h2.symm⟩
def Bx (H:Heap) (id size bytes ty:Nat) (z:List AV) (x y:AV):Option (AV × Heap):=match nL y with
 | none=>none
 | some m=>if z.length=size/\m*bytes<=2^46/\m<2^62 then cI H id size bytes ty x m ((List.replicate m z).flatten) none else none
def BF {tab:Nat->Option aw} (ev:Src->AV) (H:Heap) (id:Nat) (Q:AV->Heap->Prop) (size bytes ty:Nat) (z:List AV) (x y:Src) :
  kW tab ev H id (.appendZ size bytes ty z x y) Q=SC (Bx H id size bytes ty z (ev x) (ev y)) (fun r=>Q r.1 r.2) ():=by
 rw [bY,gK tab ev H id Q (o:=.appendZ size bytes ty z x y) (fun f a e=>by cases e) rfl]; rfl
def MQ {H:Heap} {id b n m M:Nat} {l E:List Nat} (hb:H.get b=some (.cells (aK (l++E)) ae true)) (hn:l.length=n) (hE:E.length=m) (hM:n+m=M) (hM2:M<2199023255552) (hid:H.get id=none) (hl:Lim l) :
  ∃ rb x R H',Bx H id 1 8 ae [.int .u64 0] (.own b 0 n n 1 true) (.int .i64 (m:Int))=some (.own rb 0 M M 1 x,H')/\H'.get rb=some (.cells (aK R) ae true)/\R.length=M/\val R=val l/\Lim R/\(rb=b\/rb=id)/\H'.next=H.next/\(∀ c e,H.get c=some e->H'.get c=some e)/\(∀ H0,Kp H0 H->H0.next<=id->id<H.next->Kp H0 H'):=by
 have hlen:(aK (l++E)).length=M:=by rw [nz,Vg]; omega
 have hap:Bx H id 1 8 ae [.int .u64 0] (.own b 0 n n 1 true) (.int .i64 (m:Int))=if m=0 then some (.own b 0 n n 1 true,H) else some (.own id 0 (n+m) (n+m) 1 false,H.put id (.cells ((aK (l++E)).take n++aK (List.replicate m 0)) ae true)):=by
  unfold Bx;rw [e9];simp only;rw [if_pos ⟨rfl,zO,zO⟩,lH];simp only [cI,hb];rw [if_pos ⟨trivial,zO,zO,trivial,by rw [hlen]; omega⟩];by_cases h0:m=0
  ·rw [if_pos zO,if_pos h0,if_pos h0]
  ·rw [if_neg zO,if_pos trivial,if_neg h0]
   simp
 by_cases h0:m=0
 ·have hE0:E=[]:=Vp zO;subst hE0;rw [Wp] at hb;have hnM:n=M:=zO;subst hnM;exact ⟨b,true,l,H,by rw [hap,if_pos h0],hb,hn,rfl,hl,.inl rfl,rfl,fun _ _ h=>h,fun _ h _ _=>h⟩
 ·have ht:(aK (l++E)).take n=aK l:=by
   unfold aK;rw [VQ,XC (by simp [hn])]
  have hc:aK l++aK (List.replicate m 0)=aK (l++List.replicate m 0):=by simp [aK]
  rw [ht,hc,hM] at hap;exact ⟨id,false,l++List.replicate m 0,_,by rw [hap,if_neg h0],au _ _ _,by simp [hn,hM],by rw [nN,fK,XJ,Wy],hl.append (Lim.replicate m),.inr rfl,rfl,fun c e h=>by
   rw [az (fun e1=>by rw [e1,hid] at h; cases h)]; exact h,fun H0 hk h1 h2=>hk.put h1 h2⟩
section
variable {tab:Nat->Option aw} {H:Heap}
set_option maxHeartbeats 4000000 in
def HN (C:Code tab) (hw:Wf H) {a b:AV} {x y:Nat} (ha:cp H a x) (hb:cp H b y) (hx:Sm x) (hy:Sm y) (h0:0<y) :
  Ans tab (.fn uR [a,b]) H fun v H'=>∃ q r,v=.tup [q,r,.int .i64 0]/\cp H' q (x / y)/\cp H' r (x % y)/\Kp H H':=by
 refine bz C.q91 zU fun T hl g0 g1=>?_;refine zW (aC hl g0 g1) ?_;refine AnsH.eq (Er C zF (ha.mono (Sub.bump H _)) (hb.mono (Sub.bump H _)) hx hy h0) fun H2 hk2=>?_;obtain ⟨k2,_,w2⟩:=zT H zK hk2;have n2:=k2.le;have ha2:=ha.mono k2.sub;have hb2:=hb.mono k2.sub;have hx':=hx;have hy':=hy;unfold Sm at hx' hy';have hyl:=(bZ y).2 zO;by_cases h1:(ag y).length=1
 ·obtain ⟨hyB,hy0⟩:=Jr h1;have hlen:lenV b=some (.int .i64 1):=by have:=hb.lenV; rw [h1] at this; exact this
  have hix:=SlV.idx1 hb .i64 0 zO;have hld:=eZ hb2 (i:=0) zO;rw [hy0] at hld;have hix':co 1 b (.int .i64 0)=some (ap b 0):=hix;refine zW (eW hl g0 g1 hlen hix' hld) ?_;refine AnsH.use (Ms C zF (ha2.mono (Sub.bump H2 _)) hx h0 hyB) ?_;rintro v H3 ⟨q,rfl,hq,hk3⟩;obtain ⟨k3,_,w3⟩:=zT H zK hk3;refine zW (aC hl g0 g1) ?_;refine AnsH.use (FU C zF (YV (VO x h0) hyB)) ?_;rintro v H4 ⟨h4,-,hk4⟩;obtain ⟨k4,_,_⟩:=zT H zK hk4;refine zW (aC hl g0 g1) ?_;exact ⟨q,v,rfl,hq.mono (Kp.sub (H:=H3) (Kp.trans zK hk4)),h4,zK⟩
 ·obtain ⟨m,hm⟩:∃ m,(ag y).length=m+2:=⟨(ag y).length-2,zO⟩
  have hne1:¬ ((m+2:Nat):Int)=1:=zO;have hbl:lenV b=some (.int .i64 ((m+2:Nat):Int)):=by have:=hb.lenV; rwa [hm] at this
  obtain ⟨la,hla⟩:∃ la,(ag x).length=la:=⟨_,rfl⟩
  have hal:lenV a=some (.int .i64 (la:Int)):=by have:=ha.lenV; rwa [hla] at this
  refine zW (eW hl g0 g1 hbl hal hne1) ?_;refine iteH.split (fun h2=>?_) fun h2=>?_
  ·have hlt:x<y:=Co zO;refine zW (aC hl g0 g1) ?_;refine AnsH.use (jE C zF (ha2.mono (Sub.bump H2 _)) zO) ?_;rintro v H3 ⟨h3,hk3⟩;obtain ⟨k3,_,_⟩:=zT H zK hk3;refine zW (aC hl g0 g1) ?_;rw [WX hlt,VK hlt];exact ⟨.nilSl,v,rfl,fM _,h3,zK⟩
  ·obtain ⟨top,etop⟩:∃ top,(ag y).getD (m+1) 0=top:=⟨_,rfl⟩
   have htopB:top<18446744073709551616:=by rw [<- etop]; exact (bu y).at _
   have htop0:0<top:=by
    rw [<- etop,iI];have h3:=DT (y:=y) (n:=m+1) (by rw [hm]);have h4:=ii y;rw [hm] at h4;have h5:y / B^(m+1)<B:=by
     apply (Vr (VL zU)).2
     rw [Vk,<- VF]; exact h4
    rw [VK h5];exact Nat.div_pos h3 (VL zU)
   have hix:=SlV.idx1 hb .i64 (m+1) zO;have hld:=eZ hb2 (i:=m+1) zO;rw [etop] at hld;have hw1:IntKind.i64.wrap (((m+2:Nat):Int)-1)=((m+1:Nat):Int):=by rw [wrap_i64] <;> omega
   refine zW (gf hl g0 g1 hbl hw1 hix hld) ?_;refine AnsH.use (Bv C zF htop0 htopB) ?_;rintro v H3 ⟨⟨z,rfl,hz,hz1,hz2⟩,hk3⟩;obtain ⟨k3,_,w3⟩:=zT H zK hk3;obtain ⟨hVB,hVl,hV63⟩:=FR hm etop hz hz1 hz2;have hX0:=Da (k:=la-(m+1)) hla hz hV63 zO;refine zW (aC hl g0 g1) ?_;refine AnsH.use (LO C zF (ha.mono (zG H)) hx zO) ?_;rintro v H4 ⟨o1,rfl,hn1,hk4,b1,E1,rfl,hb1,hge1,hlen1,-⟩;obtain ⟨k4,_,w4⟩:=zT H zK hk4;refine zW (aC hl g0 g1) ?_;refine AnsH.use (LO C zF (hb.mono (zG H)) hy zO) ?_;rintro v H5 ⟨o2,rfl,hn2,hk5,b2,E2,rfl,hb2',hge2,-,hlim2⟩;obtain ⟨k5,_,w5⟩:=zT H zK hk5;obtain ⟨V,eV⟩:∃ V,y*2^z=V:=⟨_,rfl⟩
   obtain ⟨X,eX⟩:∃ X,x*2^z=X:=⟨_,rfl⟩
   rw [eV] at hVB hVl hV63 hX0 hn2 hb2' hlim2;rw [eX] at hX0 hn1 hb1 hlen1;rw [eX,eV,hVl];have hz64:z / 64=0:=WX hz;obtain ⟨n1,en1⟩:∃ n1,(ag X).length=n1:=⟨_,rfl⟩
   rw [hla,hz64,Vg,en1] at hlen1;rw [en1];have c1:=hk5.get hb1;have hwa:IntKind.i64.wrap ((la:Int)+1)=((la+1:Nat):Int):=by rw [wrap_i64] <;> omega
   have hwb:IntKind.i64.wrap (((la+1:Nat):Int)-(n1:Int))=((E1.length:Nat):Int):=by rw [wrap_i64] <;> omega
   obtain ⟨Nq,eNq⟩:∃ Nq,la-(m+2)+1=Nq:=⟨_,rfl⟩
   have hwc:IntKind.i64.wrap ((la:Int)-((m+2:Nat):Int))=((la-(m+2):Nat):Int):=by rw [wrap_i64] <;> omega
   have hwd:IntKind.i64.wrap (((la-(m+2):Nat):Int)+1)=(Nq:Int):=by rw [wrap_i64] <;> omega
   have hmk:∀ H' id,Ho H' id ae 1 8 [.int .u64 0] (.int .i64 (Nq:Int)) (.int .i64 (Nq:Int))=some (.own id 0 Nq Nq 1 true,H'.put id (.cells (aK (List.replicate Nq 0)) ae true)):=fun H' id =>
    (iW H' id ae 1 8 [.int .u64 0] .i64 .i64 Nq zO zO rfl).trans (by rw [lH])
   obtain ⟨k5,_,_⟩:=zT H zK hk5;obtain ⟨rb,x1,R,H6,e6,hR,lR,vR,limR,hrb,hn6,hs6,hk6⟩:=MQ (H:=H5.up 12) (id:=H5.next+7) (b:=b1) (E:=E1) (m:=E1.length) (M:=la+1) (l:=ag X) (n:=n1) c1 en1 rfl zO zO (w5.fresh (b:=H5.next+7) zO) (bu X);have k6:Kp H H6:=hk6 H (k5.up 12) (by have:=k5.le; omega) (by show _<H5.next+12; omega);have le_k6:=k6.le;have w6:=k6.wf;have hn6':H6.next=H5.next+12:=hn6
   have c2:H6.get b2=some (.cells (aK (ag V++E2)) ae true):=hs6 _ _ hb2';have lt1:=k4.wf _ _ hb1;have lt2:=k5.wf _ _ hb2';have lt5:=k5.le;have lt4:H4.next<=b2:=Oc (Vz _ _) hge2
   have hne:rb≠b2:=by
    rcases hrb with h | h <;> omega
   have hrbH:H.next<=rb:=by
    have q1:H3.next<=b1:=Oc (Vz _ _) hge1
    have q2:=k3.le;rcases hrb with h | h <;> omega
   have ltr:=k6.wf _ _ hR;simp -dsimp (maxSteps:=1000000) (disch:=(first | omega | assumption | exact aQ _ | exact bf _ _ | exact bp | exact cz _ _ _ | exact bF _ _ | exact bo _ _ _ _ _ _ | exact cJ _ _ | exact bH _)) only [↓sL,sK,Nat.reduceLT,Nat.reduceEqDiff,Nat.reduceAdd,reduceIte,reduceCtorEq,Nat.reduceBEq,Int.reduceEq,Int.reduceLT,Int.reduceLE,Int.reduceAdd,Int.reduceSub,hl,g0,g1,hal,hbl,hwa,hwb,↓BF,e6,hwc,hwd,hmk];obtain ⟨d,ed⟩:∃ d,H5.next+10=d:=⟨_,rfl⟩
   obtain ⟨qb,eq⟩:∃ qb,H6.next+6=qb:=⟨_,rfl⟩
   simp only [ed,eq];have D0:Dv (((H6.up 12).put d (.cells [.own rb 0 (la+1) (la+1) 1 x1,.own b2 0 (m+2) (m+2) 1 true] Sy true)).put qb (.cells (aK (List.replicate Nq 0)) ae true)) d rb b2 (la+1) (m+2) x1 R (ag V++E2):=by
    have z1:d≠rb:=by rcases hrb with h | h <;> omega
    refine ⟨?_,?_,?_,lR,by rw [Vg,hVl]; omega,hne,limR,?_⟩
    ·exact cR
    ·exact zV hR
    ·exact zV @c2
    ·exact hlim2
   obtain ⟨L,eL⟩:∃ L,ag V++E2=L:=⟨_,rfl⟩
   have hLd:∀ i,i<m+2->L.getD i 0=V / B^i % B:=fun i hi=>by
    rw [<- eL,dH,Vw zO,<- dH,iI]
   have hLt:val (L.take (m+2))=V:=by
    rw [<- eL,XC hVl,bI]
   rw [eL] at D0;have hV0:0<V:=Vi (Zh zU (VL zU)) hV63;have hI0:DivI X V Nq (List.replicate Nq 0) R:=⟨by rw [fK,XJ,VB,vR,bI],by
    rw [vR,bI]
    have:la-(m+1)=Nq:=zO
    rw [this] at hX0; exact hX0,fun i _=>by simp [dH,V9]; split <;> rfl⟩
   have hdq:d≠qb:=zO;have hrq:rb≠qb:=zO;have hbq:b2≠qb:=zO;have hqbH:H.next<=qb:=zO
   clear hz1 hz2 hV63 hX0 hwa hwb hwc hwd;refine kN H [16] (fun k vs H'=>vs=[.int .i64 ((k:Int)-1)]/\k<=Nq/\∃ (Q R:List Nat),H'.get qb=some (.cells (aK Q) ae true)/\Q.length=Nq/\Lim Q/\Dv H' d rb b2 (la+1) (m+2) x1 R L/\DivI X V k Q R)
    (fun vs H'=>∃ (Q R:List Nat),H'.get qb=some (.cells (aK Q) ae true)/\Q.length=Nq/\Lim Q/\Dv H' d rb b2 (la+1) (m+2) x1 R L/\DivI X V 0 Q R) Nq (by simp only [dj]; exact hl) rfl zK ⟨?_,wT _,_,R,au _ _ _,by simp,Lim.replicate Nq,D0,hI0⟩ ?_ ?_
   ·have hwq:IntKind.i64.wrap ((Nq:Int)-1)=(Nq:Int)-1:=by rw [wrap_i64] <;> omega
    exact zV (aV hl g0 g1 hwq)
   ·rintro k T1 H1' hl1 hs1 hk1 ⟨hv,hkN,Q,R,hQ,lQ,limQ,D,I⟩;simp only [wW,AO,zB,and_true] at hv;have w1:=hk1.wf;have le_hk1:=hk1.le;have t4:ad T1 4=.own qb 0 Nq Nq 1 true:=(hs1.at_ 4 zU).trans (zV (aC hl g0 g1));have t15:ad T1 15=.ptr d 0:=(hs1.at_ 15 zU).trans (zV (aC hl g0 g1));cases k with
    | zero =>
     have hneg:¬ (0:Int)<=((0:Nat):Int)-1:=zO;refine zW (aC hl1 hv hneg) ?_;exact ⟨zK,Q,R,hQ,lQ,limQ,D.up _,I⟩
    | succ a =>
     have hz:((a+1:Nat):Int)-1=(a:Int):=zO;rw [hz] at hv;have hpos:(0:Int)<=(a:Int):=zO;have hat:a+(m+2)<la+1:=zO;refine zW (aV hl1 hv hpos t15) ?_;refine AnsH.use (JQ C zF (D.up _) hat zO (I.guess hVB D.limR hV0 hLd)) ?_;rintro v H2' ⟨q,rfl,hqB,hge,hk2'⟩;have k2':Kp H H2':=Kp.trans zK hk2';have w2':=k2'.wf;have D2:=(D.up 6).kp hk2';have hQ2:H2'.get qb=some (.cells (aK Q) ae true):=hk2'.get hQ;have hzR:=I.zeros hVB D.limR;refine zW (aC hl1 hv t15) ?_;refine AnsH.use (Mq C (H0:=H) zK (D2.up _) hrbH hat zO hqB rfl (fun i hi=>hzR i zO)) ?_;rintro v H3' ⟨R1,l1,rfl,hl1',D3,hv3,hz3,k3',hfr3⟩;rw [hLt] at hv3;have w3':=k3'.wf;have hQ3:H3'.get qb=some (.cells (aK Q) ae true):=hfr3 _ _ (Ne.symm hrq) hQ2;have S3:SubI (val R) V a (m+2) R1 q l1:=⟨hv3,hge⟩
     clear hv3 hge;refine zW (aC hl1 hv t15) ?_;refine kN H [17,18] (fun k vs H'=>∃ (q l:Nat) (R':List Nat),vs=[.int .u64 (q:Int),.bool (decide (0<l))]/\k=q/\l<=1/\q<B/\H'.get qb=some (.cells (aK Q) ae true)/\Dv H' d rb b2 (la+1) (m+2) x1 R' L/\SubI (val R) V a (m+2) R' q l/\∀ i,a+(m+2)<i->R'.getD i 0=0)
      (fun vs H'=>∃ (q:Nat) (bb:AV) (R':List Nat),vs=[.int .u64 (q:Int),bb]/\q<B/\H'.get qb=some (.cells (aK Q) ae true)/\Dv H' d rb b2 (la+1) (m+2) x1 R' L/\SubI (val R) V a (m+2) R' q 0) q (by simp only [dj]; exact hl1) rfl zK ⟨q,l1,R1,by exact zV hl1,rfl,hl1',hqB,hQ3,D3,S3,hz3⟩ ?_ ?_
     ·rintro k T2 H4' hl2 hs2 hk4' ⟨q,l,R',hv',hkq,hl',hqB,hQ4,D4,S4,hz4⟩;obtain rfl:=hkq.symm;simp only [wW,AO,zB,and_true] at hv';obtain ⟨v17,v18⟩:=hv';have w4':=hk4'.wf;have le_hk4':=hk4'.le;have u15:ad T2 15=.ptr d 0:=(hs2.at_ 15 zU).trans (zV (aB hl1 t15));have u16:ad T2 16=.int .i64 (a:Int):=(hs2.at_ 16 zU).trans (zV (aB hl1 hv));rcases (show l=0\/l=1 by omega) with rfl | rfl
      ·have e0:decide (0<0)=false:=rfl;refine zW (aV hl2 v17 v18 e0) ?_;exact ⟨zK,q,_,R',rfl,hqB,hQ4,D4.up _,S4⟩
      ·have e1:decide (0<1)=true:=rfl;have hlt:=pa (m:=a+(m+2)+1) D4.limR (fun i hi=>hz4 i zO);have hq0:=S4.pos hlt;have z1:=rP (a:=q) hq0 hqB;refine zW (gf hl2 v17 v18 e1 u15 u16 z1) ?_;refine AnsH.use (Mr C (H0:=H) zK (D4.up _) hrbH hat zO rfl hz4) ?_;rintro v H5' ⟨R2,c,rfl,hc,D5,hv5,hz5,k5',hfr5⟩;rw [hLt] at hv5;have w5':=k5'.wf;have hQ5:H5'.get qb=some (.cells (aK Q) ae true):=hfr5 _ _ (Ne.symm hrq) hQ4;obtain ⟨-,S5⟩:=S4.back hlt hV0 hv5 hc;clear hv5;have ec:(!decide (0<c))=decide (0<1-c):=by
        rcases (show c=0\/c=1 by omega) with rfl | rfl <;> rfl
       refine zW (aV hl2 v17 v18 ec) ?_;exact ⟨zK,q-1,zO,q-1,1-c,R2,rfl,rfl,zO,zO,hQ5,D5,S5,hz5⟩
     ·rintro T2 H4' hl2 hs2 hk4' ⟨q,bb,R',hv',hqB,hQ4,D4,S4⟩;simp only [wW,AO,zB,and_true] at hv';obtain ⟨v17,-⟩:=hv';have w4':=hk4'.wf;have le_hk4':=hk4'.le;have u4:ad T2 4=.own qb 0 Nq Nq 1 true:=(hs2.at_ 4 zU).trans (zV (aB hl1 t4));have u16:ad T2 16=.int .i64 (a:Int):=(hs2.at_ 16 zU).trans (zV (aB hl1 hv));have hwa1:IntKind.i64.wrap ((a:Int)-1)=(a:Int)-1:=by rw [wrap_i64] <;> omega
      have ltq:=hk4'.wf _ _ hQ4;have I2:=I.next S4 hV0 zO
      refine zW (eW hl2 u4 u16 v17 hQ4 hwa1) ?_;exact ⟨zK,a,zO,rfl,zO,_,R',rfl,by simp [lQ],jT limQ hqB,(D4.up _).put hdq hrq hbq,I2⟩
   ·rintro T1 H1' hl1 hs1 hk1 ⟨Q,R',hQ,lQ,limQ,D,I⟩;have w1:=hk1.wf;have le_hk1:=hk1.le;have t4:ad T1 4=.own qb 0 Nq Nq 1 true:=(hs1.at_ 4 zU).trans (zV (aC hl g0 g1));have t15:ad T1 15=.ptr d 0:=(hs1.at_ 15 zU).trans (zV (aC hl g0 g1));have t10:ad T1 10=.int .i64 (z:Int):=(hs1.at_ 10 zU).trans (zV (aC hl g0 g1));have hlen:(ag (val R')).length<=m+2:=by
     have h:=I.lt;rw [XY,Wo] at h
     have:=yQ (WW h)
     rwa [hVl] at this
    have p2z:0<2^z:=VL zU;rw [<- eX,<- eV] at I;obtain ⟨f1,f2⟩:=I.fin p2z;have hd1:=D.hd;refine zW (aC hl1 t15 hd1) ?_;refine AnsH.eq (oG C zF (rw':=true) D.lr D.hr zO) fun H2' hk2'=>?_;have k2':Kp H H2':=Kp.trans zK hk2';have w2':=k2'.wf;have hr2:H2'.get rb=some (.cells (aK R') ae true):=hk2'.get D.hr;have hq2:H2'.get qb=some (.cells (aK Q) ae true):=hk2'.get hQ;obtain ⟨E,hE⟩:=qD R';rw [eM D.limR] at hE ⊢;have hn:cp H2' (.own rb 0 (ag (val R')).length (ag (val R')).length 1 true) (val R'):=B9 (rw':=true) (E:=E) (by rw [<- hE]; exact hr2);refine zW (aB hl1 t10) ?_;refine AnsH.use (LP C zF hn (by unfold Sm; omega) zO) ?_;rintro v H3' ⟨o,rfl,ho,hk3'⟩;have k3':Kp H H3':=Kp.trans zK hk3';have w3':=k3'.wf;have hq3:H3'.get qb=some (.cells (aK Q) ae true):=hk3'.get hq2;rw [f2,Z1 _ p2z] at ho;refine zW (aB hl1 t4) ?_;refine AnsH.eq (oG C zF (rw':=true) lQ hq3 zO) fun H4' hk4'=>?_;have k4':Kp H H4':=Kp.trans zK hk4';obtain ⟨E',hE'⟩:=qD Q;rw [eM limQ,f1] at hE' ⊢;refine zW hl1 ?_;refine ⟨_,o,rfl,B9 (rw':=true) (E:=E') ?_,ho.mono (Kp.sub (H:=H3') (Kp.trans zK hk4')),zK⟩;rw [<- hE'];exact hk4'.get hq3
end
end Go.Proofs.YthjdfjlhjnihfaaGreat.Ev
