/- A part. -/
import Derived.Test.YteaefaohjlmjdaaGreatA0
import Derived.Test.YteaefaohjlmjdaaGreatKit
import Derived.KernelRfl
namespace Go.Proofs.YteaefaohjlmjdaaGreat.Ev
open Go Nn
set_option linter.all false
def iQ:∀ {l:List Nat} {k v:Nat},k<l.length->val (l.set k v)+B^k*l.getD k 0=val l+B^k*v
 | a :: l,0,v,_=>by simp [val]; omega
 | a :: l,k+1,v,h=>by
  have ih:=iQ (l:=l) (k:=k) (v:=v) (by simpa using h);simp only [Z8,val,WI,VJ]
  have:=congrArg (B * ·) ih
  simp only [Wa] at this;rw [Vt (B^k) B,VU,VU];omega
def ka {l:List Nat} (h:Lim l) {k v:Nat} (hv:v<B):Lim (l.set k v):=fun a ha=>by
 rcases Xu ha with h1 | h1
 ·exact h a h1
 ·rw [h1]; exact hv
section
variable {tab:Nat->Option aA} {H:Heap} {s:AV} {l:List Nat}
def SlV.clipat {α:Type} {E:fw α} {ty:Nat} {v:AV} {l:List α} (hs:SlV E ty H v l) (k j:IntKind) (n:Nat) (hn:n<=l.length):∃ v',cw E.sz v none (some (.int k (n:Int))) (some (.int j (n:Int)))=some v'/\SlV E ty H v' (l.take n):=by
 obtain ⟨cells,hr,ht,hc⟩:=hs;obtain ⟨m,hm,hlen⟩:=hr.length;have hml:m=l.length:=Xm E.pos (by rw [<- hlen,hc.1]);subst hml;obtain ⟨h0,h1,m',h2,h3⟩:=hr;rw [hm] at h2; cases h2;have hle:n*E.sz<=l.length*E.sz:=Vl _ hn;have hns:∀ x y z,cw E.sz v x y z=bR E.sz v x y z:=fun x y z=>by cases v <;> first | rfl | exact absurd rfl (h1 _)
 rw [hns]
 suffices ∃ v',bR E.sz v none (some (.int k (n:Int))) (some (.int j (n:Int)))=some v'/\Rd H E.sz v' (cells.take (n*E.sz)) by
  obtain ⟨v',e,hr⟩:=this;exact ⟨v',e,_,hr,sq ht (by rw [hns]; exact e),hc.take hn⟩
 cases v with
 | own b off n' c sz' ex =>
  simp only [gP,VL] at hm;subst hm;simp only [aN] at h3;split at h3
  ·rename_i cs ty rw0 hb;split at h3
   ·rename_i hcond;obtain ⟨hsz,-,hcl⟩:=hcond;subst hsz;cases h3;have hnc:l.length<=c:=h0;have et:((cs.drop off).take (l.length*E.sz)).take (n*E.sz)=(cs.drop off).take (n*E.sz):=by rw [Xn,Wi hle]
    rw [et];have hp:bR E.sz (.own b off l.length c E.sz ex) none (some (.int k (n:Int))) (some (.int j (n:Int)))=some (if n=0 then .own b off 0 0 E.sz true else .own b off n n E.sz true):=by
     simp only [bR,fY,ne_eq,not_true_eq_false,if_false,U8,Ww,W3,WU];rw [if_pos ⟨zO,Vb _,Vj _⟩];by_cases h00:n=0
     ·rw [if_pos h00,if_pos h00]; simp [h00]
     ·rw [if_neg h00,if_neg h00]; simp
    refine ⟨_,hp,?_⟩;by_cases h00:n=0
    ·rw [if_pos h00,h00];refine ⟨Vb _,(fun s h=>by cases h),0,rfl,?_⟩;simp only [aN,hb];rw [if_pos ⟨trivial,Vb _,by simp; omega⟩]
    ·rw [if_neg h00];refine ⟨Vb _,(fun s h=>by cases h),n,rfl,?_⟩;simp only [aN,hb];rw [if_pos ⟨trivial,Vb _,zO⟩]
   ·cases h3
  ·cases h3
 | sl cs n' =>
  simp only [gP,VL] at hm;subst hm;simp only [aN] at h3;split at h3
  ·rename_i hcond;cases h3;have hcl:=hcond.2;refine ⟨.sl (cs.take (n*E.sz)) n,?_,trivial,(fun s h=>by cases h),n,rfl,?_⟩
   ·simp only [bR,fY,U8,Ww,W3,WU];rw [if_pos ⟨hn,Vb _,Vj _,zO⟩]
    simp
   ·simp only [aN];rw [if_pos ⟨Vb _,by simp only [VC]; omega⟩];rw [Xn,Xn,Nat.min_self,Wi hle]
  ·cases h3
 | nilSl =>
  simp only [gP,VL] at hm;have hn0:n=0:=zO;subst hn0;simp only [aN] at h3;split at h3
  ·cases h3;exact ⟨.nilSl,rfl,trivial,(fun s h=>by cases h),0,rfl,by simp [aN]⟩
  ·cases h3
 | str s=>exact absurd rfl (h1 s)
 | _=>simp [gP] at hm
def FE (C:Code tab) (hw:Wf H) (hs:Lb H s l) (hbig:l.length<4611686018427387904) :
  Ans tab (.fn uk [s]) H fun v H'=>Lb H' v (eF l)/\Kp H H':=by
 refine cR C.q148 zU fun T hl g0=>?_;refine zW (aE hl g0 hs.lenV) ?_;refine cm H [3] (fun k vs H'=>vs=[.int .i64 (k:Int)]/\eF (l.take k)=eF l/\k<=l.length) l.length (by simp only [U4]; exact hl) rfl zK ⟨by exact zV (aD hl g0),by rw [VD],Vb _⟩ ?_;rintro k T1 H1 hl1 hs1 hk1 ⟨hv,ht,hk⟩;have w1:=hk1.wf;have le_hk1:=hk1.le;simp only [Ve,Vk,Vg,and_true] at hv;have t0:ad T1 0=s:=(hs1.at_ 0 zU).trans (zV (aD hl g0));have fin:∀ (m:Nat),eF (l.take k)=l.take k->∀ v',cw 1 s none (some (.int .i64 (k:Int))) (some (.int .i64 (k:Int)))=some v'->Lb H v' (l.take k)->Lb (H1.up m) v' (eF l):=fun m h1 v' _ h2=>by
  rw [<- ht,h1]; exact h2.mono (hk1.up m).sub
 obtain ⟨v',e,hr⟩:=SlV.clipat hs .i64 .i64 k hk;have e':cw 1 s none (some (.int .i64 (k:Int))) (some (.int .i64 (k:Int)))=some v':=e;rcases Xb (l.take k) with h0 | ⟨l',a,h0⟩
 ·have hk0:k=0:=by
   have:=congrArg List.length h0; simp at this; rcases this with h | h
   ·exact h
   ·subst h; simpa using hk
  subst hk0;have z:¬ (0:Int)<((0:Nat):Int):=zO;refine zW (bA hl1 hv t0 z e') ?_;exact ⟨fin _ (by simp; rfl) _ e' hr,zK⟩
 ·rw [Xc] at h0;have hk1':k=l'.length+1:=by have:=congrArg List.length h0; simp at this; omega
  subst hk1';have hl':l.take l'.length=l':=by
   have:=congrArg (List.take l'.length) h0
   rw [Xn,Wi zO] at this
   simpa using this
  have hwr:IntKind.i64.wrap (((l'.length+1:Nat):Int)-1)=(l'.length:Int):=by rw [wrap_i64] <;> omega
  have hpos:0<l'.length+1:=zO;have hix:=SlV.idx1 (hs.mono hk1.sub) .i64 l'.length zO;have hga:l.getD l'.length 0=a:=by
   have this:(l.take (l'.length+1)).getD l'.length 0=(l'++[a]).getD l'.length 0:=by rw [h0]
   rw [U5,Vv,if_pos zO,<- U5] at this;rw [this]; simp [U5]
  have hld:=fp (hs.mono hk1.sub) (i:=l'.length) zO;rw [hga] at hld;refine zW (fy hl1 hv t0 hpos hix hld hwr) ?_;refine iteH.split (fun ha=>?_) fun ha=>?_
  ·have ha0:a=0:=zO;subst ha0;refine zW (aQ hl1 hv t0 hwr) ?_;refine ⟨zK,l'.length,zO,rfl,?_,zO⟩;rw [hl',<- ht,h0,dY]
  ·have ha':a≠0:=zO;refine zW (aQ hl1 hv t0 e') ?_;exact ⟨fin _ (by rw [h0,iS ha']) _ e' hr,zK⟩
def Fi {x y o c:Nat} (hx:x<B) (hy:y<B) (ho:o<B) (hc:c<B) :
  (eQ (eQ (x*y % B) o 0).1 c 0).1+B*(((x*y / B+(eQ (x*y % B) o 0).2) % B+(eQ (eQ (x*y % B) o 0).1 c 0).2) % B)=x*y+o+c:=by
 have hp:x*y<=18446744073709551615*18446744073709551615:=Wq (by unfold B at hx; omega) (by unfold B at hy; omega);simp only [eQ,B] at *
 generalize x*y=p at *
 omega
def Hw {out b:List Nat} {i j x c V0 l2 c':Nat} (hlt:i+j<out.length) (hv:val out+B^(i+j)*c=V0+B^i*x*val (b.take j)) (he:l2+B*c'=x*b.getD j 0+out.getD (i+j) 0+c) :
  val (out.set (i+j) l2)+B^(i+(j+1))*c'=V0+B^i*x*val (b.take (j+1)):=by
 have h1:=iQ (l:=out) (k:=i+j) (v:=l2) hlt;rw [cS];have h2:B^(i+(j+1))*c'=B^(i+j)*(B*c'):=by rw [<- Wb,VJ,VU]
 have h3:B^i*x*(val (b.take j)+B^j*b.getD j 0)=B^i*x*val (b.take j)+B^(i+j)*(x*b.getD j 0):=by rw [Wa,VZ]; grind
 rw [h2,h3];have h4:=congrArg (B^(i+j) * ·) he;simp only [Wa] at h4
 generalize B^(i+j)*(B*c')=q1 at *
 generalize B^(i+j)*l2=q2 at *
 generalize B^(i+j)*(x*b.getD j 0)=q3 at *
 generalize B^(i+j)*c=q4 at *
 generalize B^(i+j)*out.getD (i+j) 0=q5 at *
 omega
def bk {l:List Nat} {i k v:Nat} (h:i≠k):(l.set i v).getD k 0=l.getD k 0:=by
 rw [U5,U5,W9,if_neg h]
def Ig (C:Code tab) (hw:Wf H) {sa sb:AV} {a b:List Nat} (ha:Lb H sa a) (hb:Lb H sb b) (hla:a.length<1099511627776) (hlb:b.length<1099511627776) (la:Lim a) (lb:Lim b) :
  Ans tab (.fn pK [sa,sb]) H fun v H'=>Lb H' v (ag (val a*val b))/\Kp H H':=by
 refine bB C.q121 zU fun T hl g0 g1=>?_;have hwr:IntKind.i64.wrap ((a.length:Int)+(b.length:Int))=((a.length+b.length:Nat):Int):=by rw [wrap_i64] <;> omega
 obtain ⟨N,hN⟩:∃ N,a.length+b.length=N:=⟨_,rfl⟩
 rw [hN] at hwr;have hmk:∀ H' id,Jy H' id ae 1 8 [.int .u64 0] (.int .i64 (N:Int)) (.int .i64 (N:Int))=some (.own id 0 N N 1 true,H'.put id (.cells (aM (List.replicate N 0)) ae true)):=fun H' id=>by
  exact (jc H' id ae 1 8 [.int .u64 0] .i64 .i64 N zO zO rfl).trans (by rw [mH])
 refine zW (fy hl g0 g1 ha.lenV hb.lenV hwr hmk) ?_;refine aq H [] (fun i vs H'=>∃ out,H'.get (H.next+6)=some (.cells (aM out) ae true)/\out.length=N/\Lim out/\val out=val (a.take i)*val b/\∀ k,i+b.length<=k->out.getD k 0=0) (a:=0) (N:=a.length) rfl (by refine zW (aE hl g0 g1) ?_; rfl) (zV (aE hl g0 g1)) (Vj _) zO (by simp only [U4,hl]; rfl) rfl (fun _ _ _ _ h=>h) zK
  ⟨List.replicate N 0,by exact cH,by simp,Lim.replicate N,by rw [fK]; simp [val],fun k _=>by simp [U5,V9]; split <;> rfl⟩ ?_ ?_
 ·rintro i T1 H1 _ hi hl1 hi1 hs1 hk1 ⟨out,b6,hlen,hlim,hval,hz⟩;simp only [U4,hl] at hl1;have w1:=hk1.wf;have le_hk1:=hk1.le;have t5:ad T1 5=.own (H.next+6) 0 N N 1 true:=(hs1.at_ 5 zU).trans (zV (aE hl g0 g1));have t1:ad T1 1=sb:=(hs1.at_ 1 zU).trans (zV (aQ hl g0 g1 g1));have t20:ad T1 20=sa:=(hs1.at_ 20 zU).trans (zV (aE hl g0 g1));have hix:=SlV.idx1 ha .i64 i hi;have hld:=fp (ha.mono hk1.sub) hi;refine zW (iy hl1 t5 t1 t20 hi1 hix hld hb.lenV) ?_;have hxB:=la.at i;refine aq H [8] (fun j vs H'=>∃ o c:_,vs=[.int .u64 ((c:Nat):Int)]/\H'.get (H.next+6)=some (.cells (aM o) ae true)/\o.length=N/\Lim o/\c<B/\val o+B^(i+j)*c=val (a.take i)*val b+B^i*a.getD i 0*val (b.take j)/\∀ k,i+b.length<=k->o.getD k 0=0) (a:=0) (N:=b.length) rfl (by refine zW hl1 ?_; rfl) (zV hl1) (Vj _) zO (by simp only [U4,hl1]; rfl) rfl (fun _ _ _ _ h=>h) zK
   ⟨out,0,by refine zW hl1 ?_; rfl,b6,hlen,hlim,by decide,by simp [hval,val],hz⟩ ?_ ?_
  ·rintro j T2 H2 _ hj hl2 hi2 hs2 hk2 ⟨o,c,hv,c6,holen,holim,hc,hoval,hoz⟩;simp only [U4,hl1] at hl2;simp only [Ve,Vk,Vg,and_true] at hv;have w2:=hk2.wf;have le_hk2:=hk2.le;have u5:ad T2 5=.own (H.next+6) 0 N N 1 true:=(hs2.at_ 5 zU).trans (zV (aD hl1 t5));have u6:ad T2 6=.int .i64 (i:Int):=(hs2.at_ 6 zU).trans (zV hl1);have u7:ad T2 7=.int .u64 ((a.getD i 0:Nat):Int):=(hs2.at_ 7 zU).trans (zV hl1);have u27:ad T2 27=sb:=(hs2.at_ 27 zU).trans (zV (aD hl1 t1));have hjx:=SlV.idx1 hb .i64 j hj;have hjd:=fp (hb.mono hk2.sub) hj;have hyB:=lb.at j;have hwij:IntKind.i64.wrap ((i:Int)+(j:Int))=((i+j:Nat):Int):=by rw [wrap_i64] <;> omega
   have hoB:=holim.at (i+j);refine zW (iy hl2 u5 u6 u7 u27 hi2 hjx hjd) ?_;refine AnsH.use (pZ C zF hxB hyB) ?_;rintro v H3 ⟨rfl,hk3⟩;obtain ⟨k3,_,w3⟩:=zT H zK hk3;have d6:=hk3.get (b:=H.next+6) c6;refine zW (jW hl2 u5 u6 u7 u27 hi2 hv hwij d6) ?_;refine AnsH.eq (iN C _ (a.getD i 0*b.getD j 0 % B) (o.getD (i+j) 0) 0 (V4 _ zU) hoB zO) fun H4 e4=>?_;subst e4;refine zW (jW hl2 u5 u6 u7 u27 hi2 hv hwij d6) ?_;refine AnsH.eq (iN C _ (eQ (a.getD i 0*b.getD j 0 % B) (o.getD (i+j) 0) 0).1 c 0 (V4 _ zU) hc zO) fun H4 e4=>?_;subst e4;have lt6:=k3.wf _ _ d6;refine zW (jW hl2 u5 u6 u7 u27 hi2 hv hwij d6) ?_;have hs:=Fi hxB hyB hoB hc;refine ⟨zK,_,_,rfl,rfl,by simp [holen],ka holim (V4 _ zU),V4 _ zU,Hw zO hoval hs,fun k hk=>?_⟩;rw [bk zO];exact hoz k hk
  ·intro T2 H2 hl2 hs2 hk2 ⟨o,c,hv,c6,holen,holim,hc,hoval,hoz⟩;simp only [U4,hl1] at hl2;simp only [Ve,Vk,Vg,and_true] at hv;have w2:=hk2.wf;have le_hk2:=hk2.le;have u5:ad T2 5=.own (H.next+6) 0 N N 1 true:=(hs2.at_ 5 zU).trans (zV (aD hl1 t5));have u6:ad T2 6=.int .i64 (i:Int):=(hs2.at_ 6 zU).trans (zV hl1);have u1:ad T2 1=sb:=(hs2.at_ 1 zU).trans (zV (aD hl1 t1));have hwij:IntKind.i64.wrap ((i:Int)+(b.length:Int))=((i+b.length:Nat):Int):=by rw [wrap_i64] <;> omega
   have lt6:=hk2.wf _ _ c6;refine zW (iy hl2 u5 u6 u1 hv hwij c6 hb.lenV) ?_;have h1:=iQ (l:=o) (k:=i+b.length) (v:=c) zO;rw [hoz _ (Vb _)] at h1;rw [VF (Vb _)] at hoval;refine ⟨zK,_,rfl,by simp [holen],ka holim hc,?_,fun k hk=>?_⟩
   ·rw [cS,Wh]; omega
   ·rw [bk zO];exact hoz k zO
 ·intro T1 H1 hl1 hs1 hk1 ⟨out,b6,hlen,hlim,hval,hz⟩;simp only [U4,hl] at hl1;have w1:=hk1.wf;have le_hk1:=hk1.le;have t5:ad T1 5=.own (H.next+6) 0 N N 1 true:=(hs1.at_ 5 zU).trans (zV (aE hl g0 g1));rw [VF (Vb _)] at hval;have ho:=(vA (H0:=H) (ex:=true) b6 zO hlen).sl;refine zW (aD hl1 t5) ?_;refine AnsH.use (FE C zF (ho.mono (Sub.bump H1 _)) zO) ?_;rintro v H2 ⟨h2,hk2⟩;obtain ⟨k2,_,_⟩:=zT H zK hk2;rw [eA hlim,hval] at h2;refine zW hl1 ?_;exact ⟨h2,zK⟩
end
def AO {n m:Nat} (h:n<=m):(ag n).length<=(ag m).length:=bi (Wd h (ip m))
def Sm.mono {n m:Nat} (h:n<=m) (hm:Sm m):Sm n:=Wd (AO h) hm
def mF:∀ (k n:Nat),(ag n).drop k=ag (n / B^k)
 | 0,n=>by simp
 | k+1,n=>by
  by_cases h:n=0
  ·subst h; simp [cK]
  ·rw [jS h,List.drop_succ_cons,mF k,We,VJ,Vt B]
def qD:∀ (k n:Nat),val ((ag n).take k)=n % B^k
 | 0,n=>by simp [val,Nat.mod_one]
 | k+1,n=>by
  by_cases h:n=0
  ·subst h; simp [cK,val]
  ·rw [jS h,ZZ,val,qD k,VJ,Vt (B^k),Nat.mod_mul]
def FM {n:Nat} (h:n≠0) (k:Nat):List.replicate k 0++ag n=ag (n*B^k):=by
 have hne:ag n≠[]:=fun h1=>h (limbs_nil.1 h1);rw [<- xA (l:=List.replicate k 0++ag n) ((Lim.replicate k).append (bo n)) ?_,po,fK,bH,XG,VQ,Vt];unfold My;rw [List.getLast?_append];have hn:=dt n;unfold My at hn;cases hg:(ag n).getLast? with
 | none=>exact absurd (List.getLast?_eq_none_iff.1 hg) hne
 | some a=>rw [hg] at hn; simpa using hn
section
variable {tab:Nat->Option aA} {H:Heap} {s:AV}
def eN (H:Heap):bJ H .nilSl 0:=by
 show BR cj ae H .nilSl (ag 0);rw [cK]; exact SlV.nil _ _ _
def nH (ls:List Nat) {j:Nat} (hj:j<ls.length):(ls.take (j+1)).sum=(ls.take j).sum+ls[j]:=by
 rw [Vi hj,List.sum_append]; simp only [Yd,List.sum_nil,WL]
def yd (ls:List Nat):∀ j,(ls.take j).sum<=ls.sum:=fun j=>by
 conv=>rhs; rw [<- ZJ j ls,List.sum_append]
 omega
def D9 (C:Code tab) (hw:Wf H) {ls:List Nat} {ty:Nat} (hs:BR (tk (bS cj) ae) ty H s (ls.map ag)) (hbig:ls.length<4611686018427387904) (hsm:Sm ls.sum) :
  Ans tab (.fn xl [s]) H fun v H'=>bJ H' v ls.sum/\Kp H H':=by
 refine cR C.q123 zU fun T hl g0=>?_;have hlen:=hs.lenV;rw [Vc] at hlen;refine zW (aE hl g0 hlen) ?_;refine aq H [2] (fun j vs H'=>∃ v,vs=[v]/\bJ H' v (ls.take j).sum) (a:=0) (N:=ls.length) rfl (by refine zW (aD hl g0) ?_; rfl) (zV (aD hl g0)) (Vj _) zO (by simp only [U4,hl]; rfl) rfl (fun _ _ _ _ h=>h) zK ⟨.nilSl,by exact zV (aD hl g0),eN _⟩ ?_ ?_
 ·rintro j T1 H1 _ hj hl1 hi1 hs1 hk1 ⟨v,hv,hn⟩;simp only [Ve,Vk,Vg,and_true] at hv;simp only [U4,hl] at hl1;have w1:=hk1.wf;have le_hk1:=hk1.le;have t5:ad T1 5=s:=(hs1.at_ 5 zU).trans (zV (aD hl g0));obtain ⟨c,hcr,hld⟩:=SlV.at1 (hs.mono hk1.sub) (i:=j) (a:=ag ls[j]) (by simp [hj]);have hix:=SlV.idx1 hs .i64 j (by simpa using hj);have hsj:Sm (ls.take (j+1)).sum:=hsm.mono (yd ls _);rw [nH ls hj] at hsj;refine zW (dL hl1 t5 hi1 hix hld hv) ?_;refine AnsH.use (Ju C zF (hn.mono (zG H1)) (SlV.mono (zG H1) hcr) (hsj.mono zO) (hsj.mono zO)) ?_;rintro v2 H2 ⟨o,rfl,ho,hk2⟩;obtain ⟨k2,_,_⟩:=zT H zK hk2;refine zW hl1 ?_;refine ⟨zK,o,rfl,?_⟩;rw [nH ls hj]; exact ho
 ·rintro T1 H1 hl1 hs1 hk1 ⟨v,hv,hn⟩;simp only [Ve,Vk,Vg,and_true] at hv;simp only [U4,hl] at hl1;rw [VF (Vb _)] at hn;refine zW (aD hl1 hv) ?_;exact ⟨hn,hk1⟩
def N7 (C:Code tab) (hw:Wf H) {a:AV} {n:Nat} {ls:List Nat} {ty:Nat} (ha:bJ H a n) (hs:BR (tk (bS cj) ae) ty H s (ls.map ag)) (hbig:ls.length<4611686018427387904) (hsm:Sm n) (hle:ls.sum<=n) :
  Ans tab (.fn ul [a,s]) H fun v H'=>bJ H' v (n-ls.sum)/\Kp H H':=by
 refine bB C.q124 zU fun T hl g0 g1=>?_;have hlen:=hs.lenV;rw [Vc] at hlen;refine zW (aQ hl g0 g1 hlen) ?_;refine aq H [0] (fun j vs H'=>∃ v,vs=[v]/\bJ H' v (n-(ls.take j).sum)) (a:=0) (N:=ls.length) rfl (by refine zW (aE hl g0 g1) ?_; rfl) (zV (aE hl g0 g1)) (Vj _) zO (by simp only [U4,hl]; rfl) rfl (fun _ _ _ _ h=>h) zK ⟨a,by exact zV (aD hl g0),ha.mono (zG H)⟩ ?_ ?_
 ·rintro j T1 H1 _ hj hl1 hi1 hs1 hk1 ⟨v,hv,hn⟩;simp only [Ve,Vk,Vg,and_true] at hv;simp only [U4,hl] at hl1;have w1:=hk1.wf;have le_hk1:=hk1.le;have t7:ad T1 7=s:=(hs1.at_ 7 zU).trans (zV (aQ hl g0 g1 g1));obtain ⟨c,hcr,hld⟩:=SlV.at1 (hs.mono hk1.sub) (i:=j) (a:=ag ls[j]) (by simp [hj]);have hix:=SlV.idx1 hs .i64 j (by simpa using hj);have hsj:=yd ls (j+1);have hsj2:=nH ls hj;refine zW (dL hl1 t7 hi1 hix hld hv) ?_;refine AnsH.use (DZ C zF (hn.mono (zG H1)) (SlV.mono (zG H1) hcr) (hsm.mono zO) (hsm.mono zO)) ?_;rintro v2 H2 ⟨hk2,hr⟩;rw [if_pos zO] at hr;obtain ⟨o,rfl,ho⟩:=hr;obtain ⟨k2,_,_⟩:=zT H zK hk2;refine zW hl1 ?_;refine ⟨zK,o,rfl,?_⟩;rw [hsj2,<- Nat.sub_sub]; exact ho
 ·rintro T1 H1 hl1 hs1 hk1 ⟨v,hv,hn⟩;simp only [Ve,Vk,Vg,and_true] at hv;simp only [U4,hl] at hl1;rw [VF (Vb _)] at hn;refine zW (aD hl1 hv) ?_;exact ⟨hn.mono (Sub.bump H1 _),zK⟩
def N6 (C:Code tab) (hw:Wf H) {a:AV} {n k:Nat} (ha:bJ H a n) (hsm:Sm n) (hk:k<4398046511104) :
  Ans tab (.fn AG [a,.int .i64 (k:Int)]) H fun v H'=>bJ H' v (n*B^k)/\Kp H H':=by
 refine bB C.q125 zU fun T hl g0 g1=>?_;unfold Sm at hsm;by_cases h0:n=0
 ·subst h0;have e:lenV a=some (.int .i64 0):=by have:=ha.lenV; rwa [cK] at this
  refine zW (aQ hl g0 g1 e) ?_;rw [Yw];exact ⟨eN _,zK⟩
 ·have hlen:¬ ((ag n).length:Int)=0:=by have:=(bI n).2 h0; omega
  have hmk:∀ H' id,Jy H' id ae 1 8 [.int .u64 0] (.int .i64 (k:Int)) (.int .i64 (k:Int))=some (.own id 0 k k 1 true,H'.put id (.cells (aM (List.replicate k 0)) ae true)):=fun H' id =>
   (jc H' id ae 1 8 [.int .u64 0] .i64 .i64 k zO zO rfl).trans (by rw [mH])
  refine zW (dL hl g0 g1 ha.lenV hlen hmk) ?_;have k1:Kp H ((H.up 9).put (H.next+5) (.cells (aM (List.replicate k 0)) ae true)):=zK;have le_k1:=k1.le;have h0':=(vA (H0:=H) (H:=(H.up 9).put (H.next+5) (.cells (aM (List.replicate k 0)) ae true)) (ex:=true) (n:=k) (ap _ _ _) zO (by simp)).sl;have h1:SlV (bS cj) ae ((H.up 9).put (H.next+5) (.cells (aM (List.replicate k 0)) ae true)) (.own (H.next+5) 0 (List.replicate k 0).length (List.replicate k 0).length 1 true) (List.replicate k 0):=by simpa using h0'
  obtain ⟨v',H2,e1,h2,hk2,hn2,hs2,-⟩:=SlV.app (id:=H.next+7) (bytes:=8) h1 k1 (ha.mono k1.sub) zO (by show _<H.next+9; omega) (by rw [az zO]; exact hw.fresh (b:=H.next+7) zO) zS zS;have e1':dI ((H.up 9).put (H.next+5) (.cells (aM (List.replicate k 0)) ae true)) (H.next+7) 1 8 ae (.own (H.next+5) 0 k k 1 true) a=some (v',H2):=by rw [XG] at e1; exact e1
  rw [FM h0] at h2;refine zW (aQ hl g0 g1 e1') ?_;exact ⟨h2,hk2⟩
def Cz (C:Code tab) (hw:Wf H) {a:AV} {n k:Nat} (ha:bJ H a n) (hsm:Sm n) (hk:k<4398046511104) :
  Ans tab (.fn rh [a,.int .i64 (k:Int)]) H fun v H'=>∃ p q,v=.tup [p,q]/\bJ H' p (n % B^k)/\bJ H' q (n / B^k)/\Kp H H':=by
 refine bB C.q122 zU fun T hl g0 g1=>?_;unfold Sm at hsm;obtain ⟨m,hm⟩:∃ m,m=min k (ag n).length:=⟨_,rfl⟩
 have hmin:Ij (.int .i64 (k:Int)) (.int .i64 ((ag n).length:Int))=some (.int .i64 (m:Int)):=by rw [zi]; congr 2; split <;> omega
 obtain ⟨p,e1,hp⟩:=SlV.clipat ha .i64 .i64 m zO;obtain ⟨q,e2,hq⟩:=ha.lo .i64 m zO;have e1':cw 1 a none (some (.int .i64 (m:Int))) (some (.int .i64 (m:Int)))=some p:=e1;have e2':cw 1 a (some (.int .i64 (m:Int))) none none=some q:=e2;have et:(ag n).take m=(ag n).take k:=by
  by_cases h:k<=(ag n).length
  ·rw [hm,Wi h]
  ·rw [hm,YN zO,VF (Vb _),VF zO]
 have ed:(ag n).drop m=(ag n).drop k:=by
  by_cases h:k<=(ag n).length
  ·rw [hm,Wi h]
  ·rw [hm,YN zO,X9 (Vb _),X9 zO]
 refine zW (bA hl g0 g1 ha.lenV hmin) ?_;refine aF ?_;refine zD (bA hl g0 g1 e1' e2') ?_;refine AnsH.use (FE C zF (hp.mono (zG H)) (by rw [VC]; omega)) ?_;rintro v H2 ⟨h2,hk2⟩;obtain ⟨k2,_,_⟩:=zT H zK hk2;rw [eA ((bo n).take m),et,qD] at h2;rw [ed,mF] at hq;refine zD (bA hl g0 g1 e1' e2') ?_;exact ⟨v,q,rfl,h2,hq.mono k2.sub,k2⟩
def gM (C:Code tab) (hw:Wf H) {a:AV} {n:Nat} (ha:bJ H a n) (hsm:Sm n):Ans tab (.fn nh [a]) H fun v H'=>v=.int .i64 0/\Kp H H':=by
 unfold Sm at hsm;exact (oP C hw ha zO).mono fun v H' ⟨h1,h2⟩=>⟨by rw [h1,if_neg (dt n)],h2⟩
def FF (C:Code tab) (hw:Wf H) {a b:AV} {x y fi:Nat} {first:List AV} (ha:bJ H a x) (hb:bJ H b y) (hx:Sm x) (hy:Sm y) {R:Heap->AV->Prop} (hR:∀ H' v m,R H' v->R (H'.up m) v)
  (hf:∀ H',Kp H H'->Ans tab (.fn fi (first++[a,b])) H' fun v H2=>R H2 v/\Kp H H2) :
  Ans tab (.fn nV [a,b,.fn (.func fi) first []]) H fun v H'=>∃ r,v=.tup [r,.int .i64 0]/\R H' r/\Kp H H':=by
 refine kS C.q106 zU fun T hl g0 g1 g2=>?_;have oa:=ha.one;have ob:=hb.one;refine zW (aQ hl g0 g1 g2) ?_;refine cm H [14] (fun k vs H'=>∃ i:Nat,vs=[.int .i64 (i:Int)]/\i+k=2) 2 (by simp only [U4]; exact hl) rfl zK ⟨0,by refine zW (aQ hl g0 g1 g2) ?_; rfl,rfl⟩ ?_;rintro k T1 H1 hl1 hs1 hk1 ⟨i,hv,hik⟩;simp only [Ve,Vk,Vg,and_true] at hv;have w1:=hk1.wf;have le_hk1:=hk1.le;have t13:ad T1 13=.agg [a,b]:=(hs1.at_ 13 zU).trans (zV (aE hl g0 g1));have t0:ad T1 0=a:=(hs1.at_ 0 zU).trans (zV (aD hl g0));have t1:ad T1 1=b:=(hs1.at_ 1 zU).trans (zV (bA hl g0 g1 g2 g1));have t2:ad T1 2=.fn (.func fi) first []:=(hs1.at_ 2 zU).trans (zV (bA hl g0 g1 g2 g2))
 match i,hik with
 | 0,hik =>
  have hv':ad T1 14=.int .i64 0:=hv;have e:IntKind.i64.wrap (0+1)=((1:Nat):Int):=by decide
  refine zW (aE hl1 hv' t13) ?_;refine AnsH.eq (gM C zF (ha.mono (zG H)) hx) fun H2 hk2=>?_;obtain ⟨k2,_,_⟩:=zT H zK hk2;refine zW (aE hl1 hv' e) ?_;exact ⟨zK,k-1,zO,1,rfl,zO⟩
 | 1,hik =>
  have hv':ad T1 14=.int .i64 1:=hv;have e:IntKind.i64.wrap (1+1)=((2:Nat):Int):=by decide
  refine zW (aE hl1 hv' t13) ?_;refine AnsH.eq (gM C zF (hb.mono (zG H)) hy) fun H2 hk2=>?_;obtain ⟨k2,_,_⟩:=zT H zK hk2;refine zW (aE hl1 hv' e) ?_;exact ⟨zK,k-1,zO,2,rfl,zO⟩
 | 2,hik =>
  have hv':ad T1 14=.int .i64 2:=hv;refine zW (bA hl1 hv' t0 t1 t2) ?_;refine AnsH.use (hf _ zK) ?_;rintro v H2 ⟨h2,hk2⟩;refine zW hl1 ?_;exact ⟨v,rfl,h2,hk2⟩
 | i+3,hik=>omega
def Uk {H H1:Heap} {b ty t1:Nat} {α:Type} {E:fw α} {x y z:AV} {l m n:List α} (hx:SlV E t1 H x l) (hy:SlV E t1 H y m) (hz:SlV E t1 H z n) (hs:Sub H H1) (hg:H1.get b=some (.cells [x,y,z] ty true)):BR (tk E t1) ty H1 (.own b 0 3 3 1 true) [l,m,n] :=
 ⟨[x,y,z],Rd.own hg rfl (Vb _),fun _ _ _ _ _ _ e=>by cases e; exact ⟨_,_,hg⟩,rfl,fun i a hi=>by
  match i with
  | 0=>simp at hi; subst hi; exact ⟨x,rfl,hx.mono hs⟩
  | 1=>simp at hi; subst hi; exact ⟨y,rfl,hy.mono hs⟩
  | 2=>simp at hi; subst hi; exact ⟨z,rfl,hz.mono hs⟩
  | i+3=>simp at hi⟩
def Fd {x m h:Nat} (hx:x<B^m) (h1:h<=m):x / B^h<B^(m-h):=by
 apply ZP
 rw [<- VZ]
 have:h+(m-h)=m:=zO
 rw [this]; exact hx
def Sm.of {n k:Nat} (h:n<B^k) (hk:k<1099511627776):Sm n:=Wd (bi h) hk
def xz {n m:Nat} (h:(ag n).length<=m):n<B^m:=Vq (ip n) (Vx zU h)
set_option maxHeartbeats 2000000 in
def N8 (C:Code tab):∀ (M:Nat) {H:Heap} {a b:AV} {x y:Nat},Wf H->bJ H a x->bJ H b y->max (ag x).length (ag y).length=M->M<274877906944 ->
  Ans tab (.fn ia [.int .i64 8,a,b]) H fun v H'=>bJ H' v (x*y)/\Kp H H':=by
 intro M
 induction M using Nat.strongRecOn with
 | _ M ih =>
 intro H a b x y hw ha hb hM hbig;refine kS C.q105 zU fun T hl g0 g1 g2=>?_;obtain ⟨mn,hmn⟩:∃ mn,mn=min (ag x).length (ag y).length:=⟨_,rfl⟩
 have hmin:Ij (.int .i64 ((ag x).length:Int)) (.int .i64 ((ag y).length:Int))=some (.int .i64 (mn:Int)):=by rw [zi]; congr 2; split <;> omega
 have hmax:Lj (.int .i64 ((ag x).length:Int)) (.int .i64 ((ag y).length:Int))=some (.int .i64 (M:Int)):=by rw [Eb]; congr 2; split <;> omega
 refine zW (fy hl g0 g1 g2 ha.lenV hb.lenV hmin) ?_;refine iteH.split (fun h=>?_) fun h=>?_
 ·refine zW (aQ hl g0 g1 g2) ?_;refine AnsH.use (Ig C zF (ha.mono (zG H)) (hb.mono (zG H)) zO zO (bo x) (bo y)) ?_;rintro v H2 ⟨h2,hk2⟩;obtain ⟨k2,_,_⟩:=zT H zK hk2;rw [bH,bH] at h2;refine zW (aQ hl g0 g1 g2) ?_;exact ⟨h2,zK⟩
 ·have hM9:9<=M:=zO;obtain ⟨k,hk⟩:∃ k,k=(M+1) / 2:=⟨_,rfl⟩
  have hw1:IntKind.i64.wrap ((M:Int)+1)=((M+1:Nat):Int):=by rw [wrap_i64] <;> omega
  have hq:bV .quo .int (.int .i64 ((M+1:Nat):Int)) (.int .i64 2)=some (.int .i64 (k:Int)):=by
   show some (AV.int .i64 (IntKind.i64.wrap (((M+1:Nat):Int).tdiv 2)))=_
   have:((M+1:Nat):Int).tdiv 2=(k:Int):=by rw [Yk zO]; omega
   rw [this,wrap_i64] <;> omega
  have hxM:x<B^M:=xz zO;have hyM:y<B^M:=xz zO;have hkM:M-k<=k/\k<=M/\k+1<M:=zO;have hx0:x % B^k<B^k:=V4 _ (VK zU);have hy0:y % B^k<B^k:=V4 _ (VK zU);have hx1:x / B^k<B^(M-k):=Fd hxM hkM.2.1;have hy1:y / B^k<B^(M-k):=Fd hyM hkM.2.1;have hpk:B^(M-k)<=B^k:=Vx zU hkM.1;have hpk1:2*B^k<=B^(k+1):=by rw [VJ,Vt]; exact Xo _ zU
  have hex:x=x / B^k*B^k+x % B^k:=(Yp x (B^k)).symm;have hey:y=y / B^k*B^k+y % B^k:=(Yp y (B^k)).symm;have hw2:IntKind.i64.wrap (2*(k:Int))=((2*k:Nat):Int):=by rw [wrap_i64] <;> omega
  have hsx:Sm x:=Sm.of hxM zO;have hsy:Sm y:=Sm.of hyM zO;have hprod:x*y<B^(M+M):=by rw [VZ]; exact ZA hxM hyM
  have hsxy:Sm (x*y):=Sm.of hprod zO;refine zW (jW hl g0 g1 g2 ha.lenV hb.lenV hmax hw1 hq) ?_;refine AnsH.use (Cz C zF (ha.mono (zG H)) hsx zO) ?_;rintro v H1 ⟨p0,p1,rfl,hp0,hp1,hk1⟩;obtain ⟨k1,_,w1⟩:=zT H zK hk1;refine zW (aQ hl g0 g1 g2) ?_;refine AnsH.use (Cz C zF (hb.mono (zG H)) hsy zO) ?_;rintro v H2 ⟨q0,q1,rfl,hq0,hq1,hk2⟩;obtain ⟨k12,_,_⟩:=zT H1 zK hk2;have k2:Kp H H2:=k1.trans k12;have le_k2:=k2.le;have w2:=k2.wf;have hp0:=hp0.mono k12.sub;have hp1:=hp1.mono k12.sub
  generalize x % B^k=x0 at *
  generalize x / B^k=x1 at *
  generalize y % B^k=y0 at *
  generalize y / B^k=y1 at *
  have lx0:(ag x0).length<=k:=bi hx0;have ly0:(ag y0).length<=k:=bi hy0;have lx1:(ag x1).length<=k:=bi zO;have ly1:(ag y1).length<=k:=bi zO;refine zW (aQ hl g0 g1 g2) ?_;refine AnsH.use (ih _ zO zF (hp0.mono (zG H2)) (hq0.mono (zG H2)) rfl zO) ?_;rintro r0 H3 ⟨hr0,hk3⟩;obtain ⟨k23,_,w3⟩:=zT H2 zK hk3;refine zW (aQ hl g0 g1 g2) ?_;refine AnsH.use (ih _ zO zF (hp1.mono (zG H2)) (hq1.mono (zG H2)) rfl zO) ?_;rintro r1 H4 ⟨hr1,hk4⟩;obtain ⟨k34,_,_⟩:=zT H3 zK hk4;have k24:Kp H2 H4:=k23.trans k34;have le_k24:=k24.le;have w4:=k34.wf;have hr0:=hr0.mono k34.sub;have hp0:=hp0.mono k24.sub;have hp1:=hp1.mono k24.sub;have hq0:=hq0.mono k24.sub;have hq1:=hq1.mono k24.sub;have op0:=hp0.one;have op1:=hp1.one;have oq0:=hq0.one;have oq1:=hq1.one;have or0:=hr0.one;have or1:=hr1.one;refine zW (aQ hl g0 g1 g2) ?_;refine AnsH.use (D9 C (ls:=[x0,x1]) zF (B2 hp0 hp1 (zG H4) (by refine uH ?_; rfl)) (by simp) (Sm.of (k:=k+1) zS zO)) ?_;rintro sx H5 ⟨hsx',hk5⟩;obtain ⟨k45,_,w5⟩:=zT H4 zK hk5;have n5:H4.next+15<=H5.next:=hk5.le
  have f4:∀ c,c<15->c≠3->H5.get (H4.next+c)=none:=fun c hc h3=>hk5.free (show _<H4.next+15 by omega) (by rw [az zO]; exact w4.fresh (b:=H4.next+c) zO);have oq0':=oq0;refine zW (aQ hl g0 g1 g2) ?_;have s5:Sub H5 (H5.put (H4.next+7) (.cells [q0,q1] aI true)):=aJ (f4 7 zO zO);refine AnsH.use (D9 C (ls:=[y0,y1]) zF (B2 (hq0.mono k45.sub) (hq1.mono k45.sub) s5 (by refine uH ?_; rfl)) (by simp) (Sm.of (k:=k+1) zS zO)) ?_;rintro sy H6 ⟨hsy',hk6⟩;obtain ⟨k46,_,_⟩:=zT H4 zK hk6;have s56:Sub H5 H6:=s5.trans hk6.sub;have w6:=k46.wf;have n6:H5.next<=H6.next:=hk6.le
  have f6:H6.get (H4.next+12)=none:=hk6.free (show _<H5.next by omega) (by rw [az zO]; exact f4 12 zO zO);have ex0:[x0,x1].sum=x0+x1:=by simp
  have ey0:[y0,y1].sum=y0+y1:=by simp
  rw [ex0] at hsx';rw [ey0] at hsy';have lsx:(ag (x0+x1)).length<=k+1:=bi zO;have lsy:(ag (y0+y1)).length<=k+1:=bi zO;refine zW (aQ hl g0 g1 g2) ?_;refine AnsH.use (ih _ zO zF (hsx'.mono s56) hsy' rfl zO) ?_;rintro m0 H7 ⟨hm0,hk7⟩;have k47:Kp H4 H7:=k46.trans hk7;have le_k47:=k47.le;have w7:=k47.wf;have n7:H6.next<=H7.next:=hk7.le
  have f7:H7.get (H4.next+12)=none:=hk7.free zO f6;have om0:=hm0.one;have hr0:=hr0.mono k47.sub;have hr1:=hr1.mono k47.sub;have e1:(x0+x1)*(y0+y1)=x0*y0+x1*y1+(x0*y1+x1*y0):=by grind
  have hlast:x1*y1<=x*y:=by
   rw [hex,hey];exact Wq (by have:=VK (n:=k) (show 0<B by decide); have:=Yv x1 this; omega) (by have:=VK (n:=k) (show 0<B by decide); have:=Yv y1 this; omega)
  have hmid:(x0+x1)*(y0+y1)<B^((k+1)+(k+1)):=by rw [VZ]; exact ZA zO zO
  have hsm:Sm ((x0+x1)*(y0+y1)):=Sm.of hmid zO;refine zW (aQ hl g0 g1 g2) ?_;have s7:Sub H7 (H7.put (H4.next+12) (.cells [r0,r1] aI true)):=aJ f7;refine AnsH.use (N7 C (ls:=[x0*y0,x1*y1]) zF (hm0.mono s7) (B2 hr0 hr1 s7 (by refine uH ?_; rfl)) (by simp) hsm zS) ?_;rintro md H8 ⟨hmd,hk8⟩;obtain ⟨k48,_,_⟩:=zT H4 zK hk8;have s78:Sub H7 H8:=s7.trans hk8.sub;have w8:=k48.wf;have em:(x0+x1)*(y0+y1)-[x0*y0,x1*y1].sum=x0*y1+x1*y0:=by rw [e1]; simp only [Yd,List.sum_nil,WL]; omega
  rw [em] at hmd;have hr0:=hr0.mono s78;have hr1:=hr1.mono s78;refine zW (aQ hl g0 g1 g2) ?_;refine AnsH.use (N6 C (k:=k) zF (hmd.mono (zG H8)) (hsm.mono zO) zO) ?_;rintro u1 H9 ⟨hu1,hk9⟩;obtain ⟨k89,_,w9⟩:=zT H8 zK hk9;have n9:H8.next+11<=H9.next:=hk9.le
  have f9:H9.get (H8.next+8)=none:=hk9.free (show _<H8.next+11 by omega) (w8.fresh (b:=H8.next+8) zO);refine zW (bA hl g0 g1 g2 hw2) ?_;refine AnsH.use (N6 C (k:=2*k) zF (hr1.mono k89.sub) (hsxy.mono hlast) zO) ?_;rintro u2 H10 ⟨hu2,hk10⟩;have k8a:Kp H8 H10:=k89.trans hk10;have w10:=k8a.wf;have n10:H9.next<=H10.next:=hk10.le
  have f10:H10.get (H8.next+8)=none:=hk10.free zO f9;have ou1:=hu1.one;have ou2:=hu2.one;have etot:[x0*y0,(x0*y1+x1*y0)*B^k,x1*y1*B^(2*k)].sum=x*y:=by
   have e2:B^(2*k)=B^k*B^k:=by rw [Nat.two_mul,VZ]
   rw [e2]
   conv=>rhs; rw [hex,hey]
   simp only [Yd,List.sum_nil,WL]
   generalize B^k=p
   grind
  refine zW (aQ hl g0 g1 g2) ?_;refine AnsH.use (D9 C (ls:=[x0*y0,(x0*y1+x1*y0)*B^k,x1*y1*B^(2*k)]) zF (Uk (hr0.mono k8a.sub) (hu1.mono hk10.sub) hu2 (aJ f10) (by refine uH ?_; rfl)) (by simp) (by rw [etot]; exact hsxy)) ?_;rintro v H11 ⟨hv,hk11⟩;rw [etot] at hv;have k8b:Kp H8 H11:=Kp.trans zK hk11;have kf:Kp H H11:=((k2.trans k24).trans k48).trans k8b;refine zW (aQ hl g0 g1 g2) ?_;exact ⟨hv,kf⟩
def Qr (C:Code tab) (hw:Wf H) {a b:AV} {x y:Nat} (ha:bJ H a x) (hb:bJ H b y) (hx:(ag x).length<274877906944) (hy:(ag y).length<274877906944) :
  Ans tab (.fn xm [a,b]) H fun v H'=>∃ r,v=.tup [r,.int .i64 0]/\bJ H' r (x*y)/\Kp H H':=by
 refine bB C.q80 zU fun T hl g0 g1=>?_;refine zW (aE hl g0 g1) ?_;refine AnsH.use (FF C (R:=fun H' v=>bJ H' v (x*y)) zF (ha.mono (zG H)) (hb.mono (zG H)) (by unfold Sm; omega) (by unfold Sm; omega) (fun H' v m h=>h.mono (Sub.bump H' m)) fun H1 hk1=>?_) ?_
 ·have k1:Kp H H1:=Kp.trans zK hk1;refine (N8 C _ hk1.wf (ha.mono k1.sub) (hb.mono k1.sub) rfl zO).mono ?_;rintro v H2 ⟨h2,hk2⟩;exact ⟨h2,hk1.trans hk2⟩
 ·rintro v H2 ⟨r,rfl,hr,hk2⟩;obtain ⟨k2,_,_⟩:=zT H zK hk2;refine zW (aE hl g0 g1) ?_;exact ⟨r,rfl,hr,zK⟩
def Cg (C:Code tab) (hw:Wf H) {a b:AV} {x y:Int} (ha:IntV H a x) (hb:IntV H b y) (hx:(ag x.natAbs).length<274877906944) (hy:(ag y.natAbs).length<274877906944):Ans tab (.fn qV [a,b]) H fun v H'=>∃ r,v=.tup [r,.int .i64 0]/\IntV H' r (x*y)/\Kp H H':=by
 obtain ⟨p,rfl,hp⟩:=ha;obtain ⟨q,rfl,hq⟩:=hb;have op:=hp.one;have oq:=hq.one;refine bB C.q53 zU fun T hl g0 g1=>?_;refine zW (aE hl g0 g1) ?_;refine AnsH.eq (gI C zF (JF (x:=x) (y:=y) (H:=H) hp hq (zG H) (by refine uH ?_; rfl)) (by simp) fun z hz=>?_) fun H2 hk2=>?_
 ·simp at hz; unfold dJ Sm; rcases hz with rfl | rfl <;> omega
 obtain ⟨k2,_,w2⟩:=zT H zK hk2;have b0:=hk2.get (b:=H.next) (e:=.cells [.bool (decide (x<0)),p] aa true) (cH);have b1:=hk2.get (b:=H.next+1) (e:=.cells [.bool (decide (y<0)),q] aa true) (cH);have b2:=hk2.get (b:=H.next+2) (e:=.cells [.bool false,.nilSl] aa true) (cH);refine zW (bA hl g0 g1 @b0 b1) ?_;refine AnsH.use (Qr C zF (hp.mono (zG H)) (hq.mono (zG H)) hx hy) ?_;rintro v H3 ⟨r,rfl,hr,hk3⟩;obtain ⟨k3,_,w3⟩:=zT H zK hk3;have c0:=hk3.get (b:=H.next) b0;have c1:=hk3.get (b:=H.next+1) b1;have c2:=hk3.get (b:=H.next+2) b2;refine zW (bA hl g0 g1 c0 @c1) ?_;refine AnsH.use (eW C zF (hr.mono (zG H3)) _) ?_;rintro v4 H4 ⟨rfl,hk4⟩;obtain ⟨k4,_,_⟩:=zT H zK hk4;have o3:=hr.one;have d2:=hk4.get (b:=H.next+2) c2;have lt2:=k4.wf _ _ d2;refine zW (aQ hl g0 g1 d2) ?_;refine ⟨_,rfl,?_,zK⟩;have hm:=oS (!(decide (x<0) == decide (y<0))) ((hr.mono (Kp.sub (H:=H3) (Kp.trans zK hk4))).monoT (SubT.put_ty (e:=.cells [.bool (!(decide (x<0) == decide (y<0)) && decide (0<(ag (x.natAbs*y.natAbs)).length)),r] aa true) d2 zU));have e:(if (!(decide (x<0) == decide (y<0)))=true then -((x.natAbs*y.natAbs:Nat):Int) else ((x.natAbs*y.natAbs:Nat):Int))=x*y:=by
  rw [Int.natCast_mul];have ax:(x.natAbs:Int)=if x<0 then -x else x:=by split <;> omega
  have ay:(y.natAbs:Int)=if y<0 then -y else y:=by split <;> omega
  rw [ax,ay];by_cases h1:x<0 <;> by_cases h2:y<0 <;> simp [h1,h2,YT,Int.mul_neg]
 rw [e] at hm;exact hm
def Ch (C:Code tab) (hw:Wf H) {a b:AV} {x y:Int} (ha:IntV H a x) (hb:IntV H b y) (hx:dJ x) (hy:dJ y):Ans tab (.fn qW [a,b]) H fun v H'=>v=.tup [.int .i64 (ik (x-y)),.int .i64 0]/\Kp H H':=by
 obtain ⟨p,rfl,hp⟩:=ha;obtain ⟨q,rfl,hq⟩:=hb;have op:=hp.one;have oq:=hq.one;refine bB C.q51 zU fun T hl g0 g1=>?_;refine zW (aE hl g0 g1) ?_;refine AnsH.use (Kz C zF ⟨p,rfl,hp.mono (zG H)⟩ ⟨q,rfl,hq.mono (zG H)⟩ hx hy) ?_;rintro v H2 ⟨r,rfl,⟨w,rfl,hr⟩,hk2⟩;obtain ⟨k2,_,w2⟩:=zT H zK hk2;have ow:=hr.one;have n2:H.next+13<=H2.next:=hk2.le
 have f2:H2.get (H.next+10)=none:=hk2.free (show _<H.next+13 by omega) (by rw [az zO,az zO]; exact hw.fresh (b:=H.next+10) zO);refine zW (aE hl g0 g1) ?_;have s2:Sub H2 ((H2.put (H.next+10) (.cells [.bool false,.nilSl] aa true)).put (H.next+10) (.cells [.bool (decide (x-y<0)),w] aa true)):=(aJ f2).put f2 _;refine AnsH.eq (zt C (x:=x-y) zF ⟨w,rfl,hr.mono s2⟩) fun H3 hk3=>?_;obtain ⟨k3,_,_⟩:=zT H zK hk3;refine zW (aE hl g0 g1) ?_;exact zK
def iP (C:Code tab) (hw:Wf H) {n:Int} (h1 : -9223372036854775808<=n) (h2:n<9223372036854775808):Ans tab (.fn tY [.int .i64 n]) H fun v H'=>IntV H' v n/\Kp H H':=by
 refine cR C.q20 zU fun T hl g0=>?_;refine zW (aD hl g0) ?_;have fin:∀ (H3:Heap) (k3:Kp H H3) (bb:Bool) (o:AV) (m:Nat) (z:Int),H3.get H.next=some (.cells [.bool false,.nilSl] aa true)->Lb H3 o (ag m)->(if bb then -(m:Int) else m)=z ->
   IntV (H3.put H.next (.cells [.bool (bb && decide (0<(ag m).length)),o] aa true)) (.agg [.bool (bb && decide (0<(ag m).length)),o]) z/\Kp H (H3.put H.next (.cells [.bool (bb && decide (0<(ag m).length)),o] aa true)):=by
  intro H3 k3 bb o m z d1 ho hz;have lt1:=k3.wf _ _ d1;refine ⟨?_,zK⟩;rw [<- hz];exact oS bb (ho.monoT (SubT.put_ty d1 zU))
 have key:∀ (c:Bool) (k:Nat),0<=k->True:=fun _ _ _=>trivial;refine iteH.split (fun h=>?_) fun h=>?_
 ·have e:IntKind.u64.wrap (0-IntKind.u64.wrap n)=((n.natAbs:Nat):Int):=by rw [kh,kh]; omega
  refine zW (aE hl g0 e) ?_;refine AnsH.use (Id C zF (n:=n.natAbs) (by unfold B; omega)) ?_;rintro v H2 ⟨hn,-,hk2⟩;obtain ⟨k2,_,w2⟩:=zT H zK hk2;have b0:=hk2.get (b:=H.next) (e:=.cells [.bool false,.nilSl] aa true) (cH);have o2:=hn.one;refine zW (aD hl g0) ?_;refine AnsH.use (eW C zF (hn.mono (zG H2)) true) ?_;rintro v3 H3 ⟨rfl,hk3⟩;obtain ⟨k3,_,_⟩:=zT H zK hk3;have d1:=hk3.get (b:=H.next) b0
  have:=fin H3 k3 true v n.natAbs n d1 (hn.mono (Kp.sub (H:=H2) (Kp.trans zK hk3))) zS
  simp only [Z5] at this;refine zW (aE hl g0 d1) ?_;exact this
 ·have e:IntKind.u64.wrap n=((n.natAbs:Nat):Int):=by rw [kh]; omega
  refine zW (aE hl g0 e) ?_;refine AnsH.use (Id C zF (n:=n.natAbs) (by unfold B; omega)) ?_;rintro v H2 ⟨hn,-,hk2⟩;obtain ⟨k2,_,w2⟩:=zT H zK hk2;have b0:=hk2.get (b:=H.next) (e:=.cells [.bool false,.nilSl] aa true) (cH);have o2:=hn.one;refine zW (aD hl g0) ?_;refine AnsH.use (eW C zF (hn.mono (zG H2)) false) ?_;rintro v3 H3 ⟨rfl,hk3⟩;obtain ⟨k3,_,_⟩:=zT H zK hk3;have d1:=hk3.get (b:=H.next) b0
  have:=fin H3 k3 false v n.natAbs n d1 (hn.mono (Kp.sub (H:=H2) (Kp.trans zK hk3))) zS
  simp only [ZQ] at this;refine zW (aE hl g0 d1) ?_;exact this
end
def wy {a b:Nat} (ha:a<18446744073709551616) (hb:b<18446744073709551616):bV .or .int (.int .u64 (a:Int)) (.int .u64 (b:Int))=some (.int .u64 ((a ||| b:Nat):Int)):=by
 have h1:(BitVec.ofInt 64 (a:Int)).toNat=a:=by
  have:(BitVec.ofInt 64 (a:Int)).toNat=a % 2^64:=by simp
  rw [this]; omega
 have h2:(BitVec.ofInt 64 (b:Int)).toNat=b:=by
  have:(BitVec.ofInt 64 (b:Int)).toNat=b % 2^64:=by simp
  rw [this]; omega
 have e:(BitVec.ofInt 64 (a:Int) ||| BitVec.ofInt 64 (b:Int)).toNat=a ||| b:=by rw [BitVec.toNat_or,h1,h2]
 have hlt:a ||| b<2^64:=Zr zO zO
 show some (AV.int .u64 (IntKind.u64.wrap ((BitVec.ofInt 64 (a:Int) ||| BitVec.ofInt 64 (b:Int)).toNat:Nat)))=_;rw [e,gf zO zO]
def GJ {r:Nat} (hr:r<64) {k:IntKind}:bV .shl .int (.int .u64 1) (.int k (r:Int))=some (.int .u64 ((2^r:Nat):Int)):=by
 show kO .shl .u64 1 (r:Int)=_;unfold kO;rw [if_neg zO];have h1:Nat.min (r:Int).toNat IntKind.u64.bits=r:=by
  have:IntKind.u64.bits=64:=rfl
  rw [this,W8]; exact Wi zO
 have hlt:(2:Nat)^r<2^64:=Yl zO hr;have e:(1:Int)*2^r=((2^r:Nat):Int):=by simp
 simp only [h1,e]
 generalize (2:Nat)^r=p at hlt ⊢
 rw [gf zO zO]
def DW {a b r:Nat} (ha:a<2^r):a ||| (2^r*b)=a+2^r*b:=by
 rw [Nat.or_comm,<- Nat.two_pow_add_eq_or_of_lt ha,XL]
section
variable {tab:Nat->Option aA} {H:Heap} {s:AV}
def Cy (C:Code tab) (hw:Wf H) {a:AV} {x k:Nat} (ha:bJ H a x) (hx:Sm x) (hk:k<=65536) :
  Ans tab (.fn rg [a,.int .i64 (k:Int)]) H fun v H'=>v=.int .i64 0/\Kp H H':=by
 refine bB C.q179 zU fun T hl g0 g1=>?_;refine zW (aE hl g0 g1) ?_;refine AnsH.eq (gM C zF (ha.mono (zG H)) hx) fun H2 hk2=>?_;obtain ⟨k2,_,_⟩:=zT H zK hk2;have e1:decide ((k:Int)<0)=false:=by simp
 have e2:decide ((65536:Int)<(k:Int))=false:=by simp; omega
 refine zW (bA hl g0 g1 e1 e2) ?_;exact zK
def NL {k c:Nat} (hc:0<c) (hk:k<4611686018427387904):bV .quo .int (.int .i64 (k:Int)) (.int .i64 (c:Int))=some (.int .i64 ((k / c:Nat):Int)):=by
 show (if (c:Int)=0 then none else some (AV.int .i64 (IntKind.i64.wrap ((k:Int).tdiv (c:Int)))))=_;have hle:k / c<=k:=XD _ _;rw [if_neg zO,Yk zO,<- Int.natCast_ediv]
 generalize k / c=d at hle ⊢
 rw [wrap_i64 zO zO]
def NJ {k c:Nat} (hc:0<c):bV .rem .int (.int .i64 (k:Int)) (.int .i64 (c:Int))=some (.int .i64 ((k % c:Nat):Int)):=by
 show (if (c:Int)=0 then none else some (AV.int .i64 ((k:Int).tmod (c:Int))))=_;rw [if_neg zO,Zf zO,<- Int.natCast_emod]
def Ht {x r:Nat} (hr:r<64):x*2^r % B=2^r*(x % 2^(64-r)):=by
 have hB:B=2^r*2^(64-r):=by
  rw [<- VZ]; have:r+(64-r)=64:=zO;rw [this]
 rw [hB,Vt x,ZR]
def R9 {x r:Nat} (hx:x<B):x*2^r / B<2^r:=by
 rw [Vz zU,Vt];exact Nat.mul_lt_mul_of_pos_left hx (VK zU)
def sf (l:List Nat):∃ E,l=eF l++E:=by
 refine ⟨(l.reverse.takeWhile (· == 0)).reverse,?_⟩;have h:=List.takeWhile_append_dropWhile (p:=(· == 0)) (l:=l.reverse);have h2:=congrArg List.reverse h;rw [List.reverse_append,List.reverse_reverse] at h2;exact h2.symm
def NO (b off n c sz:Nat) (x:Bool) (k j:IntKind) (hnc:n<=c):cw sz (.own b off n c sz x) none (some (.int k (n:Int))) (some (.int j (n:Int)))=some (.own b off n n sz true):=by
 show bR sz (.own b off n c sz x) none (some (.int k (n:Int))) (some (.int j (n:Int)))=_;simp only [bR,fY,ne_eq,not_true_eq_false,if_false,U8,Ww,W3,WU];rw [if_pos ⟨hnc,Vb _,Vj _⟩];split
 ·rename_i h; subst h; rfl
 ·simp
def HV (b off n c sz m:Nat) (x:Bool) (k:IntKind) (h:m<=c):cw sz (.own b off n c sz x) none (some (.int k (m:Int))) none=some (.own b off m c sz x):=by
 show bR sz (.own b off n c sz x) none (some (.int k (m:Int))) none=_;simp only [bR,fY,ne_eq,not_true_eq_false,if_false,U8,Ww,W3,WS,WU,WJ];rw [if_pos ⟨h,Vj _⟩]
 simp
def IR {H:Heap} {cells:List AV} {l:List Nat} (h:Cells (bS cj) H cells l):cells=aM l:=by
 have hl:cells.length=l.length:=by have:=h.1; simpa [bS] using this
 apply WM
 intro i;by_cases hi:i<l.length
 ·obtain ⟨v,e,rfl⟩:=h.2 i _ (U7 hi);have e1:cells[i]? = some (.int .u64 (l[i]:Nat)):=by
   have:=congrArg (fun x=>x[0]?) e
   simpa [bS,Vv] using this
  rw [e1];simp [aM,hi]
 ·rw [VI zO,VI (by rw [oU]; omega)]
def wR (C:Code tab) (hw:Wf H) {l:List Nat} (hs:Lb H s l) (hbig:l.length<1099511627776):Ans tab (.fn cq [s]) H fun v H'=>Lb H' v l/\Kp H H'/\(0<l.length->∃ b,v=.own b 0 l.length l.length 1 false/\H'.get b=some (.cells (aM l) ae true)/\H.next<=b):=by
 refine cR C.q70 zU fun T hl g0=>?_;rcases hs.nilcase with ⟨rfl,rfl⟩ | hne
 ·have e:bV .eql .sl .nilSl .nilSl=some (.bool true):=rfl;refine zW (aE hl g0 e) ?_;exact ⟨SlV.nil _ _ _,zK,fun h=>by simp at h⟩
 ·have ef:cG ([]:List AV) []=some []:=rfl;refine zW (aQ hl g0 hne ef) ?_;have k1:Kp H ((H.up 7).put (H.next+3) (.cells [] ae true)):=zK;have le_k1:=k1.le;have h0:SlV (bS cj) ae ((H.up 7).put (H.next+3) (.cells [] ae true)) (.own (H.next+3) 0 0 0 1 true) ([]:List Nat) :=
   (show Own (bS cj) ae H _ (H.next+3) true _ [] from ⟨_,rfl,ap _ _ _,Cells.nil _ _,zO⟩).sl
  obtain ⟨v',H2,e1,h2,hk2,hn2,hs2,ho⟩:=SlV.app (l:=[]) (id:=H.next+5) (bytes:=8) h0 k1 (hs.mono k1.sub) zO (by show _<H.next+7; omega) (by rw [az zO]; exact hw.fresh (b:=H.next+5) zO) zS zS;have e1':dI ((H.up 7).put (H.next+3) (.cells [] ae true)) (H.next+5) 1 8 ae (.own (H.next+3) 0 0 0 1 true) s=some (v',H2):=e1;refine zW (aE hl g0 e1') ?_;refine ⟨h2,hk2,fun h=>?_⟩;obtain ⟨cells,q1,q2,q3,q4⟩:=ho h;rw [Xr] at q1 q3;rw [IR q3] at q2;exact ⟨_,q1,q2,q4⟩
def iu (C:Code tab) (hw:Wf H) {b n c:Nat} {x:Bool} (hnc:n<=c):Ans tab (.fn cu [.own b 0 n c 1 x]) H fun v H'=>v=.own b 0 n n 1 true/\Kp H H':=by
 refine cR C.q104 zU fun T hl g0=>?_;have e:=NO b 0 n c 1 x .i64 .i64 hnc;refine zW (aE hl g0 e) ?_;exact zK
def DY (C:Code tab) (hw:Wf H) {l:List Nat} {b N:Nat} {rw' x:Bool} (hN:l.length=N) (hb:H.get b=some (.cells (aM l) ae rw')) (hbig:N<4611686018427387904) :
  Ans tab (.fn pI [.own b 0 N N 1 x]) H fun v H'=>v=.own b 0 (eF l).length (eF l).length 1 true/\Kp H H':=by
 refine cR C.q72 zU fun T hl g0=>?_;refine zW (aD hl g0) ?_;refine cm H [0] (fun k vs H'=>vs=[.own b 0 k N 1 x]/\eF (l.take k)=eF l/\k<=l.length) l.length (by simp only [U4]; exact hl) rfl zK ⟨by exact zV (aE hl g0 hN),by rw [VD],Vb _⟩ ?_;rintro k T1 H1 hl1 hs1 hk1 ⟨hv,ht,hk⟩;have w1:=hk1.wf;have le_hk1:=hk1.le;have b1:=hk1.get hb;simp only [Ve,Vk,Vg,and_true] at hv;rcases Xb (l.take k) with h0 | ⟨l',a,h0⟩
 ·have hk0:k=0:=by
   have:=congrArg List.length h0; simp at this
   rcases this with h | h
   ·exact h
   ·subst h; simpa using hk
  subst hk0;refine zW (aE hl1 hv @OU) ?_;refine AnsH.eq (iu C zF (Vj _)) fun H2 h2=>?_;have k2:Kp H H2:=Kp.trans zK h2;have le_k2:=k2.le;rw [<- ht,h0,wN];refine zW hl1 ?_;exact zK
 ·rw [Xc] at h0;have hk1':k=l'.length+1:=by have:=congrArg List.length h0; simp at this; omega
  subst hk1';have hl':l.take l'.length=l':=by
   have:=congrArg (List.take l'.length) h0
   rw [Xn,Wi zO] at this
   simpa using this
  have hga:l.getD l'.length 0=a:=by
   have this:(l.take (l'.length+1)).getD l'.length 0=(l'++[a]).getD l'.length 0:=by rw [h0]
   rw [U5,Vv,if_pos zO,<- U5] at this;rw [this]; simp [U5]
  have hwr:IntKind.i64.wrap (((l'.length+1:Nat):Int)-1)=(l'.length:Int):=by rw [wrap_i64] <;> omega
  have hpos:0<l'.length+1:=zO;have e':=HV b 0 (l'.length+1) N 1 l'.length x .i64 zO;refine zW (dL hl1 hv hpos hwr b1 hga) ?_;refine iteH.split (fun ha=>?_) fun ha=>?_
  ·have ha0:a=0:=zO;subst ha0;refine zW (aQ hl1 hv hwr e') ?_;refine ⟨zK,l'.length,zO,rfl,?_,zO⟩;rw [hl',<- ht,h0,dY]
  ·have ha':a≠0:=zO;refine zW (aD hl1 hv) ?_;refine AnsH.eq (iu C zF zO) fun H2 h2=>?_;have k2:Kp H H2:=Kp.trans zK h2;have le_k2:=k2.le;rw [<- ht,h0,iS ha'];refine zW (aD hl1 @List.length_append.{0}) ?_;exact zK
def N0 (C:Code tab) (hw:Wf H) {a:AV} {x k:Nat} (ha:bJ H a x) (hx:Sm x) (hk:k<=65536) :
  Ans tab (.fn AE [a,.int .i64 (k:Int)]) H fun v H'=>∃ o,v=.tup [o,.int .i64 0]/\bJ H' o (x*2^k)/\Kp H H'/\∃ b E,o=.own b 0 (ag (x*2^k)).length (ag (x*2^k)).length 1 true/\H'.get b=some (.cells (aM (ag (x*2^k)++E)) ae true)/\H.next<=b/\(ag (x*2^k)++E).length=k / 64+(ag x).length+1/\Lim (ag (x*2^k)++E):=by
 refine bB C.q170 zU fun T hl g0 g1=>?_;refine zW (aE hl g0 g1) ?_;refine AnsH.eq (Cy C zF (ha.mono (zG H)) hx hk) fun H2 hk2=>?_;obtain ⟨k2,_,w2⟩:=zT H zK hk2;have n2:=k2.le;unfold Sm at hx;have hq:=NL (k:=k) (c:=64) zO zO;have hr:=NJ (k:=k) (c:=64) zO;obtain ⟨q,eq⟩:∃ q,q=k / 64:=⟨_,rfl⟩
 obtain ⟨r,er⟩:∃ r,r=k % 64:=⟨_,rfl⟩
 rw [<- eq] at hq;rw [<- er] at hr;have hq':bV .quo .int (.int .i64 (k:Int)) (.int .i64 64)=some (.int .i64 (q:Int)):=hq;have hr':bV .rem .int (.int .i64 (k:Int)) (.int .i64 64)=some (.int .i64 (r:Int)):=hr;have hw1:IntKind.i64.wrap ((q:Int)+((ag x).length:Int))=((q+(ag x).length:Nat):Int):=by rw [wrap_i64] <;> omega
 obtain ⟨N,hN⟩:∃ N,q+(ag x).length+1=N:=⟨_,rfl⟩
 have hw2:IntKind.i64.wrap (((q+(ag x).length:Nat):Int)+1)=(N:Int):=by rw [wrap_i64] <;> omega
 have hmk:∀ H' id,Jy H' id ae 1 8 [.int .u64 0] (.int .i64 (N:Int)) (.int .i64 (N:Int))=some (.own id 0 N N 1 true,H'.put id (.cells (aM (List.replicate N 0)) ae true)):=fun H' id =>
  (jc H' id ae 1 8 [.int .u64 0] .i64 .i64 N zO zO rfl).trans (by rw [mH])
 refine zW (iy hl g0 g1 ha.lenV hq' hw1 hw2 hmk) ?_;have hr64:r<64:=zO;have hkqr:k=64*q+r:=zO;have hz0:∀ j,(List.replicate N 0).getD j 0=0:=fun j=>by simp [U5,V9]; split <;> rfl
 refine aq H [] (fun i vs H'=>∃ out,H'.get (H2.next+8)=some (.cells (aM out) ae true)/\out.length=N/\Lim out/\val out=B^q*2^r*val ((ag x).take i)/\out.getD (q+i) 0<2^r/\∀ j,q+i<j->out.getD j 0=0) (a:=0) (N:=(ag x).length) rfl (by refine zW (aE hl g0 g1) ?_; rfl) (zV (aE hl g0 g1)) (Vj _) zO (by simp only [U4,hl]; rfl) rfl (fun _ _ _ _ h=>h) zK
  ⟨List.replicate N 0,by exact cH,by simp,Lim.replicate N,by rw [fK]; simp [val],by rw [hz0]; exact VK zU,fun j _=>hz0 j⟩ ?_ ?_
 ·rintro i T1 H1 _ hi hl1 hi1 hs1 hk1 ⟨out,b6,hlen,hlim,hval,hlow,hz⟩;simp only [U4,hl] at hl1;have w1:=hk1.wf;have le_hk1:=hk1.le;have t7:ad T1 7=.own (H2.next+8) 0 N N 1 true:=(hs1.at_ 7 zU).trans (zV (aE hl g0 g1));have t1:ad T1 1=.int .i64 (k:Int):=(hs1.at_ 1 zU).trans (zV (aQ hl g0 g1 g1));have t25:ad T1 25=a:=(hs1.at_ 25 zU).trans (zV (aD hl g0));have hix:=SlV.idx1 ha .i64 i hi;have hld:=fp (ha.mono hk1.sub) hi;have hxB:=(bo x).at i;have h2r:2^r<B:=by unfold B; exact Yl (m:=r) (n:=64) zO hr64
  have hs:=GJ hr64 (k:=.i64);refine zW (jW hl1 t7 t1 t25 hi1 hix hld hr' hs) ?_;refine AnsH.use (pZ C zF hxB h2r) ?_;rintro v H3 ⟨rfl,hk3⟩;obtain ⟨k3,_,w3⟩:=zT H zK hk3;have d6:=hk3.get (b:=H2.next+8) b6;have lt6:=k3.wf _ _ d6;have hwi:IntKind.i64.wrap ((q:Int)+(i:Int))=((q+i:Nat):Int):=by rw [wrap_i64] <;> omega
  have hwi1:IntKind.i64.wrap (((q+i:Nat):Int)+1)=((q+i+1:Nat):Int):=by rw [wrap_i64] <;> omega
  have hor:=wy (a:=out.getD (q+i) 0) (b:=(ag x).getD i 0*2^r % B) (hlim.at _) (V4 _ zU);rw [Ht hr64,DW hlow] at hor;rw [Ht hr64];refine zW (qz hl1 t7 t1 t25 hi1 hq' hwi hwi1 d6 hor) ?_;have hlo:=Ht (x:=(ag x).getD i 0) hr64;have hhi:=R9 (r:=r) hxB;have hdm:=Wj ((ag x).getD i 0*2^r) B;have hloB:out.getD (q+i) 0+(ag x).getD i 0*2^r % B<B:=by
   rw [hlo];have e1:out.getD (q+i) 0 ||| 2^r*((ag x).getD i 0 % 2^(64-r))<2^64:=Zr (hlim.at _) (by rw [<- hlo]; exact V4 _ zU)
   rw [DW hlow] at e1; exact e1
  rw [hlo] at hdm hloB
  generalize (ag x).getD i 0*2^r / B=hi' at *
  have h1:=iQ (l:=out) (k:=q+i) (v:=out.getD (q+i) 0+2^r*((ag x).getD i 0 % 2^(64-r))) zO;have h2:=iQ (l:=out.set (q+i) (out.getD (q+i) 0+2^r*((ag x).getD i 0 % 2^(64-r)))) (k:=q+i+1) (v:=hi') zS;rw [bk zO,hz (q+i+1) zO] at h2;refine ⟨zK,_,rfl,by simp [hlen],ka (ka hlim hloB) (Y5 hhi h2r),?_,?_,fun j hj=>?_⟩
  ·rw [cS,Wa,<- hval];have h3:B^q*2^r*(B^i*(ag x).getD i 0)=B^(q+i)*((ag x).getD i 0*2^r):=by rw [VZ]; grind
   rw [h3,<- hdm,Wa];have h4:B^(q+i+1)*hi'=B^(q+i)*(B*hi'):=by rw [VJ,VU]
   rw [Wa] at h1;rw [h4] at h2;have eqi:q+(i+1)=q+i+1:=zO;rw [eqi];omega
  ·have:(((out.set (q+i) (out.getD (q+i) 0+2^r*((ag x).getD i 0 % 2^(64-r)))).set (q+(i+1)) hi').getD (q+(i+1)) 0)=hi':=by
    rw [U5,W9,if_pos rfl,if_pos zS]; rfl
   rw [this]; exact hhi
  ·rw [bk zO,bk zO];exact hz j zO
 ·rintro T1 H1 hl1 hs1 hk1 ⟨out,b6,hlen,hlim,hval,-,-⟩;simp only [U4,hl] at hl1;have w1:=hk1.wf;have le_hk1:=hk1.le;have t7:ad T1 7=.own (H2.next+8) 0 N N 1 true:=(hs1.at_ 7 zU).trans (zV (aE hl g0 g1));rw [VF (Vb _),bH] at hval;refine zW (aD hl1 t7) ?_;refine AnsH.eq (DY C zF (rw':=true) hlen (zV @b6) zO) fun H4 hk4=>?_;obtain ⟨k4,_,_⟩:=zT H zK hk4;have b4:=hk4.get (b:=H2.next+8) (e:=.cells (aM out) ae true) (zV @b6);have e:val out=x*2^k:=by
   rw [hval,hkqr,VZ,Ym]
   have:(2:Nat)^64=B:=by decide
   rw [this,Vt]
  have et:=eA hlim;rw [e] at et;obtain ⟨E,hE⟩:=sf out;rw [et] at hE;have h4:bJ H4 (.own (H2.next+8) 0 (ag (x*2^k)).length (ag (x*2^k)).length 1 true) (x*2^k):=by
   refine ⟨aM (ag (x*2^k)),⟨Vb _,(fun s h=>by cases h),_,rfl,?_⟩,fun _ _ _ _ _ _ e=>by cases e; exact ⟨_,_,b4⟩,ut _ _⟩;simp only [aN,b4];rw [if_pos ⟨rfl,Vb _,by rw [oU,hE]; simp [bS]⟩];rw [hE];simp [aM,bS]
  rw [et];refine zW hl1 ?_;exact ⟨_,rfl,h4,zK,_,E,rfl,by rw [b4,hE],zO,by rw [<- hE,hlen,<- hN,eq,Wb],by rw [<- hE]; exact hlim⟩
end
section
variable {tab:Nat->Option aA} {H:Heap} {s:AV} {l:List Nat}
def pV (C:Code tab) (hw:Wf H) {l:List Nat} {b N:Nat} {rw' x:Bool} (hN:l.length=N) (hb:H.get b=some (.cells (aM l) ae rw')) (hbig:N<4611686018427387904) :
  Ans tab (.fn um [.own b 0 N N 1 x]) H fun v H'=>v=.own b 0 (eF l).length (eF l).length 1 true/\Kp H H':=by
 refine cR C.q174 zU fun T hl g0=>?_;refine zW (aD hl g0) ?_;refine cm H [0] (fun k vs H'=>vs=[.own b 0 k N 1 x]/\eF (l.take k)=eF l/\k<=l.length) l.length (by simp only [U4]; exact hl) rfl zK ⟨by exact zV (aE hl g0 hN),by rw [VD],Vb _⟩ ?_;rintro k T1 H1 hl1 hs1 hk1 ⟨hv,ht,hk⟩;have w1:=hk1.wf;have le_hk1:=hk1.le;have b1:=hk1.get hb;simp only [Ve,Vk,Vg,and_true] at hv;rcases Xb (l.take k) with h0 | ⟨l',a,h0⟩
 ·have hk0:k=0:=by
   have:=congrArg List.length h0; simp at this
   rcases this with h | h
   ·exact h
   ·subst h; simpa using hk
  subst hk0;refine zW (aE hl1 hv @OU) ?_;refine AnsH.eq (iu C zF (Vj _)) fun H2 h2=>?_;have k2:Kp H H2:=Kp.trans zK h2;have le_k2:=k2.le;rw [<- ht,h0,wN];refine zW hl1 ?_;exact zK
 ·rw [Xc] at h0;have hk1':k=l'.length+1:=by have:=congrArg List.length h0; simp at this; omega
  subst hk1';have hl':l.take l'.length=l':=by
   have:=congrArg (List.take l'.length) h0
   rw [Xn,Wi zO] at this
   simpa using this
  have hga:l.getD l'.length 0=a:=by
   have this:(l.take (l'.length+1)).getD l'.length 0=(l'++[a]).getD l'.length 0:=by rw [h0]
   rw [U5,Vv,if_pos zO,<- U5] at this;rw [this]; simp [U5]
  have hwr:IntKind.i64.wrap (((l'.length+1:Nat):Int)-1)=(l'.length:Int):=by rw [wrap_i64] <;> omega
  have hpos:0<l'.length+1:=zO;have e':=HV b 0 (l'.length+1) N 1 l'.length x .i64 zO;refine zW (dL hl1 hv hpos hwr b1 hga) ?_;refine iteH.split (fun ha=>?_) fun ha=>?_
  ·have ha0:a=0:=zO;subst ha0;refine zW (aQ hl1 hv hwr e') ?_;refine ⟨zK,l'.length,zO,rfl,?_,zO⟩;rw [hl',<- ht,h0,dY]
  ·have ha':a≠0:=zO;refine zW (aD hl1 hv) ?_;refine AnsH.eq (iu C zF zO) fun H2 h2=>?_;have k2:Kp H H2:=Kp.trans zK h2;have le_k2:=k2.le;rw [<- ht,h0,iS ha'];refine zW (aD hl1 @List.length_append.{0}) ?_;exact zK
def DV {H:Heap} {b:Nat} {l E:List Nat} {rw' x:Bool} (hb:H.get b=some (.cells (aM (l++E)) ae rw')):Lb H (.own b 0 l.length l.length 1 x) l:=by
 refine ⟨aM l,⟨Vb _,(fun s h=>by cases h),_,rfl,?_⟩,fun _ _ _ _ _ _ e=>by cases e; exact ⟨_,_,hb⟩,ut _ _⟩;simp only [aN,hb];rw [if_pos ⟨rfl,Vb _,by rw [oU]; simp [bS]⟩];simp [aM,bS]
def A2 (C:Code tab) (hw:Wf H) {ls:List (List Nat)} {ty:Nat} (hs:BR (tk (bS cj) ae) ty H s ls) (hbig:ls.length<4611686018427387904) (hc:∀ c∈ls,c.length<4611686018427387904/\c.getLast? ≠ some 0) :
  Ans tab (.fn oh [s]) H fun v H'=>v=.int .i64 0/\Kp H H':=by
 refine cR C.q164 zU fun T hl g0=>?_;refine zW (aE hl g0 hs.lenV) ?_;refine aq H [] (fun _ _ _=>True) (a:=0) (N:=ls.length) rfl (by refine zW (aD hl g0) ?_; rfl) (zV (aD hl g0)) (Vj _) zO (by simp only [U4,hl]; rfl) rfl (fun _ _ _ _ h=>h) zK trivial ?_ ?_
 ·intro j T1 H1 _ hj hl1 hi1 hs1 hk1 _;have w1:=hk1.wf;have le_hk1:=hk1.le;have t6:ad T1 6=s:=(hs1.at_ 6 zU).trans (zV (aD hl g0));obtain ⟨c,hcr,hld⟩:=SlV.at1 (hs.mono hk1.sub) (U7 hj);have hix:=SlV.idx1 hs .i64 j hj;have hcc:=hc _ (U9 hj);simp only [U4,hl] at hl1;refine zW (bA hl1 t6 hi1 hix hld) ?_;refine AnsH.eq (oP C zF hcr hcc.1) fun H2 h2=>?_;rw [if_neg hcc.2];refine zW hl1 ?_;have k2:Kp H H2:=Kp.trans zK h2;have le_k2:=k2.le;exact zK
 ·intro T1 H1 hl1 hs1 hk1 _;simp only [U4,hl] at hl1;refine zW hl1 ?_;exact zK
end
def S0 (v i:AV):Option AV:=aP (fun s=>match s with | .t 0=>v | _=>i) (.indexStr (.t 0) (.t 1))
def cV {tab:Nat->Option aA} (ev:Src->AV) (H:Heap) (id:Nat) (Q:AV->Heap->Prop) (x i:Src):mR tab ev H id (.indexStr x i) Q=gL (S0 (ev x) (ev i)) (fun v=>Q v H) ():=by
 rw [ca,dX tab ev H id Q (o:=.indexStr x i) (v:=S0 (ev x) (ev i)) (fun f a e=>by cases e) (by simp only [aP,S0]) rfl]; rfl
def Q9 {a b:Nat} (ha:a<18446744073709551616) (hb:0<b):bV .quo .int (.int .u64 (a:Int)) (.int .u64 (b:Int))=some (.int .u64 ((a / b:Nat):Int)):=by
 show (if (b:Int)=0 then none else some (AV.int .u64 (IntKind.u64.wrap ((a:Int).tdiv (b:Int)))))=_;have hle:a / b<=a:=XD _ _;rw [if_neg zO,Yk zO,<- Int.natCast_ediv]
 generalize a / b=d at hle ⊢
 rw [gf zO zO]
def Tl {a b:Nat} (hb:0<b):bV .rem .int (.int .u64 (a:Int)) (.int .u64 (b:Int))=some (.int .u64 ((a % b:Nat):Int)):=by
 show (if (b:Int)=0 then none else some (AV.int .u64 ((a:Int).tmod (b:Int))))=_;rw [if_neg zO,Zf zO,<- Int.natCast_emod]
def sR {x r:Nat} (hr:r<=64) {k:IntKind}:bV .shl .int (.int .u64 (x:Int)) (.int k (r:Int))=some (.int .u64 ((x*2^r % B:Nat):Int)):=by
 show kO .shl .u64 (x:Int) (r:Int)=_;unfold kO;rw [if_neg zO];have h1:Nat.min (r:Int).toNat IntKind.u64.bits=r:=by
  have:IntKind.u64.bits=64:=rfl
  rw [this,W8]; exact Wi hr
 have e:(x:Int)*2^r=((x*2^r:Nat):Int):=by simp
 simp only [h1,e];rw [kh];rfl
def BN {a b:Nat} (hb:b<=64) {k:IntKind}:bV .shr .int (.int .u64 (a:Int)) (.int k (b:Int))=some (.int .u64 ((a / 2^b:Nat):Int)):=by
 show kO .shr .u64 (a:Int) (b:Int)=_;unfold kO;rw [if_neg zO];have h1:Nat.min (b:Int).toNat IntKind.u64.bits=b:=by
  have:IntKind.u64.bits=64:=rfl
  rw [this,W8]; exact Wi hb
 simp only [h1];congr 2;rw [Zd _ (W5 (Int.pow_pos zO))]
 simp
def qJ (a:Nat):bV .shr .int (.int .u64 (a:Int)) (.int .u64 16)=some (.int .u64 ((a / 65536:Nat):Int)):=sQ a 16 zO
def Af (a:Nat):bV .shr .int (.int .u64 (a:Int)) (.int .u64 8)=some (.int .u64 ((a / 256:Nat):Int)):=sQ a 8 zO
def Tz:AV:=.str ⟨#[0,1,2,2,3,3,3,3,4,4,4,4,4,4,4,4,5,5,5,5,5,5,5,5,5,5,5,5,5,5,5,5,6,6,6,6,6,6,6,6,6,6,6,6,6,6,6,6,6,6,6,6,6,6,6,6,6,6,6,6,6,6,6,6,7,7,7,7,7,7,7,7,7,7,7,7,7,7,7,7,7,7,7,7,7,7,7,7,7,7,7,7,7,7,7,7,7,7,7,7,7,7,7,7,7,7,7,7,7,7,7,7,7,7,7,7,7,7,7,7,7,7,7,7,7,7,7,7,8,8,8,8,8,8,8,8,8,8,8,8,8,8,8,8,8,8,8,8,8,8,8,8,8,8,8,8,8,8,8,8,8,8,8,8,8,8,8,8,8,8,8,8,8,8,8,8,8,8,8,8,8,8,8,8,8,8,8,8,8,8,8,8,8,8,8,8,8,8,8,8,8,8,8,8,8,8,8,8,8,8,8,8,8,8,8,8,8,8,8,8,8,8,8,8,8,8,8,8,8,8,8,8,8,8,8,8,8,8,8,8,8,8,8,8,8,8,8,8,8,8,8,8,8,8,8,8]⟩
def Oi (x:Nat):Bool:=match S0 Tz (.int .u8 (x:Int)) with
 | some (.int .u8 z)=>decide (0<=z/\z.toNat<=8/\x<2^z.toNat/\(x=0\/(1<=z.toNat/\2^(z.toNat-1)<=x)))
 | _=>false
theorem Oj:(List.range 256).all Oi=true:=by kernel_rfl
def Lx {x:Nat} (hx:x<256):∃ L:Nat,S0 Tz (.int .u8 (x:Int))=some (.int .u8 (L:Int))/\L<=8/\x<2^L/\(x=0\/(1<=L/\2^(L-1)<=x)):=by
 have h:=Vy.1 Oj x (Wm.2 hx);unfold Oi at h;split at h
 ·rename_i z e;simp only [decide_eq_true_eq] at h;obtain ⟨h0,h1,h2,h3⟩:=h;refine ⟨z.toNat,?_,h1,h2,h3⟩;rw [e,Z1 h0]
 ·cases h
def Oh {w k L x:Nat} (hx:w / 2^k=x) (h1:x<2^L) (h2:1<=L) (h3:2^(L-1)<=x):w<2^(k+L)/\2^(k+L-1)<=w:=by
 subst hx;refine ⟨?_,?_⟩
 ·have:=(Vz (VK zU)).1 h1
  rw [VZ,Vt]; exact this
 ·have:=(YJ (VK zU)).1 h3
  have e:k+L-1=(L-1)+k:=zO;rw [e,VZ]; exact this
section
variable {tab:Nat->Option aA} {H:Heap} {s:AV} {l:List Nat}
set_option maxRecDepth 20000 in
def IS (C:Code tab) (hw:Wf H) {w:Nat} (h0:0<w) (hB:w<18446744073709551616) :
  Ans tab (.fn iX [.int .u64 (w:Int)]) H fun v H'=>(∃ L:Nat,v=.int .i64 (L:Int)/\1<=L/\L<=64/\w<2^L/\2^(L-1)<=w)/\Kp H H':=by
 refine cR C.q178 zU fun T hl g0=>?_;have fin:∀ (k x:Nat),x<256->k<=56->w / 2^k=x->0<x->∃ L:Nat,S0 (.str ⟨#[0,1,2,2,3,3,3,3,4,4,4,4,4,4,4,4,5,5,5,5,5,5,5,5,5,5,5,5,5,5,5,5,6,6,6,6,6,6,6,6,6,6,6,6,6,6,6,6,6,6,6,6,6,6,6,6,6,6,6,6,6,6,6,6,7,7,7,7,7,7,7,7,7,7,7,7,7,7,7,7,7,7,7,7,7,7,7,7,7,7,7,7,7,7,7,7,7,7,7,7,7,7,7,7,7,7,7,7,7,7,7,7,7,7,7,7,7,7,7,7,7,7,7,7,7,7,7,7,8,8,8,8,8,8,8,8,8,8,8,8,8,8,8,8,8,8,8,8,8,8,8,8,8,8,8,8,8,8,8,8,8,8,8,8,8,8,8,8,8,8,8,8,8,8,8,8,8,8,8,8,8,8,8,8,8,8,8,8,8,8,8,8,8,8,8,8,8,8,8,8,8,8,8,8,8,8,8,8,8,8,8,8,8,8,8,8,8,8,8,8,8,8,8,8,8,8,8,8,8,8,8,8,8,8,8,8,8,8,8,8,8,8,8,8,8,8,8,8,8,8,8,8,8,8,8,8]⟩) (.int .u8 (IntKind.u8.wrap (x:Int)))=some (.int .u8 (L:Int))/\IntKind.i64.wrap (L:Int)=(L:Int)/\IntKind.i64.wrap ((k:Int)+(L:Int))=((k+L:Nat):Int)/\1<=k+L/\k+L<=64/\w<2^(k+L)/\2^(k+L-1)<=w:=by
  intro k x hx hk he hpos;obtain ⟨L,e1,e2,e3,e4⟩:=Lx hx;obtain ⟨h1,h2⟩:=e4.resolve_left zO;have e5:IntKind.u8.wrap (x:Int)=(x:Int):=by
   show (x:Int) % 256=x;omega
  obtain ⟨h3,h4⟩:=Oh he e3 h1 h2;refine ⟨L,by rw [e5]; exact e1,by rw [wrap_i64] <;> omega,by rw [wrap_i64] <;> omega,zO,zO,h3,h4⟩
 have wk:∀ n:Nat,n<100->IntKind.i64.wrap (n:Int)=(n:Int):=fun n hn=>by rw [wrap_i64] <;> omega
 simp -dsimp (maxSteps:=1000000) (disch:=(first | omega | assumption | exact am _ | exact bp _ _ | exact bF | exact cO _ _ _ | exact bX _ _ | exact bP _ _ _ _ _ _ | exact cW _ _ | exact cp _)) only [↓xX,xW,Nat.reduceLT,Nat.reduceEqDiff,Nat.reduceAdd,reduceIte,reduceCtorEq,Nat.reduceBEq,Int.reduceEq,Int.reduceLT,Int.reduceLE,Int.reduceAdd,Int.reduceSub,hl,g0,qJ,Af,↓cV];refine iteH.split (fun h1=>?_) fun h1=>?_
 all_goals
  simp -dsimp (maxSteps:=1000000) (disch:=(first | omega | assumption | exact am _ | exact bp _ _ | exact bF | exact cO _ _ _ | exact bX _ _ | exact bP _ _ _ _ _ _ | exact cW _ _ | exact cp _)) only [↓xX,xW,Nat.reduceLT,Nat.reduceEqDiff,Nat.reduceAdd,reduceIte,reduceCtorEq,Nat.reduceBEq,Int.reduceEq,Int.reduceLT,Int.reduceLE,Int.reduceAdd,Int.reduceSub,hl,g0,qJ,Af,↓cV];refine iteH.split (fun h2=>?_) fun h2=>?_
 all_goals
  simp -dsimp (maxSteps:=1000000) (disch:=(first | omega | assumption | exact am _ | exact bp _ _ | exact bF | exact cO _ _ _ | exact bX _ _ | exact bP _ _ _ _ _ _ | exact cW _ _ | exact cp _)) only [↓xX,xW,Nat.reduceLT,Nat.reduceEqDiff,Nat.reduceAdd,reduceIte,reduceCtorEq,Nat.reduceBEq,Int.reduceEq,Int.reduceLT,Int.reduceLE,Int.reduceAdd,Int.reduceSub,hl,g0,qJ,Af,↓cV];refine iteH.split (fun h3=>?_) fun h3=>?_
 ·have he:w / 2^56=w / 4294967296 / 65536 / 256:=zO;obtain ⟨L,f1,f2,f3,f4,f5,f6,f7⟩:=fin 56 (w / 4294967296 / 65536 / 256) zO zO he zO;have f3':IntKind.i64.wrap (56+(L:Int))=((56+L:Nat):Int):=by rw [wrap_i64] <;> omega
  simp -dsimp (maxSteps:=1000000) (disch:=(first | omega | assumption | exact am _ | exact bp _ _ | exact bF | exact cO _ _ _ | exact bX _ _ | exact bP _ _ _ _ _ _ | exact cW _ _ | exact cp _)) only [↓xX,xW,Nat.reduceLT,Nat.reduceEqDiff,Nat.reduceAdd,reduceIte,reduceCtorEq,Nat.reduceBEq,Int.reduceEq,Int.reduceLT,Int.reduceLE,Int.reduceAdd,Int.reduceSub,hl,g0,qJ,Af,↓cV,f1,f2,f3',(show IntKind.i64.wrap 16=16 from wk 16 zO),(show IntKind.i64.wrap 40=40 from wk 40 zO),(show IntKind.i64.wrap 48=48 from wk 48 zO),(show IntKind.i64.wrap 56=56 from wk 56 zO),(show IntKind.i64.wrap 24=24 from wk 24 zO),(show IntKind.i64.wrap 8=8 from wk 8 zO)];exact ⟨⟨56+L,rfl,f4,f5,f6,f7⟩,zK⟩
 ·have he:w / 2^48=w / 4294967296 / 65536:=zO;obtain ⟨L,f1,f2,f3,f4,f5,f6,f7⟩:=fin 48 (w / 4294967296 / 65536) zO zO he zO;have f3':IntKind.i64.wrap (48+(L:Int))=((48+L:Nat):Int):=by rw [wrap_i64] <;> omega
  simp -dsimp (maxSteps:=1000000) (disch:=(first | omega | assumption | exact am _ | exact bp _ _ | exact bF | exact cO _ _ _ | exact bX _ _ | exact bP _ _ _ _ _ _ | exact cW _ _ | exact cp _)) only [↓xX,xW,Nat.reduceLT,Nat.reduceEqDiff,Nat.reduceAdd,reduceIte,reduceCtorEq,Nat.reduceBEq,Int.reduceEq,Int.reduceLT,Int.reduceLE,Int.reduceAdd,Int.reduceSub,hl,g0,qJ,Af,↓cV,f1,f2,f3',(show IntKind.i64.wrap 16=16 from wk 16 zO),(show IntKind.i64.wrap 40=40 from wk 40 zO),(show IntKind.i64.wrap 48=48 from wk 48 zO),(show IntKind.i64.wrap 56=56 from wk 56 zO),(show IntKind.i64.wrap 24=24 from wk 24 zO),(show IntKind.i64.wrap 8=8 from wk 8 zO)];exact ⟨⟨48+L,rfl,f4,f5,f6,f7⟩,zK⟩
 ·have he:w / 2^40=w / 4294967296 / 256:=zO;obtain ⟨L,f1,f2,f3,f4,f5,f6,f7⟩:=fin 40 (w / 4294967296 / 256) zO zO he zO;have f3':IntKind.i64.wrap (40+(L:Int))=((40+L:Nat):Int):=by rw [wrap_i64] <;> omega
  simp -dsimp (maxSteps:=1000000) (disch:=(first | omega | assumption | exact am _ | exact bp _ _ | exact bF | exact cO _ _ _ | exact bX _ _ | exact bP _ _ _ _ _ _ | exact cW _ _ | exact cp _)) only [↓xX,xW,Nat.reduceLT,Nat.reduceEqDiff,Nat.reduceAdd,reduceIte,reduceCtorEq,Nat.reduceBEq,Int.reduceEq,Int.reduceLT,Int.reduceLE,Int.reduceAdd,Int.reduceSub,hl,g0,qJ,Af,↓cV,f1,f2,f3',(show IntKind.i64.wrap 16=16 from wk 16 zO),(show IntKind.i64.wrap 40=40 from wk 40 zO),(show IntKind.i64.wrap 48=48 from wk 48 zO),(show IntKind.i64.wrap 56=56 from wk 56 zO),(show IntKind.i64.wrap 24=24 from wk 24 zO),(show IntKind.i64.wrap 8=8 from wk 8 zO)];exact ⟨⟨40+L,rfl,f4,f5,f6,f7⟩,zK⟩
 ·have he:w / 2^32=w / 4294967296:=zO;obtain ⟨L,f1,f2,f3,f4,f5,f6,f7⟩:=fin 32 (w / 4294967296) zO zO he zO;have f3':IntKind.i64.wrap (32+(L:Int))=((32+L:Nat):Int):=by rw [wrap_i64] <;> omega
  simp -dsimp (maxSteps:=1000000) (disch:=(first | omega | assumption | exact am _ | exact bp _ _ | exact bF | exact cO _ _ _ | exact bX _ _ | exact bP _ _ _ _ _ _ | exact cW _ _ | exact cp _)) only [↓xX,xW,Nat.reduceLT,Nat.reduceEqDiff,Nat.reduceAdd,reduceIte,reduceCtorEq,Nat.reduceBEq,Int.reduceEq,Int.reduceLT,Int.reduceLE,Int.reduceAdd,Int.reduceSub,hl,g0,qJ,Af,↓cV,f1,f2,f3',(show IntKind.i64.wrap 16=16 from wk 16 zO),(show IntKind.i64.wrap 40=40 from wk 40 zO),(show IntKind.i64.wrap 48=48 from wk 48 zO),(show IntKind.i64.wrap 56=56 from wk 56 zO),(show IntKind.i64.wrap 24=24 from wk 24 zO),(show IntKind.i64.wrap 8=8 from wk 8 zO)];exact ⟨⟨32+L,rfl,f4,f5,f6,f7⟩,zK⟩
 ·have he:w / 2^24=w / 65536 / 256:=zO;obtain ⟨L,f1,f2,f3,f4,f5,f6,f7⟩:=fin 24 (w / 65536 / 256) zO zO he zO;have f3':IntKind.i64.wrap (24+(L:Int))=((24+L:Nat):Int):=by rw [wrap_i64] <;> omega
  simp -dsimp (maxSteps:=1000000) (disch:=(first | omega | assumption | exact am _ | exact bp _ _ | exact bF | exact cO _ _ _ | exact bX _ _ | exact bP _ _ _ _ _ _ | exact cW _ _ | exact cp _)) only [↓xX,xW,Nat.reduceLT,Nat.reduceEqDiff,Nat.reduceAdd,reduceIte,reduceCtorEq,Nat.reduceBEq,Int.reduceEq,Int.reduceLT,Int.reduceLE,Int.reduceAdd,Int.reduceSub,hl,g0,qJ,Af,↓cV,f1,f2,f3',(show IntKind.i64.wrap 16=16 from wk 16 zO),(show IntKind.i64.wrap 40=40 from wk 40 zO),(show IntKind.i64.wrap 48=48 from wk 48 zO),(show IntKind.i64.wrap 56=56 from wk 56 zO),(show IntKind.i64.wrap 24=24 from wk 24 zO),(show IntKind.i64.wrap 8=8 from wk 8 zO)];exact ⟨⟨24+L,rfl,f4,f5,f6,f7⟩,zK⟩
 ·have he:w / 2^16=w / 65536:=zO;obtain ⟨L,f1,f2,f3,f4,f5,f6,f7⟩:=fin 16 (w / 65536) zO zO he zO;have f3':IntKind.i64.wrap (16+(L:Int))=((16+L:Nat):Int):=by rw [wrap_i64] <;> omega
  simp -dsimp (maxSteps:=1000000) (disch:=(first | omega | assumption | exact am _ | exact bp _ _ | exact bF | exact cO _ _ _ | exact bX _ _ | exact bP _ _ _ _ _ _ | exact cW _ _ | exact cp _)) only [↓xX,xW,Nat.reduceLT,Nat.reduceEqDiff,Nat.reduceAdd,reduceIte,reduceCtorEq,Nat.reduceBEq,Int.reduceEq,Int.reduceLT,Int.reduceLE,Int.reduceAdd,Int.reduceSub,hl,g0,qJ,Af,↓cV,f1,f2,f3',(show IntKind.i64.wrap 16=16 from wk 16 zO),(show IntKind.i64.wrap 40=40 from wk 40 zO),(show IntKind.i64.wrap 48=48 from wk 48 zO),(show IntKind.i64.wrap 56=56 from wk 56 zO),(show IntKind.i64.wrap 24=24 from wk 24 zO),(show IntKind.i64.wrap 8=8 from wk 8 zO)];exact ⟨⟨16+L,rfl,f4,f5,f6,f7⟩,zK⟩
 ·have he:w / 2^8=w / 256:=zO;obtain ⟨L,f1,f2,f3,f4,f5,f6,f7⟩:=fin 8 (w / 256) zO zO he zO;have f3':IntKind.i64.wrap (8+(L:Int))=((8+L:Nat):Int):=by rw [wrap_i64] <;> omega
  simp -dsimp (maxSteps:=1000000) (disch:=(first | omega | assumption | exact am _ | exact bp _ _ | exact bF | exact cO _ _ _ | exact bX _ _ | exact bP _ _ _ _ _ _ | exact cW _ _ | exact cp _)) only [↓xX,xW,Nat.reduceLT,Nat.reduceEqDiff,Nat.reduceAdd,reduceIte,reduceCtorEq,Nat.reduceBEq,Int.reduceEq,Int.reduceLT,Int.reduceLE,Int.reduceAdd,Int.reduceSub,hl,g0,qJ,Af,↓cV,f1,f2,f3',(show IntKind.i64.wrap 16=16 from wk 16 zO),(show IntKind.i64.wrap 40=40 from wk 40 zO),(show IntKind.i64.wrap 48=48 from wk 48 zO),(show IntKind.i64.wrap 56=56 from wk 56 zO),(show IntKind.i64.wrap 24=24 from wk 24 zO),(show IntKind.i64.wrap 8=8 from wk 8 zO)];exact ⟨⟨8+L,rfl,f4,f5,f6,f7⟩,zK⟩
 ·have he:w / 2^0=w:=zO;obtain ⟨L,f1,f2,f3,f4,f5,f6,f7⟩:=fin 0 (w) zO zO he zO;have f3':IntKind.i64.wrap (0+(L:Int))=((0+L:Nat):Int):=by rw [wrap_i64] <;> omega
  simp -dsimp (maxSteps:=1000000) (disch:=(first | omega | assumption | exact am _ | exact bp _ _ | exact bF | exact cO _ _ _ | exact bX _ _ | exact bP _ _ _ _ _ _ | exact cW _ _ | exact cp _)) only [↓xX,xW,Nat.reduceLT,Nat.reduceEqDiff,Nat.reduceAdd,reduceIte,reduceCtorEq,Nat.reduceBEq,Int.reduceEq,Int.reduceLT,Int.reduceLE,Int.reduceAdd,Int.reduceSub,hl,g0,qJ,Af,↓cV,f1,f2,f3',(show IntKind.i64.wrap 16=16 from wk 16 zO),(show IntKind.i64.wrap 40=40 from wk 40 zO),(show IntKind.i64.wrap 48=48 from wk 48 zO),(show IntKind.i64.wrap 56=56 from wk 56 zO),(show IntKind.i64.wrap 24=24 from wk 24 zO),(show IntKind.i64.wrap 8=8 from wk 8 zO)];exact ⟨⟨0+L,by rw [VQ],f4,f5,f6,f7⟩,zK⟩
def C9 (C:Code tab) (hw:Wf H) {w:Nat} (h0:0<w) (hB:w<18446744073709551616) :
  Ans tab (.fn dw [.int .u64 (w:Int)]) H fun v H'=>(∃ z:Nat,v=.int .i64 (z:Int)/\z<64/\w*2^z<18446744073709551616/\9223372036854775808<=w*2^z)/\Kp H H':=by
 refine cR C.q169 zU fun T hl g0=>?_;refine zW (aD hl g0) ?_;refine AnsH.use (IS C zF h0 hB) ?_;rintro v H2 ⟨⟨L,rfl,h1,h2,h3,h4⟩,hk2⟩;obtain ⟨k2,_,_⟩:=zT H zK hk2;have hwr:IntKind.i64.wrap (64-(L:Int))=((64-L:Nat):Int):=by rw [wrap_i64] <;> omega
 refine zW (aE hl g0 hwr) ?_;refine ⟨⟨64-L,rfl,zO,?_,?_⟩,zK⟩
 ·have:=Xj h3 (VK (n:=64-L) (show 0<2 by decide))
  rw [<- VZ] at this;have e:L+(64-L)=64:=zO;rw [e] at this;exact this
 ·have:=Vl (2^(64-L)) h4
  rw [<- VZ] at this;have e:L-1+(64-L)=63:=zO;rw [e] at this;exact this
end
def Same.set {D:List Nat} {T T1:Tm} {i:Nat} {v:AV} (h:Same D T T1) (hi:i∈D):Same D T (T1.set i v) :=
 ⟨by simp [h.len],fun s hs=>by rw [lV _ _ _ _ (fun e=>hs (by rw [<- e]; exact hi))]; exact h.at_ s hs⟩
def Tt (a:Nat):bV .mul .int (.int .u64 (a:Int)) (.int .u64 4294967296)=some (.int .u64 ((a*4294967296 % 18446744073709551616:Nat):Int)):=xO a 4294967296
def Jx (a:Nat):bV .mul .int (.int .u64 4294967296) (.int .u64 (a:Int))=some (.int .u64 ((4294967296*a % 18446744073709551616:Nat):Int)):=xO 4294967296 a
def tU {a:Nat} (h:0<a) (ha:a<18446744073709551616):bV .sub .int (.int .u64 (a:Int)) (.int .u64 1)=some (.int .u64 ((a-1:Nat):Int)):=by
 rw [show (1:Int)=((1:Nat):Int) from rfl,xN a 1 zO];have e:(a+18446744073709551616-1) % 18446744073709551616=a-1:=zO;rw [e]
def sub64 {z:Nat} (h:z<=64):bV .sub .int (.int .u64 64) (.int .u64 (z:Int))=some (.int .u64 ((64-z:Nat):Int)):=by
 rw [show (64:Int)=((64:Nat):Int) from rfl,xN 64 z zO];have e:(64+18446744073709551616-z) % 18446744073709551616=64-z:=zO;rw [e]
def Nb {u n p R:Nat} (h:p+R=u*4294967296+n) (hR:R<18446744073709551616):((u*4294967296 % 18446744073709551616+n) % 18446744073709551616+18446744073709551616-p % 18446744073709551616) % 18446744073709551616=R:=zO
section
variable {Y a b u n q r:Nat}
def yx (hY:Y=a*4294967296+b) (hu:u<Y) (hn:n<4294967296) (e:q*a+r=u) (h:4294967296<=q\/4294967296*r+n<q*b):(u*4294967296+n) / Y<q:=by
 apply (Vz zO).2
 rcases h with h | h
 ·have:=Vl Y h
  omega
 ·have h1:q*Y=(q*a)*4294967296+q*b:=by rw [hY,Wa,VU]
  rw [h1]
  generalize q*a=p at *
  omega
def lZ (hY:Y=a*4294967296+b) (h0:0<Y) (e:q*a+r=u) (h:q*b<=4294967296*r+n):q<=(u*4294967296+n) / Y:=by
 apply (YJ h0).2
 have h1:q*Y=(q*a)*4294967296+q*b:=by rw [hY,Wa,VU]
 rw [h1]
 generalize q*a=p at *
 omega
def nt (hb:b<4294967296) (hq:q<=4294967296) (hr:4294967296<=r):q*b<=4294967296*r+n:=by
 have h1:q*b<=4294967296*4294967295:=Wq hq zO;omega
def yw (hY:Y=a*4294967296+b) (hb:b<4294967296) (ha:2147483648<=a) (hu:u<Y) (hn:n<4294967296):u / a<=4294967297/\(u*4294967296+n) / Y<=u / a:=by
 have h0:0<a:=zO;have e:=Wj u a;have hr:u % a<a:=V4 _ h0;rw [Vt] at e;refine ⟨?_,?_⟩
 ·apply XO
  apply (Vz h0).2
  omega
 ·apply XO
  apply (Vz zO).2
  have h1:(u / a+1)*Y=((u / a+1)*a)*4294967296+(u / a+1)*b:=by rw [hY,Wa,VU]
  have h2:(u / a+1)*a=u / a*a+a:=by rw [Wh,X7]
  rw [Nat.succ_eq_add_one,h1,h2]
  generalize u / a*a=p at *
  omega
end
def lM {tab:Nat->Option aA} {rd:Bool} {id:Nat} {c:ACode} {T:Tm} {H:Heap} {Q:Ex->Tm->Heap->Prop} {L:Nat} (H0:Heap) (live:List Nat) (P:Nat->List AV->Heap->Prop) (R:List AV->Heap->Prop) (k0:Nat)
  (hl:T.length=L) (hp:iC c=true) (hk0:Kp H0 H) (h0:P k0 (live.map (ad T)) H)
  (hb:∀ k T1 H1,T1.length=L->Same (fH c) T T1->Kp H0 H1->P k (live.map (ad T1)) H1->WC tab rd c T1 H1 (RN id (fun T2 H2=>Kp H0 H2/\∃ k',k'<k/\P k' (live.map (ad T2)) H2) (fun x T2 H2=>x=.nrm/\Kp H0 H2/\R (live.map (ad T2)) H2)))
  (he:∀ T1 H1,T1.length=L->Same (fH c) T T1->Kp H0 H1->R (live.map (ad T1)) H1->Q .nrm T1 H1):WC tab rd (O0 id c) T H Q:=by
 unfold O0;refine WB.wcLoop ?_;refine Dn (fun k T1 H1=>T1.length=L/\Same (fH c) T T1/\Kp H0 H1/\P k (live.map (ad T1)) H1) ?_ k0 T H ⟨hl,Same.refl _ _,hk0,h0⟩;rintro k T1 H1 ⟨hl1,hs1,hk1,hP1⟩;refine ((hb k T1 H1 hl1 hs1 hk1 hP1).wb.same hp).mono ?_;rintro x T2 H2 ⟨hs2,hq⟩;have hsame:Same (fH c) T T2:=(hs1.trans hs2).wide fun s hs=>by simpa using hs
 cases x with
 | nrm =>
  obtain ⟨hk2,k',hk',hP2⟩:=hq;exact ⟨k',hk',hs2.len.trans hl1,hsame,hk2,hP2⟩
 | exit e =>
  simp only [RN] at hq;show uC id Q (.exit e) T2 H2;simp only [uC];by_cases h1:e=id
  ·rw [if_pos h1] at hq ⊢;exact he T2 H2 (hs2.len.trans hl1) hsame hq.2.1 hq.2.2
  ·rw [if_neg h1] at hq;exact absurd hq.1 (by simp)
 | goto l=>exact absurd hq.1 (by simp)
 | ret=>exact absurd hq.1 (by simp)
section
variable {tab:Nat->Option aA} {H:Heap}
set_option maxHeartbeats 1000000 in
def BM (C:Code tab) (hw:Wf H) {hi lo y:Nat} (hy:hi<y) (hlo:lo<18446744073709551616) (hyB:y<18446744073709551616) :
  Ans tab (.fn iY [.int .u64 (hi:Int),.int .u64 (lo:Int),.int .u64 (y:Int)]) H fun v H'=>v=.tup [.int .u64 (((hi*B+lo) / y:Nat):Int),.int .u64 (((hi*B+lo) % y:Nat):Int)]/\Kp H H':=by
 refine kS C.q177 zU fun T hl g0 g1 g2=>?_;have e0:¬ (y:Int)=0:=zO;have e1:¬ y<=hi:=zO;refine zW (dL hl g0 g1 g2 e0 e1) ?_;refine iteH.split (fun h0=>?_) (fun h0=>?_)
 ·have h0':hi=0:=zO;subst h0';have q1:=Q9 (a:=lo) (b:=y) hlo zO;have q2:=Tl (a:=lo) (b:=y) zO;rw [Yw,VQ];refine zW (aQ hl g0 g1 g2) ?_;refine aF ?_;refine zD (dL hl g0 g1 g2 q1 q2) ?_;exact zK
 ·refine zW (aQ hl g0 g1 g2) ?_;refine AnsH.use (C9 C zF zO hyB) ?_;rintro v H2 ⟨⟨z,rfl,hz,hz1,hz2⟩,hk2⟩;obtain ⟨k2,_,w2⟩:=zT H zK hk2;have hcz:IntKind.u64.wrap (z:Int)=(z:Int):=gf zO zO;have p2z:0<2^z:=VK zU;obtain ⟨Y,hY⟩:∃ Y,y*2^z=Y:=⟨_,rfl⟩
  rw [hY] at hz1 hz2;have s1:bV .shl .int (.int .u64 (y:Int)) (.int .u64 (z:Int))=some (.int .u64 (Y:Int)):=by rw [sR zO,hY,VV hz1]
  have s2:=sub64 (z:=z) zO;have hhi:hi*2^z<18446744073709551616:=Y5 (Xj hy p2z) (by rw [hY]; exact hz1);have s3:bV .shl .int (.int .u64 (hi:Int)) (.int .u64 (z:Int))=some (.int .u64 ((hi*2^z:Nat):Int)):=by rw [sR zO,VV hhi]
  have s4:bV .shr .int (.int .u64 (lo:Int)) (.int .u64 ((64-z:Nat):Int))=some (.int .u64 ((lo / 2^(64-z):Nat):Int)):=BN zO;have hB:B=2^(64-z)*2^z:=by
   rw [<- VZ]; have:64-z+z=64:=zO;rw [this]
  have hlz:lo / 2^(64-z)<2^z:=by
   apply (Vz (VK zU)).2
   rw [Vt,<- hB]; exact hlo
  obtain ⟨u,hu⟩:∃ u,hi*2^z+lo / 2^(64-z)=u:=⟨_,rfl⟩
  have s5:bV .or .int (.int .u64 ((hi*2^z:Nat):Int)) (.int .u64 ((lo / 2^(64-z):Nat):Int))=some (.int .u64 (u:Int)):=by
   rw [wy hhi (Wd (XD _ _) hlo),Nat.or_comm,Vt hi,DW hlz,<- hu,Vt hi,XL]
  obtain ⟨m,hm⟩:∃ m,lo*2^z % B=m:=⟨_,rfl⟩
  have hmB:m<18446744073709551616:=by rw [<- hm]; exact V4 _ zU
  have s6:bV .shl .int (.int .u64 (lo:Int)) (.int .u64 (z:Int))=some (.int .u64 (m:Int)):=by rw [sR zO,hm]
  have hN:(hi*B+lo)*2^z=u*B+m:=by
   have h1:=Wj (lo*2^z) B;rw [hm] at h1;have h2:lo*2^z / B=lo / 2^(64-z):=by rw [hB,YK _ _ p2z]
   rw [h2] at h1;rw [Wh,<- h1,<- hu,Wh,Ya,Vt B];omega
  have huY:u<Y:=by
   have h1:(hi*B+lo)*2^z<y*B*2^z:=by
    refine Xj ?_ p2z
    have:(hi+1)*B<=y*B:=Vl B hy
    rw [Wh] at this;unfold B at *; omega
   rw [hN,Ya,hY] at h1;unfold B at h1; omega
  obtain ⟨a,ha⟩:∃ a,Y / 4294967296=a:=⟨_,rfl⟩
  obtain ⟨b,hb⟩:∃ b,Y % 4294967296=b:=⟨_,rfl⟩
  obtain ⟨n1,hn1⟩:∃ n1,m / 4294967296=n1:=⟨_,rfl⟩
  obtain ⟨n0,hn0⟩:∃ n0,m % 4294967296=n0:=⟨_,rfl⟩
  have hab:Y=a*4294967296+b:=zO;have hbl:b<4294967296:=zO;have hal:2147483648<=a:=zO;have hn1l:n1<4294967296:=zO;have hn0l:n0<4294967296:=zO;have hquo:∀ x:Nat,x<18446744073709551616->bV .quo .int (.int .u64 (x:Int)) (.int .u64 (a:Int))=some (.int .u64 ((x / a:Nat):Int)):=fun x hx=>Q9 hx zO;have hrest:∀ x:Nat,x<18446744073709551616->x / a*a % 18446744073709551616=x / a*a/\(x+18446744073709551616-x / a*a) % 18446744073709551616=x % a/\x / a*a+x % a=x:=by
   intro x hx;have h1:=Wj x a;rw [Vt] at h1
   generalize x / a*a=p at *
   generalize x % a=t at *
   omega
  have qu:=hquo u zO;obtain ⟨ru1,ru2,ru3⟩:=hrest u zO;refine zW (Pr hl g0 g1 g2 hcz s1 s2 s3 s4 s5 s6 ha hb hn1 hn0 qu ru1 ru2) ?_;obtain ⟨Uh,Ug⟩:=yw hab hbl hal huY hn1l;have ham:∀ x:Nat,x % a<4294967296:=fun x=>Y5 (V4 _ zO) zO;refine lM H [15,16] (fun k vs H'=>∃ q r:Nat,vs=[.int .u64 (q:Int),.int .u64 (r:Int)]/\k=q/\q*a+r=u/\(u*4294967296+n1) / Y<=q/\q<=4294967297/\r<4294967296) (fun vs H'=>∃ r,vs=[.int .u64 (((u*4294967296+n1) / Y:Nat):Int),r]) (u / a) (by simp only [U4]; exact hl) rfl zK ⟨u / a,u % a,by exact zV (aQ hl g0 g1 g2),rfl,ru3,Ug,Uh,ham u⟩ ?_ ?_
  ·rintro k T1 H1 hl1 hs1 hk1 ⟨q,r,hv,hkq,e,hge,hq,hr⟩;obtain rfl:=hkq.symm;have w1:=hk1.wf;have le_hk1:=hk1.le;simp only [Ve,Vk,Vg,and_true] at hv;obtain ⟨vq,vr⟩:=hv;have u9:ad T1 9=.int .u64 (a:Int):=(hs1.at_ 9 zU).trans (zV (aQ hl g0 g1 g2));have u10:ad T1 10=.int .u64 (b:Int):=(hs1.at_ 10 zU).trans (zV (aQ hl g0 g1 g2));have un:ad T1 13=.int .u64 (n1:Int):=(hs1.at_ 13 zU).trans (zV (aQ hl g0 g1 g2));have step:4294967296<=q\/4294967296*r+n1<q*b->0<q/\(q-1)*a+(r+a)=u/\(u*4294967296+n1) / Y<=q-1:=by
    intro h;have h1:=yx hab huY hn1l e h;have h2:0<q:=Wd (Vj _) h1;refine ⟨h2,?_,Yn h1⟩;have h3:q*a=(q-1)*a+a:=by rw [<- WP]; congr 1; omega
    omega
   have w2:(r+a) % 18446744073709551616=r+a:=zO;by_cases c1:4294967296<=q
   ·have c1':(4294967296:Int)<=(q:Int):=zO;obtain ⟨p1,p2,p3⟩:=step (.inl c1);have z1:=tU (a:=q) p1 zO;refine zW (jW hl1 vq vr u9 u10 un c1' z1 w2) ?_;refine iteH.split (fun h=>?_) fun h=>?_
    ·refine zW (iy hl1 vq vr u9 u10 un z1 w2) ?_
     have:=lZ (Y:=Y) hab zO p2 (nt hbl (q:=q-1) (n:=n1) zO zO)
     exact ⟨zK,_,by rw [Xs this p3]⟩
    ·refine zW (iy hl1 vq vr u9 u10 un z1 w2) ?_;exact ⟨zK,q-1,zO,q-1,r+a,rfl,rfl,p2,p3,zO,zO⟩
   ·have c1':¬ (4294967296:Int)<=(q:Int):=zO;have m1:q*b % 18446744073709551616=q*b:=by
     apply VV
     have:q*b<=4294967295*4294967295:=Wq zO zO
     omega
    have m2:4294967296*r % 18446744073709551616=4294967296*r:=zO;have m3:(4294967296*r+n1) % 18446744073709551616=4294967296*r+n1:=zO;by_cases c2:4294967296*r+n1<q*b
    ·obtain ⟨p1,p2,p3⟩:=step (.inr c2);have z1:=tU (a:=q) p1 zO;refine zW (Pt hl1 vq vr u9 u10 un c1' @c2 m1 m2 m3 @Jx z1 w2) ?_;refine iteH.split (fun h=>?_) fun h=>?_
     ·refine zW (iy hl1 vq vr u9 u10 un z1 w2) ?_
      have:=lZ (Y:=Y) hab zO p2 (nt hbl (q:=q-1) (n:=n1) zO zO)
      exact ⟨zK,_,by rw [Xs this p3]⟩
     ·refine zW (iy hl1 vq vr u9 u10 un z1 w2) ?_;exact ⟨zK,q-1,zO,q-1,r+a,rfl,rfl,p2,p3,zO,zO⟩
    ·refine zW (zq hl1 vq vr u9 u10 un c1' @c2 m1 m2 m3 @Jx) ?_
     have:=lZ (Y:=Y) hab zO e (Xw c2)
     exact ⟨zK,_,by rw [Xs this hge]⟩
  ·rintro T1 H1 hl1 hs1 hk1 ⟨r,hv⟩;have w1:=hk1.wf;have le_hk1:=hk1.le;simp only [Ve,Vk,Vg,and_true] at hv;obtain ⟨v15,-⟩:=hv;obtain ⟨q1,hq1⟩:∃ q1,(u*4294967296+n1) / Y=q1:=⟨_,rfl⟩
   obtain ⟨u1,hu1⟩:∃ u1,(u*4294967296+n1) % Y=u1:=⟨_,rfl⟩
   have d1:=Wj (u*4294967296+n1) Y;rw [hq1,hu1,Vt Y] at d1;have hu1Y:u1<Y:=by rw [<- hu1]; exact V4 _ zO
   rw [hq1] at v15;have t2:ad T1 2=.int .u64 (Y:Int):=(hs1.at_ 2 zU).trans (zV (aQ hl g0 g1 g2));have t8:ad T1 8=.int .u64 (z:Int):=(hs1.at_ 8 zU).trans (zV (aQ hl g0 g1 g2));have t9:ad T1 9=.int .u64 (a:Int):=(hs1.at_ 9 zU).trans (zV (aQ hl g0 g1 g2));have t10:ad T1 10=.int .u64 (b:Int):=(hs1.at_ 10 zU).trans (zV (aQ hl g0 g1 g2));have t11:ad T1 11=.int .u64 (u:Int):=(hs1.at_ 11 zU).trans (zV (aQ hl g0 g1 g2));have t13:ad T1 13=.int .u64 (n1:Int):=(hs1.at_ 13 zU).trans (zV (aQ hl g0 g1 g2));have t14:ad T1 14=.int .u64 (n0:Int):=(hs1.at_ 14 zU).trans (zV (aQ hl g0 g1 g2));have f1:((u*4294967296 % 18446744073709551616+n1) % 18446744073709551616+18446744073709551616-q1*Y % 18446744073709551616) % 18446744073709551616=u1:=Nb d1 zO;have qu1:=hquo u1 zO;obtain ⟨rv1,rv2,rv3⟩:=hrest u1 zO;obtain ⟨st3,st4⟩:=yw hab hbl hal hu1Y hn0l;refine zW (Pt hl1 v15 t2 t8 t9 t10 t11 t13 t14 @Tt f1 qu1 rv1 rv2) ?_;refine lM H [18,16] (fun k vs H'=>∃ q r:Nat,vs=[.int .u64 (q:Int),.int .u64 (r:Int)]/\k=q/\q*a+r=u1/\(u1*4294967296+n0) / Y<=q/\q<=4294967297/\r<4294967296) (fun vs H'=>∃ r,vs=[.int .u64 (((u1*4294967296+n0) / Y:Nat):Int),r]) (u1 / a) (by simp only [U4]; exact hl1) rfl zK ⟨u1 / a,u1 % a,by exact zV hl1,rfl,rv3,st4,st3,ham u1⟩ ?_ ?_
   ·rintro k T2 H3 hl2 hs2 hk3 ⟨q,r,hv,hkq,e,hge,hq,hr⟩;obtain rfl:=hkq.symm;have w1:=hk3.wf;have le_hk3:=hk3.le;simp only [Ve,Vk,Vg,and_true] at hv;obtain ⟨vq,vr⟩:=hv;have u9:ad T2 9=.int .u64 (a:Int):=(hs2.at_ 9 zU).trans (zV (aQ hl1 t9 t10 t14));have u10:ad T2 10=.int .u64 (b:Int):=(hs2.at_ 10 zU).trans (zV (aQ hl1 t9 t10 t14));have un:ad T2 14=.int .u64 (n0:Int):=(hs2.at_ 14 zU).trans (zV (aQ hl1 t9 t10 t14));have step:4294967296<=q\/4294967296*r+n0<q*b->0<q/\(q-1)*a+(r+a)=u1/\(u1*4294967296+n0) / Y<=q-1:=by
     intro h;have h1:=yx hab hu1Y hn0l e h;have h2:0<q:=Wd (Vj _) h1;refine ⟨h2,?_,Yn h1⟩;have h3:q*a=(q-1)*a+a:=by rw [<- WP]; congr 1; omega
     omega
    have w2:(r+a) % 18446744073709551616=r+a:=zO;by_cases c1:4294967296<=q
    ·have c1':(4294967296:Int)<=(q:Int):=zO;obtain ⟨p1,p2,p3⟩:=step (.inl c1);have z1:=tU (a:=q) p1 zO;refine zW (jW hl2 vq vr u9 u10 un c1' z1 w2) ?_;refine iteH.split (fun h=>?_) fun h=>?_
     ·refine zW (iy hl2 vq vr u9 u10 un z1 w2) ?_
      have:=lZ (Y:=Y) hab zO p2 (nt hbl (q:=q-1) (n:=n0) zO zO)
      exact ⟨zK,_,by rw [Xs this p3]⟩
     ·refine zW (iy hl2 vq vr u9 u10 un z1 w2) ?_;exact ⟨zK,q-1,zO,q-1,r+a,rfl,rfl,p2,p3,zO,zO⟩
    ·have c1':¬ (4294967296:Int)<=(q:Int):=zO;have m1:q*b % 18446744073709551616=q*b:=by
      apply VV
      have:q*b<=4294967295*4294967295:=Wq zO zO
      omega
     have m2:4294967296*r % 18446744073709551616=4294967296*r:=zO;have m3:(4294967296*r+n0) % 18446744073709551616=4294967296*r+n0:=zO;by_cases c2:4294967296*r+n0<q*b
     ·obtain ⟨p1,p2,p3⟩:=step (.inr c2);have z1:=tU (a:=q) p1 zO;refine zW (Pt hl2 vq vr u9 u10 un c1' @c2 m1 m2 m3 @Jx z1 w2) ?_;refine iteH.split (fun h=>?_) fun h=>?_
      ·refine zW (iy hl2 vq vr u9 u10 un z1 w2) ?_
       have:=lZ (Y:=Y) hab zO p2 (nt hbl (q:=q-1) (n:=n0) zO zO)
       exact ⟨zK,_,by rw [Xs this p3]⟩
      ·refine zW (iy hl2 vq vr u9 u10 un z1 w2) ?_;exact ⟨zK,q-1,zO,q-1,r+a,rfl,rfl,p2,p3,zO,zO⟩
     ·refine zW (zq hl2 vq vr u9 u10 un c1' @c2 m1 m2 m3 @Jx) ?_
      have:=lZ (Y:=Y) hab zO e (Xw c2)
      exact ⟨zK,_,by rw [Xs this hge]⟩
   ·rintro T2 H3 hl2 hs2 hk3 ⟨r,hv⟩;have w3:=hk3.wf;have le_hk3:=hk3.le;simp only [Ve,Vk,Vg,and_true] at hv;obtain ⟨v18,-⟩:=hv;obtain ⟨q0,hq0⟩:∃ q0,(u1*4294967296+n0) / Y=q0:=⟨_,rfl⟩
    obtain ⟨r0,hr0⟩:∃ r0,(u1*4294967296+n0) % Y=r0:=⟨_,rfl⟩
    have d2:=Wj (u1*4294967296+n0) Y;rw [hq0,hr0,Vt Y] at d2;have hr0Y:r0<Y:=by rw [<- hr0]; exact V4 _ zO
    rw [hq0] at v18;have x2:ad T2 2=.int .u64 (Y:Int):=(hs2.at_ 2 zU).trans (zV (aD hl1 t2));have x8:ad T2 8=.int .u64 (z:Int):=(hs2.at_ 8 zU).trans (zV (aD hl1 t8));have x14:ad T2 14=.int .u64 (n0:Int):=(hs2.at_ 14 zU).trans (zV (aD hl1 t14));have x15:ad T2 15=.int .u64 (q1:Int):=(hs2.at_ 15 zU).trans (zV (aD hl1 v15));have x17:ad T2 17=.int .u64 (u1:Int):=(hs2.at_ 17 zU).trans (zV hl1);have hq1l:q1<4294967296:=by
     rw [<- hq1]
     apply (Vz zO).2
     omega
    have hq0l:q0<4294967296:=by
     rw [<- hq0]
     apply (Vz zO).2
     omega
    have f2:(q1*4294967296 % 18446744073709551616+q0) % 18446744073709551616=q1*4294967296+q0:=zO;have f3:((u1*4294967296 % 18446744073709551616+n0) % 18446744073709551616+18446744073709551616-q0*Y % 18446744073709551616) % 18446744073709551616=r0:=Nb d2 zO;have hsh:bV .shr .int (.int .u64 (r0:Int)) (.int .u64 (z:Int))=some (.int .u64 ((r0 / 2^z:Nat):Int)):=BN zO;refine zW (iO hl2 v18 x2 x8 x14 x15 x17 @Tt f2 f3 hsh) ?_;have hall:(hi*B+lo)*2^z=(q1*4294967296+q0)*Y+r0:=by
     rw [hN,Wh,Ya];have e5:m=n1*4294967296+n0:=zO
     generalize q1*Y=p at *
     generalize q0*Y=p' at *
     unfold B;omega
    have g1':(hi*B+lo) / y=q1*4294967296+q0:=by
     rw [<- YK _ _ p2z,hall,hY];rw [XL,YL _ _ zO,W6 hr0Y,VQ]
    have g2':r0 / 2^z=(hi*B+lo) % y:=by
     have h1:(hi*B+lo)*2^z % (y*2^z)=r0:=by
      rw [hall,hY,XL,Nat.add_mul_mod_self_right,VV hr0Y]
     rw [ZK] at h1;rw [<- h1,Z9 _ p2z]
    rw [g1',g2'];exact ⟨rfl,zK⟩
end
def zC:∀ {out:List Nat} {M:Nat},(∀ j,j<out.length->out.getD j 0=M / B^j % B)->M<B^out.length->val out=M
 | [],M,_,h=>by simp at h; simp [val,h]
 | a :: t,M,hd,h=>by
  have h0:=hd 0 (by simp);simp only [XF,Yb,ZS] at h0;have ht:val t=M / B:=by
   refine zC (fun j hj=>?_) ?_
   ·have:=hd (j+1) (by simpa using hj)
    rw [WI] at this;rw [this,We,VJ,Vt B]
   ·apply (Vz zU).2
    rw [<- VJ]; simpa using h
  simp only [val,ht,h0];exact Y0 M B
def Io {out:List Nat} (h:∀ j,j<out.length->out.getD j 0<B):Lim out:=fun a ha=>by
 obtain ⟨j,hj,rfl⟩:=Wg ha
 have:=h j hj
 rw [U5,U7 hj] at this;exact this
def iM (n j:Nat):(ag n).getD j 0=n / B^j % B:=by
 have h1:(ag n).drop j=ag (n / B^j):=mF j n;have h2:(ag n).getD j 0=((ag n).drop j).getD 0 0:=by
  rw [U5,U5,Vw,WL]
 rw [h2,h1];by_cases h0:n / B^j=0
 ·rw [h0,cK]; rfl
 ·rw [jS h0]; rfl
def GP {a c m M:Nat} (ha:a<c) (hM:0<M):(a+c*m) % (c*M)=a+c*(m % M):=by
 have h1:m=m % M+M*(m / M):=(Y0 m M).symm;have h2:a+c*m=a+c*(m % M)+c*M*(m / M):=by
  conv=>lhs; rw [h1]
  rw [Wa,VU]; omega
 have h3:a+c*(m % M)<c*M:=by
  have h4:c*(m % M+1)<=c*M:=Xo c (V4 _ hM);rw [Wa] at h4; omega
 rw [h2,XI,VV h3]
def A9 {Y j r:Nat} (hr:r<64):Y / B^j % B / 2^r+2^(64-r)*(Y / B^(j+1) % B % 2^r)=Y / 2^r / B^j % B:=by
 have hB:B=2^r*2^(64-r):=by
  rw [<- VZ]; have:r+(64-r)=64:=zO;rw [this]
 have p2:0<2^r:=VK zU;have p3:0<2^(64-r):=VK zU;have e1:Y / 2^r / B^j=Y / B^j / 2^r:=by rw [We,We,Vt]
 have e2:Y / B^(j+1)=Y / B^j / B:=by rw [We,VJ]
 rw [e1,e2]
 generalize Y / B^j=Z
 have hz:Z=Z % B+B*(Z / B):=(Y0 Z B).symm;have hl:Z % B / 2^r<2^(64-r):=by
  apply (Vz p2).2
  rw [Vt,<- hB]; exact V4 _ zU
 have h1:Z / 2^r=Z % B / 2^r+2^(64-r)*(Z / B):=by
  conv=>lhs; rw [hz]
  rw [hB,VU,ZT _ _ p2,<- hB]
 have h2:Z / B % B % 2^r=Z / B % 2^r:=Nat.mod_mod_of_dvd _ ⟨2^(64-r),hB⟩;rw [h1,h2]
 have:=GP (a:=Z % B / 2^r) (c:=2^(64-r)) (m:=Z / B) (M:=2^r) hl p2
 rw [Vt (2^(64-r)) (2^r),<- hB] at this;exact this.symm
def Jf {x r:Nat} (hr:r<=64):x*2^(64-r) % B=2^(64-r)*(x % 2^r):=by
 have hB:B=2^(64-r)*2^r:=by
  rw [<- VZ]; have:64-r+r=64:=zO;rw [this]
 rw [hB,Vt x,ZR]
def rz {l:List Nat} {i v:Nat} (h:i<l.length):(l.set i v).getD i 0=v:=by
 rw [U5,W9,if_pos rfl,if_pos h]; rfl
section
variable {tab:Nat->Option aA} {H:Heap} {s:AV}
def N3 (C:Code tab) (hw:Wf H) {a:AV} {x k:Nat} (ha:bJ H a x) (hx:Sm x) (hk:k<=65536) :
  Ans tab (.fn uj [a,.int .i64 (k:Int)]) H fun v H'=>∃ o,v=.tup [o,.int .i64 0]/\bJ H' o (x / 2^k)/\Kp H H':=by
 refine bB C.q175 zU fun T hl g0 g1=>?_;refine zW (aE hl g0 g1) ?_;refine AnsH.eq (Cy C zF (ha.mono (zG H)) hx hk) fun H2 hk2=>?_;obtain ⟨k2,_,w2⟩:=zT H zK hk2;have n2:=k2.le;unfold Sm at hx;have hq:=NL (k:=k) (c:=64) zO zO;have hr:=NJ (k:=k) (c:=64) zO;obtain ⟨q,eq⟩:∃ q,q=k / 64:=⟨_,rfl⟩
 obtain ⟨r,er⟩:∃ r,r=k % 64:=⟨_,rfl⟩
 rw [<- eq] at hq;rw [<- er] at hr;have hq':bV .quo .int (.int .i64 (k:Int)) (.int .i64 64)=some (.int .i64 (q:Int)):=hq;have hr':bV .rem .int (.int .i64 (k:Int)) (.int .i64 64)=some (.int .i64 (r:Int)):=hr;have hr64:r<64:=zO;obtain ⟨n,hn⟩:∃ n,min q (ag x).length=n:=⟨_,rfl⟩
 have hmin:Ij (.int .i64 (q:Int)) (.int .i64 ((ag x).length:Int))=some (.int .i64 (n:Int)):=by rw [zi]; congr 2; split <;> omega
 obtain ⟨s',e0,hs'⟩:=SlV.lo (ha.mono k2.sub) .i64 n zO;have e':cw 1 a (some (.int .i64 (n:Int))) none none=some s':=e0;obtain ⟨l,hl0⟩:∃ l,(ag x).drop n=l:=⟨_,rfl⟩
 rw [hl0] at hs';have hlim:Lim l:=by rw [<- hl0]; exact (bo x).drop n
 have hln:l.length<=(ag x).length:=by rw [<- hl0,Wu]; omega
 refine zW (fy hl g0 g1 hq' ha.lenV hmin e') ?_;refine AnsH.use (wR C zF (hs'.mono (Sub.bump H2 _)) zO) ?_;rintro v H3 ⟨hv,hk3,hown⟩;obtain ⟨k3,_,w3⟩:=zT H zK hk3;obtain ⟨N,hN⟩:∃ N,l.length=N:=⟨_,rfl⟩
 have hvl:lenV v=some (.int .i64 (N:Int)):=by have:=hv.lenV; rwa [hN] at this
 rw [hN] at hown;obtain ⟨b,hb⟩:∃ b,0<N->v=.own b 0 N N 1 false/\H3.get b=some (.cells (aM l) ae true)/\H.next<=b:=by
  by_cases h0:0<N
  ·obtain ⟨b,h1,h2,h3⟩:=hown h0
   have:H.next<=H2.next:=n2
   exact ⟨b,fun _=>⟨h1,h2,by have:H2.next<=b:=Vn (VH _ _) h3; omega⟩⟩
  ·exact ⟨0,fun h=>absurd h h0⟩
 obtain ⟨Y,hY⟩:∃ Y,val l=Y:=⟨_,rfl⟩
 have hdig:∀ j,l.getD j 0=Y / B^j % B:=by
  intro j;have h1:l=ag Y:=by
   rw [<- hl0,mF] at hY ⊢;rw [bH] at hY; rw [hY]
  rw [h1,iM]
 have hYB:Y<B^N:=by rw [<- hY,<- hN]; exact wM hlim
 refine zW (aQ hl g0 g1 hvl) ?_;refine aq H [] (fun i vs H'=>∃ out,(0<N->H'.get b=some (.cells (aM out) ae true))/\(N=0->Lb H' v [])/\out.length=N/\(∀ j,j<i->out.getD j 0=Y / 2^r / B^j % B)/\(∀ j,i<=j->out.getD j 0=Y / B^j % B)) (a:=0) (N:=N) rfl (by refine zW (aE hl g0 g1) ?_; rfl) (zV (aE hl g0 g1)) (Vj _) zO (by simp only [U4,hl]; rfl) rfl (fun _ _ H' m h=>by
   obtain ⟨out,h1,h2,h3⟩:=h;exact ⟨out,h1,fun h0=>(h2 h0).mono (Sub.bump H' m),h3⟩) zK
  ⟨l,fun h0=>by exact zV ((hb h0).2.1),fun h0=>by
   have:l=[]:=V6 zO
   subst this; exact hv.mono (Sub.bump H3 _),hN,fun j hj=>by omega,fun j _=>hdig j⟩ ?_ ?_
 ·rintro i T1 H1 _ hi hl1 hi1 hs1 hk1 ⟨out,b0,-,hlen,hlow,hhigh⟩;simp only [U4,hl] at hl1;have w1:=hk1.wf;have le_hk1:=hk1.le;obtain ⟨hv',-,hbH⟩:=hb zO;have b6:=b0 zO;have lt6:=hk1.wf _ _ b6;have t7:ad T1 7=.own b 0 N N 1 false:=(hs1.at_ 7 zU).trans (zV (aQ hl g0 g1 hv'));have t1:ad T1 1=.int .i64 (k:Int):=(hs1.at_ 1 zU).trans (zV (aQ hl g0 g1 g1));have hsh:∀ y:Nat,bV .shr .int (.int .u64 (y:Int)) (.int .i64 (r:Int))=some (.int .u64 ((y / 2^r:Nat):Int)):=fun y=>sQ y r hr64;have hwi1:IntKind.i64.wrap ((i:Int)+1)=((i+1:Nat):Int):=by rw [wrap_i64] <;> omega
  have hoi:=hhigh i (Vb _);refine zW (iy hl1 t7 t1 hi1 @b6 hr' hsh hwi1) ?_;refine iteH.split (fun h=>?_) fun h=>?_
  ·have hoi1:=hhigh (i+1) zO;have hw64:IntKind.i64.wrap (64-(r:Int))=((64-r:Nat):Int):=by rw [wrap_i64] <;> omega
   have gi:(out.set i (out.getD i 0 / 2^r)).getD i 0=out.getD i 0 / 2^r:=rz zO;have gi1:(out.set i (out.getD i 0 / 2^r)).getD (i+1) 0=out.getD (i+1) 0:=bk zO;have hoB:out.getD i 0<18446744073709551616:=by rw [hoi]; exact V4 _ zU
   have hs2:=sR (x:=out.getD (i+1) 0) (r:=64-r) zO (k:=.i64);have hv1:out.getD i 0 / 2^r<2^(64-r):=by
    apply (Vz (VK zU)).2
    rw [<- VZ]
    have:64-r+r=64:=zO
    rw [this]; exact hoB
   have hor:=wy (a:=out.getD i 0 / 2^r) (b:=out.getD (i+1) 0*2^(64-r) % B) (Wd (XD _ _) hoB) (V4 _ zU);rw [Jf zO,DW hv1] at hor;rw [Jf zO] at hs2;have ti:aY (aM (out.set i (out.getD i 0 / 2^r))) i none=some (.int .u64 ((out.getD i 0 / 2^r:Nat):Int)):=by rw [DA zS,gi]
   have ti1:aY (aM (out.set i (out.getD i 0 / 2^r))) (i+1) none=some (.int .u64 ((out.getD (i+1) 0:Nat):Int)):=by rw [DA zS,gi1]
   refine aF ?_;refine zD (zq hl1 t7 t1 hi1 @b6 hr' hw64 hwi1 ti ti1 hs2 hor) ?_;refine ⟨zK,_,fun _=>rfl,fun h0=>by omega,by simp [hlen],fun j hj=>?_,fun j hj=>?_⟩
   ·by_cases hji:j=i
    ·subst hji;rw [rz zS,hoi,hoi1];exact A9 hr64
    ·rw [bk zO,bk zO];exact hlow j zO
   ·rw [bk zO,bk zO];exact hhigh j zO
  ·refine zW hl1 ?_;refine ⟨zK,_,fun _=>rfl,fun h0=>by omega,by simp [hlen],fun j hj=>?_,fun j hj=>?_⟩
   ·by_cases hji:j=i
    ·subst hji;rw [rz zO,hoi,<- A9 hr64];have h0:Y / B^(j+1)=0:=W6 (by
      have:j+1=N:=zO
      rw [this]; exact hYB)
     rw [h0]; simp
    ·rw [bk zO];exact hlow j zO
   ·rw [bk zO];exact hhigh j zO
 ·rintro T1 H1 hl1 hs1 hk1 ⟨out,b0,hz,hlen,hlow,-⟩;simp only [U4,hl] at hl1;have w1:=hk1.wf;have le_hk1:=hk1.le;have t7:ad T1 7=v:=(hs1.at_ 7 zU).trans (zV (aE hl g0 g1));have hlim':Lim out:=Io fun j hj=>by rw [hlow j zO]; exact V4 _ zU
  have hval:val out=Y / 2^r:=zC (fun j hj=>hlow j zO) (by rw [hlen]; exact Wd (XD _ _) hYB);have ho:Lb H1 v out:=by
   by_cases h0:0<N
   ·obtain ⟨hv',-,hbH⟩:=hb h0;rw [hv'];exact (vA (H0:=H) (ex:=false) (b0 h0) hbH hlen).sl
   ·have:out=[]:=V6 zO
    subst this; exact hz zO
  refine zW (aD hl1 t7) ?_;refine AnsH.use (uZ C zF (ho.mono (Sub.bump H1 _)) zO) ?_;rintro v2 H4 ⟨h4,hk4⟩;obtain ⟨k4,_,_⟩:=zT H zK hk4;have e:val out=x / 2^k:=by
   have h1:Y=x / B^n:=by rw [<- hY,<- hl0,mF,bH]
   have h2:x / B^n=x / B^q:=by
    by_cases hqn:q<=(ag x).length
    ·rw [show n=q from by rw [<- hn,Wi hqn]]
    ·have h3:=ip x;have hlq:(ag x).length<=q:=W0 (Nat.lt_of_not_le hqn);rw [show n=(ag x).length from by rw [<- hn,YN hlq],W6 h3];exact (W6 (Vq h3 (Vx zU hlq))).symm
   have h3:k=64*q+r:=zO;rw [hval,h1,h2,We];congr 1;rw [h3,VZ,Ym]
  rw [eA hlim',e] at h4;refine zW hl1 ?_;exact ⟨v2,rfl,h4,zK⟩
end
def Ky {X w y:Nat}:X*B+y=X / w*B*w+(X % w*B+y):=by
 have h:=Wj X w
 generalize X / w=q at *
 generalize X % w=r at *
 subst h
 grind
section
variable {tab:Nat->Option aA} {H:Heap} {s:AV}
def td (C:Code tab) (hw:Wf H) {sa:AV} (ha:One sa) :
  Ans tab (.fn cJ [sa]) H fun v H'=>v=.fn (.func bc) [] [.ptr H.next 0]/\H'.get H.next=some (.cells [sa] aI true)/\H.next+1<=H'.next/\Kp H H':=by
 refine cR C.q176 zU fun T hl g0=>?_;refine zW (aD hl g0) ?_;exact ⟨zO,zK⟩
def EK (C:Code tab) {H0:Heap} {lb ba:Nat} {a:List Nat} {sa:AV} (J:Nat->Heap->Prop) (hla:a.length<4611686018427387904)
  (hk:Kp H0 H) (h0:J 0 H) (hup:∀ k H m,J k H->J k (H.up m)) (hA:∀ k H,J k H->H.get ba=some (.cells [sa] aI true)/\Lb H sa a)
  (hr:∀ i k H,i+k+1=a.length->Kp H0 H->J k H->Ans tab (.round lb [.int .i64 (i:Int),.int .u64 (a.getD i 0:Nat)]) H fun v H'=>v=.bool true/\Kp H0 H'/\J (k+1) H') :
  Ans tab (.ent bc [.loopv lb,.ptr ba 0]) H fun _ H'=>Kp H0 H'/\J a.length H':=by
 refine SI C.q180 zU fun T hl g0 g1=>?_;obtain ⟨q1,q2⟩:=hA _ _ h0;have hwr:IntKind.i64.wrap ((a.length:Int)-1)=(a.length:Int)-1:=by rw [wrap_i64] <;> omega
 refine zW (dL hl g0 g1 q1 q2.lenV hwr) ?_;refine cm H0 [3] (fun m vs H'=>∃ k,k<=a.length/\m=a.length-k/\vs=[.int .i64 ((a.length:Int)-1-(k:Int))]/\J k H') a.length (by simp only [U4]; exact hl) rfl zK ⟨0,Vj _,rfl,by exact zV (bA hl g0 g1 @OU @Int.sub_zero),hup _ _ _ h0⟩ ?_;rintro m T1 H1 hl1 hs1 hk1 ⟨k,hka,rfl,hv,hJ⟩;simp only [Ve,Vk,Vg,and_true] at hv;have w1:=hk1.wf;have le_hk1:=hk1.le;obtain ⟨q1,q2⟩:=hA _ _ hJ;by_cases hkl:k=a.length
 ·have hneg:¬ (0:Int)<=(a.length:Int)-1-(k:Int):=zO;subst hkl;refine zW (aE hl1 hv hneg) ?_;exact ⟨zK,hup _ _ _ hJ⟩
 ·obtain ⟨i,hi⟩:∃ i,i+k+1=a.length:=⟨a.length-k-1,zO⟩
  have hz:(a.length:Int)-1-(k:Int)=(i:Int):=zO;rw [hz] at hv;have hpos:(0:Int)<=(i:Int):=zO;have t0:ad T1 0=.loopv lb:=(hs1.at_ 0 zU).trans (zV (aD hl g0));have t1:ad T1 1=.ptr ba 0:=(hs1.at_ 1 zU).trans (zV (aQ hl g0 g1 g1));have x1:=SlV.idx1 q2 .i64 i zO;have d1:=fp q2 (i:=i) zO;have hround:∀ m,Ans tab (.round lb [.int .i64 (i:Int),.int .u64 (a.getD i 0:Nat)]) (H1.up m) fun v H'=>v=.bool true/\Kp H0 H'/\J (k+1) H':=fun m=>hr i k _ hi (hk1.up m) (hup _ _ _ hJ);have hwi:IntKind.i64.wrap ((i:Int)-1)=(a.length:Int)-1-((k+1:Nat):Int):=by rw [wrap_i64] <;> omega
  refine zW (iy hl1 hv hpos t0 t1 q1 x1 d1) ?_;refine AnsH.eq (hround _) fun H2 ⟨k2,j2⟩=>?_;refine zW (aE hl1 hv hwi) ?_;exact ⟨zK,a.length-(k+1),zO,k+1,zO,rfl,rfl,hup _ _ _ j2⟩
def Gf (C:Code tab) (hw:Wf H) {a b:AV} {x y:Nat} (ha:bJ H a x) (hb:bJ H b y) (hx:Sm x) (hy:Sm y) (h0:0<y) :
  Ans tab (.fn oj [a,b]) H fun v H'=>v=.int .i64 0/\Kp H H':=by
 refine bB C.q167 zU fun T hl g0 g1=>?_;refine zW (aE hl g0 g1) ?_;refine AnsH.eq (gM C zF (ha.mono (Sub.bump H _)) hx) fun H2 hk2=>?_;obtain ⟨k2,_,w2⟩:=zT H zK hk2;refine zW (aE hl g0 g1) ?_;refine AnsH.eq (gM C zF (hb.mono k2.sub) hy) fun H3 hk3=>?_;obtain ⟨k3,_,w3⟩:=zT H zK hk3;have hlen:=bI y;have hne:¬ ((ag y).length:Int)=0:=zO;refine zW (bA hl g0 g1 hb.lenV hne) ?_;exact zK
set_option maxHeartbeats 1000000 in
def OJ (C:Code tab) (hw:Wf H) {a:AV} {x w:Nat} (ha:bJ H a x) (hx:Sm x) (h0:0<w) (hwB:w<18446744073709551616) :
  Ans tab (.fn uo [a,.int .u64 (w:Int)]) H fun v H'=>∃ q,v=.tup [q,.int .u64 ((x % w:Nat):Int),.int .i64 0]/\bJ H' q (x / w)/\Kp H H':=by
 refine bB C.q168 zU fun T hl g0 g1=>?_;have hwne:¬ (w:Int)=0:=zO;unfold Sm at hx;obtain ⟨N,hN⟩:∃ N,(ag x).length=N:=⟨_,rfl⟩
 have hmk:∀ H' id,Jy H' id ae 1 8 [.int .u64 0] (.int .i64 (N:Int)) (.int .i64 (N:Int))=some (.own id 0 N N 1 true,H'.put id (.cells (aM (List.replicate N 0)) ae true)):=fun H' id =>
  (jc H' id ae 1 8 [.int .u64 0] .i64 .i64 N zO zO rfl).trans (by rw [mH])
 have hal:lenV a=some (.int .i64 (N:Int)):=by have:=ha.lenV; rwa [hN] at this
 refine zW (aE hl g0 g1) ?_;refine AnsH.eq (gM C zF (ha.mono (zG H)) hx) fun H2 hk2=>?_;obtain ⟨k2,_,w2⟩:=zT H zK hk2;have n2:=hk2.le;have p0:H2.get H.next=some (.cells [.int .u64 (w:Int)] ae true):=hk2.get (cH)
 have p1:H2.get (H.next+1)=some (.cells [.nilSl] aI true):=hk2.get (cH);have p2:H2.get (H.next+2)=some (.cells [.int .u64 0] ae true):=hk2.get (cH);have l0:=k2.wf _ _ p0;have l1:=k2.wf _ _ p1;have l2:=k2.wf _ _ p2;refine zW (jW hl g0 g1 p0 p1 p2 hwne hal hmk) ?_;refine AnsH.use (td C zF ha.one) ?_;rintro v H3 ⟨rfl,b1,hn3,hk3⟩;simp only [next_put,cT] at b1 hn3 ⊢;obtain ⟨k3,_,w3⟩:=zT H zK hk3;have q0:H3.get H.next=some (.cells [.int .u64 (w:Int)] ae true):=hk3.get (zV p0)
 have q1:H3.get (H.next+1)=some (.cells [.own (H2.next+5) 0 N N 1 true] aI true):=hk3.get (cH);have q2:H3.get (H.next+2)=some (.cells [.int .u64 0] ae true):=hk3.get (zV p2);have qb:H3.get (H2.next+5)=some (.cells (aM (List.replicate N 0)) ae true):=hk3.get (cH);have hz0:∀ j,(List.replicate N 0).getD j 0=0:=fun j=>by simp [U5,V9]; split <;> rfl
 have hxN:x / B^N=0:=W6 (by rw [<- hN]; exact ip x);refine zW (aE hl g0 g1) ?_;refine pw (fi:=bc) (args:=[.loopv H3.next,.ptr (H2.next+9) 0]) (by refine zW (aE hl g0 g1) ?_; rfl) ?_
 generalize he:Ent.loop _ _ _ _ _ _=e0
 have k4:Kp H ((H3.up 1).put H3.next e0):=zK;have le_k4:=k4.le;refine (EK C (H0:=H) (a:=ag x) (sa:=a) (fun k H'=>H'.get H3.next=some e0/\H'.get H.next=some (.cells [.int .u64 (w:Int)] ae true)/\H'.get (H.next+1)=some (.cells [.own (H2.next+5) 0 N N 1 true] aI true) /\
   (∃ (out:List Nat) (r:Nat),H'.get (H2.next+5)=some (.cells (aM out) ae true)/\out.length=N/\Lim out/\H'.get (H.next+2)=some (.cells [.int .u64 (r:Int)] ae true)/\r=x / B^(N-k) % w/\val out=x / B^(N-k) / w*B^(N-k)/\∀ j,j<N-k->out.getD j 0=0) /\
   H'.get (H2.next+9)=some (.cells [a] aI true)/\Lb H' a (ag x)) zO k4
  ⟨by exact cH,by exact zV q0,by exact zV q1,⟨List.replicate N 0,0,by exact zV qb,by simp,Lim.replicate N,by refine zW q2 ?_; rfl,by rw [ZD,hxN,Nat.zero_mod],by rw [ZD,hxN,Nat.zero_div,Yw,fK],fun j _=>hz0 j⟩,by exact zV b1,ha.mono k4.sub⟩ (fun _ _ _ h=>h) (fun k H' h=>⟨h.2.2.2.2.1,h.2.2.2.2.2⟩) ?_).mono ?_
 ·rintro i k H1 hik hk1 ⟨j0,j1,j2,⟨out,r,j3,hlen,hlim,j4,hr,hval,hz⟩,j5,-⟩;rw [<- he] at j0;have lt0:=hk1.wf _ _ j0;have lt1:=hk1.wf _ _ j1;have lt2:=hk1.wf _ _ j2;have lt3:=hk1.wf _ _ j3;have lt4:=hk1.wf _ _ j4;have hrw:r<w:=by rw [hr]; exact V4 _ h0
  have hNk:N-k=i+1:=zO;have hNk1:N-(k+1)=i:=zO;have hiN:i<N:=zO;rw [hNk] at hr hval hz;obtain ⟨y,hy⟩:∃ y,(ag x).getD i 0=y:=⟨_,rfl⟩
  have hyB:y<18446744073709551616:=by rw [<- hy]; exact (bo x).at i
  rw [hy];have w1:=hk1.wf;have le_hk1:=hk1.le;have hyd:y=x / B^i % B:=by rw [<- hy,iM]
  refine qc j0 rfl ?_;refine zW (aQ hl g0 g1 j0) ?_
  generalize he2:Ent.loop _ _ _ _ LoopState.busy none=e2
  refine aF ?_;refine zD (iy hl g0 g1 j0 j1 j2 j3 j4) ?_;refine AnsH.use (BM C zF hrw hyB hwB) ?_;rintro v H4 ⟨rfl,hk4'⟩;have k5:Kp H H4:=Kp.trans zK hk4';have le_k5:=k5.le;have w4:=k5.wf;have r0:H4.get H3.next=some e2:=hk4'.get (cH)
  have r1:H4.get H.next=some (.cells [.int .u64 (w:Int)] ae true):=hk4'.get (zV j1)
  have r2:H4.get (H.next+1)=some (.cells [.own (H2.next+5) 0 N N 1 true] aI true):=hk4'.get (zV j2);have r3:H4.get (H2.next+5)=some (.cells (aM out) ae true):=hk4'.get (zV j3);have r4:H4.get (H.next+2)=some (.cells [.int .u64 (r:Int)] ae true):=hk4'.get (zV j4);have r5:H4.get (H2.next+9)=some (.cells [a] aI true):=hk4'.get (zV j5);have lu0:=k5.wf _ _ r0;have lu1:=k5.wf _ _ r1;have lu2:=k5.wf _ _ r2;have lu3:=k5.wf _ _ r3;have lu4:=k5.wf _ _ r4;refine zD (Kn hl g0 g1 j0 j1 j2 j3 j4 r0 r1 r2 r3 r4) ?_;rw [uQ];have hX:x / B^i=x / B^(i+1)*B+y:=by
   rw [hyd,VJ,<- We,Vt];exact (Wj _ _).symm
  have hX2:x / B^i=x / B^(i+1) / w*B*w+(r*B+y):=by
   rw [hX,hr]; exact Ky
  have hq':(r*B+y) / w<B:=by
   apply (Vz h0).2
   have:(r+1)*B<=w*B:=Vl B hrw
   rw [Wh] at this;rw [Vt B]; unfold B at *; omega
  have hvs:=iQ (l:=out) (k:=i) (v:=(r*B+y) / w) zO;rw [hz i zO,XP,WL,hval] at hvs;have k6:Kp H (((H4.put (H2.next+5) (.cells (aM (out.set i ((r*B+y) / w))) ae true)).put (H.next+2) (.cells [.int .u64 (((r*B+y) % w:Nat):Int)] ae true)).put H3.next e0):=zK;have le_k6:=k6.le;refine zW (jW he2 he r0 r1 r2 r3 r4 r5 hNk1) ?_;refine ⟨zK,⟨_,_,rfl,by simp [hlen],ka hlim hq',rfl,?_,?_,fun j hj=>?_⟩,ha.mono (zG H)⟩
  ·rw [hX2,Nat.mul_add_mod_self_right]
  ·rw [hvs,hX2,XL (x / B^(i+1) / w*B*w),YL _ _ h0,VJ]
   grind
  ·rw [bk zO];exact hz j zO
 ·rintro _ H' ⟨hk',j0,j1,j2,⟨out,r,j3,hlen,hlim,j4,hr,hval,-⟩,-⟩;have hlt:=hk'.wf _ _ j0;have lt1:=hk'.wf _ _ j1;have lt2:=hk'.wf _ _ j2;have lt3:=hk'.wf _ _ j3;have lt4:=hk'.wf _ _ j4;have w5:=hk'.wf;have le_hk':=hk'.le;refine .inl ⟨j0,?_⟩;refine zW (aQ hl g0 g1 hN) ?_;rw [hN,Y3,Yb,ZS] at hr hval;rw [WE] at hval;refine aF ?_;refine zD (fy hl g0 g1 j1 j2 j3 j4) ?_;have n2':=k2.le;have b6:((H'.up 6).kill H3.next).get (H2.next+5)=some (.cells (aM out) ae true):=by exact zV j3
  have w6:Wf (H'.up 6):=w5.bump 6;have k6:Kp H (H'.up 6):=hk'.up 6;have le_k6:=k6.le;refine AnsH.eq (pV C zF (rw':=true) hlen b6 zO) fun H5 hk5=>?_;obtain ⟨k5,_,w5⟩:=zT H zK hk5;have r1:H5.get (H.next+1)=some (.cells [.own (H2.next+5) 0 N N 1 true] aI true):=hk5.get (zV j2);have r2:H5.get (H.next+2)=some (.cells [.int .u64 (r:Int)] ae true):=hk5.get (zV j4);have r3:H5.get (H2.next+5)=some (.cells (aM out) ae true):=hk5.get b6;have lu1:=k5.wf _ _ r1;have lu2:=k5.wf _ _ r2;obtain ⟨E,hE⟩:=sf out;rw [eA hlim,hval] at hE ⊢;refine zD (jW hl g0 g1 j1 j2 j3 j4 r1 r2) ?_;rw [hr];refine ⟨_,rfl,DV (E:=E) (rw':=true) ?_,zK⟩;rw [<- hE];exact zV r3
end
def Cj {tab:Nat->Option aA} {rd:Bool} {a rest:ACode} {l:Nat} {T:Tm} {H:Heap} {Q:Ex->Tm->Heap->Prop} (h:WC tab rd a T H (Nz Q)):WC tab rd (.scopeL a l rest) T H Q:=by
 obtain ⟨x,T',H',⟨N,g⟩,hq⟩:=dW a T H _ h.run;refine ⟨show ∃ x T' H',Pi tab rd (.scopeL a l rest) T H x T' H'/\Q x T' H' from ⟨x,T',H',⟨N,fun m n hm hn=>?_⟩,?_⟩⟩
 ·simp only [aK,g m n hm hn];cases x <;> first | rfl | exact hq.elim
 ·cases x <;> first | exact hq | exact hq.elim
def oE:∀ {l:List Nat} (_:Lim l) (j:Nat),l.getD j 0=val l / B^j % B
 | [],_,j=>by simp [val]
 | a :: t,h,0=>by
  have:=h.head
  simp only [XF,val,Yb,ZS,XI];exact (VV this).symm
 | a :: t,h,j+1=>by
  have ih:=oE h.tail j;have ha:=h.head;rw [WI,ih];simp only [val];rw [VJ,Vt (B^j),<- We,ZT _ _ zU,W6 ha,VQ]
structure Dv (H:Heap) (d rb bb M n:Nat) (x1:Bool) (R L:List Nat):Prop where
 hd:H.get d=some (.cells [.own rb 0 M M 1 x1,.own bb 0 n n 1 true] fL true)
 hr:H.get rb=some (.cells (aM R) ae true)
 hb:H.get bb=some (.cells (aM L) ae true)
 lr:R.length=M
 ll:n<=L.length
 ne:rb≠bb
 limR:Lim R
 limL:Lim L
def FrX (b:Nat) (H H':Heap):Prop:=∀ c e,c≠b->H.get c=some e->H'.get c=some e
def FrX.trans {b:Nat} {H H' H'':Heap} (h:FrX b H H') (h':FrX b H' H''):FrX b H H'':=fun c e hc he=>h' c e hc (h c e hc he)
def Dv.up {H:Heap} {d rb bb M n:Nat} {x1:Bool} {R L:List Nat} (h:Dv H d rb bb M n x1 R L) (k:Nat):Dv (H.up k) d rb bb M n x1 R L:=⟨h.hd,h.hr,h.hb,h.lr,h.ll,h.ne,h.limR,h.limL⟩
def Dv.kp {H H':Heap} {d rb bb M n:Nat} {x1:Bool} {R L:List Nat} (h:Dv H d rb bb M n x1 R L) (hk:Kp H H'):Dv H' d rb bb M n x1 R L:=⟨hk.get h.hd,hk.get h.hr,hk.get h.hb,h.lr,h.ll,h.ne,h.limR,h.limL⟩
def Dv.put {H:Heap} {d rb bb M n b:Nat} {x1:Bool} {R L:List Nat} {e:Ent} (h:Dv H d rb bb M n x1 R L) (h1:d≠b) (h2:rb≠b) (h3:bb≠b):Dv (H.put b e) d rb bb M n x1 R L:=⟨by rw [az h1]; exact h.hd,by rw [az h2]; exact h.hr,by rw [az h3]; exact h.hb,h.lr,h.ll,h.ne,h.limR,h.limL⟩
def Dv.ndr {H:Heap} {d rb bb M n:Nat} {x1:Bool} {R L:List Nat} (h:Dv H d rb bb M n x1 R L):d≠rb:=fun e=>by
 have h1:=h.hd;rw [e,h.hr] at h1
 injection h1 with h1; injection h1 with _ h2; exact absurd h2 zU
section
variable {b V W P f sec th hi un q r N:Nat}
def It (hV:(hi*b+un)*P<=V) (hW:W<(N*b+th+1)*P) (e:q*hi+r=N) (h:r*b+th<q*un) (hV0:0<V):0<q/\W / V<=q-1:=by
 have h1:W<q*V:=by
  refine Vq hW ?_;refine Vn (Vl P ?_) (Vn (XK (VU q (hi*b+un) P)) (Xo q hV));rw [<- e,Wa,Wh,<- VU];omega
 have h2:W / V<q:=(Vz hV0).2 h1;exact ⟨Wd (Vj _) h2,Yn h2⟩
def Iu (hV:(hi*b+un)*P<=V) (hW:W<(N*b+th+1)*P) (ht:th<b) (hf:0<hi) (hV0:0<V):W / V<=N / hi:=by
 apply XO
 apply (Vz hV0).2
 have h0:=Wj N hi;have h1:=V4 N hf;have h2:N+1<=(N / hi+1)*hi:=by
  rw [Wh,X7,Vt (N / hi)]
  generalize hi*(N / hi)=t at *
  omega
 refine Vq hW ?_;refine Vn (Vl P ?_) (Vn (XK (VU (N / hi+1) (hi*b+un) P)) (Xo _ hV));have h3:=Vl b h2;rw [Wa,<- VU];have h4:(N+1)*b=N*b+b:=by rw [Wh,X7]
 refine Vn ?_ (Vn h3 (VH _ _));rw [h4];exact ZY ht _
def R5 (hs:sec<b) (hf:f<hi) (h0:0<b):(f*b+sec) / hi<b:=by
 apply (Vz zO).2
 have h1:(f+1)*b<=hi*b:=Vl b hf;rw [Wh,X7] at h1;rw [Vt b]; omega
end
structure GuessH (V W P f sec th hi un:Nat):Prop where
 hV:(hi*B+un)*P<=V
 hW:W<((f*B+sec)*B+th+1)*P
 hWV:W<V*B
 hV0:0<V
structure GuessI (V W f sec hi q r:Nat):Prop where
 e:q*hi+r=f*B+sec
 ge:W / V<=q
section
variable {V W P f sec th hi un q r ov lw:Nat}
def GuessI.step (G:GuessH V W P f sec th hi un) (I:GuessI V W f sec hi q r) (h:r*B+th<q*un):0<q/\GuessI V W f sec hi (q-1) (r+hi):=by
 obtain ⟨h1,h2⟩:=It G.hV G.hW I.e h G.hV0;refine ⟨h1,?_,h2⟩;have h3:q*hi=(q-1)*hi+hi:=by
  obtain ⟨t,rfl⟩:∃ t,q=t+1:=⟨q-1,zO⟩
  rw [WP,Xe]
 have:=I.e
 rw [h3] at this;rw [<- this,Wb,XL hi]
def GuessI.init (G:GuessH V W P f sec th hi un) (ht:th<B) (hs:sec<B) (hf:f<hi):GuessI V W f sec hi ((f*B+sec) / hi) ((f*B+sec) % hi)/\(f*B+sec) / hi<B:=by
 refine ⟨⟨?_,Iu G.hV G.hW ht (Wd (Vj _) hf) G.hV0⟩,R5 hs hf zU⟩;rw [Vt]; exact Wj _ _
def GuessH.max (G:GuessH V W P f sec th hi un):W / V<=18446744073709551615:=by
 have h:=G.hWV;rw [Vt] at h;exact XO ((Vz G.hV0).2 h)
def Qh (e1:q*un / B=ov) (ht:th<B) (c:r<ov):r*B+th<q*un:=by
 have h:=Wj (q*un) B;rw [e1] at h;rw [<- h];have h2:(r+1)*B<=ov*B:=Vl B c;rw [Wh,X7,Vt ov] at h2;refine Vq (Y1 ht _) (Vn h2 (VH _ _))
def Qi (e1:q*un / B=ov) (e2:q*un % B=lw) (c:th<lw):ov*B+th<q*un:=by
 have h:=Wj (q*un) B;rw [e1,e2] at h;rw [<- h,Vt];exact Y1 c _
end
section
variable {tab:Nat->Option aA} {H:Heap}
set_option maxHeartbeats 1000000 in
def LY (C:Code tab) (hw:Wf H) {d rb bb M m at':Nat} {x1:Bool} {R L:List Nat} (D:Dv H d rb bb M (m+2) x1 R L) (hat:at'+(m+2)<M) (hM:M<2199023255552)
  {V W P:Nat} (G:GuessH V W P (R.getD (at'+(m+2)) 0) (R.getD (at'+(m+1)) 0) (R.getD (at'+m) 0) (L.getD (m+1) 0) (L.getD m 0)) :
  Ans tab (.fn fU [.ptr d 0,.int .i64 (at':Int)]) H fun v H'=>∃ q:Nat,v=.int .u64 (q:Int)/\q<B/\W / V<=q/\Kp H H':=by
 obtain ⟨hd,hr,hb,lr,ll,ne,limR,limL⟩:=D;refine bB C.q171 zU fun T hl g0 g1=>?_;obtain ⟨hi,ehi⟩:∃ hi,L.getD (m+1) 0=hi:=⟨_,rfl⟩
 obtain ⟨un,eun⟩:∃ un,L.getD m 0=un:=⟨_,rfl⟩
 obtain ⟨f,ef⟩:∃ f,R.getD (at'+(m+2)) 0=f:=⟨_,rfl⟩
 obtain ⟨sec,es⟩:∃ sec,R.getD (at'+(m+1)) 0=sec:=⟨_,rfl⟩
 obtain ⟨th,et⟩:∃ th,R.getD (at'+m) 0=th:=⟨_,rfl⟩
 have hiB:hi<B:=ehi ▸ limL.at _;have unB:un<B:=eun ▸ limL.at _;have fB:f<B:=ef ▸ limR.at _;have seB:sec<B:=es ▸ limR.at _;have thB:th<B:=et ▸ limR.at _;rw [ehi,eun,ef,es,et] at G;have hw1:IntKind.i64.wrap ((at':Int)+((m+2:Nat):Int))=((at'+(m+2):Nat):Int):=by rw [wrap_i64] <;> omega
 have hw2:IntKind.i64.wrap (((at'+(m+2):Nat):Int)-1)=((at'+(m+1):Nat):Int):=by rw [wrap_i64] <;> omega
 have hw3:IntKind.i64.wrap (((at'+(m+2):Nat):Int)-2)=((at'+m:Nat):Int):=by rw [wrap_i64] <;> omega
 have hw4:IntKind.i64.wrap (((m+2:Nat):Int)-1)=((m+1:Nat):Int):=by rw [wrap_i64] <;> omega
 have hw5:IntKind.i64.wrap (((m+2:Nat):Int)-2)=(m:Int):=by rw [wrap_i64] <;> omega
 refine zW (aE hl g0 g1) ?_;refine Cj ?_;refine zW (aQ hl g0 g1 hd) ?_;refine aF ?_;refine zD (zq hl g0 g1 hd hr hb hw1 hw2 hw4 ef es ehi) ?_;refine iteH.split (fun h1=>?_) fun h1=>?_
 ·simp only [iJ,jN,iI,lS,Xr,Xf];refine zW (aE hl g0 g1) ?_;exact ⟨18446744073709551615,by simp,by decide,G.max,zK⟩
 ·simp only [iJ,jN,iI,lS,Xr,Xf];refine zW (aE hl g0 g1) ?_;refine AnsH.use (BM C zF zO seB hiB) ?_;rintro v H2 ⟨rfl,hk2⟩;obtain ⟨k2,_,w2⟩:=zT H zK hk2;have d2:=k2.get hd;have r2:=k2.get hr;have b2:=k2.get hb;refine zW (aE hl g0 g1) ?_;refine aF ?_;refine zD (iO hl g0 g1 d2 r2 b2 hw1 hw3 hw5 eun et) ?_;refine Cj ?_;refine zW (aE hl g0 g1) ?_;obtain ⟨I0,hq0⟩:=GuessI.init G thB seB zO;have hr0:(f*B+sec) % hi<B:=Y5 (V4 _ zO) hiB;obtain ⟨q0,eq0⟩:∃ q0,(f*B+sec) / hi=q0:=⟨_,rfl⟩
  obtain ⟨r0,er0⟩:∃ r0,(f*B+sec) % hi=r0:=⟨_,rfl⟩
  rw [eq0] at I0 hq0;rw [er0] at I0 hr0;simp only [eq0,er0];clear eq0 er0;refine cm H [9,10] (fun k vs H'=>∃ q r:Nat,vs=[.int .u64 (q:Int),.int .u64 (r:Int)]/\k=q/\GuessI V W f sec hi q r/\r<B/\q<B) q0 (by simp only [U4]; exact hl) rfl zK ⟨_,_,by exact zV (aE hl g0 g1),rfl,I0,hr0,hq0⟩ ?_;rintro k T1 H1 hl1 hs1 hk1 ⟨q,r,hv,hkq,I,hrB,hqB⟩;obtain rfl:=hkq.symm;simp only [Ve,Vk,Vg,and_true] at hv;obtain ⟨v9,v10⟩:=hv;have w1:=hk1.wf;have le_hk1:=hk1.le;have u8:ad T1 8=.int .u64 (hi:Int):=(hs1.at_ 8 zU).trans (zV (aE hl g0 g1));have u11:ad T1 11=.int .u64 (un:Int):=(hs1.at_ 11 zU).trans (zV (aE hl g0 g1));have u12:ad T1 12=.int .u64 (th:Int):=(hs1.at_ 12 zU).trans (zV (aE hl g0 g1));refine zW (dL hl1 v9 v10 u8 u11 u12) ?_;refine AnsH.use (pZ C zF hqB unB) ?_;rintro v H3 ⟨rfl,hk3⟩;obtain ⟨k3,_,w3⟩:=zT H zK hk3;obtain ⟨ov,eov⟩:∃ ov,q*un / B=ov:=⟨_,rfl⟩
  obtain ⟨lw,elw⟩:∃ lw,q*un % B=lw:=⟨_,rfl⟩
  rw [eov,elw];have s1:r<ov->0<q/\GuessI V W f sec hi (q-1) (r+hi):=fun c=>I.step G (Qh eov thB c);have s2:ov=r->th<lw->0<q/\GuessI V W f sec hi (q-1) (r+hi):=fun c c'=>I.step G (by rw [<- c]; exact Qi eov elw c');clear eov elw;by_cases c1:ov<r
  ·refine zW (fy hl1 v9 v10 u8 u11 u12 @c1) ?_;exact ⟨q,rfl,hqB,I.ge,zK⟩
  ·by_cases c2:ov=r
   ·by_cases c3:lw<=th
    ·subst c2;refine zW (iy hl1 v9 v10 u8 u11 u12 @c1 c3) ?_;exact ⟨q,rfl,hqB,I.ge,zK⟩
    ·obtain ⟨p1,I2⟩:=s2 c2 zO;clear s1 s2;subst c2;have z1:=tU (a:=q) p1 hqB;refine zW (jW hl1 v9 v10 u8 u11 u12 @c1 c3 z1) ?_;refine AnsH.eq (iN C _ ov hi 0 hrB hiB zO) fun H4 e4=>?_;subst e4;have ef1:(eQ ov hi 0).1=(ov+hi) % B:=by simp [eQ]
     have ef2:(eQ ov hi 0).2=(ov+hi) / B:=by simp [eQ]
     refine zW (jW hl1 v9 v10 u8 u11 u12 z1 ef1 ef2) ?_;refine iteH.split (fun h=>?_) fun h=>?_
     ·have hlt':ov+hi<B:=by unfold B at *; omega
      refine zW (jW hl1 v9 v10 u8 u11 u12 z1 ef1 ef2) ?_;exact ⟨zK,q-1,zO,q-1,ov+hi,by rw [VV hlt'],rfl,I2,hlt',zO⟩
     ·refine zW (jW hl1 v9 v10 u8 u11 u12 z1 ef1 ef2) ?_;exact ⟨q-1,rfl,zO,I2.ge,zK⟩
   ·obtain ⟨p1,I2⟩:=s1 zO;have z1:=tU (a:=q) p1 hqB;refine zW (jW hl1 v9 v10 u8 u11 u12 @c1 @c2 z1) ?_;refine AnsH.eq (iN C _ r hi 0 hrB hiB zO) fun H4 e4=>?_;subst e4;have ef1:(eQ r hi 0).1=(r+hi) % B:=by simp [eQ]
    have ef2:(eQ r hi 0).2=(r+hi) / B:=by simp [eQ]
    refine zW (jW hl1 v9 v10 u8 u11 u12 z1 ef1 ef2) ?_;refine iteH.split (fun h=>?_) fun h=>?_
    ·have hlt':r+hi<B:=by unfold B at *; omega
     refine zW (jW hl1 v9 v10 u8 u11 u12 z1 ef1 ef2) ?_;exact ⟨zK,q-1,zO,q-1,r+hi,by rw [VV hlt'],rfl,I2,hlt',zO⟩
    ·refine zW (jW hl1 v9 v10 u8 u11 u12 z1 ef1 ef2) ?_;exact ⟨q-1,rfl,zO,I2.ge,zK⟩
end
def FrX.kp {b k:Nat} {H H1 H2:Heap} (h:FrX b H H1) (hk:Kp (H1.up k) H2):FrX b H H2:=fun c e hc he=>hk.get (h c e hc he)
def FrX.put {b:Nat} {e':Ent} {H H1:Heap} (h:FrX b H H1):FrX b H (H1.put b e'):=fun c e hc he=>by rw [az hc]; exact h c e hc he
def FrX.up {b:Nat} {H H1:Heap} (h:FrX b H H1) (k:Nat):FrX b H (H1.up k):=h
def FrX.up0 (b k:Nat) (H:Heap):FrX b H (H.up k):=fun _ _ _ h=>h
def OV {p c:Nat} (hp:p<=340282366920938463426481119284349108225) (hc:c<18446744073709551616) :
  (p / 18446744073709551616+(p % 18446744073709551616+c) / 18446744073709551616) % 18446744073709551616=(p+c) / 18446744073709551616/\(p % 18446744073709551616+c) % 18446744073709551616=(p+c) % 18446744073709551616/\(p+c) / 18446744073709551616<18446744073709551616:=zO
def Qg {x y:Nat} (hx:x<B) (hy:y<B):x*y<=340282366920938463426481119284349108225 :=
 Vn (Wq (XO hx) (XO hy)) zU
def JS {o w l:Nat} (ho:o<18446744073709551616) (hw:w<18446744073709551616) (hl:l<=1):o+(jg o w l).2*18446744073709551616=(jg o w l).1+w+l/\(jg o w l).1<18446744073709551616:=by
 unfold jg B;simp only;split <;> omega
def qE:∀ {l:List Nat} {m:Nat},Lim l->(∀ i,m<=i->l.getD i 0=0)->val l<B^m
 | [],m,_,_=>by simp only [val]; exact VK zU
 | a :: t,0,h,hz=>by
  have h0:=hz 0 (Vb _);simp only [XF] at h0
  have:=qE (l:=t) (m:=0) h.tail fun i _=>by have:=hz (i+1) (Vj _); rwa [WI] at this
  simp only [Yb] at this;have h1:val t=0:=Nat.lt_one_iff.1 this;simp only [val,h0,h1,Yb];decide
 | a :: t,m+1,h,hz=>by
  have ih:=qE (l:=t) (m:=m) h.tail fun i hi=>by have:=hz (i+1) zO; rwa [WI] at this
  have ha:=h.head;simp only [val,VJ];have h2:(val t+1)*B<=B^m*B:=Vl B ih;rw [Wh,X7,Vt] at h2;refine Vq ?_ h2;rw [XL];exact Y1 ha _
structure TakeI (a q X j:Nat) (L out:List Nat) (c l:Nat):Prop where
 e:val out+B^a*(q*val (L.take j))=X+B^(a+j)*(c+l)
def Nm {P A X vo vo' b c l c' l' o o' w qy:Nat} (e:vo+A=X+P*(c+l)) (hv:vo'+P*o=vo+P*o') (h1:qy+c=c'*b+w) (h2:o+l'*b=o'+w+l):vo'+(A+P*qy)=X+P*(c'*b+l'*b):=by
 have e4:=congrArg (P * ·) h1;have e5:=congrArg (P * ·) h2;simp only [Wa] at e e4 e5 ⊢
 generalize P*qy=x1 at *
 generalize P*(c'*b)=x2 at *
 generalize P*(l'*b)=x3 at *
 generalize P*o=x4 at *
 generalize P*o'=x5 at *
 generalize P*w=x6 at *
 generalize P*l=x7 at *
 generalize P*c=x8 at *
 omega
def No {P A X vo vo' b c l l' o o':Nat} (e:vo+A=X+P*(c+l)) (hv:vo'+P*o=vo+P*o') (h2:o+l'*b=o'+c+l):vo'+A=X+P*(l'*b):=by
 have e5:=congrArg (P * ·) h2;simp only [Wa] at e e5
 generalize P*(l'*b)=x3 at *
 generalize P*o=x4 at *
 generalize P*o'=x5 at *
 generalize P*l=x7 at *
 generalize P*c=x8 at *
 omega
def TakeI.step {a q X j c l c' l' o' w:Nat} {L out:List Nat} (I:TakeI a q X j L out c l) (hj:a+j<out.length) (h1:q*L.getD j 0+c=c'*B+w) (h2:out.getD (a+j) 0+l'*B=o'+w+l):TakeI a q X (j+1) L (out.set (a+j) o') c' l':=by
 refine ⟨?_⟩;have hv:=iQ (l:=out) (k:=a+j) (v:=o') hj
 have:=Nm I.e hv h1 h2
 rw [cS,Wa,Wa];have e2:B^a*(q*(B^j*L.getD j 0))=B^(a+j)*(q*L.getD j 0):=by rw [VZ,YB q,VU]
 have e3:B^(a+(j+1))*(c'+l')=B^(a+j)*(c'*B+l'*B):=by rw [<- Wb,VJ,VU,Vt B,Wh]
 rw [e2,e3];exact this
section
variable {tab:Nat->Option aA} {H:Heap}
set_option maxHeartbeats 1000000 in
def OH (C:Code tab) {H0:Heap} (hk:Kp H0 H) {d rb bb M n a q X:Nat} {x1:Bool} {R L:List Nat} (D:Dv H d rb bb M n x1 R L) (hrb:H0.next<=rb) (hat:a+n<M) (hM:M<2199023255552) (hq:q<18446744073709551616) (hX:val R=X) (hz:∀ i,a+n<i->R.getD i 0=0) :
  Ans tab (.fn gw [.ptr d 0,.int .u64 (q:Int),.int .i64 (a:Int)]) H fun v H'=>∃ (R':List Nat) (l:Nat),v=.bool (decide (0<l))/\l<=1/\Dv H' d rb bb M n x1 R' L/\val R'+B^a*(q*val (L.take n))=X+B^(a+n+1)*l/\(∀ i,a+n<i->R'.getD i 0=0)/\Kp H0 H'/\FrX rb H H':=by
 have ndr:=D.ndr;obtain ⟨hd,hr,hb,lr,ll,ne,limR,limL⟩:=D;have w0:=hk.wf;have le_hk:=hk.le;have hI0:TakeI a q X 0 L R 0 0:=⟨by simp [val,hX]⟩
 clear hX;refine kS C.q172 zU fun T hl g0 g1 g2=>?_;refine zW (bA hl g0 g1 g2 hd) ?_;refine aq H0 [7,8] (fun j vs H'=>∃ (out:List Nat) (c l:Nat),vs=[.int .u64 (c:Int),.int .u64 (l:Int)]/\H'.get rb=some (.cells (aM out) ae true)/\out.length=M/\Lim out/\c<18446744073709551616/\l<=1/\TakeI a q X j L out c l/\(∀ i,a+n<i->out.getD i 0=0)/\FrX rb H H') (a:=0) (N:=n) rfl (by refine zW (aQ hl g0 g1 g2) ?_; rfl) (zV (aQ hl g0 g1 g2)) (Vj _) zO (by simp only [U4,hl]; rfl) rfl (fun _ _ _ _ h=>h) zK
  ⟨R,0,0,by refine zW (aQ hl g0 g1 g2) ?_; rfl,by exact zV hr,lr,limR,by decide,Vj _,hI0,hz,FrX.up0 _ _ _⟩ ?_ ?_
 ·rintro j T1 H1 _ hj hl1 hi1 hs1 hk1 ⟨out,c,l,hv,b0,hlen,hlim,hc,hl',I,hz1,hfr⟩;simp only [U4,hl] at hl1;simp only [Ve,Vk,Vg,and_true] at hv;obtain ⟨v7,v8⟩:=hv;have w1:=hk1.wf;have le_hk1:=hk1.le;have d1:H1.get d=some (.cells [.own rb 0 M M 1 x1,.own bb 0 n n 1 true] fL true):=hfr _ _ ndr hd;have b1:H1.get bb=some (.cells (aM L) ae true):=hfr _ _ (Ne.symm ne) hb;have t0:ad T1 0=.ptr d 0:=(hs1.at_ 0 zU).trans (zV (aD hl g0));have t1:ad T1 1=.int .u64 (q:Int):=(hs1.at_ 1 zU).trans (zV (bA hl g0 g1 g2 g1));have t2:ad T1 2=.int .i64 (a:Int):=(hs1.at_ 2 zU).trans (zV (bA hl g0 g1 g2 g2));have t18:ad T1 18=.own bb 0 n n 1 true:=(hs1.at_ 18 zU).trans (zV (aQ hl g0 g1 g2));obtain ⟨y,hy⟩:∃ y,L.getD j 0=y:=⟨_,rfl⟩
  have hyB:y<18446744073709551616:=by rw [<- hy]; exact limL.at j
  obtain ⟨o,ho⟩:∃ o,out.getD (a+j) 0=o:=⟨_,rfl⟩
  have hoB:o<18446744073709551616:=by rw [<- ho]; exact hlim.at _
  refine zW (qz hl1 v7 v8 t0 t1 t2 t18 hi1 b1 hy) ?_;refine AnsH.use (pZ C zF hq hyB) ?_;rintro v H2 ⟨rfl,hk2⟩;obtain ⟨k2,_,w2⟩:=zT H0 zK hk2;have hfr2:FrX rb H H2:=hfr.kp hk2;have d2:=hfr2 _ _ ndr hd;have r2:H2.get rb=some (.cells (aM out) ae true):=hk2.get b0;have lt2:=k2.wf _ _ r2;obtain ⟨q1,q2,q3⟩:=OV (Qg hq hyB) hc;have hlw:(q*y+c) % 18446744073709551616<18446744073709551616:=V4 _ zU;have hdm:=Wj (q*y+c) 18446744073709551616;obtain ⟨c',ec⟩:∃ c',(q*y+c) / 18446744073709551616=c':=⟨_,rfl⟩
  obtain ⟨lw,ew⟩:∃ lw,(q*y+c) % 18446744073709551616=lw:=⟨_,rfl⟩
  rw [ec] at q1 q3 hdm;rw [ew] at q2 hlw hdm;obtain ⟨f1,f2⟩:=JS (o:=o) (w:=lw) (l:=l) hoB hlw hl';have hl2:=vJ o lw l;obtain ⟨o',eo'⟩:∃ o',(jg o lw l).1=o':=⟨_,rfl⟩
  obtain ⟨l2,el2⟩:∃ l2,(jg o lw l).2=l2:=⟨_,rfl⟩
  rw [eo',el2] at f1;rw [eo'] at f2;rw [el2] at hl2;have I2:TakeI a q X (j+1) L (out.set (a+j) o') c' l2:=I.step zO (w:=lw) (by rw [hy,<- hdm,Vt]) (by rw [ho]; exact f1);clear hdm f1;have hwj:IntKind.i64.wrap ((a:Int)+(j:Int))=((a+j:Nat):Int):=by rw [wrap_i64] <;> omega
  refine zW (iy hl1 v7 v8 t0 t1 t2 t18 hi1) ?_;refine AnsH.eq (iN C _ (q*y % B) c 0 (V4 _ zU) hc zO) fun H3 e3=>?_;subst e3;have ef1:(eQ (q*y % B) c 0).1=lw:=by simp only [eQ,WL]; exact q2
  have ef2:(eQ (q*y % B) c 0).2=(q*y % 18446744073709551616+c) / 18446744073709551616:=by simp only [eQ,WL]
  refine zW (iO hl1 v7 v8 t0 t1 t2 t18 hi1 ef1 ef2 q1) ?_;clear ef1 ef2 q1 q2;refine aF ?_;refine zD (zq hl1 v7 v8 t0 t1 t2 t18 hi1 d2 r2 hwj ho) ?_;refine AnsH.eq (xQ C _ o lw l hoB hlw hl') fun H4 e4=>?_;subst e4;rw [eo',el2];refine zD (zq hl1 v7 v8 t0 t1 t2 t18 hi1 d2 r2 hwj ho) ?_;refine ⟨zK,_,_,_,rfl,rfl,by simp [hlen],ka hlim f2,q3,hl2,I2,fun i hi=>?_,(hfr2.up _).put⟩;rw [bk zO];exact hz1 i hi
 ·rintro T1 H1 hl1 hs1 hk1 ⟨out,c,l,hv,b0,hlen,hlim,hc,hl',I,hz1,hfr⟩;simp only [U4,hl] at hl1;simp only [Ve,Vk,Vg,and_true] at hv;obtain ⟨v7,v8⟩:=hv;have w1:=hk1.wf;have le_hk1:=hk1.le;have lt1:=hk1.wf _ _ b0;have d1:H1.get d=some (.cells [.own rb 0 M M 1 x1,.own bb 0 n n 1 true] fL true):=hfr _ _ ndr hd;have t0:ad T1 0=.ptr d 0:=(hs1.at_ 0 zU).trans (zV (aD hl g0));have t2:ad T1 2=.int .i64 (a:Int):=(hs1.at_ 2 zU).trans (zV (bA hl g0 g1 g2 g2));have hwn:IntKind.i64.wrap ((a:Int)+(n:Int))=((a+n:Nat):Int):=by rw [wrap_i64] <;> omega
  obtain ⟨o,ho⟩:∃ o,out.getD (a+n) 0=o:=⟨_,rfl⟩
  have hoB:o<18446744073709551616:=by rw [<- ho]; exact hlim.at _
  obtain ⟨f1,f2⟩:=JS (o:=o) (w:=c) (l:=l) hoB hc hl';have hl2:=vJ o c l;obtain ⟨o',eo'⟩:∃ o',(jg o c l).1=o':=⟨_,rfl⟩
  obtain ⟨l2,el2⟩:∃ l2,(jg o c l).2=l2:=⟨_,rfl⟩
  rw [eo',el2] at f1;rw [eo'] at f2;rw [el2] at hl2;have hval:val (out.set (a+n) o')+B^a*(q*val (L.take n))=X+B^(a+n+1)*l2:=by
   have hv:=iQ (l:=out) (k:=a+n) (v:=o') zO;rw [ho] at hv
   have:=No I.e hv f1
   rw [this,VJ,VU,Vt l2]
  clear f1 I;refine zW (fy hl1 t0 t2 v7 v8 d1 hwn) ?_;refine aF ?_;refine zD (jW hl1 t0 t2 v7 v8 d1 @b0 hwn ho) ?_;refine AnsH.eq (xQ C _ o c l hoB hc hl') fun H4 e4=>?_;subst e4;rw [eo',el2];refine zD (jW hl1 t0 t2 v7 v8 d1 @b0 hwn ho) ?_;refine ⟨_,l2,rfl,hl2,⟨?_,ap _ _ _,?_,by simp [hlen],ll,ne,ka hlim f2,limL⟩,hval,fun i hi=>?_,zK,(hfr.up _).put⟩
  ·exact zV d1
  ·rw [az (Ne.symm ne)];exact hfr _ _ (Ne.symm ne) hb
  ·rw [bk zO];exact hz1 i hi
end
def JV {o y c:Nat} (ho:o<18446744073709551616) (hy:y<18446744073709551616) (hc:c<=1):o+y+c=(eQ o y c).1+(eQ o y c).2*18446744073709551616/\(eQ o y c).1<18446744073709551616:=by
 unfold eQ B;simp only;omega
def GL {P A X vo vo' b c c' o o' y:Nat} (e:vo+P*c=X+A) (hv:vo'+P*o=vo+P*o') (h:o+y+c=o'+c'*b):vo'+P*(c'*b)=X+(A+P*y):=by
 have e5:=congrArg (P * ·) h;simp only [Wa] at e e5 ⊢
 generalize P*(c'*b)=x3 at *
 generalize P*o=x4 at *
 generalize P*o'=x5 at *
 generalize P*y=x7 at *
 generalize P*c=x8 at *
 omega
structure BackI (a X j:Nat) (L out:List Nat) (c:Nat):Prop where
 e:val out+B^(a+j)*c=X+B^a*val (L.take j)
def BackI.step {a X j c c' o':Nat} {L out:List Nat} (I:BackI a X j L out c) (hj:a+j<out.length) (h:out.getD (a+j) 0+L.getD j 0+c=o'+c'*B):BackI a X (j+1) L (out.set (a+j) o') c':=by
 refine ⟨?_⟩;have hv:=iQ (l:=out) (k:=a+j) (v:=o') hj
 have:=GL I.e hv h
 rw [cS,Wa,<- VU (B^a),<- VZ];have e3:B^(a+(j+1))*c'=B^(a+j)*(c'*B):=by rw [<- Wb,VJ,VU,Vt B]
 rw [e3];exact this
section
variable {tab:Nat->Option aA} {H:Heap}
set_option maxHeartbeats 1000000 in
def OI (C:Code tab) {H0:Heap} (hk:Kp H0 H) {d rb bb M n a X:Nat} {x1:Bool} {R L:List Nat} (D:Dv H d rb bb M n x1 R L) (hrb:H0.next<=rb) (hat:a+n<M) (hM:M<2199023255552) (hX:val R=X) (hz:∀ i,a+n<i->R.getD i 0=0) :
  Ans tab (.fn gy [.ptr d 0,.int .i64 (a:Int)]) H fun v H'=>∃ (R':List Nat) (c:Nat),v=.bool (decide (0<c))/\c<=1/\Dv H' d rb bb M n x1 R' L/\val R'+B^(a+n+1)*c=X+B^a*val (L.take n)/\(∀ i,a+n<i->R'.getD i 0=0)/\Kp H0 H'/\FrX rb H H':=by
 have ndr:=D.ndr;obtain ⟨hd,hr,hb,lr,ll,ne,limR,limL⟩:=D;have w0:=hk.wf;have le_hk:=hk.le;have hI0:BackI a X 0 L R 0:=⟨by simp [val,hX]⟩
 clear hX;refine bB C.q173 zU fun T hl g0 g1=>?_;refine zW (aQ hl g0 g1 hd) ?_;refine aq H0 [5] (fun j vs H'=>∃ (out:List Nat) (c:Nat),vs=[.int .u64 (c:Int)]/\H'.get rb=some (.cells (aM out) ae true)/\out.length=M/\Lim out/\c<=1/\BackI a X j L out c/\(∀ i,a+n<i->out.getD i 0=0)/\FrX rb H H') (a:=0) (N:=n) rfl (by refine zW (aE hl g0 g1) ?_; rfl) (zV (aE hl g0 g1)) (Vj _) zO (by simp only [U4,hl]; rfl) rfl (fun _ _ _ _ h=>h) zK
  ⟨R,0,by refine zW (aE hl g0 g1) ?_; rfl,by exact zV hr,lr,limR,Vj _,hI0,hz,FrX.up0 _ _ _⟩ ?_ ?_
 ·rintro j T1 H1 _ hj hl1 hi1 hs1 hk1 ⟨out,c,hv,b0,hlen,hlim,hc,I,hz1,hfr⟩;simp only [U4,hl] at hl1;simp only [Ve,Vk,Vg,and_true] at hv;have w1:=hk1.wf;have le_hk1:=hk1.le;have lt1:=hk1.wf _ _ b0;have d1:H1.get d=some (.cells [.own rb 0 M M 1 x1,.own bb 0 n n 1 true] fL true):=hfr _ _ ndr hd;have b1:H1.get bb=some (.cells (aM L) ae true):=hfr _ _ (Ne.symm ne) hb;have t0:ad T1 0=.ptr d 0:=(hs1.at_ 0 zU).trans (zV (aD hl g0));have t1:ad T1 1=.int .i64 (a:Int):=(hs1.at_ 1 zU).trans (zV (aQ hl g0 g1 g1));have t12:ad T1 12=.own bb 0 n n 1 true:=(hs1.at_ 12 zU).trans (zV (aE hl g0 g1));obtain ⟨y,hy⟩:∃ y,L.getD j 0=y:=⟨_,rfl⟩
  have hyB:y<18446744073709551616:=by rw [<- hy]; exact limL.at j
  obtain ⟨o,ho⟩:∃ o,out.getD (a+j) 0=o:=⟨_,rfl⟩
  have hoB:o<18446744073709551616:=by rw [<- ho]; exact hlim.at _
  obtain ⟨f1,f2⟩:=JV hoB hyB hc;have hc2:=zl o y c hoB hyB hc;obtain ⟨o',eo'⟩:∃ o',(eQ o y c).1=o':=⟨_,rfl⟩
  obtain ⟨c2,ec2⟩:∃ c2,(eQ o y c).2=c2:=⟨_,rfl⟩
  rw [eo',ec2] at f1;rw [eo'] at f2;rw [ec2] at hc2;have I2:BackI a X (j+1) L (out.set (a+j) o') c2:=I.step zO (by rw [ho,hy]; exact f1);clear f1 I;have hwj:IntKind.i64.wrap ((a:Int)+(j:Int))=((a+j:Nat):Int):=by rw [wrap_i64] <;> omega
  refine zW (iy hl1 hv t0 t1 t12 hi1 b1 hy) ?_;refine aF ?_;refine zD (qz hl1 hv t0 t1 t12 hi1 d1 @b0 hwj ho) ?_;refine AnsH.eq (iN C _ o y c hoB hyB hc) fun H4 e4=>?_;subst e4;rw [eo',ec2];refine zD (qz hl1 hv t0 t1 t12 hi1 d1 @b0 hwj ho) ?_;refine ⟨zK,_,_,rfl,rfl,by simp [hlen],ka hlim f2,hc2,I2,fun i hi=>?_,(hfr.up _).put⟩;rw [bk zO];exact hz1 i hi
 ·rintro T1 H1 hl1 hs1 hk1 ⟨out,c,hv,b0,hlen,hlim,hc,I,hz1,hfr⟩;simp only [U4,hl] at hl1;simp only [Ve,Vk,Vg,and_true] at hv;have w1:=hk1.wf;have le_hk1:=hk1.le;have lt1:=hk1.wf _ _ b0;have d1:H1.get d=some (.cells [.own rb 0 M M 1 x1,.own bb 0 n n 1 true] fL true):=hfr _ _ ndr hd;have t0:ad T1 0=.ptr d 0:=(hs1.at_ 0 zU).trans (zV (aD hl g0));have t1:ad T1 1=.int .i64 (a:Int):=(hs1.at_ 1 zU).trans (zV (aQ hl g0 g1 g1));have hwn:IntKind.i64.wrap ((a:Int)+(n:Int))=((a+n:Nat):Int):=by rw [wrap_i64] <;> omega
  obtain ⟨o,ho⟩:∃ o,out.getD (a+n) 0=o:=⟨_,rfl⟩
  have hoB:o<18446744073709551616:=by rw [<- ho]; exact hlim.at _
  obtain ⟨f1,f2⟩:=JV (y:=0) hoB zU hc;have hc2:=zl o 0 c hoB zU hc;obtain ⟨o',eo'⟩:∃ o',(eQ o 0 c).1=o':=⟨_,rfl⟩
  obtain ⟨c2,ec2⟩:∃ c2,(eQ o 0 c).2=c2:=⟨_,rfl⟩
  rw [eo',ec2] at f1;rw [eo'] at f2;rw [ec2] at hc2;have hval:val (out.set (a+n) o')+B^(a+n+1)*c2=X+B^a*val (L.take n):=by
   have hv:=iQ (l:=out) (k:=a+n) (v:=o') zO;rw [ho] at hv
   have:=GL I.e hv f1
   rw [VJ,VU,Vt B];rw [XP,WL] at this;exact this
  clear f1 I;refine zW (dL hl1 t0 t1 hv d1 hwn) ?_;refine aF ?_;refine zD (iy hl1 t0 t1 hv d1 @b0 hwn ho) ?_;refine AnsH.eq (iN C _ o 0 c hoB zU hc) fun H4 e4=>?_;subst e4;rw [eo',ec2];refine zD (iy hl1 t0 t1 hv d1 @b0 hwn ho) ?_;refine ⟨_,c2,rfl,hc2,⟨?_,ap _ _ _,?_,by simp [hlen],ll,ne,ka hlim f2,limL⟩,hval,fun i hi=>?_,zK,(hfr.up _).put⟩
  ·exact zV d1
  ·rw [az (Ne.symm ne)];exact hfr _ _ (Ne.symm ne) hb
  ·rw [bk zO];exact hz1 i hi
end
def FN {y n:Nat} (h:(ag y).length=n+1):B^n<=y:=by
 have:=zh (dt y) (fun e=>by rw [e] at h; simp at h)
 rw [bH,h] at this;exact this
def Eh {x y:Nat} (h:(ag x).length<(ag y).length):x<y:=by
 obtain ⟨n,hn⟩:∃ n,(ag y).length=n+1:=⟨(ag y).length-1,zO⟩
 exact Vq (ip x) (Vn (Vx zU zO) (FN hn))
def Ei {y n:Nat} (h1:B^n<=y) (h2:y<B^(n+1)):(ag y).length=n+1:=by
 refine Xs (bi h2) ?_
 apply Xw
 intro h;have h3:y<B^n:=Vq (ip y) (Vx zU zO);exact absurd h1 (Nat.not_le_of_lt h3)
def Lv {y:Nat} (h:(ag y).length=1):y<B/\(ag y).getD 0 0=y:=by
 have h1:=ip y;rw [h,Nat.pow_one] at h1;refine ⟨h1,?_⟩;rw [iM,Yb,ZS,VV h1]
section
variable {b y m z top P:Nat}
def NX (h64:P=2^(64-z)*2^z) (h1:top*2^z<P) (hy1:top*b<=y) (hy2:y<(top+1)*b) {c:Nat} (h2:c<=top*2^z):y*2^z<P*b/\c*b<=y*2^z:=by
 have p2:0<2^z:=VK zU;have ht:top+1<=2^(64-z):=by
  rw [h64] at h1;exact Nat.lt_of_mul_lt_mul_right h1
 refine ⟨?_,?_⟩
 ·refine Vq (Xj hy2 p2) ?_;rw [Ya];refine Vl b ?_;rw [h64];exact Vl _ ht
 ·refine Vn (Vl b h2) ?_;rw [Ya];exact Vl _ hy1
end
def Ia {y m z top:Nat} (hl:(ag y).length=m+2) (ht:(ag y).getD (m+1) 0=top) (hz:z<64) (h1:top*2^z<18446744073709551616) (h2:9223372036854775808<=top*2^z) :
  y*2^z<B^(m+2)/\(ag (y*2^z)).length=m+2/\9223372036854775808*B^(m+1)<=y*2^z:=by
 have hy:=ip y;rw [hl] at hy;have e:y / B^(m+1)=top:=by
  rw [<- ht,iM,VV]
  apply (Vz (VK zU)).2
  rw [Vt,<- VJ]; exact hy
 have hp:0<B^(m+1):=VK zU;have hy1:top*B^(m+1)<=y:=by rw [<- e]; exact Z2 _ _
 have hy2:y<(top+1)*B^(m+1):=(Vz hp).1 (by rw [e]; exact Yo _);have h64:(18446744073709551616:Nat)=2^(64-z)*2^z:=by
  rw [<- VZ,show 64-z+z=64 by omega]
 obtain ⟨q1,q2⟩:=NX h64 h1 hy1 hy2 h2;have e2:18446744073709551616*B^(m+1)=B^(m+2):=by rw [VJ B (m+1),Vt]
 rw [e2] at q1;refine ⟨q1,Ei ?_ q1,q2⟩;exact Vn (Nat.le_mul_of_pos_left _ zU) q2
def Fc {x z V m k la:Nat} (hla:(ag x).length=la) (hz:z<64) (hV:9223372036854775808*B^(m+1)<=V) (hk:m+1+k=la):x*2^z<V*B^k:=by
 have hx:=ip x;rw [hla] at hx;have h1:2^z<=9223372036854775808:=Vn (Vx zU (show z<=63 by omega)) zU;have h2:x*2^z<B^la*9223372036854775808:=by
  refine Vq (Xj hx (VK zU)) (Xo _ h1)
 refine Vq h2 ?_;refine Vn (XK ?_) (Vl _ hV);rw [VU,<- VZ,hk,Vt]
structure DivI (X V k:Nat) (Q R:List Nat):Prop where
 eq:X=V*val Q+val R
 lt:val R<V*B^k
 zero:∀ i,i<k->Q.getD i 0=0
def DivI.zeros {X V k m:Nat} {Q R:List Nat} (I:DivI X V k Q R) (hV:V<B^m) (hR:Lim R):∀ i,k+m<=i->R.getD i 0=0:=fun i hi=>by
 rw [oE hR];have h1:val R<B^i:=by
  refine Vq I.lt (Vn (Vl _ (W0 hV)) ?_);rw [<- VZ];exact Vx zU zO
 rw [W6 h1,Nat.zero_mod]
def rE (Z:Nat):Z=Z / B*B+Z % B:=by rw [Vt]; exact (Wj Z B).symm
def DivI.guess {X V a m:Nat} {Q R L:List Nat} (I:DivI X V (a+1) Q R) (hV:V<B^(m+2)) (hR:Lim R) (h0:0<V) (hL:∀ i,i<m+2->L.getD i 0=V / B^i % B) :
  GuessH V (val R / B^a) (B^m) (R.getD (a+(m+2)) 0) (R.getD (a+(m+1)) 0) (R.getD (a+m) 0) (L.getD (m+1) 0) (L.getD m 0):=by
 have hp:∀ j,0<B^j:=fun j=>VK zU;have hdp:∀ Y j,Y / B^(j+1)=Y / B^j / B:=fun Y j=>by rw [VJ,We]
 refine ⟨?_,?_,?_,h0⟩
 ·rw [hL _ zO,hL _ zO,hdp V m];have h1:V / B^m / B % B=V / B^m / B:=by
   rw [<- hdp]
   apply VV
   apply (Vz (hp _)).2
   rw [Vt,<- VJ]; exact hV
  rw [h1,<- rE];exact Z2 _ _
 ·rw [oE hR,oE hR,oE hR];have e1:val R / B^(a+(m+1))=val R / B^(a+m) / B:=by rw [<- Wb,hdp]
  have e2:val R / B^(a+(m+2))=val R / B^(a+m) / B / B:=by
   rw [show a+(m+2)=a+m+1+1 by omega,hdp,hdp]
  have e3:val R / B^(a+m) / B / B % B=val R / B^(a+m) / B / B:=by
   rw [<- e2]
   apply VV
   apply (Vz (hp _)).2
   refine Vq I.lt (Vn (Vl _ (W0 hV)) ?_);rw [<- VZ,Vt,<- VJ];exact Vx zU zO
  rw [e2,e3,e1,<- rE,<- rE];have e4:val R / B^(a+m)=val R / B^a / B^m:=by rw [We,VZ]
  rw [e4];exact (Vz (hp m)).1 (Yo _)
 ·apply (Vz (hp a)).2
  refine Vq I.lt (XK ?_);rw [VJ,Vt (B^a),VU]
structure SubI (XR V a n:Nat) (R:List Nat) (q l:Nat):Prop where
 e:val R+B^a*(q*V)=XR+B^(a+n+1)*l
 ge:XR / B^a / V<=q
section
variable {XR V A q vr vr' W c:Nat}
def P5 (e:vr+A*(q*V)=XR+W*1) (hlt:vr<W) (hV:0<V) (hA:0<A) (hb:vr'+W*c=vr+A*V) (hc:c<=1):0<q/\XR / A / V<=q-1/\vr'+A*((q-1)*V)=XR+W*(1-c):=by
 have h1:XR / A / V<q:=by
  rw [We]
  apply (Vz (Zq hA hV)).2
  have:q*(A*V)=A*(q*V):=by rw [YB]
  rw [this]
  generalize A*(q*V)=t at *
  omega
 have h0:0<q:=Wd (Vj _) h1;refine ⟨h0,Yn h1,?_⟩;obtain ⟨p,rfl⟩:∃ p,q=p+1:=⟨q-1,zO⟩
 rw [Xe];rw [Wh,X7,Wa] at e;have hcc:c=0\/c=1:=zO;rcases hcc with rfl | rfl
 ·simp only [XP,WE,WL,ZD] at *;omega
 ·simp only [XP,WE,WL,Y3] at *;omega
def QI (e:vr+A*(q*V)=XR) (hge:XR / A / V<=q) (hV:0<V) (hA:0<A):vr<V*A:=by
 have h1:q<=XR / (A*V):=by
  apply (YJ (Zq hA hV)).2
  rw [YB,<- e];exact Nat.le_add_left _ _
 rw [We] at hge;have h2:=Xs h1 hge;have h3:=Wj XR (A*V);rw [<- h2] at h3;have h4:=V4 XR (Zq hA hV);have h5:A*V*q=A*(q*V):=by rw [VU,Vt V]
 rw [h5] at h3;rw [Vt V];omega
end
def SubI.pos {XR V a n q:Nat} {R:List Nat} (I:SubI XR V a n R q 1) (hlt:val R<B^(a+n+1)):0<q:=by
 apply Nat.pos_of_ne_zero
 intro h;have e:=I.e;rw [h,Yw,XP,WL,WE] at e;rw [e] at hlt;exact absurd hlt (Nat.not_lt_of_le (Nat.le_add_left _ _))
def SubI.back {XR V a n q c:Nat} {R R':List Nat} (I:SubI XR V a n R q 1) (hlt:val R<B^(a+n+1)) (hV:0<V) (hb:val R'+B^(a+n+1)*c=val R+B^a*V) (hc:c<=1):0<q/\SubI XR V a n R' (q-1) (1-c):=by
 obtain ⟨h1,h2,h3⟩:=P5 I.e hlt hV (VK zU) hb hc;exact ⟨h1,h3,h2⟩
def DivI.next {X V a n q:Nat} {Q R R':List Nat} (I:DivI X V (a+1) Q R) (S:SubI (val R) V a n R' q 0) (hV:0<V) (ha:a<Q.length):DivI X V a (Q.set a q) R':=by
 have e:=S.e;rw [XP,WL] at e;refine ⟨?_,QI e S.ge hV (VK zU),fun i hi=>?_⟩
 ·have hv:=iQ (l:=Q) (k:=a) (v:=q) ha;rw [I.zero a (Yo a),XP,WL] at hv;rw [hv,I.eq,<- e,Wa]
  have:V*(B^a*q)=B^a*(q*V):=by rw [YB,Vt V]
  rw [this];omega
 ·rw [bk zO];exact I.zero i zO
def DivI.fin {x y P:Nat} {Q R:List Nat} (hP:0<P) (I:DivI (x*P) (y*P) 0 Q R):val Q=x / y/\val R=x % y*P:=by
 have e:=I.eq;have l:=I.lt;rw [Yb,WE] at l;have hyP:0<y*P:=Wd (Vj _) l;have h1:x*P / (y*P)=val Q:=by
  rw [e,Vt (y*P),XL,YL _ _ hyP,W6 l,VQ]
 have h2:x*P % (y*P)=val R:=by
  rw [e,Nat.mul_add_mod_self_left,VV l]
 rw [YK _ _ hP] at h1;rw [ZK] at h2;exact ⟨h1.symm,h2.symm⟩
def Kf (H:Heap) (id size bytes ty:Nat) (z:List AV) (x y:AV):Option (AV × Heap):=match qa y with
 | none=>none
 | some m=>if z.length=size/\m*bytes<=2^46/\m<2^62 then cU H id size bytes ty x m ((List.replicate m z).flatten) none else none
def PF {tab:Nat->Option aA} (ev:Src->AV) (H:Heap) (id:Nat) (Q:AV->Heap->Prop) (size bytes ty:Nat) (z:List AV) (x y:Src) :
  mR tab ev H id (.appendZ size bytes ty z x y) Q=gL (Kf H id size bytes ty z (ev x) (ev y)) (fun r=>Q r.1 r.2) ():=by
 rw [ca,gH tab ev H id Q (o:=.appendZ size bytes ty z x y) (fun f a e=>by cases e) rfl]; rfl
def O7 {H:Heap} {id b n m M:Nat} {l E:List Nat} (hb:H.get b=some (.cells (aM (l++E)) ae true)) (hn:l.length=n) (hE:E.length=m) (hM:n+m=M) (hM2:M<2199023255552) (hid:H.get id=none) (hl:Lim l) :
  ∃ rb x R H',Kf H id 1 8 ae [.int .u64 0] (.own b 0 n n 1 true) (.int .i64 (m:Int))=some (.own rb 0 M M 1 x,H')/\H'.get rb=some (.cells (aM R) ae true)/\R.length=M/\val R=val l/\Lim R/\(rb=b\/rb=id)/\H'.next=H.next/\(∀ c e,H.get c=some e->H'.get c=some e)/\(∀ H0,Kp H0 H->H0.next<=id->id<H.next->Kp H0 H'):=by
 have hlen:(aM (l++E)).length=M:=by rw [oU,Vr]; omega
 have hap:Kf H id 1 8 ae [.int .u64 0] (.own b 0 n n 1 true) (.int .i64 (m:Int))=if m=0 then some (.own b 0 n n 1 true,H) else some (.own id 0 (n+m) (n+m) 1 false,H.put id (.cells ((aM (l++E)).take n++aM (List.replicate m 0)) ae true)):=by
  unfold Kf;rw [fY];simp only;rw [if_pos ⟨rfl,zO,zO⟩,mH];simp only [cU,hb];rw [if_pos ⟨trivial,zO,zO,trivial,by rw [hlen]; omega⟩];by_cases h0:m=0
  ·rw [if_pos zO,if_pos h0,if_pos h0]
  ·rw [if_neg zO,if_pos trivial,if_neg h0]
   simp
 by_cases h0:m=0
 ·have hE0:E=[]:=V6 zO;subst hE0;rw [Wy] at hb;have hnM:n=M:=zO;subst hnM;exact ⟨b,true,l,H,by rw [hap,if_pos h0],hb,hn,rfl,hl,.inl rfl,rfl,fun _ _ h=>h,fun _ h _ _=>h⟩
 ·have ht:(aM (l++E)).take n=aM l:=by
   unfold aM;rw [VW,List.take_left' (by simp [hn])]
  have hc:aM l++aM (List.replicate m 0)=aM (l++List.replicate m 0):=by simp [aM]
  rw [ht,hc,hM] at hap;exact ⟨id,false,l++List.replicate m 0,_,by rw [hap,if_neg h0],ap _ _ _,by simp [hn,hM],by rw [po,fK,XP,WL],hl.append (Lim.replicate m),.inr rfl,rfl,fun c e h=>by
   rw [az (fun e1=>by rw [e1,hid] at h; cases h)]; exact h,fun H0 hk h1 h2=>hk.put h1 h2⟩
section
variable {tab:Nat->Option aA} {H:Heap}
set_option maxHeartbeats 4000000 in
def J2 (C:Code tab) (hw:Wf H) {a b:AV} {x y:Nat} (ha:bJ H a x) (hb:bJ H b y) (hx:Sm x) (hy:Sm y) (h0:0<y) :
  Ans tab (.fn xq [a,b]) H fun v H'=>∃ q r,v=.tup [q,r,.int .i64 0]/\bJ H' q (x / y)/\bJ H' r (x % y)/\Kp H H':=by
 refine bB C.q165 zU fun T hl g0 g1=>?_;refine zW (aE hl g0 g1) ?_;refine AnsH.eq (Gf C zF (ha.mono (Sub.bump H _)) (hb.mono (Sub.bump H _)) hx hy h0) fun H2 hk2=>?_;obtain ⟨k2,_,w2⟩:=zT H zK hk2;have n2:=k2.le;have ha2:=ha.mono k2.sub;have hb2:=hb.mono k2.sub;have hx':=hx;have hy':=hy;unfold Sm at hx' hy';have hyl:=(bI y).2 zO;by_cases h1:(ag y).length=1
 ·obtain ⟨hyB,hy0⟩:=Lv h1;have hlen:lenV b=some (.int .i64 1):=by have:=hb.lenV; rw [h1] at this; exact this
  have hix:=SlV.idx1 hb .i64 0 zO;have hld:=fp hb2 (i:=0) zO;rw [hy0] at hld;have hix':cI 1 b (.int .i64 0)=some (au b 0):=hix;refine zW (dL hl g0 g1 hlen hix' hld) ?_;refine AnsH.use (OJ C zF (ha2.mono (Sub.bump H2 _)) hx h0 hyB) ?_;rintro v H3 ⟨q,rfl,hq,hk3⟩;obtain ⟨k3,_,w3⟩:=zT H zK hk3;refine zW (aE hl g0 g1) ?_;refine AnsH.use (Id C zF (Y5 (V4 x h0) hyB)) ?_;rintro v H4 ⟨h4,-,hk4⟩;obtain ⟨k4,_,_⟩:=zT H zK hk4;refine zW (aE hl g0 g1) ?_;exact ⟨q,v,rfl,hq.mono (Kp.sub (H:=H3) (Kp.trans zK hk4)),h4,zK⟩
 ·obtain ⟨m,hm⟩:∃ m,(ag y).length=m+2:=⟨(ag y).length-2,zO⟩
  have hne1:¬ ((m+2:Nat):Int)=1:=zO;have hbl:lenV b=some (.int .i64 ((m+2:Nat):Int)):=by have:=hb.lenV; rwa [hm] at this
  obtain ⟨la,hla⟩:∃ la,(ag x).length=la:=⟨_,rfl⟩
  have hal:lenV a=some (.int .i64 (la:Int)):=by have:=ha.lenV; rwa [hla] at this
  refine zW (dL hl g0 g1 hbl hal hne1) ?_;refine iteH.split (fun h2=>?_) fun h2=>?_
  ·have hlt:x<y:=Eh zO;refine zW (aE hl g0 g1) ?_;refine AnsH.use (gJ C zF (ha2.mono (Sub.bump H2 _)) zO) ?_;rintro v H3 ⟨h3,hk3⟩;obtain ⟨k3,_,_⟩:=zT H zK hk3;refine zW (aE hl g0 g1) ?_;rw [W6 hlt,VV hlt];exact ⟨.nilSl,v,rfl,eN _,h3,zK⟩
  ·obtain ⟨top,etop⟩:∃ top,(ag y).getD (m+1) 0=top:=⟨_,rfl⟩
   have htopB:top<18446744073709551616:=by rw [<- etop]; exact (bo y).at _
   have htop0:0<top:=by
    rw [<- etop,iM];have h3:=FN (y:=y) (n:=m+1) (by rw [hm]);have h4:=ip y;rw [hm] at h4;have h5:y / B^(m+1)<B:=by
     apply (Vz (VK zU)).2
     rw [Vt,<- VJ]; exact h4
    rw [VV h5];exact Nat.div_pos h3 (VK zU)
   have hix:=SlV.idx1 hb .i64 (m+1) zO;have hld:=fp hb2 (i:=m+1) zO;rw [etop] at hld;have hw1:IntKind.i64.wrap (((m+2:Nat):Int)-1)=((m+1:Nat):Int):=by rw [wrap_i64] <;> omega
   refine zW (fy hl g0 g1 hbl hw1 hix hld) ?_;refine AnsH.use (C9 C zF htop0 htopB) ?_;rintro v H3 ⟨⟨z,rfl,hz,hz1,hz2⟩,hk3⟩;obtain ⟨k3,_,w3⟩:=zT H zK hk3;obtain ⟨hVB,hVl,hV63⟩:=Ia hm etop hz hz1 hz2;have hX0:=Fc (k:=la-(m+1)) hla hz hV63 zO;refine zW (aE hl g0 g1) ?_;refine AnsH.use (N0 C zF (ha.mono (zG H)) hx zO) ?_;rintro v H4 ⟨o1,rfl,hn1,hk4,b1,E1,rfl,hb1,hge1,hlen1,-⟩;obtain ⟨k4,_,w4⟩:=zT H zK hk4;refine zW (aE hl g0 g1) ?_;refine AnsH.use (N0 C zF (hb.mono (zG H)) hy zO) ?_;rintro v H5 ⟨o2,rfl,hn2,hk5,b2,E2,rfl,hb2',hge2,-,hlim2⟩;obtain ⟨k5,_,w5⟩:=zT H zK hk5;obtain ⟨V,eV⟩:∃ V,y*2^z=V:=⟨_,rfl⟩
   obtain ⟨X,eX⟩:∃ X,x*2^z=X:=⟨_,rfl⟩
   rw [eV] at hVB hVl hV63 hX0 hn2 hb2' hlim2;rw [eX] at hX0 hn1 hb1 hlen1;rw [eX,eV,hVl];have hz64:z / 64=0:=W6 hz;obtain ⟨n1,en1⟩:∃ n1,(ag X).length=n1:=⟨_,rfl⟩
   rw [hla,hz64,Vr,en1] at hlen1;rw [en1];have c1:=hk5.get hb1;have hwa:IntKind.i64.wrap ((la:Int)+1)=((la+1:Nat):Int):=by rw [wrap_i64] <;> omega
   have hwb:IntKind.i64.wrap (((la+1:Nat):Int)-(n1:Int))=((E1.length:Nat):Int):=by rw [wrap_i64] <;> omega
   obtain ⟨Nq,eNq⟩:∃ Nq,la-(m+2)+1=Nq:=⟨_,rfl⟩
   have hwc:IntKind.i64.wrap ((la:Int)-((m+2:Nat):Int))=((la-(m+2):Nat):Int):=by rw [wrap_i64] <;> omega
   have hwd:IntKind.i64.wrap (((la-(m+2):Nat):Int)+1)=(Nq:Int):=by rw [wrap_i64] <;> omega
   have hmk:∀ H' id,Jy H' id ae 1 8 [.int .u64 0] (.int .i64 (Nq:Int)) (.int .i64 (Nq:Int))=some (.own id 0 Nq Nq 1 true,H'.put id (.cells (aM (List.replicate Nq 0)) ae true)):=fun H' id =>
    (jc H' id ae 1 8 [.int .u64 0] .i64 .i64 Nq zO zO rfl).trans (by rw [mH])
   obtain ⟨k5,_,_⟩:=zT H zK hk5;obtain ⟨rb,x1,R,H6,e6,hR,lR,vR,limR,hrb,hn6,hs6,hk6⟩:=O7 (H:=H5.up 12) (id:=H5.next+7) (b:=b1) (E:=E1) (m:=E1.length) (M:=la+1) (l:=ag X) (n:=n1) c1 en1 rfl zO zO (w5.fresh (b:=H5.next+7) zO) (bo X);have k6:Kp H H6:=hk6 H (k5.up 12) (by have:=k5.le; omega) (by show _<H5.next+12; omega);have le_k6:=k6.le;have w6:=k6.wf;have hn6':H6.next=H5.next+12:=hn6
   have c2:H6.get b2=some (.cells (aM (ag V++E2)) ae true):=hs6 _ _ hb2';have lt1:=k4.wf _ _ hb1;have lt2:=k5.wf _ _ hb2';have lt5:=k5.le;have lt4:H4.next<=b2:=Vn (VH _ _) hge2
   have hne:rb≠b2:=by
    rcases hrb with h | h <;> omega
   have hrbH:H.next<=rb:=by
    have q1:H3.next<=b1:=Vn (VH _ _) hge1
    have q2:=k3.le;rcases hrb with h | h <;> omega
   have ltr:=k6.wf _ _ hR;simp -dsimp (maxSteps:=1000000) (disch:=(first | omega | assumption | exact am _ | exact bp _ _ | exact bF | exact cO _ _ _ | exact bX _ _ | exact bP _ _ _ _ _ _ | exact cW _ _ | exact cp _)) only [↓xX,xW,Nat.reduceLT,Nat.reduceEqDiff,Nat.reduceAdd,reduceIte,reduceCtorEq,Nat.reduceBEq,Int.reduceEq,Int.reduceLT,Int.reduceLE,Int.reduceAdd,Int.reduceSub,hl,g0,g1,hal,hbl,hwa,hwb,↓PF,e6,hwc,hwd,hmk];obtain ⟨d,ed⟩:∃ d,H5.next+10=d:=⟨_,rfl⟩
   obtain ⟨qb,eq⟩:∃ qb,H6.next+6=qb:=⟨_,rfl⟩
   simp only [ed,eq];have D0:Dv (((H6.up 12).put d (.cells [.own rb 0 (la+1) (la+1) 1 x1,.own b2 0 (m+2) (m+2) 1 true] fL true)).put qb (.cells (aM (List.replicate Nq 0)) ae true)) d rb b2 (la+1) (m+2) x1 R (ag V++E2):=by
    have z1:d≠rb:=by rcases hrb with h | h <;> omega
    refine ⟨?_,?_,?_,lR,by rw [Vr,hVl]; omega,hne,limR,?_⟩
    ·exact cH
    ·exact zV hR
    ·exact zV @c2
    ·exact hlim2
   obtain ⟨L,eL⟩:∃ L,ag V++E2=L:=⟨_,rfl⟩
   have hLd:∀ i,i<m+2->L.getD i 0=V / B^i % B:=fun i hi=>by
    rw [<- eL,U5,VE zO,<- U5,iM]
   have hLt:val (L.take (m+2))=V:=by
    rw [<- eL,List.take_left' hVl,bH]
   rw [eL] at D0;have hV0:0<V:=Vq (Zq zU (VK zU)) hV63;have hI0:DivI X V Nq (List.replicate Nq 0) R:=⟨by rw [fK,XP,VQ,vR,bH],by
    rw [vR,bH]
    have:la-(m+1)=Nq:=zO
    rw [this] at hX0; exact hX0,fun i _=>by simp [U5,V9]; split <;> rfl⟩
   have hdq:d≠qb:=zO;have hrq:rb≠qb:=zO;have hbq:b2≠qb:=zO;have hqbH:H.next<=qb:=zO
   clear hz1 hz2 hV63 hX0 hwa hwb hwc hwd;refine lM H [16] (fun k vs H'=>vs=[.int .i64 ((k:Int)-1)]/\k<=Nq/\∃ (Q R:List Nat),H'.get qb=some (.cells (aM Q) ae true)/\Q.length=Nq/\Lim Q/\Dv H' d rb b2 (la+1) (m+2) x1 R L/\DivI X V k Q R)
    (fun vs H'=>∃ (Q R:List Nat),H'.get qb=some (.cells (aM Q) ae true)/\Q.length=Nq/\Lim Q/\Dv H' d rb b2 (la+1) (m+2) x1 R L/\DivI X V 0 Q R) Nq (by simp only [U4]; exact hl) rfl zK ⟨?_,Vb _,_,R,ap _ _ _,by simp,Lim.replicate Nq,D0,hI0⟩ ?_ ?_
   ·have hwq:IntKind.i64.wrap ((Nq:Int)-1)=(Nq:Int)-1:=by rw [wrap_i64] <;> omega
    exact zV (aQ hl g0 g1 hwq)
   ·rintro k T1 H1' hl1 hs1 hk1 ⟨hv,hkN,Q,R,hQ,lQ,limQ,D,I⟩;simp only [Ve,Vk,Vg,and_true] at hv;have w1:=hk1.wf;have le_hk1:=hk1.le;have t4:ad T1 4=.own qb 0 Nq Nq 1 true:=(hs1.at_ 4 zU).trans (zV (aE hl g0 g1));have t15:ad T1 15=.ptr d 0:=(hs1.at_ 15 zU).trans (zV (aE hl g0 g1));cases k with
    | zero =>
     have hneg:¬ (0:Int)<=((0:Nat):Int)-1:=zO;refine zW (aE hl1 hv hneg) ?_;exact ⟨zK,Q,R,hQ,lQ,limQ,D.up _,I⟩
    | succ a =>
     have hz:((a+1:Nat):Int)-1=(a:Int):=zO;rw [hz] at hv;have hpos:(0:Int)<=(a:Int):=zO;have hat:a+(m+2)<la+1:=zO;refine zW (aQ hl1 hv hpos t15) ?_;refine AnsH.use (LY C zF (D.up _) hat zO (I.guess hVB D.limR hV0 hLd)) ?_;rintro v H2' ⟨q,rfl,hqB,hge,hk2'⟩;have k2':Kp H H2':=Kp.trans zK hk2';have w2':=k2'.wf;have D2:=(D.up 6).kp hk2';have hQ2:H2'.get qb=some (.cells (aM Q) ae true):=hk2'.get hQ;have hzR:=I.zeros hVB D.limR;refine zW (aE hl1 hv t15) ?_;refine AnsH.use (OH C (H0:=H) zK (D2.up _) hrbH hat zO hqB rfl (fun i hi=>hzR i zO)) ?_;rintro v H3' ⟨R1,l1,rfl,hl1',D3,hv3,hz3,k3',hfr3⟩;rw [hLt] at hv3;have w3':=k3'.wf;have hQ3:H3'.get qb=some (.cells (aM Q) ae true):=hfr3 _ _ (Ne.symm hrq) hQ2;have S3:SubI (val R) V a (m+2) R1 q l1:=⟨hv3,hge⟩
     clear hv3 hge;refine zW (aE hl1 hv t15) ?_;refine lM H [17,18] (fun k vs H'=>∃ (q l:Nat) (R':List Nat),vs=[.int .u64 (q:Int),.bool (decide (0<l))]/\k=q/\l<=1/\q<B/\H'.get qb=some (.cells (aM Q) ae true)/\Dv H' d rb b2 (la+1) (m+2) x1 R' L/\SubI (val R) V a (m+2) R' q l/\∀ i,a+(m+2)<i->R'.getD i 0=0)
      (fun vs H'=>∃ (q:Nat) (bb:AV) (R':List Nat),vs=[.int .u64 (q:Int),bb]/\q<B/\H'.get qb=some (.cells (aM Q) ae true)/\Dv H' d rb b2 (la+1) (m+2) x1 R' L/\SubI (val R) V a (m+2) R' q 0) q (by simp only [U4]; exact hl1) rfl zK ⟨q,l1,R1,by exact zV hl1,rfl,hl1',hqB,hQ3,D3,S3,hz3⟩ ?_ ?_
     ·rintro k T2 H4' hl2 hs2 hk4' ⟨q,l,R',hv',hkq,hl',hqB,hQ4,D4,S4,hz4⟩;obtain rfl:=hkq.symm;simp only [Ve,Vk,Vg,and_true] at hv';obtain ⟨v17,v18⟩:=hv';have w4':=hk4'.wf;have le_hk4':=hk4'.le;have u15:ad T2 15=.ptr d 0:=(hs2.at_ 15 zU).trans (zV (aD hl1 t15));have u16:ad T2 16=.int .i64 (a:Int):=(hs2.at_ 16 zU).trans (zV (aD hl1 hv));rcases (show l=0\/l=1 by omega) with rfl | rfl
      ·have e0:decide (0<0)=false:=rfl;refine zW (aQ hl2 v17 v18 e0) ?_;exact ⟨zK,q,_,R',rfl,hqB,hQ4,D4.up _,S4⟩
      ·have e1:decide (0<1)=true:=rfl;have hlt:=qE (m:=a+(m+2)+1) D4.limR (fun i hi=>hz4 i zO);have hq0:=S4.pos hlt;have z1:=tU (a:=q) hq0 hqB;refine zW (fy hl2 v17 v18 e1 u15 u16 z1) ?_;refine AnsH.use (OI C (H0:=H) zK (D4.up _) hrbH hat zO rfl hz4) ?_;rintro v H5' ⟨R2,c,rfl,hc,D5,hv5,hz5,k5',hfr5⟩;rw [hLt] at hv5;have w5':=k5'.wf;have hQ5:H5'.get qb=some (.cells (aM Q) ae true):=hfr5 _ _ (Ne.symm hrq) hQ4;obtain ⟨-,S5⟩:=S4.back hlt hV0 hv5 hc;clear hv5;have ec:(!decide (0<c))=decide (0<1-c):=by
        rcases (show c=0\/c=1 by omega) with rfl | rfl <;> rfl
       refine zW (aQ hl2 v17 v18 ec) ?_;exact ⟨zK,q-1,zO,q-1,1-c,R2,rfl,rfl,zO,zO,hQ5,D5,S5,hz5⟩
     ·rintro T2 H4' hl2 hs2 hk4' ⟨q,bb,R',hv',hqB,hQ4,D4,S4⟩;simp only [Ve,Vk,Vg,and_true] at hv';obtain ⟨v17,-⟩:=hv';have w4':=hk4'.wf;have le_hk4':=hk4'.le;have u4:ad T2 4=.own qb 0 Nq Nq 1 true:=(hs2.at_ 4 zU).trans (zV (aD hl1 t4));have u16:ad T2 16=.int .i64 (a:Int):=(hs2.at_ 16 zU).trans (zV (aD hl1 hv));have hwa1:IntKind.i64.wrap ((a:Int)-1)=(a:Int)-1:=by rw [wrap_i64] <;> omega
      have ltq:=hk4'.wf _ _ hQ4;have I2:=I.next S4 hV0 zO
      refine zW (dL hl2 u4 u16 v17 hQ4 hwa1) ?_;exact ⟨zK,a,zO,rfl,zO,_,R',rfl,by simp [lQ],ka limQ hqB,(D4.up _).put hdq hrq hbq,I2⟩
   ·rintro T1 H1' hl1 hs1 hk1 ⟨Q,R',hQ,lQ,limQ,D,I⟩;have w1:=hk1.wf;have le_hk1:=hk1.le;have t4:ad T1 4=.own qb 0 Nq Nq 1 true:=(hs1.at_ 4 zU).trans (zV (aE hl g0 g1));have t15:ad T1 15=.ptr d 0:=(hs1.at_ 15 zU).trans (zV (aE hl g0 g1));have t10:ad T1 10=.int .i64 (z:Int):=(hs1.at_ 10 zU).trans (zV (aE hl g0 g1));have hlen:(ag (val R')).length<=m+2:=by
     have h:=I.lt;rw [Yb,WE] at h
     have:=AO (W0 h)
     rwa [hVl] at this
    have p2z:0<2^z:=VK zU;rw [<- eX,<- eV] at I;obtain ⟨f1,f2⟩:=I.fin p2z;have hd1:=D.hd;refine zW (aE hl1 t15 hd1) ?_;refine AnsH.eq (pV C zF (rw':=true) D.lr D.hr zO) fun H2' hk2'=>?_;have k2':Kp H H2':=Kp.trans zK hk2';have w2':=k2'.wf;have hr2:H2'.get rb=some (.cells (aM R') ae true):=hk2'.get D.hr;have hq2:H2'.get qb=some (.cells (aM Q) ae true):=hk2'.get hQ;obtain ⟨E,hE⟩:=sf R';rw [eA D.limR] at hE ⊢;have hn:bJ H2' (.own rb 0 (ag (val R')).length (ag (val R')).length 1 true) (val R'):=DV (rw':=true) (E:=E) (by rw [<- hE]; exact hr2);refine zW (aD hl1 t10) ?_;refine AnsH.use (N3 C zF hn (by unfold Sm; omega) zO) ?_;rintro v H3' ⟨o,rfl,ho,hk3'⟩;have k3':Kp H H3':=Kp.trans zK hk3';have w3':=k3'.wf;have hq3:H3'.get qb=some (.cells (aM Q) ae true):=hk3'.get hq2;rw [f2,Z9 _ p2z] at ho;refine zW (aD hl1 t4) ?_;refine AnsH.eq (pV C zF (rw':=true) lQ hq3 zO) fun H4' hk4'=>?_;have k4':Kp H H4':=Kp.trans zK hk4';obtain ⟨E',hE'⟩:=sf Q;rw [eA limQ,f1] at hE' ⊢;refine zW hl1 ?_;refine ⟨_,o,rfl,DV (rw':=true) (E:=E') ?_,ho.mono (Kp.sub (H:=H3') (Kp.trans zK hk4')),zK⟩;rw [<- hE'];exact hk4'.get hq3
end
end Go.Proofs.YteaefaohjlmjdaaGreat.Ev
