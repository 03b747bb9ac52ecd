/- A part. -/
import Derived.Test.YtofhopjbbpihaaaGreatA0
import Derived.Test.YtofhopjbbpihaaaGreatKit
import Derived.KernelRfl
namespace Go.Proofs.YtofhopjbbpihaaaGreat.Ev
open Go Nn
set_option linter.all false
theorem i8:∀ {l:List Nat} {k v:Nat},k<l.length->val (l.set k v)+B^k*l.getD k 0=val l+B^k*v
 | a :: l,0,v,_=>by simp [val]; omega
 | a :: l,k+1,v,h=>by
  have ih:=i8 (l:=l) (k:=k) (v:=v) (by simpa using h)
  simp only [List.set_cons_succ,val,Vt,Uy]
  have:=congrArg (B * ·) ih
  simp only [UQ] at this
  rw [Uf (B^k) B,UD,UD]
  omega
theorem kS {l:List Nat} (h:Lim l) {k v:Nat} (hv:v<B):Lim (l.set k v):=fun a ha=>by
 rcases X3 ha with h1 | h1
 ·exact h a h1
 ·rw [h1]; exact hv
section
variable {tab:Nat->Option aw} {H:Heap} {s:AV} {l:List Nat}
theorem SlV.clipat {α:Type} {E:fg α} {ty:Nat} {v:AV} {l:List α} (hs:SlV E ty H v l) (k j:IntKind) (n:Nat) (hn:n<=l.length):∃ v',bI E.sz v none (some (.int k (n:Int))) (some (.int j (n:Int)))=some v'/\SlV E ty H v' (l.take n):=by
 obtain ⟨cells,hr,ht,hc⟩:=hs
 obtain ⟨m,hm,hlen⟩:=hr.length
 have hml:m=l.length:=Vv E.pos (by rw [<- hlen,hc.1])
 subst hml
 obtain ⟨h0,h1,m',h2,h3⟩:=hr
 rw [hm] at h2; cases h2
 have hle:n*E.sz<=l.length*E.sz:=T8 _ hn
 have hns:∀ x y z,bI E.sz v x y z=bJ E.sz v x y z:=fun x y z=>by cases v <;> first | rfl | exact absurd rfl (h1 _)
 rw [hns]
 suffices ∃ v',bJ E.sz v none (some (.int k (n:Int))) (some (.int j (n:Int)))=some v'/\Rd H E.sz v' (cells.take (n*E.sz)) by
  obtain ⟨v',e,hr⟩:=this
  exact ⟨v',e,_,hr,rV ht (by rw [hns]; exact e),hc.take hn⟩
 cases v with
 | own b off n' c sz' ex =>
  simp only [g8,Ux] at hm
  subst hm
  simp only [aM] at h3
  split at h3
  ·rename_i cs ty rw0 hb
   split at h3
   ·rename_i hcond
    obtain ⟨hsz,-,hcl⟩:=hcond
    subst hsz
    cases h3
    have hnc:l.length<=c:=h0
    have et:((cs.drop off).take (l.length*E.sz)).take (n*E.sz)=(cs.drop off).take (n*E.sz):=by rw [VY,UZ hle]
    rw [et]
    have hp:bJ E.sz (.own b off l.length c E.sz ex) none (some (.int k (n:Int))) (some (.int j (n:Int)))=some (if n=0 then .own b off 0 0 E.sz true else .own b off n n E.sz true):=by
     simp only [bJ,fH,ne_eq,not_true_eq_false,if_false,TK,Vc,VD,Vy]
     rw [if_pos ⟨by omega,TO _,TY _⟩]
     by_cases h00:n=0
     ·rw [if_pos h00,if_pos h00]; simp [h00]
     ·rw [if_neg h00,if_neg h00]; simp
    refine ⟨_,hp,?_⟩
    by_cases h00:n=0
    ·rw [if_pos h00,h00]
     refine ⟨TO _,(fun s h=>by cases h),0,rfl,?_⟩
     simp only [aM,hb]
     rw [if_pos ⟨trivial,TO _,by simp; omega⟩]
    ·rw [if_neg h00]
     refine ⟨TO _,(fun s h=>by cases h),n,rfl,?_⟩
     simp only [aM,hb]
     rw [if_pos ⟨trivial,TO _,by omega⟩]
   ·cases h3
  ·cases h3
 | sl cs n' =>
  simp only [g8,Ux] at hm
  subst hm
  simp only [aM] at h3
  split at h3
  ·rename_i hcond
   cases h3
   have hcl:=hcond.2
   refine ⟨.sl (cs.take (n*E.sz)) n,?_,trivial,(fun s h=>by cases h),n,rfl,?_⟩
   ·simp only [bJ,fH,TK,Vc,VD,Vy]
    rw [if_pos ⟨hn,TO _,TY _,by omega⟩]
    simp
   ·simp only [aM]
    rw [if_pos ⟨TO _,by simp only [Un]; omega⟩]
    rw [VY,VY,Nat.min_self,UZ hle]
  ·cases h3
 | nilSl =>
  simp only [g8,Ux] at hm
  have hn0:n=0:=by omega
  subst hn0
  simp only [aM] at h3
  split at h3
  ·cases h3
   exact ⟨.nilSl,rfl,trivial,(fun s h=>by cases h),0,rfl,by simp [aM]⟩
  ·cases h3
 | str s=>exact absurd rfl (h1 s)
 | _=>simp [g8] at hm
theorem ES (C:Code tab) (hw:Wf H) (hs:Lb H s l) (hbig:l.length<4611686018427387904) :
  Ans tab (.fn tN [s]) H fun v H'=>Lb H' v (eR l)/\Kp H H':=by
 refine cU C.q178 zU fun T hl g0=>?_
 refine zW (aD hl g0 hs.lenV) ?_
 refine cp H [3] (fun k vs H'=>vs=[.int .i64 (k:Int)]/\eR (l.take k)=eR l/\k<=l.length) l.length (by simp only [TH]; exact hl) rfl zK ⟨by exact zV (aC hl g0),by rw [Ur],TO _⟩ ?_
 rintro k T1 H1 hl1 hs1 hk1 ⟨hv,ht,hk⟩
 have w1:=hk1.wf
 have le_hk1:=hk1.le
 simp only [TP,TV,TR,and_true] at hv
 have t0:aa T1 0=s:=(hs1.at_ 0 zU).trans (zV (aC hl g0))
 have fin:∀ (m:Nat),eR (l.take k)=l.take k->∀ v',bI 1 s none (some (.int .i64 (k:Int))) (some (.int .i64 (k:Int)))=some v'->Lb H v' (l.take k)->Lb (H1.up m) v' (eR l):=fun m h1 v' _ h2=>by
  rw [<- ht,h1]; exact h2.mono (hk1.up m).sub
 obtain ⟨v',e,hr⟩:=SlV.clipat hs .i64 .i64 k hk
 have e':bI 1 s none (some (.int .i64 (k:Int))) (some (.int .i64 (k:Int)))=some v':=e
 rcases VM (l.take k) with h0 | ⟨l',a,h0⟩
 ·have hk0:k=0:=by
   have:=congrArg List.length h0; simp at this; rcases this with h | h
   ·exact h
   ·subst h; simpa using hk
  subst hk0
  have z:¬ (0:Int)<((0:Nat):Int):=by omega
  refine zW (bS hl1 hv t0 z e') ?_
  exact ⟨fin _ (by simp; rfl) _ e' hr,zK⟩
 ·rw [VN] at h0
  have hk1':k=l'.length+1:=by have:=congrArg List.length h0; simp at this; omega
  subst hk1'
  have hl':l.take l'.length=l':=by
   have:=congrArg (List.take l'.length) h0
   rw [VY,UZ zO] at this
   simpa using this
  have hwr:IntKind.i64.wrap (((l'.length+1:Nat):Int)-1)=(l'.length:Int):=by rw [wrap_i64] <;> omega
  have hpos:0<l'.length+1:=by omega
  have hix:=Zv (hs.mono hk1.sub) .i64 l'.length zO
  have hga:l.getD l'.length 0=a:=by
   have this:(l.take (l'.length+1)).getD l'.length 0=(l'++[a]).getD l'.length 0:=by rw [h0]
   rw [TI,Uh,if_pos zO,<- TI] at this
   rw [this]; simp [TI]
  have hld:=fD (hs.mono hk1.sub) (i:=l'.length) zO
  rw [hga] at hld
  refine zW (gh hl1 hv t0 hpos hix hld hwr) ?_
  refine iteH.split (fun ha=>?_) fun ha=>?_
  ·have ha0:a=0:=by omega
   subst ha0
   refine zW (aX hl1 hv t0 hwr) ?_
   refine ⟨zK,l'.length,by omega,rfl,?_,by omega⟩
   rw [hl',<- ht,h0,eC]
  ·have ha':a≠0:=by omega
   refine zW (aX hl1 hv t0 e') ?_
   exact ⟨fin _ (by rw [h0,jc ha']) _ e' hr,zK⟩
theorem Ew {x y o c:Nat} (hx:x<B) (hy:y<B) (ho:o<B) (hc:c<B) :
  (fe (fe (x*y % B) o 0).1 c 0).1+B*(((x*y / B+(fe (x*y % B) o 0).2) % B+(fe (fe (x*y % B) o 0).1 c 0).2) % B)=x*y+o+c:=by
 have hp:x*y<=18446744073709551615*18446744073709551615:=Vj (by unfold B at hx; omega) (by unfold B at hy; omega)
 simp only [fe,B] at *
 generalize x*y=p at *
 omega
theorem GC {out b:List Nat} {i j x c V0 l2 c':Nat} (hlt:i+j<out.length) (hv:val out+B^(i+j)*c=V0+B^i*x*val (b.take j)) (he:l2+B*c'=x*b.getD j 0+out.getD (i+j) 0+c) :
  val (out.set (i+j) l2)+B^(i+(j+1))*c'=V0+B^i*x*val (b.take (j+1)):=by
 have h1:=i8 (l:=out) (k:=i+j) (v:=l2) hlt
 rw [cW]
 have h2:B^(i+(j+1))*c'=B^(i+j)*(B*c'):=by rw [<- US,Uy,UD]
 have h3:B^i*x*(val (b.take j)+B^j*b.getD j 0)=B^i*x*val (b.take j)+B^(i+j)*(x*b.getD j 0):=by rw [UQ,UR]; grind
 rw [h2,h3]
 have h4:=congrArg (B^(i+j) * ·) he
 simp only [UQ] at h4
 generalize B^(i+j)*(B*c')=q1 at *
 generalize B^(i+j)*l2=q2 at *
 generalize B^(i+j)*(x*b.getD j 0)=q3 at *
 generalize B^(i+j)*c=q4 at *
 generalize B^(i+j)*out.getD (i+j) 0=q5 at *
 omega
theorem bo {l:List Nat} {i k v:Nat} (h:i≠k):(l.set i v).getD k 0=l.getD k 0:=by
 rw [TI,TI,VZ,if_neg h]
theorem Ha (C:Code tab) (hw:Wf H) {sa sb:AV} {a b:List Nat} (ha:Lb H sa a) (hb:Lb H sb b) (hla:a.length<1099511627776) (hlb:b.length<1099511627776) (la:Lim a) (lb:Lim b) :
  Ans tab (.fn pG [sa,sb]) H fun v H'=>Lb H' v (ai (val a*val b))/\Kp H H':=by
 refine bz C.q165 zU fun T hl g0 g1=>?_
 have hwr:IntKind.i64.wrap ((a.length:Int)+(b.length:Int))=((a.length+b.length:Nat):Int):=by rw [wrap_i64] <;> omega
 obtain ⟨N,hN⟩:∃ N,a.length+b.length=N:=⟨_,rfl⟩
 rw [hN] at hwr
 have hmk:∀ H' id,IF H' id ae 1 8 [.int .u64 0] (.int .i64 (N:Int)) (.int .i64 (N:Int))=some (.own id 0 N N 1 true,H'.put id (.cells (aL (List.replicate N 0)) ae true)):=fun H' id=>by
  exact (jt H' id ae 1 8 [.int .u64 0] .i64 .i64 N zO zO rfl).trans (by rw [mU])
 refine zW (gh hl g0 g1 ha.lenV hb.lenV hwr hmk) ?_
 refine am H [] (fun i vs H'=>∃ out,H'.get (H.next+6)=some (.cells (aL out) ae true)/\out.length=N/\Lim out/\val out=val (a.take i)*val b/\∀ k,i+b.length<=k->out.getD k 0=0) (a:=0) (N:=a.length) rfl (by refine zW (aD hl g0 g1) ?_; rfl) (zV (aD hl g0 g1)) (TY _) zO (by simp only [TH,hl]; rfl) rfl (fun _ _ _ _ h=>h) zK
  ⟨List.replicate N 0,by exact cP,by simp,Zn N,by rw [fK]; simp [val],fun k _=>by simp [TI,U4]; split <;> rfl⟩ ?_ ?_
 ·rintro i T1 H1 _ hi hl1 hi1 hs1 hk1 ⟨out,b6,hlen,hlim,hval,hz⟩
  simp only [TH,hl] at hl1
  have w1:=hk1.wf
  have le_hk1:=hk1.le
  have t5:aa T1 5=.own (H.next+6) 0 N N 1 true:=(hs1.at_ 5 zU).trans (zV (aD hl g0 g1))
  have t1:aa T1 1=sb:=(hs1.at_ 1 zU).trans (zV (aX hl g0 g1 g1))
  have t20:aa T1 20=sa:=(hs1.at_ 20 zU).trans (zV (aD hl g0 g1))
  have hix:=Zv ha .i64 i hi
  have hld:=fD (ha.mono hk1.sub) hi
  refine zW (lA hl1 t5 t1 t20 hi1 hix hld hb.lenV) ?_
  have hxB:=la.at i
  refine am H [8] (fun j vs H'=>∃ o c:_,vs=[.int .u64 ((c:Nat):Int)]/\H'.get (H.next+6)=some (.cells (aL o) ae true)/\o.length=N/\Lim o/\c<B/\val o+B^(i+j)*c=val (a.take i)*val b+B^i*a.getD i 0*val (b.take j)/\∀ k,i+b.length<=k->o.getD k 0=0) (a:=0) (N:=b.length) rfl (by refine zW hl1 ?_; rfl) (zV hl1) (TY _) zO (by simp only [TH,hl1]; rfl) rfl (fun _ _ _ _ h=>h) zK
   ⟨out,0,by refine zW hl1 ?_; rfl,b6,hlen,hlim,by decide,by simp [hval,val],hz⟩ ?_ ?_
  ·rintro j T2 H2 _ hj hl2 hi2 hs2 hk2 ⟨o,c,hv,c6,holen,holim,hc,hoval,hoz⟩
   simp only [TH,hl1] at hl2
   simp only [TP,TV,TR,and_true] at hv
   have w2:=hk2.wf
   have le_hk2:=hk2.le
   have u5:aa T2 5=.own (H.next+6) 0 N N 1 true:=(hs2.at_ 5 zU).trans (zV (aC hl1 t5))
   have u6:aa T2 6=.int .i64 (i:Int):=(hs2.at_ 6 zU).trans (zV hl1)
   have u7:aa T2 7=.int .u64 ((a.getD i 0:Nat):Int):=(hs2.at_ 7 zU).trans (zV hl1)
   have u27:aa T2 27=sb:=(hs2.at_ 27 zU).trans (zV (aC hl1 t1))
   have hjx:=Zv hb .i64 j hj
   have hjd:=fD (hb.mono hk2.sub) hj
   have hyB:=lb.at j
   have hwij:IntKind.i64.wrap ((i:Int)+(j:Int))=((i+j:Nat):Int):=by rw [wrap_i64] <;> omega
   have hoB:=holim.at (i+j)
   refine zW (lA hl2 u5 u6 u7 u27 hi2 hjx hjd) ?_
   refine Y5 (pT C zF hxB hyB) ?_
   rintro v H3 ⟨rfl,hk3⟩
   obtain ⟨k3,_,w3⟩:=zT H zK hk3
   have d6:=hk3.get (b:=H.next+6) c6
   refine zW (ko hl2 u5 u6 u7 u27 hi2 hv hwij d6) ?_
   refine Y4 (iZ C _ (a.getD i 0*b.getD j 0 % B) (o.getD (i+j) 0) 0 (UL _ zU) hoB zO) fun H4 e4=>?_
   subst e4
   refine zW (ko hl2 u5 u6 u7 u27 hi2 hv hwij d6) ?_
   refine Y4 (iZ C _ (fe (a.getD i 0*b.getD j 0 % B) (o.getD (i+j) 0) 0).1 c 0 (UL _ zU) hc zO) fun H4 e4=>?_
   subst e4
   have lt6:=k3.wf _ _ d6
   refine zW (ko hl2 u5 u6 u7 u27 hi2 hv hwij d6) ?_
   have hs:=Ew hxB hyB hoB hc
   refine ⟨zK,_,_,rfl,rfl,by simp [holen],kS holim (UL _ zU),UL _ zU,GC zO hoval hs,fun k hk=>?_⟩
   rw [bo zO]
   exact hoz k hk
  ·intro T2 H2 hl2 hs2 hk2 ⟨o,c,hv,c6,holen,holim,hc,hoval,hoz⟩
   simp only [TH,hl1] at hl2
   simp only [TP,TV,TR,and_true] at hv
   have w2:=hk2.wf
   have le_hk2:=hk2.le
   have u5:aa T2 5=.own (H.next+6) 0 N N 1 true:=(hs2.at_ 5 zU).trans (zV (aC hl1 t5))
   have u6:aa T2 6=.int .i64 (i:Int):=(hs2.at_ 6 zU).trans (zV hl1)
   have u1:aa T2 1=sb:=(hs2.at_ 1 zU).trans (zV (aC hl1 t1))
   have hwij:IntKind.i64.wrap ((i:Int)+(b.length:Int))=((i+b.length:Nat):Int):=by rw [wrap_i64] <;> omega
   have lt6:=hk2.wf _ _ c6
   refine zW (lA hl2 u5 u6 u1 hv hwij c6 hb.lenV) ?_
   have h1:=i8 (l:=o) (k:=i+b.length) (v:=c) zO
   rw [hoz _ (TO _)] at h1
   rw [Ug (TO _)] at hoval
   refine ⟨zK,_,rfl,by simp [holen],kS holim hc,?_,fun k hk=>?_⟩
   ·rw [cW,UO]; omega
   ·rw [bo zO]
    exact hoz k zO
 ·intro T1 H1 hl1 hs1 hk1 ⟨out,b6,hlen,hlim,hval,hz⟩
  simp only [TH,hl] at hl1
  have w1:=hk1.wf
  have le_hk1:=hk1.le
  have t5:aa T1 5=.own (H.next+6) 0 N N 1 true:=(hs1.at_ 5 zU).trans (zV (aD hl g0 g1))
  rw [Ug (TO _)] at hval
  have ho:=(uP (H0:=H) (ex:=true) b6 zO hlen).sl
  refine zW (aC hl1 t5) ?_
  refine Y5 (ES C zF (ho.mono (ZB H1 _)) zO) ?_
  rintro v H2 ⟨h2,hk2⟩
  obtain ⟨k2,_,_⟩:=zT H zK hk2
  rw [eN hlim,hval] at h2
  refine zW hl1 ?_
  exact ⟨h2,zK⟩
end
theorem Ak {n m:Nat} (h:n<=m):(ai n).length<=(ai m).length:=bk (UW h (iy m))
theorem Sm.mono {n m:Nat} (h:n<=m) (hm:Sm m):Sm n:=UW (Ak h) hm
theorem mS:∀ (k n:Nat),(ai n).drop k=ai (n / B^k)
 | 0,n=>by simp
 | k+1,n=>by
  by_cases h:n=0
  ·subst h; simp [cO]
  ·rw [kI h,List.drop_succ_cons,mS k,UX,Uy,Uf B]
theorem qk:∀ (k n:Nat),val ((ai n).take k)=n % B^k
 | 0,n=>by simp [val,Nat.mod_one]
 | k+1,n=>by
  by_cases h:n=0
  ·subst h; simp [cO,val]
  ·rw [kI h,YH,val,qk k,Uy,Uf (B^k),Nat.mod_mul]
theorem E4 {n:Nat} (h:n≠0) (k:Nat):List.replicate k 0++ai n=ai (n*B^k):=by
 have hne:ai n≠[]:=fun h1=>h (limbs_nil.1 h1)
 rw [<- wT (l:=List.replicate k 0++ai n) ((Zn k).append (bC n)) ?_,pm,fK,bF,Wm,Ut,Uf]
 unfold Ly
 rw [List.getLast?_append]
 have hn:=dz n
 unfold Ly at hn
 cases hg:(ai n).getLast? with
 | none=>exact absurd (List.getLast?_eq_none_iff.1 hg) hne
 | some a=>rw [hg] at hn; simpa using hn
section
variable {tab:Nat->Option aw} {H:Heap} {s:AV}
theorem fM (H:Heap):cr H .nilSl 0:=by
 show yT cm ae H .nilSl (ai 0)
 rw [cO]; exact Zx _ _ _
theorem nR (ls:List Nat) {j:Nat} (hj:j<ls.length):(ls.take (j+1)).sum=(ls.take j).sum+ls[j]:=by
 rw [TX hj,List.sum_append]; simp only [WR,YV,Vo]
theorem xD (ls:List Nat):∀ j,(ls.take j).sum<=ls.sum:=fun j=>by
 conv=>rhs; rw [<- Yr j ls,List.sum_append]
 omega
theorem Dh (C:Code tab) (hw:Wf H) {ls:List Nat} {ty:Nat} (hs:yT (sO (bU cm) ae) ty H s (ls.map ai)) (hbig:ls.length<4611686018427387904) (hsm:Sm ls.sum) :
  Ans tab (.fn wK [s]) H fun v H'=>cr H' v ls.sum/\Kp H H':=by
 refine cU C.q167 zU fun T hl g0=>?_
 have hlen:=hs.lenV
 rw [TT] at hlen
 refine zW (aD hl g0 hlen) ?_
 refine am H [2] (fun j vs H'=>∃ v,vs=[v]/\cr H' v (ls.take j).sum) (a:=0) (N:=ls.length) rfl (by refine zW (aC hl g0) ?_; rfl) (zV (aC hl g0)) (TY _) zO (by simp only [TH,hl]; rfl) rfl (fun _ _ _ _ h=>h) zK ⟨.nilSl,by exact zV (aC hl g0),fM _⟩ ?_ ?_
 ·rintro j T1 H1 _ hj hl1 hi1 hs1 hk1 ⟨v,hv,hn⟩
  simp only [TP,TV,TR,and_true] at hv
  simp only [TH,hl] at hl1
  have w1:=hk1.wf
  have le_hk1:=hk1.le
  have t5:aa T1 5=s:=(hs1.at_ 5 zU).trans (zV (aC hl g0))
  obtain ⟨c,hcr,hld⟩:=Zt (hs.mono hk1.sub) (i:=j) (a:=ai ls[j]) (by simp [hj])
  have hix:=Zv hs .i64 j (by simpa using hj)
  have hsj:Sm (ls.take (j+1)).sum:=hsm.mono (xD ls _)
  rw [nR ls hj] at hsj
  refine zW (dV hl1 t5 hi1 hix hld hv) ?_
  refine Y5 (IC C zF (hn.mono (zG H1)) (SlV.mono (zG H1) hcr) (hsj.mono zO) (hsj.mono zO)) ?_
  rintro v2 H2 ⟨o,rfl,ho,hk2⟩
  obtain ⟨k2,_,_⟩:=zT H zK hk2
  refine zW hl1 ?_
  refine ⟨zK,o,rfl,?_⟩
  rw [nR ls hj]; exact ho
 ·rintro T1 H1 hl1 hs1 hk1 ⟨v,hv,hn⟩
  simp only [TP,TV,TR,and_true] at hv
  simp only [TH,hl] at hl1
  rw [Ug (TO _)] at hn
  refine zW (aC hl1 hv) ?_
  exact ⟨hn,hk1⟩
theorem MZ (C:Code tab) (hw:Wf H) {a:AV} {n:Nat} {ls:List Nat} {ty:Nat} (ha:cr H a n) (hs:yT (sO (bU cm) ae) ty H s (ls.map ai)) (hbig:ls.length<4611686018427387904) (hsm:Sm n) (hle:ls.sum<=n) :
  Ans tab (.fn tO [a,s]) H fun v H'=>cr H' v (n-ls.sum)/\Kp H H':=by
 refine bz C.q168 zU fun T hl g0 g1=>?_
 have hlen:=hs.lenV
 rw [TT] at hlen
 refine zW (aX hl g0 g1 hlen) ?_
 refine am H [0] (fun j vs H'=>∃ v,vs=[v]/\cr H' v (n-(ls.take j).sum)) (a:=0) (N:=ls.length) rfl (by refine zW (aD hl g0 g1) ?_; rfl) (zV (aD hl g0 g1)) (TY _) zO (by simp only [TH,hl]; rfl) rfl (fun _ _ _ _ h=>h) zK ⟨a,by exact zV (aC hl g0),ha.mono (zG H)⟩ ?_ ?_
 ·rintro j T1 H1 _ hj hl1 hi1 hs1 hk1 ⟨v,hv,hn⟩
  simp only [TP,TV,TR,and_true] at hv
  simp only [TH,hl] at hl1
  have w1:=hk1.wf
  have le_hk1:=hk1.le
  have t7:aa T1 7=s:=(hs1.at_ 7 zU).trans (zV (aX hl g0 g1 g1))
  obtain ⟨c,hcr,hld⟩:=Zt (hs.mono hk1.sub) (i:=j) (a:=ai ls[j]) (by simp [hj])
  have hix:=Zv hs .i64 j (by simpa using hj)
  have hsj:=xD ls (j+1)
  have hsj2:=nR ls hj
  refine zW (dV hl1 t7 hi1 hix hld hv) ?_
  refine Y5 (Df C zF (hn.mono (zG H1)) (SlV.mono (zG H1) hcr) (hsm.mono zO) (hsm.mono zO)) ?_
  rintro v2 H2 ⟨hk2,hr⟩
  rw [if_pos zO] at hr
  obtain ⟨o,rfl,ho⟩:=hr
  obtain ⟨k2,_,_⟩:=zT H zK hk2
  refine zW hl1 ?_
  refine ⟨zK,o,rfl,?_⟩
  rw [hsj2,<- Nat.sub_sub]; exact ho
 ·rintro T1 H1 hl1 hs1 hk1 ⟨v,hv,hn⟩
  simp only [TP,TV,TR,and_true] at hv
  simp only [TH,hl] at hl1
  rw [Ug (TO _)] at hn
  refine zW (aC hl1 hv) ?_
  exact ⟨hn.mono (ZB H1 _),zK⟩
theorem MY (C:Code tab) (hw:Wf H) {a:AV} {n k:Nat} (ha:cr H a n) (hsm:Sm n) (hk:k<4398046511104) :
  Ans tab (.fn Ad [a,.int .i64 (k:Int)]) H fun v H'=>cr H' v (n*B^k)/\Kp H H':=by
 refine bz C.q169 zU fun T hl g0 g1=>?_
 unfold Sm at hsm
 by_cases h0:n=0
 ·subst h0
  have e:lenV a=some (.int .i64 0):=by have:=ha.lenV; rwa [cO] at this
  refine zW (aX hl g0 g1 e) ?_
  rw [Xb]
  exact ⟨fM _,zK⟩
 ·have hlen:¬ ((ai n).length:Int)=0:=by have:=(bZ n).2 h0; omega
  have hmk:∀ H' id,IF H' id ae 1 8 [.int .u64 0] (.int .i64 (k:Int)) (.int .i64 (k:Int))=some (.own id 0 k k 1 true,H'.put id (.cells (aL (List.replicate k 0)) ae true)):=fun H' id =>
   (jt H' id ae 1 8 [.int .u64 0] .i64 .i64 k zO zO rfl).trans (by rw [mU])
  refine zW (dV hl g0 g1 ha.lenV hlen hmk) ?_
  have k1:Kp H ((H.up 9).put (H.next+5) (.cells (aL (List.replicate k 0)) ae true)):=zK
  have le_k1:=k1.le
  have h0':=(uP (H0:=H) (H:=(H.up 9).put (H.next+5) (.cells (aL (List.replicate k 0)) ae true)) (ex:=true) (n:=k) (aq _ _ _) zO (by simp)).sl
  have h1:SlV (bU cm) ae ((H.up 9).put (H.next+5) (.cells (aL (List.replicate k 0)) ae true)) (.own (H.next+5) 0 (List.replicate k 0).length (List.replicate k 0).length 1 true) (List.replicate k 0):=by simpa using h0'
  obtain ⟨v',H2,e1,h2,hk2,hn2,hs2,-⟩:=SlV.app (id:=H.next+7) (bytes:=8) h1 k1 (ha.mono k1.sub) zO (by show _<H.next+9; omega) (by rw [aA zO]; exact hw.fresh (b:=H.next+7) zO) (by simp; omega) (by simp; omega)
  have e1':cM ((H.up 9).put (H.next+5) (.cells (aL (List.replicate k 0)) ae true)) (H.next+7) 1 8 ae (.own (H.next+5) 0 k k 1 true) a=some (v',H2):=by rw [Wm] at e1; exact e1
  rw [E4 h0] at h2
  refine zW (aX hl g0 g1 e1') ?_
  exact ⟨h2,hk2⟩
theorem BY (C:Code tab) (hw:Wf H) {a:AV} {n k:Nat} (ha:cr H a n) (hsm:Sm n) (hk:k<4398046511104) :
  Ans tab (.fn qT [a,.int .i64 (k:Int)]) H fun v H'=>∃ p q,v=.tup [p,q]/\cr H' p (n % B^k)/\cr H' q (n / B^k)/\Kp H H':=by
 refine bz C.q166 zU fun T hl g0 g1=>?_
 unfold Sm at hsm
 obtain ⟨m,hm⟩:∃ m,m=min k (ai n).length:=⟨_,rfl⟩
 have hmin:He (.int .i64 (k:Int)) (.int .i64 ((ai n).length:Int))=some (.int .i64 (m:Int)):=by rw [yL]; congr 2; split <;> omega
 obtain ⟨p,e1,hp⟩:=SlV.clipat ha .i64 .i64 m zO
 obtain ⟨q,e2,hq⟩:=ha.lo .i64 m zO
 have e1':bI 1 a none (some (.int .i64 (m:Int))) (some (.int .i64 (m:Int)))=some p:=e1
 have e2':bI 1 a (some (.int .i64 (m:Int))) none none=some q:=e2
 have et:(ai n).take m=(ai n).take k:=by
  by_cases h:k<=(ai n).length
  ·rw [hm,UZ h]
  ·rw [hm,Xt zO,Ug (TO _),Ug zO]
 have ed:(ai n).drop m=(ai n).drop k:=by
  by_cases h:k<=(ai n).length
  ·rw [hm,UZ h]
  ·rw [hm,Xt zO,WN (TO _),WN zO]
 refine zW (bS hl g0 g1 ha.lenV hmin) ?_
 refine aI ?_
 refine zD (bS hl g0 g1 e1' e2') ?_
 refine Y5 (ES C zF (hp.mono (zG H)) (by rw [Un]; omega)) ?_
 rintro v H2 ⟨h2,hk2⟩
 obtain ⟨k2,_,_⟩:=zT H zK hk2
 rw [eN ((bC n).take m),et,qk] at h2
 rw [ed,mS] at hq
 refine zD (bS hl g0 g1 e1' e2') ?_
 exact ⟨v,q,rfl,h2,hq.mono k2.sub,k2⟩
end
section
variable {tab:Nat->Option aw} {H:Heap} {s:AV}
theorem gV (C:Code tab) (hw:Wf H) {a:AV} {n:Nat} (ha:cr H a n) (hsm:Sm n):Ans tab (.fn nz [a]) H fun v H'=>v=.int .i64 0/\Kp H H':=by
 unfold Sm at hsm
 exact (oS C hw ha zO).mono fun v H' ⟨h1,h2⟩=>⟨by rw [h1,if_neg (dz n)],h2⟩
theorem ET (C:Code tab) (hw:Wf H) {a b:AV} {x y fi:Nat} {first:List AV} (ha:cr H a x) (hb:cr H b y) (hx:Sm x) (hy:Sm y) {R:Heap->AV->Prop} (hR:∀ H' v m,R H' v->R (H'.up m) v)
  (hf:∀ H',Kp H H'->Ans tab (.fn fi (first++[a,b])) H' fun v H2=>R H2 v/\Kp H H2) :
  Ans tab (.fn oo [a,b,.fn (.func fi) first []]) H fun v H'=>∃ r,v=.tup [r,.int .i64 0]/\R H' r/\Kp H H':=by
 refine nd C.q157 zU fun T hl g0 g1 g2=>?_
 have oa:=ha.one
 have ob:=hb.one
 refine zW (aX hl g0 g1 g2) ?_
 refine cp H [14] (fun k vs H'=>∃ i:Nat,vs=[.int .i64 (i:Int)]/\i+k=2) 2 (by simp only [TH]; exact hl) rfl zK ⟨0,by refine zW (aX hl g0 g1 g2) ?_; rfl,rfl⟩ ?_
 rintro k T1 H1 hl1 hs1 hk1 ⟨i,hv,hik⟩
 simp only [TP,TV,TR,and_true] at hv
 have w1:=hk1.wf
 have le_hk1:=hk1.le
 have t13:aa T1 13=.agg [a,b]:=(hs1.at_ 13 zU).trans (zV (aD hl g0 g1))
 have t0:aa T1 0=a:=(hs1.at_ 0 zU).trans (zV (aC hl g0))
 have t1:aa T1 1=b:=(hs1.at_ 1 zU).trans (zV (bS hl g0 g1 g2 g1))
 have t2:aa T1 2=.fn (.func fi) first []:=(hs1.at_ 2 zU).trans (zV (bS hl g0 g1 g2 g2))
 match i,hik with
 | 0,hik =>
  have hv':aa T1 14=.int .i64 0:=hv
  have e:IntKind.i64.wrap (0+1)=((1:Nat):Int):=by decide
  refine zW (aD hl1 hv' t13) ?_
  refine Y4 (gV C zF (ha.mono (zG H)) hx) fun H2 hk2=>?_
  obtain ⟨k2,_,_⟩:=zT H zK hk2
  refine zW (aD hl1 hv' e) ?_
  exact ⟨zK,k-1,by omega,1,rfl,by omega⟩
 | 1,hik =>
  have hv':aa T1 14=.int .i64 1:=hv
  have e:IntKind.i64.wrap (1+1)=((2:Nat):Int):=by decide
  refine zW (aD hl1 hv' t13) ?_
  refine Y4 (gV C zF (hb.mono (zG H)) hy) fun H2 hk2=>?_
  obtain ⟨k2,_,_⟩:=zT H zK hk2
  refine zW (aD hl1 hv' e) ?_
  exact ⟨zK,k-1,by omega,2,rfl,by omega⟩
 | 2,hik =>
  have hv':aa T1 14=.int .i64 2:=hv
  refine zW (bS hl1 hv' t0 t1 t2) ?_
  refine Y5 (hf _ zK) ?_
  rintro v H2 ⟨h2,hk2⟩
  refine zW hl1 ?_
  exact ⟨v,rfl,h2,hk2⟩
 | i+3,hik=>omega
theorem SQ {H H1:Heap} {b ty t1:Nat} {α:Type} {E:fg α} {x y z:AV} {l m n:List α} (hx:SlV E t1 H x l) (hy:SlV E t1 H y m) (hz:SlV E t1 H z n) (hs:Sub H H1) (hg:H1.get b=some (.cells [x,y,z] ty true)):yT (sO E t1) ty H1 (.own b 0 3 3 1 true) [l,m,n] :=
 ⟨[x,y,z],Zr hg rfl (TO _),fun _ _ _ _ _ _ e=>by cases e; exact ⟨_,_,hg⟩,rfl,fun i a hi=>by
  match i with
  | 0=>simp at hi; subst hi; exact ⟨x,rfl,hx.mono hs⟩
  | 1=>simp at hi; subst hi; exact ⟨y,rfl,hy.mono hs⟩
  | 2=>simp at hi; subst hi; exact ⟨z,rfl,hz.mono hs⟩
  | i+3=>simp at hi⟩
theorem Ep {x m h:Nat} (hx:x<B^m) (h1:h<=m):x / B^h<B^(m-h):=by
 apply Yx
 rw [<- UR]
 have:h+(m-h)=m:=by omega
 rw [this]; exact hx
theorem Sm.of {n k:Nat} (h:n<B^k) (hk:k<1099511627776):Sm n:=UW (bk h) hk
theorem wR {n m:Nat} (h:(ai n).length<=m):n<B^m:=Ue (iy n) (Up zU h)
set_option maxHeartbeats 2000000 in
theorem M0 (C:Code tab):∀ (M:Nat) {H:Heap} {a b:AV} {x y:Nat},Wf H->cr H a x->cr H b y->max (ai x).length (ai y).length=M->M<274877906944 ->
  Ans tab (.fn il [.int .i64 8,a,b]) H fun v H'=>cr H' v (x*y)/\Kp H H':=by
 intro M
 induction M using Nat.strongRecOn with
 | _ M ih =>
 intro H a b x y hw ha hb hM hbig
 refine nd C.q156 zU fun T hl g0 g1 g2=>?_
 obtain ⟨mn,hmn⟩:∃ mn,mn=min (ai x).length (ai y).length:=⟨_,rfl⟩
 have hmin:He (.int .i64 ((ai x).length:Int)) (.int .i64 ((ai y).length:Int))=some (.int .i64 (mn:Int)):=by rw [yL]; congr 2; split <;> omega
 have hmax:Kk (.int .i64 ((ai x).length:Int)) (.int .i64 ((ai y).length:Int))=some (.int .i64 (M:Int)):=by rw [Dj]; congr 2; split <;> omega
 refine zW (gh hl g0 g1 g2 ha.lenV hb.lenV hmin) ?_
 refine iteH.split (fun h=>?_) fun h=>?_
 ·refine zW (aX hl g0 g1 g2) ?_
  refine Y5 (Ha C zF (ha.mono (zG H)) (hb.mono (zG H)) zO zO (bC x) (bC y)) ?_
  rintro v H2 ⟨h2,hk2⟩
  obtain ⟨k2,_,_⟩:=zT H zK hk2
  rw [bF,bF] at h2
  refine zW (aX hl g0 g1 g2) ?_
  exact ⟨h2,zK⟩
 ·have hM9:9<=M:=by omega
  obtain ⟨k,hk⟩:∃ k,k=(M+1) / 2:=⟨_,rfl⟩
  have hw1:IntKind.i64.wrap ((M:Int)+1)=((M+1:Nat):Int):=by rw [wrap_i64] <;> omega
  have hq:bX .quo .int (.int .i64 ((M+1:Nat):Int)) (.int .i64 2)=some (.int .i64 (k:Int)):=by
   show some (AV.int .i64 (IntKind.i64.wrap (((M+1:Nat):Int).tdiv 2)))=_
   have:((M+1:Nat):Int).tdiv 2=(k:Int):=by rw [WY zO]; omega
   rw [this,wrap_i64] <;> omega
  have hxM:x<B^M:=wR zO
  have hyM:y<B^M:=wR zO
  have hkM:M-k<=k/\k<=M/\k+1<M:=by omega
  have hx0:x % B^k<B^k:=UL _ (UF zU)
  have hy0:y % B^k<B^k:=UL _ (UF zU)
  have hx1:x / B^k<B^(M-k):=Ep hxM hkM.2.1
  have hy1:y / B^k<B^(M-k):=Ep hyM hkM.2.1
  have hpk:B^(M-k)<=B^k:=Up zU hkM.1
  have hpk1:2*B^k<=B^(k+1):=by rw [Uy,Uf]; exact V2 _ zU
  have hex:x=x / B^k*B^k+x % B^k:=(W3 x (B^k)).symm
  have hey:y=y / B^k*B^k+y % B^k:=(W3 y (B^k)).symm
  have hw2:IntKind.i64.wrap (2*(k:Int))=((2*k:Nat):Int):=by rw [wrap_i64] <;> omega
  have hsx:Sm x:=Sm.of hxM zO
  have hsy:Sm y:=Sm.of hyM zO
  have hprod:x*y<B^(M+M):=by rw [UR]; exact Yi hxM hyM
  have hsxy:Sm (x*y):=Sm.of hprod zO
  refine zW (ko hl g0 g1 g2 ha.lenV hb.lenV hmax hw1 hq) ?_
  refine Y5 (BY C zF (ha.mono (zG H)) hsx zO) ?_
  rintro v H1 ⟨p0,p1,rfl,hp0,hp1,hk1⟩
  obtain ⟨k1,_,w1⟩:=zT H zK hk1
  refine zW (aX hl g0 g1 g2) ?_
  refine Y5 (BY C zF (hb.mono (zG H)) hsy zO) ?_
  rintro v H2 ⟨q0,q1,rfl,hq0,hq1,hk2⟩
  obtain ⟨k12,_,_⟩:=zT H1 zK hk2
  have k2:Kp H H2:=k1.trans k12
  have le_k2:=k2.le
  have w2:=k2.wf
  have hp0:=hp0.mono k12.sub
  have hp1:=hp1.mono k12.sub
  generalize x % B^k=x0 at *
  generalize x / B^k=x1 at *
  generalize y % B^k=y0 at *
  generalize y / B^k=y1 at *
  have lx0:(ai x0).length<=k:=bk hx0
  have ly0:(ai y0).length<=k:=bk hy0
  have lx1:(ai x1).length<=k:=bk zO
  have ly1:(ai y1).length<=k:=bk zO
  refine zW (aX hl g0 g1 g2) ?_
  refine Y5 (ih _ zO zF (hp0.mono (zG H2)) (hq0.mono (zG H2)) rfl zO) ?_
  rintro r0 H3 ⟨hr0,hk3⟩
  obtain ⟨k23,_,w3⟩:=zT H2 zK hk3
  refine zW (aX hl g0 g1 g2) ?_
  refine Y5 (ih _ zO zF (hp1.mono (zG H2)) (hq1.mono (zG H2)) rfl zO) ?_
  rintro r1 H4 ⟨hr1,hk4⟩
  obtain ⟨k34,_,_⟩:=zT H3 zK hk4
  have k24:Kp H2 H4:=k23.trans k34
  have le_k24:=k24.le
  have w4:=k34.wf
  have hr0:=hr0.mono k34.sub
  have hp0:=hp0.mono k24.sub
  have hp1:=hp1.mono k24.sub
  have hq0:=hq0.mono k24.sub
  have hq1:=hq1.mono k24.sub
  have op0:=hp0.one
  have op1:=hp1.one
  have oq0:=hq0.one
  have oq1:=hq1.one
  have or0:=hr0.one
  have or1:=hr1.one
  refine zW (aX hl g0 g1 g2) ?_
  refine Y5 (Dh C (ls:=[x0,x1]) zF (Bu hp0 hp1 (zG H4) (by refine vV ?_; rfl)) (by simp) (Sm.of (k:=k+1) (by simp; omega) zO)) ?_
  rintro sx H5 ⟨hsx',hk5⟩
  obtain ⟨k45,_,w5⟩:=zT H4 zK hk5
  have n5:H4.next+15<=H5.next:=hk5.le
  have f4:∀ c,c<15->c≠3->H5.get (H4.next+c)=none:=fun c hc h3=>hk5.free (show _<H4.next+15 by omega) (by rw [aA zO]; exact w4.fresh (b:=H4.next+c) zO)
  have oq0':=oq0
  refine zW (aX hl g0 g1 g2) ?_
  have s5:Sub H5 (H5.put (H4.next+7) (.cells [q0,q1] aG true)):=aH (f4 7 zO zO)
  refine Y5 (Dh C (ls:=[y0,y1]) zF (Bu (hq0.mono k45.sub) (hq1.mono k45.sub) s5 (by refine vV ?_; rfl)) (by simp) (Sm.of (k:=k+1) (by simp; omega) zO)) ?_
  rintro sy H6 ⟨hsy',hk6⟩
  obtain ⟨k46,_,_⟩:=zT H4 zK hk6
  have s56:Sub H5 H6:=s5.trans hk6.sub
  have w6:=k46.wf
  have n6:H5.next<=H6.next:=hk6.le
  have f6:H6.get (H4.next+12)=none:=hk6.free (show _<H5.next by omega) (by rw [aA zO]; exact f4 12 zO zO)
  have ex0:[x0,x1].sum=x0+x1:=by simp
  have ey0:[y0,y1].sum=y0+y1:=by simp
  rw [ex0] at hsx'
  rw [ey0] at hsy'
  have lsx:(ai (x0+x1)).length<=k+1:=bk zO
  have lsy:(ai (y0+y1)).length<=k+1:=bk zO
  refine zW (aX hl g0 g1 g2) ?_
  refine Y5 (ih _ zO zF (hsx'.mono s56) hsy' rfl zO) ?_
  rintro m0 H7 ⟨hm0,hk7⟩
  have k47:Kp H4 H7:=k46.trans hk7
  have le_k47:=k47.le
  have w7:=k47.wf
  have n7:H6.next<=H7.next:=hk7.le
  have f7:H7.get (H4.next+12)=none:=hk7.free zO f6
  have om0:=hm0.one
  have hr0:=hr0.mono k47.sub
  have hr1:=hr1.mono k47.sub
  have e1:(x0+x1)*(y0+y1)=x0*y0+x1*y1+(x0*y1+x1*y0):=by grind
  have hlast:x1*y1<=x*y:=by
   rw [hex,hey]
   exact Vj (by have:=UF (n:=k) (show 0<B by decide); have:=Yj x1 this; omega) (by have:=UF (n:=k) (show 0<B by decide); have:=Yj y1 this; omega)
  have hmid:(x0+x1)*(y0+y1)<B^((k+1)+(k+1)):=by rw [UR]; exact Yi zO zO
  have hsm:Sm ((x0+x1)*(y0+y1)):=Sm.of hmid zO
  refine zW (aX hl g0 g1 g2) ?_
  have s7:Sub H7 (H7.put (H4.next+12) (.cells [r0,r1] aG true)):=aH f7
  refine Y5 (MZ C (ls:=[x0*y0,x1*y1]) zF (hm0.mono s7) (Bu hr0 hr1 s7 (by refine vV ?_; rfl)) (by simp) hsm (by simp; omega)) ?_
  rintro md H8 ⟨hmd,hk8⟩
  obtain ⟨k48,_,_⟩:=zT H4 zK hk8
  have s78:Sub H7 H8:=s7.trans hk8.sub
  have w8:=k48.wf
  have em:(x0+x1)*(y0+y1)-[x0*y0,x1*y1].sum=x0*y1+x1*y0:=by rw [e1]; simp only [WR,YV,Vo]; omega
  rw [em] at hmd
  have hr0:=hr0.mono s78
  have hr1:=hr1.mono s78
  refine zW (aX hl g0 g1 g2) ?_
  refine Y5 (MY C (k:=k) zF (hmd.mono (zG H8)) (hsm.mono zO) zO) ?_
  rintro u1 H9 ⟨hu1,hk9⟩
  obtain ⟨k89,_,w9⟩:=zT H8 zK hk9
  have n9:H8.next+11<=H9.next:=hk9.le
  have f9:H9.get (H8.next+8)=none:=hk9.free (show _<H8.next+11 by omega) (w8.fresh (b:=H8.next+8) zO)
  refine zW (bS hl g0 g1 g2 hw2) ?_
  refine Y5 (MY C (k:=2*k) zF (hr1.mono k89.sub) (hsxy.mono hlast) zO) ?_
  rintro u2 H10 ⟨hu2,hk10⟩
  have k8a:Kp H8 H10:=k89.trans hk10
  have w10:=k8a.wf
  have n10:H9.next<=H10.next:=hk10.le
  have f10:H10.get (H8.next+8)=none:=hk10.free zO f9
  have ou1:=hu1.one
  have ou2:=hu2.one
  have etot:[x0*y0,(x0*y1+x1*y0)*B^k,x1*y1*B^(2*k)].sum=x*y:=by
   have e2:B^(2*k)=B^k*B^k:=by rw [Nat.two_mul,UR]
   rw [e2]
   conv=>rhs; rw [hex,hey]
   simp only [WR,YV,Vo]
   generalize B^k=p
   grind
  refine zW (aX hl g0 g1 g2) ?_
  refine Y5 (Dh C (ls:=[x0*y0,(x0*y1+x1*y0)*B^k,x1*y1*B^(2*k)]) zF (SQ (hr0.mono k8a.sub) (hu1.mono hk10.sub) hu2 (aH f10) (by refine vV ?_; rfl)) (by simp) (by rw [etot]; exact hsxy)) ?_
  rintro v H11 ⟨hv,hk11⟩
  rw [etot] at hv
  have k8b:Kp H8 H11:=Zi zK hk11
  have kf:Kp H H11:=((k2.trans k24).trans k48).trans k8b
  refine zW (aX hl g0 g1 g2) ?_
  exact ⟨hv,kf⟩
end
section
variable {tab:Nat->Option aw} {H:Heap} {s:AV}
theorem Pj (C:Code tab) (hw:Wf H) {a b:AV} {x y:Nat} (ha:cr H a x) (hb:cr H b y) (hx:(ai x).length<274877906944) (hy:(ai y).length<274877906944) :
  Ans tab (.fn wL [a,b]) H fun v H'=>∃ r,v=.tup [r,.int .i64 0]/\cr H' r (x*y)/\Kp H H':=by
 refine bz C.q142 zU fun T hl g0 g1=>?_
 refine zW (aD hl g0 g1) ?_
 refine Y5 (ET C (R:=fun H' v=>cr H' v (x*y)) zF (ha.mono (zG H)) (hb.mono (zG H)) (by unfold Sm; omega) (by unfold Sm; omega) (fun H' v m h=>h.mono (ZB H' m)) fun H1 hk1=>?_) ?_
 ·have k1:Kp H H1:=Zi zK hk1
  refine (M0 C _ hk1.wf (ha.mono k1.sub) (hb.mono k1.sub) rfl zO).mono ?_
  rintro v H2 ⟨h2,hk2⟩
  exact ⟨h2,hk1.trans hk2⟩
 ·rintro v H2 ⟨r,rfl,hr,hk2⟩
  obtain ⟨k2,_,_⟩:=zT H zK hk2
  refine zW (aD hl g0 g1) ?_
  exact ⟨r,rfl,hr,zK⟩
theorem JA (C:Code tab) (hw:Wf H) {a b:AV} {x y:Int} (ha:IntV H a x) (hb:IntV H b y) (hx:(ai x.natAbs).length<274877906944) (hy:(ai y.natAbs).length<274877906944):Ans tab (.fn qI [a,b]) H fun v H'=>∃ r,v=.tup [r,.int .i64 0]/\IntV H' r (x*y)/\Kp H H':=by
 obtain ⟨p,rfl,hp⟩:=ha
 obtain ⟨q,rfl,hq⟩:=hb
 have op:=hp.one
 have oq:=hq.one
 refine bz C.q120 zU fun T hl g0 g1=>?_
 refine zW (aD hl g0 g1) ?_
 refine Y4 (gS C zF (E0 (x:=x) (y:=y) (H:=H) hp hq (zG H) (by refine vV ?_; rfl)) (by simp) fun z hz=>?_) fun H2 hk2=>?_
 ·simp at hz; unfold eY Sm; rcases hz with rfl | rfl <;> omega
 obtain ⟨k2,_,w2⟩:=zT H zK hk2
 have b0:=hk2.get (b:=H.next) (e:=.cells [.bool (decide (x<0)),p] ad true) (cP)
 have b1:=hk2.get (b:=H.next+1) (e:=.cells [.bool (decide (y<0)),q] ad true) (cP)
 have b2:=hk2.get (b:=H.next+2) (e:=.cells [.bool false,.nilSl] ad true) (cP)
 refine zW (bS hl g0 g1 @b0 b1) ?_
 refine Y5 (Pj C zF (hp.mono (zG H)) (hq.mono (zG H)) hx hy) ?_
 rintro v H3 ⟨r,rfl,hr,hk3⟩
 obtain ⟨k3,_,w3⟩:=zT H zK hk3
 have c0:=hk3.get (b:=H.next) b0
 have c1:=hk3.get (b:=H.next+1) b1
 have c2:=hk3.get (b:=H.next+2) b2
 refine zW (bS hl g0 g1 c0 @c1) ?_
 refine Y5 (fl C zF (hr.mono (zG H3)) _) ?_
 rintro v4 H4 ⟨rfl,hk4⟩
 obtain ⟨k4,_,_⟩:=zT H zK hk4
 have o3:=hr.one
 have d2:=hk4.get (b:=H.next+2) c2
 have lt2:=k4.wf _ _ d2
 refine zW (aX hl g0 g1 d2) ?_
 refine ⟨_,rfl,?_,zK⟩
 have hm:=oV (!(decide (x<0) == decide (y<0))) ((hr.mono (Zh (H:=H3) (Zi zK hk4))).monoT (ZC (e:=.cells [.bool (!(decide (x<0) == decide (y<0)) && decide (0<(ai (x.natAbs*y.natAbs)).length)),r] ad true) d2 zU))
 have e:(if (!(decide (x<0) == decide (y<0)))=true then -((x.natAbs*y.natAbs:Nat):Int) else ((x.natAbs*y.natAbs:Nat):Int))=x*y:=by
  rw [Int.natCast_mul]
  have ax:(x.natAbs:Int)=if x<0 then -x else x:=by split <;> omega
  have ay:(y.natAbs:Int)=if y<0 then -y else y:=by split <;> omega
  rw [ax,ay]
  by_cases h1:x<0 <;> by_cases h2:y<0 <;> simp [h1,h2,Xz,Int.mul_neg]
 rw [e] at hm
 exact hm
theorem JB (C:Code tab) (hw:Wf H) {a b:AV} {x y:Int} (ha:IntV H a x) (hb:IntV H b y) (hx:eY x) (hy:eY y):Ans tab (.fn qJ [a,b]) H fun v H'=>v=.tup [.int .i64 (iK (x-y)),.int .i64 0]/\Kp H H':=by
 obtain ⟨p,rfl,hp⟩:=ha
 obtain ⟨q,rfl,hq⟩:=hb
 have op:=hp.one
 have oq:=hq.one
 refine bz C.q155 zU fun T hl g0 g1=>?_
 refine zW (aD hl g0 g1) ?_
 refine Y5 (Jz C zF ⟨p,rfl,hp.mono (zG H)⟩ ⟨q,rfl,hq.mono (zG H)⟩ hx hy) ?_
 rintro v H2 ⟨r,rfl,⟨w,rfl,hr⟩,hk2⟩
 obtain ⟨k2,_,w2⟩:=zT H zK hk2
 have ow:=hr.one
 have n2:H.next+13<=H2.next:=hk2.le
 have f2:H2.get (H.next+10)=none:=hk2.free (show _<H.next+13 by omega) (by rw [aA zO,aA zO]; exact hw.fresh (b:=H.next+10) zO)
 refine zW (aD hl g0 g1) ?_
 have s2:Sub H2 ((H2.put (H.next+10) (.cells [.bool false,.nilSl] ad true)).put (H.next+10) (.cells [.bool (decide (x-y<0)),w] ad true)):=(aH f2).put f2 _
 refine Y4 (yW C (x:=x-y) zF ⟨w,rfl,hr.mono s2⟩) fun H3 hk3=>?_
 obtain ⟨k3,_,_⟩:=zT H zK hk3
 refine zW (aD hl g0 g1) ?_
 exact zK
theorem oH (C:Code tab) (hw:Wf H) {n:Int} (h1 : -9223372036854775808<=n) (h2:n<9223372036854775808):Ans tab (.fn tH [.int .i64 n]) H fun v H'=>IntV H' v n/\Kp H H':=by
 refine cU C.q35 zU fun T hl g0=>?_
 refine zW (aC hl g0) ?_
 have fin:∀ (H3:Heap) (k3:Kp H H3) (bb:Bool) (o:AV) (m:Nat) (z:Int),H3.get H.next=some (.cells [.bool false,.nilSl] ad true)->Lb H3 o (ai m)->(if bb then -(m:Int) else m)=z ->
   IntV (H3.put H.next (.cells [.bool (bb && decide (0<(ai m).length)),o] ad true)) (.agg [.bool (bb && decide (0<(ai m).length)),o]) z/\Kp H (H3.put H.next (.cells [.bool (bb && decide (0<(ai m).length)),o] ad true)):=by
  intro H3 k3 bb o m z d1 ho hz
  have lt1:=k3.wf _ _ d1
  refine ⟨?_,zK⟩
  rw [<- hz]
  exact oV bb (ho.monoT (ZC d1 zU))
 have key:∀ (c:Bool) (k:Nat),0<=k->True:=fun _ _ _=>trivial
 refine iteH.split (fun h=>?_) fun h=>?_
 ·have e:IntKind.u64.wrap (0-IntKind.u64.wrap n)=((n.natAbs:Nat):Int):=by rw [kU,kU]; omega
  refine zW (aD hl g0 e) ?_
  refine Y5 (GX C zF (n:=n.natAbs) (by unfold B; omega)) ?_
  rintro v H2 ⟨hn,-,hk2⟩
  obtain ⟨k2,_,w2⟩:=zT H zK hk2
  have b0:=hk2.get (b:=H.next) (e:=.cells [.bool false,.nilSl] ad true) (cP)
  have o2:=hn.one
  refine zW (aC hl g0) ?_
  refine Y5 (fl C zF (hn.mono (zG H2)) true) ?_
  rintro v3 H3 ⟨rfl,hk3⟩
  obtain ⟨k3,_,_⟩:=zT H zK hk3
  have d1:=hk3.get (b:=H.next) b0
  have:=fin H3 k3 true v n.natAbs n d1 (hn.mono (Zh (H:=H2) (Zi zK hk3))) (by simp; omega)
  simp only [Ye] at this
  refine zW (aD hl g0 d1) ?_
  exact this
 ·have e:IntKind.u64.wrap n=((n.natAbs:Nat):Int):=by rw [kU]; omega
  refine zW (aD hl g0 e) ?_
  refine Y5 (GX C zF (n:=n.natAbs) (by unfold B; omega)) ?_
  rintro v H2 ⟨hn,-,hk2⟩
  obtain ⟨k2,_,w2⟩:=zT H zK hk2
  have b0:=hk2.get (b:=H.next) (e:=.cells [.bool false,.nilSl] ad true) (cP)
  have o2:=hn.one
  refine zW (aC hl g0) ?_
  refine Y5 (fl C zF (hn.mono (zG H2)) false) ?_
  rintro v3 H3 ⟨rfl,hk3⟩
  obtain ⟨k3,_,_⟩:=zT H zK hk3
  have d1:=hk3.get (b:=H.next) b0
  have:=fin H3 k3 false v n.natAbs n d1 (hn.mono (Zh (H:=H2) (Zi zK hk3))) (by simp; omega)
  simp only [XV] at this
  refine zW (aD hl g0 d1) ?_
  exact this
end
theorem vN {a b:Nat} (ha:a<18446744073709551616) (hb:b<18446744073709551616):bX .or .int (.int .u64 (a:Int)) (.int .u64 (b:Int))=some (.int .u64 ((a ||| b:Nat):Int)):=by
 have h1:(BitVec.ofInt 64 (a:Int)).toNat=a:=by
  have:(BitVec.ofInt 64 (a:Int)).toNat=a % 2^64:=by simp
  rw [this]; omega
 have h2:(BitVec.ofInt 64 (b:Int)).toNat=b:=by
  have:(BitVec.ofInt 64 (b:Int)).toNat=b % 2^64:=by simp
  rw [this]; omega
 have e:(BitVec.ofInt 64 (a:Int) ||| BitVec.ofInt 64 (b:Int)).toNat=a ||| b:=by rw [BitVec.toNat_or,h1,h2]
 have hlt:a ||| b<2^64:=X8 zO zO
 show some (AV.int .u64 (IntKind.u64.wrap ((BitVec.ofInt 64 (a:Int) ||| BitVec.ofInt 64 (b:Int)).toNat:Nat)))=_
 rw [e,gn zO zO]
theorem FT {r:Nat} (hr:r<64) {k:IntKind}:bX .shl .int (.int .u64 1) (.int k (r:Int))=some (.int .u64 ((2^r:Nat):Int)):=by
 show lC .shl .u64 1 (r:Int)=_
 unfold lC
 rw [if_neg zO]
 have h1:Nat.min (r:Int).toNat IntKind.u64.bits=r:=by
  have:IntKind.u64.bits=64:=rfl
  rw [this,VK]; exact UZ zO
 have hlt:(2:Nat)^r<2^64:=WZ zO hr
 have e:(1:Int)*2^r=((2^r:Nat):Int):=by simp
 simp only [h1,e]
 generalize (2:Nat)^r=p at hlt ⊢
 rw [gn zO zO]
theorem Db {a b r:Nat} (ha:a<2^r):a ||| (2^r*b)=a+2^r*b:=by
 rw [Nat.or_comm,<- Nat.two_pow_add_eq_or_of_lt ha,Wu]
section
variable {tab:Nat->Option aw} {H:Heap} {s:AV}
theorem BX (C:Code tab) (hw:Wf H) {a:AV} {x k:Nat} (ha:cr H a x) (hx:Sm x) (hk:k<=65536) :
  Ans tab (.fn qS [a,.int .i64 (k:Int)]) H fun v H'=>v=.int .i64 0/\Kp H H':=by
 refine bz C.q193 zU fun T hl g0 g1=>?_
 refine zW (aD hl g0 g1) ?_
 refine Y4 (gV C zF (ha.mono (zG H)) hx) fun H2 hk2=>?_
 obtain ⟨k2,_,_⟩:=zT H zK hk2
 have e1:decide ((k:Int)<0)=false:=by simp
 have e2:decide ((65536:Int)<(k:Int))=false:=by simp; omega
 refine zW (bS hl g0 g1 e1 e2) ?_
 exact zK
theorem MJ {k c:Nat} (hc:0<c) (hk:k<4611686018427387904):bX .quo .int (.int .i64 (k:Int)) (.int .i64 (c:Int))=some (.int .i64 ((k / c:Nat):Int)):=by
 show (if (c:Int)=0 then none else some (AV.int .i64 (IntKind.i64.wrap ((k:Int).tdiv (c:Int)))))=_
 have hle:k / c<=k:=Wj _ _
 rw [if_neg zO,WY zO,<- Int.natCast_ediv]
 generalize k / c=d at hle ⊢
 rw [wrap_i64 zO zO]
theorem MH {k c:Nat} (hc:0<c):bX .rem .int (.int .i64 (k:Int)) (.int .i64 (c:Int))=some (.int .i64 ((k % c:Nat):Int)):=by
 show (if (c:Int)=0 then none else some (AV.int .i64 ((k:Int).tmod (c:Int))))=_
 rw [if_neg zO,XW zO,<- Int.natCast_emod]
theorem Gz {x r:Nat} (hr:r<64):x*2^r % B=2^r*(x % 2^(64-r)):=by
 have hB:B=2^r*2^(64-r):=by
  rw [<- UR]; have:r+(64-r)=64:=by omega
  rw [this]
 rw [hB,Uf x,Yz]
theorem QX {x r:Nat} (hx:x<B):x*2^r / B<2^r:=by
 rw [Uk zU,Uf]
 exact Nat.mul_lt_mul_of_pos_left hx (UF zU)
theorem rQ (l:List Nat):∃ E,l=eR l++E:=by
 refine ⟨(l.reverse.takeWhile (· == 0)).reverse,?_⟩
 have h:=List.takeWhile_append_dropWhile (p:=(· == 0)) (l:=l.reverse)
 have h2:=congrArg List.reverse h
 rw [List.reverse_append,List.reverse_reverse] at h2
 exact h2.symm
theorem ML (b off n c sz:Nat) (x:Bool) (k j:IntKind) (hnc:n<=c):bI sz (.own b off n c sz x) none (some (.int k (n:Int))) (some (.int j (n:Int)))=some (.own b off n n sz true):=by
 show bJ sz (.own b off n c sz x) none (some (.int k (n:Int))) (some (.int j (n:Int)))=_
 simp only [bJ,fH,ne_eq,not_true_eq_false,if_false,TK,Vc,VD,Vy]
 rw [if_pos ⟨hnc,TO _,TY _⟩]
 split
 ·rename_i h; subst h; rfl
 ·simp
theorem GQ (b off n c sz m:Nat) (x:Bool) (k:IntKind) (h:m<=c):bI sz (.own b off n c sz x) none (some (.int k (m:Int))) none=some (.own b off m c sz x):=by
 show bJ sz (.own b off n c sz x) none (some (.int k (m:Int))) none=_
 simp only [bJ,fH,ne_eq,not_true_eq_false,if_false,TK,Vc,VD,Vw,Vy,Vm]
 rw [if_pos ⟨h,TY _⟩]
 simp
theorem HP {H:Heap} {cells:List AV} {l:List Nat} (h:Cells (bU cm) H cells l):cells=aL l:=by
 have hl:cells.length=l.length:=by have:=h.1; simpa [bU] using this
 apply Vp
 intro i
 by_cases hi:i<l.length
 ·obtain ⟨v,e,rfl⟩:=h.2 i _ (TL hi)
  have e1:cells[i]? = some (.int .u64 (l[i]:Nat)):=by
   have:=congrArg (fun x=>x[0]?) e
   simpa [bU,Uh] using this
  rw [e1]
  simp [aL,hi]
 ·rw [Uw zO,Uw (by rw [oW]; omega)]
theorem wt (C:Code tab) (hw:Wf H) {l:List Nat} (hs:Lb H s l) (hbig:l.length<1099511627776):Ans tab (.fn cu [s]) H fun v H'=>Lb H' v l/\Kp H H'/\(0<l.length->∃ b,v=.own b 0 l.length l.length 1 false/\H'.get b=some (.cells (aL l) ae true)/\H.next<=b):=by
 refine cU C.q154 zU fun T hl g0=>?_
 rcases hs.nilcase with ⟨rfl,rfl⟩ | hne
 ·have e:bX .eql .sl .nilSl .nilSl=some (.bool true):=rfl
  refine zW (aD hl g0 e) ?_
  exact ⟨Zx _ _ _,zK,fun h=>by simp at h⟩
 ·have ef:cV ([]:List AV) []=some []:=rfl
  refine zW (aX hl g0 hne ef) ?_
  have k1:Kp H ((H.up 7).put (H.next+3) (.cells [] ae true)):=zK
  have le_k1:=k1.le
  have h0:SlV (bU cm) ae ((H.up 7).put (H.next+3) (.cells [] ae true)) (.own (H.next+3) 0 0 0 1 true) ([]:List Nat) :=
   (show Own (bU cm) ae H _ (H.next+3) true _ [] from ⟨_,rfl,aq _ _ _,Y9 _ _,by omega⟩).sl
  obtain ⟨v',H2,e1,h2,hk2,hn2,hs2,ho⟩:=SlV.app (l:=[]) (id:=H.next+5) (bytes:=8) h0 k1 (hs.mono k1.sub) zO (by show _<H.next+7; omega) (by rw [aA zO]; exact hw.fresh (b:=H.next+5) zO) (by simp; omega) (by simp; omega)
  have e1':cM ((H.up 7).put (H.next+3) (.cells [] ae true)) (H.next+5) 1 8 ae (.own (H.next+3) 0 0 0 1 true) s=some (v',H2):=e1
  refine zW (aD hl g0 e1') ?_
  refine ⟨h2,hk2,fun h=>?_⟩
  obtain ⟨cells,q1,q2,q3,q4⟩:=ho h
  rw [V6] at q1 q3
  rw [HP q3] at q2
  exact ⟨_,q1,q2,q4⟩
theorem iD (C:Code tab) (hw:Wf H) {b n c:Nat} {x:Bool} (hnc:n<=c):Ans tab (.fn cy [.own b 0 n c 1 x]) H fun v H'=>v=.own b 0 n n 1 true/\Kp H H':=by
 refine cU C.q107 zU fun T hl g0=>?_
 have e:=ML b 0 n c 1 x .i64 .i64 hnc
 refine zW (aD hl g0 e) ?_
 exact zK
theorem De (C:Code tab) (hw:Wf H) {l:List Nat} {b N:Nat} {rw' x:Bool} (hN:l.length=N) (hb:H.get b=some (.cells (aL l) ae rw')) (hbig:N<4611686018427387904) :
  Ans tab (.fn pE [.own b 0 N N 1 x]) H fun v H'=>v=.own b 0 (eR l).length (eR l).length 1 true/\Kp H H':=by
 refine cU C.q78 zU fun T hl g0=>?_
 refine zW (aC hl g0) ?_
 refine cp H [0] (fun k vs H'=>vs=[.own b 0 k N 1 x]/\eR (l.take k)=eR l/\k<=l.length) l.length (by simp only [TH]; exact hl) rfl zK ⟨by exact zV (aD hl g0 hN),by rw [Ur],TO _⟩ ?_
 rintro k T1 H1 hl1 hs1 hk1 ⟨hv,ht,hk⟩
 have w1:=hk1.wf
 have le_hk1:=hk1.le
 have b1:=hk1.get hb
 simp only [TP,TV,TR,and_true] at hv
 rcases VM (l.take k) with h0 | ⟨l',a,h0⟩
 ·have hk0:k=0:=by
   have:=congrArg List.length h0; simp at this
   rcases this with h | h
   ·exact h
   ·subst h; simpa using hk
  subst hk0
  refine zW (aD hl1 hv @NK) ?_
  refine Y4 (iD C zF (TY _)) fun H2 h2=>?_
  have k2:Kp H H2:=Zi zK h2
  have le_k2:=k2.le
  rw [<- ht,h0,wm]
  refine zW hl1 ?_
  exact zK
 ·rw [VN] at h0
  have hk1':k=l'.length+1:=by have:=congrArg List.length h0; simp at this; omega
  subst hk1'
  have hl':l.take l'.length=l':=by
   have:=congrArg (List.take l'.length) h0
   rw [VY,UZ zO] at this
   simpa using this
  have hga:l.getD l'.length 0=a:=by
   have this:(l.take (l'.length+1)).getD l'.length 0=(l'++[a]).getD l'.length 0:=by rw [h0]
   rw [TI,Uh,if_pos zO,<- TI] at this
   rw [this]; simp [TI]
  have hwr:IntKind.i64.wrap (((l'.length+1:Nat):Int)-1)=(l'.length:Int):=by rw [wrap_i64] <;> omega
  have hpos:0<l'.length+1:=by omega
  have e':=GQ b 0 (l'.length+1) N 1 l'.length x .i64 zO
  refine zW (dV hl1 hv hpos hwr b1 hga) ?_
  refine iteH.split (fun ha=>?_) fun ha=>?_
  ·have ha0:a=0:=by omega
   subst ha0
   refine zW (aX hl1 hv hwr e') ?_
   refine ⟨zK,l'.length,by omega,rfl,?_,by omega⟩
   rw [hl',<- ht,h0,eC]
  ·have ha':a≠0:=by omega
   refine zW (aC hl1 hv) ?_
   refine Y4 (iD C zF zO) fun H2 h2=>?_
   have k2:Kp H H2:=Zi zK h2
   have le_k2:=k2.le
   rw [<- ht,h0,jc ha']
   refine zW (aC hl1 @List.length_append.{0}) ?_
   exact zK
theorem MW (C:Code tab) (hw:Wf H) {a:AV} {x k:Nat} (ha:cr H a x) (hx:Sm x) (hk:k<=65536) :
  Ans tab (.fn Ab [a,.int .i64 (k:Int)]) H fun v H'=>∃ o,v=.tup [o,.int .i64 0]/\cr H' o (x*2^k)/\Kp H H'/\∃ b E,o=.own b 0 (ai (x*2^k)).length (ai (x*2^k)).length 1 true/\H'.get b=some (.cells (aL (ai (x*2^k)++E)) ae true)/\H.next<=b/\(ai (x*2^k)++E).length=k / 64+(ai x).length+1/\Lim (ai (x*2^k)++E):=by
 refine bz C.q183 zU fun T hl g0 g1=>?_
 refine zW (aD hl g0 g1) ?_
 refine Y4 (BX C zF (ha.mono (zG H)) hx hk) fun H2 hk2=>?_
 obtain ⟨k2,_,w2⟩:=zT H zK hk2
 have n2:=k2.le
 unfold Sm at hx
 have hq:=MJ (k:=k) (c:=64) zO zO
 have hr:=MH (k:=k) (c:=64) zO
 obtain ⟨q,eq⟩:∃ q,q=k / 64:=⟨_,rfl⟩
 obtain ⟨r,er⟩:∃ r,r=k % 64:=⟨_,rfl⟩
 rw [<- eq] at hq
 rw [<- er] at hr
 have hq':bX .quo .int (.int .i64 (k:Int)) (.int .i64 64)=some (.int .i64 (q:Int)):=hq
 have hr':bX .rem .int (.int .i64 (k:Int)) (.int .i64 64)=some (.int .i64 (r:Int)):=hr
 have hw1:IntKind.i64.wrap ((q:Int)+((ai x).length:Int))=((q+(ai x).length:Nat):Int):=by rw [wrap_i64] <;> omega
 obtain ⟨N,hN⟩:∃ N,q+(ai x).length+1=N:=⟨_,rfl⟩
 have hw2:IntKind.i64.wrap (((q+(ai x).length:Nat):Int)+1)=(N:Int):=by rw [wrap_i64] <;> omega
 have hmk:∀ H' id,IF H' id ae 1 8 [.int .u64 0] (.int .i64 (N:Int)) (.int .i64 (N:Int))=some (.own id 0 N N 1 true,H'.put id (.cells (aL (List.replicate N 0)) ae true)):=fun H' id =>
  (jt H' id ae 1 8 [.int .u64 0] .i64 .i64 N zO zO rfl).trans (by rw [mU])
 refine zW (lA hl g0 g1 ha.lenV hq' hw1 hw2 hmk) ?_
 have hr64:r<64:=by omega
 have hkqr:k=64*q+r:=by omega
 have hz0:∀ j,(List.replicate N 0).getD j 0=0:=fun j=>by simp [TI,U4]; split <;> rfl
 refine am H [] (fun i vs H'=>∃ out,H'.get (H2.next+8)=some (.cells (aL out) ae true)/\out.length=N/\Lim out/\val out=B^q*2^r*val ((ai x).take i)/\out.getD (q+i) 0<2^r/\∀ j,q+i<j->out.getD j 0=0) (a:=0) (N:=(ai x).length) rfl (by refine zW (aD hl g0 g1) ?_; rfl) (zV (aD hl g0 g1)) (TY _) zO (by simp only [TH,hl]; rfl) rfl (fun _ _ _ _ h=>h) zK
  ⟨List.replicate N 0,by exact cP,by simp,Zn N,by rw [fK]; simp [val],by rw [hz0]; exact UF zU,fun j _=>hz0 j⟩ ?_ ?_
 ·rintro i T1 H1 _ hi hl1 hi1 hs1 hk1 ⟨out,b6,hlen,hlim,hval,hlow,hz⟩
  simp only [TH,hl] at hl1
  have w1:=hk1.wf
  have le_hk1:=hk1.le
  have t7:aa T1 7=.own (H2.next+8) 0 N N 1 true:=(hs1.at_ 7 zU).trans (zV (aD hl g0 g1))
  have t1:aa T1 1=.int .i64 (k:Int):=(hs1.at_ 1 zU).trans (zV (aX hl g0 g1 g1))
  have t25:aa T1 25=a:=(hs1.at_ 25 zU).trans (zV (aC hl g0))
  have hix:=Zv ha .i64 i hi
  have hld:=fD (ha.mono hk1.sub) hi
  have hxB:=(bC x).at i
  have h2r:2^r<B:=by unfold B; exact WZ (m:=r) (n:=64) zO hr64
  have hs:=FT hr64 (k:=.i64)
  refine zW (ko hl1 t7 t1 t25 hi1 hix hld hr' hs) ?_
  refine Y5 (pT C zF hxB h2r) ?_
  rintro v H3 ⟨rfl,hk3⟩
  obtain ⟨k3,_,w3⟩:=zT H zK hk3
  have d6:=hk3.get (b:=H2.next+8) b6
  have lt6:=k3.wf _ _ d6
  have hwi:IntKind.i64.wrap ((q:Int)+(i:Int))=((q+i:Nat):Int):=by rw [wrap_i64] <;> omega
  have hwi1:IntKind.i64.wrap (((q+i:Nat):Int)+1)=((q+i+1:Nat):Int):=by rw [wrap_i64] <;> omega
  have hor:=vN (a:=out.getD (q+i) 0) (b:=(ai x).getD i 0*2^r % B) (hlim.at _) (UL _ zU)
  rw [Gz hr64,Db hlow] at hor
  rw [Gz hr64]
  refine zW (qi hl1 t7 t1 t25 hi1 hq' hwi hwi1 d6 hor) ?_
  have hlo:=Gz (x:=(ai x).getD i 0) hr64
  have hhi:=QX (r:=r) hxB
  have hdm:=U2 ((ai x).getD i 0*2^r) B
  have hloB:out.getD (q+i) 0+(ai x).getD i 0*2^r % B<B:=by
   rw [hlo]
   have e1:out.getD (q+i) 0 ||| 2^r*((ai x).getD i 0 % 2^(64-r))<2^64:=X8 (hlim.at _) (by rw [<- hlo]; exact UL _ zU)
   rw [Db hlow] at e1; exact e1
  rw [hlo] at hdm hloB
  generalize (ai x).getD i 0*2^r / B=hi' at *
  have h1:=i8 (l:=out) (k:=q+i) (v:=out.getD (q+i) 0+2^r*((ai x).getD i 0 % 2^(64-r))) zO
  have h2:=i8 (l:=out.set (q+i) (out.getD (q+i) 0+2^r*((ai x).getD i 0 % 2^(64-r)))) (k:=q+i+1) (v:=hi') (by simp; omega)
  rw [bo zO,hz (q+i+1) zO] at h2
  refine ⟨zK,_,rfl,by simp [hlen],kS (kS hlim hloB) (XK hhi h2r),?_,?_,fun j hj=>?_⟩
  ·rw [cW,UQ,<- hval]
   have h3:B^q*2^r*(B^i*(ai x).getD i 0)=B^(q+i)*((ai x).getD i 0*2^r):=by rw [UR]; grind
   rw [h3,<- hdm,UQ]
   have h4:B^(q+i+1)*hi'=B^(q+i)*(B*hi'):=by rw [Uy,UD]
   rw [UQ] at h1
   rw [h4] at h2
   have eqi:q+(i+1)=q+i+1:=by omega
   rw [eqi]
   omega
  ·have:(((out.set (q+i) (out.getD (q+i) 0+2^r*((ai x).getD i 0 % 2^(64-r)))).set (q+(i+1)) hi').getD (q+(i+1)) 0)=hi':=by
    rw [TI,VZ,if_pos rfl,if_pos (by simp; omega)]; rfl
   rw [this]; exact hhi
  ·rw [bo zO,bo zO]
   exact hz j zO
 ·rintro T1 H1 hl1 hs1 hk1 ⟨out,b6,hlen,hlim,hval,-,-⟩
  simp only [TH,hl] at hl1
  have w1:=hk1.wf
  have le_hk1:=hk1.le
  have t7:aa T1 7=.own (H2.next+8) 0 N N 1 true:=(hs1.at_ 7 zU).trans (zV (aD hl g0 g1))
  rw [Ug (TO _),bF] at hval
  refine zW (aC hl1 t7) ?_
  refine Y4 (De C zF (rw':=true) hlen (zV @b6) zO) fun H4 hk4=>?_
  obtain ⟨k4,_,_⟩:=zT H zK hk4
  have b4:=hk4.get (b:=H2.next+8) (e:=.cells (aL out) ae true) (zV @b6)
  have e:val out=x*2^k:=by
   rw [hval,hkqr,UR,Xa]
   have:(2:Nat)^64=B:=by decide
   rw [this,Uf]
  have et:=eN hlim
  rw [e] at et
  obtain ⟨E,hE⟩:=rQ out
  rw [et] at hE
  have h4:cr H4 (.own (H2.next+8) 0 (ai (x*2^k)).length (ai (x*2^k)).length 1 true) (x*2^k):=by
   refine ⟨aL (ai (x*2^k)),⟨TO _,(fun s h=>by cases h),_,rfl,?_⟩,fun _ _ _ _ _ _ e=>by cases e; exact ⟨_,_,b4⟩,tV _ _⟩
   simp only [aM,b4]
   rw [if_pos ⟨rfl,TO _,by rw [oW,hE]; simp [bU]⟩]
   rw [hE]
   simp [aL,bU]
  rw [et]
  refine zW hl1 ?_
  exact ⟨_,rfl,h4,zK,_,E,rfl,by rw [b4,hE],by omega,by rw [<- hE,hlen,<- hN,eq,US],by rw [<- hE]; exact hlim⟩
end
section
variable {tab:Nat->Option aw} {H:Heap} {s:AV} {l:List Nat}
theorem pP (C:Code tab) (hw:Wf H) {l:List Nat} {b N:Nat} {rw' x:Bool} (hN:l.length=N) (hb:H.get b=some (.cells (aL l) ae rw')) (hbig:N<4611686018427387904) :
  Ans tab (.fn tP [.own b 0 N N 1 x]) H fun v H'=>v=.own b 0 (eR l).length (eR l).length 1 true/\Kp H H':=by
 refine cU C.q187 zU fun T hl g0=>?_
 refine zW (aC hl g0) ?_
 refine cp H [0] (fun k vs H'=>vs=[.own b 0 k N 1 x]/\eR (l.take k)=eR l/\k<=l.length) l.length (by simp only [TH]; exact hl) rfl zK ⟨by exact zV (aD hl g0 hN),by rw [Ur],TO _⟩ ?_
 rintro k T1 H1 hl1 hs1 hk1 ⟨hv,ht,hk⟩
 have w1:=hk1.wf
 have le_hk1:=hk1.le
 have b1:=hk1.get hb
 simp only [TP,TV,TR,and_true] at hv
 rcases VM (l.take k) with h0 | ⟨l',a,h0⟩
 ·have hk0:k=0:=by
   have:=congrArg List.length h0; simp at this
   rcases this with h | h
   ·exact h
   ·subst h; simpa using hk
  subst hk0
  refine zW (aD hl1 hv @NK) ?_
  refine Y4 (iD C zF (TY _)) fun H2 h2=>?_
  have k2:Kp H H2:=Zi zK h2
  have le_k2:=k2.le
  rw [<- ht,h0,wm]
  refine zW hl1 ?_
  exact zK
 ·rw [VN] at h0
  have hk1':k=l'.length+1:=by have:=congrArg List.length h0; simp at this; omega
  subst hk1'
  have hl':l.take l'.length=l':=by
   have:=congrArg (List.take l'.length) h0
   rw [VY,UZ zO] at this
   simpa using this
  have hga:l.getD l'.length 0=a:=by
   have this:(l.take (l'.length+1)).getD l'.length 0=(l'++[a]).getD l'.length 0:=by rw [h0]
   rw [TI,Uh,if_pos zO,<- TI] at this
   rw [this]; simp [TI]
  have hwr:IntKind.i64.wrap (((l'.length+1:Nat):Int)-1)=(l'.length:Int):=by rw [wrap_i64] <;> omega
  have hpos:0<l'.length+1:=by omega
  have e':=GQ b 0 (l'.length+1) N 1 l'.length x .i64 zO
  refine zW (dV hl1 hv hpos hwr b1 hga) ?_
  refine iteH.split (fun ha=>?_) fun ha=>?_
  ·have ha0:a=0:=by omega
   subst ha0
   refine zW (aX hl1 hv hwr e') ?_
   refine ⟨zK,l'.length,by omega,rfl,?_,by omega⟩
   rw [hl',<- ht,h0,eC]
  ·have ha':a≠0:=by omega
   refine zW (aC hl1 hv) ?_
   refine Y4 (iD C zF zO) fun H2 h2=>?_
   have k2:Kp H H2:=Zi zK h2
   have le_k2:=k2.le
   rw [<- ht,h0,jc ha']
   refine zW (aC hl1 @List.length_append.{0}) ?_
   exact zK
theorem Da {H:Heap} {b:Nat} {l E:List Nat} {rw' x:Bool} (hb:H.get b=some (.cells (aL (l++E)) ae rw')):Lb H (.own b 0 l.length l.length 1 x) l:=by
 refine ⟨aL l,⟨TO _,(fun s h=>by cases h),_,rfl,?_⟩,fun _ _ _ _ _ _ e=>by cases e; exact ⟨_,_,hb⟩,tV _ _⟩
 simp only [aM,hb]
 rw [if_pos ⟨rfl,TO _,by rw [oW]; simp [bU]⟩]
 simp [aL,bU]
theorem Aw (C:Code tab) (hw:Wf H) {ls:List (List Nat)} {ty:Nat} (hs:yT (sO (bU cm) ae) ty H s ls) (hbig:ls.length<4611686018427387904) (hc:∀ c∈ls,c.length<4611686018427387904/\c.getLast? ≠ some 0) :
  Ans tab (.fn oA [s]) H fun v H'=>v=.int .i64 0/\Kp H H':=by
 refine cU C.q174 zU fun T hl g0=>?_
 refine zW (aD hl g0 hs.lenV) ?_
 refine am H [] (fun _ _ _=>True) (a:=0) (N:=ls.length) rfl (by refine zW (aC hl g0) ?_; rfl) (zV (aC hl g0)) (TY _) zO (by simp only [TH,hl]; rfl) rfl (fun _ _ _ _ h=>h) zK trivial ?_ ?_
 ·intro j T1 H1 _ hj hl1 hi1 hs1 hk1 _
  have w1:=hk1.wf
  have le_hk1:=hk1.le
  have t6:aa T1 6=s:=(hs1.at_ 6 zU).trans (zV (aC hl g0))
  obtain ⟨c,hcr,hld⟩:=Zt (hs.mono hk1.sub) (TL hj)
  have hix:=Zv hs .i64 j hj
  have hcc:=hc _ (TM hj)
  simp only [TH,hl] at hl1
  refine zW (bS hl1 t6 hi1 hix hld) ?_
  refine Y4 (oS C zF hcr hcc.1) fun H2 h2=>?_
  rw [if_neg hcc.2]
  refine zW hl1 ?_
  have k2:Kp H H2:=Zi zK h2
  have le_k2:=k2.le
  exact zK
 ·intro T1 H1 hl1 hs1 hk1 _
  simp only [TH,hl] at hl1
  refine zW hl1 ?_
  exact zK
end
def RN (v i:AV):Option AV:=aN (fun s=>match s with | .t 0=>v | _=>i) (.indexStr (.t 0) (.t 1))
theorem cX {tab:Nat->Option aw} (ev:Src->AV) (H:Heap) (id:Nat) (Q:AV->Heap->Prop) (x i:Src):mA tab ev H id (.indexStr x i) Q=gw (RN (ev x) (ev i)) (fun v=>Q v H) ():=by
 rw [bY,dR tab ev H id Q (o:=.indexStr x i) (v:=RN (ev x) (ev i)) (fun f a e=>by cases e) (by simp only [aN,RN]) rfl]; rfl
theorem P2 {a b:Nat} (ha:a<18446744073709551616) (hb:0<b):bX .quo .int (.int .u64 (a:Int)) (.int .u64 (b:Int))=some (.int .u64 ((a / b:Nat):Int)):=by
 show (if (b:Int)=0 then none else some (AV.int .u64 (IntKind.u64.wrap ((a:Int).tdiv (b:Int)))))=_
 have hle:a / b<=a:=Wj _ _
 rw [if_neg zO,WY zO,<- Int.natCast_ediv]
 generalize a / b=d at hle ⊢
 rw [gn zO zO]
theorem R6 {a b:Nat} (hb:0<b):bX .rem .int (.int .u64 (a:Int)) (.int .u64 (b:Int))=some (.int .u64 ((a % b:Nat):Int)):=by
 show (if (b:Int)=0 then none else some (AV.int .u64 ((a:Int).tmod (b:Int))))=_
 rw [if_neg zO,XW zO,<- Int.natCast_emod]
theorem sB {x r:Nat} (hr:r<=64) {k:IntKind}:bX .shl .int (.int .u64 (x:Int)) (.int k (r:Int))=some (.int .u64 ((x*2^r % B:Nat):Int)):=by
 show lC .shl .u64 (x:Int) (r:Int)=_
 unfold lC
 rw [if_neg zO]
 have h1:Nat.min (r:Int).toNat IntKind.u64.bits=r:=by
  have:IntKind.u64.bits=64:=rfl
  rw [this,VK]; exact UZ hr
 have e:(x:Int)*2^r=((x*2^r:Nat):Int):=by simp
 simp only [h1,e]
 rw [kU]
 rfl
theorem Be {a b:Nat} (hb:b<=64) {k:IntKind}:bX .shr .int (.int .u64 (a:Int)) (.int k (b:Int))=some (.int .u64 ((a / 2^b:Nat):Int)):=by
 show lC .shr .u64 (a:Int) (b:Int)=_
 unfold lC
 rw [if_neg zO]
 have h1:Nat.min (b:Int).toNat IntKind.u64.bits=b:=by
  have:IntKind.u64.bits=64:=rfl
  rw [this,VK]; exact UZ hb
 simp only [h1]
 congr 2
 rw [XT _ (VF (Int.pow_pos zO))]
 simp
theorem qw (a:Nat):bX .shr .int (.int .u64 (a:Int)) (.int .u64 16)=some (.int .u64 ((a / 65536:Nat):Int)):=sA a 16 zO
theorem zw (a:Nat):bX .shr .int (.int .u64 (a:Int)) (.int .u64 8)=some (.int .u64 ((a / 256:Nat):Int)):=sA a 8 zO
def Sf:AV:=.str ⟨#[0,1,2,2,3,3,3,3,4,4,4,4,4,4,4,4,5,5,5,5,5,5,5,5,5,5,5,5,5,5,5,5,6,6,6,6,6,6,6,6,6,6,6,6,6,6,6,6,6,6,6,6,6,6,6,6,6,6,6,6,6,6,6,6,7,7,7,7,7,7,7,7,7,7,7,7,7,7,7,7,7,7,7,7,7,7,7,7,7,7,7,7,7,7,7,7,7,7,7,7,7,7,7,7,7,7,7,7,7,7,7,7,7,7,7,7,7,7,7,7,7,7,7,7,7,7,7,7,8,8,8,8,8,8,8,8,8,8,8,8,8,8,8,8,8,8,8,8,8,8,8,8,8,8,8,8,8,8,8,8,8,8,8,8,8,8,8,8,8,8,8,8,8,8,8,8,8,8,8,8,8,8,8,8,8,8,8,8,8,8,8,8,8,8,8,8,8,8,8,8,8,8,8,8,8,8,8,8,8,8,8,8,8,8,8,8,8,8,8,8,8,8,8,8,8,8,8,8,8,8,8,8,8,8,8,8,8,8,8,8,8,8,8,8,8,8,8,8,8,8,8,8,8,8,8,8]⟩
def Nd (x:Nat):Bool:=match RN Sf (.int .u8 (x:Int)) with
 | some (.int .u8 z)=>decide (0<=z/\z.toNat<=8/\x<2^z.toNat/\(x=0\/(1<=z.toNat/\2^(z.toNat-1)<=x)))
 | _=>false
theorem Nf:(List.range 256).all Nd=true:=by kernel_rfl
theorem Kv {x:Nat} (hx:x<256):∃ L:Nat,RN Sf (.int .u8 (x:Int))=some (.int .u8 (L:Int))/\L<=8/\x<2^L/\(x=0\/(1<=L/\2^(L-1)<=x)):=by
 have h:=Uj.1 Nf x (U6.2 hx)
 unfold Nd at h
 split at h
 ·rename_i z e
  simp only [decide_eq_true_eq] at h
  obtain ⟨h0,h1,h2,h3⟩:=h
  refine ⟨z.toNat,?_,h1,h2,h3⟩
  rw [e,YI h0]
 ·cases h
theorem Nc {w k L x:Nat} (hx:w / 2^k=x) (h1:x<2^L) (h2:1<=L) (h3:2^(L-1)<=x):w<2^(k+L)/\2^(k+L-1)<=w:=by
 subst hx
 refine ⟨?_,?_⟩
 ·have:=(Uk (UF zU)).1 h1
  rw [UR,Uf]; exact this
 ·have:=(Xp (UF zU)).1 h3
  have e:k+L-1=(L-1)+k:=by omega
  rw [e,UR]; exact this
section
variable {tab:Nat->Option aw} {H:Heap} {s:AV} {l:List Nat}
set_option maxRecDepth 20000 in
theorem HU (C:Code tab) (hw:Wf H) {w:Nat} (h0:0<w) (hB:w<18446744073709551616) :
  Ans tab (.fn ji [.int .u64 (w:Int)]) H fun v H'=>(∃ L:Nat,v=.int .i64 (L:Int)/\1<=L/\L<=64/\w<2^L/\2^(L-1)<=w)/\Kp H H':=by
 refine cU C.q192 zU fun T hl g0=>?_
 have fin:∀ (k x:Nat),x<256->k<=56->w / 2^k=x->0<x->∃ L:Nat,RN (.str ⟨#[0,1,2,2,3,3,3,3,4,4,4,4,4,4,4,4,5,5,5,5,5,5,5,5,5,5,5,5,5,5,5,5,6,6,6,6,6,6,6,6,6,6,6,6,6,6,6,6,6,6,6,6,6,6,6,6,6,6,6,6,6,6,6,6,7,7,7,7,7,7,7,7,7,7,7,7,7,7,7,7,7,7,7,7,7,7,7,7,7,7,7,7,7,7,7,7,7,7,7,7,7,7,7,7,7,7,7,7,7,7,7,7,7,7,7,7,7,7,7,7,7,7,7,7,7,7,7,7,8,8,8,8,8,8,8,8,8,8,8,8,8,8,8,8,8,8,8,8,8,8,8,8,8,8,8,8,8,8,8,8,8,8,8,8,8,8,8,8,8,8,8,8,8,8,8,8,8,8,8,8,8,8,8,8,8,8,8,8,8,8,8,8,8,8,8,8,8,8,8,8,8,8,8,8,8,8,8,8,8,8,8,8,8,8,8,8,8,8,8,8,8,8,8,8,8,8,8,8,8,8,8,8,8,8,8,8,8,8,8,8,8,8,8,8,8,8,8,8,8,8,8,8,8,8,8,8]⟩) (.int .u8 (IntKind.u8.wrap (x:Int)))=some (.int .u8 (L:Int))/\IntKind.i64.wrap (L:Int)=(L:Int)/\IntKind.i64.wrap ((k:Int)+(L:Int))=((k+L:Nat):Int)/\1<=k+L/\k+L<=64/\w<2^(k+L)/\2^(k+L-1)<=w:=by
  intro k x hx hk he hpos
  obtain ⟨L,e1,e2,e3,e4⟩:=Kv hx
  obtain ⟨h1,h2⟩:=e4.resolve_left zO
  have e5:IntKind.u8.wrap (x:Int)=(x:Int):=by
   show (x:Int) % 256=x
   omega
  obtain ⟨h3,h4⟩:=Nc he e3 h1 h2
  refine ⟨L,by rw [e5]; exact e1,by rw [wrap_i64] <;> omega,by rw [wrap_i64] <;> omega,by omega,by omega,h3,h4⟩
 have wk:∀ n:Nat,n<100->IntKind.i64.wrap (n:Int)=(n:Int):=fun n hn=>by rw [wrap_i64] <;> omega
 simp -dsimp (maxSteps:=1000000) (disch:=(first | omega | assumption | exact aR _ | exact bj _ _ | exact br | exact cz _ _ _ | exact bD _ _ | exact bp _ _ _ _ _ _ | exact cI _ _ | exact bE _)) only [↓ut,ur,Nat.reduceLT,Nat.reduceEqDiff,Nat.reduceAdd,reduceIte,reduceCtorEq,Nat.reduceBEq,Int.reduceEq,Int.reduceLT,Int.reduceLE,Int.reduceAdd,Int.reduceSub,hl,g0,qw,zw,↓cX]
 refine iteH.split (fun h1=>?_) fun h1=>?_
 all_goals
  simp -dsimp (maxSteps:=1000000) (disch:=(first | omega | assumption | exact aR _ | exact bj _ _ | exact br | exact cz _ _ _ | exact bD _ _ | exact bp _ _ _ _ _ _ | exact cI _ _ | exact bE _)) only [↓ut,ur,Nat.reduceLT,Nat.reduceEqDiff,Nat.reduceAdd,reduceIte,reduceCtorEq,Nat.reduceBEq,Int.reduceEq,Int.reduceLT,Int.reduceLE,Int.reduceAdd,Int.reduceSub,hl,g0,qw,zw,↓cX]
  refine iteH.split (fun h2=>?_) fun h2=>?_
 all_goals
  simp -dsimp (maxSteps:=1000000) (disch:=(first | omega | assumption | exact aR _ | exact bj _ _ | exact br | exact cz _ _ _ | exact bD _ _ | exact bp _ _ _ _ _ _ | exact cI _ _ | exact bE _)) only [↓ut,ur,Nat.reduceLT,Nat.reduceEqDiff,Nat.reduceAdd,reduceIte,reduceCtorEq,Nat.reduceBEq,Int.reduceEq,Int.reduceLT,Int.reduceLE,Int.reduceAdd,Int.reduceSub,hl,g0,qw,zw,↓cX]
  refine iteH.split (fun h3=>?_) fun h3=>?_
 ·have he:w / 2^56=w / 4294967296 / 65536 / 256:=by omega
  obtain ⟨L,f1,f2,f3,f4,f5,f6,f7⟩:=fin 56 (w / 4294967296 / 65536 / 256) zO zO he zO
  have f3':IntKind.i64.wrap (56+(L:Int))=((56+L:Nat):Int):=by rw [wrap_i64] <;> omega
  simp -dsimp (maxSteps:=1000000) (disch:=(first | omega | assumption | exact aR _ | exact bj _ _ | exact br | exact cz _ _ _ | exact bD _ _ | exact bp _ _ _ _ _ _ | exact cI _ _ | exact bE _)) only [↓ut,ur,Nat.reduceLT,Nat.reduceEqDiff,Nat.reduceAdd,reduceIte,reduceCtorEq,Nat.reduceBEq,Int.reduceEq,Int.reduceLT,Int.reduceLE,Int.reduceAdd,Int.reduceSub,hl,g0,qw,zw,↓cX,f1,f2,f3',(show IntKind.i64.wrap 16=16 from wk 16 zO),(show IntKind.i64.wrap 40=40 from wk 40 zO),(show IntKind.i64.wrap 48=48 from wk 48 zO),(show IntKind.i64.wrap 56=56 from wk 56 zO),(show IntKind.i64.wrap 24=24 from wk 24 zO),(show IntKind.i64.wrap 8=8 from wk 8 zO)]
  exact ⟨⟨56+L,rfl,f4,f5,f6,f7⟩,zK⟩
 ·have he:w / 2^48=w / 4294967296 / 65536:=by omega
  obtain ⟨L,f1,f2,f3,f4,f5,f6,f7⟩:=fin 48 (w / 4294967296 / 65536) zO zO he zO
  have f3':IntKind.i64.wrap (48+(L:Int))=((48+L:Nat):Int):=by rw [wrap_i64] <;> omega
  simp -dsimp (maxSteps:=1000000) (disch:=(first | omega | assumption | exact aR _ | exact bj _ _ | exact br | exact cz _ _ _ | exact bD _ _ | exact bp _ _ _ _ _ _ | exact cI _ _ | exact bE _)) only [↓ut,ur,Nat.reduceLT,Nat.reduceEqDiff,Nat.reduceAdd,reduceIte,reduceCtorEq,Nat.reduceBEq,Int.reduceEq,Int.reduceLT,Int.reduceLE,Int.reduceAdd,Int.reduceSub,hl,g0,qw,zw,↓cX,f1,f2,f3',(show IntKind.i64.wrap 16=16 from wk 16 zO),(show IntKind.i64.wrap 40=40 from wk 40 zO),(show IntKind.i64.wrap 48=48 from wk 48 zO),(show IntKind.i64.wrap 56=56 from wk 56 zO),(show IntKind.i64.wrap 24=24 from wk 24 zO),(show IntKind.i64.wrap 8=8 from wk 8 zO)]
  exact ⟨⟨48+L,rfl,f4,f5,f6,f7⟩,zK⟩
 ·have he:w / 2^40=w / 4294967296 / 256:=by omega
  obtain ⟨L,f1,f2,f3,f4,f5,f6,f7⟩:=fin 40 (w / 4294967296 / 256) zO zO he zO
  have f3':IntKind.i64.wrap (40+(L:Int))=((40+L:Nat):Int):=by rw [wrap_i64] <;> omega
  simp -dsimp (maxSteps:=1000000) (disch:=(first | omega | assumption | exact aR _ | exact bj _ _ | exact br | exact cz _ _ _ | exact bD _ _ | exact bp _ _ _ _ _ _ | exact cI _ _ | exact bE _)) only [↓ut,ur,Nat.reduceLT,Nat.reduceEqDiff,Nat.reduceAdd,reduceIte,reduceCtorEq,Nat.reduceBEq,Int.reduceEq,Int.reduceLT,Int.reduceLE,Int.reduceAdd,Int.reduceSub,hl,g0,qw,zw,↓cX,f1,f2,f3',(show IntKind.i64.wrap 16=16 from wk 16 zO),(show IntKind.i64.wrap 40=40 from wk 40 zO),(show IntKind.i64.wrap 48=48 from wk 48 zO),(show IntKind.i64.wrap 56=56 from wk 56 zO),(show IntKind.i64.wrap 24=24 from wk 24 zO),(show IntKind.i64.wrap 8=8 from wk 8 zO)]
  exact ⟨⟨40+L,rfl,f4,f5,f6,f7⟩,zK⟩
 ·have he:w / 2^32=w / 4294967296:=by omega
  obtain ⟨L,f1,f2,f3,f4,f5,f6,f7⟩:=fin 32 (w / 4294967296) zO zO he zO
  have f3':IntKind.i64.wrap (32+(L:Int))=((32+L:Nat):Int):=by rw [wrap_i64] <;> omega
  simp -dsimp (maxSteps:=1000000) (disch:=(first | omega | assumption | exact aR _ | exact bj _ _ | exact br | exact cz _ _ _ | exact bD _ _ | exact bp _ _ _ _ _ _ | exact cI _ _ | exact bE _)) only [↓ut,ur,Nat.reduceLT,Nat.reduceEqDiff,Nat.reduceAdd,reduceIte,reduceCtorEq,Nat.reduceBEq,Int.reduceEq,Int.reduceLT,Int.reduceLE,Int.reduceAdd,Int.reduceSub,hl,g0,qw,zw,↓cX,f1,f2,f3',(show IntKind.i64.wrap 16=16 from wk 16 zO),(show IntKind.i64.wrap 40=40 from wk 40 zO),(show IntKind.i64.wrap 48=48 from wk 48 zO),(show IntKind.i64.wrap 56=56 from wk 56 zO),(show IntKind.i64.wrap 24=24 from wk 24 zO),(show IntKind.i64.wrap 8=8 from wk 8 zO)]
  exact ⟨⟨32+L,rfl,f4,f5,f6,f7⟩,zK⟩
 ·have he:w / 2^24=w / 65536 / 256:=by omega
  obtain ⟨L,f1,f2,f3,f4,f5,f6,f7⟩:=fin 24 (w / 65536 / 256) zO zO he zO
  have f3':IntKind.i64.wrap (24+(L:Int))=((24+L:Nat):Int):=by rw [wrap_i64] <;> omega
  simp -dsimp (maxSteps:=1000000) (disch:=(first | omega | assumption | exact aR _ | exact bj _ _ | exact br | exact cz _ _ _ | exact bD _ _ | exact bp _ _ _ _ _ _ | exact cI _ _ | exact bE _)) only [↓ut,ur,Nat.reduceLT,Nat.reduceEqDiff,Nat.reduceAdd,reduceIte,reduceCtorEq,Nat.reduceBEq,Int.reduceEq,Int.reduceLT,Int.reduceLE,Int.reduceAdd,Int.reduceSub,hl,g0,qw,zw,↓cX,f1,f2,f3',(show IntKind.i64.wrap 16=16 from wk 16 zO),(show IntKind.i64.wrap 40=40 from wk 40 zO),(show IntKind.i64.wrap 48=48 from wk 48 zO),(show IntKind.i64.wrap 56=56 from wk 56 zO),(show IntKind.i64.wrap 24=24 from wk 24 zO),(show IntKind.i64.wrap 8=8 from wk 8 zO)]
  exact ⟨⟨24+L,rfl,f4,f5,f6,f7⟩,zK⟩
 ·have he:w / 2^16=w / 65536:=by omega
  obtain ⟨L,f1,f2,f3,f4,f5,f6,f7⟩:=fin 16 (w / 65536) zO zO he zO
  have f3':IntKind.i64.wrap (16+(L:Int))=((16+L:Nat):Int):=by rw [wrap_i64] <;> omega
  simp -dsimp (maxSteps:=1000000) (disch:=(first | omega | assumption | exact aR _ | exact bj _ _ | exact br | exact cz _ _ _ | exact bD _ _ | exact bp _ _ _ _ _ _ | exact cI _ _ | exact bE _)) only [↓ut,ur,Nat.reduceLT,Nat.reduceEqDiff,Nat.reduceAdd,reduceIte,reduceCtorEq,Nat.reduceBEq,Int.reduceEq,Int.reduceLT,Int.reduceLE,Int.reduceAdd,Int.reduceSub,hl,g0,qw,zw,↓cX,f1,f2,f3',(show IntKind.i64.wrap 16=16 from wk 16 zO),(show IntKind.i64.wrap 40=40 from wk 40 zO),(show IntKind.i64.wrap 48=48 from wk 48 zO),(show IntKind.i64.wrap 56=56 from wk 56 zO),(show IntKind.i64.wrap 24=24 from wk 24 zO),(show IntKind.i64.wrap 8=8 from wk 8 zO)]
  exact ⟨⟨16+L,rfl,f4,f5,f6,f7⟩,zK⟩
 ·have he:w / 2^8=w / 256:=by omega
  obtain ⟨L,f1,f2,f3,f4,f5,f6,f7⟩:=fin 8 (w / 256) zO zO he zO
  have f3':IntKind.i64.wrap (8+(L:Int))=((8+L:Nat):Int):=by rw [wrap_i64] <;> omega
  simp -dsimp (maxSteps:=1000000) (disch:=(first | omega | assumption | exact aR _ | exact bj _ _ | exact br | exact cz _ _ _ | exact bD _ _ | exact bp _ _ _ _ _ _ | exact cI _ _ | exact bE _)) only [↓ut,ur,Nat.reduceLT,Nat.reduceEqDiff,Nat.reduceAdd,reduceIte,reduceCtorEq,Nat.reduceBEq,Int.reduceEq,Int.reduceLT,Int.reduceLE,Int.reduceAdd,Int.reduceSub,hl,g0,qw,zw,↓cX,f1,f2,f3',(show IntKind.i64.wrap 16=16 from wk 16 zO),(show IntKind.i64.wrap 40=40 from wk 40 zO),(show IntKind.i64.wrap 48=48 from wk 48 zO),(show IntKind.i64.wrap 56=56 from wk 56 zO),(show IntKind.i64.wrap 24=24 from wk 24 zO),(show IntKind.i64.wrap 8=8 from wk 8 zO)]
  exact ⟨⟨8+L,rfl,f4,f5,f6,f7⟩,zK⟩
 ·have he:w / 2^0=w:=by omega
  obtain ⟨L,f1,f2,f3,f4,f5,f6,f7⟩:=fin 0 (w) zO zO he zO
  have f3':IntKind.i64.wrap (0+(L:Int))=((0+L:Nat):Int):=by rw [wrap_i64] <;> omega
  simp -dsimp (maxSteps:=1000000) (disch:=(first | omega | assumption | exact aR _ | exact bj _ _ | exact br | exact cz _ _ _ | exact bD _ _ | exact bp _ _ _ _ _ _ | exact cI _ _ | exact bE _)) only [↓ut,ur,Nat.reduceLT,Nat.reduceEqDiff,Nat.reduceAdd,reduceIte,reduceCtorEq,Nat.reduceBEq,Int.reduceEq,Int.reduceLT,Int.reduceLE,Int.reduceAdd,Int.reduceSub,hl,g0,qw,zw,↓cX,f1,f2,f3',(show IntKind.i64.wrap 16=16 from wk 16 zO),(show IntKind.i64.wrap 40=40 from wk 40 zO),(show IntKind.i64.wrap 48=48 from wk 48 zO),(show IntKind.i64.wrap 56=56 from wk 56 zO),(show IntKind.i64.wrap 24=24 from wk 24 zO),(show IntKind.i64.wrap 8=8 from wk 8 zO)]
  exact ⟨⟨0+L,by rw [Ut],f4,f5,f6,f7⟩,zK⟩
theorem Cz (C:Code tab) (hw:Wf H) {w:Nat} (h0:0<w) (hB:w<18446744073709551616) :
  Ans tab (.fn dC [.int .u64 (w:Int)]) H fun v H'=>(∃ z:Nat,v=.int .i64 (z:Int)/\z<64/\w*2^z<18446744073709551616/\9223372036854775808<=w*2^z)/\Kp H H':=by
 refine cU C.q182 zU fun T hl g0=>?_
 refine zW (aC hl g0) ?_
 refine Y5 (HU C zF h0 hB) ?_
 rintro v H2 ⟨⟨L,rfl,h1,h2,h3,h4⟩,hk2⟩
 obtain ⟨k2,_,_⟩:=zT H zK hk2
 have hwr:IntKind.i64.wrap (64-(L:Int))=((64-L:Nat):Int):=by rw [wrap_i64] <;> omega
 refine zW (aD hl g0 hwr) ?_
 refine ⟨⟨64-L,rfl,by omega,?_,?_⟩,zK⟩
 ·have:=VV h3 (UF (n:=64-L) (show 0<2 by decide))
  rw [<- UR] at this
  have e:L+(64-L)=64:=by omega
  rw [e] at this
  exact this
 ·have:=T8 (2^(64-L)) h4
  rw [<- UR] at this
  have e:L-1+(64-L)=63:=by omega
  rw [e] at this
  exact this
end
theorem Same.set {D:List Nat} {T T1:Tm} {i:Nat} {v:AV} (h:Same D T T1) (hi:i∈D):Same D T (T1.set i v) :=
 ⟨by simp [h.len],fun s hs=>by rw [mp _ _ _ _ (fun e=>hs (by rw [<- e]; exact hi))]; exact h.at_ s hs⟩
theorem R9 (a:Nat):bX .mul .int (.int .u64 (a:Int)) (.int .u64 4294967296)=some (.int .u64 ((a*4294967296 % 18446744073709551616:Nat):Int)):=xo a 4294967296
theorem IE (a:Nat):bX .mul .int (.int .u64 4294967296) (.int .u64 (a:Int))=some (.int .u64 ((4294967296*a % 18446744073709551616:Nat):Int)):=xo 4294967296 a
theorem tz {a:Nat} (h:0<a) (ha:a<18446744073709551616):bX .sub .int (.int .u64 (a:Int)) (.int .u64 1)=some (.int .u64 ((a-1:Nat):Int)):=by
 rw [show (1:Int)=((1:Nat):Int) from rfl,xn a 1 zO]
 have e:(a+18446744073709551616-1) % 18446744073709551616=a-1:=by omega
 rw [e]
theorem sub64 {z:Nat} (h:z<=64):bX .sub .int (.int .u64 64) (.int .u64 (z:Int))=some (.int .u64 ((64-z:Nat):Int)):=by
 rw [show (64:Int)=((64:Nat):Int) from rfl,xn 64 z zO]
 have e:(64+18446744073709551616-z) % 18446744073709551616=64-z:=by omega
 rw [e]
theorem Md {u n p R:Nat} (h:p+R=u*4294967296+n) (hR:R<18446744073709551616):((u*4294967296 % 18446744073709551616+n) % 18446744073709551616+18446744073709551616-p % 18446744073709551616) % 18446744073709551616=R:=by omega
section
variable {Y a b u n q r:Nat}
theorem xV (hY:Y=a*4294967296+b) (hu:u<Y) (hn:n<4294967296) (e:q*a+r=u) (h:4294967296<=q\/4294967296*r+n<q*b):(u*4294967296+n) / Y<q:=by
 apply (Uk zO).2
 rcases h with h | h
 ·have:=T8 Y h
  omega
 ·have h1:q*Y=(q*a)*4294967296+q*b:=by rw [hY,UQ,UD]
  rw [h1]
  generalize q*a=p at *
  omega
theorem mw (hY:Y=a*4294967296+b) (h0:0<Y) (e:q*a+r=u) (h:q*b<=4294967296*r+n):q<=(u*4294967296+n) / Y:=by
 apply (Xp h0).2
 have h1:q*Y=(q*a)*4294967296+q*b:=by rw [hY,UQ,UD]
 rw [h1]
 generalize q*a=p at *
 omega
theorem nH (hb:b<4294967296) (hq:q<=4294967296) (hr:4294967296<=r):q*b<=4294967296*r+n:=by
 have h1:q*b<=4294967296*4294967295:=Vj hq zO
 omega
theorem xU (hY:Y=a*4294967296+b) (hb:b<4294967296) (ha:2147483648<=a) (hu:u<Y) (hn:n<4294967296):u / a<=4294967297/\(u*4294967296+n) / Y<=u / a:=by
 have h0:0<a:=by omega
 have e:=U2 u a
 have hr:u % a<a:=UL _ h0
 rw [Uf] at e
 refine ⟨?_,?_⟩
 ·apply Wx
  apply (Uk h0).2
  omega
 ·apply Wx
  apply (Uk zO).2
  have h1:(u / a+1)*Y=((u / a+1)*a)*4294967296+(u / a+1)*b:=by rw [hY,UQ,UD]
  have h2:(u / a+1)*a=u / a*a+a:=by rw [UO,WL]
  rw [Nat.succ_eq_add_one,h1,h2]
  generalize u / a*a=p at *
  omega
end
theorem mj {tab:Nat->Option aw} {rd:Bool} {id:Nat} {c:ACode} {T:Tm} {H:Heap} {Q:Ex->Tm->Heap->Prop} {L:Nat} (H0:Heap) (live:List Nat) (P:Nat->List AV->Heap->Prop) (R:List AV->Heap->Prop) (k0:Nat)
  (hl:T.length=L) (hp:iL c=true) (hk0:Kp H0 H) (h0:P k0 (live.map (aa T)) H)
  (hb:∀ k T1 H1,T1.length=L->Same (fI c) T T1->Kp H0 H1->P k (live.map (aa T1)) H1->WC tab rd c T1 H1 (QE id (fun T2 H2=>Kp H0 H2/\∃ k',k'<k/\P k' (live.map (aa T2)) H2) (fun x T2 H2=>x=.nrm/\Kp H0 H2/\R (live.map (aa T2)) H2)))
  (he:∀ T1 H1,T1.length=L->Same (fI c) T T1->Kp H0 H1->R (live.map (aa T1)) H1->Q .nrm T1 H1):WC tab rd (NP id c) T H Q:=by
 unfold NP
 refine WB.wcLoop ?_
 refine CO (fun k T1 H1=>T1.length=L/\Same (fI c) T T1/\Kp H0 H1/\P k (live.map (aa T1)) H1) ?_ k0 T H ⟨hl,Zs _ _,hk0,h0⟩
 rintro k T1 H1 ⟨hl1,hs1,hk1,hP1⟩
 refine ((hb k T1 H1 hl1 hs1 hk1 hP1).wb.same hp).mono ?_
 rintro x T2 H2 ⟨hs2,hq⟩
 have hsame:Same (fI c) T T2:=(hs1.trans hs2).wide fun s hs=>by simpa using hs
 cases x with
 | nrm =>
  obtain ⟨hk2,k',hk',hP2⟩:=hq
  exact ⟨k',hk',hs2.len.trans hl1,hsame,hk2,hP2⟩
 | exit e =>
  simp only [QE] at hq
  show uj id Q (.exit e) T2 H2
  simp only [uj]
  by_cases h1:e=id
  ·rw [if_pos h1] at hq ⊢
   exact he T2 H2 (hs2.len.trans hl1) hsame hq.2.1 hq.2.2
  ·rw [if_neg h1] at hq
   exact absurd hq.1 (by simp)
 | goto l=>exact absurd hq.1 (by simp)
 | ret=>exact absurd hq.1 (by simp)
section
variable {tab:Nat->Option aw} {H:Heap}
set_option maxHeartbeats 1000000 in
theorem Bc (C:Code tab) (hw:Wf H) {hi lo y:Nat} (hy:hi<y) (hlo:lo<18446744073709551616) (hyB:y<18446744073709551616) :
  Ans tab (.fn jj [.int .u64 (hi:Int),.int .u64 (lo:Int),.int .u64 (y:Int)]) H fun v H'=>v=.tup [.int .u64 (((hi*B+lo) / y:Nat):Int),.int .u64 (((hi*B+lo) % y:Nat):Int)]/\Kp H H':=by
 refine nd C.q191 zU fun T hl g0 g1 g2=>?_
 have e0:¬ (y:Int)=0:=by omega
 have e1:¬ y<=hi:=by omega
 refine zW (dV hl g0 g1 g2 e0 e1) ?_
 refine iteH.split (fun h0=>?_) (fun h0=>?_)
 ·have h0':hi=0:=by omega
  subst h0'
  have q1:=P2 (a:=lo) (b:=y) hlo zO
  have q2:=R6 (a:=lo) (b:=y) zO
  rw [Xb,Ut]
  refine zW (aX hl g0 g1 g2) ?_
  refine aI ?_
  refine zD (dV hl g0 g1 g2 q1 q2) ?_
  exact zK
 ·refine zW (aX hl g0 g1 g2) ?_
  refine Y5 (Cz C zF zO hyB) ?_
  rintro v H2 ⟨⟨z,rfl,hz,hz1,hz2⟩,hk2⟩
  obtain ⟨k2,_,w2⟩:=zT H zK hk2
  have hcz:IntKind.u64.wrap (z:Int)=(z:Int):=gn zO zO
  have p2z:0<2^z:=UF zU
  obtain ⟨Y,hY⟩:∃ Y,y*2^z=Y:=⟨_,rfl⟩
  rw [hY] at hz1 hz2
  have s1:bX .shl .int (.int .u64 (y:Int)) (.int .u64 (z:Int))=some (.int .u64 (Y:Int)):=by rw [sB zO,hY,UE hz1]
  have s2:=sub64 (z:=z) zO
  have hhi:hi*2^z<18446744073709551616:=XK (VV hy p2z) (by rw [hY]; exact hz1)
  have s3:bX .shl .int (.int .u64 (hi:Int)) (.int .u64 (z:Int))=some (.int .u64 ((hi*2^z:Nat):Int)):=by rw [sB zO,UE hhi]
  have s4:bX .shr .int (.int .u64 (lo:Int)) (.int .u64 ((64-z:Nat):Int))=some (.int .u64 ((lo / 2^(64-z):Nat):Int)):=Be zO
  have hB:B=2^(64-z)*2^z:=by
   rw [<- UR]; have:64-z+z=64:=by omega
   rw [this]
  have hlz:lo / 2^(64-z)<2^z:=by
   apply (Uk (UF zU)).2
   rw [Uf,<- hB]; exact hlo
  obtain ⟨u,hu⟩:∃ u,hi*2^z+lo / 2^(64-z)=u:=⟨_,rfl⟩
  have s5:bX .or .int (.int .u64 ((hi*2^z:Nat):Int)) (.int .u64 ((lo / 2^(64-z):Nat):Int))=some (.int .u64 (u:Int)):=by
   rw [vN hhi (UW (Wj _ _) hlo),Nat.or_comm,Uf hi,Db hlz,<- hu,Uf hi,Wu]
  obtain ⟨m,hm⟩:∃ m,lo*2^z % B=m:=⟨_,rfl⟩
  have hmB:m<18446744073709551616:=by rw [<- hm]; exact UL _ zU
  have s6:bX .shl .int (.int .u64 (lo:Int)) (.int .u64 (z:Int))=some (.int .u64 (m:Int)):=by rw [sB zO,hm]
  have hN:(hi*B+lo)*2^z=u*B+m:=by
   have h1:=U2 (lo*2^z) B
   rw [hm] at h1
   have h2:lo*2^z / B=lo / 2^(64-z):=by rw [hB,Xq _ _ p2z]
   rw [h2] at h1
   rw [UO,<- h1,<- hu,UO,WO,Uf B]
   omega
  have huY:u<Y:=by
   have h1:(hi*B+lo)*2^z<y*B*2^z:=by
    refine VV ?_ p2z
    have:(hi+1)*B<=y*B:=T8 B hy
    rw [UO] at this
    unfold B at *; omega
   rw [hN,WO,hY] at h1
   unfold B at h1; omega
  obtain ⟨a,ha⟩:∃ a,Y / 4294967296=a:=⟨_,rfl⟩
  obtain ⟨b,hb⟩:∃ b,Y % 4294967296=b:=⟨_,rfl⟩
  obtain ⟨n1,hn1⟩:∃ n1,m / 4294967296=n1:=⟨_,rfl⟩
  obtain ⟨n0,hn0⟩:∃ n0,m % 4294967296=n0:=⟨_,rfl⟩
  have hab:Y=a*4294967296+b:=by omega
  have hbl:b<4294967296:=by omega
  have hal:2147483648<=a:=by omega
  have hn1l:n1<4294967296:=by omega
  have hn0l:n0<4294967296:=by omega
  have hquo:∀ x:Nat,x<18446744073709551616->bX .quo .int (.int .u64 (x:Int)) (.int .u64 (a:Int))=some (.int .u64 ((x / a:Nat):Int)):=fun x hx=>P2 hx zO
  have hrest:∀ x:Nat,x<18446744073709551616->x / a*a % 18446744073709551616=x / a*a/\(x+18446744073709551616-x / a*a) % 18446744073709551616=x % a/\x / a*a+x % a=x:=by
   intro x hx
   have h1:=U2 x a
   rw [Uf] at h1
   generalize x / a*a=p at *
   generalize x % a=t at *
   omega
  have qu:=hquo u zO
  obtain ⟨ru1,ru2,ru3⟩:=hrest u zO
  refine zW (Gd hl g0 g1 g2 hcz s1 s2 s3 s4 s5 s6 ha hb hn1 hn0 qu ru1 ru2) ?_
  obtain ⟨SM,SL⟩:=xU hab hbl hal huY hn1l
  have ham:∀ x:Nat,x % a<4294967296:=fun x=>XK (UL _ zO) zO
  refine mj H [15,16] (fun k vs H'=>∃ q r:Nat,vs=[.int .u64 (q:Int),.int .u64 (r:Int)]/\k=q/\q*a+r=u/\(u*4294967296+n1) / Y<=q/\q<=4294967297/\r<4294967296) (fun vs H'=>∃ r,vs=[.int .u64 (((u*4294967296+n1) / Y:Nat):Int),r]) (u / a) (by simp only [TH]; exact hl) rfl zK ⟨u / a,u % a,by exact zV (aX hl g0 g1 g2),rfl,ru3,SL,SM,ham u⟩ ?_ ?_
  ·rintro k T1 H1 hl1 hs1 hk1 ⟨q,r,hv,hkq,e,hge,hq,hr⟩
   obtain rfl:=hkq.symm
   have w1:=hk1.wf
   have le_hk1:=hk1.le
   simp only [TP,TV,TR,and_true] at hv
   obtain ⟨vq,vr⟩:=hv
   have u9:aa T1 9=.int .u64 (a:Int):=(hs1.at_ 9 zU).trans (zV (aX hl g0 g1 g2))
   have u10:aa T1 10=.int .u64 (b:Int):=(hs1.at_ 10 zU).trans (zV (aX hl g0 g1 g2))
   have un:aa T1 13=.int .u64 (n1:Int):=(hs1.at_ 13 zU).trans (zV (aX hl g0 g1 g2))
   have step:4294967296<=q\/4294967296*r+n1<q*b->0<q/\(q-1)*a+(r+a)=u/\(u*4294967296+n1) / Y<=q-1:=by
    intro h
    have h1:=xV hab huY hn1l e h
    have h2:0<q:=UW (TY _) h1
    refine ⟨h2,?_,W0 h1⟩
    have h3:q*a=(q-1)*a+a:=by rw [<- Vr]; congr 1; omega
    omega
   have w2:(r+a) % 18446744073709551616=r+a:=by omega
   by_cases c1:4294967296<=q
   ·have c1':(4294967296:Int)<=(q:Int):=by omega
    obtain ⟨p1,p2,p3⟩:=step (.inl c1)
    have z1:=tz (a:=q) p1 zO
    refine zW (ko hl1 vq vr u9 u10 un c1' z1 w2) ?_
    refine iteH.split (fun h=>?_) fun h=>?_
    ·refine zW (lA hl1 vq vr u9 u10 un z1 w2) ?_
     have:=mw (Y:=Y) hab zO p2 (nH hbl (q:=q-1) (n:=n1) zO zO)
     exact ⟨zK,_,by rw [V7 this p3]⟩
    ·refine zW (lA hl1 vq vr u9 u10 un z1 w2) ?_
     exact ⟨zK,q-1,by omega,q-1,r+a,rfl,rfl,p2,p3,by omega,by omega⟩
   ·have c1':¬ (4294967296:Int)<=(q:Int):=by omega
    have m1:q*b % 18446744073709551616=q*b:=by
     apply UE
     have:q*b<=4294967295*4294967295:=Vj zO zO
     omega
    have m2:4294967296*r % 18446744073709551616=4294967296*r:=by omega
    have m3:(4294967296*r+n1) % 18446744073709551616=4294967296*r+n1:=by omega
    by_cases c2:4294967296*r+n1<q*b
    ·obtain ⟨p1,p2,p3⟩:=step (.inr c2)
     have z1:=tz (a:=q) p1 zO
     refine zW (Ge hl1 vq vr u9 u10 un c1' @c2 m1 m2 m3 @IE z1 w2) ?_
     refine iteH.split (fun h=>?_) fun h=>?_
     ·refine zW (lA hl1 vq vr u9 u10 un z1 w2) ?_
      have:=mw (Y:=Y) hab zO p2 (nH hbl (q:=q-1) (n:=n1) zO zO)
      exact ⟨zK,_,by rw [V7 this p3]⟩
     ·refine zW (lA hl1 vq vr u9 u10 un z1 w2) ?_
      exact ⟨zK,q-1,by omega,q-1,r+a,rfl,rfl,p2,p3,by omega,by omega⟩
    ·refine zW (yU hl1 vq vr u9 u10 un c1' @c2 m1 m2 m3 @IE) ?_
     have:=mw (Y:=Y) hab zO e (Wa c2)
     exact ⟨zK,_,by rw [V7 this hge]⟩
  ·rintro T1 H1 hl1 hs1 hk1 ⟨r,hv⟩
   have w1:=hk1.wf
   have le_hk1:=hk1.le
   simp only [TP,TV,TR,and_true] at hv
   obtain ⟨v15,-⟩:=hv
   obtain ⟨q1,hq1⟩:∃ q1,(u*4294967296+n1) / Y=q1:=⟨_,rfl⟩
   obtain ⟨u1,hu1⟩:∃ u1,(u*4294967296+n1) % Y=u1:=⟨_,rfl⟩
   have d1:=U2 (u*4294967296+n1) Y
   rw [hq1,hu1,Uf Y] at d1
   have hu1Y:u1<Y:=by rw [<- hu1]; exact UL _ zO
   rw [hq1] at v15
   have t2:aa T1 2=.int .u64 (Y:Int):=(hs1.at_ 2 zU).trans (zV (aX hl g0 g1 g2))
   have t8:aa T1 8=.int .u64 (z:Int):=(hs1.at_ 8 zU).trans (zV (aX hl g0 g1 g2))
   have t9:aa T1 9=.int .u64 (a:Int):=(hs1.at_ 9 zU).trans (zV (aX hl g0 g1 g2))
   have t10:aa T1 10=.int .u64 (b:Int):=(hs1.at_ 10 zU).trans (zV (aX hl g0 g1 g2))
   have t11:aa T1 11=.int .u64 (u:Int):=(hs1.at_ 11 zU).trans (zV (aX hl g0 g1 g2))
   have t13:aa T1 13=.int .u64 (n1:Int):=(hs1.at_ 13 zU).trans (zV (aX hl g0 g1 g2))
   have t14:aa T1 14=.int .u64 (n0:Int):=(hs1.at_ 14 zU).trans (zV (aX hl g0 g1 g2))
   have f1:((u*4294967296 % 18446744073709551616+n1) % 18446744073709551616+18446744073709551616-q1*Y % 18446744073709551616) % 18446744073709551616=u1:=Md d1 zO
   have qu1:=hquo u1 zO
   obtain ⟨rv1,rv2,rv3⟩:=hrest u1 zO
   obtain ⟨st3,st4⟩:=xU hab hbl hal hu1Y hn0l
   refine zW (Ge hl1 v15 t2 t8 t9 t10 t11 t13 t14 @R9 f1 qu1 rv1 rv2) ?_
   refine mj H [18,16] (fun k vs H'=>∃ q r:Nat,vs=[.int .u64 (q:Int),.int .u64 (r:Int)]/\k=q/\q*a+r=u1/\(u1*4294967296+n0) / Y<=q/\q<=4294967297/\r<4294967296) (fun vs H'=>∃ r,vs=[.int .u64 (((u1*4294967296+n0) / Y:Nat):Int),r]) (u1 / a) (by simp only [TH]; exact hl1) rfl zK ⟨u1 / a,u1 % a,by exact zV hl1,rfl,rv3,st4,st3,ham u1⟩ ?_ ?_
   ·rintro k T2 H3 hl2 hs2 hk3 ⟨q,r,hv,hkq,e,hge,hq,hr⟩
    obtain rfl:=hkq.symm
    have w1:=hk3.wf
    have le_hk3:=hk3.le
    simp only [TP,TV,TR,and_true] at hv
    obtain ⟨vq,vr⟩:=hv
    have u9:aa T2 9=.int .u64 (a:Int):=(hs2.at_ 9 zU).trans (zV (aX hl1 t9 t10 t14))
    have u10:aa T2 10=.int .u64 (b:Int):=(hs2.at_ 10 zU).trans (zV (aX hl1 t9 t10 t14))
    have un:aa T2 14=.int .u64 (n0:Int):=(hs2.at_ 14 zU).trans (zV (aX hl1 t9 t10 t14))
    have step:4294967296<=q\/4294967296*r+n0<q*b->0<q/\(q-1)*a+(r+a)=u1/\(u1*4294967296+n0) / Y<=q-1:=by
     intro h
     have h1:=xV hab hu1Y hn0l e h
     have h2:0<q:=UW (TY _) h1
     refine ⟨h2,?_,W0 h1⟩
     have h3:q*a=(q-1)*a+a:=by rw [<- Vr]; congr 1; omega
     omega
    have w2:(r+a) % 18446744073709551616=r+a:=by omega
    by_cases c1:4294967296<=q
    ·have c1':(4294967296:Int)<=(q:Int):=by omega
     obtain ⟨p1,p2,p3⟩:=step (.inl c1)
     have z1:=tz (a:=q) p1 zO
     refine zW (ko hl2 vq vr u9 u10 un c1' z1 w2) ?_
     refine iteH.split (fun h=>?_) fun h=>?_
     ·refine zW (lA hl2 vq vr u9 u10 un z1 w2) ?_
      have:=mw (Y:=Y) hab zO p2 (nH hbl (q:=q-1) (n:=n0) zO zO)
      exact ⟨zK,_,by rw [V7 this p3]⟩
     ·refine zW (lA hl2 vq vr u9 u10 un z1 w2) ?_
      exact ⟨zK,q-1,by omega,q-1,r+a,rfl,rfl,p2,p3,by omega,by omega⟩
    ·have c1':¬ (4294967296:Int)<=(q:Int):=by omega
     have m1:q*b % 18446744073709551616=q*b:=by
      apply UE
      have:q*b<=4294967295*4294967295:=Vj zO zO
      omega
     have m2:4294967296*r % 18446744073709551616=4294967296*r:=by omega
     have m3:(4294967296*r+n0) % 18446744073709551616=4294967296*r+n0:=by omega
     by_cases c2:4294967296*r+n0<q*b
     ·obtain ⟨p1,p2,p3⟩:=step (.inr c2)
      have z1:=tz (a:=q) p1 zO
      refine zW (Ge hl2 vq vr u9 u10 un c1' @c2 m1 m2 m3 @IE z1 w2) ?_
      refine iteH.split (fun h=>?_) fun h=>?_
      ·refine zW (lA hl2 vq vr u9 u10 un z1 w2) ?_
       have:=mw (Y:=Y) hab zO p2 (nH hbl (q:=q-1) (n:=n0) zO zO)
       exact ⟨zK,_,by rw [V7 this p3]⟩
      ·refine zW (lA hl2 vq vr u9 u10 un z1 w2) ?_
       exact ⟨zK,q-1,by omega,q-1,r+a,rfl,rfl,p2,p3,by omega,by omega⟩
     ·refine zW (yU hl2 vq vr u9 u10 un c1' @c2 m1 m2 m3 @IE) ?_
      have:=mw (Y:=Y) hab zO e (Wa c2)
      exact ⟨zK,_,by rw [V7 this hge]⟩
   ·rintro T2 H3 hl2 hs2 hk3 ⟨r,hv⟩
    have w3:=hk3.wf
    have le_hk3:=hk3.le
    simp only [TP,TV,TR,and_true] at hv
    obtain ⟨v18,-⟩:=hv
    obtain ⟨q0,hq0⟩:∃ q0,(u1*4294967296+n0) / Y=q0:=⟨_,rfl⟩
    obtain ⟨r0,hr0⟩:∃ r0,(u1*4294967296+n0) % Y=r0:=⟨_,rfl⟩
    have d2:=U2 (u1*4294967296+n0) Y
    rw [hq0,hr0,Uf Y] at d2
    have hr0Y:r0<Y:=by rw [<- hr0]; exact UL _ zO
    rw [hq0] at v18
    have x2:aa T2 2=.int .u64 (Y:Int):=(hs2.at_ 2 zU).trans (zV (aC hl1 t2))
    have x8:aa T2 8=.int .u64 (z:Int):=(hs2.at_ 8 zU).trans (zV (aC hl1 t8))
    have x14:aa T2 14=.int .u64 (n0:Int):=(hs2.at_ 14 zU).trans (zV (aC hl1 t14))
    have x15:aa T2 15=.int .u64 (q1:Int):=(hs2.at_ 15 zU).trans (zV (aC hl1 v15))
    have x17:aa T2 17=.int .u64 (u1:Int):=(hs2.at_ 17 zU).trans (zV hl1)
    have hq1l:q1<4294967296:=by
     rw [<- hq1]
     apply (Uk zO).2
     omega
    have hq0l:q0<4294967296:=by
     rw [<- hq0]
     apply (Uk zO).2
     omega
    have f2:(q1*4294967296 % 18446744073709551616+q0) % 18446744073709551616=q1*4294967296+q0:=by omega
    have f3:((u1*4294967296 % 18446744073709551616+n0) % 18446744073709551616+18446744073709551616-q0*Y % 18446744073709551616) % 18446744073709551616=r0:=Md d2 zO
    have hsh:bX .shr .int (.int .u64 (r0:Int)) (.int .u64 (z:Int))=some (.int .u64 ((r0 / 2^z:Nat):Int)):=Be zO
    refine zW (oF hl2 v18 x2 x8 x14 x15 x17 @R9 f2 f3 hsh) ?_
    have hall:(hi*B+lo)*2^z=(q1*4294967296+q0)*Y+r0:=by
     rw [hN,UO,WO]
     have e5:m=n1*4294967296+n0:=by omega
     generalize q1*Y=p at *
     generalize q0*Y=p' at *
     unfold B
     omega
    have g1':(hi*B+lo) / y=q1*4294967296+q0:=by
     rw [<- Xq _ _ p2z,hall,hY]
     rw [Wu,Xr _ _ zO,VH hr0Y,Ut]
    have g2':r0 / 2^z=(hi*B+lo) % y:=by
     have h1:(hi*B+lo)*2^z % (y*2^z)=r0:=by
      rw [hall,hY,Wu,Nat.add_mul_mod_self_right,UE hr0Y]
     rw [Ys] at h1
     rw [<- h1,YQ _ p2z]
    rw [g1',g2']
    exact ⟨rfl,zK⟩
end
theorem za:∀ {out:List Nat} {M:Nat},(∀ j,j<out.length->out.getD j 0=M / B^j % B)->M<B^out.length->val out=M
 | [],M,_,h=>by simp at h; simp [val,h]
 | a :: t,M,hd,h=>by
  have h0:=hd 0 (by simp)
  simp only [Wl,WP,YA] at h0
  have ht:val t=M / B:=by
   refine za (fun j hj=>?_) ?_
   ·have:=hd (j+1) (by simpa using hj)
    rw [Vt] at this
    rw [this,UX,Uy,Uf B]
   ·apply (Uk zU).2
    rw [<- Uy]; simpa using h
  simp only [val,ht,h0]
  exact XG M B
theorem Hl {out:List Nat} (h:∀ j,j<out.length->out.getD j 0<B):Lim out:=fun a ha=>by
 obtain ⟨j,hj,rfl⟩:=UY ha
 have:=h j hj
 rw [TI,TL hj] at this
 exact this
theorem iW (n j:Nat):(ai n).getD j 0=n / B^j % B:=by
 have h1:(ai n).drop j=ai (n / B^j):=mS j n
 have h2:(ai n).getD j 0=((ai n).drop j).getD 0 0:=by
  rw [TI,TI,Ui,Vo]
 rw [h2,h1]
 by_cases h0:n / B^j=0
 ·rw [h0,cO]; rfl
 ·rw [kI h0]; rfl
theorem F3 {a c m M:Nat} (ha:a<c) (hM:0<M):(a+c*m) % (c*M)=a+c*(m % M):=by
 have h1:m=m % M+M*(m / M):=(XG m M).symm
 have h2:a+c*m=a+c*(m % M)+c*M*(m / M):=by
  conv=>lhs; rw [h1]
  rw [UQ,UD]; omega
 have h3:a+c*(m % M)<c*M:=by
  have h4:c*(m % M+1)<=c*M:=V2 c (UL _ hM)
  rw [UQ] at h4; omega
 rw [h2,Wo,UE h3]
theorem AC {Y j r:Nat} (hr:r<64):Y / B^j % B / 2^r+2^(64-r)*(Y / B^(j+1) % B % 2^r)=Y / 2^r / B^j % B:=by
 have hB:B=2^r*2^(64-r):=by
  rw [<- UR]; have:r+(64-r)=64:=by omega
  rw [this]
 have p2:0<2^r:=UF zU
 have p3:0<2^(64-r):=UF zU
 have e1:Y / 2^r / B^j=Y / B^j / 2^r:=by rw [UX,UX,Uf]
 have e2:Y / B^(j+1)=Y / B^j / B:=by rw [UX,Uy]
 rw [e1,e2]
 generalize Y / B^j=Z
 have hz:Z=Z % B+B*(Z / B):=(XG Z B).symm
 have hl:Z % B / 2^r<2^(64-r):=by
  apply (Uk p2).2
  rw [Uf,<- hB]; exact UL _ zU
 have h1:Z / 2^r=Z % B / 2^r+2^(64-r)*(Z / B):=by
  conv=>lhs; rw [hz]
  rw [hB,UD,YB _ _ p2,<- hB]
 have h2:Z / B % B % 2^r=Z / B % 2^r:=Nat.mod_mod_of_dvd _ ⟨2^(64-r),hB⟩
 rw [h1,h2]
 have:=F3 (a:=Z % B / 2^r) (c:=2^(64-r)) (m:=Z / B) (M:=2^r) hl p2
 rw [Uf (2^(64-r)) (2^r),<- hB] at this
 exact this.symm
theorem It {x r:Nat} (hr:r<=64):x*2^(64-r) % B=2^(64-r)*(x % 2^r):=by
 have hB:B=2^(64-r)*2^r:=by
  rw [<- UR]; have:64-r+r=64:=by omega
  rw [this]
 rw [hB,Uf x,Yz]
theorem rj {l:List Nat} {i v:Nat} (h:i<l.length):(l.set i v).getD i 0=v:=by
 rw [TI,VZ,if_pos rfl,if_pos h]; rfl
section
variable {tab:Nat->Option aw} {H:Heap} {s:AV}
theorem MX (C:Code tab) (hw:Wf H) {a:AV} {x k:Nat} (ha:cr H a x) (hx:Sm x) (hk:k<=65536) :
  Ans tab (.fn tM [a,.int .i64 (k:Int)]) H fun v H'=>∃ o,v=.tup [o,.int .i64 0]/\cr H' o (x / 2^k)/\Kp H H':=by
 refine bz C.q188 zU fun T hl g0 g1=>?_
 refine zW (aD hl g0 g1) ?_
 refine Y4 (BX C zF (ha.mono (zG H)) hx hk) fun H2 hk2=>?_
 obtain ⟨k2,_,w2⟩:=zT H zK hk2
 have n2:=k2.le
 unfold Sm at hx
 have hq:=MJ (k:=k) (c:=64) zO zO
 have hr:=MH (k:=k) (c:=64) zO
 obtain ⟨q,eq⟩:∃ q,q=k / 64:=⟨_,rfl⟩
 obtain ⟨r,er⟩:∃ r,r=k % 64:=⟨_,rfl⟩
 rw [<- eq] at hq
 rw [<- er] at hr
 have hq':bX .quo .int (.int .i64 (k:Int)) (.int .i64 64)=some (.int .i64 (q:Int)):=hq
 have hr':bX .rem .int (.int .i64 (k:Int)) (.int .i64 64)=some (.int .i64 (r:Int)):=hr
 have hr64:r<64:=by omega
 obtain ⟨n,hn⟩:∃ n,min q (ai x).length=n:=⟨_,rfl⟩
 have hmin:He (.int .i64 (q:Int)) (.int .i64 ((ai x).length:Int))=some (.int .i64 (n:Int)):=by rw [yL]; congr 2; split <;> omega
 obtain ⟨s',e0,hs'⟩:=SlV.lo (ha.mono k2.sub) .i64 n zO
 have e':bI 1 a (some (.int .i64 (n:Int))) none none=some s':=e0
 obtain ⟨l,hl0⟩:∃ l,(ai x).drop n=l:=⟨_,rfl⟩
 rw [hl0] at hs'
 have hlim:Lim l:=by rw [<- hl0]; exact (bC x).drop n
 have hln:l.length<=(ai x).length:=by rw [<- hl0,U8]; omega
 refine zW (gh hl g0 g1 hq' ha.lenV hmin e') ?_
 refine Y5 (wt C zF (hs'.mono (ZB H2 _)) zO) ?_
 rintro v H3 ⟨hv,hk3,hown⟩
 obtain ⟨k3,_,w3⟩:=zT H zK hk3
 obtain ⟨N,hN⟩:∃ N,l.length=N:=⟨_,rfl⟩
 have hvl:lenV v=some (.int .i64 (N:Int)):=by have:=hv.lenV; rwa [hN] at this
 rw [hN] at hown
 obtain ⟨b,hb⟩:∃ b,0<N->v=.own b 0 N N 1 false/\H3.get b=some (.cells (aL l) ae true)/\H.next<=b:=by
  by_cases h0:0<N
  ·obtain ⟨b,h1,h2,h3⟩:=hown h0
   have:H.next<=H2.next:=n2
   exact ⟨b,fun _=>⟨h1,h2,by have:H2.next<=b:=Ub (Uu _ _) h3; omega⟩⟩
  ·exact ⟨0,fun h=>absurd h h0⟩
 obtain ⟨Y,hY⟩:∃ Y,val l=Y:=⟨_,rfl⟩
 have hdig:∀ j,l.getD j 0=Y / B^j % B:=by
  intro j
  have h1:l=ai Y:=by
   rw [<- hl0,mS] at hY ⊢
   rw [bF] at hY; rw [hY]
  rw [h1,iW]
 have hYB:Y<B^N:=by rw [<- hY,<- hN]; exact wh hlim
 refine zW (aX hl g0 g1 hvl) ?_
 refine am H [] (fun i vs H'=>∃ out,(0<N->H'.get b=some (.cells (aL out) ae true))/\(N=0->Lb H' v [])/\out.length=N/\(∀ j,j<i->out.getD j 0=Y / 2^r / B^j % B)/\(∀ j,i<=j->out.getD j 0=Y / B^j % B)) (a:=0) (N:=N) rfl (by refine zW (aD hl g0 g1) ?_; rfl) (zV (aD hl g0 g1)) (TY _) zO (by simp only [TH,hl]; rfl) rfl (fun _ _ H' m h=>by
   obtain ⟨out,h1,h2,h3⟩:=h
   exact ⟨out,h1,fun h0=>(h2 h0).mono (ZB H' m),h3⟩) zK
  ⟨l,fun h0=>by exact zV ((hb h0).2.1),fun h0=>by
   have:l=[]:=Us zO
   subst this; exact hv.mono (ZB H3 _),hN,fun j hj=>by omega,fun j _=>hdig j⟩ ?_ ?_
 ·rintro i T1 H1 _ hi hl1 hi1 hs1 hk1 ⟨out,b0,-,hlen,hlow,hhigh⟩
  simp only [TH,hl] at hl1
  have w1:=hk1.wf
  have le_hk1:=hk1.le
  obtain ⟨hv',-,hbH⟩:=hb zO
  have b6:=b0 zO
  have lt6:=hk1.wf _ _ b6
  have t7:aa T1 7=.own b 0 N N 1 false:=(hs1.at_ 7 zU).trans (zV (aX hl g0 g1 hv'))
  have t1:aa T1 1=.int .i64 (k:Int):=(hs1.at_ 1 zU).trans (zV (aX hl g0 g1 g1))
  have hsh:∀ y:Nat,bX .shr .int (.int .u64 (y:Int)) (.int .i64 (r:Int))=some (.int .u64 ((y / 2^r:Nat):Int)):=fun y=>sA y r hr64
  have hwi1:IntKind.i64.wrap ((i:Int)+1)=((i+1:Nat):Int):=by rw [wrap_i64] <;> omega
  have hoi:=hhigh i (TO _)
  refine zW (lA hl1 t7 t1 hi1 @b6 hr' hsh hwi1) ?_
  refine iteH.split (fun h=>?_) fun h=>?_
  ·have hoi1:=hhigh (i+1) zO
   have hw64:IntKind.i64.wrap (64-(r:Int))=((64-r:Nat):Int):=by rw [wrap_i64] <;> omega
   have gi:(out.set i (out.getD i 0 / 2^r)).getD i 0=out.getD i 0 / 2^r:=rj zO
   have gi1:(out.set i (out.getD i 0 / 2^r)).getD (i+1) 0=out.getD (i+1) 0:=bo zO
   have hoB:out.getD i 0<18446744073709551616:=by rw [hoi]; exact UL _ zU
   have hs2:=sB (x:=out.getD (i+1) 0) (r:=64-r) zO (k:=.i64)
   have hv1:out.getD i 0 / 2^r<2^(64-r):=by
    apply (Uk (UF zU)).2
    rw [<- UR]
    have:64-r+r=64:=by omega
    rw [this]; exact hoB
   have hor:=vN (a:=out.getD i 0 / 2^r) (b:=out.getD (i+1) 0*2^(64-r) % B) (UW (Wj _ _) hoB) (UL _ zU)
   rw [It zO,Db hv1] at hor
   rw [It zO] at hs2
   have ti:bH (aL (out.set i (out.getD i 0 / 2^r))) i none=some (.int .u64 ((out.getD i 0 / 2^r:Nat):Int)):=by rw [CU (by simp; omega),gi]
   have ti1:bH (aL (out.set i (out.getD i 0 / 2^r))) (i+1) none=some (.int .u64 ((out.getD (i+1) 0:Nat):Int)):=by rw [CU (by simp; omega),gi1]
   refine aI ?_
   refine zD (yU hl1 t7 t1 hi1 @b6 hr' hw64 hwi1 ti ti1 hs2 hor) ?_
   refine ⟨zK,_,fun _=>rfl,fun h0=>by omega,by simp [hlen],fun j hj=>?_,fun j hj=>?_⟩
   ·by_cases hji:j=i
    ·subst hji
     rw [rj (by simp; omega),hoi,hoi1]
     exact AC hr64
    ·rw [bo zO,bo zO]
     exact hlow j zO
   ·rw [bo zO,bo zO]
    exact hhigh j zO
  ·refine zW hl1 ?_
   refine ⟨zK,_,fun _=>rfl,fun h0=>by omega,by simp [hlen],fun j hj=>?_,fun j hj=>?_⟩
   ·by_cases hji:j=i
    ·subst hji
     rw [rj zO,hoi,<- AC hr64]
     have h0:Y / B^(j+1)=0:=VH (by
      have:j+1=N:=by omega
      rw [this]; exact hYB)
     rw [h0]; simp
    ·rw [bo zO]
     exact hlow j zO
   ·rw [bo zO]
    exact hhigh j zO
 ·rintro T1 H1 hl1 hs1 hk1 ⟨out,b0,hz,hlen,hlow,-⟩
  simp only [TH,hl] at hl1
  have w1:=hk1.wf
  have le_hk1:=hk1.le
  have t7:aa T1 7=v:=(hs1.at_ 7 zU).trans (zV (aD hl g0 g1))
  have hlim':Lim out:=Hl fun j hj=>by rw [hlow j zO]; exact UL _ zU
  have hval:val out=Y / 2^r:=za (fun j hj=>hlow j zO) (by rw [hlen]; exact UW (Wj _ _) hYB)
  have ho:Lb H1 v out:=by
   by_cases h0:0<N
   ·obtain ⟨hv',-,hbH⟩:=hb h0
    rw [hv']
    exact (uP (H0:=H) (ex:=false) (b0 h0) hbH hlen).sl
   ·have:out=[]:=Us zO
    subst this; exact hz zO
  refine zW (aC hl1 t7) ?_
  refine Y5 (uL C zF (ho.mono (ZB H1 _)) zO) ?_
  rintro v2 H4 ⟨h4,hk4⟩
  obtain ⟨k4,_,_⟩:=zT H zK hk4
  have e:val out=x / 2^k:=by
   have h1:Y=x / B^n:=by rw [<- hY,<- hl0,mS,bF]
   have h2:x / B^n=x / B^q:=by
    by_cases hqn:q<=(ai x).length
    ·rw [show n=q from by rw [<- hn,UZ hqn]]
    ·have h3:=iy x
     have hlq:(ai x).length<=q:=VG (Nat.lt_of_not_le hqn)
     rw [show n=(ai x).length from by rw [<- hn,Xt hlq],VH h3]
     exact (VH (Ue h3 (Up zU hlq))).symm
   have h3:k=64*q+r:=by omega
   rw [hval,h1,h2,UX]
   congr 1
   rw [h3,UR,Xa]
  rw [eN hlim',e] at h4
  refine zW hl1 ?_
  exact ⟨v2,rfl,h4,zK⟩
end
theorem Jy {X w y:Nat}:X*B+y=X / w*B*w+(X % w*B+y):=by
 have h:=U2 X w
 generalize X / w=q at *
 generalize X % w=r at *
 subst h
 grind
section
variable {tab:Nat->Option aw} {H:Heap} {s:AV}
theorem sK (C:Code tab) (hw:Wf H) {sa:AV} (ha:One sa) :
  Ans tab (.fn cN [sa]) H fun v H'=>v=.fn (.func aZ) [] [.ptr H.next 0]/\H'.get H.next=some (.cells [sa] aG true)/\H.next+1<=H'.next/\Kp H H':=by
 refine cU C.q190 zU fun T hl g0=>?_
 refine zW (aC hl g0) ?_
 exact ⟨by omega,zK⟩
theorem DV (C:Code tab) {H0:Heap} {lb ba:Nat} {a:List Nat} {sa:AV} (J:Nat->Heap->Prop) (hla:a.length<4611686018427387904)
  (hk:Kp H0 H) (h0:J 0 H) (hup:∀ k H m,J k H->J k (H.up m)) (hA:∀ k H,J k H->H.get ba=some (.cells [sa] aG true)/\Lb H sa a)
  (hr:∀ i k H,i+k+1=a.length->Kp H0 H->J k H->Ans tab (.round lb [.int .i64 (i:Int),.int .u64 (a.getD i 0:Nat)]) H fun v H'=>v=.bool true/\Kp H0 H'/\J (k+1) H') :
  Ans tab (.ent aZ [.loopv lb,.ptr ba 0]) H fun _ H'=>Kp H0 H'/\J a.length H':=by
 refine St C.q194 zU fun T hl g0 g1=>?_
 obtain ⟨q1,q2⟩:=hA _ _ h0
 have hwr:IntKind.i64.wrap ((a.length:Int)-1)=(a.length:Int)-1:=by rw [wrap_i64] <;> omega
 refine zW (dV hl g0 g1 q1 q2.lenV hwr) ?_
 refine cp H0 [3] (fun m vs H'=>∃ k,k<=a.length/\m=a.length-k/\vs=[.int .i64 ((a.length:Int)-1-(k:Int))]/\J k H') a.length (by simp only [TH]; exact hl) rfl zK ⟨0,TY _,rfl,by exact zV (bS hl g0 g1 @NK @Int.sub_zero),hup _ _ _ h0⟩ ?_
 rintro m T1 H1 hl1 hs1 hk1 ⟨k,hka,rfl,hv,hJ⟩
 simp only [TP,TV,TR,and_true] at hv
 have w1:=hk1.wf
 have le_hk1:=hk1.le
 obtain ⟨q1,q2⟩:=hA _ _ hJ
 by_cases hkl:k=a.length
 ·have hneg:¬ (0:Int)<=(a.length:Int)-1-(k:Int):=by omega
  subst hkl
  refine zW (aD hl1 hv hneg) ?_
  exact ⟨zK,hup _ _ _ hJ⟩
 ·obtain ⟨i,hi⟩:∃ i,i+k+1=a.length:=⟨a.length-k-1,by omega⟩
  have hz:(a.length:Int)-1-(k:Int)=(i:Int):=by omega
  rw [hz] at hv
  have hpos:(0:Int)<=(i:Int):=by omega
  have t0:aa T1 0=.loopv lb:=(hs1.at_ 0 zU).trans (zV (aC hl g0))
  have t1:aa T1 1=.ptr ba 0:=(hs1.at_ 1 zU).trans (zV (aX hl g0 g1 g1))
  have x1:=Zv q2 .i64 i zO
  have d1:=fD q2 (i:=i) zO
  have hround:∀ m,Ans tab (.round lb [.int .i64 (i:Int),.int .u64 (a.getD i 0:Nat)]) (H1.up m) fun v H'=>v=.bool true/\Kp H0 H'/\J (k+1) H':=fun m=>hr i k _ hi (hk1.up m) (hup _ _ _ hJ)
  have hwi:IntKind.i64.wrap ((i:Int)-1)=(a.length:Int)-1-((k+1:Nat):Int):=by rw [wrap_i64] <;> omega
  refine zW (lA hl1 hv hpos t0 t1 q1 x1 d1) ?_
  refine Y4 (hround _) fun H2 ⟨k2,j2⟩=>?_
  refine zW (aD hl1 hv hwi) ?_
  exact ⟨zK,a.length-(k+1),by omega,k+1,by omega,rfl,rfl,hup _ _ _ j2⟩
theorem Fy (C:Code tab) (hw:Wf H) {a b:AV} {x y:Nat} (ha:cr H a x) (hb:cr H b y) (hx:Sm x) (hy:Sm y) (h0:0<y) :
  Ans tab (.fn oC [a,b]) H fun v H'=>v=.int .i64 0/\Kp H H':=by
 refine bz C.q180 zU fun T hl g0 g1=>?_
 refine zW (aD hl g0 g1) ?_
 refine Y4 (gV C zF (ha.mono (ZB H _)) hx) fun H2 hk2=>?_
 obtain ⟨k2,_,w2⟩:=zT H zK hk2
 refine zW (aD hl g0 g1) ?_
 refine Y4 (gV C zF (hb.mono k2.sub) hy) fun H3 hk3=>?_
 obtain ⟨k3,_,w3⟩:=zT H zK hk3
 have hlen:=bZ y
 have hne:¬ ((ai y).length:Int)=0:=by omega
 refine zW (bS hl g0 g1 hb.lenV hne) ?_
 exact zK
set_option maxHeartbeats 1000000 in
theorem NA (C:Code tab) (hw:Wf H) {a:AV} {x w:Nat} (ha:cr H a x) (hx:Sm x) (h0:0<w) (hwB:w<18446744073709551616) :
  Ans tab (.fn tQ [a,.int .u64 (w:Int)]) H fun v H'=>∃ q,v=.tup [q,.int .u64 ((x % w:Nat):Int),.int .i64 0]/\cr H' q (x / w)/\Kp H H':=by
 refine bz C.q181 zU fun T hl g0 g1=>?_
 have hwne:¬ (w:Int)=0:=by omega
 unfold Sm at hx
 obtain ⟨N,hN⟩:∃ N,(ai x).length=N:=⟨_,rfl⟩
 have hmk:∀ H' id,IF H' id ae 1 8 [.int .u64 0] (.int .i64 (N:Int)) (.int .i64 (N:Int))=some (.own id 0 N N 1 true,H'.put id (.cells (aL (List.replicate N 0)) ae true)):=fun H' id =>
  (jt H' id ae 1 8 [.int .u64 0] .i64 .i64 N zO zO rfl).trans (by rw [mU])
 have hal:lenV a=some (.int .i64 (N:Int)):=by have:=ha.lenV; rwa [hN] at this
 refine zW (aD hl g0 g1) ?_
 refine Y4 (gV C zF (ha.mono (zG H)) hx) fun H2 hk2=>?_
 obtain ⟨k2,_,w2⟩:=zT H zK hk2
 have n2:=hk2.le
 have p0:H2.get H.next=some (.cells [.int .u64 (w:Int)] ae true):=hk2.get (cP)
 have p1:H2.get (H.next+1)=some (.cells [.nilSl] aG true):=hk2.get (cP)
 have p2:H2.get (H.next+2)=some (.cells [.int .u64 0] ae true):=hk2.get (cP)
 have l0:=k2.wf _ _ p0
 have l1:=k2.wf _ _ p1
 have l2:=k2.wf _ _ p2
 refine zW (ko hl g0 g1 p0 p1 p2 hwne hal hmk) ?_
 refine Y5 (sK C zF ha.one) ?_
 rintro v H3 ⟨rfl,b1,hn3,hk3⟩
 simp only [next_put,da] at b1 hn3 ⊢
 obtain ⟨k3,_,w3⟩:=zT H zK hk3
 have q0:H3.get H.next=some (.cells [.int .u64 (w:Int)] ae true):=hk3.get (zV p0)
 have q1:H3.get (H.next+1)=some (.cells [.own (H2.next+5) 0 N N 1 true] aG true):=hk3.get (cP)
 have q2:H3.get (H.next+2)=some (.cells [.int .u64 0] ae true):=hk3.get (zV p2)
 have qb:H3.get (H2.next+5)=some (.cells (aL (List.replicate N 0)) ae true):=hk3.get (cP)
 have hz0:∀ j,(List.replicate N 0).getD j 0=0:=fun j=>by simp [TI,U4]; split <;> rfl
 have hxN:x / B^N=0:=VH (by rw [<- hN]; exact iy x)
 refine zW (aD hl g0 g1) ?_
 refine tF (fi:=aZ) (args:=[.loopv H3.next,.ptr (H2.next+9) 0]) (by refine zW (aD hl g0 g1) ?_; rfl) ?_
 generalize he:Ent.loop _ _ _ _ _ _=e0
 have k4:Kp H ((H3.up 1).put H3.next e0):=zK
 have le_k4:=k4.le
 refine (DV C (H0:=H) (a:=ai x) (sa:=a) (fun k H'=>H'.get H3.next=some e0/\H'.get H.next=some (.cells [.int .u64 (w:Int)] ae true)/\H'.get (H.next+1)=some (.cells [.own (H2.next+5) 0 N N 1 true] aG true) /\
   (∃ (out:List Nat) (r:Nat),H'.get (H2.next+5)=some (.cells (aL out) ae true)/\out.length=N/\Lim out/\H'.get (H.next+2)=some (.cells [.int .u64 (r:Int)] ae true)/\r=x / B^(N-k) % w/\val out=x / B^(N-k) / w*B^(N-k)/\∀ j,j<N-k->out.getD j 0=0) /\
   H'.get (H2.next+9)=some (.cells [a] aG true)/\Lb H' a (ai x)) zO k4
  ⟨by exact cP,by exact zV q0,by exact zV q1,⟨List.replicate N 0,0,by exact zV qb,by simp,Zn N,by refine zW q2 ?_; rfl,by rw [Yl,hxN,Nat.zero_mod],by rw [Yl,hxN,Nat.zero_div,Xb,fK],fun j _=>hz0 j⟩,by exact zV b1,ha.mono k4.sub⟩ (fun _ _ _ h=>h) (fun k H' h=>⟨h.2.2.2.2.1,h.2.2.2.2.2⟩) ?_).mono ?_
 ·rintro i k H1 hik hk1 ⟨j0,j1,j2,⟨out,r,j3,hlen,hlim,j4,hr,hval,hz⟩,j5,-⟩
  rw [<- he] at j0
  have lt0:=hk1.wf _ _ j0
  have lt1:=hk1.wf _ _ j1
  have lt2:=hk1.wf _ _ j2
  have lt3:=hk1.wf _ _ j3
  have lt4:=hk1.wf _ _ j4
  have hrw:r<w:=by rw [hr]; exact UL _ h0
  have hNk:N-k=i+1:=by omega
  have hNk1:N-(k+1)=i:=by omega
  have hiN:i<N:=by omega
  rw [hNk] at hr hval hz
  obtain ⟨y,hy⟩:∃ y,(ai x).getD i 0=y:=⟨_,rfl⟩
  have hyB:y<18446744073709551616:=by rw [<- hy]; exact (bC x).at i
  rw [hy]
  have w1:=hk1.wf
  have le_hk1:=hk1.le
  have hyd:y=x / B^i % B:=by rw [<- hy,iW]
  refine uk j0 rfl ?_
  refine zW (aX hl g0 g1 j0) ?_
  generalize he2:Ent.loop _ _ _ _ LoopState.busy none=e2
  refine aI ?_
  refine zD (lA hl g0 g1 j0 j1 j2 j3 j4) ?_
  refine Y5 (Bc C zF hrw hyB hwB) ?_
  rintro v H4 ⟨rfl,hk4'⟩
  have k5:Kp H H4:=Zi zK hk4'
  have le_k5:=k5.le
  have w4:=k5.wf
  have r0:H4.get H3.next=some e2:=hk4'.get (cP)
  have r1:H4.get H.next=some (.cells [.int .u64 (w:Int)] ae true):=hk4'.get (zV j1)
  have r2:H4.get (H.next+1)=some (.cells [.own (H2.next+5) 0 N N 1 true] aG true):=hk4'.get (zV j2)
  have r3:H4.get (H2.next+5)=some (.cells (aL out) ae true):=hk4'.get (zV j3)
  have r4:H4.get (H.next+2)=some (.cells [.int .u64 (r:Int)] ae true):=hk4'.get (zV j4)
  have r5:H4.get (H2.next+9)=some (.cells [a] aG true):=hk4'.get (zV j5)
  have lu0:=k5.wf _ _ r0
  have lu1:=k5.wf _ _ r1
  have lu2:=k5.wf _ _ r2
  have lu3:=k5.wf _ _ r3
  have lu4:=k5.wf _ _ r4
  refine zD (Bm hl g0 g1 j0 j1 j2 j3 j4 r0 r1 r2 r3 r4) ?_
  rw [TD]
  have hX:x / B^i=x / B^(i+1)*B+y:=by
   rw [hyd,Uy,<- UX,Uf]
   exact (U2 _ _).symm
  have hX2:x / B^i=x / B^(i+1) / w*B*w+(r*B+y):=by
   rw [hX,hr]; exact Jy
  have hq':(r*B+y) / w<B:=by
   apply (Uk h0).2
   have:(r+1)*B<=w*B:=T8 B hrw
   rw [UO] at this
   rw [Uf B]; unfold B at *; omega
  have hvs:=i8 (l:=out) (k:=i) (v:=(r*B+y) / w) zO
  rw [hz i zO,Wy,Vo,hval] at hvs
  have k6:Kp H (((H4.put (H2.next+5) (.cells (aL (out.set i ((r*B+y) / w))) ae true)).put (H.next+2) (.cells [.int .u64 (((r*B+y) % w:Nat):Int)] ae true)).put H3.next e0):=zK
  have le_k6:=k6.le
  refine zW (ko he2 he r0 r1 r2 r3 r4 r5 hNk1) ?_
  refine ⟨zK,⟨_,_,rfl,by simp [hlen],kS hlim hq',rfl,?_,?_,fun j hj=>?_⟩,ha.mono (zG H)⟩
  ·rw [hX2,Nat.mul_add_mod_self_right]
  ·rw [hvs,hX2,Wu (x / B^(i+1) / w*B*w),Xr _ _ h0,Uy]
   grind
  ·rw [bo zO]
   exact hz j zO
 ·rintro _ H' ⟨hk',j0,j1,j2,⟨out,r,j3,hlen,hlim,j4,hr,hval,-⟩,-⟩
  have hlt:=hk'.wf _ _ j0
  have lt1:=hk'.wf _ _ j1
  have lt2:=hk'.wf _ _ j2
  have lt3:=hk'.wf _ _ j3
  have lt4:=hk'.wf _ _ j4
  have w5:=hk'.wf
  have le_hk':=hk'.le
  refine .inl ⟨j0,?_⟩
  refine zW (aX hl g0 g1 hN) ?_
  rw [hN,XI,WP,YA] at hr hval
  rw [Vg] at hval
  refine aI ?_
  refine zD (gh hl g0 g1 j1 j2 j3 j4) ?_
  have n2':=k2.le
  have b6:((H'.up 6).kill H3.next).get (H2.next+5)=some (.cells (aL out) ae true):=by exact zV j3
  have w6:Wf (H'.up 6):=w5.bump 6
  have k6:Kp H (H'.up 6):=hk'.up 6
  have le_k6:=k6.le
  refine Y4 (pP C zF (rw':=true) hlen b6 zO) fun H5 hk5=>?_
  obtain ⟨k5,_,w5⟩:=zT H zK hk5
  have r1:H5.get (H.next+1)=some (.cells [.own (H2.next+5) 0 N N 1 true] aG true):=hk5.get (zV j2)
  have r2:H5.get (H.next+2)=some (.cells [.int .u64 (r:Int)] ae true):=hk5.get (zV j4)
  have r3:H5.get (H2.next+5)=some (.cells (aL out) ae true):=hk5.get b6
  have lu1:=k5.wf _ _ r1
  have lu2:=k5.wf _ _ r2
  obtain ⟨E,hE⟩:=rQ out
  rw [eN hlim,hval] at hE ⊢
  refine zD (ko hl g0 g1 j1 j2 j3 j4 r1 r2) ?_
  rw [hr]
  refine ⟨_,rfl,Da (E:=E) (rw':=true) ?_,zK⟩
  rw [<- hE]
  exact zV r3
end
theorem BL {tab:Nat->Option aw} {rd:Bool} {a rest:ACode} {l:Nat} {T:Tm} {H:Heap} {Q:Ex->Tm->Heap->Prop} (h:WC tab rd a T H (My Q)):WC tab rd (.scopeL a l rest) T H Q:=by
 obtain ⟨x,T',H',⟨N,g⟩,hq⟩:=eB a T H _ h.run
 refine ⟨show ∃ x T' H',Ob tab rd (.scopeL a l rest) T H x T' H'/\Q x T' H' from ⟨x,T',H',⟨N,fun m n hm hn=>?_⟩,?_⟩⟩
 ·simp only [aJ,g m n hm hn]
  cases x <;> first | rfl | exact hq.elim
 ·cases x <;> first | exact hq | exact hq.elim
theorem oI:∀ {l:List Nat} (_:Lim l) (j:Nat),l.getD j 0=val l / B^j % B
 | [],_,j=>by simp [val]
 | a :: t,h,0=>by
  have:=h.head
  simp only [Wl,val,WP,YA,Wo]
  exact (UE this).symm
 | a :: t,h,j+1=>by
  have ih:=oI h.tail j
  have ha:=h.head
  rw [Vt,ih]
  simp only [val]
  rw [Uy,Uf (B^j),<- UX,YB _ _ zU,VH ha,Ut]
structure Dv (H:Heap) (d rb bb M n:Nat) (x1:Bool) (R L:List Nat):Prop where
 hd:H.get d=some (.cells [.own rb 0 M M 1 x1,.own bb 0 n n 1 true] fL true)
 hr:H.get rb=some (.cells (aL R) ae true)
 hb:H.get bb=some (.cells (aL L) ae true)
 lr:R.length=M
 ll:n<=L.length
 ne:rb≠bb
 limR:Lim R
 limL:Lim L
def FrX (b:Nat) (H H':Heap):Prop:=∀ c e,c≠b->H.get c=some e->H'.get c=some e
theorem FrX.trans {b:Nat} {H H' H'':Heap} (h:FrX b H H') (h':FrX b H' H''):FrX b H H'':=fun c e hc he=>h' c e hc (h c e hc he)
theorem Dv.up {H:Heap} {d rb bb M n:Nat} {x1:Bool} {R L:List Nat} (h:Dv H d rb bb M n x1 R L) (k:Nat):Dv (H.up k) d rb bb M n x1 R L:=⟨h.hd,h.hr,h.hb,h.lr,h.ll,h.ne,h.limR,h.limL⟩
theorem Dv.kp {H H':Heap} {d rb bb M n:Nat} {x1:Bool} {R L:List Nat} (h:Dv H d rb bb M n x1 R L) (hk:Kp H H'):Dv H' d rb bb M n x1 R L:=⟨hk.get h.hd,hk.get h.hr,hk.get h.hb,h.lr,h.ll,h.ne,h.limR,h.limL⟩
theorem Dv.put {H:Heap} {d rb bb M n b:Nat} {x1:Bool} {R L:List Nat} {e:Ent} (h:Dv H d rb bb M n x1 R L) (h1:d≠b) (h2:rb≠b) (h3:bb≠b):Dv (H.put b e) d rb bb M n x1 R L:=⟨by rw [aA h1]; exact h.hd,by rw [aA h2]; exact h.hr,by rw [aA h3]; exact h.hb,h.lr,h.ll,h.ne,h.limR,h.limL⟩
theorem Dv.ndr {H:Heap} {d rb bb M n:Nat} {x1:Bool} {R L:List Nat} (h:Dv H d rb bb M n x1 R L):d≠rb:=fun e=>by
 have h1:=h.hd
 rw [e,h.hr] at h1
 injection h1 with h1; injection h1 with _ h2; exact absurd h2 zU
section
variable {b V W P f sec th hi un q r N:Nat}
theorem Hq (hV:(hi*b+un)*P<=V) (hW:W<(N*b+th+1)*P) (e:q*hi+r=N) (h:r*b+th<q*un) (hV0:0<V):0<q/\W / V<=q-1:=by
 have h1:W<q*V:=by
  refine Ue hW ?_
  refine Ub (T8 P ?_) (Ub (Wt (UD q (hi*b+un) P)) (V2 q hV))
  rw [<- e,UQ,UO,<- UD]
  omega
 have h2:W / V<q:=(Uk hV0).2 h1
 exact ⟨UW (TY _) h2,W0 h2⟩
theorem Hr (hV:(hi*b+un)*P<=V) (hW:W<(N*b+th+1)*P) (ht:th<b) (hf:0<hi) (hV0:0<V):W / V<=N / hi:=by
 apply Wx
 apply (Uk hV0).2
 have h0:=U2 N hi
 have h1:=UL N hf
 have h2:N+1<=(N / hi+1)*hi:=by
  rw [UO,WL,Uf (N / hi)]
  generalize hi*(N / hi)=t at *
  omega
 refine Ue hW ?_
 refine Ub (T8 P ?_) (Ub (Wt (UD (N / hi+1) (hi*b+un) P)) (V2 _ hV))
 have h3:=T8 b h2
 rw [UQ,<- UD]
 have h4:(N+1)*b=N*b+b:=by rw [UO,WL]
 refine Ub ?_ (Ub h3 (Uu _ _))
 rw [h4]
 exact YG ht _
theorem QT (hs:sec<b) (hf:f<hi) (h0:0<b):(f*b+sec) / hi<b:=by
 apply (Uk zO).2
 have h1:(f+1)*b<=hi*b:=T8 b hf
 rw [UO,WL] at h1
 rw [Uf b]; omega
end
structure GuessH (V W P f sec th hi un:Nat):Prop where
 hV:(hi*B+un)*P<=V
 hW:W<((f*B+sec)*B+th+1)*P
 hWV:W<V*B
 hV0:0<V
structure GuessI (V W f sec hi q r:Nat):Prop where
 e:q*hi+r=f*B+sec
 ge:W / V<=q
section
variable {V W P f sec th hi un q r ov lw:Nat}
theorem GuessI.step (G:GuessH V W P f sec th hi un) (I:GuessI V W f sec hi q r) (h:r*B+th<q*un):0<q/\GuessI V W f sec hi (q-1) (r+hi):=by
 obtain ⟨h1,h2⟩:=Hq G.hV G.hW I.e h G.hV0
 refine ⟨h1,?_,h2⟩
 have h3:q*hi=(q-1)*hi+hi:=by
  obtain ⟨t,rfl⟩:∃ t,q=t+1:=⟨q-1,by omega⟩
  rw [Vr,VP]
 have:=I.e
 rw [h3] at this
 rw [<- this,US,Wu hi]
theorem GuessI.init (G:GuessH V W P f sec th hi un) (ht:th<B) (hs:sec<B) (hf:f<hi):GuessI V W f sec hi ((f*B+sec) / hi) ((f*B+sec) % hi)/\(f*B+sec) / hi<B:=by
 refine ⟨⟨?_,Hr G.hV G.hW ht (UW (TY _) hf) G.hV0⟩,QT hs hf zU⟩
 rw [Uf]; exact U2 _ _
theorem GuessH.max (G:GuessH V W P f sec th hi un):W / V<=18446744073709551615:=by
 have h:=G.hWV
 rw [Uf] at h
 exact Wx ((Uk G.hV0).2 h)
theorem O7 (e1:q*un / B=ov) (ht:th<B) (c:r<ov):r*B+th<q*un:=by
 have h:=U2 (q*un) B
 rw [e1] at h
 rw [<- h]
 have h2:(r+1)*B<=ov*B:=T8 B c
 rw [UO,WL,Uf ov] at h2
 refine Ue (XH ht _) (Ub h2 (Uu _ _))
theorem O8 (e1:q*un / B=ov) (e2:q*un % B=lw) (c:th<lw):ov*B+th<q*un:=by
 have h:=U2 (q*un) B
 rw [e1,e2] at h
 rw [<- h,Uf]
 exact XH c _
end
section
variable {tab:Nat->Option aw} {H:Heap}
set_option maxHeartbeats 1000000 in
theorem KU (C:Code tab) (hw:Wf H) {d rb bb M m at':Nat} {x1:Bool} {R L:List Nat} (D:Dv H d rb bb M (m+2) x1 R L) (hat:at'+(m+2)<M) (hM:M<2199023255552)
  {V W P:Nat} (G:GuessH V W P (R.getD (at'+(m+2)) 0) (R.getD (at'+(m+1)) 0) (R.getD (at'+m) 0) (L.getD (m+1) 0) (L.getD m 0)) :
  Ans tab (.fn fX [.ptr d 0,.int .i64 (at':Int)]) H fun v H'=>∃ q:Nat,v=.int .u64 (q:Int)/\q<B/\W / V<=q/\Kp H H':=by
 obtain ⟨hd,hr,hb,lr,ll,ne,limR,limL⟩:=D
 refine bz C.q184 zU fun T hl g0 g1=>?_
 obtain ⟨hi,ehi⟩:∃ hi,L.getD (m+1) 0=hi:=⟨_,rfl⟩
 obtain ⟨un,eun⟩:∃ un,L.getD m 0=un:=⟨_,rfl⟩
 obtain ⟨f,ef⟩:∃ f,R.getD (at'+(m+2)) 0=f:=⟨_,rfl⟩
 obtain ⟨sec,es⟩:∃ sec,R.getD (at'+(m+1)) 0=sec:=⟨_,rfl⟩
 obtain ⟨th,et⟩:∃ th,R.getD (at'+m) 0=th:=⟨_,rfl⟩
 have hiB:hi<B:=ehi ▸ limL.at _
 have unB:un<B:=eun ▸ limL.at _
 have fB:f<B:=ef ▸ limR.at _
 have seB:sec<B:=es ▸ limR.at _
 have thB:th<B:=et ▸ limR.at _
 rw [ehi,eun,ef,es,et] at G
 have hw1:IntKind.i64.wrap ((at':Int)+((m+2:Nat):Int))=((at'+(m+2):Nat):Int):=by rw [wrap_i64] <;> omega
 have hw2:IntKind.i64.wrap (((at'+(m+2):Nat):Int)-1)=((at'+(m+1):Nat):Int):=by rw [wrap_i64] <;> omega
 have hw3:IntKind.i64.wrap (((at'+(m+2):Nat):Int)-2)=((at'+m:Nat):Int):=by rw [wrap_i64] <;> omega
 have hw4:IntKind.i64.wrap (((m+2:Nat):Int)-1)=((m+1:Nat):Int):=by rw [wrap_i64] <;> omega
 have hw5:IntKind.i64.wrap (((m+2:Nat):Int)-2)=(m:Int):=by rw [wrap_i64] <;> omega
 refine zW (aD hl g0 g1) ?_
 refine BL ?_
 refine zW (aX hl g0 g1 hd) ?_
 refine aI ?_
 refine zD (yU hl g0 g1 hd hr hb hw1 hw2 hw4 ef es ehi) ?_
 refine iteH.split (fun h1=>?_) fun h1=>?_
 ·simp only [iR,kz,iQ,mm,V6,VQ]
  refine zW (aD hl g0 g1) ?_
  exact ⟨18446744073709551615,by simp,by decide,G.max,zK⟩
 ·simp only [iR,kz,iQ,mm,V6,VQ]
  refine zW (aD hl g0 g1) ?_
  refine Y5 (Bc C zF zO seB hiB) ?_
  rintro v H2 ⟨rfl,hk2⟩
  obtain ⟨k2,_,w2⟩:=zT H zK hk2
  have d2:=k2.get hd
  have r2:=k2.get hr
  have b2:=k2.get hb
  refine zW (aD hl g0 g1) ?_
  refine aI ?_
  refine zD (oF hl g0 g1 d2 r2 b2 hw1 hw3 hw5 eun et) ?_
  refine BL ?_
  refine zW (aD hl g0 g1) ?_
  obtain ⟨I0,hq0⟩:=GuessI.init G thB seB zO
  have hr0:(f*B+sec) % hi<B:=XK (UL _ zO) hiB
  obtain ⟨q0,eq0⟩:∃ q0,(f*B+sec) / hi=q0:=⟨_,rfl⟩
  obtain ⟨r0,er0⟩:∃ r0,(f*B+sec) % hi=r0:=⟨_,rfl⟩
  rw [eq0] at I0 hq0
  rw [er0] at I0 hr0
  simp only [eq0,er0]
  clear eq0 er0
  refine cp H [9,10] (fun k vs H'=>∃ q r:Nat,vs=[.int .u64 (q:Int),.int .u64 (r:Int)]/\k=q/\GuessI V W f sec hi q r/\r<B/\q<B) q0 (by simp only [TH]; exact hl) rfl zK ⟨_,_,by exact zV (aD hl g0 g1),rfl,I0,hr0,hq0⟩ ?_
  rintro k T1 H1 hl1 hs1 hk1 ⟨q,r,hv,hkq,I,hrB,hqB⟩
  obtain rfl:=hkq.symm
  simp only [TP,TV,TR,and_true] at hv
  obtain ⟨v9,v10⟩:=hv
  have w1:=hk1.wf
  have le_hk1:=hk1.le
  have u8:aa T1 8=.int .u64 (hi:Int):=(hs1.at_ 8 zU).trans (zV (aD hl g0 g1))
  have u11:aa T1 11=.int .u64 (un:Int):=(hs1.at_ 11 zU).trans (zV (aD hl g0 g1))
  have u12:aa T1 12=.int .u64 (th:Int):=(hs1.at_ 12 zU).trans (zV (aD hl g0 g1))
  refine zW (dV hl1 v9 v10 u8 u11 u12) ?_
  refine Y5 (pT C zF hqB unB) ?_
  rintro v H3 ⟨rfl,hk3⟩
  obtain ⟨k3,_,w3⟩:=zT H zK hk3
  obtain ⟨ov,eov⟩:∃ ov,q*un / B=ov:=⟨_,rfl⟩
  obtain ⟨lw,elw⟩:∃ lw,q*un % B=lw:=⟨_,rfl⟩
  rw [eov,elw]
  have s1:r<ov->0<q/\GuessI V W f sec hi (q-1) (r+hi):=fun c=>I.step G (O7 eov thB c)
  have s2:ov=r->th<lw->0<q/\GuessI V W f sec hi (q-1) (r+hi):=fun c c'=>I.step G (by rw [<- c]; exact O8 eov elw c')
  clear eov elw
  by_cases c1:ov<r
  ·refine zW (gh hl1 v9 v10 u8 u11 u12 @c1) ?_
   exact ⟨q,rfl,hqB,I.ge,zK⟩
  ·by_cases c2:ov=r
   ·by_cases c3:lw<=th
    ·subst c2
     refine zW (lA hl1 v9 v10 u8 u11 u12 @c1 c3) ?_
     exact ⟨q,rfl,hqB,I.ge,zK⟩
    ·obtain ⟨p1,I2⟩:=s2 c2 zO
     clear s1 s2
     subst c2
     have z1:=tz (a:=q) p1 hqB
     refine zW (ko hl1 v9 v10 u8 u11 u12 @c1 c3 z1) ?_
     refine Y4 (iZ C _ ov hi 0 hrB hiB zO) fun H4 e4=>?_
     subst e4
     have ef1:(fe ov hi 0).1=(ov+hi) % B:=by simp [fe]
     have ef2:(fe ov hi 0).2=(ov+hi) / B:=by simp [fe]
     refine zW (ko hl1 v9 v10 u8 u11 u12 z1 ef1 ef2) ?_
     refine iteH.split (fun h=>?_) fun h=>?_
     ·have hlt':ov+hi<B:=by unfold B at *; omega
      refine zW (ko hl1 v9 v10 u8 u11 u12 z1 ef1 ef2) ?_
      exact ⟨zK,q-1,by omega,q-1,ov+hi,by rw [UE hlt'],rfl,I2,hlt',by omega⟩
     ·refine zW (ko hl1 v9 v10 u8 u11 u12 z1 ef1 ef2) ?_
      exact ⟨q-1,rfl,by omega,I2.ge,zK⟩
   ·obtain ⟨p1,I2⟩:=s1 zO
    have z1:=tz (a:=q) p1 hqB
    refine zW (ko hl1 v9 v10 u8 u11 u12 @c1 @c2 z1) ?_
    refine Y4 (iZ C _ r hi 0 hrB hiB zO) fun H4 e4=>?_
    subst e4
    have ef1:(fe r hi 0).1=(r+hi) % B:=by simp [fe]
    have ef2:(fe r hi 0).2=(r+hi) / B:=by simp [fe]
    refine zW (ko hl1 v9 v10 u8 u11 u12 z1 ef1 ef2) ?_
    refine iteH.split (fun h=>?_) fun h=>?_
    ·have hlt':r+hi<B:=by unfold B at *; omega
     refine zW (ko hl1 v9 v10 u8 u11 u12 z1 ef1 ef2) ?_
     exact ⟨zK,q-1,by omega,q-1,r+hi,by rw [UE hlt'],rfl,I2,hlt',by omega⟩
    ·refine zW (ko hl1 v9 v10 u8 u11 u12 z1 ef1 ef2) ?_
     exact ⟨q-1,rfl,by omega,I2.ge,zK⟩
end
theorem FrX.kp {b k:Nat} {H H1 H2:Heap} (h:FrX b H H1) (hk:Kp (H1.up k) H2):FrX b H H2:=fun c e hc he=>hk.get (h c e hc he)
theorem FrX.put {b:Nat} {e':Ent} {H H1:Heap} (h:FrX b H H1):FrX b H (H1.put b e'):=fun c e hc he=>by rw [aA hc]; exact h c e hc he
theorem FrX.up {b:Nat} {H H1:Heap} (h:FrX b H H1) (k:Nat):FrX b H (H1.up k):=h
theorem FrX.up0 (b k:Nat) (H:Heap):FrX b H (H.up k):=fun _ _ _ h=>h
theorem NL {p c:Nat} (hp:p<=340282366920938463426481119284349108225) (hc:c<18446744073709551616) :
  (p / 18446744073709551616+(p % 18446744073709551616+c) / 18446744073709551616) % 18446744073709551616=(p+c) / 18446744073709551616/\(p % 18446744073709551616+c) % 18446744073709551616=(p+c) % 18446744073709551616/\(p+c) / 18446744073709551616<18446744073709551616:=by omega
theorem O6 {x y:Nat} (hx:x<B) (hy:y<B):x*y<=340282366920938463426481119284349108225 :=
 Ub (Vj (Wx hx) (Wx hy)) zU
theorem IX {o w l:Nat} (ho:o<18446744073709551616) (hw:w<18446744073709551616) (hl:l<=1):o+(jw o w l).2*18446744073709551616=(jw o w l).1+w+l/\(jw o w l).1<18446744073709551616:=by
 unfold jw B
 simp only
 split <;> omega
theorem qm:∀ {l:List Nat} {m:Nat},Lim l->(∀ i,m<=i->l.getD i 0=0)->val l<B^m
 | [],m,_,_=>by simp only [val]; exact UF zU
 | a :: t,0,h,hz=>by
  have h0:=hz 0 (TO _)
  simp only [Wl] at h0
  have:=qm (l:=t) (m:=0) h.tail fun i _=>by have:=hz (i+1) (TY _); rwa [Vt] at this
  simp only [WP] at this
  have h1:val t=0:=Nat.lt_one_iff.1 this
  simp only [val,h0,h1,WP]
  decide
 | a :: t,m+1,h,hz=>by
  have ih:=qm (l:=t) (m:=m) h.tail fun i hi=>by have:=hz (i+1) zO; rwa [Vt] at this
  have ha:=h.head
  simp only [val,Uy]
  have h2:(val t+1)*B<=B^m*B:=T8 B ih
  rw [UO,WL,Uf] at h2
  refine Ue ?_ h2
  rw [Wu]
  exact XH ha _
structure TakeI (a q X j:Nat) (L out:List Nat) (c l:Nat):Prop where
 e:val out+B^a*(q*val (L.take j))=X+B^(a+j)*(c+l)
theorem Mo {P A X vo vo' b c l c' l' o o' w qy:Nat} (e:vo+A=X+P*(c+l)) (hv:vo'+P*o=vo+P*o') (h1:qy+c=c'*b+w) (h2:o+l'*b=o'+w+l):vo'+(A+P*qy)=X+P*(c'*b+l'*b):=by
 have e4:=congrArg (P * ·) h1
 have e5:=congrArg (P * ·) h2
 simp only [UQ] at e e4 e5 ⊢
 generalize P*qy=x1 at *
 generalize P*(c'*b)=x2 at *
 generalize P*(l'*b)=x3 at *
 generalize P*o=x4 at *
 generalize P*o'=x5 at *
 generalize P*w=x6 at *
 generalize P*l=x7 at *
 generalize P*c=x8 at *
 omega
theorem Mp {P A X vo vo' b c l l' o o':Nat} (e:vo+A=X+P*(c+l)) (hv:vo'+P*o=vo+P*o') (h2:o+l'*b=o'+c+l):vo'+A=X+P*(l'*b):=by
 have e5:=congrArg (P * ·) h2
 simp only [UQ] at e e5
 generalize P*(l'*b)=x3 at *
 generalize P*o=x4 at *
 generalize P*o'=x5 at *
 generalize P*l=x7 at *
 generalize P*c=x8 at *
 omega
theorem TakeI.step {a q X j c l c' l' o' w:Nat} {L out:List Nat} (I:TakeI a q X j L out c l) (hj:a+j<out.length) (h1:q*L.getD j 0+c=c'*B+w) (h2:out.getD (a+j) 0+l'*B=o'+w+l):TakeI a q X (j+1) L (out.set (a+j) o') c' l':=by
 refine ⟨?_⟩
 have hv:=i8 (l:=out) (k:=a+j) (v:=o') hj
 have:=Mo I.e hv h1 h2
 rw [cW,UQ,UQ]
 have e2:B^a*(q*(B^j*L.getD j 0))=B^(a+j)*(q*L.getD j 0):=by rw [UR,Xg q,UD]
 have e3:B^(a+(j+1))*(c'+l')=B^(a+j)*(c'*B+l'*B):=by rw [<- US,Uy,UD,Uf B,UO]
 rw [e2,e3]
 exact this
section
variable {tab:Nat->Option aw} {H:Heap}
set_option maxHeartbeats 1000000 in
theorem Ny (C:Code tab) {H0:Heap} (hk:Kp H0 H) {d rb bb M n a q X:Nat} {x1:Bool} {R L:List Nat} (D:Dv H d rb bb M n x1 R L) (hrb:H0.next<=rb) (hat:a+n<M) (hM:M<2199023255552) (hq:q<18446744073709551616) (hX:val R=X) (hz:∀ i,a+n<i->R.getD i 0=0) :
  Ans tab (.fn gE [.ptr d 0,.int .u64 (q:Int),.int .i64 (a:Int)]) H fun v H'=>∃ (R':List Nat) (l:Nat),v=.bool (decide (0<l))/\l<=1/\Dv H' d rb bb M n x1 R' L/\val R'+B^a*(q*val (L.take n))=X+B^(a+n+1)*l/\(∀ i,a+n<i->R'.getD i 0=0)/\Kp H0 H'/\FrX rb H H':=by
 have ndr:=D.ndr
 obtain ⟨hd,hr,hb,lr,ll,ne,limR,limL⟩:=D
 have w0:=hk.wf
 have le_hk:=hk.le
 have hI0:TakeI a q X 0 L R 0 0:=⟨by simp [val,hX]⟩
 clear hX
 refine nd C.q185 zU fun T hl g0 g1 g2=>?_
 refine zW (bS hl g0 g1 g2 hd) ?_
 refine am H0 [7,8] (fun j vs H'=>∃ (out:List Nat) (c l:Nat),vs=[.int .u64 (c:Int),.int .u64 (l:Int)]/\H'.get rb=some (.cells (aL out) ae true)/\out.length=M/\Lim out/\c<18446744073709551616/\l<=1/\TakeI a q X j L out c l/\(∀ i,a+n<i->out.getD i 0=0)/\FrX rb H H') (a:=0) (N:=n) rfl (by refine zW (aX hl g0 g1 g2) ?_; rfl) (zV (aX hl g0 g1 g2)) (TY _) zO (by simp only [TH,hl]; rfl) rfl (fun _ _ _ _ h=>h) zK
  ⟨R,0,0,by refine zW (aX hl g0 g1 g2) ?_; rfl,by exact zV hr,lr,limR,by decide,TY _,hI0,hz,FrX.up0 _ _ _⟩ ?_ ?_
 ·rintro j T1 H1 _ hj hl1 hi1 hs1 hk1 ⟨out,c,l,hv,b0,hlen,hlim,hc,hl',I,hz1,hfr⟩
  simp only [TH,hl] at hl1
  simp only [TP,TV,TR,and_true] at hv
  obtain ⟨v7,v8⟩:=hv
  have w1:=hk1.wf
  have le_hk1:=hk1.le
  have d1:H1.get d=some (.cells [.own rb 0 M M 1 x1,.own bb 0 n n 1 true] fL true):=hfr _ _ ndr hd
  have b1:H1.get bb=some (.cells (aL L) ae true):=hfr _ _ (Ne.symm ne) hb
  have t0:aa T1 0=.ptr d 0:=(hs1.at_ 0 zU).trans (zV (aC hl g0))
  have t1:aa T1 1=.int .u64 (q:Int):=(hs1.at_ 1 zU).trans (zV (bS hl g0 g1 g2 g1))
  have t2:aa T1 2=.int .i64 (a:Int):=(hs1.at_ 2 zU).trans (zV (bS hl g0 g1 g2 g2))
  have t18:aa T1 18=.own bb 0 n n 1 true:=(hs1.at_ 18 zU).trans (zV (aX hl g0 g1 g2))
  obtain ⟨y,hy⟩:∃ y,L.getD j 0=y:=⟨_,rfl⟩
  have hyB:y<18446744073709551616:=by rw [<- hy]; exact limL.at j
  obtain ⟨o,ho⟩:∃ o,out.getD (a+j) 0=o:=⟨_,rfl⟩
  have hoB:o<18446744073709551616:=by rw [<- ho]; exact hlim.at _
  refine zW (qi hl1 v7 v8 t0 t1 t2 t18 hi1 b1 hy) ?_
  refine Y5 (pT C zF hq hyB) ?_
  rintro v H2 ⟨rfl,hk2⟩
  obtain ⟨k2,_,w2⟩:=zT H0 zK hk2
  have hfr2:FrX rb H H2:=hfr.kp hk2
  have d2:=hfr2 _ _ ndr hd
  have r2:H2.get rb=some (.cells (aL out) ae true):=hk2.get b0
  have lt2:=k2.wf _ _ r2
  obtain ⟨q1,q2,q3⟩:=NL (O6 hq hyB) hc
  have hlw:(q*y+c) % 18446744073709551616<18446744073709551616:=UL _ zU
  have hdm:=U2 (q*y+c) 18446744073709551616
  obtain ⟨c',ec⟩:∃ c',(q*y+c) / 18446744073709551616=c':=⟨_,rfl⟩
  obtain ⟨lw,ew⟩:∃ lw,(q*y+c) % 18446744073709551616=lw:=⟨_,rfl⟩
  rw [ec] at q1 q3 hdm
  rw [ew] at q2 hlw hdm
  obtain ⟨f1,f2⟩:=IX (o:=o) (w:=lw) (l:=l) hoB hlw hl'
  have hl2:=uW o lw l
  obtain ⟨o',eo'⟩:∃ o',(jw o lw l).1=o':=⟨_,rfl⟩
  obtain ⟨l2,el2⟩:∃ l2,(jw o lw l).2=l2:=⟨_,rfl⟩
  rw [eo',el2] at f1
  rw [eo'] at f2
  rw [el2] at hl2
  have I2:TakeI a q X (j+1) L (out.set (a+j) o') c' l2:=I.step zO (w:=lw) (by rw [hy,<- hdm,Uf]) (by rw [ho]; exact f1)
  clear hdm f1
  have hwj:IntKind.i64.wrap ((a:Int)+(j:Int))=((a+j:Nat):Int):=by rw [wrap_i64] <;> omega
  refine zW (lA hl1 v7 v8 t0 t1 t2 t18 hi1) ?_
  refine Y4 (iZ C _ (q*y % B) c 0 (UL _ zU) hc zO) fun H3 e3=>?_
  subst e3
  have ef1:(fe (q*y % B) c 0).1=lw:=by simp only [fe,Vo]; exact q2
  have ef2:(fe (q*y % B) c 0).2=(q*y % 18446744073709551616+c) / 18446744073709551616:=by simp only [fe,Vo]
  refine zW (oF hl1 v7 v8 t0 t1 t2 t18 hi1 ef1 ef2 q1) ?_
  clear ef1 ef2 q1 q2
  refine aI ?_
  refine zD (yU hl1 v7 v8 t0 t1 t2 t18 hi1 d2 r2 hwj ho) ?_
  refine Y4 (xu C _ o lw l hoB hlw hl') fun H4 e4=>?_
  subst e4
  rw [eo',el2]
  refine zD (yU hl1 v7 v8 t0 t1 t2 t18 hi1 d2 r2 hwj ho) ?_
  refine ⟨zK,_,_,_,rfl,rfl,by simp [hlen],kS hlim f2,q3,hl2,I2,fun i hi=>?_,(hfr2.up _).put⟩
  rw [bo zO]
  exact hz1 i hi
 ·rintro T1 H1 hl1 hs1 hk1 ⟨out,c,l,hv,b0,hlen,hlim,hc,hl',I,hz1,hfr⟩
  simp only [TH,hl] at hl1
  simp only [TP,TV,TR,and_true] at hv
  obtain ⟨v7,v8⟩:=hv
  have w1:=hk1.wf
  have le_hk1:=hk1.le
  have lt1:=hk1.wf _ _ b0
  have d1:H1.get d=some (.cells [.own rb 0 M M 1 x1,.own bb 0 n n 1 true] fL true):=hfr _ _ ndr hd
  have t0:aa T1 0=.ptr d 0:=(hs1.at_ 0 zU).trans (zV (aC hl g0))
  have t2:aa T1 2=.int .i64 (a:Int):=(hs1.at_ 2 zU).trans (zV (bS hl g0 g1 g2 g2))
  have hwn:IntKind.i64.wrap ((a:Int)+(n:Int))=((a+n:Nat):Int):=by rw [wrap_i64] <;> omega
  obtain ⟨o,ho⟩:∃ o,out.getD (a+n) 0=o:=⟨_,rfl⟩
  have hoB:o<18446744073709551616:=by rw [<- ho]; exact hlim.at _
  obtain ⟨f1,f2⟩:=IX (o:=o) (w:=c) (l:=l) hoB hc hl'
  have hl2:=uW o c l
  obtain ⟨o',eo'⟩:∃ o',(jw o c l).1=o':=⟨_,rfl⟩
  obtain ⟨l2,el2⟩:∃ l2,(jw o c l).2=l2:=⟨_,rfl⟩
  rw [eo',el2] at f1
  rw [eo'] at f2
  rw [el2] at hl2
  have hval:val (out.set (a+n) o')+B^a*(q*val (L.take n))=X+B^(a+n+1)*l2:=by
   have hv:=i8 (l:=out) (k:=a+n) (v:=o') zO
   rw [ho] at hv
   have:=Mp I.e hv f1
   rw [this,Uy,UD,Uf l2]
  clear f1 I
  refine zW (gh hl1 t0 t2 v7 v8 d1 hwn) ?_
  refine aI ?_
  refine zD (ko hl1 t0 t2 v7 v8 d1 @b0 hwn ho) ?_
  refine Y4 (xu C _ o c l hoB hc hl') fun H4 e4=>?_
  subst e4
  rw [eo',el2]
  refine zD (ko hl1 t0 t2 v7 v8 d1 @b0 hwn ho) ?_
  refine ⟨_,l2,rfl,hl2,⟨?_,aq _ _ _,?_,by simp [hlen],ll,ne,kS hlim f2,limL⟩,hval,fun i hi=>?_,zK,(hfr.up _).put⟩
  ·exact zV d1
  ·rw [aA (Ne.symm ne)]
   exact hfr _ _ (Ne.symm ne) hb
  ·rw [bo zO]
   exact hz1 i hi
end
theorem I3 {o y c:Nat} (ho:o<18446744073709551616) (hy:y<18446744073709551616) (hc:c<=1):o+y+c=(fe o y c).1+(fe o y c).2*18446744073709551616/\(fe o y c).1<18446744073709551616:=by
 unfold fe B
 simp only
 omega
theorem FW {P A X vo vo' b c c' o o' y:Nat} (e:vo+P*c=X+A) (hv:vo'+P*o=vo+P*o') (h:o+y+c=o'+c'*b):vo'+P*(c'*b)=X+(A+P*y):=by
 have e5:=congrArg (P * ·) h
 simp only [UQ] at e e5 ⊢
 generalize P*(c'*b)=x3 at *
 generalize P*o=x4 at *
 generalize P*o'=x5 at *
 generalize P*y=x7 at *
 generalize P*c=x8 at *
 omega
structure BackI (a X j:Nat) (L out:List Nat) (c:Nat):Prop where
 e:val out+B^(a+j)*c=X+B^a*val (L.take j)
theorem BackI.step {a X j c c' o':Nat} {L out:List Nat} (I:BackI a X j L out c) (hj:a+j<out.length) (h:out.getD (a+j) 0+L.getD j 0+c=o'+c'*B):BackI a X (j+1) L (out.set (a+j) o') c':=by
 refine ⟨?_⟩
 have hv:=i8 (l:=out) (k:=a+j) (v:=o') hj
 have:=FW I.e hv h
 rw [cW,UQ,<- UD (B^a),<- UR]
 have e3:B^(a+(j+1))*c'=B^(a+j)*(c'*B):=by rw [<- US,Uy,UD,Uf B]
 rw [e3]
 exact this
section
variable {tab:Nat->Option aw} {H:Heap}
set_option maxHeartbeats 1000000 in
theorem Nz (C:Code tab) {H0:Heap} (hk:Kp H0 H) {d rb bb M n a X:Nat} {x1:Bool} {R L:List Nat} (D:Dv H d rb bb M n x1 R L) (hrb:H0.next<=rb) (hat:a+n<M) (hM:M<2199023255552) (hX:val R=X) (hz:∀ i,a+n<i->R.getD i 0=0) :
  Ans tab (.fn gF [.ptr d 0,.int .i64 (a:Int)]) H fun v H'=>∃ (R':List Nat) (c:Nat),v=.bool (decide (0<c))/\c<=1/\Dv H' d rb bb M n x1 R' L/\val R'+B^(a+n+1)*c=X+B^a*val (L.take n)/\(∀ i,a+n<i->R'.getD i 0=0)/\Kp H0 H'/\FrX rb H H':=by
 have ndr:=D.ndr
 obtain ⟨hd,hr,hb,lr,ll,ne,limR,limL⟩:=D
 have w0:=hk.wf
 have le_hk:=hk.le
 have hI0:BackI a X 0 L R 0:=⟨by simp [val,hX]⟩
 clear hX
 refine bz C.q186 zU fun T hl g0 g1=>?_
 refine zW (aX hl g0 g1 hd) ?_
 refine am H0 [5] (fun j vs H'=>∃ (out:List Nat) (c:Nat),vs=[.int .u64 (c:Int)]/\H'.get rb=some (.cells (aL out) ae true)/\out.length=M/\Lim out/\c<=1/\BackI a X j L out c/\(∀ i,a+n<i->out.getD i 0=0)/\FrX rb H H') (a:=0) (N:=n) rfl (by refine zW (aD hl g0 g1) ?_; rfl) (zV (aD hl g0 g1)) (TY _) zO (by simp only [TH,hl]; rfl) rfl (fun _ _ _ _ h=>h) zK
  ⟨R,0,by refine zW (aD hl g0 g1) ?_; rfl,by exact zV hr,lr,limR,TY _,hI0,hz,FrX.up0 _ _ _⟩ ?_ ?_
 ·rintro j T1 H1 _ hj hl1 hi1 hs1 hk1 ⟨out,c,hv,b0,hlen,hlim,hc,I,hz1,hfr⟩
  simp only [TH,hl] at hl1
  simp only [TP,TV,TR,and_true] at hv
  have w1:=hk1.wf
  have le_hk1:=hk1.le
  have lt1:=hk1.wf _ _ b0
  have d1:H1.get d=some (.cells [.own rb 0 M M 1 x1,.own bb 0 n n 1 true] fL true):=hfr _ _ ndr hd
  have b1:H1.get bb=some (.cells (aL L) ae true):=hfr _ _ (Ne.symm ne) hb
  have t0:aa T1 0=.ptr d 0:=(hs1.at_ 0 zU).trans (zV (aC hl g0))
  have t1:aa T1 1=.int .i64 (a:Int):=(hs1.at_ 1 zU).trans (zV (aX hl g0 g1 g1))
  have t12:aa T1 12=.own bb 0 n n 1 true:=(hs1.at_ 12 zU).trans (zV (aD hl g0 g1))
  obtain ⟨y,hy⟩:∃ y,L.getD j 0=y:=⟨_,rfl⟩
  have hyB:y<18446744073709551616:=by rw [<- hy]; exact limL.at j
  obtain ⟨o,ho⟩:∃ o,out.getD (a+j) 0=o:=⟨_,rfl⟩
  have hoB:o<18446744073709551616:=by rw [<- ho]; exact hlim.at _
  obtain ⟨f1,f2⟩:=I3 hoB hyB hc
  have hc2:=yO o y c hoB hyB hc
  obtain ⟨o',eo'⟩:∃ o',(fe o y c).1=o':=⟨_,rfl⟩
  obtain ⟨c2,ec2⟩:∃ c2,(fe o y c).2=c2:=⟨_,rfl⟩
  rw [eo',ec2] at f1
  rw [eo'] at f2
  rw [ec2] at hc2
  have I2:BackI a X (j+1) L (out.set (a+j) o') c2:=I.step zO (by rw [ho,hy]; exact f1)
  clear f1 I
  have hwj:IntKind.i64.wrap ((a:Int)+(j:Int))=((a+j:Nat):Int):=by rw [wrap_i64] <;> omega
  refine zW (lA hl1 hv t0 t1 t12 hi1 b1 hy) ?_
  refine aI ?_
  refine zD (qi hl1 hv t0 t1 t12 hi1 d1 @b0 hwj ho) ?_
  refine Y4 (iZ C _ o y c hoB hyB hc) fun H4 e4=>?_
  subst e4
  rw [eo',ec2]
  refine zD (qi hl1 hv t0 t1 t12 hi1 d1 @b0 hwj ho) ?_
  refine ⟨zK,_,_,rfl,rfl,by simp [hlen],kS hlim f2,hc2,I2,fun i hi=>?_,(hfr.up _).put⟩
  rw [bo zO]
  exact hz1 i hi
 ·rintro T1 H1 hl1 hs1 hk1 ⟨out,c,hv,b0,hlen,hlim,hc,I,hz1,hfr⟩
  simp only [TH,hl] at hl1
  simp only [TP,TV,TR,and_true] at hv
  have w1:=hk1.wf
  have le_hk1:=hk1.le
  have lt1:=hk1.wf _ _ b0
  have d1:H1.get d=some (.cells [.own rb 0 M M 1 x1,.own bb 0 n n 1 true] fL true):=hfr _ _ ndr hd
  have t0:aa T1 0=.ptr d 0:=(hs1.at_ 0 zU).trans (zV (aC hl g0))
  have t1:aa T1 1=.int .i64 (a:Int):=(hs1.at_ 1 zU).trans (zV (aX hl g0 g1 g1))
  have hwn:IntKind.i64.wrap ((a:Int)+(n:Int))=((a+n:Nat):Int):=by rw [wrap_i64] <;> omega
  obtain ⟨o,ho⟩:∃ o,out.getD (a+n) 0=o:=⟨_,rfl⟩
  have hoB:o<18446744073709551616:=by rw [<- ho]; exact hlim.at _
  obtain ⟨f1,f2⟩:=I3 (y:=0) hoB zU hc
  have hc2:=yO o 0 c hoB zU hc
  obtain ⟨o',eo'⟩:∃ o',(fe o 0 c).1=o':=⟨_,rfl⟩
  obtain ⟨c2,ec2⟩:∃ c2,(fe o 0 c).2=c2:=⟨_,rfl⟩
  rw [eo',ec2] at f1
  rw [eo'] at f2
  rw [ec2] at hc2
  have hval:val (out.set (a+n) o')+B^(a+n+1)*c2=X+B^a*val (L.take n):=by
   have hv:=i8 (l:=out) (k:=a+n) (v:=o') zO
   rw [ho] at hv
   have:=FW I.e hv f1
   rw [Uy,UD,Uf B]
   rw [Wy,Vo] at this
   exact this
  clear f1 I
  refine zW (dV hl1 t0 t1 hv d1 hwn) ?_
  refine aI ?_
  refine zD (lA hl1 t0 t1 hv d1 @b0 hwn ho) ?_
  refine Y4 (iZ C _ o 0 c hoB zU hc) fun H4 e4=>?_
  subst e4
  rw [eo',ec2]
  refine zD (lA hl1 t0 t1 hv d1 @b0 hwn ho) ?_
  refine ⟨_,c2,rfl,hc2,⟨?_,aq _ _ _,?_,by simp [hlen],ll,ne,kS hlim f2,limL⟩,hval,fun i hi=>?_,zK,(hfr.up _).put⟩
  ·exact zV d1
  ·rw [aA (Ne.symm ne)]
   exact hfr _ _ (Ne.symm ne) hb
  ·rw [bo zO]
   exact hz1 i hi
end
theorem E5 {y n:Nat} (h:(ai y).length=n+1):B^n<=y:=by
 have:=yK (dz y) (fun e=>by rw [e] at h; simp at h)
 rw [bF,h] at this
 exact this
theorem Dq {x y:Nat} (h:(ai x).length<(ai y).length):x<y:=by
 obtain ⟨n,hn⟩:∃ n,(ai y).length=n+1:=⟨(ai y).length-1,by omega⟩
 exact Ue (iy x) (Ub (Up zU zO) (E5 hn))
theorem Dr {y n:Nat} (h1:B^n<=y) (h2:y<B^(n+1)):(ai y).length=n+1:=by
 refine V7 (bk h2) ?_
 apply Wa
 intro h
 have h3:y<B^n:=Ue (iy y) (Up zU zO)
 exact absurd h1 (Nat.not_le_of_lt h3)
theorem Kt {y:Nat} (h:(ai y).length=1):y<B/\(ai y).getD 0 0=y:=by
 have h1:=iy y
 rw [h,Nat.pow_one] at h1
 refine ⟨h1,?_⟩
 rw [iW,WP,YA,UE h1]
section
variable {b y m z top P:Nat}
theorem MT (h64:P=2^(64-z)*2^z) (h1:top*2^z<P) (hy1:top*b<=y) (hy2:y<(top+1)*b) {c:Nat} (h2:c<=top*2^z):y*2^z<P*b/\c*b<=y*2^z:=by
 have p2:0<2^z:=UF zU
 have ht:top+1<=2^(64-z):=by
  rw [h64] at h1
  exact Nat.lt_of_mul_lt_mul_right h1
 refine ⟨?_,?_⟩
 ·refine Ue (VV hy2 p2) ?_
  rw [WO]
  refine T8 b ?_
  rw [h64]
  exact T8 _ ht
 ·refine Ub (T8 b h2) ?_
  rw [WO]
  exact T8 _ hy1
end
theorem GU {y m z top:Nat} (hl:(ai y).length=m+2) (ht:(ai y).getD (m+1) 0=top) (hz:z<64) (h1:top*2^z<18446744073709551616) (h2:9223372036854775808<=top*2^z) :
  y*2^z<B^(m+2)/\(ai (y*2^z)).length=m+2/\9223372036854775808*B^(m+1)<=y*2^z:=by
 have hy:=iy y
 rw [hl] at hy
 have e:y / B^(m+1)=top:=by
  rw [<- ht,iW,UE]
  apply (Uk (UF zU)).2
  rw [Uf,<- Uy]; exact hy
 have hp:0<B^(m+1):=UF zU
 have hy1:top*B^(m+1)<=y:=by rw [<- e]; exact YJ _ _
 have hy2:y<(top+1)*B^(m+1):=(Uk hp).1 (by rw [e]; exact W2 _)
 have h64:(18446744073709551616:Nat)=2^(64-z)*2^z:=by
  rw [<- UR,show 64-z+z=64 by omega]
 obtain ⟨q1,q2⟩:=MT h64 h1 hy1 hy2 h2
 have e2:18446744073709551616*B^(m+1)=B^(m+2):=by rw [Uy B (m+1),Uf]
 rw [e2] at q1
 refine ⟨q1,Dr ?_ q1,q2⟩
 exact Ub (Nat.le_mul_of_pos_left _ zU) q2
theorem En {x z V m k la:Nat} (hla:(ai x).length=la) (hz:z<64) (hV:9223372036854775808*B^(m+1)<=V) (hk:m+1+k=la):x*2^z<V*B^k:=by
 have hx:=iy x
 rw [hla] at hx
 have h1:2^z<=9223372036854775808:=Ub (Up zU (show z<=63 by omega)) zU
 have h2:x*2^z<B^la*9223372036854775808:=by
  refine Ue (VV hx (UF zU)) (V2 _ h1)
 refine Ue h2 ?_
 refine Ub (Wt ?_) (T8 _ hV)
 rw [UD,<- UR,hk,Uf]
structure DivI (X V k:Nat) (Q R:List Nat):Prop where
 eq:X=V*val Q+val R
 lt:val R<V*B^k
 zero:∀ i,i<k->Q.getD i 0=0
theorem DivI.zeros {X V k m:Nat} {Q R:List Nat} (I:DivI X V k Q R) (hV:V<B^m) (hR:Lim R):∀ i,k+m<=i->R.getD i 0=0:=fun i hi=>by
 rw [oI hR]
 have h1:val R<B^i:=by
  refine Ue I.lt (Ub (T8 _ (VG hV)) ?_)
  rw [<- UR]
  exact Up zU zO
 rw [VH h1,Nat.zero_mod]
theorem rp (Z:Nat):Z=Z / B*B+Z % B:=by rw [Uf]; exact (U2 Z B).symm
theorem DivI.guess {X V a m:Nat} {Q R L:List Nat} (I:DivI X V (a+1) Q R) (hV:V<B^(m+2)) (hR:Lim R) (h0:0<V) (hL:∀ i,i<m+2->L.getD i 0=V / B^i % B) :
  GuessH V (val R / B^a) (B^m) (R.getD (a+(m+2)) 0) (R.getD (a+(m+1)) 0) (R.getD (a+m) 0) (L.getD (m+1) 0) (L.getD m 0):=by
 have hp:∀ j,0<B^j:=fun j=>UF zU
 have hdp:∀ Y j,Y / B^(j+1)=Y / B^j / B:=fun Y j=>by rw [Uy,UX]
 refine ⟨?_,?_,?_,h0⟩
 ·rw [hL _ zO,hL _ zO,hdp V m]
  have h1:V / B^m / B % B=V / B^m / B:=by
   rw [<- hdp]
   apply UE
   apply (Uk (hp _)).2
   rw [Uf,<- Uy]; exact hV
  rw [h1,<- rp]
  exact YJ _ _
 ·rw [oI hR,oI hR,oI hR]
  have e1:val R / B^(a+(m+1))=val R / B^(a+m) / B:=by rw [<- US,hdp]
  have e2:val R / B^(a+(m+2))=val R / B^(a+m) / B / B:=by
   rw [show a+(m+2)=a+m+1+1 by omega,hdp,hdp]
  have e3:val R / B^(a+m) / B / B % B=val R / B^(a+m) / B / B:=by
   rw [<- e2]
   apply UE
   apply (Uk (hp _)).2
   refine Ue I.lt (Ub (T8 _ (VG hV)) ?_)
   rw [<- UR,Uf,<- Uy]
   exact Up zU zO
  rw [e2,e3,e1,<- rp,<- rp]
  have e4:val R / B^(a+m)=val R / B^a / B^m:=by rw [UX,UR]
  rw [e4]
  exact (Uk (hp m)).1 (W2 _)
 ·apply (Uk (hp a)).2
  refine Ue I.lt (Wt ?_)
  rw [Uy,Uf (B^a),UD]
structure SubI (XR V a n:Nat) (R:List Nat) (q l:Nat):Prop where
 e:val R+B^a*(q*V)=XR+B^(a+n+1)*l
 ge:XR / B^a / V<=q
section
variable {XR V A q vr vr' W c:Nat}
theorem OX (e:vr+A*(q*V)=XR+W*1) (hlt:vr<W) (hV:0<V) (hA:0<A) (hb:vr'+W*c=vr+A*V) (hc:c<=1):0<q/\XR / A / V<=q-1/\vr'+A*((q-1)*V)=XR+W*(1-c):=by
 have h1:XR / A / V<q:=by
  rw [UX]
  apply (Uk (X7 hA hV)).2
  have:q*(A*V)=A*(q*V):=by rw [Xg]
  rw [this]
  generalize A*(q*V)=t at *
  omega
 have h0:0<q:=UW (TY _) h1
 refine ⟨h0,W0 h1,?_⟩
 obtain ⟨p,rfl⟩:∃ p,q=p+1:=⟨q-1,by omega⟩
 rw [VP]
 rw [UO,WL,UQ] at e
 have hcc:c=0\/c=1:=by omega
 rcases hcc with rfl | rfl
 ·simp only [Wy,Vg,Vo,Yl] at *
  omega
 ·simp only [Wy,Vg,Vo,XI] at *
  omega
theorem PB (e:vr+A*(q*V)=XR) (hge:XR / A / V<=q) (hV:0<V) (hA:0<A):vr<V*A:=by
 have h1:q<=XR / (A*V):=by
  apply (Xp (X7 hA hV)).2
  rw [Xg,<- e]
  exact Nat.le_add_left _ _
 rw [UX] at hge
 have h2:=V7 h1 hge
 have h3:=U2 XR (A*V)
 rw [<- h2] at h3
 have h4:=UL XR (X7 hA hV)
 have h5:A*V*q=A*(q*V):=by rw [UD,Uf V]
 rw [h5] at h3
 rw [Uf V]
 omega
end
theorem SubI.pos {XR V a n q:Nat} {R:List Nat} (I:SubI XR V a n R q 1) (hlt:val R<B^(a+n+1)):0<q:=by
 apply Nat.pos_of_ne_zero
 intro h
 have e:=I.e
 rw [h,Xb,Wy,Vo,Vg] at e
 rw [e] at hlt
 exact absurd hlt (Nat.not_lt_of_le (Nat.le_add_left _ _))
theorem SubI.back {XR V a n q c:Nat} {R R':List Nat} (I:SubI XR V a n R q 1) (hlt:val R<B^(a+n+1)) (hV:0<V) (hb:val R'+B^(a+n+1)*c=val R+B^a*V) (hc:c<=1):0<q/\SubI XR V a n R' (q-1) (1-c):=by
 obtain ⟨h1,h2,h3⟩:=OX I.e hlt hV (UF zU) hb hc
 exact ⟨h1,h3,h2⟩
theorem DivI.next {X V a n q:Nat} {Q R R':List Nat} (I:DivI X V (a+1) Q R) (S:SubI (val R) V a n R' q 0) (hV:0<V) (ha:a<Q.length):DivI X V a (Q.set a q) R':=by
 have e:=S.e
 rw [Wy,Vo] at e
 refine ⟨?_,PB e S.ge hV (UF zU),fun i hi=>?_⟩
 ·have hv:=i8 (l:=Q) (k:=a) (v:=q) ha
  rw [I.zero a (W2 a),Wy,Vo] at hv
  rw [hv,I.eq,<- e,UQ]
  have:V*(B^a*q)=B^a*(q*V):=by rw [Xg,Uf V]
  rw [this]
  omega
 ·rw [bo zO]
  exact I.zero i zO
theorem DivI.fin {x y P:Nat} {Q R:List Nat} (hP:0<P) (I:DivI (x*P) (y*P) 0 Q R):val Q=x / y/\val R=x % y*P:=by
 have e:=I.eq
 have l:=I.lt
 rw [WP,Vg] at l
 have hyP:0<y*P:=UW (TY _) l
 have h1:x*P / (y*P)=val Q:=by
  rw [e,Uf (y*P),Wu,Xr _ _ hyP,VH l,Ut]
 have h2:x*P % (y*P)=val R:=by
  rw [e,Nat.mul_add_mod_self_left,UE l]
 rw [Xq _ _ hP] at h1
 rw [Ys] at h2
 exact ⟨h1.symm,h2.symm⟩
def CB (H:Heap) (id size bytes ty:Nat) (z:List AV) (x y:AV):Option (AV × Heap):=match pj y with
 | none=>none
 | some m=>if z.length=size/\m*bytes<=2^46/\m<2^62 then cH H id size bytes ty x m ((List.replicate m z).flatten) none else none
theorem CI {tab:Nat->Option aw} (ev:Src->AV) (H:Heap) (id:Nat) (Q:AV->Heap->Prop) (size bytes ty:Nat) (z:List AV) (x y:Src) :
  mA tab ev H id (.appendZ size bytes ty z x y) Q=gw (CB H id size bytes ty z (ev x) (ev y)) (fun r=>Q r.1 r.2) ():=by
 rw [bY,gR tab ev H id Q (o:=.appendZ size bytes ty z x y) (fun f a e=>by cases e) rfl]; rfl
theorem NW {H:Heap} {id b n m M:Nat} {l E:List Nat} (hb:H.get b=some (.cells (aL (l++E)) ae true)) (hn:l.length=n) (hE:E.length=m) (hM:n+m=M) (hM2:M<2199023255552) (hid:H.get id=none) (hl:Lim l) :
  ∃ rb x R H',CB H id 1 8 ae [.int .u64 0] (.own b 0 n n 1 true) (.int .i64 (m:Int))=some (.own rb 0 M M 1 x,H')/\H'.get rb=some (.cells (aL R) ae true)/\R.length=M/\val R=val l/\Lim R/\(rb=b\/rb=id)/\H'.next=H.next/\(∀ c e,H.get c=some e->H'.get c=some e)/\(∀ H0,Kp H0 H->H0.next<=id->id<H.next->Kp H0 H'):=by
 have hlen:(aL (l++E)).length=M:=by rw [oW,T9]; omega
 have hap:CB H id 1 8 ae [.int .u64 0] (.own b 0 n n 1 true) (.int .i64 (m:Int))=if m=0 then some (.own b 0 n n 1 true,H) else some (.own id 0 (n+m) (n+m) 1 false,H.put id (.cells ((aL (l++E)).take n++aL (List.replicate m 0)) ae true)):=by
  unfold CB
  rw [fH]
  simp only
  rw [if_pos ⟨rfl,by omega,by omega⟩,mU]
  simp only [cH,hb]
  rw [if_pos ⟨trivial,by omega,by omega,trivial,by rw [hlen]; omega⟩]
  by_cases h0:m=0
  ·rw [if_pos zO,if_pos h0,if_pos h0]
  ·rw [if_neg zO,if_pos trivial,if_neg h0]
   simp
 by_cases h0:m=0
 ·have hE0:E=[]:=Us zO
  subst hE0
  rw [Vi] at hb
  have hnM:n=M:=by omega
  subst hnM
  exact ⟨b,true,l,H,by rw [hap,if_pos h0],hb,hn,rfl,hl,.inl rfl,rfl,fun _ _ h=>h,fun _ h _ _=>h⟩
 ·have ht:(aL (l++E)).take n=aL l:=by
   unfold aL
   rw [UK,Wp (by simp [hn])]
  have hc:aL l++aL (List.replicate m 0)=aL (l++List.replicate m 0):=by simp [aL]
  rw [ht,hc,hM] at hap
  exact ⟨id,false,l++List.replicate m 0,_,by rw [hap,if_neg h0],aq _ _ _,by simp [hn,hM],by rw [pm,fK,Wy,Vo],hl.append (Zn m),.inr rfl,rfl,fun c e h=>by
   rw [aA (fun e1=>by rw [e1,hid] at h; cases h)]; exact h,fun H0 hk h1 h2=>hk.put h1 h2⟩
section
variable {tab:Nat->Option aw} {H:Heap}
set_option maxHeartbeats 4000000 in
theorem I7 (C:Code tab) (hw:Wf H) {a b:AV} {x y:Nat} (ha:cr H a x) (hb:cr H b y) (hx:Sm x) (hy:Sm y) (h0:0<y) :
  Ans tab (.fn wN [a,b]) H fun v H'=>∃ q r,v=.tup [q,r,.int .i64 0]/\cr H' q (x / y)/\cr H' r (x % y)/\Kp H H':=by
 refine bz C.q175 zU fun T hl g0 g1=>?_
 refine zW (aD hl g0 g1) ?_
 refine Y4 (Fy C zF (ha.mono (ZB H _)) (hb.mono (ZB H _)) hx hy h0) fun H2 hk2=>?_
 obtain ⟨k2,_,w2⟩:=zT H zK hk2
 have n2:=k2.le
 have ha2:=ha.mono k2.sub
 have hb2:=hb.mono k2.sub
 have hx':=hx
 have hy':=hy
 unfold Sm at hx' hy'
 have hyl:=(bZ y).2 zO
 by_cases h1:(ai y).length=1
 ·obtain ⟨hyB,hy0⟩:=Kt h1
  have hlen:lenV b=some (.int .i64 1):=by have:=hb.lenV; rw [h1] at this; exact this
  have hix:=Zv hb .i64 0 zO
  have hld:=fD hb2 (i:=0) zO
  rw [hy0] at hld
  have hix':cw 1 b (.int .i64 0)=some (az b 0):=hix
  refine zW (dV hl g0 g1 hlen hix' hld) ?_
  refine Y5 (NA C zF (ha2.mono (ZB H2 _)) hx h0 hyB) ?_
  rintro v H3 ⟨q,rfl,hq,hk3⟩
  obtain ⟨k3,_,w3⟩:=zT H zK hk3
  refine zW (aD hl g0 g1) ?_
  refine Y5 (GX C zF (XK (UL x h0) hyB)) ?_
  rintro v H4 ⟨h4,-,hk4⟩
  obtain ⟨k4,_,_⟩:=zT H zK hk4
  refine zW (aD hl g0 g1) ?_
  exact ⟨q,v,rfl,hq.mono (Zh (H:=H3) (Zi zK hk4)),h4,zK⟩
 ·obtain ⟨m,hm⟩:∃ m,(ai y).length=m+2:=⟨(ai y).length-2,by omega⟩
  have hne1:¬ ((m+2:Nat):Int)=1:=by omega
  have hbl:lenV b=some (.int .i64 ((m+2:Nat):Int)):=by have:=hb.lenV; rwa [hm] at this
  obtain ⟨la,hla⟩:∃ la,(ai x).length=la:=⟨_,rfl⟩
  have hal:lenV a=some (.int .i64 (la:Int)):=by have:=ha.lenV; rwa [hla] at this
  refine zW (dV hl g0 g1 hbl hal hne1) ?_
  refine iteH.split (fun h2=>?_) fun h2=>?_
  ·have hlt:x<y:=Dq zO
   refine zW (aD hl g0 g1) ?_
   refine Y5 (kw C zF (ha2.mono (ZB H2 _)) zO) ?_
   rintro v H3 ⟨h3,hk3⟩
   obtain ⟨k3,_,_⟩:=zT H zK hk3
   refine zW (aD hl g0 g1) ?_
   rw [VH hlt,UE hlt]
   exact ⟨.nilSl,v,rfl,fM _,h3,zK⟩
  ·obtain ⟨top,etop⟩:∃ top,(ai y).getD (m+1) 0=top:=⟨_,rfl⟩
   have htopB:top<18446744073709551616:=by rw [<- etop]; exact (bC y).at _
   have htop0:0<top:=by
    rw [<- etop,iW]
    have h3:=E5 (y:=y) (n:=m+1) (by rw [hm])
    have h4:=iy y
    rw [hm] at h4
    have h5:y / B^(m+1)<B:=by
     apply (Uk (UF zU)).2
     rw [Uf,<- Uy]; exact h4
    rw [UE h5]
    exact Nat.div_pos h3 (UF zU)
   have hix:=Zv hb .i64 (m+1) zO
   have hld:=fD hb2 (i:=m+1) zO
   rw [etop] at hld
   have hw1:IntKind.i64.wrap (((m+2:Nat):Int)-1)=((m+1:Nat):Int):=by rw [wrap_i64] <;> omega
   refine zW (gh hl g0 g1 hbl hw1 hix hld) ?_
   refine Y5 (Cz C zF htop0 htopB) ?_
   rintro v H3 ⟨⟨z,rfl,hz,hz1,hz2⟩,hk3⟩
   obtain ⟨k3,_,w3⟩:=zT H zK hk3
   obtain ⟨hVB,hVl,hV63⟩:=GU hm etop hz hz1 hz2
   have hX0:=En (k:=la-(m+1)) hla hz hV63 zO
   refine zW (aD hl g0 g1) ?_
   refine Y5 (MW C zF (ha.mono (zG H)) hx zO) ?_
   rintro v H4 ⟨o1,rfl,hn1,hk4,b1,E1,rfl,hb1,hge1,hlen1,-⟩
   obtain ⟨k4,_,w4⟩:=zT H zK hk4
   refine zW (aD hl g0 g1) ?_
   refine Y5 (MW C zF (hb.mono (zG H)) hy zO) ?_
   rintro v H5 ⟨o2,rfl,hn2,hk5,b2,E2,rfl,hb2',hge2,-,hlim2⟩
   obtain ⟨k5,_,w5⟩:=zT H zK hk5
   obtain ⟨V,eV⟩:∃ V,y*2^z=V:=⟨_,rfl⟩
   obtain ⟨X,eX⟩:∃ X,x*2^z=X:=⟨_,rfl⟩
   rw [eV] at hVB hVl hV63 hX0 hn2 hb2' hlim2
   rw [eX] at hX0 hn1 hb1 hlen1
   rw [eX,eV,hVl]
   have hz64:z / 64=0:=VH hz
   obtain ⟨n1,en1⟩:∃ n1,(ai X).length=n1:=⟨_,rfl⟩
   rw [hla,hz64,T9,en1] at hlen1
   rw [en1]
   have c1:=hk5.get hb1
   have hwa:IntKind.i64.wrap ((la:Int)+1)=((la+1:Nat):Int):=by rw [wrap_i64] <;> omega
   have hwb:IntKind.i64.wrap (((la+1:Nat):Int)-(n1:Int))=((E1.length:Nat):Int):=by rw [wrap_i64] <;> omega
   obtain ⟨Nq,eNq⟩:∃ Nq,la-(m+2)+1=Nq:=⟨_,rfl⟩
   have hwc:IntKind.i64.wrap ((la:Int)-((m+2:Nat):Int))=((la-(m+2):Nat):Int):=by rw [wrap_i64] <;> omega
   have hwd:IntKind.i64.wrap (((la-(m+2):Nat):Int)+1)=(Nq:Int):=by rw [wrap_i64] <;> omega
   have hmk:∀ H' id,IF H' id ae 1 8 [.int .u64 0] (.int .i64 (Nq:Int)) (.int .i64 (Nq:Int))=some (.own id 0 Nq Nq 1 true,H'.put id (.cells (aL (List.replicate Nq 0)) ae true)):=fun H' id =>
    (jt H' id ae 1 8 [.int .u64 0] .i64 .i64 Nq zO zO rfl).trans (by rw [mU])
   obtain ⟨k5,_,_⟩:=zT H zK hk5
   obtain ⟨rb,x1,R,H6,e6,hR,lR,vR,limR,hrb,hn6,hs6,hk6⟩:=NW (H:=H5.up 12) (id:=H5.next+7) (b:=b1) (E:=E1) (m:=E1.length) (M:=la+1) (l:=ai X) (n:=n1) c1 en1 rfl zO zO (w5.fresh (b:=H5.next+7) zO) (bC X)
   have k6:Kp H H6:=hk6 H (k5.up 12) (by have:=k5.le; omega) (by show _<H5.next+12; omega)
   have le_k6:=k6.le
   have w6:=k6.wf
   have hn6':H6.next=H5.next+12:=hn6
   have c2:H6.get b2=some (.cells (aL (ai V++E2)) ae true):=hs6 _ _ hb2'
   have lt1:=k4.wf _ _ hb1
   have lt2:=k5.wf _ _ hb2'
   have lt5:=k5.le
   have lt4:H4.next<=b2:=Ub (Uu _ _) hge2
   have hne:rb≠b2:=by
    rcases hrb with h | h <;> omega
   have hrbH:H.next<=rb:=by
    have q1:H3.next<=b1:=Ub (Uu _ _) hge1
    have q2:=k3.le
    rcases hrb with h | h <;> omega
   have ltr:=k6.wf _ _ hR
   simp -dsimp (maxSteps:=1000000) (disch:=(first | omega | assumption | exact aR _ | exact bj _ _ | exact br | exact cz _ _ _ | exact bD _ _ | exact bp _ _ _ _ _ _ | exact cI _ _ | exact bE _)) only [↓ut,ur,Nat.reduceLT,Nat.reduceEqDiff,Nat.reduceAdd,reduceIte,reduceCtorEq,Nat.reduceBEq,Int.reduceEq,Int.reduceLT,Int.reduceLE,Int.reduceAdd,Int.reduceSub,hl,g0,g1,hal,hbl,hwa,hwb,↓CI,e6,hwc,hwd,hmk]
   obtain ⟨d,ed⟩:∃ d,H5.next+10=d:=⟨_,rfl⟩
   obtain ⟨qb,eq⟩:∃ qb,H6.next+6=qb:=⟨_,rfl⟩
   simp only [ed,eq]
   have D0:Dv (((H6.up 12).put d (.cells [.own rb 0 (la+1) (la+1) 1 x1,.own b2 0 (m+2) (m+2) 1 true] fL true)).put qb (.cells (aL (List.replicate Nq 0)) ae true)) d rb b2 (la+1) (m+2) x1 R (ai V++E2):=by
    have z1:d≠rb:=by rcases hrb with h | h <;> omega
    refine ⟨?_,?_,?_,lR,by rw [T9,hVl]; omega,hne,limR,?_⟩
    ·exact cP
    ·exact zV hR
    ·exact zV @c2
    ·exact hlim2
   obtain ⟨L,eL⟩:∃ L,ai V++E2=L:=⟨_,rfl⟩
   have hLd:∀ i,i<m+2->L.getD i 0=V / B^i % B:=fun i hi=>by
    rw [<- eL,TI,Uo zO,<- TI,iW]
   have hLt:val (L.take (m+2))=V:=by
    rw [<- eL,Wp hVl,bF]
   rw [eL] at D0
   have hV0:0<V:=Ue (X7 zU (UF zU)) hV63
   have hI0:DivI X V Nq (List.replicate Nq 0) R:=⟨by rw [fK,Wy,Ut,vR,bF],by
    rw [vR,bF]
    have:la-(m+1)=Nq:=by omega
    rw [this] at hX0; exact hX0,fun i _=>by simp [TI,U4]; split <;> rfl⟩
   have hdq:d≠qb:=by omega
   have hrq:rb≠qb:=by omega
   have hbq:b2≠qb:=by omega
   have hqbH:H.next<=qb:=by omega
   clear hz1 hz2 hV63 hX0 hwa hwb hwc hwd
   refine mj H [16] (fun k vs H'=>vs=[.int .i64 ((k:Int)-1)]/\k<=Nq/\∃ (Q R:List Nat),H'.get qb=some (.cells (aL Q) ae true)/\Q.length=Nq/\Lim Q/\Dv H' d rb b2 (la+1) (m+2) x1 R L/\DivI X V k Q R)
    (fun vs H'=>∃ (Q R:List Nat),H'.get qb=some (.cells (aL Q) ae true)/\Q.length=Nq/\Lim Q/\Dv H' d rb b2 (la+1) (m+2) x1 R L/\DivI X V 0 Q R) Nq (by simp only [TH]; exact hl) rfl zK ⟨?_,TO _,_,R,aq _ _ _,by simp,Zn Nq,D0,hI0⟩ ?_ ?_
   ·have hwq:IntKind.i64.wrap ((Nq:Int)-1)=(Nq:Int)-1:=by rw [wrap_i64] <;> omega
    exact zV (aX hl g0 g1 hwq)
   ·rintro k T1 H1' hl1 hs1 hk1 ⟨hv,hkN,Q,R,hQ,lQ,limQ,D,I⟩
    simp only [TP,TV,TR,and_true] at hv
    have w1:=hk1.wf
    have le_hk1:=hk1.le
    have t4:aa T1 4=.own qb 0 Nq Nq 1 true:=(hs1.at_ 4 zU).trans (zV (aD hl g0 g1))
    have t15:aa T1 15=.ptr d 0:=(hs1.at_ 15 zU).trans (zV (aD hl g0 g1))
    cases k with
    | zero =>
     have hneg:¬ (0:Int)<=((0:Nat):Int)-1:=by omega
     refine zW (aD hl1 hv hneg) ?_
     exact ⟨zK,Q,R,hQ,lQ,limQ,D.up _,I⟩
    | succ a =>
     have hz:((a+1:Nat):Int)-1=(a:Int):=by omega
     rw [hz] at hv
     have hpos:(0:Int)<=(a:Int):=by omega
     have hat:a+(m+2)<la+1:=by omega
     refine zW (aX hl1 hv hpos t15) ?_
     refine Y5 (KU C zF (D.up _) hat zO (I.guess hVB D.limR hV0 hLd)) ?_
     rintro v H2' ⟨q,rfl,hqB,hge,hk2'⟩
     have k2':Kp H H2':=Zi zK hk2'
     have w2':=k2'.wf
     have D2:=(D.up 6).kp hk2'
     have hQ2:H2'.get qb=some (.cells (aL Q) ae true):=hk2'.get hQ
     have hzR:=I.zeros hVB D.limR
     refine zW (aD hl1 hv t15) ?_
     refine Y5 (Ny C (H0:=H) zK (D2.up _) hrbH hat zO hqB rfl (fun i hi=>hzR i zO)) ?_
     rintro v H3' ⟨R1,l1,rfl,hl1',D3,hv3,hz3,k3',hfr3⟩
     rw [hLt] at hv3
     have w3':=k3'.wf
     have hQ3:H3'.get qb=some (.cells (aL Q) ae true):=hfr3 _ _ (Ne.symm hrq) hQ2
     have S3:SubI (val R) V a (m+2) R1 q l1:=⟨hv3,hge⟩
     clear hv3 hge
     refine zW (aD hl1 hv t15) ?_
     refine mj H [17,18] (fun k vs H'=>∃ (q l:Nat) (R':List Nat),vs=[.int .u64 (q:Int),.bool (decide (0<l))]/\k=q/\l<=1/\q<B/\H'.get qb=some (.cells (aL Q) ae true)/\Dv H' d rb b2 (la+1) (m+2) x1 R' L/\SubI (val R) V a (m+2) R' q l/\∀ i,a+(m+2)<i->R'.getD i 0=0)
      (fun vs H'=>∃ (q:Nat) (bb:AV) (R':List Nat),vs=[.int .u64 (q:Int),bb]/\q<B/\H'.get qb=some (.cells (aL Q) ae true)/\Dv H' d rb b2 (la+1) (m+2) x1 R' L/\SubI (val R) V a (m+2) R' q 0) q (by simp only [TH]; exact hl1) rfl zK ⟨q,l1,R1,by exact zV hl1,rfl,hl1',hqB,hQ3,D3,S3,hz3⟩ ?_ ?_
     ·rintro k T2 H4' hl2 hs2 hk4' ⟨q,l,R',hv',hkq,hl',hqB,hQ4,D4,S4,hz4⟩
      obtain rfl:=hkq.symm
      simp only [TP,TV,TR,and_true] at hv'
      obtain ⟨v17,v18⟩:=hv'
      have w4':=hk4'.wf
      have le_hk4':=hk4'.le
      have u15:aa T2 15=.ptr d 0:=(hs2.at_ 15 zU).trans (zV (aC hl1 t15))
      have u16:aa T2 16=.int .i64 (a:Int):=(hs2.at_ 16 zU).trans (zV (aC hl1 hv))
      rcases (show l=0\/l=1 by omega) with rfl | rfl
      ·have e0:decide (0<0)=false:=rfl
       refine zW (aX hl2 v17 v18 e0) ?_
       exact ⟨zK,q,_,R',rfl,hqB,hQ4,D4.up _,S4⟩
      ·have e1:decide (0<1)=true:=rfl
       have hlt:=qm (m:=a+(m+2)+1) D4.limR (fun i hi=>hz4 i zO)
       have hq0:=S4.pos hlt
       have z1:=tz (a:=q) hq0 hqB
       refine zW (gh hl2 v17 v18 e1 u15 u16 z1) ?_
       refine Y5 (Nz C (H0:=H) zK (D4.up _) hrbH hat zO rfl hz4) ?_
       rintro v H5' ⟨R2,c,rfl,hc,D5,hv5,hz5,k5',hfr5⟩
       rw [hLt] at hv5
       have w5':=k5'.wf
       have hQ5:H5'.get qb=some (.cells (aL Q) ae true):=hfr5 _ _ (Ne.symm hrq) hQ4
       obtain ⟨-,S5⟩:=S4.back hlt hV0 hv5 hc
       clear hv5
       have ec:(!decide (0<c))=decide (0<1-c):=by
        rcases (show c=0\/c=1 by omega) with rfl | rfl <;> rfl
       refine zW (aX hl2 v17 v18 ec) ?_
       exact ⟨zK,q-1,by omega,q-1,1-c,R2,rfl,rfl,by omega,by omega,hQ5,D5,S5,hz5⟩
     ·rintro T2 H4' hl2 hs2 hk4' ⟨q,bb,R',hv',hqB,hQ4,D4,S4⟩
      simp only [TP,TV,TR,and_true] at hv'
      obtain ⟨v17,-⟩:=hv'
      have w4':=hk4'.wf
      have le_hk4':=hk4'.le
      have u4:aa T2 4=.own qb 0 Nq Nq 1 true:=(hs2.at_ 4 zU).trans (zV (aC hl1 t4))
      have u16:aa T2 16=.int .i64 (a:Int):=(hs2.at_ 16 zU).trans (zV (aC hl1 hv))
      have hwa1:IntKind.i64.wrap ((a:Int)-1)=(a:Int)-1:=by rw [wrap_i64] <;> omega
      have ltq:=hk4'.wf _ _ hQ4
      have I2:=I.next S4 hV0 zO
      refine zW (dV hl2 u4 u16 v17 hQ4 hwa1) ?_
      exact ⟨zK,a,by omega,rfl,by omega,_,R',rfl,by simp [lQ],kS limQ hqB,(D4.up _).put hdq hrq hbq,I2⟩
   ·rintro T1 H1' hl1 hs1 hk1 ⟨Q,R',hQ,lQ,limQ,D,I⟩
    have w1:=hk1.wf
    have le_hk1:=hk1.le
    have t4:aa T1 4=.own qb 0 Nq Nq 1 true:=(hs1.at_ 4 zU).trans (zV (aD hl g0 g1))
    have t15:aa T1 15=.ptr d 0:=(hs1.at_ 15 zU).trans (zV (aD hl g0 g1))
    have t10:aa T1 10=.int .i64 (z:Int):=(hs1.at_ 10 zU).trans (zV (aD hl g0 g1))
    have hlen:(ai (val R')).length<=m+2:=by
     have h:=I.lt
     rw [WP,Vg] at h
     have:=Ak (VG h)
     rwa [hVl] at this
    have p2z:0<2^z:=UF zU
    rw [<- eX,<- eV] at I
    obtain ⟨f1,f2⟩:=I.fin p2z
    have hd1:=D.hd
    refine zW (aD hl1 t15 hd1) ?_
    refine Y4 (pP C zF (rw':=true) D.lr D.hr zO) fun H2' hk2'=>?_
    have k2':Kp H H2':=Zi zK hk2'
    have w2':=k2'.wf
    have hr2:H2'.get rb=some (.cells (aL R') ae true):=hk2'.get D.hr
    have hq2:H2'.get qb=some (.cells (aL Q) ae true):=hk2'.get hQ
    obtain ⟨E,hE⟩:=rQ R'
    rw [eN D.limR] at hE ⊢
    have hn:cr H2' (.own rb 0 (ai (val R')).length (ai (val R')).length 1 true) (val R'):=Da (rw':=true) (E:=E) (by rw [<- hE]; exact hr2)
    refine zW (aC hl1 t10) ?_
    refine Y5 (MX C zF hn (by unfold Sm; omega) zO) ?_
    rintro v H3' ⟨o,rfl,ho,hk3'⟩
    have k3':Kp H H3':=Zi zK hk3'
    have w3':=k3'.wf
    have hq3:H3'.get qb=some (.cells (aL Q) ae true):=hk3'.get hq2
    rw [f2,YQ _ p2z] at ho
    refine zW (aC hl1 t4) ?_
    refine Y4 (pP C zF (rw':=true) lQ hq3 zO) fun H4' hk4'=>?_
    have k4':Kp H H4':=Zi zK hk4'
    obtain ⟨E',hE'⟩:=rQ Q
    rw [eN limQ,f1] at hE' ⊢
    refine zW hl1 ?_
    refine ⟨_,o,rfl,Da (rw':=true) (E:=E') ?_,ho.mono (Zh (H:=H3') (Zi zK hk4')),zK⟩
    rw [<- hE']
    exact hk4'.get hq3
end
end Go.Proofs.YtofhopjbbpihaaaGreat.Ev
