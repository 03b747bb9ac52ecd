/- A part. -/
import Derived.Test.YtboamamhcfhanaaGreatKit
import Derived.KernelRfl
namespace Go.Proofs.YtboamamhcfhanaaGreat.Ev
open Go Nn
set_option linter.all false
section
variable {tab:Nat->Option aq} {H:Heap}
def gI (x:Int):Int:=if x<0 then -1 else if x=0 then 0 else 1
theorem whole_sign (C:Code tab) (hw:Wf H) {a:AV} {x:Int} (ha:IntV H a x):Ans tab (.fn mC [a]) H fun v H'=>v=.int .i64 (gI x)/\Kp H H':=by
 obtain ⟨p,rfl,hp⟩:=ha
 have op:=hp.one
 refine OD C.whole_sign (by decide) fun T hl g0=>?_
 have hlen:decide (((ag x.natAbs).length:Int)=0)=decide (x=0):=by
  have:=bN x.natAbs
  by_cases h:x=0
  ·subst h; simp [co]
  ·have h1:=this.2 (by omega); simp [h]; intro h2; rw [h2] at h1; simp at h1
 refine zW (bg hl g0 hp.lenV hlen) ?_
 refine iteH.split (fun h=>?_) fun h=>?_
 ·have hx:x=0:=by
   by_cases h1:x=0
   ·exact h1
   ·simp [h1] at h
  subst hx
  refine zW (az hl g0) ?_
  exact ⟨rfl,zK⟩
 ·have hx:x≠0:=fun h1=>by subst h1; simp at h
  refine zW (az hl g0) ?_
  refine iteH.split (fun h=>?_) fun h=>?_
  ·refine zW (az hl g0) ?_
   exact ⟨by simp [gI,h],zK⟩
  ·refine zW (az hl g0) ?_
   exact ⟨by simp [gI,h,hx],zK⟩
theorem whole_Sign (C:Code tab) (hw:Wf H) {a:AV} {x:Int} (ha:IntV H a x) (hx:OV x):Ans tab (.fn mE [a]) H fun v H'=>v=.tup [.int .i64 (gI x),.int .i64 0]/\Kp H H':=by
 obtain ⟨p,rfl,hp⟩:=ha
 have op:=hp.one
 refine OD C.whole_Sign (by decide) fun T hl g0=>?_
 refine zW (az hl g0) ?_
 refine AnsH.eq (OX C zF ⟨p,rfl,hp.mono (Kp.sub (H:=H) zK)⟩ hx) fun H2 hk2=>?_
 obtain ⟨k2,_,w2⟩:=zT H zK hk2
 have b0:=hk2.get (b:=H.next) (e:=.cells [.bool (decide (x<0)),p] aa true) (dC)
 refine zW (aC hl g0 @b0) ?_
 refine AnsH.eq (whole_sign C zF ⟨p,rfl,hp.mono (Kp.sub (H:=H) zK)⟩) fun H3 hk3=>?_
 obtain ⟨k3,_,_⟩:=zT H zK hk3
 refine zW (az hl g0) ?_
 exact zK
theorem whole_Add (C:Code tab) (hw:Wf H) {a b:AV} {x y:Int} (ha:IntV H a x) (hb:IntV H b y) (hx:OV x) (hy:OV y):Ans tab (.fn nX [a,b]) H fun v H'=>∃ r,v=.tup [r,.int .i64 0]/\IntV H' r (x+y)/\Kp H H':=by
 obtain ⟨p,rfl,hp⟩:=ha
 obtain ⟨q,rfl,hq⟩:=hb
 have op:=hp.one
 have oq:=hq.one
 refine ca C.whole_Add (by decide) fun T hl g0 g1=>?_
 refine zW (aC hl g0 g1) ?_
 refine AnsH.eq (fD C zF (Dq (x:=x) (y:=y) (H:=H) hp hq (Kp.sub (H:=H) zK) (by refine qN ?_; rfl)) (by simp) fun z hz=>?_) fun H2 hk2=>?_
 ·simp at hz; rcases hz with rfl | rfl <;> assumption
 obtain ⟨k2,_,w2⟩:=zT H zK hk2
 have b0:=hk2.get (b:=H.next) (e:=.cells [.bool (decide (x<0)),p] aa true) (dC)
 have b1:=hk2.get (b:=H.next+1) (e:=.cells [.bool (decide (y<0)),q] aa true) (dC)
 have b2:=hk2.get (b:=H.next+2) (e:=.cells [.bool false,.nilSl] aa true) (dC)
 refine zW (cJ hl g0 g1 @b0 b1) ?_
 refine AnsH.use (whole_sum C zF ⟨p,rfl,hp.mono (Kp.sub (H:=H) zK)⟩ ⟨q,rfl,hq.mono (Kp.sub (H:=H) zK)⟩ hx hy) ?_
 rintro v H3 ⟨⟨r,rfl,hr⟩,hk3⟩
 obtain ⟨k3,_,_⟩:=zT H zK hk3
 have o3:=hr.one
 have d2:=hk3.get (b:=H.next+2) b2
 have lt2:=k3.wf _ _ d2
 refine zW (bg hl g0 g1 d2) ?_
 exact ⟨_,rfl,⟨r,rfl,hr.monoT (SubT.put_ty d2 (by decide))⟩,zK⟩
theorem whole_Sub (C:Code tab) (hw:Wf H) {a b:AV} {x y:Int} (ha:IntV H a x) (hb:IntV H b y) (hx:OV x) (hy:OV y):Ans tab (.fn nT [a,b]) H fun v H'=>∃ r,v=.tup [r,.int .i64 0]/\IntV H' r (x-y)/\Kp H H':=by
 obtain ⟨p,rfl,hp⟩:=ha
 obtain ⟨q,rfl,hq⟩:=hb
 have op:=hp.one
 have oq:=hq.one
 refine ca C.whole_Sub (by decide) fun T hl g0 g1=>?_
 refine zW (aC hl g0 g1) ?_
 refine AnsH.eq (fD C zF (Dq (x:=x) (y:=y) (H:=H) hp hq (Kp.sub (H:=H) zK) (by refine qN ?_; rfl)) (by simp) fun z hz=>?_) fun H2 hk2=>?_
 ·simp at hz; rcases hz with rfl | rfl <;> assumption
 obtain ⟨k2,_,w2⟩:=zT H zK hk2
 have b0:=hk2.get (b:=H.next) (e:=.cells [.bool (decide (x<0)),p] aa true) (dC)
 have b1:=hk2.get (b:=H.next+1) (e:=.cells [.bool (decide (y<0)),q] aa true) (dC)
 have b2:=hk2.get (b:=H.next+2) (e:=.cells [.bool false,.nilSl] aa true) (dC)
 refine zW (aC hl g0 g1) ?_
 refine aO ?_
 refine zD (cJ hl g0 g1 @b0 b1) ?_
 refine AnsH.use (whole_made C zF (hq.mono (Kp.sub (H:=H) zK)) _) ?_
 rintro v3 H3 ⟨rfl,hk3⟩
 obtain ⟨k3,_,w3⟩:=zT H zK hk3
 have hm:=l8 (!decide (y<0)) (hq.mono k3.sub)
 have e:(if (!decide (y<0))=true then -((y.natAbs:Nat):Int) else ((y.natAbs:Nat):Int)) = -y:=by
  by_cases h:y<0 <;> simp [h] <;> omega
 rw [e] at hm
 have hny:OV (-y):=by unfold OV at *; rwa [Int.natAbs_neg]
 refine zD (cJ hl g0 g1 @b0 b1) ?_
 refine AnsH.use (whole_sum C zF ⟨p,rfl,hp.mono (Kp.sub (H:=H) zK)⟩ hm hx hny) ?_
 rintro v H4 ⟨⟨r,rfl,hr⟩,hk4⟩
 obtain ⟨k4,_,_⟩:=zT H zK hk4
 have o3:=hr.one
 have c0:=hk3.get (b:=H.next) b0
 have d2:=hk4.get (b:=H.next+2) (hk3.get (b:=H.next+2) b2)
 have lt2:=k4.wf _ _ d2
 refine zD (jm hl g0 g1 @b0 b1 c0 d2) ?_
 refine ⟨_,rfl,⟨r,?_,hr.monoT (SubT.put_ty d2 (by decide))⟩,zK⟩
 rw [Int.sub_eq_add_neg]
end
section
variable {tab:Nat->Option aq} {H:Heap}
theorem HB (x y:Nat) (hx:x<B) (hy:y<B) :
  ((x / 4294967296*(y / 4294967296) % B+((x / 4294967296*(y % 4294967296) % B+(x % 4294967296*(y % 4294967296) % B) / 4294967296) % B) / 4294967296) % B+((((x / 4294967296*(y % 4294967296) % B+(x % 4294967296*(y % 4294967296) % B) / 4294967296) % B) % 4294967296+x % 4294967296*(y / 4294967296) % B) % B) / 4294967296) % B=x*y / B:=by
 have e:x*y=(x / 4294967296*4294967296+x % 4294967296)*(y / 4294967296*4294967296+y % 4294967296):=by
  rw [Nat.div_add_mod',Nat.div_add_mod']
 have h1:x / 4294967296<4294967296:=by unfold B at hx; omega
 have h2:y / 4294967296<4294967296:=by unfold B at hy; omega
 have h3:x % 4294967296<4294967296:=by omega
 have h4:y % 4294967296<4294967296:=by omega
 generalize x / 4294967296=x1 at *
 generalize y / 4294967296=y1 at *
 generalize x % 4294967296=x0 at *
 generalize y % 4294967296=y0 at *
 have b1:x1*y1<=4294967295*4294967295:=Nat.mul_le_mul (by omega) (by omega)
 have b2:x1*y0<=4294967295*4294967295:=Nat.mul_le_mul (by omega) (by omega)
 have b3:x0*y1<=4294967295*4294967295:=Nat.mul_le_mul (by omega) (by omega)
 have b4:x0*y0<=4294967295*4294967295:=Nat.mul_le_mul (by omega) (by omega)
 have e2:x*y=x1*y1*18446744073709551616+(x1*y0)*4294967296+(x0*y1)*4294967296+x0*y0:=by rw [e]; grind
 rw [e2]
 clear e e2 hx hy h1 h2 h3 h4
 generalize x1*y1=p at *
 generalize x1*y0=q at *
 generalize x0*y1=r at *
 generalize x0*y0=t at *
 simp only [B]
 omega
theorem ng (C:Code tab) (hw:Wf H) {x y:Nat} (hx:x<B) (hy:y<B):Ans tab (.fn PB [.int .u64 (x:Nat),.int .u64 (y:Nat)]) H fun v H'=>v=.tup [.int .u64 ((x*y / B:Nat):Int),.int .u64 ((x*y % B:Nat):Int)]/\Kp H H':=by
 refine ca C.math_bits_Mul64 (by decide) fun T hl g0 g1=>?_
 have e:=HB x y hx hy
 simp only [B] at e
 refine zW (bg hl g0 g1 e) ?_
 exact zK
end
theorem gS:∀ {l:List Nat} {k v:Nat},k<l.length->val (l.set k v)+B^k*l.getD k 0=val l+B^k*v
 | a :: l,0,v,_=>by simp [val]; omega
 | a :: l,k+1,v,h=>by
  have ih:=gS (l:=l) (k:=k) (v:=v) (by simpa using h)
  simp only [List.set_cons_succ,val,List.getD_cons_succ,Nat.pow_succ]
  have:=congrArg (B * ·) ih
  simp only [Nat.mul_add] at this
  rw [Nat.mul_comm (B^k) B,Nat.mul_assoc,Nat.mul_assoc]
  omega
theorem i8 {l:List Nat} (h:Lim l) {k v:Nat} (hv:v<B):Lim (l.set k v):=fun a ha=>by
 rcases List.mem_or_eq_of_mem_set ha with h1 | h1
 ·exact h a h1
 ·rw [h1]; exact hv
section
variable {tab:Nat->Option aq} {H:Heap} {s:AV} {l:List Nat}
theorem SlV.clipat {α:Type} {E:eU α} {ty:Nat} {v:AV} {l:List α} (hs:SlV E ty H v l) (k j:IntKind) (n:Nat) (hn:n<=l.length):∃ v',cR E.sz v none (some (.int k (n:Int))) (some (.int j (n:Int)))=some v'/\SlV E ty H v' (l.take n):=by
 obtain ⟨cells,hr,ht,hc⟩:=hs
 obtain ⟨m,hm,hlen⟩:=hr.length
 have hml:m=l.length:=Nat.eq_of_mul_eq_mul_right E.pos (by rw [<- hlen,hc.1])
 subst hml
 obtain ⟨h0,h1,m',h2,h3⟩:=hr
 rw [hm] at h2; cases h2
 have hle:n*E.sz<=l.length*E.sz:=Nat.mul_le_mul_right _ hn
 have hns:∀ x y z,cR E.sz v x y z=bH E.sz v x y z:=fun x y z=>by cases v <;> first | rfl | exact absurd rfl (h1 _)
 rw [hns]
 suffices ∃ v',bH E.sz v none (some (.int k (n:Int))) (some (.int j (n:Int)))=some v'/\Rd H E.sz v' (cells.take (n*E.sz)) by
  obtain ⟨v',e,hr⟩:=this
  exact ⟨v',e,_,hr,o0 ht (by rw [hns]; exact e),hc.take hn⟩
 cases v with
 | own b off n' c sz' ex =>
  simp only [fI,Option.some.injEq] at hm
  subst hm
  simp only [aJ] at h3
  split at h3
  ·rename_i cs ty rw0 hb
   split at h3
   ·rename_i hcond
    obtain ⟨hsz,-,hcl⟩:=hcond
    subst hsz
    cases h3
    have hnc:l.length<=c:=h0
    have et:((cs.drop off).take (l.length*E.sz)).take (n*E.sz)=(cs.drop off).take (n*E.sz):=by rw [List.take_take,Nat.min_eq_left hle]
    rw [et]
    have hp:bH E.sz (.own b off l.length c E.sz ex) none (some (.int k (n:Int))) (some (.int j (n:Int)))=some (if n=0 then .own b off 0 0 E.sz true else .own b off n n E.sz true):=by
     simp only [bH,eS,ne_eq,not_true_eq_false,if_false,Option.bind_eq_bind,Option.bind_some,Option.map_none,Option.getD_none]
     rw [if_pos ⟨by omega,Nat.le_refl _,Nat.zero_le _⟩]
     by_cases h00:n=0
     ·rw [if_pos h00,if_pos h00]; simp [h00]
     ·rw [if_neg h00,if_neg h00]; simp
    refine ⟨_,hp,?_⟩
    by_cases h00:n=0
    ·rw [if_pos h00,h00]
     refine ⟨Nat.le_refl _,(fun s h=>by cases h),0,rfl,?_⟩
     simp only [aJ,hb]
     rw [if_pos ⟨trivial,Nat.le_refl _,by simp; omega⟩]
    ·rw [if_neg h00]
     refine ⟨Nat.le_refl _,(fun s h=>by cases h),n,rfl,?_⟩
     simp only [aJ,hb]
     rw [if_pos ⟨trivial,Nat.le_refl _,by omega⟩]
   ·cases h3
  ·cases h3
 | sl cs n' =>
  simp only [fI,Option.some.injEq] at hm
  subst hm
  simp only [aJ] at h3
  split at h3
  ·rename_i hcond
   cases h3
   have hcl:=hcond.2
   refine ⟨.sl (cs.take (n*E.sz)) n,?_,trivial,(fun s h=>by cases h),n,rfl,?_⟩
   ·simp only [bH,eS,Option.bind_eq_bind,Option.bind_some,Option.map_none,Option.getD_none]
    rw [if_pos ⟨hn,Nat.le_refl _,Nat.zero_le _,by omega⟩]
    simp
   ·simp only [aJ]
    rw [if_pos ⟨Nat.le_refl _,by simp only [List.length_take]; omega⟩]
    rw [List.take_take,List.take_take,Nat.min_self,Nat.min_eq_left hle]
  ·cases h3
 | nilSl =>
  simp only [fI,Option.some.injEq] at hm
  have hn0:n=0:=by omega
  subst hn0
  simp only [aJ] at h3
  split at h3
  ·cases h3
   exact ⟨.nilSl,rfl,trivial,(fun s h=>by cases h),0,rfl,by simp [aJ]⟩
  ·cases h3
 | str s=>exact absurd rfl (h1 s)
 | _=>simp [fI] at hm
theorem mul_trim (C:Code tab) (hw:Wf H) (hs:Lb H s l) (hbig:l.length<4611686018427387904) :
  Ans tab (.fn qm [s]) H fun v H'=>Lb H' v (db l)/\Kp H H':=by
 refine OD C.mul_trim (by decide) fun T hl g0=>?_
 refine zW (aC hl g0 hs.lenV) ?_
 refine bf H [3] (fun k vs H'=>vs=[.int .i64 (k:Int)]/\db (l.take k)=db l/\k<=l.length) l.length (by simp only [List.length_set]; exact hl) rfl zK ⟨by exact zV (az hl g0),by rw [List.take_length],Nat.le_refl _⟩ ?_
 rintro k T1 H1 hl1 hs1 hk1 ⟨hv,ht,hk⟩
 have w1:=hk1.wf
 have le_hk1:=hk1.le
 simp only [List.map_cons,List.map_nil,List.cons.injEq,and_true] at hv
 have t0:ae T1 0=s:=(hs1.at_ 0 (by decide)).trans (zV (az hl g0))
 have fin:∀ (m:Nat),db (l.take k)=l.take k->∀ v',cR 1 s none (some (.int .i64 (k:Int))) (some (.int .i64 (k:Int)))=some v'->Lb H v' (l.take k)->Lb (H1.up m) v' (db l):=fun m h1 v' _ h2=>by
  rw [<- ht,h1]; exact h2.mono (hk1.up m).sub
 obtain ⟨v',e,hr⟩:=SlV.clipat hs .i64 .i64 k hk
 have e':cR 1 s none (some (.int .i64 (k:Int))) (some (.int .i64 (k:Int)))=some v':=e
 rcases List.eq_nil_or_concat (l.take k) with h0 | ⟨l',a,h0⟩
 ·have hk0:k=0:=by
   have:=congrArg List.length h0; simp at this; rcases this with h | h
   ·exact h
   ·subst h; simpa using hk
  subst hk0
  have z:¬ (0:Int)<((0:Nat):Int):=by omega
  refine zW (cJ hl1 hv t0 z e') ?_
  exact ⟨fin _ (by simp; rfl) _ e' hr,zK⟩
 ·rw [List.concat_eq_append] at h0
  have hk1':k=l'.length+1:=by have:=congrArg List.length h0; simp at this; omega
  subst hk1'
  have hl':l.take l'.length=l':=by
   have:=congrArg (List.take l'.length) h0
   rw [List.take_take,Nat.min_eq_left (by omega)] at this
   simpa using this
  have hwr:IntKind.i64.wrap (((l'.length+1:Nat):Int)-1)=(l'.length:Int):=by rw [wrap_i64] <;> omega
  have hpos:0<l'.length+1:=by omega
  have hix:=SlV.idx1 (hs.mono hk1.sub) .i64 l'.length (by omega)
  have hga:l.getD l'.length 0=a:=by
   have this:(l.take (l'.length+1)).getD l'.length 0=(l'++[a]).getD l'.length 0:=by rw [h0]
   rw [List.getD_eq_getElem?_getD,List.getElem?_take,if_pos (by omega),<- List.getD_eq_getElem?_getD] at this
   rw [this]; simp [List.getD_eq_getElem?_getD]
  have hld:=dO (hs.mono hk1.sub) (i:=l'.length) (by omega)
  rw [hga] at hld
  refine zW (jm hl1 hv t0 hpos hix hld hwr) ?_
  refine iteH.split (fun ha=>?_) fun ha=>?_
  ·have ha0:a=0:=by omega
   subst ha0
   refine zW (bg hl1 hv t0 hwr) ?_
   refine ⟨zK,l'.length,by omega,rfl,?_,by omega⟩
   rw [hl',<- ht,h0,cK]
  ·have ha':a≠0:=by omega
   refine zW (bg hl1 hv t0 e') ?_
   exact ⟨fin _ (by rw [h0,fE ha']) _ e' hr,zK⟩
theorem Af {x y o c:Nat} (hx:x<B) (hy:y<B) (ho:o<B) (hc:c<B) :
  (dU (dU (x*y % B) o 0).1 c 0).1+B*(((x*y / B+(dU (x*y % B) o 0).2) % B+(dU (dU (x*y % B) o 0).1 c 0).2) % B)=x*y+o+c:=by
 have hp:x*y<=18446744073709551615*18446744073709551615:=Nat.mul_le_mul (by unfold B at hx; omega) (by unfold B at hy; omega)
 simp only [dU,B] at *
 generalize x*y=p at *
 omega
theorem BV {out b:List Nat} {i j x c V0 l2 c':Nat} (hlt:i+j<out.length) (hv:val out+B^(i+j)*c=V0+B^i*x*val (b.take j)) (he:l2+B*c'=x*b.getD j 0+out.getD (i+j) 0+c) :
  val (out.set (i+j) l2)+B^(i+(j+1))*c'=V0+B^i*x*val (b.take (j+1)):=by
 have h1:=gS (l:=out) (k:=i+j) (v:=l2) hlt
 rw [cD]
 have h2:B^(i+(j+1))*c'=B^(i+j)*(B*c'):=by rw [<- Nat.add_assoc,Nat.pow_succ,Nat.mul_assoc]
 have h3:B^i*x*(val (b.take j)+B^j*b.getD j 0)=B^i*x*val (b.take j)+B^(i+j)*(x*b.getD j 0):=by rw [Nat.mul_add,Nat.pow_add]; grind
 rw [h2,h3]
 have h4:=congrArg (B^(i+j) * ·) he
 simp only [Nat.mul_add] at h4
 generalize B^(i+j)*(B*c')=q1 at *
 generalize B^(i+j)*l2=q2 at *
 generalize B^(i+j)*(x*b.getD j 0)=q3 at *
 generalize B^(i+j)*c=q4 at *
 generalize B^(i+j)*out.getD (i+j) 0=q5 at *
 omega
theorem bi {l:List Nat} {i k v:Nat} (h:i≠k):(l.set i v).getD k 0=l.getD k 0:=by
 rw [List.getD_eq_getElem?_getD,List.getD_eq_getElem?_getD,List.getElem?_set,if_neg h]
theorem mul_school (C:Code tab) (hw:Wf H) {sa sb:AV} {a b:List Nat} (ha:Lb H sa a) (hb:Lb H sb b) (hla:a.length<1099511627776) (hlb:b.length<1099511627776) (la:Lim a) (lb:Lim b) :
  Ans tab (.fn mL [sa,sb]) H fun v H'=>Lb H' v (ag (val a*val b))/\Kp H H':=by
 refine ca C.mul_school (by decide) fun T hl g0 g1=>?_
 have hwr:IntKind.i64.wrap ((a.length:Int)+(b.length:Int))=((a.length+b.length:Nat):Int):=by rw [wrap_i64] <;> omega
 obtain ⟨N,hN⟩:∃ N,a.length+b.length=N:=⟨_,rfl⟩
 rw [hN] at hwr
 have hmk:∀ H' id,E3 H' id ad 1 8 [.int .u64 0] (.int .i64 (N:Int)) (.int .i64 (N:Int))=some (.own id 0 N N 1 true,H'.put id (.cells (aI (List.replicate N 0)) ad true)):=fun H' id=>by
  exact (iZ H' id ad 1 8 [.int .u64 0] .i64 .i64 N (by omega) (by omega) rfl).trans (by rw [kj])
 refine zW (jm hl g0 g1 ha.lenV hb.lenV hwr hmk) ?_
 refine ak H [] (fun i vs H'=>∃ out,H'.get (H.next+6)=some (.cells (aI out) ad true)/\out.length=N/\Lim out/\val out=val (a.take i)*val b/\∀ k,i+b.length<=k->out.getD k 0=0) (a:=0) (N:=a.length) rfl (by refine zW (aC hl g0 g1) ?_; rfl) (zV (aC hl g0 g1)) (Nat.zero_le _) (by omega) (by simp only [List.length_set,hl]; rfl) rfl (fun _ _ _ _ h=>h) zK
  ⟨List.replicate N 0,by exact dC,by simp,Lim.replicate N,by rw [eH]; simp [val],fun k _=>by simp [List.getD_eq_getElem?_getD,List.getElem?_replicate]; split <;> rfl⟩ ?_ ?_
 ·rintro i T1 H1 _ hi hl1 hi1 hs1 hk1 ⟨out,b6,hlen,hlim,hval,hz⟩
  simp only [List.length_set,hl] at hl1
  have w1:=hk1.wf
  have le_hk1:=hk1.le
  have t5:ae T1 5=.own (H.next+6) 0 N N 1 true:=(hs1.at_ 5 (by decide)).trans (zV (aC hl g0 g1))
  have t1:ae T1 1=sb:=(hs1.at_ 1 (by decide)).trans (zV (bg hl g0 g1 g1))
  have t20:ae T1 20=sa:=(hs1.at_ 20 (by decide)).trans (zV (aC hl g0 g1))
  have hix:=SlV.idx1 ha .i64 i hi
  have hld:=dO (ha.mono hk1.sub) hi
  refine zW (mw hl1 t5 t1 t20 hi1 hix hld hb.lenV) ?_
  have hxB:=la.at i
  refine ak H [8] (fun j vs H'=>∃ o c:_,vs=[.int .u64 ((c:Nat):Int)]/\H'.get (H.next+6)=some (.cells (aI o) ad true)/\o.length=N/\Lim o/\c<B/\val o+B^(i+j)*c=val (a.take i)*val b+B^i*a.getD i 0*val (b.take j)/\∀ k,i+b.length<=k->o.getD k 0=0) (a:=0) (N:=b.length) rfl (by refine zW hl1 ?_; rfl) (zV hl1) (Nat.zero_le _) (by omega) (by simp only [List.length_set,hl1]; rfl) rfl (fun _ _ _ _ h=>h) zK
   ⟨out,0,by refine zW hl1 ?_; rfl,b6,hlen,hlim,by decide,by simp [hval,val],hz⟩ ?_ ?_
  ·rintro j T2 H2 _ hj hl2 hi2 hs2 hk2 ⟨o,c,hv,c6,holen,holim,hc,hoval,hoz⟩
   simp only [List.length_set,hl1] at hl2
   simp only [List.map_cons,List.map_nil,List.cons.injEq,and_true] at hv
   have w2:=hk2.wf
   have le_hk2:=hk2.le
   have u5:ae T2 5=.own (H.next+6) 0 N N 1 true:=(hs2.at_ 5 (by decide)).trans (zV (az hl1 t5))
   have u6:ae T2 6=.int .i64 (i:Int):=(hs2.at_ 6 (by decide)).trans (zV hl1)
   have u7:ae T2 7=.int .u64 ((a.getD i 0:Nat):Int):=(hs2.at_ 7 (by decide)).trans (zV hl1)
   have u27:ae T2 27=sb:=(hs2.at_ 27 (by decide)).trans (zV (az hl1 t1))
   have hjx:=SlV.idx1 hb .i64 j hj
   have hjd:=dO (hb.mono hk2.sub) hj
   have hyB:=lb.at j
   have hwij:IntKind.i64.wrap ((i:Int)+(j:Int))=((i+j:Nat):Int):=by rw [wrap_i64] <;> omega
   have hoB:=holim.at (i+j)
   refine zW (mw hl2 u5 u6 u7 u27 hi2 hjx hjd) ?_
   refine AnsH.use (ng C zF hxB hyB) ?_
   rintro v H3 ⟨rfl,hk3⟩
   obtain ⟨k3,_,w3⟩:=zT H zK hk3
   have d6:=hk3.get (b:=H.next+6) c6
   refine zW (kU hl2 u5 u6 u7 u27 hi2 hv hwij d6) ?_
   refine AnsH.eq (Py C _ (a.getD i 0*b.getD j 0 % B) (o.getD (i+j) 0) 0 (Nat.mod_lt _ (by decide)) hoB (by omega)) fun H4 e4=>?_
   subst e4
   refine zW (kU hl2 u5 u6 u7 u27 hi2 hv hwij d6) ?_
   refine AnsH.eq (Py C _ (dU (a.getD i 0*b.getD j 0 % B) (o.getD (i+j) 0) 0).1 c 0 (Nat.mod_lt _ (by decide)) hc (by omega)) fun H4 e4=>?_
   subst e4
   have lt6:=k3.wf _ _ d6
   refine zW (kU hl2 u5 u6 u7 u27 hi2 hv hwij d6) ?_
   have hs:=Af hxB hyB hoB hc
   refine ⟨zK,_,_,rfl,rfl,by simp [holen],i8 holim (Nat.mod_lt _ (by decide)),Nat.mod_lt _ (by decide),BV (by omega) hoval hs,fun k hk=>?_⟩
   rw [bi (by omega)]
   exact hoz k hk
  ·intro T2 H2 hl2 hs2 hk2 ⟨o,c,hv,c6,holen,holim,hc,hoval,hoz⟩
   simp only [List.length_set,hl1] at hl2
   simp only [List.map_cons,List.map_nil,List.cons.injEq,and_true] at hv
   have w2:=hk2.wf
   have le_hk2:=hk2.le
   have u5:ae T2 5=.own (H.next+6) 0 N N 1 true:=(hs2.at_ 5 (by decide)).trans (zV (az hl1 t5))
   have u6:ae T2 6=.int .i64 (i:Int):=(hs2.at_ 6 (by decide)).trans (zV hl1)
   have u1:ae T2 1=sb:=(hs2.at_ 1 (by decide)).trans (zV (az hl1 t1))
   have hwij:IntKind.i64.wrap ((i:Int)+(b.length:Int))=((i+b.length:Nat):Int):=by rw [wrap_i64] <;> omega
   have lt6:=hk2.wf _ _ c6
   refine zW (mw hl2 u5 u6 u1 hv hwij c6 hb.lenV) ?_
   have h1:=gS (l:=o) (k:=i+b.length) (v:=c) (by omega)
   rw [hoz _ (Nat.le_refl _)] at h1
   rw [List.take_of_length_le (Nat.le_refl _)] at hoval
   refine ⟨zK,_,rfl,by simp [holen],i8 holim hc,?_,fun k hk=>?_⟩
   ·rw [cD,Nat.add_mul]; omega
   ·rw [bi (by omega)]
    exact hoz k (by omega)
 ·intro T1 H1 hl1 hs1 hk1 ⟨out,b6,hlen,hlim,hval,hz⟩
  simp only [List.length_set,hl] at hl1
  have w1:=hk1.wf
  have le_hk1:=hk1.le
  have t5:ae T1 5=.own (H.next+6) 0 N N 1 true:=(hs1.at_ 5 (by decide)).trans (zV (aC hl g0 g1))
  rw [List.take_of_length_le (Nat.le_refl _)] at hval
  have ho:=(rc (H0:=H) (ex:=true) b6 (by omega) hlen).sl
  refine zW (az hl1 t5) ?_
  refine AnsH.use (mul_trim C zF (ho.mono (Sub.bump H1 _)) (by omega)) ?_
  rintro v H2 ⟨h2,hk2⟩
  obtain ⟨k2,_,_⟩:=zT H zK hk2
  rw [dI hlim,hval] at h2
  refine zW hl1 ?_
  exact ⟨h2,zK⟩
end
theorem vM {n m:Nat} (h:n<=m):(ag n).length<=(ag m).length:=bk (Nat.lt_of_le_of_lt h (gt m))
theorem Sm.mono {n m:Nat} (h:n<=m) (hm:Sm m):Sm n:=Nat.lt_of_le_of_lt (vM h) hm
theorem Qe:∀ (k n:Nat),(ag n).drop k=ag (n / B^k)
 | 0,n=>by simp
 | k+1,n=>by
  by_cases h:n=0
  ·subst h; simp [co]
  ·rw [gO h,List.drop_succ_cons,Qe k,Nat.div_div_eq_div_mul,Nat.pow_succ,Nat.mul_comm B]
theorem Qu:∀ (k n:Nat),val ((ag n).take k)=n % B^k
 | 0,n=>by simp [val,Nat.mod_one]
 | k+1,n=>by
  by_cases h:n=0
  ·subst h; simp [co,val]
  ·rw [gO h,List.take_succ_cons,val,Qu k,Nat.pow_succ,Nat.mul_comm (B^k),Nat.mod_mul]
theorem AC {n:Nat} (h:n≠0) (k:Nat):List.replicate k 0++ag n=ag (n*B^k):=by
 have hne:ag n≠[]:=fun h1=>h (limbs_nil.1 h1)
 rw [<- sj (l:=List.replicate k 0++ag n) ((Lim.replicate k).append (bz n)) ?_,my,eH,bJ,List.length_replicate,Nat.zero_add,Nat.mul_comm]
 unfold F3
 rw [List.getLast?_append]
 have hn:=cZ n
 unfold F3 at hn
 cases hg:(ag n).getLast? with
 | none=>exact absurd (List.getLast?_eq_none_iff.1 hg) hne
 | some a=>rw [hg] at hn; simpa using hn
section
variable {tab:Nat->Option aq} {H:Heap} {s:AV}
theorem dQ (H:Heap):bZ H .nilSl 0:=by
 show tX bX ad H .nilSl (ag 0)
 rw [co]; exact SlV.nil _ _ _
theorem kV (ls:List Nat) {j:Nat} (hj:j<ls.length):(ls.take (j+1)).sum=(ls.take j).sum+ls[j]:=by
 rw [List.take_succ_eq_append_getElem hj,List.sum_append]; simp only [List.sum_cons,List.sum_nil,Nat.add_zero]
theorem sW (ls:List Nat):∀ j,(ls.take j).sum<=ls.sum:=fun j=>by
 conv=>rhs; rw [<- List.take_append_drop j ls,List.sum_append]
 omega
theorem mul_sum (C:Code tab) (hw:Wf H) {ls:List Nat} {ty:Nat} (hs:tX (pE (cB bX) ad) ty H s (ls.map ag)) (hbig:ls.length<4611686018427387904) (hsm:Sm ls.sum) :
  Ans tab (.fn rW [s]) H fun v H'=>bZ H' v ls.sum/\Kp H H':=by
 refine OD C.mul_sum (by decide) fun T hl g0=>?_
 have hlen:=hs.lenV
 rw [List.length_map] at hlen
 refine zW (aC hl g0 hlen) ?_
 refine ak H [2] (fun j vs H'=>∃ v,vs=[v]/\bZ H' v (ls.take j).sum) (a:=0) (N:=ls.length) rfl (by refine zW (az hl g0) ?_; rfl) (zV (az hl g0)) (Nat.zero_le _) (by omega) (by simp only [List.length_set,hl]; rfl) rfl (fun _ _ _ _ h=>h) zK ⟨.nilSl,by exact zV (az hl g0),dQ _⟩ ?_ ?_
 ·rintro j T1 H1 _ hj hl1 hi1 hs1 hk1 ⟨v,hv,hn⟩
  simp only [List.map_cons,List.map_nil,List.cons.injEq,and_true] at hv
  simp only [List.length_set,hl] at hl1
  have w1:=hk1.wf
  have le_hk1:=hk1.le
  have t5:ae T1 5=s:=(hs1.at_ 5 (by decide)).trans (zV (az hl g0))
  obtain ⟨c,hcr,hld⟩:=SlV.at1 (hs.mono hk1.sub) (i:=j) (a:=ag ls[j]) (by simp [hj])
  have hix:=SlV.idx1 hs .i64 j (by simpa using hj)
  have hsj:Sm (ls.take (j+1)).sum:=hsm.mono (sW ls _)
  rw [kV ls hj] at hsj
  refine zW (fW hl1 t5 hi1 hix hld hv) ?_
  refine AnsH.use (nat_Add C zF (hn.mono (Kp.sub (H:=H1) zK)) (SlV.mono (Kp.sub (H:=H1) zK) hcr) (hsj.mono (by omega)) (hsj.mono (by omega))) ?_
  rintro v2 H2 ⟨o,rfl,ho,hk2⟩
  obtain ⟨k2,_,_⟩:=zT H zK hk2
  refine zW hl1 ?_
  refine ⟨zK,o,rfl,?_⟩
  rw [kV ls hj]; exact ho
 ·rintro T1 H1 hl1 hs1 hk1 ⟨v,hv,hn⟩
  simp only [List.map_cons,List.map_nil,List.cons.injEq,and_true] at hv
  simp only [List.length_set,hl] at hl1
  rw [List.take_of_length_le (Nat.le_refl _)] at hn
  refine zW (az hl1 hv) ?_
  exact ⟨hn,hk1⟩
theorem mul_rest (C:Code tab) (hw:Wf H) {a:AV} {n:Nat} {ls:List Nat} {ty:Nat} (ha:bZ H a n) (hs:tX (pE (cB bX) ad) ty H s (ls.map ag)) (hbig:ls.length<4611686018427387904) (hsm:Sm n) (hle:ls.sum<=n) :
  Ans tab (.fn qp [a,s]) H fun v H'=>bZ H' v (n-ls.sum)/\Kp H H':=by
 refine ca C.mul_rest (by decide) fun T hl g0 g1=>?_
 have hlen:=hs.lenV
 rw [List.length_map] at hlen
 refine zW (bg hl g0 g1 hlen) ?_
 refine ak H [0] (fun j vs H'=>∃ v,vs=[v]/\bZ H' v (n-(ls.take j).sum)) (a:=0) (N:=ls.length) rfl (by refine zW (aC hl g0 g1) ?_; rfl) (zV (aC hl g0 g1)) (Nat.zero_le _) (by omega) (by simp only [List.length_set,hl]; rfl) rfl (fun _ _ _ _ h=>h) zK ⟨a,by exact zV (az hl g0),ha.mono (Kp.sub (H:=H) zK)⟩ ?_ ?_
 ·rintro j T1 H1 _ hj hl1 hi1 hs1 hk1 ⟨v,hv,hn⟩
  simp only [List.map_cons,List.map_nil,List.cons.injEq,and_true] at hv
  simp only [List.length_set,hl] at hl1
  have w1:=hk1.wf
  have le_hk1:=hk1.le
  have t7:ae T1 7=s:=(hs1.at_ 7 (by decide)).trans (zV (bg hl g0 g1 g1))
  obtain ⟨c,hcr,hld⟩:=SlV.at1 (hs.mono hk1.sub) (i:=j) (a:=ag ls[j]) (by simp [hj])
  have hix:=SlV.idx1 hs .i64 j (by simpa using hj)
  have hsj:=sW ls (j+1)
  have hsj2:=kV ls hj
  refine zW (fW hl1 t7 hi1 hix hld hv) ?_
  refine AnsH.use (nat_Sub C zF (hn.mono (Kp.sub (H:=H1) zK)) (SlV.mono (Kp.sub (H:=H1) zK) hcr) (hsm.mono (by omega)) (hsm.mono (by omega))) ?_
  rintro v2 H2 ⟨hk2,hr⟩
  rw [if_pos (by omega)] at hr
  obtain ⟨o,rfl,ho⟩:=hr
  obtain ⟨k2,_,_⟩:=zT H zK hk2
  refine zW hl1 ?_
  refine ⟨zK,o,rfl,?_⟩
  rw [hsj2,<- Nat.sub_sub]; exact ho
 ·rintro T1 H1 hl1 hs1 hk1 ⟨v,hv,hn⟩
  simp only [List.map_cons,List.map_nil,List.cons.injEq,and_true] at hv
  simp only [List.length_set,hl] at hl1
  rw [List.take_of_length_le (Nat.le_refl _)] at hn
  refine zW (az hl1 hv) ?_
  exact ⟨hn.mono (Sub.bump H1 _),zK⟩
theorem mul_up (C:Code tab) (hw:Wf H) {a:AV} {n k:Nat} (ha:bZ H a n) (hsm:Sm n) (hk:k<4398046511104) :
  Ans tab (.fn vG [a,.int .i64 (k:Int)]) H fun v H'=>bZ H' v (n*B^k)/\Kp H H':=by
 refine ca C.mul_up (by decide) fun T hl g0 g1=>?_
 unfold Sm at hsm
 by_cases h0:n=0
 ·subst h0
  have e:lenV a=some (.int .i64 0):=by have:=ha.lenV; rwa [co] at this
  refine zW (bg hl g0 g1 e) ?_
  rw [Nat.zero_mul]
  exact ⟨dQ _,zK⟩
 ·have hlen:¬ ((ag n).length:Int)=0:=by have:=(bN n).2 h0; omega
  have hmk:∀ H' id,E3 H' id ad 1 8 [.int .u64 0] (.int .i64 (k:Int)) (.int .i64 (k:Int))=some (.own id 0 k k 1 true,H'.put id (.cells (aI (List.replicate k 0)) ad true)):=fun H' id =>
   (iZ H' id ad 1 8 [.int .u64 0] .i64 .i64 k (by omega) (by omega) rfl).trans (by rw [kj])
  refine zW (fW hl g0 g1 ha.lenV hlen hmk) ?_
  have k1:Kp H ((H.up 9).put (H.next+5) (.cells (aI (List.replicate k 0)) ad true)):=zK
  have le_k1:=k1.le
  have h0':=(rc (H0:=H) (H:=(H.up 9).put (H.next+5) (.cells (aI (List.replicate k 0)) ad true)) (ex:=true) (n:=k) (aA _ _ _) (by omega) (by simp)).sl
  have h1:SlV (cB bX) ad ((H.up 9).put (H.next+5) (.cells (aI (List.replicate k 0)) ad true)) (.own (H.next+5) 0 (List.replicate k 0).length (List.replicate k 0).length 1 true) (List.replicate k 0):=by simpa using h0'
  obtain ⟨v',H2,e1,h2,hk2,hn2,hs2,-⟩:=SlV.app (id:=H.next+7) (bytes:=8) h1 k1 (ha.mono k1.sub) (by omega) (by show _<H.next+9; omega) (by rw [au (by omega)]; exact hw.fresh (b:=H.next+7) (by omega)) (by simp; omega) (by simp; omega)
  have e1':OC ((H.up 9).put (H.next+5) (.cells (aI (List.replicate k 0)) ad true)) (H.next+7) 1 8 ad (.own (H.next+5) 0 k k 1 true) a=some (v',H2):=by rw [List.length_replicate] at e1; exact e1
  rw [AC h0] at h2
  refine zW (bg hl g0 g1 e1') ?_
  exact ⟨h2,hk2⟩
theorem mul_parts (C:Code tab) (hw:Wf H) {a:AV} {n k:Nat} (ha:bZ H a n) (hsm:Sm n) (hk:k<4398046511104) :
  Ans tab (.fn oh [a,.int .i64 (k:Int)]) H fun v H'=>∃ p q,v=.tup [p,q]/\bZ H' p (n % B^k)/\bZ H' q (n / B^k)/\Kp H H':=by
 refine ca C.mul_parts (by decide) fun T hl g0 g1=>?_
 unfold Sm at hsm
 obtain ⟨m,hm⟩:∃ m,m=min k (ag n).length:=⟨_,rfl⟩
 have hmin:Ci (.int .i64 (k:Int)) (.int .i64 ((ag n).length:Int))=some (.int .i64 (m:Int)):=by rw [ur]; congr 2; split <;> omega
 obtain ⟨p,e1,hp⟩:=SlV.clipat ha .i64 .i64 m (by omega)
 obtain ⟨q,e2,hq⟩:=ha.lo .i64 m (by omega)
 have e1':cR 1 a none (some (.int .i64 (m:Int))) (some (.int .i64 (m:Int)))=some p:=e1
 have e2':cR 1 a (some (.int .i64 (m:Int))) none none=some q:=e2
 have et:(ag n).take m=(ag n).take k:=by
  by_cases h:k<=(ag n).length
  ·rw [hm,Nat.min_eq_left h]
  ·rw [hm,Nat.min_eq_right (by omega),List.take_of_length_le (Nat.le_refl _),List.take_of_length_le (by omega)]
 have ed:(ag n).drop m=(ag n).drop k:=by
  by_cases h:k<=(ag n).length
  ·rw [hm,Nat.min_eq_left h]
  ·rw [hm,Nat.min_eq_right (by omega),List.drop_eq_nil_of_le (Nat.le_refl _),List.drop_eq_nil_of_le (by omega)]
 refine zW (cJ hl g0 g1 ha.lenV hmin) ?_
 refine aO ?_
 refine zD (cJ hl g0 g1 e1' e2') ?_
 refine AnsH.use (mul_trim C zF (hp.mono (Kp.sub (H:=H) zK)) (by rw [List.length_take]; omega)) ?_
 rintro v H2 ⟨h2,hk2⟩
 obtain ⟨k2,_,_⟩:=zT H zK hk2
 rw [dI ((bz n).take m),et,Qu] at h2
 rw [ed,Qe] at hq
 refine zD (cJ hl g0 g1 e1' e2') ?_
 exact ⟨v,q,rfl,h2,hq.mono k2.sub,k2⟩
end
section
variable {tab:Nat->Option aq} {H:Heap} {s:AV}
theorem fH (C:Code tab) (hw:Wf H) {a:AV} {n:Nat} (ha:bZ H a n) (hsm:Sm n):Ans tab (.fn kD [a]) H fun v H'=>v=.int .i64 0/\Kp H H':=by
 unfold Sm at hsm
 exact (nat_Check C hw ha (by omega)).mono fun v H' ⟨h1,h2⟩=>⟨by rw [h1,if_neg (cZ n)],h2⟩
theorem mul_checked (C:Code tab) (hw:Wf H) {a b:AV} {x y fi:Nat} {first:List AV} (ha:bZ H a x) (hb:bZ H b y) (hx:Sm x) (hy:Sm y) {R:Heap->AV->Prop} (hR:∀ H' v m,R H' v->R (H'.up m) v)
  (hf:∀ H',Kp H H'->Ans tab (.fn fi (first++[a,b])) H' fun v H2=>R H2 v/\Kp H H2) :
  Ans tab (.fn lA [a,b,.fn (.func fi) first []]) H fun v H'=>∃ r,v=.tup [r,.int .i64 0]/\R H' r/\Kp H H':=by
 refine Qg C.mul_checked (by decide) fun T hl g0 g1 g2=>?_
 have oa:=ha.one
 have ob:=hb.one
 refine zW (bg hl g0 g1 g2) ?_
 refine bf H [14] (fun k vs H'=>∃ i:Nat,vs=[.int .i64 (i:Int)]/\i+k=2) 2 (by simp only [List.length_set]; exact hl) rfl zK ⟨0,by refine zW (bg hl g0 g1 g2) ?_; rfl,rfl⟩ ?_
 rintro k T1 H1 hl1 hs1 hk1 ⟨i,hv,hik⟩
 simp only [List.map_cons,List.map_nil,List.cons.injEq,and_true] at hv
 have w1:=hk1.wf
 have le_hk1:=hk1.le
 have t13:ae T1 13=.agg [a,b]:=(hs1.at_ 13 (by decide)).trans (zV (aC hl g0 g1))
 have t0:ae T1 0=a:=(hs1.at_ 0 (by decide)).trans (zV (az hl g0))
 have t1:ae T1 1=b:=(hs1.at_ 1 (by decide)).trans (zV (cJ hl g0 g1 g2 g1))
 have t2:ae T1 2=.fn (.func fi) first []:=(hs1.at_ 2 (by decide)).trans (zV (cJ hl g0 g1 g2 g2))
 match i,hik with
 | 0,hik =>
  have hv':ae T1 14=.int .i64 0:=hv
  have e:IntKind.i64.wrap (0+1)=((1:Nat):Int):=by decide
  refine zW (aC hl1 hv' t13) ?_
  refine AnsH.eq (fH C zF (ha.mono (Kp.sub (H:=H) zK)) hx) fun H2 hk2=>?_
  obtain ⟨k2,_,_⟩:=zT H zK hk2
  refine zW (aC hl1 hv' e) ?_
  exact ⟨zK,k-1,by omega,1,rfl,by omega⟩
 | 1,hik =>
  have hv':ae T1 14=.int .i64 1:=hv
  have e:IntKind.i64.wrap (1+1)=((2:Nat):Int):=by decide
  refine zW (aC hl1 hv' t13) ?_
  refine AnsH.eq (fH C zF (hb.mono (Kp.sub (H:=H) zK)) hy) fun H2 hk2=>?_
  obtain ⟨k2,_,_⟩:=zT H zK hk2
  refine zW (aC hl1 hv' e) ?_
  exact ⟨zK,k-1,by omega,2,rfl,by omega⟩
 | 2,hik =>
  have hv':ae T1 14=.int .i64 2:=hv
  refine zW (cJ hl1 hv' t0 t1 t2) ?_
  refine AnsH.use (hf _ zK) ?_
  rintro v H2 ⟨h2,hk2⟩
  refine zW hl1 ?_
  exact ⟨v,rfl,h2,hk2⟩
 | i+3,hik=>omega
theorem Nf {H H1:Heap} {b ty t1:Nat} {α:Type} {E:eU α} {x y z:AV} {l m n:List α} (hx:SlV E t1 H x l) (hy:SlV E t1 H y m) (hz:SlV E t1 H z n) (hs:Sub H H1) (hg:H1.get b=some (.cells [x,y,z] ty true)):tX (pE E t1) ty H1 (.own b 0 3 3 1 true) [l,m,n] :=
 ⟨[x,y,z],Rd.own hg rfl (Nat.le_refl _),fun _ _ _ _ _ _ e=>by cases e; exact ⟨_,_,hg⟩,rfl,fun i a hi=>by
  match i with
  | 0=>simp at hi; subst hi; exact ⟨x,rfl,hx.mono hs⟩
  | 1=>simp at hi; subst hi; exact ⟨y,rfl,hy.mono hs⟩
  | 2=>simp at hi; subst hi; exact ⟨z,rfl,hz.mono hs⟩
  | i+3=>simp at hi⟩
theorem Ab {x m h:Nat} (hx:x<B^m) (h1:h<=m):x / B^h<B^(m-h):=by
 apply Nat.div_lt_of_lt_mul
 rw [<- Nat.pow_add]
 have:h+(m-h)=m:=by omega
 rw [this]; exact hx
theorem Sm.of {n k:Nat} (h:n<B^k) (hk:k<1099511627776):Sm n:=Nat.lt_of_le_of_lt (bk h) hk
theorem xN {n m:Nat} (h:(ag n).length<=m):n<B^m:=Nat.lt_of_lt_of_le (gt n) (Nat.pow_le_pow_right (by decide) h)
set_option maxHeartbeats 2000000 in
theorem Hz (C:Code tab):∀ (M:Nat) {H:Heap} {a b:AV} {x y:Nat},Wf H->bZ H a x->bZ H b y->max (ag x).length (ag y).length=M->M<274877906944 ->
  Ans tab (.fn fY [.int .i64 8,a,b]) H fun v H'=>bZ H' v (x*y)/\Kp H H':=by
 intro M
 induction M using Nat.strongRecOn with
 | _ M ih =>
 intro H a b x y hw ha hb hM hbig
 refine Qg C.mul_splitter_make (by decide) fun T hl g0 g1 g2=>?_
 obtain ⟨mn,hmn⟩:∃ mn,mn=min (ag x).length (ag y).length:=⟨_,rfl⟩
 have hmin:Ci (.int .i64 ((ag x).length:Int)) (.int .i64 ((ag y).length:Int))=some (.int .i64 (mn:Int)):=by rw [ur]; congr 2; split <;> omega
 have hmax:E4 (.int .i64 ((ag x).length:Int)) (.int .i64 ((ag y).length:Int))=some (.int .i64 (M:Int)):=by rw [yY]; congr 2; split <;> omega
 refine zW (jm hl g0 g1 g2 ha.lenV hb.lenV hmin) ?_
 refine iteH.split (fun h=>?_) fun h=>?_
 ·refine zW (bg hl g0 g1 g2) ?_
  refine AnsH.use (mul_school C zF (ha.mono (Kp.sub (H:=H) zK)) (hb.mono (Kp.sub (H:=H) zK)) (by omega) (by omega) (bz x) (bz y)) ?_
  rintro v H2 ⟨h2,hk2⟩
  obtain ⟨k2,_,_⟩:=zT H zK hk2
  rw [bJ,bJ] at h2
  refine zW (bg hl g0 g1 g2) ?_
  exact ⟨h2,zK⟩
 ·have hM9:9<=M:=by omega
  obtain ⟨k,hk⟩:∃ k,k=(M+1) / 2:=⟨_,rfl⟩
  have hw1:IntKind.i64.wrap ((M:Int)+1)=((M+1:Nat):Int):=by rw [wrap_i64] <;> omega
  have hq:bP .quo .int (.int .i64 ((M+1:Nat):Int)) (.int .i64 2)=some (.int .i64 (k:Int)):=by
   show some (AV.int .i64 (IntKind.i64.wrap (((M+1:Nat):Int).tdiv 2)))=_
   have:((M+1:Nat):Int).tdiv 2=(k:Int):=by rw [Int.tdiv_eq_ediv_of_nonneg (by omega)]; omega
   rw [this,wrap_i64] <;> omega
  have hxM:x<B^M:=xN (by omega)
  have hyM:y<B^M:=xN (by omega)
  have hkM:M-k<=k/\k<=M/\k+1<M:=by omega
  have hx0:x % B^k<B^k:=Nat.mod_lt _ (Nat.pow_pos (by decide))
  have hy0:y % B^k<B^k:=Nat.mod_lt _ (Nat.pow_pos (by decide))
  have hx1:x / B^k<B^(M-k):=Ab hxM hkM.2.1
  have hy1:y / B^k<B^(M-k):=Ab hyM hkM.2.1
  have hpk:B^(M-k)<=B^k:=Nat.pow_le_pow_right (by decide) hkM.1
  have hpk1:2*B^k<=B^(k+1):=by rw [Nat.pow_succ,Nat.mul_comm]; exact Nat.mul_le_mul_left _ (by decide)
  have hex:x=x / B^k*B^k+x % B^k:=(Nat.div_add_mod' x (B^k)).symm
  have hey:y=y / B^k*B^k+y % B^k:=(Nat.div_add_mod' y (B^k)).symm
  have hw2:IntKind.i64.wrap (2*(k:Int))=((2*k:Nat):Int):=by rw [wrap_i64] <;> omega
  have hsx:Sm x:=Sm.of hxM (by omega)
  have hsy:Sm y:=Sm.of hyM (by omega)
  have hprod:x*y<B^(M+M):=by rw [Nat.pow_add]; exact Nat.mul_lt_mul'' hxM hyM
  have hsxy:Sm (x*y):=Sm.of hprod (by omega)
  refine zW (kU hl g0 g1 g2 ha.lenV hb.lenV hmax hw1 hq) ?_
  refine AnsH.use (mul_parts C zF (ha.mono (Kp.sub (H:=H) zK)) hsx (by omega)) ?_
  rintro v H1 ⟨p0,p1,rfl,hp0,hp1,hk1⟩
  obtain ⟨k1,_,w1⟩:=zT H zK hk1
  refine zW (bg hl g0 g1 g2) ?_
  refine AnsH.use (mul_parts C zF (hb.mono (Kp.sub (H:=H) zK)) hsy (by omega)) ?_
  rintro v H2 ⟨q0,q1,rfl,hq0,hq1,hk2⟩
  obtain ⟨k12,_,_⟩:=zT H1 zK hk2
  have k2:Kp H H2:=k1.trans k12
  have le_k2:=k2.le
  have w2:=k2.wf
  have hp0:=hp0.mono k12.sub
  have hp1:=hp1.mono k12.sub
  generalize x % B^k=x0 at *
  generalize x / B^k=x1 at *
  generalize y % B^k=y0 at *
  generalize y / B^k=y1 at *
  have lx0:(ag x0).length<=k:=bk hx0
  have ly0:(ag y0).length<=k:=bk hy0
  have lx1:(ag x1).length<=k:=bk (by omega)
  have ly1:(ag y1).length<=k:=bk (by omega)
  refine zW (bg hl g0 g1 g2) ?_
  refine AnsH.use (ih _ (by omega) zF (hp0.mono (Kp.sub (H:=H2) zK)) (hq0.mono (Kp.sub (H:=H2) zK)) rfl (by omega)) ?_
  rintro r0 H3 ⟨hr0,hk3⟩
  obtain ⟨k23,_,w3⟩:=zT H2 zK hk3
  refine zW (bg hl g0 g1 g2) ?_
  refine AnsH.use (ih _ (by omega) zF (hp1.mono (Kp.sub (H:=H2) zK)) (hq1.mono (Kp.sub (H:=H2) zK)) rfl (by omega)) ?_
  rintro r1 H4 ⟨hr1,hk4⟩
  obtain ⟨k34,_,_⟩:=zT H3 zK hk4
  have k24:Kp H2 H4:=k23.trans k34
  have le_k24:=k24.le
  have w4:=k34.wf
  have hr0:=hr0.mono k34.sub
  have hp0:=hp0.mono k24.sub
  have hp1:=hp1.mono k24.sub
  have hq0:=hq0.mono k24.sub
  have hq1:=hq1.mono k24.sub
  have op0:=hp0.one
  have op1:=hp1.one
  have oq0:=hq0.one
  have oq1:=hq1.one
  have or0:=hr0.one
  have or1:=hr1.one
  refine zW (bg hl g0 g1 g2) ?_
  refine AnsH.use (mul_sum C (ls:=[x0,x1]) zF (el hp0 hp1 (Kp.sub (H:=H4) zK) (by refine qN ?_; rfl)) (by simp) (Sm.of (k:=k+1) (by simp; omega) (by omega))) ?_
  rintro sx H5 ⟨hsx',hk5⟩
  obtain ⟨k45,_,w5⟩:=zT H4 zK hk5
  have n5:H4.next+15<=H5.next:=hk5.le
  have f4:∀ c,c<15->c≠3->H5.get (H4.next+c)=none:=fun c hc h3=>hk5.free (show _<H4.next+15 by omega) (by rw [au (by omega)]; exact w4.fresh (b:=H4.next+c) (by omega))
  have oq0':=oq0
  refine zW (bg hl g0 g1 g2) ?_
  have s5:Sub H5 (H5.put (H4.next+7) (.cells [q0,q1] aE true)):=bh (f4 7 (by omega) (by omega))
  refine AnsH.use (mul_sum C (ls:=[y0,y1]) zF (el (hq0.mono k45.sub) (hq1.mono k45.sub) s5 (by refine qN ?_; rfl)) (by simp) (Sm.of (k:=k+1) (by simp; omega) (by omega))) ?_
  rintro sy H6 ⟨hsy',hk6⟩
  obtain ⟨k46,_,_⟩:=zT H4 zK hk6
  have s56:Sub H5 H6:=s5.trans hk6.sub
  have w6:=k46.wf
  have n6:H5.next<=H6.next:=hk6.le
  have f6:H6.get (H4.next+12)=none:=hk6.free (show _<H5.next by omega) (by rw [au (by omega)]; exact f4 12 (by omega) (by omega))
  have ex0:[x0,x1].sum=x0+x1:=by simp
  have ey0:[y0,y1].sum=y0+y1:=by simp
  rw [ex0] at hsx'
  rw [ey0] at hsy'
  have lsx:(ag (x0+x1)).length<=k+1:=bk (by omega)
  have lsy:(ag (y0+y1)).length<=k+1:=bk (by omega)
  refine zW (bg hl g0 g1 g2) ?_
  refine AnsH.use (ih _ (by omega) zF (hsx'.mono s56) hsy' rfl (by omega)) ?_
  rintro m0 H7 ⟨hm0,hk7⟩
  have k47:Kp H4 H7:=k46.trans hk7
  have le_k47:=k47.le
  have w7:=k47.wf
  have n7:H6.next<=H7.next:=hk7.le
  have f7:H7.get (H4.next+12)=none:=hk7.free (by omega) f6
  have om0:=hm0.one
  have hr0:=hr0.mono k47.sub
  have hr1:=hr1.mono k47.sub
  have e1:(x0+x1)*(y0+y1)=x0*y0+x1*y1+(x0*y1+x1*y0):=by grind
  have hlast:x1*y1<=x*y:=by
   rw [hex,hey]
   exact Nat.mul_le_mul (by have:=Nat.pow_pos (n:=k) (show 0<B by decide); have:=Nat.le_mul_of_pos_right x1 this; omega) (by have:=Nat.pow_pos (n:=k) (show 0<B by decide); have:=Nat.le_mul_of_pos_right y1 this; omega)
  have hmid:(x0+x1)*(y0+y1)<B^((k+1)+(k+1)):=by rw [Nat.pow_add]; exact Nat.mul_lt_mul'' (by omega) (by omega)
  have hsm:Sm ((x0+x1)*(y0+y1)):=Sm.of hmid (by omega)
  refine zW (bg hl g0 g1 g2) ?_
  have s7:Sub H7 (H7.put (H4.next+12) (.cells [r0,r1] aE true)):=bh f7
  refine AnsH.use (mul_rest C (ls:=[x0*y0,x1*y1]) zF (hm0.mono s7) (el hr0 hr1 s7 (by refine qN ?_; rfl)) (by simp) hsm (by simp; omega)) ?_
  rintro md H8 ⟨hmd,hk8⟩
  obtain ⟨k48,_,_⟩:=zT H4 zK hk8
  have s78:Sub H7 H8:=s7.trans hk8.sub
  have w8:=k48.wf
  have em:(x0+x1)*(y0+y1)-[x0*y0,x1*y1].sum=x0*y1+x1*y0:=by rw [e1]; simp only [List.sum_cons,List.sum_nil,Nat.add_zero]; omega
  rw [em] at hmd
  have hr0:=hr0.mono s78
  have hr1:=hr1.mono s78
  refine zW (bg hl g0 g1 g2) ?_
  refine AnsH.use (mul_up C (k:=k) zF (hmd.mono (Kp.sub (H:=H8) zK)) (hsm.mono (by omega)) (by omega)) ?_
  rintro u1 H9 ⟨hu1,hk9⟩
  obtain ⟨k89,_,w9⟩:=zT H8 zK hk9
  have n9:H8.next+11<=H9.next:=hk9.le
  have f9:H9.get (H8.next+8)=none:=hk9.free (show _<H8.next+11 by omega) (w8.fresh (b:=H8.next+8) (by omega))
  refine zW (cJ hl g0 g1 g2 hw2) ?_
  refine AnsH.use (mul_up C (k:=2*k) zF (hr1.mono k89.sub) (hsxy.mono hlast) (by omega)) ?_
  rintro u2 H10 ⟨hu2,hk10⟩
  have k8a:Kp H8 H10:=k89.trans hk10
  have w10:=k8a.wf
  have n10:H9.next<=H10.next:=hk10.le
  have f10:H10.get (H8.next+8)=none:=hk10.free (by omega) f9
  have ou1:=hu1.one
  have ou2:=hu2.one
  have etot:[x0*y0,(x0*y1+x1*y0)*B^k,x1*y1*B^(2*k)].sum=x*y:=by
   have e2:B^(2*k)=B^k*B^k:=by rw [Nat.two_mul,Nat.pow_add]
   rw [e2]
   conv=>rhs; rw [hex,hey]
   simp only [List.sum_cons,List.sum_nil,Nat.add_zero]
   generalize B^k=p
   grind
  refine zW (bg hl g0 g1 g2) ?_
  refine AnsH.use (mul_sum C (ls:=[x0*y0,(x0*y1+x1*y0)*B^k,x1*y1*B^(2*k)]) zF (Nf (hr0.mono k8a.sub) (hu1.mono hk10.sub) hu2 (bh f10) (by refine qN ?_; rfl)) (by simp) (by rw [etot]; exact hsxy)) ?_
  rintro v H11 ⟨hv,hk11⟩
  rw [etot] at hv
  have k8b:Kp H8 H11:=Kp.trans zK hk11
  have kf:Kp H H11:=((k2.trans k24).trans k48).trans k8b
  refine zW (bg hl g0 g1 g2) ?_
  exact ⟨hv,kf⟩
end
section
variable {tab:Nat->Option aq} {H:Heap} {s:AV}
theorem mul_Mul (C:Code tab) (hw:Wf H) {a b:AV} {x y:Nat} (ha:bZ H a x) (hb:bZ H b y) (hx:(ag x).length<274877906944) (hy:(ag y).length<274877906944) :
  Ans tab (.fn rX [a,b]) H fun v H'=>∃ r,v=.tup [r,.int .i64 0]/\bZ H' r (x*y)/\Kp H H':=by
 refine ca C.mul_Mul (by decide) fun T hl g0 g1=>?_
 refine zW (aC hl g0 g1) ?_
 refine AnsH.use (mul_checked C (R:=fun H' v=>bZ H' v (x*y)) zF (ha.mono (Kp.sub (H:=H) zK)) (hb.mono (Kp.sub (H:=H) zK)) (by unfold Sm; omega) (by unfold Sm; omega) (fun H' v m h=>h.mono (Sub.bump H' m)) fun H1 hk1=>?_) ?_
 ·have k1:Kp H H1:=Kp.trans zK hk1
  refine (Hz C _ hk1.wf (ha.mono k1.sub) (hb.mono k1.sub) rfl (by omega)).mono ?_
  rintro v H2 ⟨h2,hk2⟩
  exact ⟨h2,hk1.trans hk2⟩
 ·rintro v H2 ⟨r,rfl,hr,hk2⟩
  obtain ⟨k2,_,_⟩:=zT H zK hk2
  refine zW (aC hl g0 g1) ?_
  exact ⟨r,rfl,hr,zK⟩
theorem whole_Mul (C:Code tab) (hw:Wf H) {a b:AV} {x y:Int} (ha:IntV H a x) (hb:IntV H b y) (hx:(ag x.natAbs).length<274877906944) (hy:(ag y.natAbs).length<274877906944):Ans tab (.fn nV [a,b]) H fun v H'=>∃ r,v=.tup [r,.int .i64 0]/\IntV H' r (x*y)/\Kp H H':=by
 obtain ⟨p,rfl,hp⟩:=ha
 obtain ⟨q,rfl,hq⟩:=hb
 have op:=hp.one
 have oq:=hq.one
 refine ca C.whole_Mul (by decide) fun T hl g0 g1=>?_
 refine zW (aC hl g0 g1) ?_
 refine AnsH.eq (fD C zF (Dq (x:=x) (y:=y) (H:=H) hp hq (Kp.sub (H:=H) zK) (by refine qN ?_; rfl)) (by simp) fun z hz=>?_) fun H2 hk2=>?_
 ·simp at hz; unfold OV Sm; rcases hz with rfl | rfl <;> omega
 obtain ⟨k2,_,w2⟩:=zT H zK hk2
 have b0:=hk2.get (b:=H.next) (e:=.cells [.bool (decide (x<0)),p] aa true) (dC)
 have b1:=hk2.get (b:=H.next+1) (e:=.cells [.bool (decide (y<0)),q] aa true) (dC)
 have b2:=hk2.get (b:=H.next+2) (e:=.cells [.bool false,.nilSl] aa true) (dC)
 refine zW (cJ hl g0 g1 @b0 b1) ?_
 refine AnsH.use (mul_Mul C zF (hp.mono (Kp.sub (H:=H) zK)) (hq.mono (Kp.sub (H:=H) zK)) hx hy) ?_
 rintro v H3 ⟨r,rfl,hr,hk3⟩
 obtain ⟨k3,_,w3⟩:=zT H zK hk3
 have c0:=hk3.get (b:=H.next) b0
 have c1:=hk3.get (b:=H.next+1) b1
 have c2:=hk3.get (b:=H.next+2) b2
 refine zW (cJ hl g0 g1 c0 @c1) ?_
 refine AnsH.use (whole_made C zF (hr.mono (Kp.sub (H:=H3) zK)) _) ?_
 rintro v4 H4 ⟨rfl,hk4⟩
 obtain ⟨k4,_,_⟩:=zT H zK hk4
 have o3:=hr.one
 have d2:=hk4.get (b:=H.next+2) c2
 have lt2:=k4.wf _ _ d2
 refine zW (bg hl g0 g1 d2) ?_
 refine ⟨_,rfl,?_,zK⟩
 have hm:=l8 (!(decide (x<0) == decide (y<0))) ((hr.mono (Kp.sub (H:=H3) (Kp.trans zK hk4))).monoT (SubT.put_ty (e:=.cells [.bool (!(decide (x<0) == decide (y<0)) && decide (0<(ag (x.natAbs*y.natAbs)).length)),r] aa true) d2 (by decide)))
 have e:(if (!(decide (x<0) == decide (y<0)))=true then -((x.natAbs*y.natAbs:Nat):Int) else ((x.natAbs*y.natAbs:Nat):Int))=x*y:=by
  rw [Int.natCast_mul]
  have ax:(x.natAbs:Int)=if x<0 then -x else x:=by split <;> omega
  have ay:(y.natAbs:Int)=if y<0 then -y else y:=by split <;> omega
  rw [ax,ay]
  by_cases h1:x<0 <;> by_cases h2:y<0 <;> simp [h1,h2,Int.neg_mul,Int.mul_neg]
 rw [e] at hm
 exact hm
theorem whole_Cmp (C:Code tab) (hw:Wf H) {a b:AV} {x y:Int} (ha:IntV H a x) (hb:IntV H b y) (hx:OV x) (hy:OV y):Ans tab (.fn nW [a,b]) H fun v H'=>v=.tup [.int .i64 (gI (x-y)),.int .i64 0]/\Kp H H':=by
 obtain ⟨p,rfl,hp⟩:=ha
 obtain ⟨q,rfl,hq⟩:=hb
 have op:=hp.one
 have oq:=hq.one
 refine ca C.whole_Cmp (by decide) fun T hl g0 g1=>?_
 refine zW (aC hl g0 g1) ?_
 refine AnsH.use (whole_Sub C zF ⟨p,rfl,hp.mono (Kp.sub (H:=H) zK)⟩ ⟨q,rfl,hq.mono (Kp.sub (H:=H) zK)⟩ hx hy) ?_
 rintro v H2 ⟨r,rfl,⟨w,rfl,hr⟩,hk2⟩
 obtain ⟨k2,_,w2⟩:=zT H zK hk2
 have ow:=hr.one
 have n2:H.next+13<=H2.next:=hk2.le
 have f2:H2.get (H.next+10)=none:=hk2.free (show _<H.next+13 by omega) (by rw [au (by omega),au (by omega)]; exact hw.fresh (b:=H.next+10) (by omega))
 refine zW (aC hl g0 g1) ?_
 have s2:Sub H2 ((H2.put (H.next+10) (.cells [.bool false,.nilSl] aa true)).put (H.next+10) (.cells [.bool (decide (x-y<0)),w] aa true)):=(bh f2).put f2 _
 refine AnsH.eq (whole_sign C (x:=x-y) zF ⟨w,rfl,hr.mono s2⟩) fun H3 hk3=>?_
 obtain ⟨k3,_,_⟩:=zT H zK hk3
 refine zW (aC hl g0 g1) ?_
 exact zK
theorem whole_Of (C:Code tab) (hw:Wf H) {n:Int} (h1 : -9223372036854775808<=n) (h2:n<9223372036854775808):Ans tab (.fn qh [.int .i64 n]) H fun v H'=>IntV H' v n/\Kp H H':=by
 refine OD C.whole_Of (by decide) fun T hl g0=>?_
 refine zW (az hl g0) ?_
 have fin:∀ (H3:Heap) (k3:Kp H H3) (bb:Bool) (o:AV) (m:Nat) (z:Int),H3.get H.next=some (.cells [.bool false,.nilSl] aa true)->Lb H3 o (ag m)->(if bb then -(m:Int) else m)=z ->
   IntV (H3.put H.next (.cells [.bool (bb && decide (0<(ag m).length)),o] aa true)) (.agg [.bool (bb && decide (0<(ag m).length)),o]) z/\Kp H (H3.put H.next (.cells [.bool (bb && decide (0<(ag m).length)),o] aa true)):=by
  intro H3 k3 bb o m z d1 ho hz
  have lt1:=k3.wf _ _ d1
  refine ⟨?_,zK⟩
  rw [<- hz]
  exact l8 bb (ho.monoT (SubT.put_ty d1 (by decide)))
 have key:∀ (c:Bool) (k:Nat),0<=k->True:=fun _ _ _=>trivial
 refine iteH.split (fun h=>?_) fun h=>?_
 ·have e:IntKind.u64.wrap (0-IntKind.u64.wrap n)=((n.natAbs:Nat):Int):=by rw [eY,eY]; omega
  refine zW (aC hl g0 e) ?_
  refine AnsH.use (nat_Of C zF (n:=n.natAbs) (by unfold B; omega)) ?_
  rintro v H2 ⟨hn,-,hk2⟩
  obtain ⟨k2,_,w2⟩:=zT H zK hk2
  have b0:=hk2.get (b:=H.next) (e:=.cells [.bool false,.nilSl] aa true) (dC)
  have o2:=hn.one
  refine zW (az hl g0) ?_
  refine AnsH.use (whole_made C zF (hn.mono (Kp.sub (H:=H2) zK)) true) ?_
  rintro v3 H3 ⟨rfl,hk3⟩
  obtain ⟨k3,_,_⟩:=zT H zK hk3
  have d1:=hk3.get (b:=H.next) b0
  have:=fin H3 k3 true v n.natAbs n d1 (hn.mono (Kp.sub (H:=H2) (Kp.trans zK hk3))) (by simp; omega)
  simp only [Bool.true_and] at this
  refine zW (aC hl g0 d1) ?_
  exact this
 ·have e:IntKind.u64.wrap n=((n.natAbs:Nat):Int):=by rw [eY]; omega
  refine zW (aC hl g0 e) ?_
  refine AnsH.use (nat_Of C zF (n:=n.natAbs) (by unfold B; omega)) ?_
  rintro v H2 ⟨hn,-,hk2⟩
  obtain ⟨k2,_,w2⟩:=zT H zK hk2
  have b0:=hk2.get (b:=H.next) (e:=.cells [.bool false,.nilSl] aa true) (dC)
  have o2:=hn.one
  refine zW (az hl g0) ?_
  refine AnsH.use (whole_made C zF (hn.mono (Kp.sub (H:=H2) zK)) false) ?_
  rintro v3 H3 ⟨rfl,hk3⟩
  obtain ⟨k3,_,_⟩:=zT H zK hk3
  have d1:=hk3.get (b:=H.next) b0
  have:=fin H3 k3 false v n.natAbs n d1 (hn.mono (Kp.sub (H:=H2) (Kp.trans zK hk3))) (by simp; omega)
  simp only [Bool.false_and] at this
  refine zW (aC hl g0 d1) ?_
  exact this
end
theorem rC {a b:Nat} (ha:a<18446744073709551616) (hb:b<18446744073709551616):bP .or .int (.int .u64 (a:Int)) (.int .u64 (b:Int))=some (.int .u64 ((a ||| b:Nat):Int)):=by
 have h1:(BitVec.ofInt 64 (a:Int)).toNat=a:=by
  have:(BitVec.ofInt 64 (a:Int)).toNat=a % 2^64:=by simp
  rw [this]; omega
 have h2:(BitVec.ofInt 64 (b:Int)).toNat=b:=by
  have:(BitVec.ofInt 64 (b:Int)).toNat=b % 2^64:=by simp
  rw [this]; omega
 have e:(BitVec.ofInt 64 (a:Int) ||| BitVec.ofInt 64 (b:Int)).toNat=a ||| b:=by rw [BitVec.toNat_or,h1,h2]
 have hlt:a ||| b<2^64:=Nat.or_lt_two_pow (by omega) (by omega)
 show some (AV.int .u64 (IntKind.u64.wrap ((BitVec.ofInt 64 (a:Int) ||| BitVec.ofInt 64 (b:Int)).toNat:Nat)))=_
 rw [e,eW (by omega) (by omega)]
theorem Bi {r:Nat} (hr:r<64) {k:IntKind}:bP .shl .int (.int .u64 1) (.int k (r:Int))=some (.int .u64 ((2^r:Nat):Int)):=by
 show jq .shl .u64 1 (r:Int)=_
 unfold jq
 rw [if_neg (by omega)]
 have h1:Nat.min (r:Int).toNat IntKind.u64.bits=r:=by
  have:IntKind.u64.bits=64:=rfl
  rw [this,Int.toNat_natCast]; exact Nat.min_eq_left (by omega)
 have hlt:(2:Nat)^r<2^64:=Nat.pow_lt_pow_right (by omega) hr
 have e:(1:Int)*2^r=((2^r:Nat):Int):=by simp
 simp only [h1,e]
 generalize (2:Nat)^r=p at hlt ⊢
 rw [eW (by omega) (by omega)]
theorem yS {a b r:Nat} (ha:a<2^r):a ||| (2^r*b)=a+2^r*b:=by
 rw [Nat.or_comm,<- Nat.two_pow_add_eq_or_of_lt ha,Nat.add_comm]
section
variable {tab:Nat->Option aq} {H:Heap} {s:AV}
theorem nat_asked (C:Code tab) (hw:Wf H) {a:AV} {x k:Nat} (ha:bZ H a x) (hx:Sm x) (hk:k<=65536) :
  Ans tab (.fn QB [a,.int .i64 (k:Int)]) H fun v H'=>v=.int .i64 0/\Kp H H':=by
 refine ca C.nat_asked (by decide) fun T hl g0 g1=>?_
 refine zW (aC hl g0 g1) ?_
 refine AnsH.eq (fH C zF (ha.mono (Kp.sub (H:=H) zK)) hx) fun H2 hk2=>?_
 obtain ⟨k2,_,_⟩:=zT H zK hk2
 have e1:decide ((k:Int)<0)=false:=by simp
 have e2:decide ((65536:Int)<(k:Int))=false:=by simp; omega
 refine zW (cJ hl g0 g1 e1 e2) ?_
 exact zK
theorem Hi {k c:Nat} (hc:0<c) (hk:k<4611686018427387904):bP .quo .int (.int .i64 (k:Int)) (.int .i64 (c:Int))=some (.int .i64 ((k / c:Nat):Int)):=by
 show (if (c:Int)=0 then none else some (AV.int .i64 (IntKind.i64.wrap ((k:Int).tdiv (c:Int)))))=_
 have hle:k / c<=k:=Nat.div_le_self _ _
 rw [if_neg (by omega),Int.tdiv_eq_ediv_of_nonneg (by omega),<- Int.natCast_ediv]
 generalize k / c=d at hle ⊢
 rw [wrap_i64 (by omega) (by omega)]
theorem Hf {k c:Nat} (hc:0<c):bP .rem .int (.int .i64 (k:Int)) (.int .i64 (c:Int))=some (.int .i64 ((k % c:Nat):Int)):=by
 show (if (c:Int)=0 then none else some (AV.int .i64 ((k:Int).tmod (c:Int))))=_
 rw [if_neg (by omega),Int.tmod_eq_emod_of_nonneg (by omega),<- Int.natCast_emod]
theorem BS {x r:Nat} (hr:r<64):x*2^r % B=2^r*(x % 2^(64-r)):=by
 have hB:B=2^r*2^(64-r):=by
  rw [<- Nat.pow_add]; have:r+(64-r)=64:=by omega
  rw [this]
 rw [hB,Nat.mul_comm x,Nat.mul_mod_mul_left]
theorem Lt {x r:Nat} (hx:x<B):x*2^r / B<2^r:=by
 rw [Nat.div_lt_iff_lt_mul (by decide),Nat.mul_comm]
 exact Nat.mul_lt_mul_of_pos_left hx (Nat.pow_pos (by decide))
theorem oX (l:List Nat):∃ E,l=db l++E:=by
 refine ⟨(l.reverse.takeWhile (· == 0)).reverse,?_⟩
 have h:=List.takeWhile_append_dropWhile (p:=(· == 0)) (l:=l.reverse)
 have h2:=congrArg List.reverse h
 rw [List.reverse_append,List.reverse_reverse] at h2
 exact h2.symm
theorem Hl (b off n c sz:Nat) (x:Bool) (k j:IntKind) (hnc:n<=c):cR sz (.own b off n c sz x) none (some (.int k (n:Int))) (some (.int j (n:Int)))=some (.own b off n n sz true):=by
 show bH sz (.own b off n c sz x) none (some (.int k (n:Int))) (some (.int j (n:Int)))=_
 simp only [bH,eS,ne_eq,not_true_eq_false,if_false,Option.bind_eq_bind,Option.bind_some,Option.map_none,Option.getD_none]
 rw [if_pos ⟨hnc,Nat.le_refl _,Nat.zero_le _⟩]
 split
 ·rename_i h; subst h; rfl
 ·simp
theorem B9 (b off n c sz m:Nat) (x:Bool) (k:IntKind) (h:m<=c):cR sz (.own b off n c sz x) none (some (.int k (m:Int))) none=some (.own b off m c sz x):=by
 show bH sz (.own b off n c sz x) none (some (.int k (m:Int))) none=_
 simp only [bH,eS,ne_eq,not_true_eq_false,if_false,Option.bind_eq_bind,Option.bind_some,Option.map_none,Option.map_some,Option.getD_none,Option.getD_some]
 rw [if_pos ⟨h,Nat.zero_le _⟩]
 simp
theorem CP {H:Heap} {cells:List AV} {l:List Nat} (h:Cells (cB bX) H cells l):cells=aI l:=by
 have hl:cells.length=l.length:=by have:=h.1; simpa [cB] using this
 apply List.ext_getElem?
 intro i
 by_cases hi:i<l.length
 ·obtain ⟨v,e,rfl⟩:=h.2 i _ (List.getElem?_eq_getElem hi)
  have e1:cells[i]? = some (.int .u64 (l[i]:Nat)):=by
   have:=congrArg (fun x=>x[0]?) e
   simpa [cB,List.getElem?_take] using this
  rw [e1]
  simp [aI,hi]
 ·rw [List.getElem?_eq_none (by omega),List.getElem?_eq_none (by rw [l9]; omega)]
theorem rL (C:Code tab) (hw:Wf H) {l:List Nat} (hs:Lb H s l) (hbig:l.length<1099511627776):Ans tab (.fn b9 [s]) H fun v H'=>Lb H' v l/\Kp H H'/\(0<l.length->∃ b,v=.own b 0 l.length l.length 1 false/\H'.get b=some (.cells (aI l) ad true)/\H.next<=b):=by
 refine OD C.slices_Clone_api_Nat_uint64 (by decide) fun T hl g0=>?_
 rcases hs.nilcase with ⟨rfl,rfl⟩ | hne
 ·have e:bP .eql .sl .nilSl .nilSl=some (.bool true):=rfl
  refine zW (aC hl g0 e) ?_
  exact ⟨SlV.nil _ _ _,zK,fun h=>by simp at h⟩
 ·have ef:cM ([]:List AV) []=some []:=rfl
  refine zW (bg hl g0 hne ef) ?_
  have k1:Kp H ((H.up 7).put (H.next+3) (.cells [] ad true)):=zK
  have le_k1:=k1.le
  have h0:SlV (cB bX) ad ((H.up 7).put (H.next+3) (.cells [] ad true)) (.own (H.next+3) 0 0 0 1 true) ([]:List Nat) :=
   (show Own (cB bX) ad H _ (H.next+3) true _ [] from ⟨_,rfl,aA _ _ _,Cells.nil _ _,by omega⟩).sl
  obtain ⟨v',H2,e1,h2,hk2,hn2,hs2,ho⟩:=SlV.app (l:=[]) (id:=H.next+5) (bytes:=8) h0 k1 (hs.mono k1.sub) (by omega) (by show _<H.next+7; omega) (by rw [au (by omega)]; exact hw.fresh (b:=H.next+5) (by omega)) (by simp; omega) (by simp; omega)
  have e1':OC ((H.up 7).put (H.next+3) (.cells [] ad true)) (H.next+5) 1 8 ad (.own (H.next+3) 0 0 0 1 true) s=some (v',H2):=e1
  refine zW (aC hl g0 e1') ?_
  refine ⟨h2,hk2,fun h=>?_⟩
  obtain ⟨cells,q1,q2,q3,q4⟩:=ho h
  rw [List.nil_append] at q1 q3
  rw [CP q3] at q2
  exact ⟨_,q1,q2,q4⟩
theorem gw (C:Code tab) (hw:Wf H) {b n c:Nat} {x:Bool} (hnc:n<=c):Ans tab (.fn cj [.own b 0 n c 1 x]) H fun v H'=>v=.own b 0 n n 1 true/\Kp H H':=by
 refine OD C.slices_Clip_api_Nat_uint64 (by decide) fun T hl g0=>?_
 have e:=Hl b 0 n c 1 x .i64 .i64 hnc
 refine zW (aC hl g0 e) ?_
 exact zK
theorem yV (C:Code tab) (hw:Wf H) {l:List Nat} {b N:Nat} {rw' x:Bool} (hN:l.length=N) (hb:H.get b=some (.cells (aI l) ad rw')) (hbig:N<4611686018427387904) :
  Ans tab (.fn mJ [.own b 0 N N 1 x]) H fun v H'=>v=.own b 0 (db l).length (db l).length 1 true/\Kp H H':=by
 refine OD C.nat_trim (by decide) fun T hl g0=>?_
 refine zW (az hl g0) ?_
 refine bf H [0] (fun k vs H'=>vs=[.own b 0 k N 1 x]/\db (l.take k)=db l/\k<=l.length) l.length (by simp only [List.length_set]; exact hl) rfl zK ⟨by exact zV (aC hl g0 hN),by rw [List.take_length],Nat.le_refl _⟩ ?_
 rintro k T1 H1 hl1 hs1 hk1 ⟨hv,ht,hk⟩
 have w1:=hk1.wf
 have le_hk1:=hk1.le
 have b1:=hk1.get hb
 simp only [List.map_cons,List.map_nil,List.cons.injEq,and_true] at hv
 rcases List.eq_nil_or_concat (l.take k) with h0 | ⟨l',a,h0⟩
 ·have hk0:k=0:=by
   have:=congrArg List.length h0; simp at this
   rcases this with h | h
   ·exact h
   ·subst h; simpa using hk
  subst hk0
  refine zW (aC hl1 hv @In) ?_
  refine AnsH.eq (gw C zF (Nat.zero_le _)) fun H2 h2=>?_
  have k2:Kp H H2:=Kp.trans zK h2
  have le_k2:=k2.le
  rw [<- ht,h0,rI]
  refine zW hl1 ?_
  exact zK
 ·rw [List.concat_eq_append] at h0
  have hk1':k=l'.length+1:=by have:=congrArg List.length h0; simp at this; omega
  subst hk1'
  have hl':l.take l'.length=l':=by
   have:=congrArg (List.take l'.length) h0
   rw [List.take_take,Nat.min_eq_left (by omega)] at this
   simpa using this
  have hga:l.getD l'.length 0=a:=by
   have this:(l.take (l'.length+1)).getD l'.length 0=(l'++[a]).getD l'.length 0:=by rw [h0]
   rw [List.getD_eq_getElem?_getD,List.getElem?_take,if_pos (by omega),<- List.getD_eq_getElem?_getD] at this
   rw [this]; simp [List.getD_eq_getElem?_getD]
  have hwr:IntKind.i64.wrap (((l'.length+1:Nat):Int)-1)=(l'.length:Int):=by rw [wrap_i64] <;> omega
  have hpos:0<l'.length+1:=by omega
  have e':=B9 b 0 (l'.length+1) N 1 l'.length x .i64 (by omega)
  refine zW (fW hl1 hv hpos hwr b1 hga) ?_
  refine iteH.split (fun ha=>?_) fun ha=>?_
  ·have ha0:a=0:=by omega
   subst ha0
   refine zW (bg hl1 hv hwr e') ?_
   refine ⟨zK,l'.length,by omega,rfl,?_,by omega⟩
   rw [hl',<- ht,h0,cK]
  ·have ha':a≠0:=by omega
   refine zW (az hl1 hv) ?_
   refine AnsH.eq (gw C zF (by omega)) fun H2 h2=>?_
   have k2:Kp H H2:=Kp.trans zK h2
   have le_k2:=k2.le
   rw [<- ht,h0,fE ha']
   refine zW (az hl1 @List.length_append.{0}) ?_
   exact zK
theorem nat_Up (C:Code tab) (hw:Wf H) {a:AV} {x k:Nat} (ha:bZ H a x) (hx:Sm x) (hk:k<=65536) :
  Ans tab (.fn vE [a,.int .i64 (k:Int)]) H fun v H'=>∃ o,v=.tup [o,.int .i64 0]/\bZ H' o (x*2^k)/\Kp H H'/\∃ b E,o=.own b 0 (ag (x*2^k)).length (ag (x*2^k)).length 1 true/\H'.get b=some (.cells (aI (ag (x*2^k)++E)) ad true)/\H.next<=b/\(ag (x*2^k)++E).length=k / 64+(ag x).length+1/\Lim (ag (x*2^k)++E):=by
 refine ca C.nat_Up (by decide) fun T hl g0 g1=>?_
 refine zW (aC hl g0 g1) ?_
 refine AnsH.eq (nat_asked C zF (ha.mono (Kp.sub (H:=H) zK)) hx hk) fun H2 hk2=>?_
 obtain ⟨k2,_,w2⟩:=zT H zK hk2
 have n2:=k2.le
 unfold Sm at hx
 have hq:=Hi (k:=k) (c:=64) (by omega) (by omega)
 have hr:=Hf (k:=k) (c:=64) (by omega)
 obtain ⟨q,eq⟩:∃ q,q=k / 64:=⟨_,rfl⟩
 obtain ⟨r,er⟩:∃ r,r=k % 64:=⟨_,rfl⟩
 rw [<- eq] at hq
 rw [<- er] at hr
 have hq':bP .quo .int (.int .i64 (k:Int)) (.int .i64 64)=some (.int .i64 (q:Int)):=hq
 have hr':bP .rem .int (.int .i64 (k:Int)) (.int .i64 64)=some (.int .i64 (r:Int)):=hr
 have hw1:IntKind.i64.wrap ((q:Int)+((ag x).length:Int))=((q+(ag x).length:Nat):Int):=by rw [wrap_i64] <;> omega
 obtain ⟨N,hN⟩:∃ N,q+(ag x).length+1=N:=⟨_,rfl⟩
 have hw2:IntKind.i64.wrap (((q+(ag x).length:Nat):Int)+1)=(N:Int):=by rw [wrap_i64] <;> omega
 have hmk:∀ H' id,E3 H' id ad 1 8 [.int .u64 0] (.int .i64 (N:Int)) (.int .i64 (N:Int))=some (.own id 0 N N 1 true,H'.put id (.cells (aI (List.replicate N 0)) ad true)):=fun H' id =>
  (iZ H' id ad 1 8 [.int .u64 0] .i64 .i64 N (by omega) (by omega) rfl).trans (by rw [kj])
 refine zW (mw hl g0 g1 ha.lenV hq' hw1 hw2 hmk) ?_
 have hr64:r<64:=by omega
 have hkqr:k=64*q+r:=by omega
 have hz0:∀ j,(List.replicate N 0).getD j 0=0:=fun j=>by simp [List.getD_eq_getElem?_getD,List.getElem?_replicate]; split <;> rfl
 refine ak H [] (fun i vs H'=>∃ out,H'.get (H2.next+8)=some (.cells (aI out) ad true)/\out.length=N/\Lim out/\val out=B^q*2^r*val ((ag x).take i)/\out.getD (q+i) 0<2^r/\∀ j,q+i<j->out.getD j 0=0) (a:=0) (N:=(ag x).length) rfl (by refine zW (aC hl g0 g1) ?_; rfl) (zV (aC hl g0 g1)) (Nat.zero_le _) (by omega) (by simp only [List.length_set,hl]; rfl) rfl (fun _ _ _ _ h=>h) zK
  ⟨List.replicate N 0,by exact dC,by simp,Lim.replicate N,by rw [eH]; simp [val],by rw [hz0]; exact Nat.pow_pos (by decide),fun j _=>hz0 j⟩ ?_ ?_
 ·rintro i T1 H1 _ hi hl1 hi1 hs1 hk1 ⟨out,b6,hlen,hlim,hval,hlow,hz⟩
  simp only [List.length_set,hl] at hl1
  have w1:=hk1.wf
  have le_hk1:=hk1.le
  have t7:ae T1 7=.own (H2.next+8) 0 N N 1 true:=(hs1.at_ 7 (by decide)).trans (zV (aC hl g0 g1))
  have t1:ae T1 1=.int .i64 (k:Int):=(hs1.at_ 1 (by decide)).trans (zV (bg hl g0 g1 g1))
  have t25:ae T1 25=a:=(hs1.at_ 25 (by decide)).trans (zV (az hl g0))
  have hix:=SlV.idx1 ha .i64 i hi
  have hld:=dO (ha.mono hk1.sub) hi
  have hxB:=(bz x).at i
  have h2r:2^r<B:=by unfold B; exact Nat.pow_lt_pow_right (m:=r) (n:=64) (by omega) hr64
  have hs:=Bi hr64 (k:=.i64)
  refine zW (kU hl1 t7 t1 t25 hi1 hix hld hr' hs) ?_
  refine AnsH.use (ng C zF hxB h2r) ?_
  rintro v H3 ⟨rfl,hk3⟩
  obtain ⟨k3,_,w3⟩:=zT H zK hk3
  have d6:=hk3.get (b:=H2.next+8) b6
  have lt6:=k3.wf _ _ d6
  have hwi:IntKind.i64.wrap ((q:Int)+(i:Int))=((q+i:Nat):Int):=by rw [wrap_i64] <;> omega
  have hwi1:IntKind.i64.wrap (((q+i:Nat):Int)+1)=((q+i+1:Nat):Int):=by rw [wrap_i64] <;> omega
  have hor:=rC (a:=out.getD (q+i) 0) (b:=(ag x).getD i 0*2^r % B) (hlim.at _) (Nat.mod_lt _ (by decide))
  rw [BS hr64,yS hlow] at hor
  rw [BS hr64]
  refine zW (nE hl1 t7 t1 t25 hi1 hq' hwi hwi1 d6 hor) ?_
  have hlo:=BS (x:=(ag x).getD i 0) hr64
  have hhi:=Lt (r:=r) hxB
  have hdm:=Nat.div_add_mod ((ag x).getD i 0*2^r) B
  have hloB:out.getD (q+i) 0+(ag x).getD i 0*2^r % B<B:=by
   rw [hlo]
   have e1:out.getD (q+i) 0 ||| 2^r*((ag x).getD i 0 % 2^(64-r))<2^64:=Nat.or_lt_two_pow (hlim.at _) (by rw [<- hlo]; exact Nat.mod_lt _ (by decide))
   rw [yS hlow] at e1; exact e1
  rw [hlo] at hdm hloB
  generalize (ag x).getD i 0*2^r / B=hi' at *
  have h1:=gS (l:=out) (k:=q+i) (v:=out.getD (q+i) 0+2^r*((ag x).getD i 0 % 2^(64-r))) (by omega)
  have h2:=gS (l:=out.set (q+i) (out.getD (q+i) 0+2^r*((ag x).getD i 0 % 2^(64-r)))) (k:=q+i+1) (v:=hi') (by simp; omega)
  rw [bi (by omega),hz (q+i+1) (by omega)] at h2
  refine ⟨zK,_,rfl,by simp [hlen],i8 (i8 hlim hloB) (Nat.lt_trans hhi h2r),?_,?_,fun j hj=>?_⟩
  ·rw [cD,Nat.mul_add,<- hval]
   have h3:B^q*2^r*(B^i*(ag x).getD i 0)=B^(q+i)*((ag x).getD i 0*2^r):=by rw [Nat.pow_add]; grind
   rw [h3,<- hdm,Nat.mul_add]
   have h4:B^(q+i+1)*hi'=B^(q+i)*(B*hi'):=by rw [Nat.pow_succ,Nat.mul_assoc]
   rw [Nat.mul_add] at h1
   rw [h4] at h2
   have eqi:q+(i+1)=q+i+1:=by omega
   rw [eqi]
   omega
  ·have:(((out.set (q+i) (out.getD (q+i) 0+2^r*((ag x).getD i 0 % 2^(64-r)))).set (q+(i+1)) hi').getD (q+(i+1)) 0)=hi':=by
    rw [List.getD_eq_getElem?_getD,List.getElem?_set,if_pos rfl,if_pos (by simp; omega)]; rfl
   rw [this]; exact hhi
  ·rw [bi (by omega),bi (by omega)]
   exact hz j (by omega)
 ·rintro T1 H1 hl1 hs1 hk1 ⟨out,b6,hlen,hlim,hval,-,-⟩
  simp only [List.length_set,hl] at hl1
  have w1:=hk1.wf
  have le_hk1:=hk1.le
  have t7:ae T1 7=.own (H2.next+8) 0 N N 1 true:=(hs1.at_ 7 (by decide)).trans (zV (aC hl g0 g1))
  rw [List.take_of_length_le (Nat.le_refl _),bJ] at hval
  refine zW (az hl1 t7) ?_
  refine AnsH.eq (yV C zF (rw':=true) hlen (zV @b6) (by omega)) fun H4 hk4=>?_
  obtain ⟨k4,_,_⟩:=zT H zK hk4
  have b4:=hk4.get (b:=H2.next+8) (e:=.cells (aI out) ad true) (zV @b6)
  have e:val out=x*2^k:=by
   rw [hval,hkqr,Nat.pow_add,Nat.pow_mul]
   have:(2:Nat)^64=B:=by decide
   rw [this,Nat.mul_comm]
  have et:=dI hlim
  rw [e] at et
  obtain ⟨E,hE⟩:=oX out
  rw [et] at hE
  have h4:bZ H4 (.own (H2.next+8) 0 (ag (x*2^k)).length (ag (x*2^k)).length 1 true) (x*2^k):=by
   refine ⟨aI (ag (x*2^k)),⟨Nat.le_refl _,(fun s h=>by cases h),_,rfl,?_⟩,fun _ _ _ _ _ _ e=>by cases e; exact ⟨_,_,b4⟩,qz _ _⟩
   simp only [aJ,b4]
   rw [if_pos ⟨rfl,Nat.le_refl _,by rw [l9,hE]; simp [cB]⟩]
   rw [hE]
   simp [aI,cB]
  rw [et]
  refine zW hl1 ?_
  exact ⟨_,rfl,h4,zK,_,E,rfl,by rw [b4,hE],by omega,by rw [<- hE,hlen,<- hN,eq,Nat.add_assoc],by rw [<- hE]; exact hlim⟩
end
section
variable {tab:Nat->Option aq} {H:Heap} {s:AV} {l:List Nat}
theorem div_trim (C:Code tab) (hw:Wf H) (hs:Lb H s l) (hbig:l.length<4611686018427387904) :
  Ans tab (.fn mN [s]) H fun v H'=>Lb H' v (db l)/\Kp H H':=by
 refine OD C.div_trim (by decide) fun T hl g0=>?_
 refine zW (az hl g0) ?_
 refine bf H [0] (fun k vs H'=>∃ v,vs=[v]/\Lb H' v (l.take k)/\db (l.take k)=db l/\k<=l.length) l.length (by simp only [List.length_set]; exact hl) rfl zK ⟨s,by exact zV (az hl g0),by rw [List.take_length]; exact hs,by rw [List.take_length],Nat.le_refl _⟩ ?_
 rintro k T1 H1 hl1 hs1 hk1 ⟨v,hv,hr,ht,hk⟩
 have w1:=hk1.wf
 have le_hk1:=hk1.le
 simp only [List.map_cons,List.map_nil,List.cons.injEq,and_true] at hv
 rcases List.eq_nil_or_concat (l.take k) with h0 | ⟨l',a,h0⟩
 ·rw [h0] at hr ht
  have hle:lenV v=some (.int .i64 0):=hr.lenV
  refine zW (aC hl1 hv hle) ?_
  refine AnsH.use (gy C zF (hr.mono (Sub.bump H1 _))) ?_
  rintro v2 H2 ⟨h1,h2⟩
  have k2:Kp H H2:=Kp.trans zK h2
  have le_k2:=k2.le
  rw [<- ht]
  refine zW hl1 ?_
  exact ⟨h1,zK⟩
 ·rw [List.concat_eq_append] at h0
  have hk1':k=l'.length+1:=by have:=congrArg List.length h0; simp at this; omega
  have hl':l.take l'.length=l':=by
   have:=congrArg (List.take l'.length) h0
   rw [List.take_take,Nat.min_eq_left (by omega)] at this
   simpa using this
  rw [h0] at hr ht
  have hle:lenV v=some (.int .i64 ((l'.length:Int)+1)):=by have:=hr.lenV; simpa using this
  have hpos:(0:Int)<(l'.length:Int)+1:=by omega
  have hix:=SlV.idx1 hr .i64 l'.length (by simp)
  have hld:aZ H1 none (al v l'.length)=some (.int .u64 (a:Nat)):=by rw [dO hr (by simp)]; simp
  have hwr:IntKind.i64.wrap ((l'.length:Int)+1-1)=(l'.length:Int):=by rw [wrap_i64] <;> omega
  refine zW (jm hl1 hv hle hpos hix hld hwr) ?_
  refine iteH.split (fun ha=>?_) fun ha=>?_
  ·obtain ⟨v',e,hr'⟩:=hr.hi .i64 l'.length (by simp)
   have e':cR 1 v none (some (.int .i64 (l'.length:Int))) none=some v':=e
   have ha0:a=0:=by omega
   subst ha0
   refine zW (cJ hl1 hv hle hwr e') ?_
   refine ⟨zK,l'.length,by omega,v',rfl,?_,?_,by omega⟩
   ·rw [hl']
    have h3:Lb H1 v' l':=by simpa using hr'
    exact h3.mono (Sub.bump H1 _)
   ·rw [hl',<- ht,cK]
  ·have ha':a≠0:=by omega
   refine zW (az hl1 hv) ?_
   refine AnsH.use (gy C zF (hr.mono (Sub.bump H1 _))) ?_
   rintro v2 H2 ⟨h1,h2⟩
   have k2:Kp H H2:=Kp.trans zK h2
   have le_k2:=k2.le
   rw [fE ha'] at ht
   rw [<- ht]
   refine zW hl1 ?_
   exact ⟨h1,zK⟩
theorem mZ (C:Code tab) (hw:Wf H) {l:List Nat} {b N:Nat} {rw' x:Bool} (hN:l.length=N) (hb:H.get b=some (.cells (aI l) ad rw')) (hbig:N<4611686018427387904) :
  Ans tab (.fn mN [.own b 0 N N 1 x]) H fun v H'=>v=.own b 0 (db l).length (db l).length 1 true/\Kp H H':=by
 refine OD C.div_trim (by decide) fun T hl g0=>?_
 refine zW (az hl g0) ?_
 refine bf H [0] (fun k vs H'=>vs=[.own b 0 k N 1 x]/\db (l.take k)=db l/\k<=l.length) l.length (by simp only [List.length_set]; exact hl) rfl zK ⟨by exact zV (aC hl g0 hN),by rw [List.take_length],Nat.le_refl _⟩ ?_
 rintro k T1 H1 hl1 hs1 hk1 ⟨hv,ht,hk⟩
 have w1:=hk1.wf
 have le_hk1:=hk1.le
 have b1:=hk1.get hb
 simp only [List.map_cons,List.map_nil,List.cons.injEq,and_true] at hv
 rcases List.eq_nil_or_concat (l.take k) with h0 | ⟨l',a,h0⟩
 ·have hk0:k=0:=by
   have:=congrArg List.length h0; simp at this
   rcases this with h | h
   ·exact h
   ·subst h; simpa using hk
  subst hk0
  refine zW (aC hl1 hv @In) ?_
  refine AnsH.eq (gw C zF (Nat.zero_le _)) fun H2 h2=>?_
  have k2:Kp H H2:=Kp.trans zK h2
  have le_k2:=k2.le
  rw [<- ht,h0,rI]
  refine zW hl1 ?_
  exact zK
 ·rw [List.concat_eq_append] at h0
  have hk1':k=l'.length+1:=by have:=congrArg List.length h0; simp at this; omega
  subst hk1'
  have hl':l.take l'.length=l':=by
   have:=congrArg (List.take l'.length) h0
   rw [List.take_take,Nat.min_eq_left (by omega)] at this
   simpa using this
  have hga:l.getD l'.length 0=a:=by
   have this:(l.take (l'.length+1)).getD l'.length 0=(l'++[a]).getD l'.length 0:=by rw [h0]
   rw [List.getD_eq_getElem?_getD,List.getElem?_take,if_pos (by omega),<- List.getD_eq_getElem?_getD] at this
   rw [this]; simp [List.getD_eq_getElem?_getD]
  have hwr:IntKind.i64.wrap (((l'.length+1:Nat):Int)-1)=(l'.length:Int):=by rw [wrap_i64] <;> omega
  have hpos:0<l'.length+1:=by omega
  have e':=B9 b 0 (l'.length+1) N 1 l'.length x .i64 (by omega)
  refine zW (fW hl1 hv hpos hwr b1 hga) ?_
  refine iteH.split (fun ha=>?_) fun ha=>?_
  ·have ha0:a=0:=by omega
   subst ha0
   refine zW (bg hl1 hv hwr e') ?_
   refine ⟨zK,l'.length,by omega,rfl,?_,by omega⟩
   rw [hl',<- ht,h0,cK]
  ·have ha':a≠0:=by omega
   refine zW (az hl1 hv) ?_
   refine AnsH.eq (gw C zF (by omega)) fun H2 h2=>?_
   have k2:Kp H H2:=Kp.trans zK h2
   have le_k2:=k2.le
   rw [<- ht,h0,fE ha']
   refine zW (az hl1 @List.length_append.{0}) ?_
   exact zK
theorem yR {H:Heap} {b:Nat} {l E:List Nat} {rw' x:Bool} (hb:H.get b=some (.cells (aI (l++E)) ad rw')):Lb H (.own b 0 l.length l.length 1 x) l:=by
 refine ⟨aI l,⟨Nat.le_refl _,(fun s h=>by cases h),_,rfl,?_⟩,fun _ _ _ _ _ _ e=>by cases e; exact ⟨_,_,hb⟩,qz _ _⟩
 simp only [aJ,hb]
 rw [if_pos ⟨rfl,Nat.le_refl _,by rw [l9]; simp [cB]⟩]
 simp [aI,cB]
theorem Rr (C:Code tab) (hw:Wf H) {ls:List (List Nat)} {ty:Nat} (hs:tX (pE (cB bX) ad) ty H s ls) (hbig:ls.length<4611686018427387904) (hc:∀ c∈ls,c.length<4611686018427387904/\c.getLast? ≠ some 0) :
  Ans tab (.fn lB [s]) H fun v H'=>v=.int .i64 0/\Kp H H':=by
 refine OD C.gcd_checked (by decide) fun T hl g0=>?_
 refine zW (aC hl g0 hs.lenV) ?_
 refine ak H [] (fun _ _ _=>True) (a:=0) (N:=ls.length) rfl (by refine zW (az hl g0) ?_; rfl) (zV (az hl g0)) (Nat.zero_le _) (by omega) (by simp only [List.length_set,hl]; rfl) rfl (fun _ _ _ _ h=>h) zK trivial ?_ ?_
 ·intro j T1 H1 _ hj hl1 hi1 hs1 hk1 _
  have w1:=hk1.wf
  have le_hk1:=hk1.le
  have t6:ae T1 6=s:=(hs1.at_ 6 (by decide)).trans (zV (az hl g0))
  obtain ⟨c,hcr,hld⟩:=SlV.at1 (hs.mono hk1.sub) (List.getElem?_eq_getElem hj)
  have hix:=SlV.idx1 hs .i64 j hj
  have hcc:=hc _ (List.getElem_mem hj)
  simp only [List.length_set,hl] at hl1
  refine zW (cJ hl1 t6 hi1 hix hld) ?_
  refine AnsH.eq (nat_Check C zF hcr hcc.1) fun H2 h2=>?_
  rw [if_neg hcc.2]
  refine zW hl1 ?_
  have k2:Kp H H2:=Kp.trans zK h2
  have le_k2:=k2.le
  exact zK
 ·intro T1 H1 hl1 hs1 hk1 _
  simp only [List.length_set,hl] at hl1
  refine zW hl1 ?_
  exact zK
end
def Mk (v i:AV):Option AV:=aM (fun s=>match s with | .t 0=>v | _=>i) (.indexStr (.t 0) (.t 1))
theorem cF {tab:Nat->Option aq} (ev:Src->AV) (H:Heap) (id:Nat) (Q:AV->Heap->Prop) (x i:Src):jT tab ev H id (.indexStr x i) Q=Pa (Mk (ev x) (ev i)) (fun v=>Q v H) ():=by
 rw [bU,dE tab ev H id Q (o:=.indexStr x i) (v:=Mk (ev x) (ev i)) (fun f a e=>by cases e) (by simp only [aM,Mk]) rfl]; rfl
theorem Kt {a b:Nat} (ha:a<18446744073709551616) (hb:0<b):bP .quo .int (.int .u64 (a:Int)) (.int .u64 (b:Int))=some (.int .u64 ((a / b:Nat):Int)):=by
 show (if (b:Int)=0 then none else some (AV.int .u64 (IntKind.u64.wrap ((a:Int).tdiv (b:Int)))))=_
 have hle:a / b<=a:=Nat.div_le_self _ _
 rw [if_neg (by omega),Int.tdiv_eq_ediv_of_nonneg (by omega),<- Int.natCast_ediv]
 generalize a / b=d at hle ⊢
 rw [eW (by omega) (by omega)]
theorem My {a b:Nat} (hb:0<b):bP .rem .int (.int .u64 (a:Int)) (.int .u64 (b:Int))=some (.int .u64 ((a % b:Nat):Int)):=by
 show (if (b:Int)=0 then none else some (AV.int .u64 ((a:Int).tmod (b:Int))))=_
 rw [if_neg (by omega),Int.tmod_eq_emod_of_nonneg (by omega),<- Int.natCast_emod]
theorem pq {x r:Nat} (hr:r<=64) {k:IntKind}:bP .shl .int (.int .u64 (x:Int)) (.int k (r:Int))=some (.int .u64 ((x*2^r % B:Nat):Int)):=by
 show jq .shl .u64 (x:Int) (r:Int)=_
 unfold jq
 rw [if_neg (by omega)]
 have h1:Nat.min (r:Int).toNat IntKind.u64.bits=r:=by
  have:IntKind.u64.bits=64:=rfl
  rw [this,Int.toNat_natCast]; exact Nat.min_eq_left hr
 have e:(x:Int)*2^r=((x*2^r:Nat):Int):=by simp
 simp only [h1,e]
 rw [eY]
 rfl
theorem wX {a b:Nat} (hb:b<=64) {k:IntKind}:bP .shr .int (.int .u64 (a:Int)) (.int k (b:Int))=some (.int .u64 ((a / 2^b:Nat):Int)):=by
 show jq .shr .u64 (a:Int) (b:Int)=_
 unfold jq
 rw [if_neg (by omega)]
 have h1:Nat.min (b:Int).toNat IntKind.u64.bits=b:=by
  have:IntKind.u64.bits=64:=rfl
  rw [this,Int.toNat_natCast]; exact Nat.min_eq_left hb
 simp only [h1]
 congr 2
 rw [Int.fdiv_eq_ediv_of_nonneg _ (Int.le_of_lt (Int.pow_pos (by omega)))]
 simp
theorem nL (a:Nat):bP .shr .int (.int .u64 (a:Int)) (.int .u64 16)=some (.int .u64 ((a / 65536:Nat):Int)):=pp a 16 (by omega)
theorem uS (a:Nat):bP .shr .int (.int .u64 (a:Int)) (.int .u64 8)=some (.int .u64 ((a / 256:Nat):Int)):=pp a 8 (by omega)
def MG:AV:=.str ⟨#[0,1,2,2,3,3,3,3,4,4,4,4,4,4,4,4,5,5,5,5,5,5,5,5,5,5,5,5,5,5,5,5,6,6,6,6,6,6,6,6,6,6,6,6,6,6,6,6,6,6,6,6,6,6,6,6,6,6,6,6,6,6,6,6,7,7,7,7,7,7,7,7,7,7,7,7,7,7,7,7,7,7,7,7,7,7,7,7,7,7,7,7,7,7,7,7,7,7,7,7,7,7,7,7,7,7,7,7,7,7,7,7,7,7,7,7,7,7,7,7,7,7,7,7,7,7,7,7,8,8,8,8,8,8,8,8,8,8,8,8,8,8,8,8,8,8,8,8,8,8,8,8,8,8,8,8,8,8,8,8,8,8,8,8,8,8,8,8,8,8,8,8,8,8,8,8,8,8,8,8,8,8,8,8,8,8,8,8,8,8,8,8,8,8,8,8,8,8,8,8,8,8,8,8,8,8,8,8,8,8,8,8,8,8,8,8,8,8,8,8,8,8,8,8,8,8,8,8,8,8,8,8,8,8,8,8,8,8,8,8,8,8,8,8,8,8,8,8,8,8,8,8,8,8,8,8]⟩
def HJ (x:Nat):Bool:=match Mk MG (.int .u8 (x:Int)) with
 | some (.int .u8 z)=>decide (0<=z/\z.toNat<=8/\x<2^z.toNat/\(x=0\/(1<=z.toNat/\2^(z.toNat-1)<=x)))
 | _=>false
theorem HK:(List.range 256).all HJ=true:=by kernel_rfl
theorem Fd {x:Nat} (hx:x<256):∃ L:Nat,Mk MG (.int .u8 (x:Int))=some (.int .u8 (L:Int))/\L<=8/\x<2^L/\(x=0\/(1<=L/\2^(L-1)<=x)):=by
 have h:=List.all_eq_true.1 HK x (List.mem_range.2 hx)
 unfold HJ at h
 split at h
 ·rename_i z e
  simp only [decide_eq_true_eq] at h
  obtain ⟨h0,h1,h2,h3⟩:=h
  refine ⟨z.toNat,?_,h1,h2,h3⟩
  rw [e,Int.toNat_of_nonneg h0]
 ·cases h
theorem HI {w k L x:Nat} (hx:w / 2^k=x) (h1:x<2^L) (h2:1<=L) (h3:2^(L-1)<=x):w<2^(k+L)/\2^(k+L-1)<=w:=by
 subst hx
 refine ⟨?_,?_⟩
 ·have:=(Nat.div_lt_iff_lt_mul (Nat.pow_pos (by decide))).1 h1
  rw [Nat.pow_add,Nat.mul_comm]; exact this
 ·have:=(Nat.le_div_iff_mul_le (Nat.pow_pos (by decide))).1 h3
  have e:k+L-1=(L-1)+k:=by omega
  rw [e,Nat.pow_add]; exact this
section
variable {tab:Nat->Option aq} {H:Heap} {s:AV} {l:List Nat}
set_option maxRecDepth 20000 in
theorem CQ (C:Code tab) (hw:Wf H) {w:Nat} (h0:0<w) (hB:w<18446744073709551616) :
  Ans tab (.fn PC [.int .u64 (w:Int)]) H fun v H'=>(∃ L:Nat,v=.int .i64 (L:Int)/\1<=L/\L<=64/\w<2^L/\2^(L-1)<=w)/\Kp H H':=by
 refine OD C.math_bits_Len64 (by decide) fun T hl g0=>?_
 have fin:∀ (k x:Nat),x<256->k<=56->w / 2^k=x->0<x->∃ L:Nat,Mk (.str ⟨#[0,1,2,2,3,3,3,3,4,4,4,4,4,4,4,4,5,5,5,5,5,5,5,5,5,5,5,5,5,5,5,5,6,6,6,6,6,6,6,6,6,6,6,6,6,6,6,6,6,6,6,6,6,6,6,6,6,6,6,6,6,6,6,6,7,7,7,7,7,7,7,7,7,7,7,7,7,7,7,7,7,7,7,7,7,7,7,7,7,7,7,7,7,7,7,7,7,7,7,7,7,7,7,7,7,7,7,7,7,7,7,7,7,7,7,7,7,7,7,7,7,7,7,7,7,7,7,7,8,8,8,8,8,8,8,8,8,8,8,8,8,8,8,8,8,8,8,8,8,8,8,8,8,8,8,8,8,8,8,8,8,8,8,8,8,8,8,8,8,8,8,8,8,8,8,8,8,8,8,8,8,8,8,8,8,8,8,8,8,8,8,8,8,8,8,8,8,8,8,8,8,8,8,8,8,8,8,8,8,8,8,8,8,8,8,8,8,8,8,8,8,8,8,8,8,8,8,8,8,8,8,8,8,8,8,8,8,8,8,8,8,8,8,8,8,8,8,8,8,8,8,8,8,8,8,8]⟩) (.int .u8 (IntKind.u8.wrap (x:Int)))=some (.int .u8 (L:Int))/\IntKind.i64.wrap (L:Int)=(L:Int)/\IntKind.i64.wrap ((k:Int)+(L:Int))=((k+L:Nat):Int)/\1<=k+L/\k+L<=64/\w<2^(k+L)/\2^(k+L-1)<=w:=by
  intro k x hx hk he hpos
  obtain ⟨L,e1,e2,e3,e4⟩:=Fd hx
  obtain ⟨h1,h2⟩:=e4.resolve_left (by omega)
  have e5:IntKind.u8.wrap (x:Int)=(x:Int):=by
   show (x:Int) % 256=x
   omega
  obtain ⟨h3,h4⟩:=HI he e3 h1 h2
  refine ⟨L,by rw [e5]; exact e1,by rw [wrap_i64] <;> omega,by rw [wrap_i64] <;> omega,by omega,by omega,h3,h4⟩
 have wk:∀ n:Nat,n<100->IntKind.i64.wrap (n:Int)=(n:Int):=fun n hn=>by rw [wrap_i64] <;> omega
 simp -dsimp (maxSteps:=1000000) (disch:=(first | omega | assumption | exact aF _ | exact aR _ _ | exact aV | exact bB _ _ _ | exact aY _ _ | exact aU _ _ _ _ _ _ | exact bI _ _ | exact bc _)) only [↓nD,nC,Nat.reduceLT,Nat.reduceEqDiff,Nat.reduceAdd,reduceIte,reduceCtorEq,Nat.reduceBEq,Int.reduceEq,Int.reduceLT,Int.reduceLE,Int.reduceAdd,Int.reduceSub,hl,g0,nL,uS,↓cF]
 refine iteH.split (fun h1=>?_) fun h1=>?_
 all_goals
  simp -dsimp (maxSteps:=1000000) (disch:=(first | omega | assumption | exact aF _ | exact aR _ _ | exact aV | exact bB _ _ _ | exact aY _ _ | exact aU _ _ _ _ _ _ | exact bI _ _ | exact bc _)) only [↓nD,nC,Nat.reduceLT,Nat.reduceEqDiff,Nat.reduceAdd,reduceIte,reduceCtorEq,Nat.reduceBEq,Int.reduceEq,Int.reduceLT,Int.reduceLE,Int.reduceAdd,Int.reduceSub,hl,g0,nL,uS,↓cF]
  refine iteH.split (fun h2=>?_) fun h2=>?_
 all_goals
  simp -dsimp (maxSteps:=1000000) (disch:=(first | omega | assumption | exact aF _ | exact aR _ _ | exact aV | exact bB _ _ _ | exact aY _ _ | exact aU _ _ _ _ _ _ | exact bI _ _ | exact bc _)) only [↓nD,nC,Nat.reduceLT,Nat.reduceEqDiff,Nat.reduceAdd,reduceIte,reduceCtorEq,Nat.reduceBEq,Int.reduceEq,Int.reduceLT,Int.reduceLE,Int.reduceAdd,Int.reduceSub,hl,g0,nL,uS,↓cF]
  refine iteH.split (fun h3=>?_) fun h3=>?_
 ·have he:w / 2^56=w / 4294967296 / 65536 / 256:=by omega
  obtain ⟨L,f1,f2,f3,f4,f5,f6,f7⟩:=fin 56 (w / 4294967296 / 65536 / 256) (by omega) (by omega) he (by omega)
  have f3':IntKind.i64.wrap (56+(L:Int))=((56+L:Nat):Int):=by rw [wrap_i64] <;> omega
  simp -dsimp (maxSteps:=1000000) (disch:=(first | omega | assumption | exact aF _ | exact aR _ _ | exact aV | exact bB _ _ _ | exact aY _ _ | exact aU _ _ _ _ _ _ | exact bI _ _ | exact bc _)) only [↓nD,nC,Nat.reduceLT,Nat.reduceEqDiff,Nat.reduceAdd,reduceIte,reduceCtorEq,Nat.reduceBEq,Int.reduceEq,Int.reduceLT,Int.reduceLE,Int.reduceAdd,Int.reduceSub,hl,g0,nL,uS,↓cF,f1,f2,f3',(show IntKind.i64.wrap 16=16 from wk 16 (by omega)),(show IntKind.i64.wrap 40=40 from wk 40 (by omega)),(show IntKind.i64.wrap 48=48 from wk 48 (by omega)),(show IntKind.i64.wrap 56=56 from wk 56 (by omega)),(show IntKind.i64.wrap 24=24 from wk 24 (by omega)),(show IntKind.i64.wrap 8=8 from wk 8 (by omega))]
  exact ⟨⟨56+L,rfl,f4,f5,f6,f7⟩,zK⟩
 ·have he:w / 2^48=w / 4294967296 / 65536:=by omega
  obtain ⟨L,f1,f2,f3,f4,f5,f6,f7⟩:=fin 48 (w / 4294967296 / 65536) (by omega) (by omega) he (by omega)
  have f3':IntKind.i64.wrap (48+(L:Int))=((48+L:Nat):Int):=by rw [wrap_i64] <;> omega
  simp -dsimp (maxSteps:=1000000) (disch:=(first | omega | assumption | exact aF _ | exact aR _ _ | exact aV | exact bB _ _ _ | exact aY _ _ | exact aU _ _ _ _ _ _ | exact bI _ _ | exact bc _)) only [↓nD,nC,Nat.reduceLT,Nat.reduceEqDiff,Nat.reduceAdd,reduceIte,reduceCtorEq,Nat.reduceBEq,Int.reduceEq,Int.reduceLT,Int.reduceLE,Int.reduceAdd,Int.reduceSub,hl,g0,nL,uS,↓cF,f1,f2,f3',(show IntKind.i64.wrap 16=16 from wk 16 (by omega)),(show IntKind.i64.wrap 40=40 from wk 40 (by omega)),(show IntKind.i64.wrap 48=48 from wk 48 (by omega)),(show IntKind.i64.wrap 56=56 from wk 56 (by omega)),(show IntKind.i64.wrap 24=24 from wk 24 (by omega)),(show IntKind.i64.wrap 8=8 from wk 8 (by omega))]
  exact ⟨⟨48+L,rfl,f4,f5,f6,f7⟩,zK⟩
 ·have he:w / 2^40=w / 4294967296 / 256:=by omega
  obtain ⟨L,f1,f2,f3,f4,f5,f6,f7⟩:=fin 40 (w / 4294967296 / 256) (by omega) (by omega) he (by omega)
  have f3':IntKind.i64.wrap (40+(L:Int))=((40+L:Nat):Int):=by rw [wrap_i64] <;> omega
  simp -dsimp (maxSteps:=1000000) (disch:=(first | omega | assumption | exact aF _ | exact aR _ _ | exact aV | exact bB _ _ _ | exact aY _ _ | exact aU _ _ _ _ _ _ | exact bI _ _ | exact bc _)) only [↓nD,nC,Nat.reduceLT,Nat.reduceEqDiff,Nat.reduceAdd,reduceIte,reduceCtorEq,Nat.reduceBEq,Int.reduceEq,Int.reduceLT,Int.reduceLE,Int.reduceAdd,Int.reduceSub,hl,g0,nL,uS,↓cF,f1,f2,f3',(show IntKind.i64.wrap 16=16 from wk 16 (by omega)),(show IntKind.i64.wrap 40=40 from wk 40 (by omega)),(show IntKind.i64.wrap 48=48 from wk 48 (by omega)),(show IntKind.i64.wrap 56=56 from wk 56 (by omega)),(show IntKind.i64.wrap 24=24 from wk 24 (by omega)),(show IntKind.i64.wrap 8=8 from wk 8 (by omega))]
  exact ⟨⟨40+L,rfl,f4,f5,f6,f7⟩,zK⟩
 ·have he:w / 2^32=w / 4294967296:=by omega
  obtain ⟨L,f1,f2,f3,f4,f5,f6,f7⟩:=fin 32 (w / 4294967296) (by omega) (by omega) he (by omega)
  have f3':IntKind.i64.wrap (32+(L:Int))=((32+L:Nat):Int):=by rw [wrap_i64] <;> omega
  simp -dsimp (maxSteps:=1000000) (disch:=(first | omega | assumption | exact aF _ | exact aR _ _ | exact aV | exact bB _ _ _ | exact aY _ _ | exact aU _ _ _ _ _ _ | exact bI _ _ | exact bc _)) only [↓nD,nC,Nat.reduceLT,Nat.reduceEqDiff,Nat.reduceAdd,reduceIte,reduceCtorEq,Nat.reduceBEq,Int.reduceEq,Int.reduceLT,Int.reduceLE,Int.reduceAdd,Int.reduceSub,hl,g0,nL,uS,↓cF,f1,f2,f3',(show IntKind.i64.wrap 16=16 from wk 16 (by omega)),(show IntKind.i64.wrap 40=40 from wk 40 (by omega)),(show IntKind.i64.wrap 48=48 from wk 48 (by omega)),(show IntKind.i64.wrap 56=56 from wk 56 (by omega)),(show IntKind.i64.wrap 24=24 from wk 24 (by omega)),(show IntKind.i64.wrap 8=8 from wk 8 (by omega))]
  exact ⟨⟨32+L,rfl,f4,f5,f6,f7⟩,zK⟩
 ·have he:w / 2^24=w / 65536 / 256:=by omega
  obtain ⟨L,f1,f2,f3,f4,f5,f6,f7⟩:=fin 24 (w / 65536 / 256) (by omega) (by omega) he (by omega)
  have f3':IntKind.i64.wrap (24+(L:Int))=((24+L:Nat):Int):=by rw [wrap_i64] <;> omega
  simp -dsimp (maxSteps:=1000000) (disch:=(first | omega | assumption | exact aF _ | exact aR _ _ | exact aV | exact bB _ _ _ | exact aY _ _ | exact aU _ _ _ _ _ _ | exact bI _ _ | exact bc _)) only [↓nD,nC,Nat.reduceLT,Nat.reduceEqDiff,Nat.reduceAdd,reduceIte,reduceCtorEq,Nat.reduceBEq,Int.reduceEq,Int.reduceLT,Int.reduceLE,Int.reduceAdd,Int.reduceSub,hl,g0,nL,uS,↓cF,f1,f2,f3',(show IntKind.i64.wrap 16=16 from wk 16 (by omega)),(show IntKind.i64.wrap 40=40 from wk 40 (by omega)),(show IntKind.i64.wrap 48=48 from wk 48 (by omega)),(show IntKind.i64.wrap 56=56 from wk 56 (by omega)),(show IntKind.i64.wrap 24=24 from wk 24 (by omega)),(show IntKind.i64.wrap 8=8 from wk 8 (by omega))]
  exact ⟨⟨24+L,rfl,f4,f5,f6,f7⟩,zK⟩
 ·have he:w / 2^16=w / 65536:=by omega
  obtain ⟨L,f1,f2,f3,f4,f5,f6,f7⟩:=fin 16 (w / 65536) (by omega) (by omega) he (by omega)
  have f3':IntKind.i64.wrap (16+(L:Int))=((16+L:Nat):Int):=by rw [wrap_i64] <;> omega
  simp -dsimp (maxSteps:=1000000) (disch:=(first | omega | assumption | exact aF _ | exact aR _ _ | exact aV | exact bB _ _ _ | exact aY _ _ | exact aU _ _ _ _ _ _ | exact bI _ _ | exact bc _)) only [↓nD,nC,Nat.reduceLT,Nat.reduceEqDiff,Nat.reduceAdd,reduceIte,reduceCtorEq,Nat.reduceBEq,Int.reduceEq,Int.reduceLT,Int.reduceLE,Int.reduceAdd,Int.reduceSub,hl,g0,nL,uS,↓cF,f1,f2,f3',(show IntKind.i64.wrap 16=16 from wk 16 (by omega)),(show IntKind.i64.wrap 40=40 from wk 40 (by omega)),(show IntKind.i64.wrap 48=48 from wk 48 (by omega)),(show IntKind.i64.wrap 56=56 from wk 56 (by omega)),(show IntKind.i64.wrap 24=24 from wk 24 (by omega)),(show IntKind.i64.wrap 8=8 from wk 8 (by omega))]
  exact ⟨⟨16+L,rfl,f4,f5,f6,f7⟩,zK⟩
 ·have he:w / 2^8=w / 256:=by omega
  obtain ⟨L,f1,f2,f3,f4,f5,f6,f7⟩:=fin 8 (w / 256) (by omega) (by omega) he (by omega)
  have f3':IntKind.i64.wrap (8+(L:Int))=((8+L:Nat):Int):=by rw [wrap_i64] <;> omega
  simp -dsimp (maxSteps:=1000000) (disch:=(first | omega | assumption | exact aF _ | exact aR _ _ | exact aV | exact bB _ _ _ | exact aY _ _ | exact aU _ _ _ _ _ _ | exact bI _ _ | exact bc _)) only [↓nD,nC,Nat.reduceLT,Nat.reduceEqDiff,Nat.reduceAdd,reduceIte,reduceCtorEq,Nat.reduceBEq,Int.reduceEq,Int.reduceLT,Int.reduceLE,Int.reduceAdd,Int.reduceSub,hl,g0,nL,uS,↓cF,f1,f2,f3',(show IntKind.i64.wrap 16=16 from wk 16 (by omega)),(show IntKind.i64.wrap 40=40 from wk 40 (by omega)),(show IntKind.i64.wrap 48=48 from wk 48 (by omega)),(show IntKind.i64.wrap 56=56 from wk 56 (by omega)),(show IntKind.i64.wrap 24=24 from wk 24 (by omega)),(show IntKind.i64.wrap 8=8 from wk 8 (by omega))]
  exact ⟨⟨8+L,rfl,f4,f5,f6,f7⟩,zK⟩
 ·have he:w / 2^0=w:=by omega
  obtain ⟨L,f1,f2,f3,f4,f5,f6,f7⟩:=fin 0 (w) (by omega) (by omega) he (by omega)
  have f3':IntKind.i64.wrap (0+(L:Int))=((0+L:Nat):Int):=by rw [wrap_i64] <;> omega
  simp -dsimp (maxSteps:=1000000) (disch:=(first | omega | assumption | exact aF _ | exact aR _ _ | exact aV | exact bB _ _ _ | exact aY _ _ | exact aU _ _ _ _ _ _ | exact bI _ _ | exact bc _)) only [↓nD,nC,Nat.reduceLT,Nat.reduceEqDiff,Nat.reduceAdd,reduceIte,reduceCtorEq,Nat.reduceBEq,Int.reduceEq,Int.reduceLT,Int.reduceLE,Int.reduceAdd,Int.reduceSub,hl,g0,nL,uS,↓cF,f1,f2,f3',(show IntKind.i64.wrap 16=16 from wk 16 (by omega)),(show IntKind.i64.wrap 40=40 from wk 40 (by omega)),(show IntKind.i64.wrap 48=48 from wk 48 (by omega)),(show IntKind.i64.wrap 56=56 from wk 56 (by omega)),(show IntKind.i64.wrap 24=24 from wk 24 (by omega)),(show IntKind.i64.wrap 8=8 from wk 8 (by omega))]
  exact ⟨⟨0+L,by rw [Nat.zero_add],f4,f5,f6,f7⟩,zK⟩
theorem yp (C:Code tab) (hw:Wf H) {w:Nat} (h0:0<w) (hB:w<18446744073709551616) :
  Ans tab (.fn de [.int .u64 (w:Int)]) H fun v H'=>(∃ z:Nat,v=.int .i64 (z:Int)/\z<64/\w*2^z<18446744073709551616/\9223372036854775808<=w*2^z)/\Kp H H':=by
 refine OD C.math_bits_LeadingZeros64 (by decide) fun T hl g0=>?_
 refine zW (az hl g0) ?_
 refine AnsH.use (CQ C zF h0 hB) ?_
 rintro v H2 ⟨⟨L,rfl,h1,h2,h3,h4⟩,hk2⟩
 obtain ⟨k2,_,_⟩:=zT H zK hk2
 have hwr:IntKind.i64.wrap (64-(L:Int))=((64-L:Nat):Int):=by rw [wrap_i64] <;> omega
 refine zW (aC hl g0 hwr) ?_
 refine ⟨⟨64-L,rfl,by omega,?_,?_⟩,zK⟩
 ·have:=Nat.mul_lt_mul_of_pos_right h3 (Nat.pow_pos (n:=64-L) (show 0<2 by decide))
  rw [<- Nat.pow_add] at this
  have e:L+(64-L)=64:=by omega
  rw [e] at this
  exact this
 ·have:=Nat.mul_le_mul_right (2^(64-L)) h4
  rw [<- Nat.pow_add] at this
  have e:L-1+(64-L)=63:=by omega
  rw [e] at this
  exact this
end
theorem Same.set {D:List Nat} {T T1:Tm} {i:Nat} {v:AV} (h:Same D T T1) (hi:i∈D):Same D T (T1.set i v) :=
 ⟨by simp [h.len],fun s hs=>by rw [jP _ _ _ _ (fun e=>hs (by rw [<- e]; exact hi))]; exact h.at_ s hs⟩
theorem MB (a:Nat):bP .mul .int (.int .u64 (a:Int)) (.int .u64 4294967296)=some (.int .u64 ((a*4294967296 % 18446744073709551616:Nat):Int)):=sJ a 4294967296
theorem Dl (a:Nat):bP .mul .int (.int .u64 4294967296) (.int .u64 (a:Int))=some (.int .u64 ((4294967296*a % 18446744073709551616:Nat):Int)):=sJ 4294967296 a
theorem qe {a:Nat} (h:0<a) (ha:a<18446744073709551616):bP .sub .int (.int .u64 (a:Int)) (.int .u64 1)=some (.int .u64 ((a-1:Nat):Int)):=by
 rw [show (1:Int)=((1:Nat):Int) from rfl,sI a 1 (by omega)]
 have e:(a+18446744073709551616-1) % 18446744073709551616=a-1:=by omega
 rw [e]
theorem sub64 {z:Nat} (h:z<=64):bP .sub .int (.int .u64 64) (.int .u64 (z:Int))=some (.int .u64 ((64-z:Nat):Int)):=by
 rw [show (64:Int)=((64:Nat):Int) from rfl,sI 64 z (by omega)]
 have e:(64+18446744073709551616-z) % 18446744073709551616=64-z:=by omega
 rw [e]
theorem GD {u n p R:Nat} (h:p+R=u*4294967296+n) (hR:R<18446744073709551616):((u*4294967296 % 18446744073709551616+n) % 18446744073709551616+18446744073709551616-p % 18446744073709551616) % 18446744073709551616=R:=by omega
section
variable {Y a b u n q r:Nat}
theorem tn (hY:Y=a*4294967296+b) (hu:u<Y) (hn:n<4294967296) (e:q*a+r=u) (h:4294967296<=q\/4294967296*r+n<q*b):(u*4294967296+n) / Y<q:=by
 apply (Nat.div_lt_iff_lt_mul (by omega)).2
 rcases h with h | h
 ·have:=Nat.mul_le_mul_right Y h
  omega
 ·have h1:q*Y=(q*a)*4294967296+q*b:=by rw [hY,Nat.mul_add,Nat.mul_assoc]
  rw [h1]
  generalize q*a=p at *
  omega
theorem jR (hY:Y=a*4294967296+b) (h0:0<Y) (e:q*a+r=u) (h:q*b<=4294967296*r+n):q<=(u*4294967296+n) / Y:=by
 apply (Nat.le_div_iff_mul_le h0).2
 have h1:q*Y=(q*a)*4294967296+q*b:=by rw [hY,Nat.mul_add,Nat.mul_assoc]
 rw [h1]
 generalize q*a=p at *
 omega
theorem Qj (hb:b<4294967296) (hq:q<=4294967296) (hr:4294967296<=r):q*b<=4294967296*r+n:=by
 have h1:q*b<=4294967296*4294967295:=Nat.mul_le_mul hq (by omega)
 omega
theorem tl (hY:Y=a*4294967296+b) (hb:b<4294967296) (ha:2147483648<=a) (hu:u<Y) (hn:n<4294967296):u / a<=4294967297/\(u*4294967296+n) / Y<=u / a:=by
 have h0:0<a:=by omega
 have e:=Nat.div_add_mod u a
 have hr:u % a<a:=Nat.mod_lt _ h0
 rw [Nat.mul_comm] at e
 refine ⟨?_,?_⟩
 ·apply Nat.le_of_lt_succ
  apply (Nat.div_lt_iff_lt_mul h0).2
  omega
 ·apply Nat.le_of_lt_succ
  apply (Nat.div_lt_iff_lt_mul (by omega)).2
  have h1:(u / a+1)*Y=((u / a+1)*a)*4294967296+(u / a+1)*b:=by rw [hY,Nat.mul_add,Nat.mul_assoc]
  have h2:(u / a+1)*a=u / a*a+a:=by rw [Nat.add_mul,Nat.one_mul]
  rw [Nat.succ_eq_add_one,h1,h2]
  generalize u / a*a=p at *
  omega
end
theorem jK {tab:Nat->Option aq} {rd:Bool} {id:Nat} {c:ACode} {T:Tm} {H:Heap} {Q:Ex->Tm->Heap->Prop} {L:Nat} (H0:Heap) (live:List Nat) (P:Nat->List AV->Heap->Prop) (R:List AV->Heap->Prop) (k0:Nat)
  (hl:T.length=L) (hp:gE c=true) (hk0:Kp H0 H) (h0:P k0 (live.map (ae T)) H)
  (hb:∀ k T1 H1,T1.length=L->Same (eF c) T T1->Kp H0 H1->P k (live.map (ae T1)) H1->WC tab rd c T1 H1 (K6 id (fun T2 H2=>Kp H0 H2/\∃ k',k'<k/\P k' (live.map (ae T2)) H2) (fun x T2 H2=>x=.nrm/\Kp H0 H2/\R (live.map (ae T2)) H2)))
  (he:∀ T1 H1,T1.length=L->Same (eF c) T T1->Kp H0 H1->R (live.map (ae T1)) H1->Q .nrm T1 H1):WC tab rd (Is id c) T H Q:=by
 unfold Is
 refine WB.wcLoop ?_
 refine yA (fun k T1 H1=>T1.length=L/\Same (eF c) T T1/\Kp H0 H1/\P k (live.map (ae T1)) H1) ?_ k0 T H ⟨hl,Same.refl _ _,hk0,h0⟩
 rintro k T1 H1 ⟨hl1,hs1,hk1,hP1⟩
 refine ((hb k T1 H1 hl1 hs1 hk1 hP1).wb.same hp).mono ?_
 rintro x T2 H2 ⟨hs2,hq⟩
 have hsame:Same (eF c) T T2:=(hs1.trans hs2).wide fun s hs=>by simpa using hs
 cases x with
 | nrm =>
  obtain ⟨hk2,k',hk',hP2⟩:=hq
  exact ⟨k',hk',hs2.len.trans hl1,hsame,hk2,hP2⟩
 | exit e =>
  simp only [K6] at hq
  show qH id Q (.exit e) T2 H2
  simp only [qH]
  by_cases h1:e=id
  ·rw [if_pos h1] at hq ⊢
   exact he T2 H2 (hs2.len.trans hl1) hsame hq.2.1 hq.2.2
  ·rw [if_neg h1] at hq
   exact absurd hq.1 (by simp)
 | goto l=>exact absurd hq.1 (by simp)
 | ret=>exact absurd hq.1 (by simp)
section
variable {tab:Nat->Option aq} {H:Heap}
set_option maxHeartbeats 1000000 in
theorem wW (C:Code tab) (hw:Wf H) {hi lo y:Nat} (hy:hi<y) (hlo:lo<18446744073709551616) (hyB:y<18446744073709551616) :
  Ans tab (.fn gZ [.int .u64 (hi:Int),.int .u64 (lo:Int),.int .u64 (y:Int)]) H fun v H'=>v=.tup [.int .u64 (((hi*B+lo) / y:Nat):Int),.int .u64 (((hi*B+lo) % y:Nat):Int)]/\Kp H H':=by
 refine Qg C.math_bits_Div64 (by decide) fun T hl g0 g1 g2=>?_
 have e0:¬ (y:Int)=0:=by omega
 have e1:¬ y<=hi:=by omega
 refine zW (fW hl g0 g1 g2 e0 e1) ?_
 refine iteH.split (fun h0=>?_) (fun h0=>?_)
 ·have h0':hi=0:=by omega
  subst h0'
  have q1:=Kt (a:=lo) (b:=y) hlo (by omega)
  have q2:=My (a:=lo) (b:=y) (by omega)
  rw [Nat.zero_mul,Nat.zero_add]
  refine zW (bg hl g0 g1 g2) ?_
  refine aO ?_
  refine zD (fW hl g0 g1 g2 q1 q2) ?_
  exact zK
 ·refine zW (bg hl g0 g1 g2) ?_
  refine AnsH.use (yp C zF (by omega) hyB) ?_
  rintro v H2 ⟨⟨z,rfl,hz,hz1,hz2⟩,hk2⟩
  obtain ⟨k2,_,w2⟩:=zT H zK hk2
  have hcz:IntKind.u64.wrap (z:Int)=(z:Int):=eW (by omega) (by omega)
  have p2z:0<2^z:=Nat.pow_pos (by decide)
  obtain ⟨Y,hY⟩:∃ Y,y*2^z=Y:=⟨_,rfl⟩
  rw [hY] at hz1 hz2
  have s1:bP .shl .int (.int .u64 (y:Int)) (.int .u64 (z:Int))=some (.int .u64 (Y:Int)):=by rw [pq (by omega),hY,Nat.mod_eq_of_lt hz1]
  have s2:=sub64 (z:=z) (by omega)
  have hhi:hi*2^z<18446744073709551616:=Nat.lt_trans (Nat.mul_lt_mul_of_pos_right hy p2z) (by rw [hY]; exact hz1)
  have s3:bP .shl .int (.int .u64 (hi:Int)) (.int .u64 (z:Int))=some (.int .u64 ((hi*2^z:Nat):Int)):=by rw [pq (by omega),Nat.mod_eq_of_lt hhi]
  have s4:bP .shr .int (.int .u64 (lo:Int)) (.int .u64 ((64-z:Nat):Int))=some (.int .u64 ((lo / 2^(64-z):Nat):Int)):=wX (by omega)
  have hB:B=2^(64-z)*2^z:=by
   rw [<- Nat.pow_add]; have:64-z+z=64:=by omega
   rw [this]
  have hlz:lo / 2^(64-z)<2^z:=by
   apply (Nat.div_lt_iff_lt_mul (Nat.pow_pos (by decide))).2
   rw [Nat.mul_comm,<- hB]; exact hlo
  obtain ⟨u,hu⟩:∃ u,hi*2^z+lo / 2^(64-z)=u:=⟨_,rfl⟩
  have s5:bP .or .int (.int .u64 ((hi*2^z:Nat):Int)) (.int .u64 ((lo / 2^(64-z):Nat):Int))=some (.int .u64 (u:Int)):=by
   rw [rC hhi (Nat.lt_of_le_of_lt (Nat.div_le_self _ _) hlo),Nat.or_comm,Nat.mul_comm hi,yS hlz,<- hu,Nat.mul_comm hi,Nat.add_comm]
  obtain ⟨m,hm⟩:∃ m,lo*2^z % B=m:=⟨_,rfl⟩
  have hmB:m<18446744073709551616:=by rw [<- hm]; exact Nat.mod_lt _ (by decide)
  have s6:bP .shl .int (.int .u64 (lo:Int)) (.int .u64 (z:Int))=some (.int .u64 (m:Int)):=by rw [pq (by omega),hm]
  have hN:(hi*B+lo)*2^z=u*B+m:=by
   have h1:=Nat.div_add_mod (lo*2^z) B
   rw [hm] at h1
   have h2:lo*2^z / B=lo / 2^(64-z):=by rw [hB,Nat.mul_div_mul_right _ _ p2z]
   rw [h2] at h1
   rw [Nat.add_mul,<- h1,<- hu,Nat.add_mul,Nat.mul_right_comm,Nat.mul_comm B]
   omega
  have huY:u<Y:=by
   have h1:(hi*B+lo)*2^z<y*B*2^z:=by
    refine Nat.mul_lt_mul_of_pos_right ?_ p2z
    have:(hi+1)*B<=y*B:=Nat.mul_le_mul_right B hy
    rw [Nat.add_mul] at this
    unfold B at *; omega
   rw [hN,Nat.mul_right_comm,hY] at h1
   unfold B at h1; omega
  obtain ⟨a,ha⟩:∃ a,Y / 4294967296=a:=⟨_,rfl⟩
  obtain ⟨b,hb⟩:∃ b,Y % 4294967296=b:=⟨_,rfl⟩
  obtain ⟨n1,hn1⟩:∃ n1,m / 4294967296=n1:=⟨_,rfl⟩
  obtain ⟨n0,hn0⟩:∃ n0,m % 4294967296=n0:=⟨_,rfl⟩
  have hab:Y=a*4294967296+b:=by omega
  have hbl:b<4294967296:=by omega
  have hal:2147483648<=a:=by omega
  have hn1l:n1<4294967296:=by omega
  have hn0l:n0<4294967296:=by omega
  have hquo:∀ x:Nat,x<18446744073709551616->bP .quo .int (.int .u64 (x:Int)) (.int .u64 (a:Int))=some (.int .u64 ((x / a:Nat):Int)):=fun x hx=>Kt hx (by omega)
  have hrest:∀ x:Nat,x<18446744073709551616->x / a*a % 18446744073709551616=x / a*a/\(x+18446744073709551616-x / a*a) % 18446744073709551616=x % a/\x / a*a+x % a=x:=by
   intro x hx
   have h1:=Nat.div_add_mod x a
   rw [Nat.mul_comm] at h1
   generalize x / a*a=p at *
   generalize x % a=t at *
   omega
  have qu:=hquo u (by omega)
  obtain ⟨ru1,ru2,ru3⟩:=hrest u (by omega)
  refine zW (KM hl g0 g1 g2 hcz s1 s2 s3 s4 s5 s6 ha hb hn1 hn0 qu ru1 ru2) ?_
  obtain ⟨Nb,Na⟩:=tl hab hbl hal huY hn1l
  have ham:∀ x:Nat,x % a<4294967296:=fun x=>Nat.lt_trans (Nat.mod_lt _ (by omega)) (by omega)
  refine jK H [15,16] (fun k vs H'=>∃ q r:Nat,vs=[.int .u64 (q:Int),.int .u64 (r:Int)]/\k=q/\q*a+r=u/\(u*4294967296+n1) / Y<=q/\q<=4294967297/\r<4294967296) (fun vs H'=>∃ r,vs=[.int .u64 (((u*4294967296+n1) / Y:Nat):Int),r]) (u / a) (by simp only [List.length_set]; exact hl) rfl zK ⟨u / a,u % a,by exact zV (bg hl g0 g1 g2),rfl,ru3,Na,Nb,ham u⟩ ?_ ?_
  ·rintro k T1 H1 hl1 hs1 hk1 ⟨q,r,hv,hkq,e,hge,hq,hr⟩
   obtain rfl:=hkq.symm
   have w1:=hk1.wf
   have le_hk1:=hk1.le
   simp only [List.map_cons,List.map_nil,List.cons.injEq,and_true] at hv
   obtain ⟨vq,vr⟩:=hv
   have u9:ae T1 9=.int .u64 (a:Int):=(hs1.at_ 9 (by decide)).trans (zV (bg hl g0 g1 g2))
   have u10:ae T1 10=.int .u64 (b:Int):=(hs1.at_ 10 (by decide)).trans (zV (bg hl g0 g1 g2))
   have un:ae T1 13=.int .u64 (n1:Int):=(hs1.at_ 13 (by decide)).trans (zV (bg hl g0 g1 g2))
   have step:4294967296<=q\/4294967296*r+n1<q*b->0<q/\(q-1)*a+(r+a)=u/\(u*4294967296+n1) / Y<=q-1:=by
    intro h
    have h1:=tn hab huY hn1l e h
    have h2:0<q:=Nat.lt_of_le_of_lt (Nat.zero_le _) h1
    refine ⟨h2,?_,Nat.le_sub_one_of_lt h1⟩
    have h3:q*a=(q-1)*a+a:=by rw [<- Nat.succ_mul]; congr 1; omega
    omega
   have w2:(r+a) % 18446744073709551616=r+a:=by omega
   by_cases c1:4294967296<=q
   ·have c1':(4294967296:Int)<=(q:Int):=by omega
    obtain ⟨p1,p2,p3⟩:=step (.inl c1)
    have z1:=qe (a:=q) p1 (by omega)
    refine zW (kU hl1 vq vr u9 u10 un c1' z1 w2) ?_
    refine iteH.split (fun h=>?_) fun h=>?_
    ·refine zW (mw hl1 vq vr u9 u10 un z1 w2) ?_
     have:=jR (Y:=Y) hab (by omega) p2 (Qj hbl (q:=q-1) (n:=n1) (by omega) (by omega))
     exact ⟨zK,_,by rw [Nat.le_antisymm this p3]⟩
    ·refine zW (mw hl1 vq vr u9 u10 un z1 w2) ?_
     exact ⟨zK,q-1,by omega,q-1,r+a,rfl,rfl,p2,p3,by omega,by omega⟩
   ·have c1':¬ (4294967296:Int)<=(q:Int):=by omega
    have m1:q*b % 18446744073709551616=q*b:=by
     apply Nat.mod_eq_of_lt
     have:q*b<=4294967295*4294967295:=Nat.mul_le_mul (by omega) (by omega)
     omega
    have m2:4294967296*r % 18446744073709551616=4294967296*r:=by omega
    have m3:(4294967296*r+n1) % 18446744073709551616=4294967296*r+n1:=by omega
    by_cases c2:4294967296*r+n1<q*b
    ·obtain ⟨p1,p2,p3⟩:=step (.inr c2)
     have z1:=qe (a:=q) p1 (by omega)
     refine zW (Eh hl1 vq vr u9 u10 un c1' @c2 m1 m2 m3 @Dl z1 w2) ?_
     refine iteH.split (fun h=>?_) fun h=>?_
     ·refine zW (mw hl1 vq vr u9 u10 un z1 w2) ?_
      have:=jR (Y:=Y) hab (by omega) p2 (Qj hbl (q:=q-1) (n:=n1) (by omega) (by omega))
      exact ⟨zK,_,by rw [Nat.le_antisymm this p3]⟩
     ·refine zW (mw hl1 vq vr u9 u10 un z1 w2) ?_
      exact ⟨zK,q-1,by omega,q-1,r+a,rfl,rfl,p2,p3,by omega,by omega⟩
    ·refine zW (zM hl1 vq vr u9 u10 un c1' @c2 m1 m2 m3 @Dl) ?_
     have:=jR (Y:=Y) hab (by omega) e (Nat.le_of_not_lt c2)
     exact ⟨zK,_,by rw [Nat.le_antisymm this hge]⟩
  ·rintro T1 H1 hl1 hs1 hk1 ⟨r,hv⟩
   have w1:=hk1.wf
   have le_hk1:=hk1.le
   simp only [List.map_cons,List.map_nil,List.cons.injEq,and_true] at hv
   obtain ⟨v15,-⟩:=hv
   obtain ⟨q1,hq1⟩:∃ q1,(u*4294967296+n1) / Y=q1:=⟨_,rfl⟩
   obtain ⟨u1,hu1⟩:∃ u1,(u*4294967296+n1) % Y=u1:=⟨_,rfl⟩
   have d1:=Nat.div_add_mod (u*4294967296+n1) Y
   rw [hq1,hu1,Nat.mul_comm Y] at d1
   have hu1Y:u1<Y:=by rw [<- hu1]; exact Nat.mod_lt _ (by omega)
   rw [hq1] at v15
   have t2:ae T1 2=.int .u64 (Y:Int):=(hs1.at_ 2 (by decide)).trans (zV (bg hl g0 g1 g2))
   have t8:ae T1 8=.int .u64 (z:Int):=(hs1.at_ 8 (by decide)).trans (zV (bg hl g0 g1 g2))
   have t9:ae T1 9=.int .u64 (a:Int):=(hs1.at_ 9 (by decide)).trans (zV (bg hl g0 g1 g2))
   have t10:ae T1 10=.int .u64 (b:Int):=(hs1.at_ 10 (by decide)).trans (zV (bg hl g0 g1 g2))
   have t11:ae T1 11=.int .u64 (u:Int):=(hs1.at_ 11 (by decide)).trans (zV (bg hl g0 g1 g2))
   have t13:ae T1 13=.int .u64 (n1:Int):=(hs1.at_ 13 (by decide)).trans (zV (bg hl g0 g1 g2))
   have t14:ae T1 14=.int .u64 (n0:Int):=(hs1.at_ 14 (by decide)).trans (zV (bg hl g0 g1 g2))
   have f1:((u*4294967296 % 18446744073709551616+n1) % 18446744073709551616+18446744073709551616-q1*Y % 18446744073709551616) % 18446744073709551616=u1:=GD d1 (by omega)
   have qu1:=hquo u1 (by omega)
   obtain ⟨rv1,rv2,rv3⟩:=hrest u1 (by omega)
   obtain ⟨st3,st4⟩:=tl hab hbl hal hu1Y hn0l
   refine zW (Eh hl1 v15 t2 t8 t9 t10 t11 t13 t14 @MB f1 qu1 rv1 rv2) ?_
   refine jK H [18,16] (fun k vs H'=>∃ q r:Nat,vs=[.int .u64 (q:Int),.int .u64 (r:Int)]/\k=q/\q*a+r=u1/\(u1*4294967296+n0) / Y<=q/\q<=4294967297/\r<4294967296) (fun vs H'=>∃ r,vs=[.int .u64 (((u1*4294967296+n0) / Y:Nat):Int),r]) (u1 / a) (by simp only [List.length_set]; exact hl1) rfl zK ⟨u1 / a,u1 % a,by exact zV hl1,rfl,rv3,st4,st3,ham u1⟩ ?_ ?_
   ·rintro k T2 H3 hl2 hs2 hk3 ⟨q,r,hv,hkq,e,hge,hq,hr⟩
    obtain rfl:=hkq.symm
    have w1:=hk3.wf
    have le_hk3:=hk3.le
    simp only [List.map_cons,List.map_nil,List.cons.injEq,and_true] at hv
    obtain ⟨vq,vr⟩:=hv
    have u9:ae T2 9=.int .u64 (a:Int):=(hs2.at_ 9 (by decide)).trans (zV (bg hl1 t9 t10 t14))
    have u10:ae T2 10=.int .u64 (b:Int):=(hs2.at_ 10 (by decide)).trans (zV (bg hl1 t9 t10 t14))
    have un:ae T2 14=.int .u64 (n0:Int):=(hs2.at_ 14 (by decide)).trans (zV (bg hl1 t9 t10 t14))
    have step:4294967296<=q\/4294967296*r+n0<q*b->0<q/\(q-1)*a+(r+a)=u1/\(u1*4294967296+n0) / Y<=q-1:=by
     intro h
     have h1:=tn hab hu1Y hn0l e h
     have h2:0<q:=Nat.lt_of_le_of_lt (Nat.zero_le _) h1
     refine ⟨h2,?_,Nat.le_sub_one_of_lt h1⟩
     have h3:q*a=(q-1)*a+a:=by rw [<- Nat.succ_mul]; congr 1; omega
     omega
    have w2:(r+a) % 18446744073709551616=r+a:=by omega
    by_cases c1:4294967296<=q
    ·have c1':(4294967296:Int)<=(q:Int):=by omega
     obtain ⟨p1,p2,p3⟩:=step (.inl c1)
     have z1:=qe (a:=q) p1 (by omega)
     refine zW (kU hl2 vq vr u9 u10 un c1' z1 w2) ?_
     refine iteH.split (fun h=>?_) fun h=>?_
     ·refine zW (mw hl2 vq vr u9 u10 un z1 w2) ?_
      have:=jR (Y:=Y) hab (by omega) p2 (Qj hbl (q:=q-1) (n:=n0) (by omega) (by omega))
      exact ⟨zK,_,by rw [Nat.le_antisymm this p3]⟩
     ·refine zW (mw hl2 vq vr u9 u10 un z1 w2) ?_
      exact ⟨zK,q-1,by omega,q-1,r+a,rfl,rfl,p2,p3,by omega,by omega⟩
    ·have c1':¬ (4294967296:Int)<=(q:Int):=by omega
     have m1:q*b % 18446744073709551616=q*b:=by
      apply Nat.mod_eq_of_lt
      have:q*b<=4294967295*4294967295:=Nat.mul_le_mul (by omega) (by omega)
      omega
     have m2:4294967296*r % 18446744073709551616=4294967296*r:=by omega
     have m3:(4294967296*r+n0) % 18446744073709551616=4294967296*r+n0:=by omega
     by_cases c2:4294967296*r+n0<q*b
     ·obtain ⟨p1,p2,p3⟩:=step (.inr c2)
      have z1:=qe (a:=q) p1 (by omega)
      refine zW (Eh hl2 vq vr u9 u10 un c1' @c2 m1 m2 m3 @Dl z1 w2) ?_
      refine iteH.split (fun h=>?_) fun h=>?_
      ·refine zW (mw hl2 vq vr u9 u10 un z1 w2) ?_
       have:=jR (Y:=Y) hab (by omega) p2 (Qj hbl (q:=q-1) (n:=n0) (by omega) (by omega))
       exact ⟨zK,_,by rw [Nat.le_antisymm this p3]⟩
      ·refine zW (mw hl2 vq vr u9 u10 un z1 w2) ?_
       exact ⟨zK,q-1,by omega,q-1,r+a,rfl,rfl,p2,p3,by omega,by omega⟩
     ·refine zW (zM hl2 vq vr u9 u10 un c1' @c2 m1 m2 m3 @Dl) ?_
      have:=jR (Y:=Y) hab (by omega) e (Nat.le_of_not_lt c2)
      exact ⟨zK,_,by rw [Nat.le_antisymm this hge]⟩
   ·rintro T2 H3 hl2 hs2 hk3 ⟨r,hv⟩
    have w3:=hk3.wf
    have le_hk3:=hk3.le
    simp only [List.map_cons,List.map_nil,List.cons.injEq,and_true] at hv
    obtain ⟨v18,-⟩:=hv
    obtain ⟨q0,hq0⟩:∃ q0,(u1*4294967296+n0) / Y=q0:=⟨_,rfl⟩
    obtain ⟨r0,hr0⟩:∃ r0,(u1*4294967296+n0) % Y=r0:=⟨_,rfl⟩
    have d2:=Nat.div_add_mod (u1*4294967296+n0) Y
    rw [hq0,hr0,Nat.mul_comm Y] at d2
    have hr0Y:r0<Y:=by rw [<- hr0]; exact Nat.mod_lt _ (by omega)
    rw [hq0] at v18
    have x2:ae T2 2=.int .u64 (Y:Int):=(hs2.at_ 2 (by decide)).trans (zV (az hl1 t2))
    have x8:ae T2 8=.int .u64 (z:Int):=(hs2.at_ 8 (by decide)).trans (zV (az hl1 t8))
    have x14:ae T2 14=.int .u64 (n0:Int):=(hs2.at_ 14 (by decide)).trans (zV (az hl1 t14))
    have x15:ae T2 15=.int .u64 (q1:Int):=(hs2.at_ 15 (by decide)).trans (zV (az hl1 v15))
    have x17:ae T2 17=.int .u64 (u1:Int):=(hs2.at_ 17 (by decide)).trans (zV hl1)
    have hq1l:q1<4294967296:=by
     rw [<- hq1]
     apply (Nat.div_lt_iff_lt_mul (by omega)).2
     omega
    have hq0l:q0<4294967296:=by
     rw [<- hq0]
     apply (Nat.div_lt_iff_lt_mul (by omega)).2
     omega
    have f2:(q1*4294967296 % 18446744073709551616+q0) % 18446744073709551616=q1*4294967296+q0:=by omega
    have f3:((u1*4294967296 % 18446744073709551616+n0) % 18446744073709551616+18446744073709551616-q0*Y % 18446744073709551616) % 18446744073709551616=r0:=GD d2 (by omega)
    have hsh:bP .shr .int (.int .u64 (r0:Int)) (.int .u64 (z:Int))=some (.int .u64 ((r0 / 2^z:Nat):Int)):=wX (by omega)
    refine zW (p9 hl2 v18 x2 x8 x14 x15 x17 @MB f2 f3 hsh) ?_
    have hall:(hi*B+lo)*2^z=(q1*4294967296+q0)*Y+r0:=by
     rw [hN,Nat.add_mul,Nat.mul_right_comm]
     have e5:m=n1*4294967296+n0:=by omega
     generalize q1*Y=p at *
     generalize q0*Y=p' at *
     unfold B
     omega
    have g1':(hi*B+lo) / y=q1*4294967296+q0:=by
     rw [<- Nat.mul_div_mul_right _ _ p2z,hall,hY]
     rw [Nat.add_comm,Nat.add_mul_div_right _ _ (by omega),Nat.div_eq_of_lt hr0Y,Nat.zero_add]
    have g2':r0 / 2^z=(hi*B+lo) % y:=by
     have h1:(hi*B+lo)*2^z % (y*2^z)=r0:=by
      rw [hall,hY,Nat.add_comm,Nat.add_mul_mod_self_right,Nat.mod_eq_of_lt hr0Y]
     rw [Nat.mul_mod_mul_right] at h1
     rw [<- h1,Nat.mul_div_cancel _ p2z]
    rw [g1',g2']
    exact ⟨rfl,zK⟩
end
theorem uD:∀ {out:List Nat} {M:Nat},(∀ j,j<out.length->out.getD j 0=M / B^j % B)->M<B^out.length->val out=M
 | [],M,_,h=>by simp at h; simp [val,h]
 | a :: t,M,hd,h=>by
  have h0:=hd 0 (by simp)
  simp only [List.getD_cons_zero,Nat.pow_zero,Nat.div_one] at h0
  have ht:val t=M / B:=by
   refine uD (fun j hj=>?_) ?_
   ·have:=hd (j+1) (by simpa using hj)
    rw [List.getD_cons_succ] at this
    rw [this,Nat.div_div_eq_div_mul,Nat.pow_succ,Nat.mul_comm B]
   ·apply (Nat.div_lt_iff_lt_mul (by decide)).2
    rw [<- Nat.pow_succ]; simpa using h
  simp only [val,ht,h0]
  exact Nat.mod_add_div M B
theorem Co {out:List Nat} (h:∀ j,j<out.length->out.getD j 0<B):Lim out:=fun a ha=>by
 obtain ⟨j,hj,rfl⟩:=List.getElem_of_mem ha
 have:=h j hj
 rw [List.getD_eq_getElem?_getD,List.getElem?_eq_getElem hj] at this
 exact this
theorem gP (n j:Nat):(ag n).getD j 0=n / B^j % B:=by
 have h1:(ag n).drop j=ag (n / B^j):=Qe j n
 have h2:(ag n).getD j 0=((ag n).drop j).getD 0 0:=by
  rw [List.getD_eq_getElem?_getD,List.getD_eq_getElem?_getD,List.getElem?_drop,Nat.add_zero]
 rw [h2,h1]
 by_cases h0:n / B^j=0
 ·rw [h0,co]; rfl
 ·rw [gO h0]; rfl
theorem Bo {a c m M:Nat} (ha:a<c) (hM:0<M):(a+c*m) % (c*M)=a+c*(m % M):=by
 have h1:m=m % M+M*(m / M):=(Nat.mod_add_div m M).symm
 have h2:a+c*m=a+c*(m % M)+c*M*(m / M):=by
  conv=>lhs; rw [h1]
  rw [Nat.mul_add,Nat.mul_assoc]; omega
 have h3:a+c*(m % M)<c*M:=by
  have h4:c*(m % M+1)<=c*M:=Nat.mul_le_mul_left c (Nat.mod_lt _ hM)
  rw [Nat.mul_add] at h4; omega
 rw [h2,Nat.add_mul_mod_self_left,Nat.mod_eq_of_lt h3]
theorem wn {Y j r:Nat} (hr:r<64):Y / B^j % B / 2^r+2^(64-r)*(Y / B^(j+1) % B % 2^r)=Y / 2^r / B^j % B:=by
 have hB:B=2^r*2^(64-r):=by
  rw [<- Nat.pow_add]; have:r+(64-r)=64:=by omega
  rw [this]
 have p2:0<2^r:=Nat.pow_pos (by decide)
 have p3:0<2^(64-r):=Nat.pow_pos (by decide)
 have e1:Y / 2^r / B^j=Y / B^j / 2^r:=by rw [Nat.div_div_eq_div_mul,Nat.div_div_eq_div_mul,Nat.mul_comm]
 have e2:Y / B^(j+1)=Y / B^j / B:=by rw [Nat.div_div_eq_div_mul,Nat.pow_succ]
 rw [e1,e2]
 generalize Y / B^j=Z
 have hz:Z=Z % B+B*(Z / B):=(Nat.mod_add_div Z B).symm
 have hl:Z % B / 2^r<2^(64-r):=by
  apply (Nat.div_lt_iff_lt_mul p2).2
  rw [Nat.mul_comm,<- hB]; exact Nat.mod_lt _ (by decide)
 have h1:Z / 2^r=Z % B / 2^r+2^(64-r)*(Z / B):=by
  conv=>lhs; rw [hz]
  rw [hB,Nat.mul_assoc,Nat.add_mul_div_left _ _ p2,<- hB]
 have h2:Z / B % B % 2^r=Z / B % 2^r:=Nat.mod_mod_of_dvd _ ⟨2^(64-r),hB⟩
 rw [h1,h2]
 have:=Bo (a:=Z % B / 2^r) (c:=2^(64-r)) (m:=Z / B) (M:=2^r) hl p2
 rw [Nat.mul_comm (2^(64-r)) (2^r),<- hB] at this
 exact this.symm
theorem Da {x r:Nat} (hr:r<=64):x*2^(64-r) % B=2^(64-r)*(x % 2^r):=by
 have hB:B=2^(64-r)*2^r:=by
  rw [<- Nat.pow_add]; have:64-r+r=64:=by omega
  rw [this]
 rw [hB,Nat.mul_comm x,Nat.mul_mod_mul_left]
theorem QF {l:List Nat} {i v:Nat} (h:i<l.length):(l.set i v).getD i 0=v:=by
 rw [List.getD_eq_getElem?_getD,List.getElem?_set,if_pos rfl,if_pos h]; rfl
section
variable {tab:Nat->Option aq} {H:Heap} {s:AV}
theorem nat_Down (C:Code tab) (hw:Wf H) {a:AV} {x k:Nat} (ha:bZ H a x) (hx:Sm x) (hk:k<=65536) :
  Ans tab (.fn qk [a,.int .i64 (k:Int)]) H fun v H'=>∃ o,v=.tup [o,.int .i64 0]/\bZ H' o (x / 2^k)/\Kp H H':=by
 refine ca C.nat_Down (by decide) fun T hl g0 g1=>?_
 refine zW (aC hl g0 g1) ?_
 refine AnsH.eq (nat_asked C zF (ha.mono (Kp.sub (H:=H) zK)) hx hk) fun H2 hk2=>?_
 obtain ⟨k2,_,w2⟩:=zT H zK hk2
 have n2:=k2.le
 unfold Sm at hx
 have hq:=Hi (k:=k) (c:=64) (by omega) (by omega)
 have hr:=Hf (k:=k) (c:=64) (by omega)
 obtain ⟨q,eq⟩:∃ q,q=k / 64:=⟨_,rfl⟩
 obtain ⟨r,er⟩:∃ r,r=k % 64:=⟨_,rfl⟩
 rw [<- eq] at hq
 rw [<- er] at hr
 have hq':bP .quo .int (.int .i64 (k:Int)) (.int .i64 64)=some (.int .i64 (q:Int)):=hq
 have hr':bP .rem .int (.int .i64 (k:Int)) (.int .i64 64)=some (.int .i64 (r:Int)):=hr
 have hr64:r<64:=by omega
 obtain ⟨n,hn⟩:∃ n,min q (ag x).length=n:=⟨_,rfl⟩
 have hmin:Ci (.int .i64 (q:Int)) (.int .i64 ((ag x).length:Int))=some (.int .i64 (n:Int)):=by rw [ur]; congr 2; split <;> omega
 obtain ⟨s',e0,hs'⟩:=SlV.lo (ha.mono k2.sub) .i64 n (by omega)
 have e':cR 1 a (some (.int .i64 (n:Int))) none none=some s':=e0
 obtain ⟨l,hl0⟩:∃ l,(ag x).drop n=l:=⟨_,rfl⟩
 rw [hl0] at hs'
 have hlim:Lim l:=by rw [<- hl0]; exact (bz x).drop n
 have hln:l.length<=(ag x).length:=by rw [<- hl0,List.length_drop]; omega
 refine zW (jm hl g0 g1 hq' ha.lenV hmin e') ?_
 refine AnsH.use (rL C zF (hs'.mono (Sub.bump H2 _)) (by omega)) ?_
 rintro v H3 ⟨hv,hk3,hown⟩
 obtain ⟨k3,_,w3⟩:=zT H zK hk3
 obtain ⟨N,hN⟩:∃ N,l.length=N:=⟨_,rfl⟩
 have hvl:lenV v=some (.int .i64 (N:Int)):=by have:=hv.lenV; rwa [hN] at this
 rw [hN] at hown
 obtain ⟨b,hb⟩:∃ b,0<N->v=.own b 0 N N 1 false/\H3.get b=some (.cells (aI l) ad true)/\H.next<=b:=by
  by_cases h0:0<N
  ·obtain ⟨b,h1,h2,h3⟩:=hown h0
   have:H.next<=H2.next:=n2
   exact ⟨b,fun _=>⟨h1,h2,by have:H2.next<=b:=Nat.le_trans (Nat.le_add_right _ _) h3; omega⟩⟩
  ·exact ⟨0,fun h=>absurd h h0⟩
 obtain ⟨Y,hY⟩:∃ Y,val l=Y:=⟨_,rfl⟩
 have hdig:∀ j,l.getD j 0=Y / B^j % B:=by
  intro j
  have h1:l=ag Y:=by
   rw [<- hl0,Qe] at hY ⊢
   rw [bJ] at hY; rw [hY]
  rw [h1,gP]
 have hYB:Y<B^N:=by rw [<- hY,<- hN]; exact rH hlim
 refine zW (bg hl g0 g1 hvl) ?_
 refine ak H [] (fun i vs H'=>∃ out,(0<N->H'.get b=some (.cells (aI out) ad true))/\(N=0->Lb H' v [])/\out.length=N/\(∀ j,j<i->out.getD j 0=Y / 2^r / B^j % B)/\(∀ j,i<=j->out.getD j 0=Y / B^j % B)) (a:=0) (N:=N) rfl (by refine zW (aC hl g0 g1) ?_; rfl) (zV (aC hl g0 g1)) (Nat.zero_le _) (by omega) (by simp only [List.length_set,hl]; rfl) rfl (fun _ _ H' m h=>by
   obtain ⟨out,h1,h2,h3⟩:=h
   exact ⟨out,h1,fun h0=>(h2 h0).mono (Sub.bump H' m),h3⟩) zK
  ⟨l,fun h0=>by exact zV ((hb h0).2.1),fun h0=>by
   have:l=[]:=List.eq_nil_of_length_eq_zero (by omega)
   subst this; exact hv.mono (Sub.bump H3 _),hN,fun j hj=>by omega,fun j _=>hdig j⟩ ?_ ?_
 ·rintro i T1 H1 _ hi hl1 hi1 hs1 hk1 ⟨out,b0,-,hlen,hlow,hhigh⟩
  simp only [List.length_set,hl] at hl1
  have w1:=hk1.wf
  have le_hk1:=hk1.le
  obtain ⟨hv',-,hbH⟩:=hb (by omega)
  have b6:=b0 (by omega)
  have lt6:=hk1.wf _ _ b6
  have t7:ae T1 7=.own b 0 N N 1 false:=(hs1.at_ 7 (by decide)).trans (zV (bg hl g0 g1 hv'))
  have t1:ae T1 1=.int .i64 (k:Int):=(hs1.at_ 1 (by decide)).trans (zV (bg hl g0 g1 g1))
  have hsh:∀ y:Nat,bP .shr .int (.int .u64 (y:Int)) (.int .i64 (r:Int))=some (.int .u64 ((y / 2^r:Nat):Int)):=fun y=>pp y r hr64
  have hwi1:IntKind.i64.wrap ((i:Int)+1)=((i+1:Nat):Int):=by rw [wrap_i64] <;> omega
  have hoi:=hhigh i (Nat.le_refl _)
  refine zW (mw hl1 t7 t1 hi1 @b6 hr' hsh hwi1) ?_
  refine iteH.split (fun h=>?_) fun h=>?_
  ·have hoi1:=hhigh (i+1) (by omega)
   have hw64:IntKind.i64.wrap (64-(r:Int))=((64-r:Nat):Int):=by rw [wrap_i64] <;> omega
   have gi:(out.set i (out.getD i 0 / 2^r)).getD i 0=out.getD i 0 / 2^r:=QF (by omega)
   have gi1:(out.set i (out.getD i 0 / 2^r)).getD (i+1) 0=out.getD (i+1) 0:=bi (by omega)
   have hoB:out.getD i 0<18446744073709551616:=by rw [hoi]; exact Nat.mod_lt _ (by decide)
   have hs2:=pq (x:=out.getD (i+1) 0) (r:=64-r) (by omega) (k:=.i64)
   have hv1:out.getD i 0 / 2^r<2^(64-r):=by
    apply (Nat.div_lt_iff_lt_mul (Nat.pow_pos (by decide))).2
    rw [<- Nat.pow_add]
    have:64-r+r=64:=by omega
    rw [this]; exact hoB
   have hor:=rC (a:=out.getD i 0 / 2^r) (b:=out.getD (i+1) 0*2^(64-r) % B) (Nat.lt_of_le_of_lt (Nat.div_le_self _ _) hoB) (Nat.mod_lt _ (by decide))
   rw [Da (by omega),yS hv1] at hor
   rw [Da (by omega)] at hs2
   have ti:bA (aI (out.set i (out.getD i 0 / 2^r))) i none=some (.int .u64 ((out.getD i 0 / 2^r:Nat):Int)):=by rw [yD (by simp; omega),gi]
   have ti1:bA (aI (out.set i (out.getD i 0 / 2^r))) (i+1) none=some (.int .u64 ((out.getD (i+1) 0:Nat):Int)):=by rw [yD (by simp; omega),gi1]
   refine aO ?_
   refine zD (zM hl1 t7 t1 hi1 @b6 hr' hw64 hwi1 ti ti1 hs2 hor) ?_
   refine ⟨zK,_,fun _=>rfl,fun h0=>by omega,by simp [hlen],fun j hj=>?_,fun j hj=>?_⟩
   ·by_cases hji:j=i
    ·subst hji
     rw [QF (by simp; omega),hoi,hoi1]
     exact wn hr64
    ·rw [bi (by omega),bi (by omega)]
     exact hlow j (by omega)
   ·rw [bi (by omega),bi (by omega)]
    exact hhigh j (by omega)
  ·refine zW hl1 ?_
   refine ⟨zK,_,fun _=>rfl,fun h0=>by omega,by simp [hlen],fun j hj=>?_,fun j hj=>?_⟩
   ·by_cases hji:j=i
    ·subst hji
     rw [QF (by omega),hoi,<- wn hr64]
     have h0:Y / B^(j+1)=0:=Nat.div_eq_of_lt (by
      have:j+1=N:=by omega
      rw [this]; exact hYB)
     rw [h0]; simp
    ·rw [bi (by omega)]
     exact hlow j (by omega)
   ·rw [bi (by omega)]
    exact hhigh j (by omega)
 ·rintro T1 H1 hl1 hs1 hk1 ⟨out,b0,hz,hlen,hlow,-⟩
  simp only [List.length_set,hl] at hl1
  have w1:=hk1.wf
  have le_hk1:=hk1.le
  have t7:ae T1 7=v:=(hs1.at_ 7 (by decide)).trans (zV (aC hl g0 g1))
  have hlim':Lim out:=Co fun j hj=>by rw [hlow j (by omega)]; exact Nat.mod_lt _ (by decide)
  have hval:val out=Y / 2^r:=uD (fun j hj=>hlow j (by omega)) (by rw [hlen]; exact Nat.lt_of_le_of_lt (Nat.div_le_self _ _) hYB)
  have ho:Lb H1 v out:=by
   by_cases h0:0<N
   ·obtain ⟨hv',-,hbH⟩:=hb h0
    rw [hv']
    exact (rc (H0:=H) (ex:=false) (b0 h0) hbH hlen).sl
   ·have:out=[]:=List.eq_nil_of_length_eq_zero (by omega)
    subst this; exact hz (by omega)
  refine zW (az hl1 t7) ?_
  refine AnsH.use (nat_trim C zF (ho.mono (Sub.bump H1 _)) (by omega)) ?_
  rintro v2 H4 ⟨h4,hk4⟩
  obtain ⟨k4,_,_⟩:=zT H zK hk4
  have e:val out=x / 2^k:=by
   have h1:Y=x / B^n:=by rw [<- hY,<- hl0,Qe,bJ]
   have h2:x / B^n=x / B^q:=by
    by_cases hqn:q<=(ag x).length
    ·rw [show n=q from by rw [<- hn,Nat.min_eq_left hqn]]
    ·have h3:=gt x
     have hlq:(ag x).length<=q:=Nat.le_of_lt (Nat.lt_of_not_le hqn)
     rw [show n=(ag x).length from by rw [<- hn,Nat.min_eq_right hlq],Nat.div_eq_of_lt h3]
     exact (Nat.div_eq_of_lt (Nat.lt_of_lt_of_le h3 (Nat.pow_le_pow_right (by decide) hlq))).symm
   have h3:k=64*q+r:=by omega
   rw [hval,h1,h2,Nat.div_div_eq_div_mul]
   congr 1
   rw [h3,Nat.pow_add,Nat.pow_mul]
  rw [dI hlim',e] at h4
  refine zW hl1 ?_
  exact ⟨v2,rfl,h4,zK⟩
end
theorem Er {X w y:Nat}:X*B+y=X / w*B*w+(X % w*B+y):=by
 have h:=Nat.div_add_mod X w
 generalize X / w=q at *
 generalize X % w=r at *
 subst h
 grind
section
variable {tab:Nat->Option aq} {H:Heap} {s:AV}
theorem py (C:Code tab) (hw:Wf H) {sa:AV} (ha:One sa) :
  Ans tab (.fn cu [sa]) H fun v H'=>v=.fn (.func aT) [] [.ptr H.next 0]/\H'.get H.next=some (.cells [sa] aE true)/\H.next+1<=H'.next/\Kp H H':=by
 refine OD C.slices_Backward_api_Nat_uint64 (by decide) fun T hl g0=>?_
 refine zW (az hl g0) ?_
 exact ⟨by omega,zK⟩
theorem zC (C:Code tab) {H0:Heap} {lb ba:Nat} {a:List Nat} {sa:AV} (J:Nat->Heap->Prop) (hla:a.length<4611686018427387904)
  (hk:Kp H0 H) (h0:J 0 H) (hup:∀ k H m,J k H->J k (H.up m)) (hA:∀ k H,J k H->H.get ba=some (.cells [sa] aE true)/\Lb H sa a)
  (hr:∀ i k H,i+k+1=a.length->Kp H0 H->J k H->Ans tab (.round lb [.int .i64 (i:Int),.int .u64 (a.getD i 0:Nat)]) H fun v H'=>v=.bool true/\Kp H0 H'/\J (k+1) H') :
  Ans tab (.ent aT [.loopv lb,.ptr ba 0]) H fun _ H'=>Kp H0 H'/\J a.length H':=by
 refine MU C.slices_Backward_api_Nat_uint64_f1 (by decide) fun T hl g0 g1=>?_
 obtain ⟨q1,q2⟩:=hA _ _ h0
 have hwr:IntKind.i64.wrap ((a.length:Int)-1)=(a.length:Int)-1:=by rw [wrap_i64] <;> omega
 refine zW (fW hl g0 g1 q1 q2.lenV hwr) ?_
 refine bf H0 [3] (fun m vs H'=>∃ k,k<=a.length/\m=a.length-k/\vs=[.int .i64 ((a.length:Int)-1-(k:Int))]/\J k H') a.length (by simp only [List.length_set]; exact hl) rfl zK ⟨0,Nat.zero_le _,rfl,by exact zV (cJ hl g0 g1 @In @Int.sub_zero),hup _ _ _ h0⟩ ?_
 rintro m T1 H1 hl1 hs1 hk1 ⟨k,hka,rfl,hv,hJ⟩
 simp only [List.map_cons,List.map_nil,List.cons.injEq,and_true] at hv
 have w1:=hk1.wf
 have le_hk1:=hk1.le
 obtain ⟨q1,q2⟩:=hA _ _ hJ
 by_cases hkl:k=a.length
 ·have hneg:¬ (0:Int)<=(a.length:Int)-1-(k:Int):=by omega
  subst hkl
  refine zW (aC hl1 hv hneg) ?_
  exact ⟨zK,hup _ _ _ hJ⟩
 ·obtain ⟨i,hi⟩:∃ i,i+k+1=a.length:=⟨a.length-k-1,by omega⟩
  have hz:(a.length:Int)-1-(k:Int)=(i:Int):=by omega
  rw [hz] at hv
  have hpos:(0:Int)<=(i:Int):=by omega
  have t0:ae T1 0=.loopv lb:=(hs1.at_ 0 (by decide)).trans (zV (az hl g0))
  have t1:ae T1 1=.ptr ba 0:=(hs1.at_ 1 (by decide)).trans (zV (bg hl g0 g1 g1))
  have x1:=SlV.idx1 q2 .i64 i (by omega)
  have d1:=dO q2 (i:=i) (by omega)
  have hround:∀ m,Ans tab (.round lb [.int .i64 (i:Int),.int .u64 (a.getD i 0:Nat)]) (H1.up m) fun v H'=>v=.bool true/\Kp H0 H'/\J (k+1) H':=fun m=>hr i k _ hi (hk1.up m) (hup _ _ _ hJ)
  have hwi:IntKind.i64.wrap ((i:Int)-1)=(a.length:Int)-1-((k+1:Nat):Int):=by rw [wrap_i64] <;> omega
  refine zW (mw hl1 hv hpos t0 t1 q1 x1 d1) ?_
  refine AnsH.eq (hround _) fun H2 ⟨k2,j2⟩=>?_
  refine zW (aC hl1 hv hwi) ?_
  exact ⟨zK,a.length-(k+1),by omega,k+1,by omega,rfl,rfl,hup _ _ _ j2⟩
theorem div_checked (C:Code tab) (hw:Wf H) {a b:AV} {x y:Nat} (ha:bZ H a x) (hb:bZ H b y) (hx:Sm x) (hy:Sm y) (h0:0<y) :
  Ans tab (.fn lH [a,b]) H fun v H'=>v=.int .i64 0/\Kp H H':=by
 refine ca C.div_checked (by decide) fun T hl g0 g1=>?_
 refine zW (aC hl g0 g1) ?_
 refine AnsH.eq (fH C zF (ha.mono (Sub.bump H _)) hx) fun H2 hk2=>?_
 obtain ⟨k2,_,w2⟩:=zT H zK hk2
 refine zW (aC hl g0 g1) ?_
 refine AnsH.eq (fH C zF (hb.mono k2.sub) hy) fun H3 hk3=>?_
 obtain ⟨k3,_,w3⟩:=zT H zK hk3
 have hlen:=bN y
 have hne:¬ ((ag y).length:Int)=0:=by omega
 refine zW (cJ hl g0 g1 hb.lenV hne) ?_
 exact zK
set_option maxHeartbeats 1000000 in
theorem div_Word (C:Code tab) (hw:Wf H) {a:AV} {x w:Nat} (ha:bZ H a x) (hx:Sm x) (h0:0<w) (hwB:w<18446744073709551616) :
  Ans tab (.fn qv [a,.int .u64 (w:Int)]) H fun v H'=>∃ q,v=.tup [q,.int .u64 ((x % w:Nat):Int),.int .i64 0]/\bZ H' q (x / w)/\Kp H H':=by
 refine ca C.div_Word (by decide) fun T hl g0 g1=>?_
 have hwne:¬ (w:Int)=0:=by omega
 unfold Sm at hx
 obtain ⟨N,hN⟩:∃ N,(ag x).length=N:=⟨_,rfl⟩
 have hmk:∀ H' id,E3 H' id ad 1 8 [.int .u64 0] (.int .i64 (N:Int)) (.int .i64 (N:Int))=some (.own id 0 N N 1 true,H'.put id (.cells (aI (List.replicate N 0)) ad true)):=fun H' id =>
  (iZ H' id ad 1 8 [.int .u64 0] .i64 .i64 N (by omega) (by omega) rfl).trans (by rw [kj])
 have hal:lenV a=some (.int .i64 (N:Int)):=by have:=ha.lenV; rwa [hN] at this
 refine zW (aC hl g0 g1) ?_
 refine AnsH.eq (fH C zF (ha.mono (Kp.sub (H:=H) zK)) hx) fun H2 hk2=>?_
 obtain ⟨k2,_,w2⟩:=zT H zK hk2
 have n2:=hk2.le
 have p0:H2.get H.next=some (.cells [.int .u64 (w:Int)] ad true):=hk2.get (dC)
 have p1:H2.get (H.next+1)=some (.cells [.nilSl] aE true):=hk2.get (dC)
 have p2:H2.get (H.next+2)=some (.cells [.int .u64 0] ad true):=hk2.get (dC)
 have l0:=k2.wf _ _ p0
 have l1:=k2.wf _ _ p1
 have l2:=k2.wf _ _ p2
 refine zW (kU hl g0 g1 p0 p1 p2 hwne hal hmk) ?_
 refine AnsH.use (py C zF ha.one) ?_
 rintro v H3 ⟨rfl,b1,hn3,hk3⟩
 simp only [next_put,cw] at b1 hn3 ⊢
 obtain ⟨k3,_,w3⟩:=zT H zK hk3
 have q0:H3.get H.next=some (.cells [.int .u64 (w:Int)] ad true):=hk3.get (zV p0)
 have q1:H3.get (H.next+1)=some (.cells [.own (H2.next+5) 0 N N 1 true] aE true):=hk3.get (dC)
 have q2:H3.get (H.next+2)=some (.cells [.int .u64 0] ad true):=hk3.get (zV p2)
 have qb:H3.get (H2.next+5)=some (.cells (aI (List.replicate N 0)) ad true):=hk3.get (dC)
 have hz0:∀ j,(List.replicate N 0).getD j 0=0:=fun j=>by simp [List.getD_eq_getElem?_getD,List.getElem?_replicate]; split <;> rfl
 have hxN:x / B^N=0:=Nat.div_eq_of_lt (by rw [<- hN]; exact gt x)
 refine zW (aC hl g0 g1) ?_
 refine qf (fi:=aT) (args:=[.loopv H3.next,.ptr (H2.next+9) 0]) (by refine zW (aC hl g0 g1) ?_; rfl) ?_
 generalize he:Ent.loop _ _ _ _ _ _=e0
 have k4:Kp H ((H3.up 1).put H3.next e0):=zK
 have le_k4:=k4.le
 refine (zC C (H0:=H) (a:=ag x) (sa:=a) (fun k H'=>H'.get H3.next=some e0/\H'.get H.next=some (.cells [.int .u64 (w:Int)] ad true)/\H'.get (H.next+1)=some (.cells [.own (H2.next+5) 0 N N 1 true] aE true) /\
   (∃ (out:List Nat) (r:Nat),H'.get (H2.next+5)=some (.cells (aI out) ad true)/\out.length=N/\Lim out/\H'.get (H.next+2)=some (.cells [.int .u64 (r:Int)] ad true)/\r=x / B^(N-k) % w/\val out=x / B^(N-k) / w*B^(N-k)/\∀ j,j<N-k->out.getD j 0=0) /\
   H'.get (H2.next+9)=some (.cells [a] aE true)/\Lb H' a (ag x)) (by omega) k4
  ⟨by exact dC,by exact zV q0,by exact zV q1,⟨List.replicate N 0,0,by exact zV qb,by simp,Lim.replicate N,by refine zW q2 ?_; rfl,by rw [Nat.sub_zero,hxN,Nat.zero_mod],by rw [Nat.sub_zero,hxN,Nat.zero_div,Nat.zero_mul,eH],fun j _=>hz0 j⟩,by exact zV b1,ha.mono k4.sub⟩ (fun _ _ _ h=>h) (fun k H' h=>⟨h.2.2.2.2.1,h.2.2.2.2.2⟩) ?_).mono ?_
 ·rintro i k H1 hik hk1 ⟨j0,j1,j2,⟨out,r,j3,hlen,hlim,j4,hr,hval,hz⟩,j5,-⟩
  rw [<- he] at j0
  have lt0:=hk1.wf _ _ j0
  have lt1:=hk1.wf _ _ j1
  have lt2:=hk1.wf _ _ j2
  have lt3:=hk1.wf _ _ j3
  have lt4:=hk1.wf _ _ j4
  have hrw:r<w:=by rw [hr]; exact Nat.mod_lt _ h0
  have hNk:N-k=i+1:=by omega
  have hNk1:N-(k+1)=i:=by omega
  have hiN:i<N:=by omega
  rw [hNk] at hr hval hz
  obtain ⟨y,hy⟩:∃ y,(ag x).getD i 0=y:=⟨_,rfl⟩
  have hyB:y<18446744073709551616:=by rw [<- hy]; exact (bz x).at i
  rw [hy]
  have w1:=hk1.wf
  have le_hk1:=hk1.le
  have hyd:y=x / B^i % B:=by rw [<- hy,gP]
  refine qI j0 rfl ?_
  refine zW (bg hl g0 g1 j0) ?_
  generalize he2:Ent.loop _ _ _ _ LoopState.busy none=e2
  refine aO ?_
  refine zD (mw hl g0 g1 j0 j1 j2 j3 j4) ?_
  refine AnsH.use (wW C zF hrw hyB hwB) ?_
  rintro v H4 ⟨rfl,hk4'⟩
  have k5:Kp H H4:=Kp.trans zK hk4'
  have le_k5:=k5.le
  have w4:=k5.wf
  have r0:H4.get H3.next=some e2:=hk4'.get (dC)
  have r1:H4.get H.next=some (.cells [.int .u64 (w:Int)] ad true):=hk4'.get (zV j1)
  have r2:H4.get (H.next+1)=some (.cells [.own (H2.next+5) 0 N N 1 true] aE true):=hk4'.get (zV j2)
  have r3:H4.get (H2.next+5)=some (.cells (aI out) ad true):=hk4'.get (zV j3)
  have r4:H4.get (H.next+2)=some (.cells [.int .u64 (r:Int)] ad true):=hk4'.get (zV j4)
  have r5:H4.get (H2.next+9)=some (.cells [a] aE true):=hk4'.get (zV j5)
  have lu0:=k5.wf _ _ r0
  have lu1:=k5.wf _ _ r1
  have lu2:=k5.wf _ _ r2
  have lu3:=k5.wf _ _ r3
  have lu4:=k5.wf _ _ r4
  refine zD (Ei hl g0 g1 j0 j1 j2 j3 j4 r0 r1 r2 r3 r4) ?_
  rw [uZ]
  have hX:x / B^i=x / B^(i+1)*B+y:=by
   rw [hyd,Nat.pow_succ,<- Nat.div_div_eq_div_mul,Nat.mul_comm]
   exact (Nat.div_add_mod _ _).symm
  have hX2:x / B^i=x / B^(i+1) / w*B*w+(r*B+y):=by
   rw [hX,hr]; exact Er
  have hq':(r*B+y) / w<B:=by
   apply (Nat.div_lt_iff_lt_mul h0).2
   have:(r+1)*B<=w*B:=Nat.mul_le_mul_right B hrw
   rw [Nat.add_mul] at this
   rw [Nat.mul_comm B]; unfold B at *; omega
  have hvs:=gS (l:=out) (k:=i) (v:=(r*B+y) / w) (by omega)
  rw [hz i (by omega),Nat.mul_zero,Nat.add_zero,hval] at hvs
  have k6:Kp H (((H4.put (H2.next+5) (.cells (aI (out.set i ((r*B+y) / w))) ad true)).put (H.next+2) (.cells [.int .u64 (((r*B+y) % w:Nat):Int)] ad true)).put H3.next e0):=zK
  have le_k6:=k6.le
  refine zW (kU he2 he r0 r1 r2 r3 r4 r5 hNk1) ?_
  refine ⟨zK,⟨_,_,rfl,by simp [hlen],i8 hlim hq',rfl,?_,?_,fun j hj=>?_⟩,ha.mono (Kp.sub (H:=H) zK)⟩
  ·rw [hX2,Nat.mul_add_mod_self_right]
  ·rw [hvs,hX2,Nat.add_comm (x / B^(i+1) / w*B*w),Nat.add_mul_div_right _ _ h0,Nat.pow_succ]
   grind
  ·rw [bi (by omega)]
   exact hz j (by omega)
 ·rintro _ H' ⟨hk',j0,j1,j2,⟨out,r,j3,hlen,hlim,j4,hr,hval,-⟩,-⟩
  have hlt:=hk'.wf _ _ j0
  have lt1:=hk'.wf _ _ j1
  have lt2:=hk'.wf _ _ j2
  have lt3:=hk'.wf _ _ j3
  have lt4:=hk'.wf _ _ j4
  have w5:=hk'.wf
  have le_hk':=hk'.le
  refine .inl ⟨j0,?_⟩
  refine zW (bg hl g0 g1 hN) ?_
  rw [hN,Nat.sub_self,Nat.pow_zero,Nat.div_one] at hr hval
  rw [Nat.mul_one] at hval
  refine aO ?_
  refine zD (jm hl g0 g1 j1 j2 j3 j4) ?_
  have n2':=k2.le
  have b6:((H'.up 6).kill H3.next).get (H2.next+5)=some (.cells (aI out) ad true):=by exact zV j3
  have w6:Wf (H'.up 6):=w5.bump 6
  have k6:Kp H (H'.up 6):=hk'.up 6
  have le_k6:=k6.le
  refine AnsH.eq (mZ C zF (rw':=true) hlen b6 (by omega)) fun H5 hk5=>?_
  obtain ⟨k5,_,w5⟩:=zT H zK hk5
  have r1:H5.get (H.next+1)=some (.cells [.own (H2.next+5) 0 N N 1 true] aE true):=hk5.get (zV j2)
  have r2:H5.get (H.next+2)=some (.cells [.int .u64 (r:Int)] ad true):=hk5.get (zV j4)
  have r3:H5.get (H2.next+5)=some (.cells (aI out) ad true):=hk5.get b6
  have lu1:=k5.wf _ _ r1
  have lu2:=k5.wf _ _ r2
  obtain ⟨E,hE⟩:=oX out
  rw [dI hlim,hval] at hE ⊢
  refine zD (kU hl g0 g1 j1 j2 j3 j4 r1 r2) ?_
  rw [hr]
  refine ⟨_,rfl,yR (E:=E) (rw':=true) ?_,zK⟩
  rw [<- hE]
  exact zV r3
end
theorem xB {tab:Nat->Option aq} {rd:Bool} {a rest:ACode} {l:Nat} {T:Tm} {H:Heap} {Q:Ex->Tm->Heap->Prop} (h:WC tab rd a T H (GX Q)):WC tab rd (.scopeL a l rest) T H Q:=by
 obtain ⟨x,T',H',⟨N,g⟩,hq⟩:=OQ a T H _ h.run
 refine ⟨show ∃ x T' H',IL tab rd (.scopeL a l rest) T H x T' H'/\Q x T' H' from ⟨x,T',H',⟨N,fun m n hm hn=>?_⟩,?_⟩⟩
 ·simp only [aG,g m n hm hn]
  cases x <;> first | rfl | exact hq.elim
 ·cases x <;> first | exact hq | exact hq.elim
theorem lS:∀ {l:List Nat} (_:Lim l) (j:Nat),l.getD j 0=val l / B^j % B
 | [],_,j=>by simp [val]
 | a :: t,h,0=>by
  have:=h.head
  simp only [List.getD_cons_zero,val,Nat.pow_zero,Nat.div_one,Nat.add_mul_mod_self_left]
  exact (Nat.mod_eq_of_lt this).symm
 | a :: t,h,j+1=>by
  have ih:=lS h.tail j
  have ha:=h.head
  rw [List.getD_cons_succ,ih]
  simp only [val]
  rw [Nat.pow_succ,Nat.mul_comm (B^j),<- Nat.div_div_eq_div_mul,Nat.add_mul_div_left _ _ (by decide),Nat.div_eq_of_lt ha,Nat.zero_add]
structure Dv (H:Heap) (d rb bb M n:Nat) (x1:Bool) (R L:List Nat):Prop where
 hd:H.get d=some (.cells [.own rb 0 M M 1 x1,.own bb 0 n n 1 true] eI true)
 hr:H.get rb=some (.cells (aI R) ad true)
 hb:H.get bb=some (.cells (aI L) ad true)
 lr:R.length=M
 ll:n<=L.length
 ne:rb≠bb
 limR:Lim R
 limL:Lim L
def FrX (b:Nat) (H H':Heap):Prop:=∀ c e,c≠b->H.get c=some e->H'.get c=some e
theorem FrX.trans {b:Nat} {H H' H'':Heap} (h:FrX b H H') (h':FrX b H' H''):FrX b H H'':=fun c e hc he=>h' c e hc (h c e hc he)
theorem Dv.up {H:Heap} {d rb bb M n:Nat} {x1:Bool} {R L:List Nat} (h:Dv H d rb bb M n x1 R L) (k:Nat):Dv (H.up k) d rb bb M n x1 R L:=⟨h.hd,h.hr,h.hb,h.lr,h.ll,h.ne,h.limR,h.limL⟩
theorem Dv.kp {H H':Heap} {d rb bb M n:Nat} {x1:Bool} {R L:List Nat} (h:Dv H d rb bb M n x1 R L) (hk:Kp H H'):Dv H' d rb bb M n x1 R L:=⟨hk.get h.hd,hk.get h.hr,hk.get h.hb,h.lr,h.ll,h.ne,h.limR,h.limL⟩
theorem Dv.put {H:Heap} {d rb bb M n b:Nat} {x1:Bool} {R L:List Nat} {e:Ent} (h:Dv H d rb bb M n x1 R L) (h1:d≠b) (h2:rb≠b) (h3:bb≠b):Dv (H.put b e) d rb bb M n x1 R L:=⟨by rw [au h1]; exact h.hd,by rw [au h2]; exact h.hr,by rw [au h3]; exact h.hb,h.lr,h.ll,h.ne,h.limR,h.limL⟩
theorem Dv.ndr {H:Heap} {d rb bb M n:Nat} {x1:Bool} {R L:List Nat} (h:Dv H d rb bb M n x1 R L):d≠rb:=fun e=>by
 have h1:=h.hd
 rw [e,h.hr] at h1
 injection h1 with h1; injection h1 with _ h2; exact absurd h2 (by decide)
section
variable {b V W P f sec th hi un q r N:Nat}
theorem Cr (hV:(hi*b+un)*P<=V) (hW:W<(N*b+th+1)*P) (e:q*hi+r=N) (h:r*b+th<q*un) (hV0:0<V):0<q/\W / V<=q-1:=by
 have h1:W<q*V:=by
  refine Nat.lt_of_lt_of_le hW ?_
  refine Nat.le_trans (Nat.mul_le_mul_right P ?_) (Nat.le_trans (Nat.le_of_eq (Nat.mul_assoc q (hi*b+un) P)) (Nat.mul_le_mul_left q hV))
  rw [<- e,Nat.mul_add,Nat.add_mul,<- Nat.mul_assoc]
  omega
 have h2:W / V<q:=(Nat.div_lt_iff_lt_mul hV0).2 h1
 exact ⟨Nat.lt_of_le_of_lt (Nat.zero_le _) h2,Nat.le_sub_one_of_lt h2⟩
theorem Ct (hV:(hi*b+un)*P<=V) (hW:W<(N*b+th+1)*P) (ht:th<b) (hf:0<hi) (hV0:0<V):W / V<=N / hi:=by
 apply Nat.le_of_lt_succ
 apply (Nat.div_lt_iff_lt_mul hV0).2
 have h0:=Nat.div_add_mod N hi
 have h1:=Nat.mod_lt N hf
 have h2:N+1<=(N / hi+1)*hi:=by
  rw [Nat.add_mul,Nat.one_mul,Nat.mul_comm (N / hi)]
  generalize hi*(N / hi)=t at *
  omega
 refine Nat.lt_of_lt_of_le hW ?_
 refine Nat.le_trans (Nat.mul_le_mul_right P ?_) (Nat.le_trans (Nat.le_of_eq (Nat.mul_assoc (N / hi+1) (hi*b+un) P)) (Nat.mul_le_mul_left _ hV))
 have h3:=Nat.mul_le_mul_right b h2
 rw [Nat.mul_add,<- Nat.mul_assoc]
 have h4:(N+1)*b=N*b+b:=by rw [Nat.add_mul,Nat.one_mul]
 refine Nat.le_trans ?_ (Nat.le_trans h3 (Nat.le_add_right _ _))
 rw [h4]
 exact Nat.add_le_add_left ht _
theorem Ln (hs:sec<b) (hf:f<hi) (h0:0<b):(f*b+sec) / hi<b:=by
 apply (Nat.div_lt_iff_lt_mul (by omega)).2
 have h1:(f+1)*b<=hi*b:=Nat.mul_le_mul_right b hf
 rw [Nat.add_mul,Nat.one_mul] at h1
 rw [Nat.mul_comm b]; omega
end
structure GuessH (V W P f sec th hi un:Nat):Prop where
 hV:(hi*B+un)*P<=V
 hW:W<((f*B+sec)*B+th+1)*P
 hWV:W<V*B
 hV0:0<V
structure GuessI (V W f sec hi q r:Nat):Prop where
 e:q*hi+r=f*B+sec
 ge:W / V<=q
section
variable {V W P f sec th hi un q r ov lw:Nat}
theorem GuessI.step (G:GuessH V W P f sec th hi un) (I:GuessI V W f sec hi q r) (h:r*B+th<q*un):0<q/\GuessI V W f sec hi (q-1) (r+hi):=by
 obtain ⟨h1,h2⟩:=Cr G.hV G.hW I.e h G.hV0
 refine ⟨h1,?_,h2⟩
 have h3:q*hi=(q-1)*hi+hi:=by
  obtain ⟨t,rfl⟩:∃ t,q=t+1:=⟨q-1,by omega⟩
  rw [Nat.succ_mul,Nat.add_sub_cancel]
 have:=I.e
 rw [h3] at this
 rw [<- this,Nat.add_assoc,Nat.add_comm hi]
theorem GuessI.init (G:GuessH V W P f sec th hi un) (ht:th<B) (hs:sec<B) (hf:f<hi):GuessI V W f sec hi ((f*B+sec) / hi) ((f*B+sec) % hi)/\(f*B+sec) / hi<B:=by
 refine ⟨⟨?_,Ct G.hV G.hW ht (Nat.lt_of_le_of_lt (Nat.zero_le _) hf) G.hV0⟩,Ln hs hf (by decide)⟩
 rw [Nat.mul_comm]; exact Nat.div_add_mod _ _
theorem GuessH.max (G:GuessH V W P f sec th hi un):W / V<=18446744073709551615:=by
 have h:=G.hWV
 rw [Nat.mul_comm] at h
 exact Nat.le_of_lt_succ ((Nat.div_lt_iff_lt_mul G.hV0).2 h)
theorem JD (e1:q*un / B=ov) (ht:th<B) (c:r<ov):r*B+th<q*un:=by
 have h:=Nat.div_add_mod (q*un) B
 rw [e1] at h
 rw [<- h]
 have h2:(r+1)*B<=ov*B:=Nat.mul_le_mul_right B c
 rw [Nat.add_mul,Nat.one_mul,Nat.mul_comm ov] at h2
 refine Nat.lt_of_lt_of_le (Nat.add_lt_add_left ht _) (Nat.le_trans h2 (Nat.le_add_right _ _))
theorem JE (e1:q*un / B=ov) (e2:q*un % B=lw) (c:th<lw):ov*B+th<q*un:=by
 have h:=Nat.div_add_mod (q*un) B
 rw [e1,e2] at h
 rw [<- h,Nat.mul_comm]
 exact Nat.add_lt_add_left c _
end
section
variable {tab:Nat->Option aq} {H:Heap}
set_option maxHeartbeats 1000000 in
theorem Fz (C:Code tab) (hw:Wf H) {d rb bb M m at':Nat} {x1:Bool} {R L:List Nat} (D:Dv H d rb bb M (m+2) x1 R L) (hat:at'+(m+2)<M) (hM:M<2199023255552)
  {V W P:Nat} (G:GuessH V W P (R.getD (at'+(m+2)) 0) (R.getD (at'+(m+1)) 0) (R.getD (at'+m) 0) (L.getD (m+1) 0) (L.getD m 0)) :
  Ans tab (.fn eP [.ptr d 0,.int .i64 (at':Int)]) H fun v H'=>∃ q:Nat,v=.int .u64 (q:Int)/\q<B/\W / V<=q/\Kp H H':=by
 obtain ⟨hd,hr,hb,lr,ll,ne,limR,limL⟩:=D
 refine ca C.P_div_divider_guess (by decide) fun T hl g0 g1=>?_
 obtain ⟨hi,ehi⟩:∃ hi,L.getD (m+1) 0=hi:=⟨_,rfl⟩
 obtain ⟨un,eun⟩:∃ un,L.getD m 0=un:=⟨_,rfl⟩
 obtain ⟨f,ef⟩:∃ f,R.getD (at'+(m+2)) 0=f:=⟨_,rfl⟩
 obtain ⟨sec,es⟩:∃ sec,R.getD (at'+(m+1)) 0=sec:=⟨_,rfl⟩
 obtain ⟨th,et⟩:∃ th,R.getD (at'+m) 0=th:=⟨_,rfl⟩
 have hiB:hi<B:=ehi ▸ limL.at _
 have unB:un<B:=eun ▸ limL.at _
 have fB:f<B:=ef ▸ limR.at _
 have seB:sec<B:=es ▸ limR.at _
 have thB:th<B:=et ▸ limR.at _
 rw [ehi,eun,ef,es,et] at G
 have hw1:IntKind.i64.wrap ((at':Int)+((m+2:Nat):Int))=((at'+(m+2):Nat):Int):=by rw [wrap_i64] <;> omega
 have hw2:IntKind.i64.wrap (((at'+(m+2):Nat):Int)-1)=((at'+(m+1):Nat):Int):=by rw [wrap_i64] <;> omega
 have hw3:IntKind.i64.wrap (((at'+(m+2):Nat):Int)-2)=((at'+m:Nat):Int):=by rw [wrap_i64] <;> omega
 have hw4:IntKind.i64.wrap (((m+2:Nat):Int)-1)=((m+1:Nat):Int):=by rw [wrap_i64] <;> omega
 have hw5:IntKind.i64.wrap (((m+2:Nat):Int)-2)=(m:Int):=by rw [wrap_i64] <;> omega
 refine zW (aC hl g0 g1) ?_
 refine xB ?_
 refine zW (bg hl g0 g1 hd) ?_
 refine aO ?_
 refine zD (zM hl g0 g1 hd hr hb hw1 hw2 hw4 ef es ehi) ?_
 refine iteH.split (fun h1=>?_) fun h1=>?_
 ·simp only [gM,iN,gL,jM,List.nil_append,List.cons_append]
  refine zW (aC hl g0 g1) ?_
  exact ⟨18446744073709551615,by simp,by decide,G.max,zK⟩
 ·simp only [gM,iN,gL,jM,List.nil_append,List.cons_append]
  refine zW (aC hl g0 g1) ?_
  refine AnsH.use (wW C zF (by omega) seB hiB) ?_
  rintro v H2 ⟨rfl,hk2⟩
  obtain ⟨k2,_,w2⟩:=zT H zK hk2
  have d2:=k2.get hd
  have r2:=k2.get hr
  have b2:=k2.get hb
  refine zW (aC hl g0 g1) ?_
  refine aO ?_
  refine zD (p9 hl g0 g1 d2 r2 b2 hw1 hw3 hw5 eun et) ?_
  refine xB ?_
  refine zW (aC hl g0 g1) ?_
  obtain ⟨I0,hq0⟩:=GuessI.init G thB seB (by omega)
  have hr0:(f*B+sec) % hi<B:=Nat.lt_trans (Nat.mod_lt _ (by omega)) hiB
  obtain ⟨q0,eq0⟩:∃ q0,(f*B+sec) / hi=q0:=⟨_,rfl⟩
  obtain ⟨r0,er0⟩:∃ r0,(f*B+sec) % hi=r0:=⟨_,rfl⟩
  rw [eq0] at I0 hq0
  rw [er0] at I0 hr0
  simp only [eq0,er0]
  clear eq0 er0
  refine bf H [9,10] (fun k vs H'=>∃ q r:Nat,vs=[.int .u64 (q:Int),.int .u64 (r:Int)]/\k=q/\GuessI V W f sec hi q r/\r<B/\q<B) q0 (by simp only [List.length_set]; exact hl) rfl zK ⟨_,_,by exact zV (aC hl g0 g1),rfl,I0,hr0,hq0⟩ ?_
  rintro k T1 H1 hl1 hs1 hk1 ⟨q,r,hv,hkq,I,hrB,hqB⟩
  obtain rfl:=hkq.symm
  simp only [List.map_cons,List.map_nil,List.cons.injEq,and_true] at hv
  obtain ⟨v9,v10⟩:=hv
  have w1:=hk1.wf
  have le_hk1:=hk1.le
  have u8:ae T1 8=.int .u64 (hi:Int):=(hs1.at_ 8 (by decide)).trans (zV (aC hl g0 g1))
  have u11:ae T1 11=.int .u64 (un:Int):=(hs1.at_ 11 (by decide)).trans (zV (aC hl g0 g1))
  have u12:ae T1 12=.int .u64 (th:Int):=(hs1.at_ 12 (by decide)).trans (zV (aC hl g0 g1))
  refine zW (fW hl1 v9 v10 u8 u11 u12) ?_
  refine AnsH.use (ng C zF hqB unB) ?_
  rintro v H3 ⟨rfl,hk3⟩
  obtain ⟨k3,_,w3⟩:=zT H zK hk3
  obtain ⟨ov,eov⟩:∃ ov,q*un / B=ov:=⟨_,rfl⟩
  obtain ⟨lw,elw⟩:∃ lw,q*un % B=lw:=⟨_,rfl⟩
  rw [eov,elw]
  have s1:r<ov->0<q/\GuessI V W f sec hi (q-1) (r+hi):=fun c=>I.step G (JD eov thB c)
  have s2:ov=r->th<lw->0<q/\GuessI V W f sec hi (q-1) (r+hi):=fun c c'=>I.step G (by rw [<- c]; exact JE eov elw c')
  clear eov elw
  by_cases c1:ov<r
  ·refine zW (jm hl1 v9 v10 u8 u11 u12 @c1) ?_
   exact ⟨q,rfl,hqB,I.ge,zK⟩
  ·by_cases c2:ov=r
   ·by_cases c3:lw<=th
    ·subst c2
     refine zW (mw hl1 v9 v10 u8 u11 u12 @c1 c3) ?_
     exact ⟨q,rfl,hqB,I.ge,zK⟩
    ·obtain ⟨p1,I2⟩:=s2 c2 (by omega)
     clear s1 s2
     subst c2
     have z1:=qe (a:=q) p1 hqB
     refine zW (kU hl1 v9 v10 u8 u11 u12 @c1 c3 z1) ?_
     refine AnsH.eq (Py C _ ov hi 0 hrB hiB (by omega)) fun H4 e4=>?_
     subst e4
     have ef1:(dU ov hi 0).1=(ov+hi) % B:=by simp [dU]
     have ef2:(dU ov hi 0).2=(ov+hi) / B:=by simp [dU]
     refine zW (kU hl1 v9 v10 u8 u11 u12 z1 ef1 ef2) ?_
     refine iteH.split (fun h=>?_) fun h=>?_
     ·have hlt':ov+hi<B:=by unfold B at *; omega
      refine zW (kU hl1 v9 v10 u8 u11 u12 z1 ef1 ef2) ?_
      exact ⟨zK,q-1,by omega,q-1,ov+hi,by rw [Nat.mod_eq_of_lt hlt'],rfl,I2,hlt',by omega⟩
     ·refine zW (kU hl1 v9 v10 u8 u11 u12 z1 ef1 ef2) ?_
      exact ⟨q-1,rfl,by omega,I2.ge,zK⟩
   ·obtain ⟨p1,I2⟩:=s1 (by omega)
    have z1:=qe (a:=q) p1 hqB
    refine zW (kU hl1 v9 v10 u8 u11 u12 @c1 @c2 z1) ?_
    refine AnsH.eq (Py C _ r hi 0 hrB hiB (by omega)) fun H4 e4=>?_
    subst e4
    have ef1:(dU r hi 0).1=(r+hi) % B:=by simp [dU]
    have ef2:(dU r hi 0).2=(r+hi) / B:=by simp [dU]
    refine zW (kU hl1 v9 v10 u8 u11 u12 z1 ef1 ef2) ?_
    refine iteH.split (fun h=>?_) fun h=>?_
    ·have hlt':r+hi<B:=by unfold B at *; omega
     refine zW (kU hl1 v9 v10 u8 u11 u12 z1 ef1 ef2) ?_
     exact ⟨zK,q-1,by omega,q-1,r+hi,by rw [Nat.mod_eq_of_lt hlt'],rfl,I2,hlt',by omega⟩
    ·refine zW (kU hl1 v9 v10 u8 u11 u12 z1 ef1 ef2) ?_
     exact ⟨q-1,rfl,by omega,I2.ge,zK⟩
end
theorem FrX.kp {b k:Nat} {H H1 H2:Heap} (h:FrX b H H1) (hk:Kp (H1.up k) H2):FrX b H H2:=fun c e hc he=>hk.get (h c e hc he)
theorem FrX.put {b:Nat} {e':Ent} {H H1:Heap} (h:FrX b H H1):FrX b H (H1.put b e'):=fun c e hc he=>by rw [au hc]; exact h c e hc he
theorem FrX.up {b:Nat} {H H1:Heap} (h:FrX b H H1) (k:Nat):FrX b H (H1.up k):=h
theorem FrX.up0 (b k:Nat) (H:Heap):FrX b H (H.up k):=fun _ _ _ h=>h
theorem Io {p c:Nat} (hp:p<=340282366920938463426481119284349108225) (hc:c<18446744073709551616) :
  (p / 18446744073709551616+(p % 18446744073709551616+c) / 18446744073709551616) % 18446744073709551616=(p+c) / 18446744073709551616/\(p % 18446744073709551616+c) % 18446744073709551616=(p+c) % 18446744073709551616/\(p+c) / 18446744073709551616<18446744073709551616:=by omega
theorem JC {x y:Nat} (hx:x<B) (hy:y<B):x*y<=340282366920938463426481119284349108225 :=
 Nat.le_trans (Nat.mul_le_mul (Nat.le_of_lt_succ hx) (Nat.le_of_lt_succ hy)) (by decide)
theorem DE {o w l:Nat} (ho:o<18446744073709551616) (hw:w<18446744073709551616) (hl:l<=1):o+(dm o w l).2*18446744073709551616=(dm o w l).1+w+l/\(dm o w l).1<18446744073709551616:=by
 unfold dm B
 simp only
 split <;> omega
theorem nH:∀ {l:List Nat} {m:Nat},Lim l->(∀ i,m<=i->l.getD i 0=0)->val l<B^m
 | [],m,_,_=>by simp only [val]; exact Nat.pow_pos (by decide)
 | a :: t,0,h,hz=>by
  have h0:=hz 0 (Nat.le_refl _)
  simp only [List.getD_cons_zero] at h0
  have:=nH (l:=t) (m:=0) h.tail fun i _=>by have:=hz (i+1) (Nat.zero_le _); rwa [List.getD_cons_succ] at this
  simp only [Nat.pow_zero] at this
  have h1:val t=0:=Nat.lt_one_iff.1 this
  simp only [val,h0,h1,Nat.pow_zero]
  decide
 | a :: t,m+1,h,hz=>by
  have ih:=nH (l:=t) (m:=m) h.tail fun i hi=>by have:=hz (i+1) (by omega); rwa [List.getD_cons_succ] at this
  have ha:=h.head
  simp only [val,Nat.pow_succ]
  have h2:(val t+1)*B<=B^m*B:=Nat.mul_le_mul_right B ih
  rw [Nat.add_mul,Nat.one_mul,Nat.mul_comm] at h2
  refine Nat.lt_of_lt_of_le ?_ h2
  rw [Nat.add_comm]
  exact Nat.add_lt_add_left ha _
structure TakeI (a q X j:Nat) (L out:List Nat) (c l:Nat):Prop where
 e:val out+B^a*(q*val (L.take j))=X+B^(a+j)*(c+l)
theorem GO {P A X vo vo' b c l c' l' o o' w qy:Nat} (e:vo+A=X+P*(c+l)) (hv:vo'+P*o=vo+P*o') (h1:qy+c=c'*b+w) (h2:o+l'*b=o'+w+l):vo'+(A+P*qy)=X+P*(c'*b+l'*b):=by
 have e4:=congrArg (P * ·) h1
 have e5:=congrArg (P * ·) h2
 simp only [Nat.mul_add] at e e4 e5 ⊢
 generalize P*qy=x1 at *
 generalize P*(c'*b)=x2 at *
 generalize P*(l'*b)=x3 at *
 generalize P*o=x4 at *
 generalize P*o'=x5 at *
 generalize P*w=x6 at *
 generalize P*l=x7 at *
 generalize P*c=x8 at *
 omega
theorem GP {P A X vo vo' b c l l' o o':Nat} (e:vo+A=X+P*(c+l)) (hv:vo'+P*o=vo+P*o') (h2:o+l'*b=o'+c+l):vo'+A=X+P*(l'*b):=by
 have e5:=congrArg (P * ·) h2
 simp only [Nat.mul_add] at e e5
 generalize P*(l'*b)=x3 at *
 generalize P*o=x4 at *
 generalize P*o'=x5 at *
 generalize P*l=x7 at *
 generalize P*c=x8 at *
 omega
theorem TakeI.step {a q X j c l c' l' o' w:Nat} {L out:List Nat} (I:TakeI a q X j L out c l) (hj:a+j<out.length) (h1:q*L.getD j 0+c=c'*B+w) (h2:out.getD (a+j) 0+l'*B=o'+w+l):TakeI a q X (j+1) L (out.set (a+j) o') c' l':=by
 refine ⟨?_⟩
 have hv:=gS (l:=out) (k:=a+j) (v:=o') hj
 have:=GO I.e hv h1 h2
 rw [cD,Nat.mul_add,Nat.mul_add]
 have e2:B^a*(q*(B^j*L.getD j 0))=B^(a+j)*(q*L.getD j 0):=by rw [Nat.pow_add,Nat.mul_left_comm q,Nat.mul_assoc]
 have e3:B^(a+(j+1))*(c'+l')=B^(a+j)*(c'*B+l'*B):=by rw [<- Nat.add_assoc,Nat.pow_succ,Nat.mul_assoc,Nat.mul_comm B,Nat.add_mul]
 rw [e2,e3]
 exact this
section
variable {tab:Nat->Option aq} {H:Heap}
set_option maxHeartbeats 1000000 in
theorem Id (C:Code tab) {H0:Heap} (hk:Kp H0 H) {d rb bb M n a q X:Nat} {x1:Bool} {R L:List Nat} (D:Dv H d rb bb M n x1 R L) (hrb:H0.next<=rb) (hat:a+n<M) (hM:M<2199023255552) (hq:q<18446744073709551616) (hX:val R=X) (hz:∀ i,a+n<i->R.getD i 0=0) :
  Ans tab (.fn fj [.ptr d 0,.int .u64 (q:Int),.int .i64 (a:Int)]) H fun v H'=>∃ (R':List Nat) (l:Nat),v=.bool (decide (0<l))/\l<=1/\Dv H' d rb bb M n x1 R' L/\val R'+B^a*(q*val (L.take n))=X+B^(a+n+1)*l/\(∀ i,a+n<i->R'.getD i 0=0)/\Kp H0 H'/\FrX rb H H':=by
 have ndr:=D.ndr
 obtain ⟨hd,hr,hb,lr,ll,ne,limR,limL⟩:=D
 have w0:=hk.wf
 have le_hk:=hk.le
 have hI0:TakeI a q X 0 L R 0 0:=⟨by simp [val,hX]⟩
 clear hX
 refine Qg C.P_div_divider_take (by decide) fun T hl g0 g1 g2=>?_
 refine zW (cJ hl g0 g1 g2 hd) ?_
 refine ak H0 [7,8] (fun j vs H'=>∃ (out:List Nat) (c l:Nat),vs=[.int .u64 (c:Int),.int .u64 (l:Int)]/\H'.get rb=some (.cells (aI out) ad true)/\out.length=M/\Lim out/\c<18446744073709551616/\l<=1/\TakeI a q X j L out c l/\(∀ i,a+n<i->out.getD i 0=0)/\FrX rb H H') (a:=0) (N:=n) rfl (by refine zW (bg hl g0 g1 g2) ?_; rfl) (zV (bg hl g0 g1 g2)) (Nat.zero_le _) (by omega) (by simp only [List.length_set,hl]; rfl) rfl (fun _ _ _ _ h=>h) zK
  ⟨R,0,0,by refine zW (bg hl g0 g1 g2) ?_; rfl,by exact zV hr,lr,limR,by decide,Nat.zero_le _,hI0,hz,FrX.up0 _ _ _⟩ ?_ ?_
 ·rintro j T1 H1 _ hj hl1 hi1 hs1 hk1 ⟨out,c,l,hv,b0,hlen,hlim,hc,hl',I,hz1,hfr⟩
  simp only [List.length_set,hl] at hl1
  simp only [List.map_cons,List.map_nil,List.cons.injEq,and_true] at hv
  obtain ⟨v7,v8⟩:=hv
  have w1:=hk1.wf
  have le_hk1:=hk1.le
  have d1:H1.get d=some (.cells [.own rb 0 M M 1 x1,.own bb 0 n n 1 true] eI true):=hfr _ _ ndr hd
  have b1:H1.get bb=some (.cells (aI L) ad true):=hfr _ _ (Ne.symm ne) hb
  have t0:ae T1 0=.ptr d 0:=(hs1.at_ 0 (by decide)).trans (zV (az hl g0))
  have t1:ae T1 1=.int .u64 (q:Int):=(hs1.at_ 1 (by decide)).trans (zV (cJ hl g0 g1 g2 g1))
  have t2:ae T1 2=.int .i64 (a:Int):=(hs1.at_ 2 (by decide)).trans (zV (cJ hl g0 g1 g2 g2))
  have t18:ae T1 18=.own bb 0 n n 1 true:=(hs1.at_ 18 (by decide)).trans (zV (bg hl g0 g1 g2))
  obtain ⟨y,hy⟩:∃ y,L.getD j 0=y:=⟨_,rfl⟩
  have hyB:y<18446744073709551616:=by rw [<- hy]; exact limL.at j
  obtain ⟨o,ho⟩:∃ o,out.getD (a+j) 0=o:=⟨_,rfl⟩
  have hoB:o<18446744073709551616:=by rw [<- ho]; exact hlim.at _
  refine zW (nE hl1 v7 v8 t0 t1 t2 t18 hi1 b1 hy) ?_
  refine AnsH.use (ng C zF hq hyB) ?_
  rintro v H2 ⟨rfl,hk2⟩
  obtain ⟨k2,_,w2⟩:=zT H0 zK hk2
  have hfr2:FrX rb H H2:=hfr.kp hk2
  have d2:=hfr2 _ _ ndr hd
  have r2:H2.get rb=some (.cells (aI out) ad true):=hk2.get b0
  have lt2:=k2.wf _ _ r2
  obtain ⟨q1,q2,q3⟩:=Io (JC hq hyB) hc
  have hlw:(q*y+c) % 18446744073709551616<18446744073709551616:=Nat.mod_lt _ (by decide)
  have hdm:=Nat.div_add_mod (q*y+c) 18446744073709551616
  obtain ⟨c',ec⟩:∃ c',(q*y+c) / 18446744073709551616=c':=⟨_,rfl⟩
  obtain ⟨lw,ew⟩:∃ lw,(q*y+c) % 18446744073709551616=lw:=⟨_,rfl⟩
  rw [ec] at q1 q3 hdm
  rw [ew] at q2 hlw hdm
  obtain ⟨f1,f2⟩:=DE (o:=o) (w:=lw) (l:=l) hoB hlw hl'
  have hl2:=rj o lw l
  obtain ⟨o',eo'⟩:∃ o',(dm o lw l).1=o':=⟨_,rfl⟩
  obtain ⟨l2,el2⟩:∃ l2,(dm o lw l).2=l2:=⟨_,rfl⟩
  rw [eo',el2] at f1
  rw [eo'] at f2
  rw [el2] at hl2
  have I2:TakeI a q X (j+1) L (out.set (a+j) o') c' l2:=I.step (by omega) (w:=lw) (by rw [hy,<- hdm,Nat.mul_comm]) (by rw [ho]; exact f1)
  clear hdm f1
  have hwj:IntKind.i64.wrap ((a:Int)+(j:Int))=((a+j:Nat):Int):=by rw [wrap_i64] <;> omega
  refine zW (mw hl1 v7 v8 t0 t1 t2 t18 hi1) ?_
  refine AnsH.eq (Py C _ (q*y % B) c 0 (Nat.mod_lt _ (by decide)) hc (by omega)) fun H3 e3=>?_
  subst e3
  have ef1:(dU (q*y % B) c 0).1=lw:=by simp only [dU,Nat.add_zero]; exact q2
  have ef2:(dU (q*y % B) c 0).2=(q*y % 18446744073709551616+c) / 18446744073709551616:=by simp only [dU,Nat.add_zero]
  refine zW (p9 hl1 v7 v8 t0 t1 t2 t18 hi1 ef1 ef2 q1) ?_
  clear ef1 ef2 q1 q2
  refine aO ?_
  refine zD (zM hl1 v7 v8 t0 t1 t2 t18 hi1 d2 r2 hwj ho) ?_
  refine AnsH.eq (sL C _ o lw l hoB hlw hl') fun H4 e4=>?_
  subst e4
  rw [eo',el2]
  refine zD (zM hl1 v7 v8 t0 t1 t2 t18 hi1 d2 r2 hwj ho) ?_
  refine ⟨zK,_,_,_,rfl,rfl,by simp [hlen],i8 hlim f2,q3,hl2,I2,fun i hi=>?_,(hfr2.up _).put⟩
  rw [bi (by omega)]
  exact hz1 i hi
 ·rintro T1 H1 hl1 hs1 hk1 ⟨out,c,l,hv,b0,hlen,hlim,hc,hl',I,hz1,hfr⟩
  simp only [List.length_set,hl] at hl1
  simp only [List.map_cons,List.map_nil,List.cons.injEq,and_true] at hv
  obtain ⟨v7,v8⟩:=hv
  have w1:=hk1.wf
  have le_hk1:=hk1.le
  have lt1:=hk1.wf _ _ b0
  have d1:H1.get d=some (.cells [.own rb 0 M M 1 x1,.own bb 0 n n 1 true] eI true):=hfr _ _ ndr hd
  have t0:ae T1 0=.ptr d 0:=(hs1.at_ 0 (by decide)).trans (zV (az hl g0))
  have t2:ae T1 2=.int .i64 (a:Int):=(hs1.at_ 2 (by decide)).trans (zV (cJ hl g0 g1 g2 g2))
  have hwn:IntKind.i64.wrap ((a:Int)+(n:Int))=((a+n:Nat):Int):=by rw [wrap_i64] <;> omega
  obtain ⟨o,ho⟩:∃ o,out.getD (a+n) 0=o:=⟨_,rfl⟩
  have hoB:o<18446744073709551616:=by rw [<- ho]; exact hlim.at _
  obtain ⟨f1,f2⟩:=DE (o:=o) (w:=c) (l:=l) hoB hc hl'
  have hl2:=rj o c l
  obtain ⟨o',eo'⟩:∃ o',(dm o c l).1=o':=⟨_,rfl⟩
  obtain ⟨l2,el2⟩:∃ l2,(dm o c l).2=l2:=⟨_,rfl⟩
  rw [eo',el2] at f1
  rw [eo'] at f2
  rw [el2] at hl2
  have hval:val (out.set (a+n) o')+B^a*(q*val (L.take n))=X+B^(a+n+1)*l2:=by
   have hv:=gS (l:=out) (k:=a+n) (v:=o') (by omega)
   rw [ho] at hv
   have:=GP I.e hv f1
   rw [this,Nat.pow_succ,Nat.mul_assoc,Nat.mul_comm l2]
  clear f1 I
  refine zW (jm hl1 t0 t2 v7 v8 d1 hwn) ?_
  refine aO ?_
  refine zD (kU hl1 t0 t2 v7 v8 d1 @b0 hwn ho) ?_
  refine AnsH.eq (sL C _ o c l hoB hc hl') fun H4 e4=>?_
  subst e4
  rw [eo',el2]
  refine zD (kU hl1 t0 t2 v7 v8 d1 @b0 hwn ho) ?_
  refine ⟨_,l2,rfl,hl2,⟨?_,aA _ _ _,?_,by simp [hlen],ll,ne,i8 hlim f2,limL⟩,hval,fun i hi=>?_,zK,(hfr.up _).put⟩
  ·exact zV d1
  ·rw [au (Ne.symm ne)]
   exact hfr _ _ (Ne.symm ne) hb
  ·rw [bi (by omega)]
   exact hz1 i hi
end
end Go.Proofs.YtboamamhcfhanaaGreat.Ev
