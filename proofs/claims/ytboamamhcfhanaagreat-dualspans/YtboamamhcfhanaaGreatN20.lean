/- A part. -/
import Derived.Test.YtboamamhcfhanaaGreatN6
namespace Go.Proofs.YtboamamhcfhanaaGreat.Ev
open Go Nn
set_option linter.all false
theorem DJ {o y c:Nat} (ho:o<18446744073709551616) (hy:y<18446744073709551616) (hc:c<=1):o+y+c=(dU o y c).1+(dU o y c).2*18446744073709551616/\(dU o y c).1<18446744073709551616:=by
 unfold dU B
 simp only
 omega
theorem Bk {P A X vo vo' b c c' o o' y:Nat} (e:vo+P*c=X+A) (hv:vo'+P*o=vo+P*o') (h:o+y+c=o'+c'*b):vo'+P*(c'*b)=X+(A+P*y):=by
 have e5:=congrArg (P * ·) h
 simp only [Nat.mul_add] at e e5 ⊢
 generalize P*(c'*b)=x3 at *
 generalize P*o=x4 at *
 generalize P*o'=x5 at *
 generalize P*y=x7 at *
 generalize P*c=x8 at *
 omega
structure BackI (a X j:Nat) (L out:List Nat) (c:Nat):Prop where
 e:val out+B^(a+j)*c=X+B^a*val (L.take j)
theorem BackI.step {a X j c c' o':Nat} {L out:List Nat} (I:BackI a X j L out c) (hj:a+j<out.length) (h:out.getD (a+j) 0+L.getD j 0+c=o'+c'*B):BackI a X (j+1) L (out.set (a+j) o') c':=by
 refine ⟨?_⟩
 have hv:=gS (l:=out) (k:=a+j) (v:=o') hj
 have:=Bk I.e hv h
 rw [cD,Nat.mul_add,<- Nat.mul_assoc (B^a),<- Nat.pow_add]
 have e3:B^(a+(j+1))*c'=B^(a+j)*(c'*B):=by rw [<- Nat.add_assoc,Nat.pow_succ,Nat.mul_assoc,Nat.mul_comm B]
 rw [e3]
 exact this
section
variable {tab:Nat->Option aq} {H:Heap}
set_option maxHeartbeats 1000000 in
theorem Ie (C:Code tab) {H0:Heap} (hk:Kp H0 H) {d rb bb M n a X:Nat} {x1:Bool} {R L:List Nat} (D:Dv H d rb bb M n x1 R L) (hrb:H0.next<=rb) (hat:a+n<M) (hM:M<2199023255552) (hX:val R=X) (hz:∀ i,a+n<i->R.getD i 0=0) :
  Ans tab (.fn fk [.ptr d 0,.int .i64 (a:Int)]) H fun v H'=>∃ (R':List Nat) (c:Nat),v=.bool (decide (0<c))/\c<=1/\Dv H' d rb bb M n x1 R' L/\val R'+B^(a+n+1)*c=X+B^a*val (L.take n)/\(∀ i,a+n<i->R'.getD i 0=0)/\Kp H0 H'/\FrX rb H H':=by
 have ndr:=D.ndr
 obtain ⟨hd,hr,hb,lr,ll,ne,limR,limL⟩:=D
 have w0:=hk.wf
 have le_hk:=hk.le
 have hI0:BackI a X 0 L R 0:=⟨by simp [val,hX]⟩
 clear hX
 refine ca C.P_div_divider_back (by decide) fun T hl g0 g1=>?_
 refine zW (bg hl g0 g1 hd) ?_
 refine ak H0 [5] (fun j vs H'=>∃ (out:List Nat) (c:Nat),vs=[.int .u64 (c:Int)]/\H'.get rb=some (.cells (aI out) ad true)/\out.length=M/\Lim out/\c<=1/\BackI a X j L out c/\(∀ i,a+n<i->out.getD i 0=0)/\FrX rb H H') (a:=0) (N:=n) rfl (by refine zW (aC hl g0 g1) ?_; rfl) (zV (aC hl g0 g1)) (Nat.zero_le _) (by omega) (by simp only [List.length_set,hl]; rfl) rfl (fun _ _ _ _ h=>h) zK
  ⟨R,0,by refine zW (aC hl g0 g1) ?_; rfl,by exact zV hr,lr,limR,Nat.zero_le _,hI0,hz,FrX.up0 _ _ _⟩ ?_ ?_
 ·rintro j T1 H1 _ hj hl1 hi1 hs1 hk1 ⟨out,c,hv,b0,hlen,hlim,hc,I,hz1,hfr⟩
  simp only [List.length_set,hl] at hl1
  simp only [List.map_cons,List.map_nil,List.cons.injEq,and_true] at hv
  have w1:=hk1.wf
  have le_hk1:=hk1.le
  have lt1:=hk1.wf _ _ b0
  have d1:H1.get d=some (.cells [.own rb 0 M M 1 x1,.own bb 0 n n 1 true] eI true):=hfr _ _ ndr hd
  have b1:H1.get bb=some (.cells (aI L) ad true):=hfr _ _ (Ne.symm ne) hb
  have t0:ae T1 0=.ptr d 0:=(hs1.at_ 0 (by decide)).trans (zV (az hl g0))
  have t1:ae T1 1=.int .i64 (a:Int):=(hs1.at_ 1 (by decide)).trans (zV (bg hl g0 g1 g1))
  have t12:ae T1 12=.own bb 0 n n 1 true:=(hs1.at_ 12 (by decide)).trans (zV (aC hl g0 g1))
  obtain ⟨y,hy⟩:∃ y,L.getD j 0=y:=⟨_,rfl⟩
  have hyB:y<18446744073709551616:=by rw [<- hy]; exact limL.at j
  obtain ⟨o,ho⟩:∃ o,out.getD (a+j) 0=o:=⟨_,rfl⟩
  have hoB:o<18446744073709551616:=by rw [<- ho]; exact hlim.at _
  obtain ⟨f1,f2⟩:=DJ hoB hyB hc
  have hc2:=uv o y c hoB hyB hc
  obtain ⟨o',eo'⟩:∃ o',(dU o y c).1=o':=⟨_,rfl⟩
  obtain ⟨c2,ec2⟩:∃ c2,(dU o y c).2=c2:=⟨_,rfl⟩
  rw [eo',ec2] at f1
  rw [eo'] at f2
  rw [ec2] at hc2
  have I2:BackI a X (j+1) L (out.set (a+j) o') c2:=I.step (by omega) (by rw [ho,hy]; exact f1)
  clear f1 I
  have hwj:IntKind.i64.wrap ((a:Int)+(j:Int))=((a+j:Nat):Int):=by rw [wrap_i64] <;> omega
  refine zW (mw hl1 hv t0 t1 t12 hi1 b1 hy) ?_
  refine aO ?_
  refine zD (nE hl1 hv t0 t1 t12 hi1 d1 @b0 hwj ho) ?_
  refine AnsH.eq (Py C _ o y c hoB hyB hc) fun H4 e4=>?_
  subst e4
  rw [eo',ec2]
  refine zD (nE hl1 hv t0 t1 t12 hi1 d1 @b0 hwj ho) ?_
  refine ⟨zK,_,_,rfl,rfl,by simp [hlen],i8 hlim f2,hc2,I2,fun i hi=>?_,(hfr.up _).put⟩
  rw [bi (by omega)]
  exact hz1 i hi
 ·rintro T1 H1 hl1 hs1 hk1 ⟨out,c,hv,b0,hlen,hlim,hc,I,hz1,hfr⟩
  simp only [List.length_set,hl] at hl1
  simp only [List.map_cons,List.map_nil,List.cons.injEq,and_true] at hv
  have w1:=hk1.wf
  have le_hk1:=hk1.le
  have lt1:=hk1.wf _ _ b0
  have d1:H1.get d=some (.cells [.own rb 0 M M 1 x1,.own bb 0 n n 1 true] eI true):=hfr _ _ ndr hd
  have t0:ae T1 0=.ptr d 0:=(hs1.at_ 0 (by decide)).trans (zV (az hl g0))
  have t1:ae T1 1=.int .i64 (a:Int):=(hs1.at_ 1 (by decide)).trans (zV (bg hl g0 g1 g1))
  have hwn:IntKind.i64.wrap ((a:Int)+(n:Int))=((a+n:Nat):Int):=by rw [wrap_i64] <;> omega
  obtain ⟨o,ho⟩:∃ o,out.getD (a+n) 0=o:=⟨_,rfl⟩
  have hoB:o<18446744073709551616:=by rw [<- ho]; exact hlim.at _
  obtain ⟨f1,f2⟩:=DJ (y:=0) hoB (by decide) hc
  have hc2:=uv o 0 c hoB (by decide) hc
  obtain ⟨o',eo'⟩:∃ o',(dU o 0 c).1=o':=⟨_,rfl⟩
  obtain ⟨c2,ec2⟩:∃ c2,(dU o 0 c).2=c2:=⟨_,rfl⟩
  rw [eo',ec2] at f1
  rw [eo'] at f2
  rw [ec2] at hc2
  have hval:val (out.set (a+n) o')+B^(a+n+1)*c2=X+B^a*val (L.take n):=by
   have hv:=gS (l:=out) (k:=a+n) (v:=o') (by omega)
   rw [ho] at hv
   have:=Bk I.e hv f1
   rw [Nat.pow_succ,Nat.mul_assoc,Nat.mul_comm B]
   rw [Nat.mul_zero,Nat.add_zero] at this
   exact this
  clear f1 I
  refine zW (fW hl1 t0 t1 hv d1 hwn) ?_
  refine aO ?_
  refine zD (mw hl1 t0 t1 hv d1 @b0 hwn ho) ?_
  refine AnsH.eq (Py C _ o 0 c hoB (by decide) hc) fun H4 e4=>?_
  subst e4
  rw [eo',ec2]
  refine zD (mw hl1 t0 t1 hv d1 @b0 hwn ho) ?_
  refine ⟨_,c2,rfl,hc2,⟨?_,aA _ _ _,?_,by simp [hlen],ll,ne,i8 hlim f2,limL⟩,hval,fun i hi=>?_,zK,(hfr.up _).put⟩
  ·exact zV d1
  ·rw [au (Ne.symm ne)]
   exact hfr _ _ (Ne.symm ne) hb
  ·rw [bi (by omega)]
   exact hz1 i hi
end
theorem AD {y n:Nat} (h:(ag y).length=n+1):B^n<=y:=by
 have:=uq (cZ y) (fun e=>by rw [e] at h; simp at h)
 rw [bJ,h] at this
 exact this
theorem zd {x y:Nat} (h:(ag x).length<(ag y).length):x<y:=by
 obtain ⟨n,hn⟩:∃ n,(ag y).length=n+1:=⟨(ag y).length-1,by omega⟩
 exact Nat.lt_of_lt_of_le (gt x) (Nat.le_trans (Nat.pow_le_pow_right (by decide) (by omega)) (AD hn))
theorem ze {y n:Nat} (h1:B^n<=y) (h2:y<B^(n+1)):(ag y).length=n+1:=by
 refine Nat.le_antisymm (bk h2) ?_
 apply Nat.le_of_not_lt
 intro h
 have h3:y<B^n:=Nat.lt_of_lt_of_le (gt y) (Nat.pow_le_pow_right (by decide) (by omega))
 exact absurd h1 (Nat.not_le_of_lt h3)
theorem Fb {y:Nat} (h:(ag y).length=1):y<B/\(ag y).getD 0 0=y:=by
 have h1:=gt y
 rw [h,Nat.pow_one] at h1
 refine ⟨h1,?_⟩
 rw [gP,Nat.pow_zero,Nat.div_one,Nat.mod_eq_of_lt h1]
section
variable {b y m z top P:Nat}
theorem Hv (h64:P=2^(64-z)*2^z) (h1:top*2^z<P) (hy1:top*b<=y) (hy2:y<(top+1)*b) {c:Nat} (h2:c<=top*2^z):y*2^z<P*b/\c*b<=y*2^z:=by
 have p2:0<2^z:=Nat.pow_pos (by decide)
 have ht:top+1<=2^(64-z):=by
  rw [h64] at h1
  exact Nat.lt_of_mul_lt_mul_right h1
 refine ⟨?_,?_⟩
 ·refine Nat.lt_of_lt_of_le (Nat.mul_lt_mul_of_pos_right hy2 p2) ?_
  rw [Nat.mul_right_comm]
  refine Nat.mul_le_mul_right b ?_
  rw [h64]
  exact Nat.mul_le_mul_right _ ht
 ·refine Nat.le_trans (Nat.mul_le_mul_right b h2) ?_
  rw [Nat.mul_right_comm]
  exact Nat.mul_le_mul_right _ hy1
end
theorem Cb {y m z top:Nat} (hl:(ag y).length=m+2) (ht:(ag y).getD (m+1) 0=top) (hz:z<64) (h1:top*2^z<18446744073709551616) (h2:9223372036854775808<=top*2^z) :
  y*2^z<B^(m+2)/\(ag (y*2^z)).length=m+2/\9223372036854775808*B^(m+1)<=y*2^z:=by
 have hy:=gt y
 rw [hl] at hy
 have e:y / B^(m+1)=top:=by
  rw [<- ht,gP,Nat.mod_eq_of_lt]
  apply (Nat.div_lt_iff_lt_mul (Nat.pow_pos (by decide))).2
  rw [Nat.mul_comm,<- Nat.pow_succ]; exact hy
 have hp:0<B^(m+1):=Nat.pow_pos (by decide)
 have hy1:top*B^(m+1)<=y:=by rw [<- e]; exact Nat.div_mul_le_self _ _
 have hy2:y<(top+1)*B^(m+1):=(Nat.div_lt_iff_lt_mul hp).1 (by rw [e]; exact Nat.lt_succ_self _)
 have h64:(18446744073709551616:Nat)=2^(64-z)*2^z:=by
  rw [<- Nat.pow_add,show 64-z+z=64 by omega]
 obtain ⟨q1,q2⟩:=Hv h64 h1 hy1 hy2 h2
 have e2:18446744073709551616*B^(m+1)=B^(m+2):=by rw [Nat.pow_succ B (m+1),Nat.mul_comm]
 rw [e2] at q1
 refine ⟨q1,ze ?_ q1,q2⟩
 exact Nat.le_trans (Nat.le_mul_of_pos_left _ (by decide)) q2
theorem Aa {x z V m k la:Nat} (hla:(ag x).length=la) (hz:z<64) (hV:9223372036854775808*B^(m+1)<=V) (hk:m+1+k=la):x*2^z<V*B^k:=by
 have hx:=gt x
 rw [hla] at hx
 have h1:2^z<=9223372036854775808:=Nat.le_trans (Nat.pow_le_pow_right (by decide) (show z<=63 by omega)) (by decide)
 have h2:x*2^z<B^la*9223372036854775808:=by
  refine Nat.lt_of_lt_of_le (Nat.mul_lt_mul_of_pos_right hx (Nat.pow_pos (by decide))) (Nat.mul_le_mul_left _ h1)
 refine Nat.lt_of_lt_of_le h2 ?_
 refine Nat.le_trans (Nat.le_of_eq ?_) (Nat.mul_le_mul_right _ hV)
 rw [Nat.mul_assoc,<- Nat.pow_add,hk,Nat.mul_comm]
structure DivI (X V k:Nat) (Q R:List Nat):Prop where
 eq:X=V*val Q+val R
 lt:val R<V*B^k
 zero:∀ i,i<k->Q.getD i 0=0
theorem DivI.zeros {X V k m:Nat} {Q R:List Nat} (I:DivI X V k Q R) (hV:V<B^m) (hR:Lim R):∀ i,k+m<=i->R.getD i 0=0:=fun i hi=>by
 rw [lS hR]
 have h1:val R<B^i:=by
  refine Nat.lt_of_lt_of_le I.lt (Nat.le_trans (Nat.mul_le_mul_right _ (Nat.le_of_lt hV)) ?_)
  rw [<- Nat.pow_add]
  exact Nat.pow_le_pow_right (by decide) (by omega)
 rw [Nat.div_eq_of_lt h1,Nat.zero_mod]
theorem oD (Z:Nat):Z=Z / B*B+Z % B:=by rw [Nat.mul_comm]; exact (Nat.div_add_mod Z B).symm
theorem DivI.guess {X V a m:Nat} {Q R L:List Nat} (I:DivI X V (a+1) Q R) (hV:V<B^(m+2)) (hR:Lim R) (h0:0<V) (hL:∀ i,i<m+2->L.getD i 0=V / B^i % B) :
  GuessH V (val R / B^a) (B^m) (R.getD (a+(m+2)) 0) (R.getD (a+(m+1)) 0) (R.getD (a+m) 0) (L.getD (m+1) 0) (L.getD m 0):=by
 have hp:∀ j,0<B^j:=fun j=>Nat.pow_pos (by decide)
 have hdp:∀ Y j,Y / B^(j+1)=Y / B^j / B:=fun Y j=>by rw [Nat.pow_succ,Nat.div_div_eq_div_mul]
 refine ⟨?_,?_,?_,h0⟩
 ·rw [hL _ (by omega),hL _ (by omega),hdp V m]
  have h1:V / B^m / B % B=V / B^m / B:=by
   rw [<- hdp]
   apply Nat.mod_eq_of_lt
   apply (Nat.div_lt_iff_lt_mul (hp _)).2
   rw [Nat.mul_comm,<- Nat.pow_succ]; exact hV
  rw [h1,<- oD]
  exact Nat.div_mul_le_self _ _
 ·rw [lS hR,lS hR,lS hR]
  have e1:val R / B^(a+(m+1))=val R / B^(a+m) / B:=by rw [<- Nat.add_assoc,hdp]
  have e2:val R / B^(a+(m+2))=val R / B^(a+m) / B / B:=by
   rw [show a+(m+2)=a+m+1+1 by omega,hdp,hdp]
  have e3:val R / B^(a+m) / B / B % B=val R / B^(a+m) / B / B:=by
   rw [<- e2]
   apply Nat.mod_eq_of_lt
   apply (Nat.div_lt_iff_lt_mul (hp _)).2
   refine Nat.lt_of_lt_of_le I.lt (Nat.le_trans (Nat.mul_le_mul_right _ (Nat.le_of_lt hV)) ?_)
   rw [<- Nat.pow_add,Nat.mul_comm,<- Nat.pow_succ]
   exact Nat.pow_le_pow_right (by decide) (by omega)
  rw [e2,e3,e1,<- oD,<- oD]
  have e4:val R / B^(a+m)=val R / B^a / B^m:=by rw [Nat.div_div_eq_div_mul,Nat.pow_add]
  rw [e4]
  exact (Nat.div_lt_iff_lt_mul (hp m)).1 (Nat.lt_succ_self _)
 ·apply (Nat.div_lt_iff_lt_mul (hp a)).2
  refine Nat.lt_of_lt_of_le I.lt (Nat.le_of_eq ?_)
  rw [Nat.pow_succ,Nat.mul_comm (B^a),Nat.mul_assoc]
structure SubI (XR V a n:Nat) (R:List Nat) (q l:Nat):Prop where
 e:val R+B^a*(q*V)=XR+B^(a+n+1)*l
 ge:XR / B^a / V<=q
section
variable {XR V A q vr vr' W c:Nat}
theorem Jv (e:vr+A*(q*V)=XR+W*1) (hlt:vr<W) (hV:0<V) (hA:0<A) (hb:vr'+W*c=vr+A*V) (hc:c<=1):0<q/\XR / A / V<=q-1/\vr'+A*((q-1)*V)=XR+W*(1-c):=by
 have h1:XR / A / V<q:=by
  rw [Nat.div_div_eq_div_mul]
  apply (Nat.div_lt_iff_lt_mul (Nat.mul_pos hA hV)).2
  have:q*(A*V)=A*(q*V):=by rw [Nat.mul_left_comm]
  rw [this]
  generalize A*(q*V)=t at *
  omega
 have h0:0<q:=Nat.lt_of_le_of_lt (Nat.zero_le _) h1
 refine ⟨h0,Nat.le_sub_one_of_lt h1,?_⟩
 obtain ⟨p,rfl⟩:∃ p,q=p+1:=⟨q-1,by omega⟩
 rw [Nat.add_sub_cancel]
 rw [Nat.add_mul,Nat.one_mul,Nat.mul_add] at e
 have hcc:c=0\/c=1:=by omega
 rcases hcc with rfl | rfl
 ·simp only [Nat.mul_zero,Nat.mul_one,Nat.add_zero,Nat.sub_zero] at *
  omega
 ·simp only [Nat.mul_zero,Nat.mul_one,Nat.add_zero,Nat.sub_self] at *
  omega
theorem J5 (e:vr+A*(q*V)=XR) (hge:XR / A / V<=q) (hV:0<V) (hA:0<A):vr<V*A:=by
 have h1:q<=XR / (A*V):=by
  apply (Nat.le_div_iff_mul_le (Nat.mul_pos hA hV)).2
  rw [Nat.mul_left_comm,<- e]
  exact Nat.le_add_left _ _
 rw [Nat.div_div_eq_div_mul] at hge
 have h2:=Nat.le_antisymm h1 hge
 have h3:=Nat.div_add_mod XR (A*V)
 rw [<- h2] at h3
 have h4:=Nat.mod_lt XR (Nat.mul_pos hA hV)
 have h5:A*V*q=A*(q*V):=by rw [Nat.mul_assoc,Nat.mul_comm V]
 rw [h5] at h3
 rw [Nat.mul_comm V]
 omega
end
theorem SubI.pos {XR V a n q:Nat} {R:List Nat} (I:SubI XR V a n R q 1) (hlt:val R<B^(a+n+1)):0<q:=by
 apply Nat.pos_of_ne_zero
 intro h
 have e:=I.e
 rw [h,Nat.zero_mul,Nat.mul_zero,Nat.add_zero,Nat.mul_one] at e
 rw [e] at hlt
 exact absurd hlt (Nat.not_lt_of_le (Nat.le_add_left _ _))
theorem SubI.back {XR V a n q c:Nat} {R R':List Nat} (I:SubI XR V a n R q 1) (hlt:val R<B^(a+n+1)) (hV:0<V) (hb:val R'+B^(a+n+1)*c=val R+B^a*V) (hc:c<=1):0<q/\SubI XR V a n R' (q-1) (1-c):=by
 obtain ⟨h1,h2,h3⟩:=Jv I.e hlt hV (Nat.pow_pos (by decide)) hb hc
 exact ⟨h1,h3,h2⟩
theorem DivI.next {X V a n q:Nat} {Q R R':List Nat} (I:DivI X V (a+1) Q R) (S:SubI (val R) V a n R' q 0) (hV:0<V) (ha:a<Q.length):DivI X V a (Q.set a q) R':=by
 have e:=S.e
 rw [Nat.mul_zero,Nat.add_zero] at e
 refine ⟨?_,J5 e S.ge hV (Nat.pow_pos (by decide)),fun i hi=>?_⟩
 ·have hv:=gS (l:=Q) (k:=a) (v:=q) ha
  rw [I.zero a (Nat.lt_succ_self a),Nat.mul_zero,Nat.add_zero] at hv
  rw [hv,I.eq,<- e,Nat.mul_add]
  have:V*(B^a*q)=B^a*(q*V):=by rw [Nat.mul_left_comm,Nat.mul_comm V]
  rw [this]
  omega
 ·rw [bi (by omega)]
  exact I.zero i (by omega)
theorem DivI.fin {x y P:Nat} {Q R:List Nat} (hP:0<P) (I:DivI (x*P) (y*P) 0 Q R):val Q=x / y/\val R=x % y*P:=by
 have e:=I.eq
 have l:=I.lt
 rw [Nat.pow_zero,Nat.mul_one] at l
 have hyP:0<y*P:=Nat.lt_of_le_of_lt (Nat.zero_le _) l
 have h1:x*P / (y*P)=val Q:=by
  rw [e,Nat.mul_comm (y*P),Nat.add_comm,Nat.add_mul_div_right _ _ hyP,Nat.div_eq_of_lt l,Nat.zero_add]
 have h2:x*P % (y*P)=val R:=by
  rw [e,Nat.mul_add_mod_self_left,Nat.mod_eq_of_lt l]
 rw [Nat.mul_div_mul_right _ _ hP] at h1
 rw [Nat.mul_mod_mul_right] at h2
 exact ⟨h1.symm,h2.symm⟩
def D9 (H:Heap) (id size bytes ty:Nat) (z:List AV) (x y:AV):Option (AV × Heap):=match nj y with
 | none=>none
 | some m=>if z.length=size/\m*bytes<=2^46/\m<2^62 then cE H id size bytes ty x m ((List.replicate m z).flatten) none else none
theorem I9 {tab:Nat->Option aq} (ev:Src->AV) (H:Heap) (id:Nat) (Q:AV->Heap->Prop) (size bytes ty:Nat) (z:List AV) (x y:Src) :
  jT tab ev H id (.appendZ size bytes ty z x y) Q=Pa (D9 H id size bytes ty z (ev x) (ev y)) (fun r=>Q r.1 r.2) ():=by
 rw [bU,fC tab ev H id Q (o:=.appendZ size bytes ty z x y) (fun f a e=>by cases e) rfl]; rfl
theorem Iz {H:Heap} {id b n m M:Nat} {l E:List Nat} (hb:H.get b=some (.cells (aI (l++E)) ad true)) (hn:l.length=n) (hE:E.length=m) (hM:n+m=M) (hM2:M<2199023255552) (hid:H.get id=none) (hl:Lim l) :
  ∃ rb x R H',D9 H id 1 8 ad [.int .u64 0] (.own b 0 n n 1 true) (.int .i64 (m:Int))=some (.own rb 0 M M 1 x,H')/\H'.get rb=some (.cells (aI R) ad true)/\R.length=M/\val R=val l/\Lim R/\(rb=b\/rb=id)/\H'.next=H.next/\(∀ c e,H.get c=some e->H'.get c=some e)/\(∀ H0,Kp H0 H->H0.next<=id->id<H.next->Kp H0 H'):=by
 have hlen:(aI (l++E)).length=M:=by rw [l9,List.length_append]; omega
 have hap:D9 H id 1 8 ad [.int .u64 0] (.own b 0 n n 1 true) (.int .i64 (m:Int))=if m=0 then some (.own b 0 n n 1 true,H) else some (.own id 0 (n+m) (n+m) 1 false,H.put id (.cells ((aI (l++E)).take n++aI (List.replicate m 0)) ad true)):=by
  unfold D9
  rw [eS]
  simp only
  rw [if_pos ⟨rfl,by omega,by omega⟩,kj]
  simp only [cE,hb]
  rw [if_pos ⟨trivial,by omega,by omega,trivial,by rw [hlen]; omega⟩]
  by_cases h0:m=0
  ·rw [if_pos (by omega),if_pos h0,if_pos h0]
  ·rw [if_neg (by omega),if_pos trivial,if_neg h0]
   simp
 by_cases h0:m=0
 ·have hE0:E=[]:=List.eq_nil_of_length_eq_zero (by omega)
  subst hE0
  rw [List.append_nil] at hb
  have hnM:n=M:=by omega
  subst hnM
  exact ⟨b,true,l,H,by rw [hap,if_pos h0],hb,hn,rfl,hl,.inl rfl,rfl,fun _ _ h=>h,fun _ h _ _=>h⟩
 ·have ht:(aI (l++E)).take n=aI l:=by
   unfold aI
   rw [List.map_append,List.take_left' (by simp [hn])]
  have hc:aI l++aI (List.replicate m 0)=aI (l++List.replicate m 0):=by simp [aI]
  rw [ht,hc,hM] at hap
  exact ⟨id,false,l++List.replicate m 0,_,by rw [hap,if_neg h0],aA _ _ _,by simp [hn,hM],by rw [my,eH,Nat.mul_zero,Nat.add_zero],hl.append (Lim.replicate m),.inr rfl,rfl,fun c e h=>by
   rw [au (fun e1=>by rw [e1,hid] at h; cases h)]; exact h,fun H0 hk h1 h2=>hk.put h1 h2⟩
section
variable {tab:Nat->Option aq} {H:Heap}
set_option maxHeartbeats 4000000 in
theorem div_Div (C:Code tab) (hw:Wf H) {a b:AV} {x y:Nat} (ha:bZ H a x) (hb:bZ H b y) (hx:Sm x) (hy:Sm y) (h0:0<y) :
  Ans tab (.fn rZ [a,b]) H fun v H'=>∃ q r,v=.tup [q,r,.int .i64 0]/\bZ H' q (x / y)/\bZ H' r (x % y)/\Kp H H':=by
 refine ca C.div_Div (by decide) fun T hl g0 g1=>?_
 refine zW (aC hl g0 g1) ?_
 refine AnsH.eq (div_checked C zF (ha.mono (Sub.bump H _)) (hb.mono (Sub.bump H _)) hx hy h0) fun H2 hk2=>?_
 obtain ⟨k2,_,w2⟩:=zT H zK hk2
 have n2:=k2.le
 have ha2:=ha.mono k2.sub
 have hb2:=hb.mono k2.sub
 have hx':=hx
 have hy':=hy
 unfold Sm at hx' hy'
 have hyl:=(bN y).2 (by omega)
 by_cases h1:(ag y).length=1
 ·obtain ⟨hyB,hy0⟩:=Fb h1
  have hlen:lenV b=some (.int .i64 1):=by have:=hb.lenV; rw [h1] at this; exact this
  have hix:=SlV.idx1 hb .i64 0 (by omega)
  have hld:=dO hb2 (i:=0) (by omega)
  rw [hy0] at hld
  have hix':Ox 1 b (.int .i64 0)=some (al b 0):=hix
  refine zW (fW hl g0 g1 hlen hix' hld) ?_
  refine AnsH.use (div_Word C zF (ha2.mono (Sub.bump H2 _)) hx h0 hyB) ?_
  rintro v H3 ⟨q,rfl,hq,hk3⟩
  obtain ⟨k3,_,w3⟩:=zT H zK hk3
  refine zW (aC hl g0 g1) ?_
  refine AnsH.use (nat_Of C zF (Nat.lt_trans (Nat.mod_lt x h0) hyB)) ?_
  rintro v H4 ⟨h4,-,hk4⟩
  obtain ⟨k4,_,_⟩:=zT H zK hk4
  refine zW (aC hl g0 g1) ?_
  exact ⟨q,v,rfl,hq.mono (Kp.sub (H:=H3) (Kp.trans zK hk4)),h4,zK⟩
 ·obtain ⟨m,hm⟩:∃ m,(ag y).length=m+2:=⟨(ag y).length-2,by omega⟩
  have hne1:¬ ((m+2:Nat):Int)=1:=by omega
  have hbl:lenV b=some (.int .i64 ((m+2:Nat):Int)):=by have:=hb.lenV; rwa [hm] at this
  obtain ⟨la,hla⟩:∃ la,(ag x).length=la:=⟨_,rfl⟩
  have hal:lenV a=some (.int .i64 (la:Int)):=by have:=ha.lenV; rwa [hla] at this
  refine zW (fW hl g0 g1 hbl hal hne1) ?_
  refine iteH.split (fun h2=>?_) fun h2=>?_
  ·have hlt:x<y:=zd (by omega)
   refine zW (aC hl g0 g1) ?_
   refine AnsH.use (iL C zF (ha2.mono (Sub.bump H2 _)) (by omega)) ?_
   rintro v H3 ⟨h3,hk3⟩
   obtain ⟨k3,_,_⟩:=zT H zK hk3
   refine zW (aC hl g0 g1) ?_
   rw [Nat.div_eq_of_lt hlt,Nat.mod_eq_of_lt hlt]
   exact ⟨.nilSl,v,rfl,dQ _,h3,zK⟩
  ·obtain ⟨top,etop⟩:∃ top,(ag y).getD (m+1) 0=top:=⟨_,rfl⟩
   have htopB:top<18446744073709551616:=by rw [<- etop]; exact (bz y).at _
   have htop0:0<top:=by
    rw [<- etop,gP]
    have h3:=AD (y:=y) (n:=m+1) (by rw [hm])
    have h4:=gt y
    rw [hm] at h4
    have h5:y / B^(m+1)<B:=by
     apply (Nat.div_lt_iff_lt_mul (Nat.pow_pos (by decide))).2
     rw [Nat.mul_comm,<- Nat.pow_succ]; exact h4
    rw [Nat.mod_eq_of_lt h5]
    exact Nat.div_pos h3 (Nat.pow_pos (by decide))
   have hix:=SlV.idx1 hb .i64 (m+1) (by omega)
   have hld:=dO hb2 (i:=m+1) (by omega)
   rw [etop] at hld
   have hw1:IntKind.i64.wrap (((m+2:Nat):Int)-1)=((m+1:Nat):Int):=by rw [wrap_i64] <;> omega
   refine zW (jm hl g0 g1 hbl hw1 hix hld) ?_
   refine AnsH.use (yp C zF htop0 htopB) ?_
   rintro v H3 ⟨⟨z,rfl,hz,hz1,hz2⟩,hk3⟩
   obtain ⟨k3,_,w3⟩:=zT H zK hk3
   obtain ⟨hVB,hVl,hV63⟩:=Cb hm etop hz hz1 hz2
   have hX0:=Aa (k:=la-(m+1)) hla hz hV63 (by omega)
   refine zW (aC hl g0 g1) ?_
   refine AnsH.use (nat_Up C zF (ha.mono (Kp.sub (H:=H) zK)) hx (by omega)) ?_
   rintro v H4 ⟨o1,rfl,hn1,hk4,b1,E1,rfl,hb1,hge1,hlen1,-⟩
   obtain ⟨k4,_,w4⟩:=zT H zK hk4
   refine zW (aC hl g0 g1) ?_
   refine AnsH.use (nat_Up C zF (hb.mono (Kp.sub (H:=H) zK)) hy (by omega)) ?_
   rintro v H5 ⟨o2,rfl,hn2,hk5,b2,E2,rfl,hb2',hge2,-,hlim2⟩
   obtain ⟨k5,_,w5⟩:=zT H zK hk5
   obtain ⟨V,eV⟩:∃ V,y*2^z=V:=⟨_,rfl⟩
   obtain ⟨X,eX⟩:∃ X,x*2^z=X:=⟨_,rfl⟩
   rw [eV] at hVB hVl hV63 hX0 hn2 hb2' hlim2
   rw [eX] at hX0 hn1 hb1 hlen1
   rw [eX,eV,hVl]
   have hz64:z / 64=0:=Nat.div_eq_of_lt hz
   obtain ⟨n1,en1⟩:∃ n1,(ag X).length=n1:=⟨_,rfl⟩
   rw [hla,hz64,List.length_append,en1] at hlen1
   rw [en1]
   have c1:=hk5.get hb1
   have hwa:IntKind.i64.wrap ((la:Int)+1)=((la+1:Nat):Int):=by rw [wrap_i64] <;> omega
   have hwb:IntKind.i64.wrap (((la+1:Nat):Int)-(n1:Int))=((E1.length:Nat):Int):=by rw [wrap_i64] <;> omega
   obtain ⟨Nq,eNq⟩:∃ Nq,la-(m+2)+1=Nq:=⟨_,rfl⟩
   have hwc:IntKind.i64.wrap ((la:Int)-((m+2:Nat):Int))=((la-(m+2):Nat):Int):=by rw [wrap_i64] <;> omega
   have hwd:IntKind.i64.wrap (((la-(m+2):Nat):Int)+1)=(Nq:Int):=by rw [wrap_i64] <;> omega
   have hmk:∀ H' id,E3 H' id ad 1 8 [.int .u64 0] (.int .i64 (Nq:Int)) (.int .i64 (Nq:Int))=some (.own id 0 Nq Nq 1 true,H'.put id (.cells (aI (List.replicate Nq 0)) ad true)):=fun H' id =>
    (iZ H' id ad 1 8 [.int .u64 0] .i64 .i64 Nq (by omega) (by omega) rfl).trans (by rw [kj])
   obtain ⟨k5,_,_⟩:=zT H zK hk5
   obtain ⟨rb,x1,R,H6,e6,hR,lR,vR,limR,hrb,hn6,hs6,hk6⟩:=Iz (H:=H5.up 12) (id:=H5.next+7) (b:=b1) (E:=E1) (m:=E1.length) (M:=la+1) (l:=ag X) (n:=n1) c1 en1 rfl (by omega) (by omega) (w5.fresh (b:=H5.next+7) (by omega)) (bz X)
   have k6:Kp H H6:=hk6 H (k5.up 12) (by have:=k5.le; omega) (by show _<H5.next+12; omega)
   have le_k6:=k6.le
   have w6:=k6.wf
   have hn6':H6.next=H5.next+12:=hn6
   have c2:H6.get b2=some (.cells (aI (ag V++E2)) ad true):=hs6 _ _ hb2'
   have lt1:=k4.wf _ _ hb1
   have lt2:=k5.wf _ _ hb2'
   have lt5:=k5.le
   have lt4:H4.next<=b2:=Nat.le_trans (Nat.le_add_right _ _) hge2
   have hne:rb≠b2:=by
    rcases hrb with h | h <;> omega
   have hrbH:H.next<=rb:=by
    have q1:H3.next<=b1:=Nat.le_trans (Nat.le_add_right _ _) hge1
    have q2:=k3.le
    rcases hrb with h | h <;> omega
   have ltr:=k6.wf _ _ hR
   simp -dsimp (maxSteps:=1000000) (disch:=(first | omega | assumption | exact aF _ | exact aR _ _ | exact aV | exact bB _ _ _ | exact aY _ _ | exact aU _ _ _ _ _ _ | exact bI _ _ | exact bc _)) only [↓nD,nC,Nat.reduceLT,Nat.reduceEqDiff,Nat.reduceAdd,reduceIte,reduceCtorEq,Nat.reduceBEq,Int.reduceEq,Int.reduceLT,Int.reduceLE,Int.reduceAdd,Int.reduceSub,hl,g0,g1,hal,hbl,hwa,hwb,↓I9,e6,hwc,hwd,hmk]
   obtain ⟨d,ed⟩:∃ d,H5.next+10=d:=⟨_,rfl⟩
   obtain ⟨qb,eq⟩:∃ qb,H6.next+6=qb:=⟨_,rfl⟩
   simp only [ed,eq]
   have D0:Dv (((H6.up 12).put d (.cells [.own rb 0 (la+1) (la+1) 1 x1,.own b2 0 (m+2) (m+2) 1 true] eI true)).put qb (.cells (aI (List.replicate Nq 0)) ad true)) d rb b2 (la+1) (m+2) x1 R (ag V++E2):=by
    have z1:d≠rb:=by rcases hrb with h | h <;> omega
    refine ⟨?_,?_,?_,lR,by rw [List.length_append,hVl]; omega,hne,limR,?_⟩
    ·exact dC
    ·exact zV hR
    ·exact zV @c2
    ·exact hlim2
   obtain ⟨L,eL⟩:∃ L,ag V++E2=L:=⟨_,rfl⟩
   have hLd:∀ i,i<m+2->L.getD i 0=V / B^i % B:=fun i hi=>by
    rw [<- eL,List.getD_eq_getElem?_getD,List.getElem?_append_left (by omega),<- List.getD_eq_getElem?_getD,gP]
   have hLt:val (L.take (m+2))=V:=by
    rw [<- eL,List.take_left' hVl,bJ]
   rw [eL] at D0
   have hV0:0<V:=Nat.lt_of_lt_of_le (Nat.mul_pos (by decide) (Nat.pow_pos (by decide))) hV63
   have hI0:DivI X V Nq (List.replicate Nq 0) R:=⟨by rw [eH,Nat.mul_zero,Nat.zero_add,vR,bJ],by
    rw [vR,bJ]
    have:la-(m+1)=Nq:=by omega
    rw [this] at hX0; exact hX0,fun i _=>by simp [List.getD_eq_getElem?_getD,List.getElem?_replicate]; split <;> rfl⟩
   have hdq:d≠qb:=by omega
   have hrq:rb≠qb:=by omega
   have hbq:b2≠qb:=by omega
   have hqbH:H.next<=qb:=by omega
   clear hz1 hz2 hV63 hX0 hwa hwb hwc hwd
   refine jK H [16] (fun k vs H'=>vs=[.int .i64 ((k:Int)-1)]/\k<=Nq/\∃ (Q R:List Nat),H'.get qb=some (.cells (aI Q) ad true)/\Q.length=Nq/\Lim Q/\Dv H' d rb b2 (la+1) (m+2) x1 R L/\DivI X V k Q R)
    (fun vs H'=>∃ (Q R:List Nat),H'.get qb=some (.cells (aI Q) ad true)/\Q.length=Nq/\Lim Q/\Dv H' d rb b2 (la+1) (m+2) x1 R L/\DivI X V 0 Q R) Nq (by simp only [List.length_set]; exact hl) rfl zK ⟨?_,Nat.le_refl _,_,R,aA _ _ _,by simp,Lim.replicate Nq,D0,hI0⟩ ?_ ?_
   ·have hwq:IntKind.i64.wrap ((Nq:Int)-1)=(Nq:Int)-1:=by rw [wrap_i64] <;> omega
    exact zV (bg hl g0 g1 hwq)
   ·rintro k T1 H1' hl1 hs1 hk1 ⟨hv,hkN,Q,R,hQ,lQ,limQ,D,I⟩
    simp only [List.map_cons,List.map_nil,List.cons.injEq,and_true] at hv
    have w1:=hk1.wf
    have le_hk1:=hk1.le
    have t4:ae T1 4=.own qb 0 Nq Nq 1 true:=(hs1.at_ 4 (by decide)).trans (zV (aC hl g0 g1))
    have t15:ae T1 15=.ptr d 0:=(hs1.at_ 15 (by decide)).trans (zV (aC hl g0 g1))
    cases k with
    | zero =>
     have hneg:¬ (0:Int)<=((0:Nat):Int)-1:=by omega
     refine zW (aC hl1 hv hneg) ?_
     exact ⟨zK,Q,R,hQ,lQ,limQ,D.up _,I⟩
    | succ a =>
     have hz:((a+1:Nat):Int)-1=(a:Int):=by omega
     rw [hz] at hv
     have hpos:(0:Int)<=(a:Int):=by omega
     have hat:a+(m+2)<la+1:=by omega
     refine zW (bg hl1 hv hpos t15) ?_
     refine AnsH.use (Fz C zF (D.up _) hat (by omega) (I.guess hVB D.limR hV0 hLd)) ?_
     rintro v H2' ⟨q,rfl,hqB,hge,hk2'⟩
     have k2':Kp H H2':=Kp.trans zK hk2'
     have w2':=k2'.wf
     have D2:=(D.up 6).kp hk2'
     have hQ2:H2'.get qb=some (.cells (aI Q) ad true):=hk2'.get hQ
     have hzR:=I.zeros hVB D.limR
     refine zW (aC hl1 hv t15) ?_
     refine AnsH.use (Id C (H0:=H) zK (D2.up _) hrbH hat (by omega) hqB rfl (fun i hi=>hzR i (by omega))) ?_
     rintro v H3' ⟨R1,l1,rfl,hl1',D3,hv3,hz3,k3',hfr3⟩
     rw [hLt] at hv3
     have w3':=k3'.wf
     have hQ3:H3'.get qb=some (.cells (aI Q) ad true):=hfr3 _ _ (Ne.symm hrq) hQ2
     have S3:SubI (val R) V a (m+2) R1 q l1:=⟨hv3,hge⟩
     clear hv3 hge
     refine zW (aC hl1 hv t15) ?_
     refine jK H [17,18] (fun k vs H'=>∃ (q l:Nat) (R':List Nat),vs=[.int .u64 (q:Int),.bool (decide (0<l))]/\k=q/\l<=1/\q<B/\H'.get qb=some (.cells (aI Q) ad true)/\Dv H' d rb b2 (la+1) (m+2) x1 R' L/\SubI (val R) V a (m+2) R' q l/\∀ i,a+(m+2)<i->R'.getD i 0=0)
      (fun vs H'=>∃ (q:Nat) (bb:AV) (R':List Nat),vs=[.int .u64 (q:Int),bb]/\q<B/\H'.get qb=some (.cells (aI Q) ad true)/\Dv H' d rb b2 (la+1) (m+2) x1 R' L/\SubI (val R) V a (m+2) R' q 0) q (by simp only [List.length_set]; exact hl1) rfl zK ⟨q,l1,R1,by exact zV hl1,rfl,hl1',hqB,hQ3,D3,S3,hz3⟩ ?_ ?_
     ·rintro k T2 H4' hl2 hs2 hk4' ⟨q,l,R',hv',hkq,hl',hqB,hQ4,D4,S4,hz4⟩
      obtain rfl:=hkq.symm
      simp only [List.map_cons,List.map_nil,List.cons.injEq,and_true] at hv'
      obtain ⟨v17,v18⟩:=hv'
      have w4':=hk4'.wf
      have le_hk4':=hk4'.le
      have u15:ae T2 15=.ptr d 0:=(hs2.at_ 15 (by decide)).trans (zV (az hl1 t15))
      have u16:ae T2 16=.int .i64 (a:Int):=(hs2.at_ 16 (by decide)).trans (zV (az hl1 hv))
      rcases (show l=0\/l=1 by omega) with rfl | rfl
      ·have e0:decide (0<0)=false:=rfl
       refine zW (bg hl2 v17 v18 e0) ?_
       exact ⟨zK,q,_,R',rfl,hqB,hQ4,D4.up _,S4⟩
      ·have e1:decide (0<1)=true:=rfl
       have hlt:=nH (m:=a+(m+2)+1) D4.limR (fun i hi=>hz4 i (by omega))
       have hq0:=S4.pos hlt
       have z1:=qe (a:=q) hq0 hqB
       refine zW (jm hl2 v17 v18 e1 u15 u16 z1) ?_
       refine AnsH.use (Ie C (H0:=H) zK (D4.up _) hrbH hat (by omega) rfl hz4) ?_
       rintro v H5' ⟨R2,c,rfl,hc,D5,hv5,hz5,k5',hfr5⟩
       rw [hLt] at hv5
       have w5':=k5'.wf
       have hQ5:H5'.get qb=some (.cells (aI Q) ad true):=hfr5 _ _ (Ne.symm hrq) hQ4
       obtain ⟨-,S5⟩:=S4.back hlt hV0 hv5 hc
       clear hv5
       have ec:(!decide (0<c))=decide (0<1-c):=by
        rcases (show c=0\/c=1 by omega) with rfl | rfl <;> rfl
       refine zW (bg hl2 v17 v18 ec) ?_
       exact ⟨zK,q-1,by omega,q-1,1-c,R2,rfl,rfl,by omega,by omega,hQ5,D5,S5,hz5⟩
     ·rintro T2 H4' hl2 hs2 hk4' ⟨q,bb,R',hv',hqB,hQ4,D4,S4⟩
      simp only [List.map_cons,List.map_nil,List.cons.injEq,and_true] at hv'
      obtain ⟨v17,-⟩:=hv'
      have w4':=hk4'.wf
      have le_hk4':=hk4'.le
      have u4:ae T2 4=.own qb 0 Nq Nq 1 true:=(hs2.at_ 4 (by decide)).trans (zV (az hl1 t4))
      have u16:ae T2 16=.int .i64 (a:Int):=(hs2.at_ 16 (by decide)).trans (zV (az hl1 hv))
      have hwa1:IntKind.i64.wrap ((a:Int)-1)=(a:Int)-1:=by rw [wrap_i64] <;> omega
      have ltq:=hk4'.wf _ _ hQ4
      have I2:=I.next S4 hV0 (by omega)
      refine zW (fW hl2 u4 u16 v17 hQ4 hwa1) ?_
      exact ⟨zK,a,by omega,rfl,by omega,_,R',rfl,by simp [lQ],i8 limQ hqB,(D4.up _).put hdq hrq hbq,I2⟩
   ·rintro T1 H1' hl1 hs1 hk1 ⟨Q,R',hQ,lQ,limQ,D,I⟩
    have w1:=hk1.wf
    have le_hk1:=hk1.le
    have t4:ae T1 4=.own qb 0 Nq Nq 1 true:=(hs1.at_ 4 (by decide)).trans (zV (aC hl g0 g1))
    have t15:ae T1 15=.ptr d 0:=(hs1.at_ 15 (by decide)).trans (zV (aC hl g0 g1))
    have t10:ae T1 10=.int .i64 (z:Int):=(hs1.at_ 10 (by decide)).trans (zV (aC hl g0 g1))
    have hlen:(ag (val R')).length<=m+2:=by
     have h:=I.lt
     rw [Nat.pow_zero,Nat.mul_one] at h
     have:=vM (Nat.le_of_lt h)
     rwa [hVl] at this
    have p2z:0<2^z:=Nat.pow_pos (by decide)
    rw [<- eX,<- eV] at I
    obtain ⟨f1,f2⟩:=I.fin p2z
    have hd1:=D.hd
    refine zW (aC hl1 t15 hd1) ?_
    refine AnsH.eq (mZ C zF (rw':=true) D.lr D.hr (by omega)) fun H2' hk2'=>?_
    have k2':Kp H H2':=Kp.trans zK hk2'
    have w2':=k2'.wf
    have hr2:H2'.get rb=some (.cells (aI R') ad true):=hk2'.get D.hr
    have hq2:H2'.get qb=some (.cells (aI Q) ad true):=hk2'.get hQ
    obtain ⟨E,hE⟩:=oX R'
    rw [dI D.limR] at hE ⊢
    have hn:bZ H2' (.own rb 0 (ag (val R')).length (ag (val R')).length 1 true) (val R'):=yR (rw':=true) (E:=E) (by rw [<- hE]; exact hr2)
    refine zW (az hl1 t10) ?_
    refine AnsH.use (nat_Down C zF hn (by unfold Sm; omega) (by omega)) ?_
    rintro v H3' ⟨o,rfl,ho,hk3'⟩
    have k3':Kp H H3':=Kp.trans zK hk3'
    have w3':=k3'.wf
    have hq3:H3'.get qb=some (.cells (aI Q) ad true):=hk3'.get hq2
    rw [f2,Nat.mul_div_cancel _ p2z] at ho
    refine zW (az hl1 t4) ?_
    refine AnsH.eq (mZ C zF (rw':=true) lQ hq3 (by omega)) fun H4' hk4'=>?_
    have k4':Kp H H4':=Kp.trans zK hk4'
    obtain ⟨E',hE'⟩:=oX Q
    rw [dI limQ,f1] at hE' ⊢
    refine zW hl1 ?_
    refine ⟨_,o,rfl,yR (rw':=true) (E:=E') ?_,ho.mono (Kp.sub (H:=H3') (Kp.trans zK hk4')),zK⟩
    rw [<- hE']
    exact hk4'.get hq3
end
section
variable {tab:Nat->Option aq} {H:Heap}
theorem Jr {x y:Int} (h:y≠0):(if (decide ((x<0)≠(y<0)))=true then -((x.natAbs / y.natAbs:Nat):Int) else ((x.natAbs / y.natAbs:Nat):Int))=x.tdiv y:=by
 have key:∀ z:Int,z<0->∃ n:Nat,z = -(n:Int):=fun z hz=>⟨z.natAbs,by omega⟩
 rcases Int.lt_or_le x 0 with h1 | h1 <;> rcases Int.lt_or_le y 0 with h2 | h2
 ·have e:decide ((x<0)≠(y<0))=false:=by simp [h1,h2]
  obtain ⟨n,rfl⟩:=key x h1
  obtain ⟨m,rfl⟩:=key y h2
  rw [e]
  simp [Int.neg_tdiv,Int.tdiv_neg,Int.ofNat_tdiv]
 ·have e:decide ((x<0)≠(y<0))=true:=by simp [h1]; omega
  obtain ⟨n,rfl⟩:=key x h1
  obtain ⟨m,rfl⟩:=Int.eq_ofNat_of_zero_le h2
  rw [e]
  simp [Int.neg_tdiv,Int.ofNat_tdiv]
 ·have e:decide ((x<0)≠(y<0))=true:=by simp [h2]; omega
  obtain ⟨n,rfl⟩:=Int.eq_ofNat_of_zero_le h1
  obtain ⟨m,rfl⟩:=key y h2
  rw [e]
  simp [Int.tdiv_neg,Int.ofNat_tdiv]
 ·have e:decide ((x<0)≠(y<0))=false:=by
   have:¬ x<0:=by omega
   have:¬ y<0:=by omega
   simp [*]
  obtain ⟨n,rfl⟩:=Int.eq_ofNat_of_zero_le h1
  obtain ⟨m,rfl⟩:=Int.eq_ofNat_of_zero_le h2
  rw [e]
  simp [Int.ofNat_tdiv]
theorem JA (n:Nat):decide (0<(ag n).length)=decide (n≠0):=by
 have:=bN n
 congr 1
 simp only [eq_iff_iff]
 omega
def Lj (a b c d:Option AV):Option AV:=a.bind fun a=>b.bind fun b=>c.bind fun c=>d.bind fun d=>some (.tup [a,b,c,d])
theorem Eu (a b c d:AV):Lj (some a) (some b) (some c) (some d)=some (.tup [a,b,c,d]):=rfl
theorem Jx (T:Tm) (H:Heap) (r s t u:Nat) (k l m n:Option (Option Nat)):bW T H [(r,k),(s,l),(t,m),(u,n)]=Lj (qV H (ae T r) k) (qV H (ae T s) l) (qV H (ae T t) m) (qV H (ae T u) n):=by
 show (List.mapM (lY T H) [(r,k),(s,l),(t,m),(u,n)]).bind _=_
 rw [<- iX T H (r,k),<- iX T H (s,l),<- iX T H (t,m),<- iX T H (u,n)]
 simp only [List.mapM_cons,List.mapM_nil,Lj]
 cases lY T H (r,k) <;> cases lY T H (s,l) <;> cases lY T H (t,m) <;> cases lY T H (u,n) <;> rfl
theorem LH (x y:Int):(!(decide (x<0) == decide (y<0)))=decide ((x<0)≠(y<0)):=by
 by_cases h1:x<0 <;> by_cases h2:y<0 <;> simp [h1,h2]
theorem whole_quotient (C:Code tab) (hw:Wf H) {a b:AV} {x y:Int} (ha:IntV H a x) (hb:IntV H b y) (hx:OV x) (hy:OV y) (h0:y≠0) :
  Ans tab (.fn iP [a,b]) H fun v H'=>∃ q,v=.tup [q,.bool (decide (x.natAbs % y.natAbs≠0)),.bool (decide ((x<0)≠(y<0))),.int .i64 0]/\IntV H' q (x.tdiv y)/\Kp H H':=by
 obtain ⟨p,rfl,hp⟩:=ha
 obtain ⟨q,rfl,hq⟩:=hb
 have op:=hp.one
 have oq:=hq.one
 refine ca C.whole_quotient (by decide) fun T hl g0 g1=>?_
 refine zW (aC hl g0 g1) ?_
 refine AnsH.eq (fD C zF (Dq (x:=x) (y:=y) (H:=H) hp hq (Kp.sub (H:=H) zK) (by refine qN ?_; rfl)) (by simp) fun z hz=>?_) fun H2 hk2=>?_
 ·simp at hz; rcases hz with rfl | rfl <;> assumption
 obtain ⟨k2,_,w2⟩:=zT H zK hk2
 have b0:=hk2.get (b:=H.next) (e:=.cells [.bool (decide (x<0)),p] aa true) (dC)
 have b1:=hk2.get (b:=H.next+1) (e:=.cells [.bool (decide (y<0)),q] aa true) (dC)
 have b2:=hk2.get (b:=H.next+2) (e:=.cells [.bool false,.nilSl] aa true) (dC)
 refine zW (cJ hl g0 g1 @b0 b1) ?_
 refine AnsH.use (div_Div C zF (hp.mono (Kp.sub (H:=H) zK)) (hq.mono (Kp.sub (H:=H) zK)) hx hy (by omega)) ?_
 rintro v H3 ⟨o,r,rfl,ho,hr,hk3⟩
 obtain ⟨k3,_,w3⟩:=zT H zK hk3
 have c0:=hk3.get (b:=H.next) b0
 have c1:=hk3.get (b:=H.next+1) b1
 have c2:=hk3.get (b:=H.next+2) b2
 obtain ⟨nb,hnb⟩:∃ nb,nb=decide ((x<0)≠(y<0)):=⟨_,rfl⟩
 obtain ⟨rb,hrb⟩:∃ rb,rb=decide (x.natAbs % y.natAbs≠0):=⟨_,rfl⟩
 obtain ⟨Qn,hQn⟩:∃ n,n=x.natAbs / y.natAbs:=⟨_,rfl⟩
 obtain ⟨Rn,hRn⟩:∃ n,n=x.natAbs % y.natAbs:=⟨_,rfl⟩
 have hne:=LH x y
 rw [<- hnb] at hne
 rw [<- hQn] at ho
 rw [<- hRn] at hr
 have hlr:=JA Rn
 have hte:=Jr (x:=x) h0
 rw [<- hnb,<- hQn] at hte
 rw [<- hRn] at hrb
 rw [<- hrb] at hlr
 rw [<- hRn,<- hrb,<- hnb]
 refine zW (fW hl g0 g1 c0 @c1 hne) ?_
 refine AnsH.use (whole_made C zF (ho.mono (Kp.sub (H:=H3) zK)) _) ?_
 rintro v4 H4 ⟨rfl,hk4⟩
 obtain ⟨k4,_,_⟩:=zT H zK hk4
 have o3:=ho.one
 have d2:=hk4.get (b:=H.next+2) c2
 have lt2:=k4.wf _ _ d2
 have hr4:=hr.mono hk4.sub
 refine zW (mw hl g0 g1 d2 hr4.lenV hlr @Jx @Eu) ?_
 refine ⟨_,rfl,?_,zK⟩
 rw [<- hte]
 exact l8 _ ((ho.mono hk4.sub).monoT (SubT.put_ty d2 (by decide)))
end
section
variable {tab:Nat->Option aq} {H:Heap}
theorem Nm (a b c d:AV) (l:List AV):AP 3 (.tup (a :: b :: c :: d :: l))=some d:=rfl
theorem whole_Exact (C:Code tab) (hw:Wf H) {a b:AV} {x y:Int} (ha:IntV H a x) (hb:IntV H b y) (hx:OV x) (hy:OV y) (h0:y≠0) (hd:x.natAbs % y.natAbs=0) :
  Ans tab (.fn kY [a,b]) H fun v H'=>∃ q,v=.tup [q,.int .i64 0]/\IntV H' q (x.tdiv y)/\Kp H H':=by
 obtain ⟨p,rfl,hp⟩:=ha
 obtain ⟨q,rfl,hq⟩:=hb
 have op:=hp.one
 have oq:=hq.one
 refine ca C.whole_Exact (by decide) fun T hl g0 g1=>?_
 refine zW (aC hl g0 g1) ?_
 refine AnsH.use (whole_quotient C zF ⟨p,rfl,hp.mono (Kp.sub (H:=H) zK)⟩ ⟨q,rfl,hq.mono (Kp.sub (H:=H) zK)⟩ hx hy h0) ?_
 rintro v H3 ⟨w,rfl,⟨r,rfl,hr⟩,hk3⟩
 obtain ⟨k3,_,w3⟩:=zT H zK hk3
 have o3:=hr.one
 have hrest:decide (x.natAbs % y.natAbs≠0)=false:=by simp [hd]
 rw [hrest]
 have d2:=hk3.get (b:=H.next+2) (e:=.cells [.bool false,.nilSl] aa true) (dC)
 have lt2:=k3.wf _ _ d2
 have n3:H.next+17<=H3.next:=hk3.le
 have f3:H3.get (H.next+12)=none:=hk3.free (show _<H.next+17 by omega) (by rw [au (by omega),au (by omega),au (by omega)]; exact hw.fresh (b:=H.next+12) (by omega))
 refine zW (cJ hl g0 g1 d2 @Nm) ?_
 have s3:Sub (H3.up 8) (((H3.up 8).put (H.next+12) (Ent.cells [AV.bool false,AV.nilSl] aa true)).put (H.next+12) (Ent.cells [AV.bool (decide (x.tdiv y<0)),r] aa true)):=(bh (H:=H3.up 8) f3).put f3 _
 have hr2:=(hr.mono (Sub.bump H3 8)).mono s3
 have d3:(((H3.up 8).put (H.next+12) (Ent.cells [AV.bool false,AV.nilSl] aa true)).put (H.next+12) (Ent.cells [AV.bool (decide (x.tdiv y<0)),r] aa true)).get (H.next+2)=some (.cells [.bool false,.nilSl] aa true):=by exact zV d2
 refine ⟨_,rfl,⟨r,rfl,hr2.monoT (SubT.put_ty d3 (by decide))⟩,?_⟩
 have n4:H3.next<=(H3.up 8).next:=Nat.le_add_right _ _
 refine ((((k3.up 8).put ?_ ?_).put ?_ ?_).put ?_ ?_)
 all_goals (first | omega | (simp only [next_put]; omega))
end
section
variable {tab:Nat->Option aq} {H:Heap}
theorem gcd_Gcd (C:Code tab) (hw:Wf H) {a b:AV} {x y:Nat} (ha:bZ H a x) (hb:bZ H b y) (hx:Sm x) (hy:Sm y) :
  Ans tab (.fn rY [a,b]) H fun v H'=>∃ r,v=.tup [r,.int .i64 0]/\bZ H' r (Nat.gcd x y)/\Kp H H':=by
 have hox:=ha.one
 have hoy:=hb.one
 refine ca C.gcd_Gcd (by decide) fun T hl g0 g1=>?_
 refine zW (aC hl g0 g1) ?_
 refine AnsH.eq (Rr C zF (el (H:=H) ha hb (Kp.sub (H:=H) zK) (by refine qN ?_; rfl)) (by simp) fun c hc=>?_) fun H2 hk2=>?_
 ·unfold Sm at hx hy
  simp at hc; rcases hc with rfl | rfl
  ·exact ⟨by omega,(cZ _)⟩
  ·exact ⟨by omega,(cZ _)⟩
 obtain ⟨k2,_,w2⟩:=zT H zK hk2
 refine zW (aC hl g0 g1) ?_
 refine jK H2 [0,1] (fun k vs H'=>∃ a' b' x' y',vs=[a',b']/\bZ H' a' x'/\bZ H' b' y'/\Sm x'/\Sm y'/\Nat.gcd x' y'=Nat.gcd x y/\k=y') (fun vs H'=>∃ a' b',vs=[a',b']/\bZ H' a' (Nat.gcd x y)/\Sm (Nat.gcd x y)) y (by simp only [List.length_set,hl]; rfl) rfl zK ⟨a,b,x,y,by exact zV (aC hl g0 g1),ha.mono k2.sub,hb.mono k2.sub,hx,hy,rfl,rfl⟩ ?_ ?_
 ·rintro k T1 H1 hl1 hs1 hk1 ⟨a',b',x',y',hv,na,nb,sx,sy,hg,hk⟩
  have w1:=hk1.wf
  have le_hk1:=hk1.le
  have o1:=nb.one
  simp only [List.map_cons,List.map_nil,List.cons.injEq,and_true] at hv
  obtain ⟨v0,v1⟩:=hv
  have hlen:=bN y'
  refine zW (bg hl1 v0 v1 nb.lenV) ?_
  refine iteH.split (fun h=>?_) fun h=>?_
  ·refine zW (aC hl1 v0 v1) ?_
   refine AnsH.use (div_Div C zF (na.mono (Kp.sub (H:=H1) zK)) (nb.mono (Kp.sub (H:=H1) zK)) sx sy (by omega)) ?_
   rintro v H3 ⟨o,r,rfl,ho,hr,hk3⟩
   obtain ⟨k3,_,w3⟩:=zT H2 zK hk3
   refine zW (aC hl1 v0 v1) ?_
   have hlt:x' % y'<y':=Nat.mod_lt _ (by omega)
   refine ⟨zK,x' % y',by omega,_,_,y',x' % y',rfl,nb.mono hk3.sub,hr,sy,Sm.mono (Nat.le_of_lt hlt) sy,?_,rfl⟩
   rw [<- hg,Nat.gcd_comm x' y',Nat.gcd_rec y' x',Nat.gcd_comm]
  ·refine zW (aC hl1 v0 v1) ?_
   refine ⟨zK,_,_,rfl,?_⟩
   have h00:y'=0:=by omega
   rw [h00,Nat.gcd_zero_right] at hg
   rw [<- hg]
   exact ⟨na.mono (Kp.sub (H:=H1) zK),sx⟩
 ·rintro T1 H1 hl1 hs1 hk1 ⟨a',b',hv,na,sg⟩
  have w1:=hk1.wf
  have le_hk1:=hk1.le
  simp only [List.map_cons,List.map_nil,List.cons.injEq,and_true] at hv
  obtain ⟨v0,v1⟩:=hv
  unfold Sm at sg
  have hz:SlV (cB bX) ad (H1.up 4) a' (ag (Nat.gcd x y)):=na.mono (Sub.bump H1 4)
  obtain ⟨v',H4,e1,h2,k4,n4,-,-⟩:=Bl.app (E:=cB bX) (ty:=ad) (bytes:=8) (id:=H1.next+1) (H0:=H1) (H:=H1.up 4) (v:=.nilSl) (l:=[]) (.inl ⟨rfl,rfl⟩) (by decide) zK hz (by omega) (by refine qN ?_; omega) (w1.fresh (b:=H1.next+1) (by omega)) (fun b n h=>by cases h) (by simp; omega) (by simp; omega)
  have e1':OC (H1.up 4) (H1.next+1) 1 8 ad .nilSl a'=some (v',H4):=e1
  refine zW (aC hl1 v0 e1') ?_
  exact ⟨_,rfl,Bl.sl h2,Kp.trans (Kp.trans k2 hk1) k4⟩
end
section
variable {tab:Nat->Option aq} {H:Heap} {s:AV}
def rawE:eU (Bool × List Nat) where
 sz:=2
 tys:=[ad]
 R H cs z:=∃ v,cs=[.bool z.1,v]/\Lb H v z.2
 pos:=by omega
 len:=by rintro H cs z ⟨v,rfl,h⟩; exact ⟨rfl,by simp [h.one.2]; rfl⟩
 mono:=by rintro H H' cs z hs ⟨v,rfl,h⟩; exact ⟨v,rfl,h.monoT hs⟩
def pC (z:Bool × List Nat):Bool:=decide (z.2.getLast? = some 0) || (z.1 && decide (z.2.length=0))
theorem whole_Check (C:Code tab) (hw:Wf H) {b:Bool} {l:List Nat} {w:AV} (hn:Lb H w l) (hbig:l.length<4611686018427387904):Ans tab (.fn iY [.agg [.bool b,w]]) H fun v H'=>v=.int .i64 (if pC (b,l) then 8 else 0)/\Kp H H':=by
 have ow:=hn.one
 refine OD C.whole_Check (by decide) fun T hl g0=>?_
 refine zW (az hl g0) ?_
 have k1:Kp H ((H.up 16).put H.next (.cells [.bool b,w] aa true)):=zK
 have le_k1:=k1.le
 refine AnsH.eq (nat_Check C k1.wf (hn.mono k1.sub) hbig) fun H2 hk2=>?_
 have k2:=k1.trans hk2
 have b0:H2.get H.next=some (.cells [.bool b,w] aa true):=hk2.get (aA _ _ _)
 by_cases hz:l.getLast? = some 0
 ·rw [if_pos hz]
  refine zW (aC hl g0 @b0) ?_
  exact ⟨by simp [pC,hz],zK⟩
 ·rw [if_neg hz]
  cases b with
  | false =>
   refine zW (aC hl g0 @b0) ?_
   exact ⟨by simp [pC,hz],zK⟩
  | true =>
   refine zW (bg hl g0 @b0 hn.lenV) ?_
   refine iteH.split (fun h=>?_) fun h=>?_
   ·have e:l=[]:=List.eq_nil_of_length_eq_zero (by omega)
    refine zW (az hl g0) ?_
    exact ⟨by simp [pC,hz,e],zK⟩
   ·have e:l≠[]:=fun e=>h (by rw [e]; rfl)
    refine zW (az hl g0) ?_
    exact ⟨by simp [pC,hz,e],zK⟩
def mf {α:Type} (p:α->Bool) (l:List α):Int:=match l.findIdx? p with
 | some i=>(i:Int)
 | none=>-1
theorem sq {α:Type} {p:α->Bool} {l:List α} {j:Nat} (hj:j<l.length) (h0:∀ k (h:k<l.length),k<j->p l[k]=false) (h1:p l[j]=true):mf p l=(j:Int):=by
 have:l.findIdx? p=some j:=by
  rw [List.findIdx?_eq_some_iff_getElem]
  exact ⟨hj,h1,fun k hk=>by rw [h0 k (by omega) hk]; simp⟩
 simp [mf,this]
theorem qC {α:Type} {p:α->Bool} {l:List α} (h0:∀ k (h:k<l.length),p l[k]=false):mf p l = -1:=by
 have:l.findIdx? p=none:=by
  rw [List.findIdx?_eq_none_iff]
  intro x hx
  obtain ⟨k,hk,rfl⟩:=List.getElem_of_mem hx
  exact h0 k hk
 simp [mf,this]
theorem sr {α:Type} (p:α->Bool) (l:List α):decide (mf p l ≥ 0)=l.any p:=by
 cases h:l.findIdx? p with
 | none =>
  have:l.any p=false:=by
   rw [List.findIdx?_eq_none_iff] at h
   rw [List.any_eq_false]; intro x hx; simp [h x hx]
  simp [mf,h,this]
 | some i =>
  have:l.any p=true:=by
   rw [List.findIdx?_eq_some_iff_getElem] at h
   obtain ⟨hi,h1,-⟩:=h
   rw [List.any_eq_true]; exact ⟨_,List.getElem_mem hi,h1⟩
  simp [mf,h,this]
theorem xy (C:Code tab) (hw:Wf H) {α:Type} {E:eU α} {ty fi:Nat} {first caps:List AV} {l:List α} (hE:E.sz=2) (hs:SlV E ty H s l) (hbig:l.length<4611686018427387904) (p:α->Bool)
  (hf:∀ a∈l,∀ H' cs,Kp H H'->E.R H' cs a->Ans tab (.fn fi (first++[.agg cs]++caps)) H' fun v H2=>v=.bool (p a)/\Kp H' H2) :
  Ans tab (.fn cm [s,.fn (.func fi) first caps]) H fun v H'=>v=.int .i64 (mf p l)/\Kp H H':=by
 refine ca C.slices_IndexFunc_api_Vec_api_Int (by decide) fun T hl g0 g1=>?_
 refine zW (bg hl g0 g1 hs.lenV) ?_
 refine ak H [] (fun j _ _=>∀ k (h:k<l.length),k<j->p l[k]=false) (a:=0) (N:=l.length) rfl (by refine zW (aC hl g0 g1) ?_; rfl) (zV (aC hl g0 g1)) (Nat.zero_le _) (by omega) (by simp only [List.length_set,hl]; rfl) rfl (fun _ _ _ _ h=>h) zK (fun k _ h=>by omega) ?_ ?_
 ·intro j T1 H1 _ hj hl1 hi1 hs1 hk1 hP
  have w1:=hk1.wf
  have le_hk1:=hk1.le
  have t0:ae T1 0=s:=(hs1.at_ 0 (by decide)).trans (zV (az hl g0))
  have t1:ae T1 1=.fn (.func fi) first caps:=(hs1.at_ 1 (by decide)).trans (zV (bg hl g0 g1 g1))
  obtain ⟨cs,hr,hlen,-,hld⟩:=(hs.mono hk1.sub).at (List.getElem?_eq_getElem hj)
  have hix:=SlV.idx hs .i64 j hj
  rw [hE] at hld hix
  simp only [List.length_set,hl] at hl1
  refine zW (fW hl1 t0 t1 hi1 hix hld) ?_
  refine AnsH.eq (hf _ (List.getElem_mem hj) _ cs zK (E.mono ((Kp.sub (H:=H1) zK).t _) hr)) fun H2 hk2=>?_
  obtain ⟨k2,_,_⟩:=zT H zK hk2
  cases hp:p l[j] with
  | true =>
   refine zW hl1 ?_
   exact ⟨by rw [sq hj hP hp],zK⟩
  | false =>
   refine zW hl1 ?_
   refine ⟨zK,fun k h hk=>?_⟩
   by_cases e:k=j
   ·subst e; exact hp
   ·exact hP k h (by omega)
 ·intro T1 H1 hl1 hs1 hk1 hP
  simp only [List.length_set,hl] at hl1
  refine zW hl1 ?_
  exact ⟨by rw [qC fun k h=>hP k h h],zK⟩
theorem sR (C:Code tab) (hw:Wf H) {α:Type} {E:eU α} {ty fi:Nat} {first caps:List AV} {l:List α} (hE:E.sz=2) (hs:SlV E ty H s l) (hbig:l.length<4611686018427387904) (p:α->Bool)
  (hf:∀ a∈l,∀ H' cs,Kp H H'->E.R H' cs a->Ans tab (.fn fi (first++[.agg cs]++caps)) H' fun v H2=>v=.bool (p a)/\Kp H' H2) :
  Ans tab (.fn bT [s,.fn (.func fi) first caps]) H fun v H'=>v=.bool (l.any p)/\Kp H H':=by
 refine ca C.slices_ContainsFunc_api_Vec_api_Int (by decide) fun T hl g0 g1=>?_
 refine zW (aC hl g0 g1) ?_
 refine AnsH.eq (xy C zF hE (hs.mono (Kp.sub (H:=H) zK)) hbig p fun a ha H' cs hk hr=>hf a ha H' cs (Kp.trans (H:=H) zK hk) hr) fun H2 hk2=>?_
 obtain ⟨k2,_,_⟩:=zT H zK hk2
 refine zW (aC hl g0 g1) ?_
 exact ⟨by rw [sr],zK⟩
theorem vec_Check_f1 (C:Code tab) (hw:Wf H) {cs:List AV} {z:Bool × List Nat} (hz:rawE.R H cs z) (hbig:z.2.length<4611686018427387904) :
  Ans tab (.fn ka [.agg cs]) H fun v H'=>v=.bool (pC z)/\Kp H H':=by
 obtain ⟨w,rfl,hn⟩:=hz
 obtain ⟨b,l⟩:=z
 have ow:=hn.one
 refine OD C.vec_Check_f1 (by decide) fun T hl g0=>?_
 refine zW (az hl g0) ?_
 refine AnsH.eq (whole_Check C zF (hn.mono (Kp.sub (H:=H) zK)) hbig) fun H2 hk2=>?_
 obtain ⟨k2,_,_⟩:=zT H zK hk2
 cases pC (b,l) with
 | true =>
  rw [if_pos rfl]
  refine zW (az hl g0) ?_
  exact zK
 | false =>
  rw [if_neg (by decide)]
  refine zW (az hl g0) ?_
  exact zK
def yT (l:List (Bool × List Nat)):Bool:=decide (l.length<=64) && !l.any pC
def xq (l:List (Bool × List Nat)):Prop:=l.length<4611686018427387904/\∀ z∈l,z.2.length<4611686018427387904
theorem vec_Check (C:Code tab) (hw:Wf H) {l:List (Bool × List Nat)} (hs:SlV rawE aa H s l) (hbig:xq l) :
  Ans tab (.fn kC [s]) H fun v H'=>v=.int .i64 (if yT l then 0 else 8)/\Kp H H':=by
 refine OD C.vec_Check (by decide) fun T hl g0=>?_
 by_cases h64:l.length<=64
 ·have e:¬ (64:Int)<(l.length:Int):=by omega
  refine zW (bg hl g0 hs.lenV e) ?_
  refine AnsH.eq (sR C zF rfl (hs.mono (Kp.sub (H:=H) zK)) hbig.1 pC fun a ha H' cs hk hr=>vec_Check_f1 C hk.wf hr (hbig.2 a ha)) fun H2 hk2=>?_
  obtain ⟨k2,_,_⟩:=zT H zK hk2
  cases ha:l.any pC with
  | true =>
   refine zW (az hl g0) ?_
   exact ⟨by simp only [yT,ha]; simp,zK⟩
  | false =>
   refine zW (az hl g0) ?_
   exact ⟨by simp only [yT,ha]; simp [h64],zK⟩
 ·have e:(64:Int)<(l.length:Int):=by omega
  refine zW (bg hl g0 hs.lenV e) ?_
  exact ⟨by simp [yT,h64],zK⟩
end
def NoTy (tys:List Nat) (H:Heap) (b:Nat):Prop:=∀ cs t r,t∈tys->H.get b≠some (.cells cs t r)
theorem NoTy.none {tys:List Nat} {H:Heap} {b:Nat} (h:H.get b=none):NoTy tys H b:=fun cs t r _ e=>by rw [h] at e; cases e
theorem NoTy.ty {tys:List Nat} {H:Heap} {b ty:Nat} {cs:List AV} {r:Bool} (h:H.get b=some (.cells cs ty r)) (hn:ty ∉ tys):NoTy tys H b:=fun cs' t r' ht e=>by rw [h] at e; cases e; exact hn ht
theorem NoTy.fresh {tys:List Nat} {H:Heap} {b:Nat} (hw:Wf H) (h:H.next<=b):NoTy tys H b:=NoTy.none (hw.fresh h)
theorem SubT.refl (tys:List Nat) (H:Heap):SubT tys H H:=fun _ _ _ _ _ h=>h
theorem SubT.upR {tys:List Nat} {H H':Heap} {m:Nat} (h:SubT tys H H'):SubT tys H (H'.up m):=h
theorem SubT.puts {tys:List Nat} {H H':Heap} {b:Nat} {e:Ent} (h:SubT tys H H') (hb:NoTy tys H b):SubT tys H (H'.put b e):=fun c cs t r ht hc=>by
 rw [au (fun e1=>hb cs t r ht (by rw [<- e1]; exact hc))]; exact h c cs t r ht hc
theorem SubT.kills {tys:List Nat} {H H':Heap} {b:Nat} (h:SubT tys H H') (hb:NoTy tys H b):SubT tys H (H'.kill b):=fun c cs t r ht hc=>by
 rw [cH (fun e1=>hb cs t r ht (by rw [<- e1]; exact hc))]; exact h c cs t r ht hc
theorem SubT.trans {tys:List Nat} {H H' H'':Heap} (h:SubT tys H H') (h':SubT tys H' H''):SubT tys H H'':=fun c cs t r ht hc=>h' c cs t r ht (h c cs t r ht hc)
theorem zS {P:Prop} (h:P:=by repeat (first | assumption | exact SubT.refl _ _ | exact Sub.t (by assumption) _ | refine SubT.upR ?_ | refine SubT.puts ?_ (by first | assumption | exact NoTy.fresh (by assumption) (by omega)) | refine SubT.kills ?_ (by first | assumption | exact NoTy.fresh (by assumption) (by omega)))):P:=h
theorem IntV.monoT {H H':Heap} {v:AV} {z:Int} (hs:SubT [ad] H H') (h:IntV H v z):IntV H' v z:=by
 obtain ⟨w,rfl,h⟩:=h; exact ⟨w,rfl,SlV.monoT (E:=cB bX) hs h⟩
def Bt (e:Nat) (z:Int):Prop:=z.natAbs<2^e
theorem Bt.mono {e f:Nat} {z:Int} (h:Bt e z) (hf:e<=f):Bt f z:=Nat.lt_of_lt_of_le h (Nat.pow_le_pow_right (by decide) hf)
theorem Bt.zero (e:Nat):Bt e 0:=Nat.pow_pos (by decide)
theorem Bt.neg {e:Nat} {z:Int} (h:Bt e z):Bt e (-z):=by unfold Bt at *; rwa [Int.natAbs_neg]
theorem Bt.mul {e f:Nat} {x y:Int} (h:Bt e x) (h':Bt f y):Bt (e+f) (x*y):=by
 unfold Bt at *
 rw [Int.natAbs_mul,Nat.pow_add]
 exact Nat.mul_lt_mul'' h h'
theorem Bt.add {e f:Nat} {x y:Int} (h:Bt e x) (h':Bt f y):Bt (max e f+1) (x+y):=by
 have h1:=h.mono (Nat.le_max_left e f)
 have h2:=h'.mono (Nat.le_max_right e f)
 unfold Bt at *
 rw [Nat.pow_succ]
 have:=Int.natAbs_add_le x y
 omega
theorem Bt.len {e:Nat} {z:Int} (h:Bt e z) (he:e<=8796093022208):(ag z.natAbs).length<274877906944:=by
 have h1:z.natAbs<B^(e / 64+1):=by
  have hb:B=2^64:=by decide
  rw [hb,<- Nat.pow_mul]
  exact Nat.lt_of_lt_of_le h (Nat.pow_le_pow_right (by decide) (by omega))
 have:=bk h1
 omega
theorem Bt.sm {e:Nat} {z:Int} (h:Bt e z) (he:e<=8796093022208):OV z:=by
 have:=h.len he
 unfold OV Sm; omega
def iH:AV->Option Nat
 | .own b _ _ _ _ _=>some b
 | _=>none
def Fr (H:Heap) (v:AV):Prop:=∀ b,iH v=some b->H.next<=b
abbrev RowV (H:Heap) (v:AV) (l:List Int):Prop:=SlV intE aa H v l
abbrev cI (H:Heap) (v:AV) (ls:List (List Int)):Prop:=tX (pE intE aa) af H v ls
def jv (z:Int):Bool × List Nat:=(decide (z<0),ag z.natAbs)
theorem SlV.raw {ty:Nat} {H:Heap} {v:AV} {l:List Int} (h:SlV intE ty H v l):SlV rawE ty H v (l.map jv):=by
 obtain ⟨cells,hr,ht,hc,ha⟩:=h
 refine ⟨cells,hr,ht,by rw [hc,List.length_map]; rfl,fun i a hi=>?_⟩
 rw [List.getElem?_map] at hi
 cases hz:l[i]? with
 | none=>rw [hz] at hi; cases hi
 | some z =>
  rw [hz] at hi; cases hi
  obtain ⟨w,h1,h2⟩:=ha i z hz
  exact ⟨w,h1,h2⟩
theorem Bj (z:Int):pC (jv z)=false:=by
 have h1:¬ (ag z.natAbs).getLast? = some 0:=cZ z.natAbs
 have h2:=bN z.natAbs
 show (decide ((ag z.natAbs).getLast? = some 0) || (decide (z<0) && decide ((ag z.natAbs).length=0)))=false
 rw [decide_eq_false h1,Bool.false_or]
 by_cases h:z<0
 ·have h3:¬ (ag z.natAbs).length=0:=by have:=h2.2 (by omega); omega
  rw [decide_eq_false h3,Bool.and_false]
 ·rw [decide_eq_false h,Bool.false_and]
section
variable {tab:Nat->Option aq} {H:Heap} {s:AV}
theorem qQ (C:Code tab) (hw:Wf H) {l:List Int} (hs:RowV H s l) (h64:l.length<=64) (hz:∀ z∈l,OV z):Ans tab (.fn kC [s]) H fun v H'=>v=.int .i64 0/\Kp H H':=by
 refine (vec_Check C hw hs.raw ⟨by rw [List.length_map]; omega,fun z h=>?_⟩).mono fun v H' h=>?_
 ·rw [List.mem_map] at h
  obtain ⟨a,ha,rfl⟩:=h
  have:=hz a ha
  unfold OV Sm at this
  show (ag a.natAbs).length<_
  omega
 ·have e:yT (l.map jv)=true:=by
   simp only [yT,List.length_map,List.any_map,Bool.and_eq_true,decide_eq_true_eq,Bool.not_eq_true',List.any_eq_false]
   exact ⟨h64,fun z _=>by simp [Bj]⟩
  rw [e,if_pos rfl] at h
  exact h
theorem cV {ty:Nat} {ls:List (List Int)} (hs:tX (pE intE aa) ty H s ls) {i:Nat} (hi:i<ls.length):∃ w,RowV H w ls[i]/\aZ H none (al s i)=some w:=SlV.at1 hs (List.getElem?_eq_getElem hi)
theorem eZ (C:Code tab) (hw:Wf H) {ls:List (List Int)} {ty d:Nat} (hs:tX (pE intE aa) ty H s ls) (h0:0<ls.length) (hbig:ls.length<4611686018427387904) (hd:d<=64) (hc:∀ r∈ls,r.length=d/\∀ z∈r,OV z) :
  Ans tab (.fn lh [s]) H fun v H'=>v=.int .i64 0/\Kp H H':=by
 refine OD C.vec_checked (by decide) fun T hl g0=>?_
 refine zW (aC hl g0 hs.lenV) ?_
 refine ak H [] (fun _ _ _=>True) (a:=0) (N:=ls.length) rfl (by refine zW (az hl g0) ?_; rfl) (zV (az hl g0)) (Nat.zero_le _) (by omega) (by simp only [List.length_set,hl]; rfl) rfl (fun _ _ _ _ h=>h) zK trivial ?_ ?_
 ·intro j T1 H1 _ hj hl1 hi1 hs1 hk1 _
  have w1:=hk1.wf
  have le_hk1:=hk1.le
  have t8:ae T1 8=s:=(hs1.at_ 8 (by decide)).trans (zV (az hl g0))
  obtain ⟨w,hr,hld⟩:=cV (hs.mono hk1.sub) hj
  have hix:=SlV.idx1 hs .i64 j hj
  have hcc:=hc _ (List.getElem_mem hj)
  simp only [List.length_set,hl] at hl1
  refine zW (cJ hl1 t8 hi1 hix hld) ?_
  refine AnsH.eq (qQ C zF (hr.mono (Kp.sub (H:=H1) zK)) (by omega) hcc.2) fun H2 hk2=>?_
  obtain ⟨k2,_,_⟩:=zT H zK hk2
  refine zW hl1 ?_
  exact zK
 ·intro T1 H1 hl1 hs1 hk1 _
  have w1:=hk1.wf
  have le_hk1:=hk1.le
  have t0:ae T1 0=s:=(hs1.at_ 0 (by decide)).trans (zV (az hl g0))
  obtain ⟨v',e,hr⟩:=hs.lo .i64 1 (by omega)
  have e':cR 1 s (some (.int .i64 1)) none none=some v':=e
  have hr':tX (pE intE aa) ty H v' (ls.drop 1):=hr
  simp only [List.length_set,hl] at hl1
  refine zW (bg hl1 t0 e' hr.lenV) ?_
  refine ak H [] (fun _ _ _=>True) (a:=0) (N:=(ls.drop 1).length) rfl (by refine zW hl1 ?_; rfl) (zV hl1) (Nat.zero_le _) (by simp; omega) (by simp only [List.length_set,hl1]; rfl) rfl (fun _ _ _ _ h=>h) zK trivial ?_ ?_
  ·intro j T2 H2 _ hj hl2 hi2 hs2 hk2 _
   have w2:=hk2.wf
   have le_hk2:=hk2.le
   have t21:ae T2 21=v':=(hs2.at_ 21 (by decide)).trans (zV hl1)
   have t0':ae T2 0=s:=(hs2.at_ 0 (by decide)).trans (zV (az hl1 t0))
   obtain ⟨w,hr2,hld⟩:=cV (hr'.mono hk2.sub) hj
   obtain ⟨w0,hr0,hld0⟩:=cV (hs.mono hk2.sub) h0
   have hix:=SlV.idx1 hr' .i64 j hj
   have hix0:Ox 1 s (.int .i64 0)=some (al s 0):=SlV.idx1 hs .i64 0 h0
   have l2:lenV w=some (.int .i64 (d:Int)):=by rw [hr2.lenV,(hc _ (List.mem_of_mem_drop (List.getElem_mem hj))).1]
   have l0:lenV w0=some (.int .i64 (d:Int)):=by rw [hr0.lenV,(hc _ (List.getElem_mem h0)).1]
   simp only [List.length_set,hl1] at hl2
   refine zW (nE hl2 t21 hi2 hix hld t0' hix0 hld0 l2 l0) ?_
   exact zK
  ·intro T2 H2 hl2 hs2 hk2 _
   simp only [List.length_set,hl1] at hl2
   refine zW hl2 ?_
   exact zK
def MuI (z:Int):Prop:=(ag z.natAbs).length<274877906944
theorem MuI.sm {z:Int} (h:MuI z):OV z:=by unfold MuI at h; unfold OV Sm; omega
theorem vec_sum (C:Code tab) (hw:Wf H) {a b:AV} {x y:Int} (ha:IntV H a x) (hb:IntV H b y) (hx:OV x) (hy:OV y):Ans tab (.fn rR [a,b]) H fun v H'=>IntV H' v (x+y)/\Kp H H':=by
 obtain ⟨p,rfl,hp⟩:=ha
 obtain ⟨q,rfl,hq⟩:=hb
 have op:=hp.one
 have oq:=hq.one
 refine ca C.vec_sum (by decide) fun T hl g0 g1=>?_
 refine zW (aC hl g0 g1) ?_
 refine AnsH.use (whole_Add C zF ⟨p,rfl,hp.mono (Kp.sub (H:=H) zK)⟩ ⟨q,rfl,hq.mono (Kp.sub (H:=H) zK)⟩ hx hy) ?_
 rintro v H2 ⟨r,rfl,⟨w,rfl,hr⟩,hk2⟩
 obtain ⟨k2,_,w2⟩:=zT H zK hk2
 have ow:=hr.one
 have n2:H.next+12<=H2.next:=hk2.le
 have d2:=hk2.get (b:=H.next+2) (e:=.cells [.bool false,.nilSl] aa true) (dC)
 have f2:H2.get (H.next+9)=none:=hk2.free (show _<H.next+12 by omega) (by rw [au (by omega),au (by omega),au (by omega)]; exact hw.fresh (b:=H.next+9) (by omega))
 have m2:NoTy [ad] H2 (H.next+2):=NoTy.ty d2 (by decide)
 have m9:NoTy [ad] H2 (H.next+9):=NoTy.none f2
 refine zW (bg hl g0 g1 d2) ?_
 exact ⟨⟨w,rfl,SlV.monoT (E:=cB bX) zS hr⟩,zK⟩
theorem vec_product (C:Code tab) (hw:Wf H) {a b:AV} {x y:Int} (ha:IntV H a x) (hb:IntV H b y) (hx:MuI x) (hy:MuI y):Ans tab (.fn kZ [a,b]) H fun v H'=>IntV H' v (x*y)/\Kp H H':=by
 obtain ⟨p,rfl,hp⟩:=ha
 obtain ⟨q,rfl,hq⟩:=hb
 have op:=hp.one
 have oq:=hq.one
 refine ca C.vec_product (by decide) fun T hl g0 g1=>?_
 refine zW (aC hl g0 g1) ?_
 refine AnsH.use (whole_Mul C zF ⟨p,rfl,hp.mono (Kp.sub (H:=H) zK)⟩ ⟨q,rfl,hq.mono (Kp.sub (H:=H) zK)⟩ hx hy) ?_
 rintro v H2 ⟨r,rfl,⟨w,rfl,hr⟩,hk2⟩
 obtain ⟨k2,_,w2⟩:=zT H zK hk2
 have ow:=hr.one
 have n2:H.next+12<=H2.next:=hk2.le
 have d2:=hk2.get (b:=H.next+2) (e:=.cells [.bool false,.nilSl] aa true) (dC)
 have f2:H2.get (H.next+9)=none:=hk2.free (show _<H.next+12 by omega) (by rw [au (by omega),au (by omega),au (by omega)]; exact hw.fresh (b:=H.next+9) (by omega))
 have m2:NoTy [ad] H2 (H.next+2):=NoTy.ty d2 (by decide)
 have m9:NoTy [ad] H2 (H.next+9):=NoTy.none f2
 refine zW (bg hl g0 g1 d2) ?_
 exact ⟨⟨w,rfl,SlV.monoT (E:=cB bX) zS hr⟩,zK⟩
def QP (g:Nat->Int->Int) (l:List Int) (j:Nat):List Int:=(List.range l.length).map fun i=>if i<j then g i (l.getD i 0) else 0
theorem EW (g:Nat->Int->Int) (l:List Int):QP g l 0=List.replicate l.length 0:=by
 simp [QP,List.map_const']
theorem Ar (g:Nat->Int->Int) (l:List Int) (j:Nat):(QP g l j).length=l.length:=by simp [QP]
theorem Hm (g:Nat->Int->Int) (l:List Int) {j:Nat} (hj:j<l.length):(QP g l j).set j (g j l[j])=QP g l (j+1):=by
 apply List.ext_getElem
 ·simp [QP]
 ·intro i h1 h2
  have hi:i<l.length:=by simpa [QP] using h2
  rw [List.getElem_set]
  by_cases e:j=i
  ·subst e; simp [QP,hj]
  ·rw [if_neg e]
   simp only [QP,List.getElem_map,List.getElem_range]
   by_cases h:i<j
   ·rw [if_pos h,if_pos (by omega)]
   ·rw [if_neg h,if_neg (by omega)]
theorem Hn (g:Nat->Int->Int) (l:List Int):QP g l l.length=l.mapIdx g:=by
 apply List.ext_getElem
 ·simp [QP]
 ·intro i h1 h2
  have hi:i<l.length:=by simpa [QP] using h1
  simp [QP,hi]
theorem sU (C:Code tab) (hw:Wf H) {l:List Int} {fi:Nat} {first caps:List AV} (hs:RowV H s l) (hbig:l.length<1099511627776) (g:Nat->Int->Int)
  (hf:∀ i (hi:i<l.length) H' w,Kp H H'->IntV H' w l[i]->Ans tab (.fn fi (first++[.int .i64 (i:Int),w]++caps)) H' fun v H2=>IntV H2 v (g i l[i])/\Kp H' H2) :
  Ans tab (.fn mF [s,.fn (.func fi) first caps]) H fun v H'=>RowV H' v (l.mapIdx g)/\Kp H H'/\Fr H v:=by
 refine ca C.vec_each (by decide) fun T hl g0 g1=>?_
 have hmk:∀ H':Heap,E3 H' (H.next+3) aa 2 32 [.bool false,.nilSl] (.int .i64 (l.length:Int)) (.int .i64 (l.length:Int))=some (.own (H.next+3) 0 l.length l.length 2 true,H'.put (H.next+3) (.cells ((List.replicate l.length [AV.bool false,AV.nilSl]).flatten) aa true)):=fun H'=>iZ _ _ _ _ _ _ _ _ _ (by omega) (by omega) rfl
 refine zW (cJ hl g0 g1 hs.lenV hmk) ?_
 have hz:intE.R H [.bool false,.nilSl] 0:=⟨.nilSl,by simp,dQ H⟩
 refine ak H [] (fun j _ H'=>∃ cells,H'.get (H.next+3)=some (.cells cells aa true)/\Cells intE H' cells (QP g l j)) (a:=0) (N:=l.length) rfl (by refine zW (aC hl g0 g1) ?_; rfl) (zV (aC hl g0 g1)) (Nat.zero_le _) (by omega) (by simp only [List.length_set,hl]; rfl) rfl (fun j vs H' m ⟨cells,h1,h2⟩=>⟨cells,h1,h2.mono ((Sub.bump H' m).t _)⟩) zK ⟨_,by refine qN ?_; rfl,?_⟩ ?_ ?_
 ·rw [EW]
  exact (dD hz _).mono ((Kp.sub (H:=H) zK).t _)
 ·rintro j T1 H1 _ hj hl1 hi1 hs1 hk1 ⟨cells,hb,hcl⟩
  have w1:=hk1.wf
  have le_hk1:=hk1.le
  have t11:ae T1 11=s:=(hs1.at_ 11 (by decide)).trans (zV (az hl g0))
  have t5:ae T1 5=.own (H.next+3) 0 l.length l.length 2 true:=(hs1.at_ 5 (by decide)).trans (zV (aC hl g0 g1))
  have t1:ae T1 1=.fn (.func fi) first caps:=(hs1.at_ 1 (by decide)).trans (zV (bg hl g0 g1 g1))
  obtain ⟨w,hn,hld,-,-⟩:=js (hs.mono hk1.sub) hj
  have hix:Ox 2 s (.int .i64 (j:Int))=some (al s (j*2)):=SlV.idx hs .i64 j hj
  have ow:=hn.one
  have lt3:=w1 _ _ hb
  simp only [List.length_set,hl] at hl1
  refine zW (jm hl1 t11 t5 t1 hi1 hix hld) ?_
  refine AnsH.use (hf j hj _ (.agg [.bool (decide (l[j]<0)),w]) zK ⟨w,rfl,hn.mono (Kp.sub (H:=H1) zK)⟩) ?_
  rintro v H2 ⟨⟨w2,rfl,hn2⟩,hk2⟩
  obtain ⟨k2,_,_⟩:=zT H zK hk2
  have w2':=k2.wf
  have ow2:=hn2.one
  have hb2:=hk2.get (b:=H.next+3) (e:=.cells cells aa true) (zV hb)
  have lt32:=w2' _ _ hb2
  have hclen:cells.length=l.length*2:=by have:=hcl.1; rwa [Ar] at this
  have hst:By (some (.cells cells aa true)) 2 (0+j*2) (.agg [.bool (decide (g j l[j]<0)),w2])=some (.cells (cells.take (0+j*2)++[.bool (decide (g j l[j]<0)),w2]++cells.drop (0+j*2+2)) aa true):=i9 (DG (aF _) ow2) (by omega)
  have hio:Ox 2 (.own (H.next+3) 0 l.length l.length 2 true) (.int .i64 (j:Int))=some (.ptr (H.next+3) (0+j*2)):=mU hj
  rw [Nat.zero_add] at hst hio
  have m3:NoTy [ad] H2 (H.next+3):=NoTy.ty hb2 (by decide)
  refine zW (bg hl1 hio hb2 hst) ?_
  refine ⟨zK,_,rfl,?_⟩
  rw [<- Hm g l hj]
  have hcl2:Cells intE H2 cells (QP g l j):=hcl.mono ((Kp.sub (H:=H1) (Kp.trans zK hk2)).t _)
  exact Cells.mono (E:=intE) zS (hcl2.set (i:=j) (by rw [Ar]; exact hj) ⟨w2,rfl,hn2⟩)
 ·rintro T1 H1 hl1 hs1 hk1 ⟨cells,hb,hcl⟩
  have w1:=hk1.wf
  have le_hk1:=hk1.le
  have t5:ae T1 5=.own (H.next+3) 0 l.length l.length 2 true:=(hs1.at_ 5 (by decide)).trans (zV (aC hl g0 g1))
  simp only [List.length_set,hl] at hl1
  refine zW (az hl1 t5) ?_
  refine ⟨?_,zK,fun b hb=>by cases hb; omega⟩
  rw [Hn] at hcl
  have:Own intE aa H H1 (H.next+3) true (.own (H.next+3) 0 l.length l.length 2 true) (l.mapIdx g):=⟨cells,by simp [intE],hb,hcl,by omega⟩
  exact this.sl.mono (Sub.bump H1 _)
theorem vec_each (C:Code tab) (hw:Wf H) {l:List Int} {fi:Nat} {first caps:List AV} (hs:RowV H s l) (hbig:l.length<1099511627776) (g:Nat->Int->Int)
  (hf:∀ i (hi:i<l.length) H' w,Kp H H'->IntV H' w l[i]->Ans tab (.fn fi (first++[.int .i64 (i:Int),w]++caps)) H' fun v H2=>IntV H2 v (g i l[i])/\Kp H' H2) :
  Ans tab (.fn mF [s,.fn (.func fi) first caps]) H fun v H'=>RowV H' v (l.mapIdx g)/\Kp H H':=(sU C hw hs hbig g hf).mono fun _ _ ⟨h1,h2,_⟩=>⟨h1,h2⟩
end
end Go.Proofs.YtboamamhcfhanaaGreat.Ev
/- A part. -/
namespace Go.Proofs.YtboamamhcfhanaaGreat.Lin
set_option linter.all false
abbrev V:=List Int
def dot:V->V->Int
 | a :: x,b :: y=>a*b+dot x y
 | _,_=>0
def mix (m:Int) (x:V) (n:Int) (y:V):V:=List.zipWith (fun a b=>m*a+n*b) x y
def scl (m:Int) (x:V):V:=x.map (m * ·)
def jJ (d:Nat):V:=List.replicate d 0
theorem mix_length {m n:Int} {x y:V} {d:Nat} (h:x.length=d) (h':y.length=d):(mix m x n y).length=d:=by simp [mix,h,h']
theorem ah {m:Int} {x:V} {d:Nat} (h:x.length=d):(scl m x).length=d:=by simp [scl,h]
theorem bY (d:Nat):(jJ d).length=d:=by simp [jJ]
theorem dot_comm:∀ x y:V,dot x y=dot y x
 | [],[]=>rfl
 | [],_ :: _=>rfl
 | _ :: _,[]=>rfl
 | a :: x,b :: y=>by simp only [dot]; rw [dot_comm x y,Int.mul_comm]
theorem kK:∀ (c:V) (d:Nat),dot c (jJ d)=0
 | [],d=>by cases d <;> rfl
 | a :: c,0=>rfl
 | a :: c,d+1=>by
  show a*0+dot c (jJ d)=0
  rw [kK c d]; simp
theorem bj:∀ (c:V) {x y:V} (m n:Int),x.length=y.length->dot c (mix m x n y)=m*dot c x+n*dot c y
 | [],x,y,m,n,_=>by cases x <;> cases y <;> simp [dot,mix]
 | a :: c,[],[],m,n,_=>by simp [dot,mix]
 | a :: c,[],_ :: _,m,n,h=>by simp at h
 | a :: c,_ :: _,[],m,n,h=>by simp at h
 | a :: c,u :: x,v :: y,m,n,h=>by
  have ih:=bj c (x:=x) (y:=y) m n (by simpa using h)
  simp only [mix,List.zipWith_cons_cons,dot] at ih ⊢
  rw [ih]
  grind
theorem dot_scl:∀ (c x:V) (m:Int),dot c (scl m x)=m*dot c x
 | [],x,m=>by cases x <;> simp [dot,scl]
 | a :: c,[],m=>by simp [dot,scl]
 | a :: c,u :: x,m=>by
  have ih:=dot_scl c x m
  simp only [scl,List.map_cons,dot] at ih ⊢
  rw [ih]
  grind
def at_ (x:V) (i:Nat):Int:=x.getD i 0
theorem aP {x y:V} (h:x.length=y.length) (hi:∀ i,at_ x i=at_ y i):x=y:=by
 apply List.ext_getElem h
 intro i h1 h2
 have:=hi i
 simpa [at_,h1,h2] using this
theorem aj {m n:Int} {x y:V} (h:x.length=y.length) (i:Nat):at_ (mix m x n y) i=m*at_ x i+n*at_ y i:=by
 simp only [at_,mix,List.getD_eq_getElem?_getD,List.getElem?_zipWith]
 by_cases hi:i<x.length
 ·have hi':i<y.length:=h ▸ hi
  simp [List.getElem?_eq_getElem hi,List.getElem?_eq_getElem hi']
 ·have hi':¬ i<y.length:=h ▸ hi
  simp [List.getElem?_eq_none (Nat.le_of_not_lt hi),List.getElem?_eq_none (Nat.le_of_not_lt hi')]
theorem aw {m:Int} {x:V} (i:Nat):at_ (scl m x) i=m*at_ x i:=by
 simp only [at_,scl,List.getD_eq_getElem?_getD,List.getElem?_map]
 cases x[i]? <;> simp
theorem Pm {d i:Nat}:at_ (jJ d) i=0:=by
 simp only [at_,jJ,List.getD_eq_getElem?_getD,List.getElem?_replicate]
 split <;> rfl
inductive Con (d:Nat) (L R:V->Prop):V->Prop
 | zero:Con d L R (jJ d)
 | line {x l:V} (c:Int):Con d L R x->L l->Con d L R (mix 1 x c l)
 | ray {x r:V} (c:Int):0<=c->Con d L R x->R r->Con d L R (mix 1 x c r)
 | div {x:V} (k:Int):0<k->x.length=d->Con d L R (scl k x)->Con d L R x
abbrev Spn (d:Nat) (L:V->Prop):V->Prop:=Con d L (fun _=>False)
section
variable {d:Nat} {L R L' R':V->Prop}
theorem Con.length (hL:∀ l,L l->l.length=d) (hR:∀ r,R r->r.length=d) {x:V} (h:Con d L R x):x.length=d:=by
 induction h with
 | zero=>exact bY d
 | line c _ hl ih=>exact mix_length ih (hL _ hl)
 | ray c _ _ hr ih=>exact mix_length ih (hR _ hr)
 | div k _ h _ _=>exact h
theorem Con.mono (hL:∀ l,L l->L' l) (hR:∀ r,R r->R' r) {x:V} (h:Con d L R x):Con d L' R' x:=by
 induction h with
 | zero=>exact .zero
 | line c _ hl ih=>exact .line c ih (hL _ hl)
 | ray c hc _ hr ih=>exact .ray c hc ih (hR _ hr)
 | div k hk h _ ih=>exact .div k hk h ih
theorem Con.smul (hL:∀ l,L l->l.length=d) (hR:∀ r,R r->r.length=d) {x:V} (h:Con d L R x):∀ k:Int,0<=k->Con d L R (scl k x):=by
 induction h with
 | zero =>
  intro k _
  have:scl k (jJ d)=jJ d:=aP (by simp [scl,jJ]) fun i=>by rw [aw,Pm]; simp
  rw [this]; exact .zero
 | @line x l c hx hl ih =>
  intro k hk
  have h1:=hx.length hL hR
  have h2:=hL _ hl
  have:scl k (mix 1 x c l)=mix 1 (scl k x) (k*c) l:=aP (by rw [ah (mix_length h1 h2),mix_length (ah h1) h2]) fun i=>by
   rw [aw,aj (h1.trans h2.symm),aj ((ah h1).trans h2.symm),aw]; grind
  rw [this]; exact .line _ (ih k hk) hl
 | @ray x r c hc hx hr ih =>
  intro k hk
  have h1:=hx.length hL hR
  have h2:=hR _ hr
  have:scl k (mix 1 x c r)=mix 1 (scl k x) (k*c) r:=aP (by rw [ah (mix_length h1 h2),mix_length (ah h1) h2]) fun i=>by
   rw [aw,aj (h1.trans h2.symm),aj ((ah h1).trans h2.symm),aw]; grind
  rw [this]; exact .ray _ (Int.mul_nonneg hk hc) (ih k hk) hr
 | @div x j hj h hx ih =>
  intro k hk
  refine .div j hj (ah h) ?_
  have:scl j (scl k x)=scl k (scl j x):=aP (by rw [ah (ah h),ah (ah h)]) fun i=>by
   rw [aw,aw,aw,aw]; grind
  rw [this]; exact ih k hk
theorem Con.add (hL:∀ l,L l->l.length=d) (hR:∀ r,R r->r.length=d) {y:V} (h:Con d L R y):∀ x,Con d L R x->Con d L R (mix 1 x 1 y):=by
 induction h with
 | zero =>
  intro x hx
  have h1:=hx.length hL hR
  have:mix 1 x 1 (jJ d)=x:=aP (by rw [mix_length h1 (bY d),h1]) fun i=>by rw [aj (h1.trans (bY d).symm),Pm]; grind
  rw [this]; exact hx
 | @line y l c hy hl ih =>
  intro x hx
  have h1:=hx.length hL hR
  have h2:=hy.length hL hR
  have h3:=hL _ hl
  have:mix 1 x 1 (mix 1 y c l)=mix 1 (mix 1 x 1 y) c l:=aP (by rw [mix_length h1 (mix_length h2 h3),mix_length (mix_length h1 h2) h3]) fun i=>by
   rw [aj (h1.trans (mix_length h2 h3).symm),aj (h2.trans h3.symm),aj ((mix_length h1 h2).trans h3.symm),aj (h1.trans h2.symm)]; grind
  rw [this]; exact .line _ (ih x hx) hl
 | @ray y r c hc hy hr ih =>
  intro x hx
  have h1:=hx.length hL hR
  have h2:=hy.length hL hR
  have h3:=hR _ hr
  have:mix 1 x 1 (mix 1 y c r)=mix 1 (mix 1 x 1 y) c r:=aP (by rw [mix_length h1 (mix_length h2 h3),mix_length (mix_length h1 h2) h3]) fun i=>by
   rw [aj (h1.trans (mix_length h2 h3).symm),aj (h2.trans h3.symm),aj ((mix_length h1 h2).trans h3.symm),aj (h1.trans h2.symm)]; grind
  rw [this]; exact .ray _ hc (ih x hx) hr
 | @div y k hk h hy ih =>
  intro x hx
  have h1:=hx.length hL hR
  refine .div k hk (mix_length h1 h) ?_
  have:scl k (mix 1 x 1 y)=mix 1 (scl k x) 1 (scl k y):=aP (by rw [ah (mix_length h1 h),mix_length (ah h1) (ah h)]) fun i=>by
   rw [aw,aj (h1.trans h.symm),aj ((ah h1).trans (ah h).symm),aw,aw]; grind
  rw [this]; exact ih _ (hx.smul hL hR k (by omega))
theorem Con.sum2 (hL:∀ l,L l->l.length=d) (hR:∀ r,R r->r.length=d) {x y:V} (hx:Con d L R x) (hy:Con d L R y) {m n:Int} (hm:0<=m) (hn:0<=n):Con d L R (mix m x n y):=by
 have h1:=hx.length hL hR
 have h2:=hy.length hL hR
 have:mix m x n y=mix 1 (scl m x) 1 (scl n y):=aP (by rw [mix_length h1 h2,mix_length (ah h1) (ah h2)]) fun i=>by
  rw [aj (h1.trans h2.symm),aj ((ah h1).trans (ah h2).symm),aw,aw]; grind
 rw [this]
 exact (hy.smul hL hR n hn).add hL hR _ (hx.smul hL hR m hm)
theorem Con.of_ray {r:V} (hl:r.length=d) (hr:R r):Con d L R r:=by
 have:r=mix 1 (jJ d) 1 r:=aP (by rw [mix_length (bY d) hl,hl]) fun i=>by rw [aj ((bY d).trans hl.symm),Pm]; grind
 rw [this]; exact .ray 1 (by omega) .zero hr
theorem Con.of_line {l:V} (hl:l.length=d) (hr:L l) (c:Int):Con d L R (scl c l):=by
 have:scl c l=mix 1 (jJ d) c l:=aP (by rw [ah hl,mix_length (bY d) hl]) fun i=>by rw [aw,aj ((bY d).trans hl.symm),Pm]; grind
 rw [this]; exact .line c .zero hr
theorem Con.trans (hL':∀ l,L' l->l.length=d) (hR':∀ r,R' r->r.length=d) (hL:∀ l,L l->∀ c:Int,Con d L' R' (scl c l)) (hR:∀ r,R r->Con d L' R' r) (hLl:∀ l,L l->l.length=d) (hRl:∀ r,R r->r.length=d) {x:V} (h:Con d L R x):Con d L' R' x:=by
 induction h with
 | zero=>exact .zero
 | @line x l c hx hl ih =>
  have h1:=hx.length hLl hRl
  have h2:=hLl _ hl
  have:mix 1 x c l=mix 1 x 1 (scl c l):=aP (by rw [mix_length h1 h2,mix_length h1 (ah h2)]) fun i=>by
   rw [aj (h1.trans h2.symm),aj (h1.trans (ah h2).symm),aw]; grind
  rw [this]; exact (hL _ hl c).add hL' hR' _ ih
 | @ray x r c hc hx hr ih =>
  exact ih.sum2 hL' hR' (hR _ hr) (by omega) hc
 | div k hk h _ ih=>exact .div k hk h ih
theorem Con.dot_nonneg (hLl:∀ l,L l->l.length=d) (hRl:∀ r,R r->r.length=d) {a:V} (hL:∀ l,L l->dot a l=0) (hR:∀ r,R r->0<=dot a r) {x:V} (h:Con d L R x):0<=dot a x:=by
 induction h with
 | zero=>rw [kK]; omega
 | @line x l c hx hl ih =>
  rw [bj _ _ _ ((hx.length hLl hRl).trans (hLl _ hl).symm),hL _ hl]; simpa using ih
 | @ray x r c hc hx hr ih =>
  rw [bj _ _ _ ((hx.length hLl hRl).trans (hRl _ hr).symm)]
  have:=Int.mul_nonneg hc (hR _ hr)
  omega
 | @div x k hk h _ ih =>
  rw [dot_scl] at ih
  exact Int.nonneg_of_mul_nonneg_right ih hk
theorem Con.dot_zero (hLl:∀ l,L l->l.length=d) (hRl:∀ r,R r->r.length=d) {a:V} (hL:∀ l,L l->dot a l=0) (hR:∀ r,R r->dot a r=0) {x:V} (h:Con d L R x):dot a x=0:=by
 induction h with
 | zero=>rw [kK]
 | @line x l c hx hl ih=>rw [bj _ _ _ ((hx.length hLl hRl).trans (hLl _ hl).symm),hL _ hl,ih]; simp
 | @ray x r c hc hx hr ih=>rw [bj _ _ _ ((hx.length hLl hRl).trans (hRl _ hr).symm),hR _ hr,ih]; simp
 | @div x k hk h _ ih =>
  rw [dot_scl] at ih
  rcases Int.mul_eq_zero.1 ih with h | h
  ·omega
  ·exact h
theorem Spn.smul (hL:∀ l,L l->l.length=d) {x:V} (h:Spn d L x):∀ k:Int,Spn d L (scl k x):=by
 induction h with
 | zero =>
  intro k
  have:scl k (jJ d)=jJ d:=aP (by simp [scl,jJ]) fun i=>by rw [aw,Pm]; simp
  rw [this]; exact .zero
 | @line x l c hx hl ih =>
  intro k
  have h1:=hx.length hL (fun r h=>h.elim)
  have h2:=hL _ hl
  have:scl k (mix 1 x c l)=mix 1 (scl k x) (k*c) l:=aP (by rw [ah (mix_length h1 h2),mix_length (ah h1) h2]) fun i=>by
   rw [aw,aj (h1.trans h2.symm),aj ((ah h1).trans h2.symm),aw]; grind
  rw [this]; exact .line _ (ih k) hl
 | ray c hc hx hr ih=>exact hr.elim
 | @div x j hj h hx ih =>
  intro k
  refine .div j hj (ah h) ?_
  have:scl j (scl k x)=scl k (scl j x):=aP (by rw [ah (ah h),ah (ah h)]) fun i=>by
   rw [aw,aw,aw,aw]; grind
  rw [this]; exact ih k
theorem Spn.sum2 (hL:∀ l,L l->l.length=d) {x y:V} (hx:Spn d L x) (hy:Spn d L y) (m n:Int):Spn d L (mix m x n y):=by
 have h1:=hx.length hL (fun r h=>h.elim)
 have h2:=hy.length hL (fun r h=>h.elim)
 have:mix m x n y=mix 1 (scl m x) 1 (scl n y):=aP (by rw [mix_length h1 h2,mix_length (ah h1) (ah h2)]) fun i=>by
  rw [aj (h1.trans h2.symm),aj ((ah h1).trans (ah h2).symm),aw,aw]; grind
 rw [this]
 exact (Spn.smul hL hy n).add hL (fun r h=>h.elim) _ (Spn.smul hL hx m)
end
structure Keep (d:Nat) (E I:V->Prop) (x:V):Prop where
 len:x.length=d
 eq:∀ e,E e->dot e x=0
 ge:∀ i,I i->0<=dot i x
structure DD (d:Nat) (E I:V->Prop) (L:V->Prop) (R:List V):Prop where
 lenL:∀ l,L l->l.length=d
 lineE:∀ l,L l->∀ e,E e->dot e l=0
 lineI:∀ l,L l->∀ i,I i->dot i l=0
 lines:∀ x,x.length=d->(∀ e,E e->dot e x=0)->(∀ i,I i->dot i x=0)->Spn d L x
 keep:∀ r∈R,Keep d E I r
 all:∀ x,Keep d E I x->Con d L (· ∈ R) x
 off:∀ r∈R,∃ i,I i/\dot i r≠0
 ext:∀ r∈R,∀ y,Keep d E I y->(∀ i,I i->dot i r=0->dot i y=0)->∃ k c:Int,0<k/\0<=c/\Spn d L (mix k y (-c) r)
 apart:R.Pairwise fun r s=>¬ ∀ i,I i->(dot i r=0 ↔ dot i s=0)
section
variable {d:Nat} {E I L:V->Prop} {R:List V}
theorem Keep.add {x y:V} (hx:Keep d E I x) (hy:Keep d E I y) {m n:Int} (hm:0<=m) (hn:0<=n):Keep d E I (mix m x n y):=by
 refine ⟨mix_length hx.len hy.len,fun e he=>?_,fun i hi=>?_⟩
 ·rw [bj _ _ _ (hx.len.trans hy.len.symm),hx.eq e he,hy.eq e he]; simp
 ·rw [bj _ _ _ (hx.len.trans hy.len.symm)]
  have:=Int.mul_nonneg hm (hx.ge i hi)
  have:=Int.mul_nonneg hn (hy.ge i hi)
  omega
theorem DD.lenR (h:DD d E I L R):∀ r,r∈R->r.length=d:=fun r hr=>(h.keep r hr).len
theorem DD.con_keep (h:DD d E I L R) {x:V} (hx:Con d L (· ∈ R) x):Keep d E I x :=
 ⟨hx.length h.lenL h.lenR,fun e he=>hx.dot_zero h.lenL h.lenR (fun l hl=>h.lineE l hl e he) (fun r hr=>(h.keep r hr).eq e he),
  fun i hi=>hx.dot_nonneg h.lenL h.lenR (fun l hl=>h.lineI l hl i hi) (fun r hr=>(h.keep r hr).ge i hi)⟩
theorem DD.face (h:DD d E I L R) {S:V->Prop} (hS:∀ i,S i->I i) {x:V} (hx:Con d L (· ∈ R) x) (hz:∀ i,S i->dot i x=0):Con d L (fun r=>r∈R/\∀ i,S i->dot i r=0) x:=by
 induction hx with
 | zero=>exact .zero
 | @line x l c hx hl ih =>
  refine .line c (ih fun i hi=>?_) hl
  have:=hz i hi
  rw [bj _ _ _ ((hx.length h.lenL h.lenR).trans (h.lenL _ hl).symm),h.lineI l hl i (hS i hi)] at this
  simpa using this
 | @ray x r c hc hx hr ih =>
  have key:∀ i,S i->dot i x=0/\(0<c->dot i r=0):=fun i hi=>by
   have:=hz i hi
   rw [bj _ _ _ ((hx.length h.lenL h.lenR).trans (h.lenR _ hr).symm)] at this
   have h1:=(h.con_keep hx).ge i (hS i hi)
   have h2:=(h.keep r hr).ge i (hS i hi)
   have h3:=Int.mul_nonneg hc h2
   refine ⟨by omega,fun hc0=>?_⟩
   have h4:c*dot i r=0:=by omega
   rcases Int.mul_eq_zero.1 h4 with h5 | h5
   ·omega
   ·exact h5
  by_cases hc0:c=0
  ·subst hc0
   have e:mix 1 x 0 r=x:=aP (by rw [mix_length (hx.length h.lenL h.lenR) (h.lenR _ hr),hx.length h.lenL h.lenR]) fun i=>by
    rw [aj ((hx.length h.lenL h.lenR).trans (h.lenR _ hr).symm)]; grind
   rw [e]; exact ih fun i hi=>(key i hi).1
  ·exact .ray c hc (ih fun i hi=>(key i hi).1) ⟨hr,fun i hi=>(key i hi).2 (by omega)⟩
 | @div x k hk hl hx ih =>
  refine .div k hk hl (ih fun i hi=>?_)
  rw [dot_scl,hz i hi]; simp
theorem DD.same (h:DD d E I L R) {i j:Nat} {r s:V} (hi:R[i]? = some r) (hj:R[j]? = some s) (hs:∀ a,I a->(dot a r=0 ↔ dot a s=0)):i=j:=by
 rcases Nat.lt_trichotomy i j with hlt | heq | hlt
 ·exfalso
  obtain ⟨hi',rfl⟩:=List.getElem?_eq_some_iff.1 hi
  obtain ⟨hj',rfl⟩:=List.getElem?_eq_some_iff.1 hj
  exact List.pairwise_iff_getElem.1 h.apart i j hi' hj' hlt hs
 ·exact heq
 ·exfalso
  obtain ⟨hi',rfl⟩:=List.getElem?_eq_some_iff.1 hi
  obtain ⟨hj',rfl⟩:=List.getElem?_eq_some_iff.1 hj
  exact List.pairwise_iff_getElem.1 h.apart j i hj' hi' hlt fun a ha=>(hs a ha).symm
theorem DD.lin_of (h:DD d E I L R) {x:V} (hx:Keep d E I x) (hz:∀ i,I i->dot i x=0):Spn d L x:=h.lines x hx.len hx.eq hz
end
theorem vN:∀ (l:List V) (u v:V->Int),(∃ i∈l,0<v i)->∃ i∈l,0<v i/\∀ j∈l,0<v j->u i*v j<=u j*v i
 | [],u,v,h=>by obtain ⟨i,hi,_⟩:=h; cases hi
 | a :: l,u,v,h=>by
  by_cases hl:∃ i∈l,0<v i
  ·obtain ⟨i,hi,hv,hm⟩:=vN l u v hl
   by_cases ha:0<v a/\u a*v i<u i*v a
   ·refine ⟨a,List.mem_cons_self ..,ha.1,fun j hj hvj=>?_⟩
    rcases List.mem_cons.1 hj with rfl | hj
    ·exact Int.le_refl _
    ·have h1:=hm j hj hvj
     have h2:u a*v i*v j<=u i*v a*v j:=Int.mul_le_mul_of_nonneg_right (by omega) (by omega)
     have h3:u i*v j*v a<=u j*v i*v a:=Int.mul_le_mul_of_nonneg_right h1 (by omega)
     have h4:(u a*v j)*v i<=(u j*v a)*v i:=by
      have e1:u a*v j*v i=u a*v i*v j:=by grind
      have e2:u j*v a*v i=u j*v i*v a:=by grind
      have e3:u i*v a*v j=u i*v j*v a:=by grind
      rw [e1,e2]; rw [e3] at h2; exact Int.le_trans h2 h3
     exact Int.le_of_mul_le_mul_right h4 hv
   ·refine ⟨i,List.mem_cons_of_mem _ hi,hv,fun j hj hvj=>?_⟩
    rcases List.mem_cons.1 hj with rfl | hj
    ·exact Int.not_lt.1 fun hlt=>ha ⟨hvj,hlt⟩
    ·exact hm j hj hvj
  ·obtain ⟨i,hi,hv⟩:=h
   rcases List.mem_cons.1 hi with rfl | hi
   ·refine ⟨i,List.mem_cons_self ..,hv,fun j hj hvj=>?_⟩
    rcases List.mem_cons.1 hj with rfl | hj
    ·exact Int.le_refl _
    ·exact absurd ⟨j,hj,hvj⟩ hl
   ·exact absurd ⟨i,hi,hv⟩ hl
def nQ (l:List V) (x:V):Nat:=(l.filter fun i=>!decide (dot i x=0)).length
theorem yU {l:List V} {x y:V} (h:∀ i∈l,dot i x=0->dot i y=0):nQ l y<=nQ l x:=by
 unfold nQ
 induction l with
 | nil=>simp
 | cons a l ih =>
  have ih:=ih fun i hi=>h i (List.mem_cons_of_mem _ hi)
  have ha:=h a (List.mem_cons_self ..)
  simp only [List.filter_cons]
  by_cases hx:dot a x=0
  ·simp [hx,ha hx]; exact ih
  ·by_cases hy:dot a y=0
   ·simp [hx,hy]; omega
   ·simp [hx,hy]; exact ih
theorem Dj {l:List V} {x y:V} (h:∀ i∈l,dot i x=0->dot i y=0) {b:V} (hb:b∈l) (hx:dot b x≠0) (hy:dot b y=0):nQ l y<nQ l x:=by
 unfold nQ
 induction l with
 | nil=>cases hb
 | cons a l ih =>
  have h':=fun i hi=>h i (List.mem_cons_of_mem _ hi)
  have ha:=h a (List.mem_cons_self ..)
  simp only [List.filter_cons]
  rcases List.mem_cons.1 hb with rfl | hb
  ·have:=yU h'
   unfold nQ at this
   simp [hx,hy]; omega
  ·have ih:=ih h' hb
   by_cases hxa:dot a x=0
   ·simp [hxa,ha hxa]; exact ih
   ·by_cases hya:dot a y=0
    ·simp [hxa,hya]; omega
    ·simp [hxa,hya]; exact ih
section
variable {d:Nat} {E L:V->Prop} {R:List V} {l:List V} {a:V}
theorem lU {x m:V} (hx:Keep d E (· ∈ l) x) (hm:Keep d E (· ∈ l) m) (hsub:∀ i∈l,dot i x=0->dot i m=0) (hne:∃ i∈l,dot i m≠0) :
  ∃ b∈l,0<dot b m/\0<dot b x/\Keep d E (· ∈ l) (mix (dot b m) x (-(dot b x)) m)/\nQ l (mix (dot b m) x (-(dot b x)) m)<nQ l x/\∀ j∈l,0<dot j m->dot b x*dot j m<=dot j x*dot b m:=by
 obtain ⟨i0,hi0,hn0⟩:=hne
 have h0:=hm.ge i0 hi0
 obtain ⟨b,hb,hbm,hmin⟩:=vN l (fun i=>dot i x) (fun i=>dot i m) ⟨i0,hi0,by omega⟩
 have hbx:0<dot b x:=by
  have h1:=hx.ge b hb
  have h2:dot b x≠0:=fun e=>by have:=hsub b hb e; omega
  omega
 have hlen:=hx.len.trans hm.len.symm
 have hdot:∀ c,dot c (mix (dot b m) x (-(dot b x)) m)=dot b m*dot c x-dot b x*dot c m:=fun c=>by rw [bj _ _ _ hlen]; grind
 refine ⟨b,hb,hbm,hbx,⟨mix_length hx.len hm.len,fun e he=>by rw [hdot,hx.eq e he,hm.eq e he]; simp,fun j hj=>?_⟩,Dj (fun j hj hz=>by rw [hdot,hz,hsub j hj hz]; simp) hb (by omega) (by rw [hdot]; grind),hmin⟩
 rw [hdot]
 by_cases hj0:0<dot j m
 ·have:=hmin j hj hj0
  have e:dot b m*dot j x=dot j x*dot b m:=Int.mul_comm _ _
  omega
 ·have h1:=hm.ge j hj
  have h2:dot j m=0:=by omega
  have h3:=Int.mul_nonneg (Int.le_of_lt hbm) (hx.ge j hj)
  rw [h2]; simpa using h3
theorem eC:∀ (c x:V) (m:Int),dot (scl m c) x=m*dot c x:=fun c x m=>by rw [dot_comm,dot_scl,dot_comm]
theorem Con.face1 {L' R':V->Prop} (hLl:∀ l,L' l->l.length=d) (hRl:∀ r,R' r->r.length=d) (hL:∀ l,L' l->dot a l=0) (hR:∀ r,R' r->0<=dot a r) {x:V} (hx:Con d L' R' x) (hz:dot a x=0):Con d L' (fun r=>R' r/\dot a r=0) x:=by
 induction hx with
 | zero=>exact .zero
 | @line x l c hx hl ih =>
  refine .line c (ih ?_) hl
  rw [bj _ _ _ ((hx.length hLl hRl).trans (hLl _ hl).symm),hL l hl] at hz
  simpa using hz
 | @ray x r c hc hx hr ih =>
  rw [bj _ _ _ ((hx.length hLl hRl).trans (hRl _ hr).symm)] at hz
  have h1:=hx.dot_nonneg hLl hRl hL hR
  have h2:=Int.mul_nonneg hc (hR r hr)
  by_cases hc0:c=0
  ·subst hc0
   have e:mix 1 x 0 r=x:=aP (by rw [mix_length (hx.length hLl hRl) (hRl _ hr),hx.length hLl hRl]) fun i=>by
    rw [aj ((hx.length hLl hRl).trans (hRl _ hr).symm)]; grind
   rw [e]; exact ih (by omega)
  ·refine .ray c hc (ih (by omega)) ⟨hr,?_⟩
   have h4:c*dot a r=0:=by omega
   rcases Int.mul_eq_zero.1 h4 with h5 | h5
   ·omega
   ·exact h5
 | @div x k hk hl hx ih =>
  refine .div k hk hl (ih ?_)
  rw [dot_scl,hz]; simp
def mx (a p n:V):V:=mix (-(dot a n)) p (dot a p) n
variable {Rn:V->Prop} {k:Nat}
theorem oF (hLl:∀ l,L l->l.length=d) (hRl:∀ r,Rn r->r.length=d) {x m:V} (hx:x.length=d) {α β:Int} (hα:0<α) (hβ:0<=β) (hy:Con d L Rn (mix α x (-β) m)) (hm:Con d L Rn m):Con d L Rn x:=by
 have hml:=hm.length hLl hRl
 refine .div α hα hx ?_
 have e:scl α x=mix 1 (mix α x (-β) m) β m:=aP (by rw [ah hx,mix_length (mix_length hx hml) hml]) fun i=>by
  rw [aw,aj ((mix_length hx hml).trans hml.symm),aj (hx.trans hml.symm)]; grind
 rw [e]
 exact hy.sum2 hLl hRl hm (by omega) hβ
theorem C6 (h:DD d E (· ∈ l) L R) (hRl:∀ r,Rn r->r.length=d) (IH:∀ y,Keep d E (· ∈ l) y->dot a y=0->nQ l y<k->Con d L Rn y) {m m':V} (hm:Keep d E (· ∈ l) m) (hm':Keep d E (· ∈ l) m')
  (ha:dot a m=0) (ha':dot a m'=0) (hsub:∀ b∈l,dot b m=0->dot b m'=0) (hoff:∃ b∈l,dot b m'≠0) (hk:nQ l m<=k) (hno:∀ α β:Int,0<α->0<β->¬ Spn d L (mix α m (-β) m')):Con d L Rn m:=by
 have hlen:=hm.len.trans hm'.len.symm
 obtain ⟨b0,hb0,hα,hβ,hy,hyo,hmin⟩:=lU hm hm' hsub hoff
 have hay:dot a (mix (dot b0 m') m (-(dot b0 m)) m')=0:=by rw [bj _ _ _ hlen,ha,ha']; simp
 have hcy:=IH _ hy hay (by omega)
 by_cases hlt:nQ l m'<k
 ·exact oF h.lenL hRl hm.len hα (by omega) hcy (IH m' hm' ha' hlt)
 ·have hsub':∀ b∈l,dot b m'=0->dot b m=0:=fun b hb hz=>by
   by_cases hbm:dot b m=0
   ·exact hbm
   ·have:=Dj hsub hb hbm hz
    omega
  have hoff':∃ b∈l,dot b m≠0:=by
   obtain ⟨b,hb,hn⟩:=hoff
   exact ⟨b,hb,fun e=>hn (hsub b hb e)⟩
  obtain ⟨b1,hb1,hα',hβ',hy',hyo',-⟩:=lU hm' hm hsub' hoff'
  have hay':dot a (mix (dot b1 m) m' (-(dot b1 m')) m)=0:=by rw [bj _ _ _ hlen.symm,ha,ha']; simp
  have hcy':=IH _ hy' hay' (by have:=yU hsub; omega)
  have hle:=hmin b1 hb1 hβ'
  by_cases heq:dot b0 m*dot b1 m'=dot b1 m*dot b0 m'
  ·exfalso
   refine hno (dot b0 m') (dot b0 m) hα hβ (h.lin_of hy fun i hi=>?_)
   have g1:=hy.ge i hi
   have g2:=hy'.ge i hi
   rw [bj _ _ _ hlen] at g1 ⊢
   rw [bj _ _ _ hlen.symm] at g2
   have e:dot b1 m*(dot b0 m'*dot i m + -(dot b0 m)*dot i m')+dot b0 m*(dot b1 m*dot i m' + -(dot b1 m')*dot i m)=0:=by grind
   have p1:=Int.mul_nonneg (Int.le_of_lt hα') g1
   have p2:=Int.mul_nonneg (Int.le_of_lt hβ) g2
   have p3:dot b1 m*(dot b0 m'*dot i m + -(dot b0 m)*dot i m')=0:=by omega
   rcases Int.mul_eq_zero.1 p3 with p4 | p4
   ·omega
   ·exact p4
  ·refine .div (dot b1 m*dot b0 m'-dot b0 m*dot b1 m') (by omega) hm.len ?_
   have e:scl (dot b1 m*dot b0 m'-dot b0 m*dot b1 m') m=mix (dot b1 m) (mix (dot b0 m') m (-(dot b0 m)) m') (dot b0 m) (mix (dot b1 m) m' (-(dot b1 m')) m) :=
    aP (by rw [ah hm.len,mix_length (mix_length hm.len hm'.len) (mix_length hm'.len hm.len)]) fun i=>by
     rw [aw,aj ((mix_length hm.len hm'.len).trans (mix_length hm'.len hm.len).symm),aj hlen,aj hlen.symm]; grind
   rw [e]
   exact hcy.sum2 h.lenL hRl hcy' (by omega) (by omega)
theorem DD.sub_same (h:DD d E (· ∈ l) L R) {i j:Nat} {p q:V} (hi:R[i]? = some p) (hj:R[j]? = some q) (hs:∀ b∈l,dot b p=0->dot b q=0):i=j:=by
 have hp:=List.mem_of_getElem? hi
 have hq:=List.mem_of_getElem? hj
 obtain ⟨k,c,hk,hc,hsp⟩:=h.ext p hp q (h.keep q hq) hs
 refine h.same hi hj fun b hb=>⟨hs b hb,fun hz=>?_⟩
 have key:∀ b∈l,k*dot b q=c*dot b p:=fun b hb=>by
  have:=Con.dot_zero (a:=b) h.lenL (fun r h=>h.elim) (fun x hx=>h.lineI x hx b hb) (fun r h=>h.elim) hsp
  rw [bj _ _ _ ((h.keep q hq).len.trans (h.keep p hp).len.symm),Int.neg_mul] at this
  omega
 have hc0:c≠0:=fun e=>by
  obtain ⟨b',hb',hn⟩:=h.off q hq
  have:=key b' hb'
  rw [e] at this
  rcases Int.mul_eq_zero.1 (show k*dot b' q=0 by omega) with h1 | h1
  ·omega
  ·exact hn h1
 have:=key b hb
 rw [hz] at this
 rcases Int.mul_eq_zero.1 (show c*dot b p=0 by omega) with h1 | h1
 ·exact absurd h1 hc0
 ·exact h1
theorem DD.three (h:DD d E (· ∈ l) L R) {i j:Nat} {p q n:V} (hi:R[i]? = some p) (hj:R[j]? = some q) (hn:n∈R) {u v w:Int} (hu:0<u) (hv:0<v) (hw:0<=w) (hs:∀ b∈l,u*dot b p=v*dot b q+w*dot b n):i=j:=by
 refine h.sub_same hi hj fun b hb hz=>?_
 have e:=hs b hb
 rw [hz] at e
 have g1:=Int.mul_nonneg (Int.le_of_lt hv) ((h.keep q (List.mem_of_getElem? hj)).ge b hb)
 have g2:=Int.mul_nonneg hw ((h.keep n hn).ge b hb)
 rcases Int.mul_eq_zero.1 (show v*dot b q=0 by omega) with h1 | h1
 ·omega
 ·exact h1
theorem eA {p n:V} (hp:Keep d E (· ∈ l) p) (hn:Keep d E (· ∈ l) n) (h1:0<dot a p) (h2:dot a n<0):Keep d E (· ∈ l) (mx a p n):=hp.add hn (by omega) (by omega)
theorem r9 {p n:V} (hp:p.length=d) (hn:n.length=d) (c:V):dot c (mx a p n) = -(dot a n)*dot c p+dot a p*dot c n:=bj _ _ _ (hp.trans hn.symm)
theorem mR {p n:V} (hp:p.length=d) (hn:n.length=d):dot a (mx a p n)=0:=by rw [r9 hp hn]; grind
theorem Qd {p n:V} (hp:Keep d E (· ∈ l) p) (hn:Keep d E (· ∈ l) n) (h1:0<dot a p) (h2:dot a n<0) {b:V} (hb:b∈l):dot b (mx a p n)=0 ↔ dot b p=0/\dot b n=0:=by
 rw [r9 hp.len hn.len]
 have g1:=Int.mul_nonneg (show 0 <= -(dot a n) by omega) (hp.ge b hb)
 have g2:=Int.mul_nonneg (Int.le_of_lt h1) (hn.ge b hb)
 constructor
 ·intro e
  constructor
  ·rcases Int.mul_eq_zero.1 (show -(dot a n)*dot b p=0 by omega) with h | h
   ·omega
   ·exact h
  ·rcases Int.mul_eq_zero.1 (show dot a p*dot b n=0 by omega) with h | h
   ·omega
   ·exact h
 ·rintro ⟨e1,e2⟩
  rw [e1,e2]; simp
def Bs (l:List V) (R:List V) (i j:Nat) (p n:V):Prop:=∀ (t:Nat) (q:V),R[t]? = some q->t≠i->t≠j->¬ ∀ b∈l,dot b p=0->dot b n=0->dot b q=0
theorem JN (h:DD d E (· ∈ l) L R) (hal:∀ x,L x->dot a x=0) (hRl:∀ r,Rn r->r.length=d) (hz:∀ r∈R,dot a r=0->Rn r)
  (hmx:∀ i j p n,R[i]? = some p->R[j]? = some n->0<dot a p->dot a n<0->Bs l R i j p n->Con d L Rn (mx a p n))
  (IH:∀ y,Keep d E (· ∈ l) y->dot a y=0->nQ l y<k->Con d L Rn y) {i j:Nat} {p n:V} (hi:R[i]? = some p) (hj:R[j]? = some n) (h1:0<dot a p) (h2:dot a n<0) (hk:nQ l (mx a p n)<=k):Con d L Rn (mx a p n):=by
 have hp:=h.keep p (List.mem_of_getElem? hi)
 have hn:=h.keep n (List.mem_of_getElem? hj)
 by_cases hnear:Bs l R i j p n
 ·exact hmx i j p n hi hj h1 h2 hnear
 ·have ⟨t,q,ht,hti,htj,hq⟩:∃ t q,R[t]? = some q/\t≠i/\t≠j/\∀ b∈l,dot b p=0->dot b n=0->dot b q=0:=by
   apply Classical.byContradiction
   intro hno
   exact hnear fun t q ht h1 h2 h3=>hno ⟨t,q,ht,h1,h2,h3⟩
  have hqm:=List.mem_of_getElem? ht
  have hqk:=h.keep q hqm
  have hsubq:∀ b∈l,dot b (mx a p n)=0->dot b q=0:=fun b hb hz=>by
   obtain ⟨e1,e2⟩:=(Qd hp hn h1 h2 hb).1 hz
   exact hq b hb e1 e2
  rcases Int.lt_trichotomy (dot a q) 0 with hq0 | hq0 | hq0
  ·
   refine C6 (m':=mx a p q) h hRl IH (eA hp hn h1 h2) (eA hp hqk h1 hq0) (mR hp.len hn.len) (mR hp.len hqk.len) (fun b hb hz=>?_) ?_ hk (fun α β hα hβ hsp=>?_)
   ·exact (Qd hp hqk h1 hq0 hb).2 ⟨((Qd hp hn h1 h2 hb).1 hz).1,hsubq b hb hz⟩
   ·obtain ⟨b,hb,hbn⟩:=h.off q hqm
    exact ⟨b,hb,fun e=>hbn ((Qd hp hqk h1 hq0 hb).1 e).2⟩
   ·have key:∀ b∈l,α*(-(dot a n)*dot b p+dot a p*dot b n)=β*(-(dot a q)*dot b p+dot a p*dot b q):=fun b hb=>by
     have:=Con.dot_zero (a:=b) h.lenL (fun r h=>h.elim) (fun x hx=>h.lineI x hx b hb) (fun r h=>h.elim) hsp
     rw [bj _ _ _ ((eA hp hn h1 h2).len.trans (eA hp hqk h1 hq0).len.symm),r9 hp.len hn.len,r9 hp.len hqk.len] at this
     grind
    by_cases hg:0<=α*(-(dot a n))-β*(-(dot a q))
    ·
     have:=h.three ht hj (List.mem_of_getElem? hi) (u:=β*dot a p) (v:=α*dot a p) (w:=α*(-(dot a n))-β*(-(dot a q))) (Int.mul_pos hβ h1) (Int.mul_pos hα h1) hg (fun b hb=>by have:=key b hb; grind)
     exact htj this
    ·have:=h.three hj ht (List.mem_of_getElem? hi) (u:=α*dot a p) (v:=β*dot a p) (w:=β*(-(dot a q))-α*(-(dot a n))) (Int.mul_pos hα h1) (Int.mul_pos hβ h1) (by omega) (fun b hb=>by have:=key b hb; grind)
     exact htj this.symm
  ·
   obtain ⟨b0,hb0,hα,hβ,hy,hyo,-⟩:=lU (eA hp hn h1 h2) hqk hsubq (h.off q hqm)
   have hay:dot a (mix (dot b0 q) (mx a p n) (-(dot b0 (mx a p n))) q)=0:=by
    rw [bj _ _ _ ((eA hp hn h1 h2).len.trans hqk.len.symm),mR hp.len hn.len,hq0]; simp
   exact oF h.lenL hRl (eA hp hn h1 h2).len hα (by omega) (IH _ hy hay (by omega)) (Con.of_ray hqk.len (hz q hqm hq0))
  ·
   refine C6 (m':=mx a q n) h hRl IH (eA hp hn h1 h2) (eA hqk hn hq0 h2) (mR hp.len hn.len) (mR hqk.len hn.len) (fun b hb hz=>?_) ?_ hk (fun α β hα hβ hsp=>?_)
   ·exact (Qd hqk hn hq0 h2 hb).2 ⟨hsubq b hb hz,((Qd hp hn h1 h2 hb).1 hz).2⟩
   ·obtain ⟨b,hb,hbn⟩:=h.off q hqm
    exact ⟨b,hb,fun e=>hbn ((Qd hqk hn hq0 h2 hb).1 e).1⟩
   ·have key:∀ b∈l,α*(-(dot a n)*dot b p+dot a p*dot b n)=β*(-(dot a n)*dot b q+dot a q*dot b n):=fun b hb=>by
     have:=Con.dot_zero (a:=b) h.lenL (fun r h=>h.elim) (fun x hx=>h.lineI x hx b hb) (fun r h=>h.elim) hsp
     rw [bj _ _ _ ((eA hp hn h1 h2).len.trans (eA hqk hn hq0 h2).len.symm),r9 hp.len hn.len,r9 hqk.len hn.len] at this
     grind
    by_cases hg:0<=β*dot a q-α*dot a p
    ·have:=h.three hi ht (List.mem_of_getElem? hj) (u:=α*(-(dot a n))) (v:=β*(-(dot a n))) (w:=β*dot a q-α*dot a p) (Int.mul_pos hα (by omega)) (Int.mul_pos hβ (by omega)) hg (fun b hb=>by have:=key b hb; grind)
     exact hti this.symm
    ·have:=h.three ht hi (List.mem_of_getElem? hj) (u:=β*(-(dot a n))) (v:=α*(-(dot a n))) (w:=α*dot a p-β*dot a q) (Int.mul_pos hβ (by omega)) (Int.mul_pos hα (by omega)) (by omega) (fun b hb=>by have:=key b hb; grind)
     exact hti this
theorem A0 (h:DD d E (· ∈ l) L R) (hal:∀ x,L x->dot a x=0) (hRl:∀ r,Rn r->r.length=d) (hz:∀ r∈R,dot a r=0->Rn r)
  (hmx:∀ i j p n,R[i]? = some p->R[j]? = some n->0<dot a p->dot a n<0->Bs l R i j p n->Con d L Rn (mx a p n)) :
  ∀ (k:Nat) (x:V),nQ l x=k->Keep d E (· ∈ l) x->dot a x=0->Con d L Rn x:=by
 intro k
 induction k using Nat.strongRecOn with
 | _ k ih =>
  intro x hk hx hax
  have IH:∀ y,Keep d E (· ∈ l) y->dot a y=0->nQ l y<k->Con d L Rn y:=fun y hy hay hlt=>ih _ hlt y rfl hy hay
  have hf:=h.face (S:=fun i=>i∈l/\dot i x=0) (fun i hi=>hi.1) (h.all x hx) (fun i hi=>hi.2)
  have hJl:∀ r,(r∈R/\∀ i,(i∈l/\dot i x=0)->dot i r=0)->r.length=d:=fun r hr=>h.lenR r hr.1
  by_cases hp:∃ p,p∈R/\(∀ i,(i∈l/\dot i x=0)->dot i p=0)/\0<dot a p
  ·by_cases hn:∃ n,n∈R/\(∀ i,(i∈l/\dot i x=0)->dot i n=0)/\dot a n<0
   ·obtain ⟨p,hpR,hpJ,hp0⟩:=hp
    obtain ⟨n,hnR,hnJ,hn0⟩:=hn
    obtain ⟨i,hi⟩:=List.getElem?_of_mem hpR
    obtain ⟨j,hj⟩:=List.getElem?_of_mem hnR
    have hpk:=h.keep p hpR
    have hnk:=h.keep n hnR
    have hsub:∀ b∈l,dot b x=0->dot b (mx a p n)=0:=fun b hb hbx=>(Qd hpk hnk hp0 hn0 hb).2 ⟨hpJ b ⟨hb,hbx⟩,hnJ b ⟨hb,hbx⟩⟩
    have hm:=JN h hal hRl hz hmx IH hi hj hp0 hn0 (by have:=yU hsub; omega)
    obtain ⟨b0,hb0,hα,hβ,hy,hyo,-⟩:=lU hx (eA hpk hnk hp0 hn0) hsub (by
     obtain ⟨b,hb,hbn⟩:=h.off p hpR
     exact ⟨b,hb,fun e=>hbn ((Qd hpk hnk hp0 hn0 hb).1 e).1⟩)
    have hay:dot a (mix (dot b0 (mx a p n)) x (-(dot b0 x)) (mx a p n))=0:=by
     rw [bj _ _ _ (hx.len.trans (eA hpk hnk hp0 hn0).len.symm),hax,mR hpk.len hnk.len]; simp
    exact oF h.lenL hRl hx.len hα (by omega) (IH _ hy hay (by omega)) hm
   ·have:=Con.face1 (a:=a) h.lenL hJl (fun x hx=>hal x hx) (fun r hr=>Int.not_lt.1 fun hlt=>hn ⟨r,hr.1,hr.2,hlt⟩) hf hax
    exact this.mono (fun _ h=>h) fun r hr=>hz r hr.1.1 hr.2
  ·have:=Con.face1 (a:=scl (-1) a) h.lenL hJl (fun x hx=>by rw [eC,hal x hx]; simp) (fun r hr=>by
    rw [eC]
    have:¬ 0<dot a r:=fun hlt=>hp ⟨r,hr.1,hr.2,hlt⟩
    omega) hf (by rw [eC,hax]; simp)
   refine this.mono (fun _ h=>h) fun r hr=>hz r hr.1.1 ?_
   have:=hr.2
   rw [eC] at this
   omega
theorem J8 (h:DD d E (· ∈ l) L R) (hal:∀ x,L x->dot a x=0) (hRl:∀ r,Rn r->r.length=d) (hz:∀ r∈R,0<=dot a r->Rn r)
  (hmx:∀ i j p n,R[i]? = some p->R[j]? = some n->0<dot a p->dot a n<0->Bs l R i j p n->Con d L Rn (mx a p n)) :
  ∀ (k:Nat) (x:V),nQ l x=k->Keep d E (· ∈ l) x->0<=dot a x->Con d L Rn x:=by
 have hzero:=A0 h hal hRl (fun r hr e=>hz r hr (by omega)) hmx
 intro k
 induction k using Nat.strongRecOn with
 | _ k ih =>
  intro x hk hx hax
  by_cases hax0:dot a x=0
  ·exact hzero _ x rfl hx hax0
  ·have hf:=h.face (S:=fun i=>i∈l/\dot i x=0) (fun i hi=>hi.1) (h.all x hx) (fun i hi=>hi.2)
   have hJl:∀ r,(r∈R/\∀ i,(i∈l/\dot i x=0)->dot i r=0)->r.length=d:=fun r hr=>h.lenR r hr.1
   obtain ⟨p,hpR,hpJ,hp0⟩:∃ p,p∈R/\(∀ i,(i∈l/\dot i x=0)->dot i p=0)/\0<dot a p:=by
    by_cases hp:∃ p,p∈R/\(∀ i,(i∈l/\dot i x=0)->dot i p=0)/\0<dot a p
    ·exact hp
    ·exfalso
     have:=Con.dot_nonneg (a:=scl (-1) a) h.lenL hJl (fun x hx=>by rw [eC,hal x hx]; simp) (fun r hr=>by
      rw [eC]
      have:¬ 0<dot a r:=fun hlt=>hp ⟨r,hr.1,hr.2,hlt⟩
      omega) hf
     rw [eC] at this
     omega
   have hpk:=h.keep p hpR
   obtain ⟨b0,hb0,hα,hβ,hy,hyo,-⟩:=lU hx hpk (fun b hb e=>hpJ b ⟨hb,e⟩) (h.off p hpR)
   have hlen:=hx.len.trans hpk.len.symm
   have hcp:Con d L Rn p:=Con.of_ray hpk.len (hz p hpR (by omega))
   by_cases hay:0<=dot a (mix (dot b0 p) x (-(dot b0 x)) p)
   ·exact oF h.lenL hRl hx.len hα (by omega) (ih _ (by omega) _ rfl hy hay) hcp
   ·
    have hd:∀ c,dot c (mix (dot a p) x (-(dot a x)) p)=dot a p*dot c x-dot a x*dot c p:=fun c=>by rw [bj _ _ _ hlen]; grind
    have hy2:Keep d E (· ∈ l) (mix (dot a p) x (-(dot a x)) p):=by
     refine ⟨mix_length hx.len hpk.len,fun e he=>by rw [hd,hx.eq e he,hpk.eq e he]; simp,fun j hj=>?_⟩
     rw [hd]
     have g:=hy.ge j hj
     rw [bj _ _ _ hlen] at g hay
     have gx:=hx.ge j hj
     have gp:=hpk.ge j hj
     have e1:dot b0 p*(dot a p*dot j x-dot a x*dot j p)=dot a p*(dot b0 p*dot j x + -(dot b0 x)*dot j p)+dot j p * -(dot b0 p*dot a x + -(dot b0 x)*dot a p):=by grind
     have e2:=Int.mul_nonneg (Int.le_of_lt hp0) g
     have e3:=Int.mul_nonneg gp (show 0 <= -(dot b0 p*dot a x + -(dot b0 x)*dot a p) by omega)
     refine Int.nonneg_of_mul_nonneg_right (a:=dot b0 p) ?_ hα
     omega
    exact oF h.lenL hRl hx.len hp0 hax (hzero _ _ rfl hy2 (by rw [hd]; grind)) hcp
end
def content (x:V):Nat:=x.foldl (fun g a=>Nat.gcd g a.natAbs) 0
def prime (x:V):V:=if content x=0 then x else x.map (fun a=>a / (content x:Int))
theorem ww:∀ (x:V) (g:Nat),(x.foldl (fun g a=>Nat.gcd g a.natAbs) g) ∣ g/\∀ a∈x,((x.foldl (fun g a=>Nat.gcd g a.natAbs) g:Nat):Int) ∣ a
 | [],g=>⟨Nat.dvd_refl _,fun a h=>by cases h⟩
 | b :: x,g=>by
  obtain ⟨h1,h2⟩:=ww x (Nat.gcd g b.natAbs)
  simp only [List.foldl_cons]
  refine ⟨Nat.dvd_trans h1 (Nat.gcd_dvd_left _ _),fun a ha=>?_⟩
  rcases List.mem_cons.1 ha with rfl | ha
  ·exact Int.ofNat_dvd_left.2 (Nat.dvd_trans h1 (Nat.gcd_dvd_right _ _))
  ·exact h2 a ha
theorem content_dvd {x:V} {a:Int} (h:a∈x):(content x:Int) ∣ a:=(ww x 0).2 a h
theorem prime_length (x:V):(prime x).length=x.length:=by unfold prime; split <;> simp
theorem qU (x:V):scl 1 x=x:=by
 unfold scl
 conv=>rhs; rw [<- List.map_id x]
 exact List.map_congr_left fun a _=>by simp
theorem iO (x:V):∃ c:Int,0<c/\scl c (prime x)=x:=by
 by_cases h:content x=0
 ·exact ⟨1,by omega,by unfold prime; rw [if_pos h,qU]⟩
 ·refine ⟨(content x:Int),by omega,?_⟩
  unfold prime scl
  rw [if_neg h,List.map_map]
  conv=>rhs; rw [<- List.map_id x]
  refine List.map_congr_left fun a ha=>?_
  exact Int.mul_ediv_cancel' (content_dvd ha)
section
variable {d:Nat} {E L L' Rn:V->Prop} {R:List V} {l:List V} {a:V}
theorem Keep.of_scl {I:V->Prop} {c:Int} (hc:0<c) {x:V} (hx:x.length=d) (h:Keep d E I (scl c x)):Keep d E I x:=by
 refine ⟨hx,fun e he=>?_,fun i hi=>?_⟩
 ·have:=h.eq e he
  rw [dot_scl] at this
  rcases Int.mul_eq_zero.1 this with h1 | h1
  ·omega
  ·exact h1
 ·have:=h.ge i hi
  rw [dot_scl] at this
  exact Int.nonneg_of_mul_nonneg_right this hc
theorem jG {c:Int} (hc:0<c) {b x:V}:dot b (scl c x)=0 ↔ dot b x=0:=by
 rw [dot_scl]
 constructor
 ·intro h
  rcases Int.mul_eq_zero.1 h with h1 | h1
  ·omega
  ·exact h1
 ·intro h; rw [h]; simp
theorem Con.image {R0:V->Prop} (hLl:∀ x,L x->x.length=d) (hRl:∀ x,R0 x->x.length=d) (hL':∀ x,L' x->x.length=d) (hR':∀ x,Rn x->x.length=d) (f:V->V) (hf0:f (jJ d)=jJ d)
  (hfm:∀ x y c,x.length=d->y.length=d->f (mix 1 x c y)=mix 1 (f x) c (f y)) (hfs:∀ x c,x.length=d->f (scl c x)=scl c (f x)) (hfl:∀ x,x.length=d->(f x).length=d)
  (h1:∀ x,L x->∀ c:Int,Con d L' Rn (scl c (f x))) (h2:∀ x,R0 x->Con d L' Rn (f x)) {x:V} (hx:Con d L R0 x):Con d L' Rn (f x):=by
 induction hx with
 | zero=>rw [hf0]; exact .zero
 | @line x y c hx hy ih =>
  have l1:=hx.length hLl hRl
  have l2:=hLl _ hy
  rw [hfm x y c l1 l2]
  have e:mix 1 (f x) c (f y)=mix 1 (f x) 1 (scl c (f y)):=aP (by rw [mix_length (hfl x l1) (hfl y l2),mix_length (hfl x l1) (ah (hfl y l2))]) fun i=>by
   rw [aj ((hfl x l1).trans (hfl y l2).symm),aj ((hfl x l1).trans (ah (hfl y l2)).symm),aw]; grind
  rw [e]
  exact (h1 y hy c).add hL' hR' _ ih
 | @ray x y c hc hx hy ih =>
  rw [hfm x y c (hx.length hLl hRl) (hRl _ hy)]
  exact ih.sum2 hL' hR' (h2 y hy) (by omega) hc
 | @div x k hk hl hx ih =>
  rw [hfs x k hl] at ih
  exact .div k hk (hfl x hl) ih
def mv (a u:V) (x:V):V:=mix (dot a u) x (-(dot a x)) u
theorem bo {u x:V} (hu:u.length=d) (hx:x.length=d):(mv a u x).length=d:=mix_length hx hu
theorem se {u x:V} (hu:u.length=d) (hx:x.length=d) (b:V):dot b (mv a u x)=dot a u*dot b x-dot a x*dot b u:=by
 unfold mv; rw [bj _ _ _ (hx.trans hu.symm)]; grind
theorem Ce {u:V} (hu:u.length=d):mv a u (jJ d)=jJ d:=aP (by rw [bo hu (bY d),bY]) fun i=>by
 unfold mv; rw [aj ((bY d).trans hu.symm),Pm,kK]; simp
theorem Cf {u x y:V} {c:Int} (hu:u.length=d) (hx:x.length=d) (hy:y.length=d):mv a u (mix 1 x c y)=mix 1 (mv a u x) c (mv a u y) :=
 aP (by rw [bo hu (mix_length hx hy),mix_length (bo hu hx) (bo hu hy)]) fun i=>by
  rw [aj ((bo hu hx).trans (bo hu hy).symm)]
  unfold mv
  rw [aj ((mix_length hx hy).trans hu.symm),aj (hx.trans hy.symm),aj (hx.trans hu.symm),aj (hy.trans hu.symm),bj _ _ _ (hx.trans hy.symm)]; grind
theorem yW {u x:V} {c:Int} (hu:u.length=d) (hx:x.length=d):mv a u (scl c x)=scl c (mv a u x) :=
 aP (by rw [bo hu (ah hx),ah (bo hu hx)]) fun i=>by
  rw [aw]
  unfold mv
  rw [aj ((ah hx).trans hu.symm),aw,aj (hx.trans hu.symm),dot_scl]; grind
theorem Dk {u:V} (hu:u.length=d):mv a u u=jJ d:=aP (by rw [bo hu hu,bY]) fun i=>by
 unfold mv; rw [aj rfl,Pm]; grind
theorem sf {u x:V} (hu:u.length=d) (hx:x.length=d) (h:dot a x=0):mv a u x=scl (dot a u) x:=aP (by rw [bo hu hx,ah hx]) fun i=>by
 unfold mv; rw [aj (hx.trans hu.symm),aw,h]; simp
def foldV (a u:V) (x:V):V:=prime (mv a u x)
theorem eB {u x:V} (hu:u.length=d) (hx:x.length=d):(foldV a u x).length=d:=by unfold foldV; rw [prime_length]; exact bo hu hx
theorem jQ (u x:V):∃ c:Int,0<c/\scl c (foldV a u x)=mv a u x:=iO _
theorem J4 {L0:V->Prop} {Ls:List V} {u:V} (h:DD d E (· ∈ l) L0 R) (ha:a.length=d) (hL0:∀ x,L0 x->x∈Ls\/∃ s:Int,x=scl s u) (hLs:∀ x∈Ls,L0 x) (hul:u.length=d) (huE:∀ e,E e->dot e u=0) (huI:∀ i∈l,dot i u=0) (hu:0<dot a u) (eq:Bool) :
  DD d (fun e=>E e\/(eq=true/\e=a)) (· ∈ l++(if eq then [] else [a])) (· ∈ Ls.map (foldV a u)) (R.map (foldV a u)++(if eq then [] else [u])):=by
 have lLs:∀ x∈Ls,x.length=d:=fun x hx=>h.lenL x (hLs x hx)
 have hin:∀ i,i∈l++(if eq then [] else [a]) ↔ i∈l\/(eq=false/\i=a):=fun i=>by cases eq <;> simp
 have hdotF:∀ x,x.length=d->∀ b,(dot b u=0\/b=a)->(dot b (foldV a u x)=0 ↔ b=a\/dot b x=0):=fun x hx b hb=>by
  obtain ⟨c,hc,e⟩:=jQ (a:=a) u x
  rw [<- jG hc,e,se hul hx]
  rcases hb with hb | rfl
  ·rw [hb]
   constructor
   ·intro h
    rcases Int.mul_eq_zero.1 (show dot a u*dot b x=0 by omega) with h1 | h1
    ·omega
    ·exact .inr h1
   ·rintro (rfl | h)
    ·omega
    ·rw [h]; simp
  ·constructor
   ·intro _; exact .inl rfl
   ·intro _; grind
 have hposF:∀ x,x.length=d->∀ b,dot b u=0->0<=dot b x->0<=dot b (foldV a u x):=fun x hx b hb h0=>by
  obtain ⟨c,hc,e⟩:=jQ (a:=a) u x
  have:0<=dot b (scl c (foldV a u x)):=by
   rw [e,se hul hx,hb]
   have:=Int.mul_nonneg (Int.le_of_lt hu) h0
   omega
  rw [dot_scl] at this
  exact Int.nonneg_of_mul_nonneg_right this hc
 have lL':∀ x,x∈Ls.map (foldV a u)->x.length=d:=fun x hx=>by
  obtain ⟨y,hy,rfl⟩:=List.mem_map.1 hx
  exact eB hul (lLs y hy)
 have lR':∀ x,x∈R.map (foldV a u)++(if eq then [] else [u])->x.length=d:=fun x hx=>by
  rcases List.mem_append.1 hx with hx | hx
  ·obtain ⟨y,hy,rfl⟩:=List.mem_map.1 hx
   exact eB hul (h.lenR y hy)
  ·cases eq
   ·simp at hx; rw [hx]; exact hul
   ·simp at hx
 have lineTo:∀ (Q:V->Prop) x,L0 x->∀ c:Int,Con d (· ∈ Ls.map (foldV a u)) Q (scl c (mv a u x)):=fun Q x hx c=>by
  rcases hL0 x hx with hx | ⟨s,rfl⟩
  ·obtain ⟨c',hc',e⟩:=jQ (a:=a) u x
   rw [<- e]
   have e2:scl c (scl c' (foldV a u x))=scl (c*c') (foldV a u x):=aP (by simp [scl]) fun i=>by rw [aw,aw,aw]; grind
   rw [e2]
   exact Con.of_line (eB hul (lLs x hx)) (List.mem_map_of_mem hx) _
  ·have e:scl c (mv a u (scl s u))=jJ d:=by
    rw [yW hul hul,Dk hul]
    exact aP (by simp [scl,jJ]) fun i=>by rw [aw,aw,Pm]; simp
   rw [e]; exact .zero
 have spnTo:∀ {x},Spn d L0 x->Spn d (· ∈ Ls.map (foldV a u)) (mv a u x):=fun hx =>
  Con.image h.lenL (fun r h=>h.elim) lL' (fun r h=>h.elim) (mv a u) (Ce hul) (fun x y c hx hy=>Cf hul hx hy) (fun x c hx=>yW hul hx) (fun x hx=>bo hul hx) (lineTo _) (fun r h=>h.elim) hx
 have conTo:∀ {x},Con d L0 (· ∈ R) x->Con d (· ∈ Ls.map (foldV a u)) (· ∈ R.map (foldV a u)++(if eq then [] else [u])) (mv a u x):=fun hx =>
  Con.image h.lenL h.lenR lL' lR' (mv a u) (Ce hul) (fun x y c hx hy=>Cf hul hx hy) (fun x c hx=>yW hul hx) (fun x hx=>bo hul hx) (lineTo _) (fun r hr=>by
   obtain ⟨c',hc',e⟩:=jQ (a:=a) u r
   rw [<- e]
   exact (Con.of_ray (eB hul (h.lenR r hr)) (List.mem_append_left _ (List.mem_map_of_mem hr))).smul lL' lR' c' (by omega)) hx
 have old:∀ {x},Keep d (fun e=>E e\/(eq=true/\e=a)) (· ∈ l++(if eq then [] else [a])) x->Keep d E (· ∈ l) x:=fun hx=>⟨hx.len,fun e he=>hx.eq e (.inl he),fun i hi=>hx.ge i ((hin i).2 (.inl hi))⟩
 refine ⟨lL',?_,?_,?_,?_,?_,?_,?_,?_⟩
 ·
  intro x hx e he
  obtain ⟨y,hy,rfl⟩:=List.mem_map.1 hx
  rcases he with he | ⟨-,rfl⟩
  ·exact (hdotF y (lLs y hy) e (.inl (huE e he))).2 (.inr (h.lineE y (hLs y hy) e he))
  ·exact (hdotF y (lLs y hy) e (.inr rfl)).2 (.inl rfl)
 ·
  intro x hx i hi
  obtain ⟨y,hy,rfl⟩:=List.mem_map.1 hx
  rcases (hin i).1 hi with hi | ⟨-,rfl⟩
  ·exact (hdotF y (lLs y hy) i (.inl (huI i hi))).2 (.inr (h.lineI y (hLs y hy) i hi))
  ·exact (hdotF y (lLs y hy) i (.inr rfl)).2 (.inl rfl)
 ·
  intro x hx hE hI
  have hax:dot a x=0:=by
   cases eq
   ·exact hI a ((hin a).2 (.inr ⟨rfl,rfl⟩))
   ·exact hE a (.inr ⟨rfl,rfl⟩)
  have:=spnTo (h.lines x hx (fun e he=>hE e (.inl he)) (fun i hi=>hI i ((hin i).2 (.inl hi))))
  rw [sf hul hx hax] at this
  exact .div _ hu hx this
 ·
  intro r hr
  rcases List.mem_append.1 hr with hr | hr
  ·obtain ⟨y,hy,rfl⟩:=List.mem_map.1 hr
   have hyk:=h.keep y hy
   refine ⟨eB hul hyk.len,fun e he=>?_,fun i hi=>?_⟩
   ·rcases he with he | ⟨-,rfl⟩
    ·exact (hdotF y hyk.len e (.inl (huE e he))).2 (.inr (hyk.eq e he))
    ·exact (hdotF y hyk.len e (.inr rfl)).2 (.inl rfl)
   ·rcases (hin i).1 hi with hi | ⟨-,rfl⟩
    ·exact hposF y hyk.len i (huI i hi) (hyk.ge i hi)
    ·have:=(hdotF y hyk.len i (.inr rfl)).2 (.inl rfl); omega
  ·cases eq
   ·simp at hr
    subst hr
    refine ⟨hul,fun e he=>?_,fun i hi=>?_⟩
    ·rcases he with he | ⟨h,_⟩
     ·exact huE e he
     ·cases h
    ·rcases (hin i).1 hi with hi | ⟨-,rfl⟩
     ·have:=huI i hi; omega
     ·omega
   ·simp at hr
 ·
  intro x hx
  have hc:=conTo (h.all x (old hx))
  cases hq:eq with
  | true =>
   have hax:dot a x=0:=hx.eq a (.inr ⟨hq,rfl⟩)
   rw [sf hul hx.len hax] at hc
   rw [hq] at hc
   exact .div _ hu hx.len hc
  | false =>
   have hax:0<=dot a x:=hx.ge a ((hin a).2 (.inr ⟨hq,rfl⟩))
   rw [hq] at hc lR'
   refine .div (dot a u) hu hx.len ?_
   have e:scl (dot a u) x=mix 1 (mv a u x) (dot a x) u:=aP (by rw [ah hx.len,mix_length (bo hul hx.len) hul]) fun i=>by
    rw [aw,aj ((bo hul hx.len).trans hul.symm)]
    unfold mv
    rw [aj (hx.len.trans hul.symm)]; grind
   rw [e]
   exact .ray _ hax hc (by simp)
 ·
  intro r hr
  rcases List.mem_append.1 hr with hr | hr
  ·obtain ⟨y,hy,rfl⟩:=List.mem_map.1 hr
   obtain ⟨b,hb,hn⟩:=h.off y hy
   obtain ⟨c,hc,e⟩:=jQ (a:=a) u y
   refine ⟨b,(hin b).2 (.inl hb),fun h0=>?_⟩
   rw [<- jG hc,e,se hul (h.lenR y hy),huI b hb] at h0
   rcases Int.mul_eq_zero.1 (show dot a u*dot b y=0 by omega) with h1 | h1
   ·omega
   ·exact hn h1
  ·cases eq
   ·simp at hr
    subst hr
    exact ⟨a,(hin a).2 (.inr ⟨rfl,rfl⟩),by omega⟩
   ·simp at hr
 ·
  intro r hr y hy hs
  have hyo:=old hy
  rcases List.mem_append.1 hr with hr | hr
  ·obtain ⟨z,hz,rfl⟩:=List.mem_map.1 hr
   have hzl:=h.lenR z hz
   have hay:dot a y=0:=by
    cases eq
    ·exact hs a ((hin a).2 (.inr ⟨rfl,rfl⟩)) ((hdotF z hzl a (.inr rfl)).2 (.inl rfl))
    ·exact hy.eq a (.inr ⟨rfl,rfl⟩)
   obtain ⟨k,c,hk,hc,hsp⟩:=h.ext z hz y hyo (fun i hi h0=>hs i ((hin i).2 (.inl hi)) ((hdotF z hzl i (.inl (huI i hi))).2 (.inr h0)))
   obtain ⟨c',hc',e⟩:=jQ (a:=a) u z
   refine ⟨k*dot a u,c*c',Int.mul_pos hk hu,Int.mul_nonneg hc (by omega),?_⟩
   have:=spnTo hsp
   have e2:mv a u (mix k y (-c) z)=mix (k*dot a u) y (-(c*c')) (foldV a u z):=aP (by rw [bo hul (mix_length hyo.len hzl),mix_length hyo.len (eB hul hzl)]) fun i=>by
    have e3:at_ (mv a u z) i=c'*at_ (foldV a u z) i:=by rw [<- e,aw]
    rw [aj (hyo.len.trans (eB hul hzl).symm)]
    unfold mv at e3 ⊢
    rw [aj ((mix_length hyo.len hzl).trans hul.symm),aj (hyo.len.trans hzl.symm),bj _ _ _ (hyo.len.trans hzl.symm),hay]
    rw [aj (hzl.trans hul.symm)] at e3
    grind
   rw [e2] at this
   exact this
  ·cases hq:eq with
   | true=>rw [hq] at hr; simp at hr
   | false =>
    rw [hq] at hr
    simp at hr
    subst hr
    have hay:0<=dot a y:=hy.ge a ((hin a).2 (.inr ⟨hq,rfl⟩))
    refine ⟨dot a r,dot a y,hu,hay,?_⟩
    have:=spnTo (h.lin_of hyo fun i hi=>hs i ((hin i).2 (.inl hi)) (huI i hi))
    exact this
 ·
  refine List.pairwise_append.2 ⟨?_,by cases eq <;> simp,fun r hr s hs=>?_⟩
  ·refine List.pairwise_map.2 (h.apart.imp_of_mem fun {r s} hr hs hne h2=>hne fun i hi=>?_)
   have g:=h2 i ((hin i).2 (.inl hi))
   rw [hdotF r (h.lenR r hr) i (.inl (huI i hi)),hdotF s (h.lenR s hs) i (.inl (huI i hi))] at g
   by_cases hia:i=a
   ·subst hia; have:=huI i hi; omega
   ·simpa [hia] using g
  ·cases eq
   ·simp at hs
    subst hs
    obtain ⟨y,hy,rfl⟩:=List.mem_map.1 hr
    intro h2
    have:=(h2 a ((hin a).2 (.inr ⟨rfl,rfl⟩))).1 ((hdotF y (h.lenR y hy) a (.inr rfl)).2 (.inl rfl))
    omega
   ·simp at hs
theorem GF (hLl:∀ x,L x->x.length=d) {p n:V} (hp:p.length=d) (hn:n.length=d) {y:V} (hy:Con d L (fun r=>r=p\/r=n) y) :
  ∃ k α β:Int,0<k/\0<=α/\0<=β/\Spn d L (mix k y (-1) (mix α p β n)):=by
 have hRl:∀ r,(r=p\/r=n)->r.length=d:=fun r hr=>by rcases hr with rfl | rfl <;> first | exact hp | exact hn
 induction hy with
 | zero =>
  refine ⟨1,0,0,by omega,by omega,by omega,?_⟩
  have e:mix 1 (jJ d) (-1) (mix 0 p 0 n)=jJ d:=aP (by rw [mix_length (bY d) (mix_length hp hn),bY]) fun i=>by
   rw [aj ((bY d).trans (mix_length hp hn).symm),aj (hp.trans hn.symm),Pm]; grind
  rw [e]; exact .zero
 | @line x z c hx hz ih =>
  obtain ⟨k,α,β,hk,hα,hβ,h⟩:=ih
  have hxl:=hx.length hLl hRl
  have hzl:=hLl _ hz
  refine ⟨k,α,β,hk,hα,hβ,?_⟩
  have e:mix k (mix 1 x c z) (-1) (mix α p β n)=mix 1 (mix k x (-1) (mix α p β n)) (k*c) z:=aP (by rw [mix_length (mix_length hxl hzl) (mix_length hp hn),mix_length (mix_length hxl (mix_length hp hn)) hzl]) fun i=>by
   rw [aj ((mix_length hxl hzl).trans (mix_length hp hn).symm),aj (hxl.trans hzl.symm),aj ((mix_length hxl (mix_length hp hn)).trans hzl.symm),aj (hxl.trans (mix_length hp hn).symm)]; grind
  rw [e]; exact .line _ h hz
 | @ray x z c hc hx hz ih =>
  obtain ⟨k,α,β,hk,hα,hβ,h⟩:=ih
  have hxl:=hx.length hLl hRl
  rcases hz with rfl | rfl
  ·refine ⟨k,α+k*c,β,hk,by have:=Int.mul_nonneg (Int.le_of_lt hk) hc; omega,hβ,?_⟩
   have e:mix k (mix 1 x c z) (-1) (mix (α+k*c) z β n)=mix k x (-1) (mix α z β n):=aP (by rw [mix_length (mix_length hxl hp) (mix_length hp hn),mix_length hxl (mix_length hp hn)]) fun i=>by
    rw [aj ((mix_length hxl hp).trans (mix_length hp hn).symm),aj (hxl.trans hp.symm),aj (hp.trans hn.symm),aj (hxl.trans (mix_length hp hn).symm),aj (hp.trans hn.symm)]; grind
   rw [e]; exact h
  ·refine ⟨k,α,β+k*c,hk,hα,by have:=Int.mul_nonneg (Int.le_of_lt hk) hc; omega,?_⟩
   have e:mix k (mix 1 x c z) (-1) (mix α p (β+k*c) z)=mix k x (-1) (mix α p β z):=aP (by rw [mix_length (mix_length hxl hn) (mix_length hp hn),mix_length hxl (mix_length hp hn)]) fun i=>by
    rw [aj ((mix_length hxl hn).trans (mix_length hp hn).symm),aj (hxl.trans hn.symm),aj (hp.trans hn.symm),aj (hxl.trans (mix_length hp hn).symm),aj (hp.trans hn.symm)]; grind
   rw [e]; exact h
 | @div x j hj hl hx ih =>
  obtain ⟨k,α,β,hk,hα,hβ,h⟩:=ih
  refine ⟨k*j,α,β,Int.mul_pos hk hj,hα,hβ,?_⟩
  have e:mix k (scl j x) (-1) (mix α p β n)=mix (k*j) x (-1) (mix α p β n):=aP (by rw [mix_length (ah hl) (mix_length hp hn),mix_length hl (mix_length hp hn)]) fun i=>by
   rw [aj ((ah hl).trans (mix_length hp hn).symm),aw,aj (hl.trans (mix_length hp hn).symm)]; grind
  rw [e] at h; exact h
def idxs (R:List V) (f:V->Bool):List Nat:=(List.range R.length).filter fun i=>f (R.getD i [])
def nearB (l R:List V) (i k:Nat):Bool:=(List.range R.length).all fun t=>t == i || t == k || !(l.all fun b=>!(dot b (R.getD i []) == 0 && dot b (R.getD k []) == 0) || dot b (R.getD t []) == 0)
def cutL (l:List V) (a:V) (eq:Bool) (R:List V):List V :=
 (idxs R fun r=>dot a r == 0).map (R.getD · []) ++
 (idxs R fun r=>decide (0<dot a r)).flatMap fun i=>(if eq then [] else [R.getD i []]) ++
  ((idxs R fun r=>decide (dot a r<0)).filter (nearB l R i)).map fun k=>prime (mx a (R.getD i []) (R.getD k []))
theorem mem_idxs {f:V->Bool} {i:Nat}:i∈idxs R f ↔ ∃ r,R[i]? = some r/\f r=true:=by
 unfold idxs
 rw [List.mem_filter,List.mem_range]
 constructor
 ·rintro ⟨h1,h2⟩
  exact ⟨R[i],List.getElem?_eq_getElem h1,by simpa [h1] using h2⟩
 ·rintro ⟨r,h1,h2⟩
  obtain ⟨h3,rfl⟩:=List.getElem?_eq_some_iff.1 h1
  exact ⟨h3,by simpa [h3] using h2⟩
theorem getD_of {i:Nat} {r:V} (h:R[i]? = some r):R.getD i []=r:=by simp [List.getD_eq_getElem?_getD,h]
theorem l7 {i k:Nat} {p n:V} (hi:R[i]? = some p) (hk:R[k]? = some n):nearB l R i k=true ↔ Bs l R i k p n:=by
 unfold nearB Bs
 rw [getD_of hi,getD_of hk,List.all_eq_true]
 constructor
 ·intro h t q ht hti htk hall
  have:=h t (List.mem_range.2 (List.getElem?_eq_some_iff.1 ht).1)
  rw [getD_of ht] at this
  simp only [Bool.or_eq_true,beq_iff_eq,hti,htk,false_or,Bool.not_eq_true',List.all_eq_false] at this
  obtain ⟨b,hb,hn⟩:=this
  apply hn
  simp only [Bool.or_eq_true,Bool.not_eq_true',Bool.and_eq_false_iff,beq_eq_false_iff_ne,beq_iff_eq]
  by_cases h1:dot b p=0
  ·by_cases h2:dot b n=0
   ·exact .inr (hall b hb h1 h2)
   ·exact .inl (.inr h2)
  ·exact .inl (.inl h1)
 ·intro h t ht
  have ht:=List.mem_range.1 ht
  have hq:R[t]? = some R[t]:=List.getElem?_eq_getElem ht
  rw [getD_of hq]
  by_cases hti:t=i
  ·simp [hti]
  ·by_cases htk:t=k
   ·simp [htk]
   ·have:=h t _ hq hti htk
    simp only [Bool.or_eq_true,beq_iff_eq,hti,htk,false_or,Bool.not_eq_true',List.all_eq_false]
    simp only [Classical.not_forall,Classical.not_imp] at this
    obtain ⟨b,hb,h1,h2,h3⟩:=this
    exact ⟨b,hb,by simp [h1,h2,h3]⟩
theorem mem_cutL {eq:Bool} {r':V}:r'∈cutL l a eq R ↔ (∃ (i:Nat) (r:V),R[i]? = some r/\dot a r=0/\r'=r)\/(∃ (i:Nat) (r:V),R[i]? = some r/\0<dot a r/\((eq=false/\r'=r)\/∃ (k:Nat) (n:V),R[k]? = some n/\dot a n<0/\Bs l R i k r n/\r'=prime (mx a r n))):=by
 unfold cutL
 rw [List.mem_append,List.mem_map,List.mem_flatMap]
 constructor
 ·rintro (⟨i,hi,rfl⟩ | ⟨i,hi,h⟩)
  ·obtain ⟨r,h1,h2⟩:=mem_idxs.1 hi
   exact .inl ⟨i,r,h1,by simpa using h2,getD_of h1⟩
  ·obtain ⟨r,h1,h2⟩:=mem_idxs.1 hi
   refine .inr ⟨i,r,h1,by simpa using h2,?_⟩
   rw [getD_of h1] at h
   rcases List.mem_append.1 h with h | h
   ·cases eq
    ·exact .inl ⟨rfl,by simpa using h⟩
    ·simp at h
   ·obtain ⟨k,hk,rfl⟩:=List.mem_map.1 h
    obtain ⟨hk1,hk2⟩:=List.mem_filter.1 hk
    obtain ⟨n,h3,h4⟩:=mem_idxs.1 hk1
    exact .inr ⟨k,n,h3,by simpa using h4,(l7 h1 h3).1 hk2,by rw [getD_of h3]⟩
 ·rintro (⟨i,r,h1,h2,rfl⟩ | ⟨i,r,h1,h2,h⟩)
  ·exact .inl ⟨i,mem_idxs.2 ⟨r',h1,by simp [h2]⟩,getD_of h1⟩
  ·refine .inr ⟨i,mem_idxs.2 ⟨r,h1,by simp [h2]⟩,?_⟩
   rw [getD_of h1]
   rcases h with ⟨rfl,rfl⟩ | ⟨k,n,h3,h4,h5,rfl⟩
   ·simp
   ·exact List.mem_append_right _ (List.mem_map.2 ⟨k,List.mem_filter.2 ⟨mem_idxs.2 ⟨n,h3,by simp [h4]⟩,(l7 h1 h3).2 h5⟩,by rw [getD_of h3]⟩)
theorem zj (f:V->Bool):(idxs R f).Pairwise (· < ·):=List.Pairwise.filter _ List.pairwise_lt_range
theorem L6 (h:DD d E (· ∈ l) L R) (hal:∀ x,L x->dot a x=0) (eq:Bool) :
  DD d (fun e=>E e\/(eq=true/\e=a)) (· ∈ l++(if eq then [] else [a])) L (cutL l a eq R):=by
 have hin:∀ i,i∈l++(if eq then [] else [a]) ↔ i∈l\/(eq=false/\i=a):=fun i=>by cases eq <;> simp
 have old:∀ {x},Keep d (fun e=>E e\/(eq=true/\e=a)) (· ∈ l++(if eq then [] else [a])) x->Keep d E (· ∈ l) x:=fun hx=>⟨hx.len,fun e he=>hx.eq e (.inl he),fun i hi=>hx.ge i ((hin i).2 (.inl hi))⟩
 have keepR:∀ {i r},R[i]? = some r->Keep d E (· ∈ l) r:=fun h1=>h.keep _ (List.mem_of_getElem? h1)
 have primeK:∀ {p n},Keep d E (· ∈ l) p->Keep d E (· ∈ l) n->0<dot a p->dot a n<0->Keep d E (· ∈ l) (prime (mx a p n))/\dot a (prime (mx a p n))=0/\∀ b∈l,(dot b (prime (mx a p n))=0 ↔ dot b p=0/\dot b n=0):=fun {p n} hp hn h1 h2=>by
  obtain ⟨c,hc,e⟩:=iO (mx a p n)
  have hm:=eA hp hn h1 h2
  refine ⟨Keep.of_scl hc (by rw [prime_length]; exact hm.len) (by rw [e]; exact hm),(jG hc).1 (by rw [e]; exact mR hp.len hn.len),fun b hb=>?_⟩
  rw [<- jG hc,e]; exact Qd hp hn h1 h2 hb
 have lR':∀ r,r∈cutL l a eq R->r.length=d:=fun r hr=>by
  rcases mem_cutL.1 hr with ⟨i,r,h1,h2,rfl⟩ | ⟨i,r,h1,h2,⟨h3,rfl⟩ | ⟨k,n,h3,h4,h5,rfl⟩⟩
  ·exact (keepR h1).len
  ·exact (keepR h1).len
  ·exact (primeK (keepR h1) (keepR h3) h2 h4).1.len
 have hmx:∀ i j p n,R[i]? = some p->R[j]? = some n->0<dot a p->dot a n<0->Bs l R i j p n->Con d L (· ∈ cutL l a eq R) (mx a p n):=fun i j p n h1 h2 h3 h4 h5=>by
  obtain ⟨c,hc,e⟩:=iO (mx a p n)
  rw [<- e]
  have hm:prime (mx a p n)∈cutL l a eq R:=mem_cutL.2 (.inr ⟨i,p,h1,h3,.inr ⟨j,n,h2,h4,h5,rfl⟩⟩)
  exact (Con.of_ray (lR' _ hm) hm).smul h.lenL lR' c (by omega)
 refine ⟨h.lenL,?_,?_,?_,?_,?_,?_,?_,?_⟩
 ·intro x hx e he
  rcases he with he | ⟨-,rfl⟩
  ·exact h.lineE x hx e he
  ·exact hal x hx
 ·intro x hx i hi
  rcases (hin i).1 hi with hi | ⟨-,rfl⟩
  ·exact h.lineI x hx i hi
  ·exact hal x hx
 ·intro x hx hE hI
  exact h.lines x hx (fun e he=>hE e (.inl he)) (fun i hi=>hI i ((hin i).2 (.inl hi)))
 ·
  intro r hr
  rcases mem_cutL.1 hr with ⟨i,r,h1,h2,rfl⟩ | ⟨i,r,h1,h2,⟨h3,rfl⟩ | ⟨k,n,h3,h4,h5,rfl⟩⟩
  ·refine ⟨(keepR h1).len,fun e he=>?_,fun i hi=>?_⟩
   ·rcases he with he | ⟨-,rfl⟩
    ·exact (keepR h1).eq e he
    ·exact h2
   ·rcases (hin i).1 hi with hi | ⟨-,rfl⟩
    ·exact (keepR h1).ge i hi
    ·omega
  ·refine ⟨(keepR h1).len,fun e he=>?_,fun i hi=>?_⟩
   ·rcases he with he | ⟨h,rfl⟩
    ·exact (keepR h1).eq e he
    ·rw [h3] at h; cases h
   ·rcases (hin i).1 hi with hi | ⟨-,rfl⟩
    ·exact (keepR h1).ge i hi
    ·omega
  ·obtain ⟨g1,g2,g3⟩:=primeK (keepR h1) (keepR h3) h2 h4
   refine ⟨g1.len,fun e he=>?_,fun i hi=>?_⟩
   ·rcases he with he | ⟨-,rfl⟩
    ·exact g1.eq e he
    ·exact g2
   ·rcases (hin i).1 hi with hi | ⟨-,rfl⟩
    ·exact g1.ge i hi
    ·omega
 ·
  intro x hx
  cases hq:eq with
  | true =>
   rw [hq] at hmx lR'
   exact A0 h hal lR' (fun r hr e=>by
    obtain ⟨i,hi⟩:=List.getElem?_of_mem hr
    exact mem_cutL.2 (.inl ⟨i,r,hi,e,rfl⟩)) hmx _ x rfl (old hx) (hx.eq a (.inr ⟨hq,rfl⟩))
  | false =>
   rw [hq] at hmx lR'
   exact J8 h hal lR' (fun r hr e=>by
    obtain ⟨i,hi⟩:=List.getElem?_of_mem hr
    by_cases h0:dot a r=0
    ·exact mem_cutL.2 (.inl ⟨i,r,hi,h0,rfl⟩)
    ·exact mem_cutL.2 (.inr ⟨i,r,hi,by omega,.inl ⟨rfl,rfl⟩⟩)) hmx _ x rfl (old hx) (hx.ge a ((hin a).2 (.inr ⟨hq,rfl⟩)))
 ·
  intro r hr
  rcases mem_cutL.1 hr with ⟨i,r,h1,h2,rfl⟩ | ⟨i,r,h1,h2,⟨h3,rfl⟩ | ⟨k,n,h3,h4,h5,rfl⟩⟩
  ·obtain ⟨b,hb,hn⟩:=h.off _ (List.mem_of_getElem? h1)
   exact ⟨b,(hin b).2 (.inl hb),hn⟩
  ·obtain ⟨b,hb,hn⟩:=h.off _ (List.mem_of_getElem? h1)
   exact ⟨b,(hin b).2 (.inl hb),hn⟩
  ·obtain ⟨b,hb,hn⟩:=h.off _ (List.mem_of_getElem? h1)
   exact ⟨b,(hin b).2 (.inl hb),fun e=>hn (((primeK (keepR h1) (keepR h3) h2 h4).2.2 b hb).1 e).1⟩
 ·
  intro r hr y hy hs
  have hyo:=old hy
  rcases mem_cutL.1 hr with ⟨i,r,h1,h2,rfl⟩ | ⟨i,r,h1,h2,⟨h3,rfl⟩ | ⟨k,n,h3,h4,h5,rfl⟩⟩
  ·exact h.ext _ (List.mem_of_getElem? h1) y hyo fun i hi e=>hs i ((hin i).2 (.inl hi)) e
  ·exact h.ext _ (List.mem_of_getElem? h1) y hyo fun i hi e=>hs i ((hin i).2 (.inl hi)) e
  ·obtain ⟨g1,g2,g3⟩:=primeK (keepR h1) (keepR h3) h2 h4
   have hay:dot a y=0:=by
    cases eq
    ·exact hs a ((hin a).2 (.inr ⟨rfl,rfl⟩)) g2
    ·exact hy.eq a (.inr ⟨rfl,rfl⟩)
   have hf:=h.face (S:=fun b=>b∈l/\dot b r=0/\dot b n=0) (fun b hb=>hb.1) (h.all y hyo) (fun b hb=>hs b ((hin b).2 (.inl hb.1)) ((g3 b hb.1).2 hb.2))
   have hf2:Con d L (fun x=>x=r\/x=n) y:=hf.mono (fun _ h=>h) fun x hx=>by
    obtain ⟨t,ht⟩:=List.getElem?_of_mem hx.1
    by_cases hti:t=i
    ·rw [hti,h1] at ht; cases ht; exact .inl rfl
    ·by_cases htk:t=k
     ·rw [htk,h3] at ht; cases ht; exact .inr rfl
     ·exact absurd (fun b hb e1 e2=>hx.2 b ⟨hb,e1,e2⟩) (h5 t x ht hti htk)
   have hrl:=(keepR h1).len
   have hnl:=(keepR h3).len
   obtain ⟨k',α,β,hk',hα,hβ,hsp⟩:=GF h.lenL hrl hnl hf2
   have hz:=Con.dot_zero (a:=a) h.lenL (fun r h=>h.elim) (fun x hx=>hal x hx) (fun r h=>h.elim) hsp
   rw [bj _ _ _ (hyo.len.trans (mix_length hrl hnl).symm),hay,bj _ _ _ (hrl.trans hnl.symm)] at hz
   obtain ⟨c,hc,e⟩:=iO (mx a r n)
   refine ⟨dot a r*k',β*c,Int.mul_pos h2 hk',Int.mul_nonneg hβ (by omega),?_⟩
   have:=Spn.smul h.lenL hsp (dot a r)
   have e2:scl (dot a r) (mix k' y (-1) (mix α r β n))=mix (dot a r*k') y (-(β*c)) (prime (mx a r n)):=aP (by rw [ah (mix_length hyo.len (mix_length hrl hnl)),mix_length hyo.len g1.len]) fun i=>by
    have e3:at_ (mx a r n) i=c*at_ (prime (mx a r n)) i:=by rw [<- aw,e]
    unfold mx at e3
    rw [aj (hrl.trans hnl.symm)] at e3
    rw [aw,aj (hyo.len.trans (mix_length hrl hnl).symm),aj (hrl.trans hnl.symm),aj (hyo.len.trans g1.len.symm)]
    unfold mx
    grind
   rw [e2] at this
   exact this
 ·
  have hne:∀ {i j:Nat} {r s:V},R[i]? = some r->R[j]? = some s->i≠j->¬ ∀ b,b∈l++(if eq then [] else [a])->(dot b r=0 ↔ dot b s=0):=fun h1 h2 hij h3=>hij (h.same h1 h2 fun b hb=>h3 b ((hin b).2 (.inl hb)))
  have hsign:∀ {i j:Nat} {r s:V},R[i]? = some r->R[j]? = some s->dot a r≠dot a s->i≠j:=fun h1 h2 h3 e=>by rw [e,h2] at h1; cases h1; exact h3 rfl
  unfold cutL
  refine List.pairwise_append.2 ⟨?_,?_,fun r hr s hs=>?_⟩
  ·refine List.pairwise_map.2 ((zj _).imp_of_mem fun {i j} hi hj hlt=>?_)
   obtain ⟨r,h1,_⟩:=mem_idxs.1 hi
   obtain ⟨s,h2,_⟩:=mem_idxs.1 hj
   rw [getD_of h1,getD_of h2]
   exact hne h1 h2 (by omega)
  ·refine List.pairwise_flatMap.2 ⟨fun i hi=>?_,(zj _).imp_of_mem fun {i j} hi hj hlt x hx y hy=>?_⟩
   ·obtain ⟨p,h1,h2⟩:=mem_idxs.1 hi
    have h2:0<dot a p:=by simpa using h2
    refine List.pairwise_append.2 ⟨by cases eq <;> simp,?_,fun x hx y hy=>?_⟩
    ·refine List.pairwise_map.2 (((zj _).filter _).imp_of_mem fun {k k'} hk hk' hlt=>?_)
     obtain ⟨hk1,hk2⟩:=List.mem_filter.1 hk
     obtain ⟨hk1',hk2'⟩:=List.mem_filter.1 hk'
     obtain ⟨n,h3,h4⟩:=mem_idxs.1 hk1
     obtain ⟨n',h3',h4'⟩:=mem_idxs.1 hk1'
     have h4:dot a n<0:=by simpa using h4
     have h4':dot a n'<0:=by simpa using h4'
     rw [getD_of h1,getD_of h3,getD_of h3']
     intro h5
     refine (l7 h1 h3).1 hk2 k' n' h3' (hsign h3' h1 (by omega)) (by omega) fun b hb e1 e2=>?_
     have g:=(h5 b ((hin b).2 (.inl hb))).1 (((primeK (keepR h1) (keepR h3) h2 h4).2.2 b hb).2 ⟨e1,e2⟩)
     exact (((primeK (keepR h1) (keepR h3') h2 h4').2.2 b hb).1 g).2
    ·obtain ⟨k,hk,rfl⟩:=List.mem_map.1 hy
     obtain ⟨hk1,hk2⟩:=List.mem_filter.1 hk
     obtain ⟨n,h3,h4⟩:=mem_idxs.1 hk1
     have h4:dot a n<0:=by simpa using h4
     rw [getD_of h1] at hx ⊢
     rw [getD_of h3]
     cases eq
     ·simp at hx
      subst hx
      intro h5
      have:=(h5 a ((hin a).2 (.inr ⟨rfl,rfl⟩))).2 (primeK (keepR h1) (keepR h3) h2 h4).2.1
      omega
     ·simp at hx
   ·obtain ⟨p,h1,h2⟩:=mem_idxs.1 hi
    obtain ⟨q,h1',h2'⟩:=mem_idxs.1 hj
    have h2:0<dot a p:=by simpa using h2
    have h2':0<dot a q:=by simpa using h2'
    rw [getD_of h1] at hx
    rw [getD_of h1'] at hy
    rcases List.mem_append.1 hx with hx | hx <;> rcases List.mem_append.1 hy with hy | hy
    ·cases eq
     ·simp at hx hy; subst hx; subst hy; exact hne h1 h1' (by omega)
     ·simp at hx
    ·obtain ⟨k,hk,rfl⟩:=List.mem_map.1 hy
     obtain ⟨hk1,hk2⟩:=List.mem_filter.1 hk
     obtain ⟨n,h3,h4⟩:=mem_idxs.1 hk1
     have h4:dot a n<0:=by simpa using h4
     rw [getD_of h3]
     cases eq
     ·simp at hx
      subst hx
      intro h5
      have:=(h5 a ((hin a).2 (.inr ⟨rfl,rfl⟩))).2 (primeK (keepR h1') (keepR h3) h2' h4).2.1
      omega
     ·simp at hx
    ·obtain ⟨k,hk,rfl⟩:=List.mem_map.1 hx
     obtain ⟨hk1,hk2⟩:=List.mem_filter.1 hk
     obtain ⟨n,h3,h4⟩:=mem_idxs.1 hk1
     have h4:dot a n<0:=by simpa using h4
     rw [getD_of h3]
     cases eq
     ·simp at hy
      subst hy
      intro h5
      have:=(h5 a ((hin a).2 (.inr ⟨rfl,rfl⟩))).1 (primeK (keepR h1) (keepR h3) h2 h4).2.1
      omega
     ·simp at hy
    ·obtain ⟨k,hk,rfl⟩:=List.mem_map.1 hx
     obtain ⟨k',hk',rfl⟩:=List.mem_map.1 hy
     obtain ⟨hk1,hk2⟩:=List.mem_filter.1 hk
     obtain ⟨hk1',hk2'⟩:=List.mem_filter.1 hk'
     obtain ⟨n,h3,h4⟩:=mem_idxs.1 hk1
     obtain ⟨n',h3',h4'⟩:=mem_idxs.1 hk1'
     have h4:dot a n<0:=by simpa using h4
     have h4':dot a n'<0:=by simpa using h4'
     rw [getD_of h3,getD_of h3']
     intro h5
     refine (l7 h1 h3).1 hk2 j q h1' (by omega) (hsign h1' h3 (by omega)) fun b hb e1 e2=>?_
     have g:=(h5 b ((hin b).2 (.inl hb))).1 (((primeK (keepR h1) (keepR h3) h2 h4).2.2 b hb).2 ⟨e1,e2⟩)
     exact (((primeK (keepR h1') (keepR h3') h2' h4').2.2 b hb).1 g).1
  ·obtain ⟨t,ht,rfl⟩:=List.mem_map.1 hr
   obtain ⟨q,h0,h0'⟩:=mem_idxs.1 ht
   have h0':dot a q=0:=by simpa using h0'
   obtain ⟨i,hi,hs⟩:=List.mem_flatMap.1 hs
   obtain ⟨p,h1,h2⟩:=mem_idxs.1 hi
   have h2:0<dot a p:=by simpa using h2
   rw [getD_of h0]
   rw [getD_of h1] at hs
   rcases List.mem_append.1 hs with hs | hs
   ·cases eq
    ·simp at hs; subst hs; exact hne h0 h1 (hsign h0 h1 (by omega))
    ·simp at hs
   ·obtain ⟨k,hk,rfl⟩:=List.mem_map.1 hs
    obtain ⟨hk1,hk2⟩:=List.mem_filter.1 hk
    obtain ⟨n,h3,h4⟩:=mem_idxs.1 hk1
    have h4:dot a n<0:=by simpa using h4
    rw [getD_of h3]
    intro h5
    refine (l7 h1 h3).1 hk2 t q h0 (hsign h0 h1 (by omega)) (hsign h0 h3 (by omega)) fun b hb e1 e2=>?_
    exact (h5 b ((hin b).2 (.inl hb))).2 (((primeK (keepR h1) (keepR h3) h2 h4).2.2 b hb).2 ⟨e1,e2⟩)
end
end Go.Proofs.YtboamamhcfhanaaGreat.Lin
