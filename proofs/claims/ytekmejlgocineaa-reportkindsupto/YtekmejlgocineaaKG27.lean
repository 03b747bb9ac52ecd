/- A part. -/
import Derived.Test.YtekmejlgocineaaKG6
import Derived.Test.YtekmejlgocineaaNat
namespace Go.Proofs.Ytekmejlgocineaa.Ev
open Go Nn
set_option linter.all false
section
variable {tab:Nat->Option aN} {H:Heap}
set_option maxHeartbeats 8000000 in
theorem Bq (C:Code tab) {H0:Heap} {b n c lo hi pv:Nat} {xf:Bool} {l:List Int} (hk:Kp H0 H) (hb:H0.next<=b) (h:Ar H b l) (hn:l.length=n) (hp1:lo<=pv) (hp2:pv<hi) (hhn:hi<=n) (hlim:n<1099511627776) :
  Ans tab (.fn bH [.own b 0 n c 1 xf,.int .i64 (lo:Int),.int .i64 (hi:Int),.int .i64 (pv:Int)]) H fun v H'=>(∃ m j,∃ t:Bool,v=.tup [.int .i64 ((j:Nat):Int),.bool t]/\Ar H' b m/\Prm lo hi l m/\lo<=j/\j<hi/\gI m j=gI l pv/\(∀ k,lo<=k->k<j->gI m k<gI l pv)/\(∀ k,j<k->k<hi->gI l pv<=gI m k))/\Kp H0 H':=by
 have hw:=hk.wf
 refine wT C.q41 zU fun T hl g0 g1 g2 g3=>?_
 have e01:IntKind.i64.wrap ((lo:Int)+1)=((lo+1:Nat):Int):=by rw [ae] <;> omega
 have e02:IntKind.i64.wrap ((hi:Int)-1)=((hi-1:Nat):Int):=by rw [ae] <;> omega
 have lt0:=hw _ _ h
 have ix1:a7 1 (.own b 0 n c 1 xf) (.int .i64 (lo:Int))=some (.ptr b lo):=aT zO
 have ix2:a7 1 (.own b 0 n c 1 xf) (.int .i64 (pv:Int))=some (.ptr b pv):=aT zO
 have lx1:=aL h (show lo<l.length by omega)
 have lx2:=aL h (show pv<l.length by omega)
 have sx1:=cW (z:=gI l pv) h (show lo<l.length by omega)
 have sx2:=eH (l:=l.set lo (gI l pv)) (z:=gI l lo) (show pv<(l.set lo (gI l pv)).length by rw [List.length_set]; omega)
 refine zW (eU hl g0 g1 g2 g3) ?_
 refine al ?_
 refine zD (gt hl g0 g1 g2 g3 ix1 ix2 lx1 lx2 sx1 sx2 e01 e02) ?_
 have hsw:Prm lo hi l (iW l lo pv):=Prm.swap (.refl _) zO zO zO zO zO
 have hg0:gI (iW l lo pv) lo=gI l pv:=by
  rw [eu zO zO]
  by_cases e:lo=pv
  ·rw [if_pos e,e]
  ·rw [if_neg e,if_pos rfl]
 refine kf (fun T' Y=>T'.length=168/\aa T' 0=.own b 0 n c 1 xf/\aa T' 1=.int .i64 (lo:Int)/\aa T' 10=.int .i64 ((lo+1:Nat):Int)/\aa T' 11=.int .i64 ((hi-1:Nat):Int)/\Ar Y b (iW l lo pv)/\Kp H0 Y) ⟨by exact zE (eU hl g0 g1 g2 g3),by exact zE (bb hl g0),by exact zE (gD hl g0 g1 g2 g3 g1),by exact zE (eU hl g0 g1 g2 g3),by exact zE (eU hl g0 g1 g2 g3),aq _ _ _,zK⟩ ?_
 clear hl g0 g1 g2 g3
 rintro T0 H0' ⟨hl0,e0_0,e1_0,eI_0,eJ_0,hb0,k0⟩
 obtain ⟨i0,hi0⟩:∃ i0,i0=lo+1:=⟨_,rfl⟩
 obtain ⟨j0,hj0⟩:∃ j0,j0=hi-1:=⟨_,rfl⟩
 obtain ⟨m,hm⟩:∃ m,m=iW l lo pv:=⟨_,rfl⟩
 rw [<- hi0] at eI_0
 rw [<- hj0] at eJ_0
 rw [<- hm] at hb0
 have hpm:Prm lo hi l m:=by rw [hm]; exact hsw
 have hpv:gI m lo=gI l pv:=by rw [hm]; exact hg0
 have A0:∀ k,lo<k->k<i0->gI m k<gI m lo:=fun k h1 h2=>by omega
 have B0:∀ k,j0<k->k<hi->gI m lo<=gI m k:=fun k h1 h2=>by omega
 have hml:m.length=n:=by rw [hpm.len,hn]
 have w0:=k0.wf
 clear hsw hg0 hm
 refine fD H0 [10] (fun q vs H'=>∃ x:Nat,vs=[.int .i64 (x:Int)]/\q=j0+1-x/\(i0<=x/\x<=j0+1)/\Ar H' b m/\∀ k,lo<k->k<x->gI m k<gI m lo) (fun vs H'=>∃ x:Nat,vs=[.int .i64 (x:Int)]/\(i0<=x/\x<=j0+1)/\Ar H' b m/\(∀ k,lo<k->k<x->gI m k<gI m lo)/\(x<=j0->gI m lo<=gI m x)) (j0+1-i0) hl0 rfl k0 ⟨i0,by simp only [List.map_cons,List.map_nil,eI_0],rfl,by omega,hb0,A0⟩ ?_ ?_
 ·rintro q T1 H1 hlx hs hk1 ⟨x,hv,hq,hr,hb1,hA⟩
  have w1:=hk1.wf
  have le_hk1:=hk1.le
  simp only [List.map_cons,List.map_nil,List.cons.injEq,and_true] at hv
  have u0:aa T1 0=.own b 0 n c 1 xf:=(hs.at_ 0 zU).trans e0_0
  have u1:aa T1 1=.int .i64 (lo:Int):=(hs.at_ 1 zU).trans e1_0
  have uO:aa T1 11=.int .i64 (j0:Int):=(hs.at_ 11 zU).trans eJ_0
  refine zW hlx ?_
  refine al ?_
  by_cases c1:x<=j0
  ·have ixl:a7 1 (.own b 0 n c 1 xf) (.int .i64 (lo:Int))=some (.ptr b lo):=aT zO
   have ixx:a7 1 (.own b 0 n c 1 xf) (.int .i64 (x:Int))=some (.ptr b x):=aT zO
   have ldl:=aL hb1 (show lo<m.length by omega)
   have ldx:=aL hb1 (show x<m.length by omega)
   have ei:IntKind.i64.wrap ((x:Int)+1)=((x+1:Nat):Int):=by rw [ae] <;> omega
   refine zX (d8 hlx hv u0 u1 uO @c1 ixl ixx ldl ldx @aC) ?_
   refine AnsH.eq (dq C zF) fun H2 hk2=>?_
   obtain ⟨k2,_,_⟩:=zT H1 zK hk2
   have kH2:=hk1.trans k2
   have w2:=hk2.wf
   have le_hk2:=hk2.le
   have hb2:Ar H2 b m:=k2.get hb1
   by_cases c2:gI m x<gI m lo
   ·rw [decide_eq_true c2]
    refine zX (dC hlx hv u0 u1 uO @c1 ixl ixx ldl ldx @aC ei) ?_
    exact ⟨zK,j0+1-(x+1),by omega,x+1,rfl,rfl,by omega,hb2,fun k h1 h2=>by
     by_cases e:k=x
     ·rw [e]; omega
     ·exact hA k h1 zO⟩
   ·rw [decide_eq_false c2]
    refine zX (dC hlx hv u0 u1 uO @c1 ixl ixx ldl ldx @aC ei) ?_
    exact ⟨zK,x,rfl,hr,hb2,hA,fun _=>by omega⟩
  ·refine zX (eU hlx hv uO @c1 @aC) ?_
   exact ⟨zK,x,rfl,hr,hb1,hA,fun h=>absurd h c1⟩
 rintro T1 H1 hl1 hs1 k1 ⟨i1,hv,hr1,hb1,A1,C1⟩
 have w1:=k1.wf
 simp only [List.map_cons,List.map_nil,List.cons.injEq,and_true] at hv
 have eI_1:aa T1 10=.int .i64 (i1:Int):=hv
 have e0_1:aa T1 0=.own b 0 n c 1 xf:=(hs1.at_ 0 zU).trans e0_0
 have e1_1:aa T1 1=.int .i64 (lo:Int):=(hs1.at_ 1 zU).trans e1_0
 have eJ_1:aa T1 11=.int .i64 (j0:Int):=(hs1.at_ 11 zU).trans eJ_0
 clear hl0 hs1 e0_0 e1_0 eI_0 eJ_0 hv
 refine zW hl1 ?_
 refine fD H0 [11] (fun q vs H'=>∃ x:Nat,vs=[.int .i64 (x:Int)]/\q=x+1-i1/\(i1<=x+1/\x<=j0)/\Ar H' b m/\∀ k,x<k->k<hi->gI m lo<=gI m k) (fun vs H'=>∃ x:Nat,vs=[.int .i64 (x:Int)]/\(i1<=x+1/\x<=j0)/\Ar H' b m/\(∀ k,x<k->k<hi->gI m lo<=gI m k)/\(i1<=x->gI m x<gI m lo)) (j0+1-i1) hl1 rfl k1 ⟨j0,by simp only [List.map_cons,List.map_nil,eJ_1],rfl,by omega,hb1,B0⟩ ?_ ?_
 ·rintro q T1 H1 hlx hs hk1 ⟨x,hv,hq,hr,hb1,hA⟩
  have w1:=hk1.wf
  have le_hk1:=hk1.le
  simp only [List.map_cons,List.map_nil,List.cons.injEq,and_true] at hv
  have u0:aa T1 0=.own b 0 n c 1 xf:=(hs.at_ 0 zU).trans e0_1
  have u1:aa T1 1=.int .i64 (lo:Int):=(hs.at_ 1 zU).trans e1_1
  have uO:aa T1 10=.int .i64 (i1:Int):=(hs.at_ 10 zU).trans eI_1
  refine zW hlx ?_
  refine al ?_
  by_cases c1:i1<=x
  ·have ixl:a7 1 (.own b 0 n c 1 xf) (.int .i64 (lo:Int))=some (.ptr b lo):=aT zO
   have ixx:a7 1 (.own b 0 n c 1 xf) (.int .i64 (x:Int))=some (.ptr b x):=aT zO
   have ldl:=aL hb1 (show lo<m.length by omega)
   have ldx:=aL hb1 (show x<m.length by omega)
   have ei:IntKind.i64.wrap ((x:Int)-1)=((x-1:Nat):Int):=by rw [ae] <;> omega
   refine zX (d8 hlx hv u0 u1 uO @c1 ixl ixx ldl ldx @aC) ?_
   refine AnsH.eq (dq C zF) fun H2 hk2=>?_
   obtain ⟨k2,_,_⟩:=zT H1 zK hk2
   have kH2:=hk1.trans k2
   have w2:=hk2.wf
   have le_hk2:=hk2.le
   have hb2:Ar H2 b m:=k2.get hb1
   by_cases c2:gI m x<gI m lo
   ·rw [decide_eq_true c2]
    refine zX (dC hlx hv u0 u1 uO @c1 ixl ixx ldl ldx @aC ei) ?_
    exact ⟨zK,x,rfl,hr,hb2,hA,fun _=>by omega⟩
   ·rw [decide_eq_false c2]
    refine zX (dC hlx hv u0 u1 uO @c1 ixl ixx ldl ldx @aC ei) ?_
    exact ⟨zK,(x-1)+1-i1,by omega,x-1,rfl,rfl,by omega,hb2,fun k h1 h2=>by
     by_cases e:k=x
     ·rw [e]; omega
     ·exact hA k zO h2⟩
  ·refine zX (eU hlx hv uO @c1 @aC) ?_
   exact ⟨zK,x,rfl,hr,hb1,hA,fun h=>absurd h c1⟩
 rintro T2 H2 hl2 hs2 k2 ⟨j2,hv,hr2,hb2,B2,C2⟩
 have w2:=k2.wf
 simp only [List.map_cons,List.map_nil,List.cons.injEq,and_true] at hv
 have eJ_2:aa T2 11=.int .i64 (j2:Int):=hv
 have e0_2:aa T2 0=.own b 0 n c 1 xf:=(hs2.at_ 0 zU).trans e0_1
 have e1_2:aa T2 1=.int .i64 (lo:Int):=(hs2.at_ 1 zU).trans e1_1
 have eI_2:aa T2 10=.int .i64 (i1:Int):=(hs2.at_ 10 zU).trans eI_1
 clear hl1 hs2 e0_1 e1_1 eI_1 eJ_1 hv
 have lt2:=w2 _ _ hb2
 by_cases hx:j2<i1
 ·refine zW (dz hl2 eI_2 eJ_2 hx) ?_
  have ix1:a7 1 (.own b 0 n c 1 xf) (.int .i64 (j2:Int))=some (.ptr b j2):=aT zO
  have ix2:a7 1 (.own b 0 n c 1 xf) (.int .i64 (lo:Int))=some (.ptr b lo):=aT zO
  have lx1:=aL hb2 (show j2<m.length by omega)
  have lx2:=aL hb2 (show lo<m.length by omega)
  have sx1:=cW (z:=gI m lo) hb2 (show j2<m.length by omega)
  have sx2:=eH (l:=m.set j2 (gI m lo)) (z:=gI m j2) (show lo<(m.set j2 (gI m lo)).length by rw [List.length_set]; omega)
  refine al ?_
  refine zD (d8 hl2 eI_2 eJ_2 e0_2 e1_2 ix1 ix2 lx1 lx2 sx1 sx2) ?_
  have hji:i1=j2+1:=by omega
  have hg:=eu (l:=m) (i:=j2) (j:=lo) zO zO
  refine ⟨⟨iW m j2 lo,j2,_,rfl,aq _ _ _,hpm.swap zO zO zO zO zO,by omega,by omega,?_,fun k h1 h2=>?_,fun k h1 h2=>?_⟩,zK⟩
  ·rw [hg,<- hpv]
   by_cases e:j2=lo
   ·rw [if_pos e,e]
   ·rw [if_neg e,if_pos rfl]
  ·rw [hg,<- hpv]
   by_cases e:k=lo
   ·rw [if_pos e]; exact A1 j2 zO zO
   ·rw [if_neg e,if_neg zO]; exact A1 k zO zO
  ·rw [hg,<- hpv,if_neg zO,if_neg zO]
   exact B2 k zO h2
 have xM:=C1 zO
 have hd2:=C2 zO
 have hne:i1≠j2:=fun e=>by rw [e] at xM; omega
 have ei:IntKind.i64.wrap ((i1:Int)+1)=((i1+1:Nat):Int):=by rw [ae] <;> omega
 have ej:IntKind.i64.wrap ((j2:Int)-1)=((j2-1:Nat):Int):=by rw [ae] <;> omega
 have ix1:a7 1 (.own b 0 n c 1 xf) (.int .i64 (i1:Int))=some (.ptr b i1):=aT zO
 have ix2:a7 1 (.own b 0 n c 1 xf) (.int .i64 (j2:Int))=some (.ptr b j2):=aT zO
 have lx1:=aL hb2 (show i1<m.length by omega)
 have lx2:=aL hb2 (show j2<m.length by omega)
 have sx1:=cW (z:=gI m j2) hb2 (show i1<m.length by omega)
 have sx2:=eH (l:=m.set i1 (gI m j2)) (z:=gI m i1) (show j2<(m.set i1 (gI m j2)).length by rw [List.length_set]; omega)
 refine zW (dz hl2 eI_2 eJ_2 hx) ?_
 refine al ?_
 refine zD (dC hl2 eI_2 eJ_2 e0_2 ix1 ix2 lx1 lx2 sx1 sx2 ei ej) ?_
 have hg:=eu (l:=m) (i:=i1) (j:=j2) zO zO
 refine aQ (L:=168) H0 [10,11] (fun k vs H'=>∃ i j m,vs=[.int .i64 ((i:Nat):Int),.int .i64 ((j:Nat):Int)]/\k=j+2-i/\(lo<i/\i<=j+1/\j<hi)/\Ar H' b m/\Prm lo hi l m/\gI m lo=gI l pv/\(∀ k,lo<k->k<i->gI m k<gI m lo)/\(∀ k,j<k->k<hi->gI m lo<=gI m k)) (j2-1+2-(i1+1)) (zE hl2) rfl zK ⟨i1+1,j2-1,iW m i1 j2,by exact zE hl2,rfl,by omega,aq _ _ _,hpm.swap zO zO zO zO zO,?_,fun k h1 h2=>?_,fun k h1 h2=>?_⟩ ?_
 ·rw [hg,if_neg zO,if_neg zO]; exact hpv
 ·rw [hg,hg,if_neg (by omega:¬ lo=j2),if_neg (by omega:¬ lo=i1),if_neg (by omega:¬ k=j2)]
  by_cases e:k=i1
  ·rw [if_pos e]; exact hd2
  ·rw [if_neg e]; exact A1 k h1 zO
 ·rw [hg,hg,if_neg (by omega:¬ lo=j2),if_neg (by omega:¬ lo=i1)]
  by_cases e:k=j2
  ·rw [if_pos e]; exact xM
  ·rw [if_neg e,if_neg zO]; exact B2 k zO h2
 clear hpm hpv A0 B0 A1 B2 C1 C2 hml hg xM hd2 hne ei ej ix1 ix2 lx1 lx2 sx1 sx2 hi0 hj0
 rintro q5 T5 H5 hl5 hs5 k5 ⟨i5,j5,m,hv,hq,hij,hb5,hpm,hpv,A5,B5⟩
 have w5:=k5.wf
 simp only [List.map_cons,List.map_nil,List.cons.injEq,and_true] at hv
 obtain ⟨eI_5,eJ_5⟩:=hv
 have e0_5:aa T5 0=.own b 0 n c 1 xf:=(hs5.at_ 0 zU).trans (zE (bb hl2 e0_2))
 have e1_5:aa T5 1=.int .i64 (lo:Int):=(hs5.at_ 1 zU).trans (zE (bb hl2 e1_2))
 have hml:m.length=n:=by rw [hpm.len,hn]
 clear hs5 hl2 e0_2 e1_2 eI_2 eJ_2
 refine zW hl5 ?_
 refine fD H0 [10] (fun q vs H'=>∃ x:Nat,vs=[.int .i64 (x:Int)]/\q=j5+1-x/\(i5<=x/\x<=j5+1)/\Ar H' b m/\∀ k,lo<k->k<x->gI m k<gI m lo) (fun vs H'=>∃ x:Nat,vs=[.int .i64 (x:Int)]/\(i5<=x/\x<=j5+1)/\Ar H' b m/\(∀ k,lo<k->k<x->gI m k<gI m lo)/\(x<=j5->gI m lo<=gI m x)) (j5+1-i5) hl5 rfl k5 ⟨i5,by simp only [List.map_cons,List.map_nil,eI_5],rfl,by omega,hb5,A5⟩ ?_ ?_
 ·rintro q T1 H1 hlx hs hk1 ⟨x,hv,hq,hr,hb1,hA⟩
  have w1:=hk1.wf
  have le_hk1:=hk1.le
  simp only [List.map_cons,List.map_nil,List.cons.injEq,and_true] at hv
  have u0:aa T1 0=.own b 0 n c 1 xf:=(hs.at_ 0 zU).trans e0_5
  have u1:aa T1 1=.int .i64 (lo:Int):=(hs.at_ 1 zU).trans e1_5
  have uO:aa T1 11=.int .i64 (j5:Int):=(hs.at_ 11 zU).trans eJ_5
  refine zW hlx ?_
  refine al ?_
  by_cases c1:x<=j5
  ·have ixl:a7 1 (.own b 0 n c 1 xf) (.int .i64 (lo:Int))=some (.ptr b lo):=aT zO
   have ixx:a7 1 (.own b 0 n c 1 xf) (.int .i64 (x:Int))=some (.ptr b x):=aT zO
   have ldl:=aL hb1 (show lo<m.length by omega)
   have ldx:=aL hb1 (show x<m.length by omega)
   have ei:IntKind.i64.wrap ((x:Int)+1)=((x+1:Nat):Int):=by rw [ae] <;> omega
   refine zX (d8 hlx hv u0 u1 uO @c1 ixl ixx ldl ldx @aC) ?_
   refine AnsH.eq (dq C zF) fun H2 hk2=>?_
   obtain ⟨k2,_,_⟩:=zT H1 zK hk2
   have kH2:=hk1.trans k2
   have w2:=hk2.wf
   have le_hk2:=hk2.le
   have hb2:Ar H2 b m:=k2.get hb1
   by_cases c2:gI m x<gI m lo
   ·rw [decide_eq_true c2]
    refine zX (dC hlx hv u0 u1 uO @c1 ixl ixx ldl ldx @aC ei) ?_
    exact ⟨zK,j5+1-(x+1),by omega,x+1,rfl,rfl,by omega,hb2,fun k h1 h2=>by
     by_cases e:k=x
     ·rw [e]; omega
     ·exact hA k h1 zO⟩
   ·rw [decide_eq_false c2]
    refine zX (dC hlx hv u0 u1 uO @c1 ixl ixx ldl ldx @aC ei) ?_
    exact ⟨zK,x,rfl,hr,hb2,hA,fun _=>by omega⟩
  ·refine zX (eU hlx hv uO @c1 @aC) ?_
   exact ⟨zK,x,rfl,hr,hb1,hA,fun h=>absurd h c1⟩
 rintro T6 H6 hl6 hs6 k6 ⟨i6,hv,hr6,hb6,A6,C6⟩
 have w6:=k6.wf
 simp only [List.map_cons,List.map_nil,List.cons.injEq,and_true] at hv
 have eI_6:aa T6 10=.int .i64 (i6:Int):=hv
 have e0_6:aa T6 0=.own b 0 n c 1 xf:=(hs6.at_ 0 zU).trans e0_5
 have e1_6:aa T6 1=.int .i64 (lo:Int):=(hs6.at_ 1 zU).trans e1_5
 have eJ_6:aa T6 11=.int .i64 (j5:Int):=(hs6.at_ 11 zU).trans eJ_5
 clear hl5 hs6 e0_5 e1_5 eI_5 eJ_5 hv
 refine zW hl6 ?_
 refine fD H0 [11] (fun q vs H'=>∃ x:Nat,vs=[.int .i64 (x:Int)]/\q=x+1-i6/\(i6<=x+1/\x<=j5)/\Ar H' b m/\∀ k,x<k->k<hi->gI m lo<=gI m k) (fun vs H'=>∃ x:Nat,vs=[.int .i64 (x:Int)]/\(i6<=x+1/\x<=j5)/\Ar H' b m/\(∀ k,x<k->k<hi->gI m lo<=gI m k)/\(i6<=x->gI m x<gI m lo)) (j5+1-i6) hl6 rfl k6 ⟨j5,by simp only [List.map_cons,List.map_nil,eJ_6],rfl,by omega,hb6,B5⟩ ?_ ?_
 ·rintro q T1 H1 hlx hs hk1 ⟨x,hv,hq,hr,hb1,hA⟩
  have w1:=hk1.wf
  have le_hk1:=hk1.le
  simp only [List.map_cons,List.map_nil,List.cons.injEq,and_true] at hv
  have u0:aa T1 0=.own b 0 n c 1 xf:=(hs.at_ 0 zU).trans e0_6
  have u1:aa T1 1=.int .i64 (lo:Int):=(hs.at_ 1 zU).trans e1_6
  have uO:aa T1 10=.int .i64 (i6:Int):=(hs.at_ 10 zU).trans eI_6
  refine zW hlx ?_
  refine al ?_
  by_cases c1:i6<=x
  ·have ixl:a7 1 (.own b 0 n c 1 xf) (.int .i64 (lo:Int))=some (.ptr b lo):=aT zO
   have ixx:a7 1 (.own b 0 n c 1 xf) (.int .i64 (x:Int))=some (.ptr b x):=aT zO
   have ldl:=aL hb1 (show lo<m.length by omega)
   have ldx:=aL hb1 (show x<m.length by omega)
   have ei:IntKind.i64.wrap ((x:Int)-1)=((x-1:Nat):Int):=by rw [ae] <;> omega
   refine zX (d8 hlx hv u0 u1 uO @c1 ixl ixx ldl ldx @aC) ?_
   refine AnsH.eq (dq C zF) fun H2 hk2=>?_
   obtain ⟨k2,_,_⟩:=zT H1 zK hk2
   have kH2:=hk1.trans k2
   have w2:=hk2.wf
   have le_hk2:=hk2.le
   have hb2:Ar H2 b m:=k2.get hb1
   by_cases c2:gI m x<gI m lo
   ·rw [decide_eq_true c2]
    refine zX (dC hlx hv u0 u1 uO @c1 ixl ixx ldl ldx @aC ei) ?_
    exact ⟨zK,x,rfl,hr,hb2,hA,fun _=>by omega⟩
   ·rw [decide_eq_false c2]
    refine zX (dC hlx hv u0 u1 uO @c1 ixl ixx ldl ldx @aC ei) ?_
    exact ⟨zK,(x-1)+1-i6,by omega,x-1,rfl,rfl,by omega,hb2,fun k h1 h2=>by
     by_cases e:k=x
     ·rw [e]; omega
     ·exact hA k zO h2⟩
  ·refine zX (eU hlx hv uO @c1 @aC) ?_
   exact ⟨zK,x,rfl,hr,hb1,hA,fun h=>absurd h c1⟩
 rintro T7 H7 hl7 hs7 k7 ⟨j7,hv,hr7,hb7,B7,C7⟩
 have w7:=k7.wf
 simp only [List.map_cons,List.map_nil,List.cons.injEq,and_true] at hv
 have eJ_7:aa T7 11=.int .i64 (j7:Int):=hv
 have e0_7:aa T7 0=.own b 0 n c 1 xf:=(hs7.at_ 0 zU).trans e0_6
 have e1_7:aa T7 1=.int .i64 (lo:Int):=(hs7.at_ 1 zU).trans e1_6
 have eI_7:aa T7 10=.int .i64 (i6:Int):=(hs7.at_ 10 zU).trans eI_6
 clear hl6 hs7 e0_6 e1_6 eI_6 eJ_6 hv
 have lt7:=w7 _ _ hb7
 by_cases hx:j7<i6
 ·refine zW (dz hl7 eI_7 eJ_7 hx) ?_
  have ix1:a7 1 (.own b 0 n c 1 xf) (.int .i64 (j7:Int))=some (.ptr b j7):=aT zO
  have ix2:a7 1 (.own b 0 n c 1 xf) (.int .i64 (lo:Int))=some (.ptr b lo):=aT zO
  have lx1:=aL hb7 (show j7<m.length by omega)
  have lx2:=aL hb7 (show lo<m.length by omega)
  have sx1:=cW (z:=gI m lo) hb7 (show j7<m.length by omega)
  have sx2:=eH (l:=m.set j7 (gI m lo)) (z:=gI m j7) (show lo<(m.set j7 (gI m lo)).length by rw [List.length_set]; omega)
  refine al ?_
  refine zD (d8 hl7 eI_7 eJ_7 e0_7 e1_7 ix1 ix2 lx1 lx2 sx1 sx2) ?_
  have hji:i6=j7+1:=by omega
  have hg:=eu (l:=m) (i:=j7) (j:=lo) zO zO
  refine ⟨⟨iW m j7 lo,j7,_,rfl,aq _ _ _,hpm.swap zO zO zO zO zO,by omega,by omega,?_,fun k h1 h2=>?_,fun k h1 h2=>?_⟩,zK⟩
  ·rw [hg,<- hpv]
   by_cases e:j7=lo
   ·rw [if_pos e,e]
   ·rw [if_neg e,if_pos rfl]
  ·rw [hg,<- hpv]
   by_cases e:k=lo
   ·rw [if_pos e]; exact A6 j7 zO zO
   ·rw [if_neg e,if_neg zO]; exact A6 k zO zO
  ·rw [hg,<- hpv,if_neg zO,if_neg zO]
   exact B7 k zO h2
 have xM:=C6 zO
 have hd2:=C7 zO
 have hne:i6≠j7:=fun e=>by rw [e] at xM; omega
 have ei:IntKind.i64.wrap ((i6:Int)+1)=((i6+1:Nat):Int):=by rw [ae] <;> omega
 have ej:IntKind.i64.wrap ((j7:Int)-1)=((j7-1:Nat):Int):=by rw [ae] <;> omega
 have ix1:a7 1 (.own b 0 n c 1 xf) (.int .i64 (i6:Int))=some (.ptr b i6):=aT zO
 have ix2:a7 1 (.own b 0 n c 1 xf) (.int .i64 (j7:Int))=some (.ptr b j7):=aT zO
 have lx1:=aL hb7 (show i6<m.length by omega)
 have lx2:=aL hb7 (show j7<m.length by omega)
 have sx1:=cW (z:=gI m j7) hb7 (show i6<m.length by omega)
 have sx2:=eH (l:=m.set i6 (gI m j7)) (z:=gI m i6) (show j7<(m.set i6 (gI m j7)).length by rw [List.length_set]; omega)
 refine zW (dz hl7 eI_7 eJ_7 hx) ?_
 refine al ?_
 refine zD (dC hl7 eI_7 eJ_7 e0_7 ix1 ix2 lx1 lx2 sx1 sx2 ei ej) ?_
 have hg:=eu (l:=m) (i:=i6) (j:=j7) zO zO
 refine ⟨zK,j7-1+2-(i6+1),by omega,i6+1,j7-1,iW m i6 j7,rfl,rfl,by omega,aq _ _ _,hpm.swap zO zO zO zO zO,?_,fun k h1 h2=>?_,fun k h1 h2=>?_⟩
 ·rw [hg,if_neg zO,if_neg zO]; exact hpv
 ·rw [hg,hg,if_neg (by omega:¬ lo=j7),if_neg (by omega:¬ lo=i6),if_neg (by omega:¬ k=j7)]
  by_cases e:k=i6
  ·rw [if_pos e]; exact hd2
  ·rw [if_neg e]; exact A6 k h1 zO
 ·rw [hg,hg,if_neg (by omega:¬ lo=j7),if_neg (by omega:¬ lo=i6)]
  by_cases e:k=j7
  ·rw [if_pos e]; exact xM
  ·rw [if_neg e,if_neg zO]; exact B7 k zO h2
end
section
variable {tab:Nat->Option aN} {H:Heap}
set_option maxHeartbeats 8000000 in
theorem tB (C:Code tab) {H0:Heap} {b n c lo hi:Nat} {xf:Bool} {l:List Int} (hk:Kp H0 H) (hb:H0.next<=b) (h:Ar H b l) (hn:l.length=n) (hlh:lo<hi) (hhn:hi<=n) (hlim:n<1099511627776) (hpre:0<lo->∀ k,lo<=k->k<hi->gI l (lo-1)<=gI l k) :
  Ans tab (.fn aU [.own b 0 n c 1 xf,.int .i64 (lo:Int),.int .i64 (hi:Int)]) H fun v H'=>(∃ m,∃ t:Bool,v=.bool t/\Ar H' b m/\Prm lo hi l m/\(t=true->iM m lo hi))/\Kp H0 H':=by
 have hw:=hk.wf
 refine qE C.q38 zU fun T hl g0 g1 g2=>?_
 have e01:IntKind.i64.wrap ((lo:Int)+1)=((lo+1:Nat):Int):=by rw [ae] <;> omega
 refine zW (eU hl g0 g1 g2 e01) ?_
 refine aQ (L:=133) H0 [7,8] (fun k vs H'=>∃ (i q:Nat) (m:List Int),vs=[.int .i64 (i:Int),.int .i64 (q:Int)]/\k=5-q/\q<=5/\lo<i/\i<=hi/\Ar H' b m/\Prm lo hi l m/\iM m lo i) 5 (zV (dz hl g0 g1 g2)) rfl (hk.up _) ⟨lo+1,0,l,by refine zW (dz hl g0 g1 g2) ?_; rfl,rfl,by omega,by omega,by omega,h,.refl _,fun p q h1 h2 h3=>by omega⟩ ?_
 rintro k1 T1 H1 hl1 hs1 k1' ⟨i,q,m,hv,hq,q5,i1,i2,hb1,hpm,hS⟩
 have w1:=k1'.wf
 simp only [List.map_cons,List.map_nil,List.cons.injEq,and_true] at hv
 obtain ⟨e7_1,e8_1⟩:=hv
 have e0_1:aa T1 0=.own b 0 n c 1 xf:=(hs1.at_ 0 zU).trans (zV (bb hl g0))
 have e1_1:aa T1 1=.int .i64 (lo:Int):=(hs1.at_ 1 zU).trans (zV (eU hl g0 g1 g2 g1))
 have e2_1:aa T1 2=.int .i64 (hi:Int):=(hs1.at_ 2 zU).trans (zV (eU hl g0 g1 g2 g2))
 have hml:m.length=n:=by rw [hpm.len,hn]
 clear hs1 hl g0 g1 g2
 by_cases c1:q<5
 case neg =>
  have c1':¬ (q:Int)<5:=by omega
  refine zW (fe hl1 e8_1 c1') ?_
  exact ⟨⟨m,false,rfl,hb1,hpm,fun h=>(nomatch h)⟩,zK⟩
 have c1':(q:Int)<5:=by omega
 refine zW (fe hl1 e8_1 c1') ?_
 refine fD (L:=133) H0 [7] (fun k vs H'=>∃ x:Nat,vs=[.int .i64 (x:Int)]/\k=hi-x/\(lo<x/\x<=hi)/\Ar H' b m/\iM m lo x) (fun vs H'=>∃ x:Nat,vs=[.int .i64 (x:Int)]/\(lo<x/\x<=hi)/\Ar H' b m/\iM m lo x/\(x<hi->gI m x<gI m (x-1))) (hi-i) (zV hl1) rfl zK ⟨i,by exact zV (bb hl1 e7_1),rfl,by omega,hb1,hS⟩ ?_ ?_
 ·rintro k3 T3 H3 hl3 hs3 k3' ⟨x,hv,hq3,hx,hb3,hS3⟩
  have w3:=k3'.wf
  simp only [List.map_cons,List.map_nil,List.cons.injEq,and_true] at hv
  have u0:aa T3 0=.own b 0 n c 1 xf:=(hs3.at_ 0 zU).trans (zV (bb hl1 e0_1))
  have u2:aa T3 2=.int .i64 (hi:Int):=(hs3.at_ 2 zU).trans (zV (bb hl1 e2_1))
  refine zW hl3 ?_
  refine al ?_
  by_cases c3:x<hi
  ·have ej:IntKind.i64.wrap ((x:Int)-1)=((x-1:Nat):Int):=by rw [ae] <;> omega
   have ex:IntKind.i64.wrap ((x:Int)+1)=((x+1:Nat):Int):=by rw [ae] <;> omega
   have ix1:a7 1 (.own b 0 n c 1 xf) (.int .i64 (x:Int))=some (.ptr b x):=aT zO
   have ix2:a7 1 (.own b 0 n c 1 xf) (.int .i64 ((x-1:Nat):Int))=some (.ptr b (x-1)):=aT zO
   have lx1:=aL hb3 (show x<m.length by omega)
   have lx2:=aL hb3 (show x-1<m.length by omega)
   refine zX (d8 hl3 hv u0 u2 c3 ej ix1 ix2 lx1 lx2 @aC) ?_
   refine AnsH.eq (dq C zF) fun H4 hk4=>?_
   obtain ⟨k34,_,_⟩:=zT H3 zK hk4
   have k4:=k3'.trans k34
   have w4:=hk4.wf
   have le_hk4:=hk4.le
   have hb4:Ar H4 b m:=k34.get hb3
   by_cases c4:gI m x<gI m (x-1)
   ·rw [decide_eq_true c4]
    refine zX (dC hl3 hv u0 u2 c3 ej ix1 ix2 lx1 lx2 @aC ex) ?_
    exact ⟨zK,x,rfl,hx,hb4,hS3,fun _=>c4⟩
   ·rw [decide_eq_false c4]
    refine zX (dC hl3 hv u0 u2 c3 ej ix1 ix2 lx1 lx2 @aC ex) ?_
    refine ⟨zK,hi-(x+1),by omega,x+1,rfl,rfl,by omega,hb4,fun p r h1 h2 h3=>?_⟩
    by_cases e:r=x
    ·subst e
     by_cases e2:p=r-1
     ·rw [e2]; omega
     ·have:=hS3 p (r-1) h1 zO zO; omega
    ·exact hS3 p r h1 h2 zO
  ·refine zX (eU hl3 hv u2 c3 @aC) ?_
   exact ⟨zK,x,rfl,hx,hb3,hS3,fun h=>absurd h c3⟩
 clear i1 i2 hS e7_1
 rintro T2 H2 hl2 hs2 k2' ⟨i,hv,hi2,hb2,hS,hlt⟩
 have w2:=k2'.wf
 simp only [List.map_cons,List.map_nil,List.cons.injEq,and_true] at hv
 have e7_2:aa T2 7=.int .i64 (i:Int):=hv
 have e0_2:aa T2 0=.own b 0 n c 1 xf:=(hs2.at_ 0 zU).trans (zV (bb hl1 e0_1))
 have e1_2:aa T2 1=.int .i64 (lo:Int):=(hs2.at_ 1 zU).trans (zV (bb hl1 e1_1))
 have e2_2:aa T2 2=.int .i64 (hi:Int):=(hs2.at_ 2 zU).trans (zV (bb hl1 e2_1))
 have e8_2:aa T2 8=.int .i64 (q:Int):=(hs2.at_ 8 zU).trans (zV (bb hl1 e8_1))
 clear hs2 hl1 e0_1 e1_1 e2_1 e8_1 hv
 by_cases c2:i=hi
 ·subst c2
  refine zW (fe hl2 e7_2 e2_2) ?_
  exact ⟨⟨m,true,rfl,hb2,hpm,fun _=>hS⟩,zK⟩
 have dl:IntKind.i64.wrap ((hi:Int)-(lo:Int))=((hi-lo:Nat):Int):=by rw [ae] <;> omega
 by_cases c3:(hi-lo:Nat)<50
 ·have c3':((hi-lo:Nat):Int)<50:=by omega
  refine zW (lf hl2 e7_2 e2_2 e1_2 @c2 dl c3') ?_
  exact ⟨⟨m,false,rfl,hb2,hpm,fun h=>(nomatch h)⟩,zK⟩
 have c3':¬ ((hi-lo:Nat):Int)<50:=by omega
 have ej:IntKind.i64.wrap ((i:Int)-1)=((i-1:Nat):Int):=by rw [ae] <;> omega
 have ei:IntKind.i64.wrap ((i:Int)+1)=((i+1:Nat):Int):=by rw [ae] <;> omega
 have dil:IntKind.i64.wrap ((i:Int)-(lo:Int))=((i-lo:Nat):Int):=by rw [ae] <;> omega
 obtain ⟨y,hy⟩:∃ y,y=i-1:=⟨_,rfl⟩
 rw [<- hy] at ej hlt
 have hlt:=hlt zO
 have lt2:=w2 _ _ hb2
 have ix1:a7 1 (.own b 0 n c 1 xf) (.int .i64 (i:Int))=some (.ptr b i):=aT zO
 have ix2:a7 1 (.own b 0 n c 1 xf) (.int .i64 (y:Int))=some (.ptr b y):=aT zO
 have lx1:=aL hb2 (show i<m.length by omega)
 have lx2:=aL hb2 (show y<m.length by omega)
 have sx1:=cW (z:=gI m y) hb2 (show i<m.length by omega)
 have sx2:=eH (l:=m.set i (gI m y)) (z:=gI m i) (show y<(m.set i (gI m y)).length by rw [List.length_set]; omega)
 refine zW (lf hl2 e7_2 e2_2 e1_2 @c2 dl c3') ?_
 refine al ?_
 have hg:=eu (l:=m) (i:=i) (j:=y) zO zO
 have hpm2:Prm lo hi l (iW m i y):=hpm.swap zO zO zO zO zO
 obtain ⟨m2,hm2⟩:∃ m2,m2=iW m i y:=⟨_,rfl⟩
 have hS2:∀ p r,lo<=p->p<r->r<=y->p≠y->r≠y->gI m2 p<=gI m2 r:=fun p r h1 h2 h3 h4 h5=>by
  rw [hm2,hg,hg,if_neg zO,if_neg zO,if_neg zO,if_neg zO]
  exact hS p r h1 h2 zO
 rw [<- hm2] at hpm2
 by_cases c4:(2:Int)<=((i-lo:Nat):Int)
 ·refine zD (mU hl2 e7_2 e0_2 e1_2 e2_2 e8_2 ej ix1 ix2 lx1 lx2 sx1 sx2 dil c4) ?_
  refine kf (fun T' Y=>T'.length=133/\aa T' 0=.own b 0 n c 1 xf/\aa T' 1=.int .i64 (lo:Int)/\aa T' 2=.int .i64 (hi:Int)/\aa T' 7=.int .i64 (i:Int)/\aa T' 8=.int .i64 (q:Int)/\aa T' 9=.int .i64 (y:Int)/\Ar Y b m2/\Kp H0 Y) ⟨by exact zE hl2,by exact zE (bb hl2 e0_2),by exact zE (bb hl2 e1_2),by exact zE (bb hl2 e2_2),by exact zE (bb hl2 e7_2),by exact zE (bb hl2 e8_2),by exact zE hl2,by rw [hm2]; exact aq _ _ _,zK⟩ ?_
  clear hl2 e0_2 e1_2 e2_2 e7_2 e8_2 ix1 ix2 lx1 lx2 sx1 sx2 hm2 hg hS hpm hml hlt hb1 hb2
  rintro T4 H4 ⟨hl4,e0_4,e1_4,e2_4,e7_4,e8_4,e9_4,hb4,k4⟩
  have w4:=k4.wf
  refine fD (L:=133) H0 [9] (fun k vs H'=>∃ (j:Nat) (m:List Int),vs=[.int .i64 (j:Int)]/\k=j/\(lo<=j/\j<=y)/\Ar H' b m/\Prm lo hi l m/\(∀ p r,lo<=p->p<r->r<=y->p≠j->r≠j->gI m p<=gI m r)/\(∀ r,j<r->r<=y->gI m j<=gI m r)) (fun vs H'=>∃ m:List Int,Ar H' b m/\Prm lo hi l m/\iM m lo i) y hl4 rfl k4 ⟨y,m2,by simp only [List.map_cons,List.map_nil,e9_4],rfl,by omega,hb4,hpm2,hS2,fun r h1 h2=>by omega⟩ ?_ ?_
  ·rintro k5 T5 H5 hl5 hs5 k5' ⟨j,m,hv,hq5,hj,hb5,hpm,hA,hB⟩
   have w5:=k5'.wf
   simp only [List.map_cons,List.map_nil,List.cons.injEq,and_true] at hv
   have u0:aa T5 0=.own b 0 n c 1 xf:=(hs5.at_ 0 zU).trans (zV (bb hl4 e0_4))
   have hml:m.length=n:=by rw [hpm.len,hn]
   have fin:(lo<j->gI m (j-1)<=gI m j)->iM m lo i:=fun h2 p r a1 a2 a3=>by
    by_cases e1:p=j
    ·subst e1; exact hB r a2 zO
    ·by_cases e2:r=j
     ·subst e2
      have h3:=h2 zO
      by_cases e3:p=r-1
      ·rw [e3]; exact h3
      ·exact Int.le_trans (hA p (r-1) a1 zO zO e1 zO) h3
     ·exact hA p r a1 a2 zO e1 e2
   by_cases c5:1<=j
   ·have c5':(1:Int)<=(j:Int):=by omega
    have ejj:IntKind.i64.wrap ((j:Int)-1)=((j-1:Nat):Int):=by rw [ae] <;> omega
    obtain ⟨z,hz⟩:∃ z,z=j-1:=⟨_,rfl⟩
    rw [<- hz] at ejj fin
    have ix1:a7 1 (.own b 0 n c 1 xf) (.int .i64 (j:Int))=some (.ptr b j):=aT zO
    have ix2:a7 1 (.own b 0 n c 1 xf) (.int .i64 (z:Int))=some (.ptr b z):=aT zO
    have lx1:=aL hb5 (show j<m.length by omega)
    have lx2:=aL hb5 (show z<m.length by omega)
    have sx1:=cW (z:=gI m z) hb5 (show j<m.length by omega)
    have sx2:=eH (l:=m.set j (gI m z)) (z:=gI m j) (show z<(m.set j (gI m z)).length by rw [List.length_set]; omega)
    refine zW (fe hl5 hv c5') ?_
    refine al ?_
    refine zD (jS hl5 hv u0 ejj ix1 ix2 lx1 lx2) ?_
    refine AnsH.eq (dq C zF) fun H6 hk6=>?_
    obtain ⟨k56,_,_⟩:=zT H5 zK hk6
    have k6:=k5'.trans k56
    have w6:=hk6.wf
    have le_hk6:=hk6.le
    have hb6:Ar H6 b m:=k56.get hb5
    have lt6:=w6 _ _ hb6
    by_cases c6:gI m j<gI m z
    ·have hjl:lo<j:=by
      by_cases e:lo<j
      ·exact e
      ·have e1:j=lo:=by omega
       have:=hpm.all (P:=fun x=>gI l (lo-1)<=x) (hpre zO) j zO zO
       rw [<- hpm.out (k:=lo-1) (.inl zO),<- e1,<- hz] at this
       omega
     rw [decide_eq_true c6]
     refine zD (jS hl5 hv u0 ejj ix1 ix2 lx1 lx2) ?_
     have ix16:a7 1 (.own b 0 n c 1 xf) (.int .i64 (j:Int))=some (.ptr b j):=aT zO
     have ix26:a7 1 (.own b 0 n c 1 xf) (.int .i64 (z:Int))=some (.ptr b z):=aT zO
     have lx16:=aL hb6 (show j<m.length by omega)
     have lx26:=aL hb6 (show z<m.length by omega)
     have sx16:=cW (z:=gI m z) hb6 (show j<m.length by omega)
     have sx26:=eH (l:=m.set j (gI m z)) (z:=gI m j) (show z<(m.set j (gI m z)).length by rw [List.length_set]; omega)
     refine kR (fun T'=>T'.length=133/\aa T' 0=.own b 0 n c 1 xf/\aa T' 9=.int .i64 (j:Int)) (zE (fe hl5 u0 hv)) ?_
     rintro T7 ⟨hl7,z0,z9⟩
     refine al ?_
     refine zD (fg hl7 z0 z9 ejj ix1 ix2 lx16 lx26 sx16 sx26) ?_
     have hg:=eu (l:=m) (i:=j) (j:=z) zO zO
     refine ⟨zK,z,by omega,z,iW m j z,rfl,rfl,by omega,aq _ _ _,hpm.swap zO zO zO zO zO,fun p r h1 h2 h3 h4 h5=>?_,fun r h1 h2=>?_⟩
     ·rw [hg,hg,if_neg h4,if_neg h5]
      by_cases e1:p=j
      ·subst e1
       rw [if_pos rfl,if_neg zO]
       exact hA z r zO zO h3 zO zO
      ·rw [if_neg e1]
       by_cases e2:r=j
       ·subst e2
        rw [if_pos rfl]
        exact hA p z h1 zO zO zO zO
       ·rw [if_neg e2]
        exact hA p r h1 h2 h3 e1 e2
     ·rw [hg,hg,if_pos rfl,if_neg zO]
      by_cases e1:r=j
      ·rw [if_pos e1]; omega
      ·rw [if_neg e1]
       exact hB r zO h2
    ·rw [decide_eq_false c6]
     refine zD (jS hl5 hv u0 ejj ix1 ix2 lx1 lx2) ?_
     exact ⟨zK,m,hb6,hpm,fin fun _=>by omega⟩
   ·have c5':¬ (1:Int)<=(j:Int):=by omega
    refine zW (fe hl5 hv c5') ?_
    exact ⟨zK,m,hb5,hpm,fin fun h=>by omega⟩
  ·clear hpm2 hS2
   rintro T5 H5 hl5 hs5 k5 ⟨m,hb5,hpm,hS⟩
   have w5:=k5.wf
   have e0_5:aa T5 0=.own b 0 n c 1 xf:=(hs5.at_ 0 zU).trans (zV (bb hl4 e0_4))
   have e2_5:aa T5 2=.int .i64 (hi:Int):=(hs5.at_ 2 zU).trans (zV (bb hl4 e2_4))
   have e7_5:aa T5 7=.int .i64 (i:Int):=(hs5.at_ 7 zU).trans (zV (bb hl4 e7_4))
   have e8_5:aa T5 8=.int .i64 (q:Int):=(hs5.at_ 8 zU).trans (zV (bb hl4 e8_4))
   clear hs5 hl4 e0_4 e1_4 e2_4 e7_4 e8_4
   have di:IntKind.i64.wrap ((hi:Int)-(i:Int))=((hi-i:Nat):Int):=by rw [ae] <;> omega
   have eq1:IntKind.i64.wrap ((q:Int)+1)=((q+1:Nat):Int):=by rw [ae] <;> omega
   by_cases c7:(2:Int)<=((hi-i:Nat):Int)
   ·refine zW (gD hl5 e2_5 e7_5 di c7 ei) ?_
    refine aQ (L:=133) H0 [10] (fun k vs H'=>∃ (x:Nat) (m:List Int),vs=[.int .i64 (x:Int)]/\k=hi-x/\i<x/\x<=hi/\Ar H' b m/\Prm lo hi l m/\iM m lo i) (hi-(i+1)) (zE hl5) rfl zK ⟨i+1,m,by exact zE hl5,rfl,by omega,by omega,hb5,hpm,hS⟩ ?_
    rintro k8 T8 H8 hl8 hs8 k8' ⟨x,m,hv,hq8,x1,x2,hb8,hpm,hS⟩
    have w8:=k8'.wf
    simp only [List.map_cons,List.map_nil,List.cons.injEq,and_true] at hv
    have u0:aa T8 0=.own b 0 n c 1 xf:=(hs8.at_ 0 zU).trans (zE (bb hl5 e0_5))
    have u2:aa T8 2=.int .i64 (hi:Int):=(hs8.at_ 2 zU).trans (zE (bb hl5 e2_5))
    have u7:aa T8 7=.int .i64 (i:Int):=(hs8.at_ 7 zU).trans (zE (bb hl5 e7_5))
    have u8:aa T8 8=.int .i64 (q:Int):=(hs8.at_ 8 zU).trans (zE (bb hl5 e8_5))
    have hml:m.length=n:=by rw [hpm.len,hn]
    by_cases c8:x<hi
    ·have ej:IntKind.i64.wrap ((x:Int)-1)=((x-1:Nat):Int):=by rw [ae] <;> omega
     have ex:IntKind.i64.wrap ((x:Int)+1)=((x+1:Nat):Int):=by rw [ae] <;> omega
     obtain ⟨y,hy⟩:∃ y,y=x-1:=⟨_,rfl⟩
     rw [<- hy] at ej
     have ix1:a7 1 (.own b 0 n c 1 xf) (.int .i64 (x:Int))=some (.ptr b x):=aT zO
     have ix2:a7 1 (.own b 0 n c 1 xf) (.int .i64 (y:Int))=some (.ptr b y):=aT zO
     have lx1:=aL hb8 (show x<m.length by omega)
     have lx2:=aL hb8 (show y<m.length by omega)
     have sx1:=cW (z:=gI m y) hb8 (show x<m.length by omega)
     have sx2:=eH (l:=m.set x (gI m y)) (z:=gI m x) (show y<(m.set x (gI m y)).length by rw [List.length_set]; omega)
     refine zW (dz hl8 hv u2 c8) ?_
     refine al ?_
     refine zD (jS hl8 hv u0 ej ix1 ix2 lx1 lx2) ?_
     refine AnsH.eq (dq C zF) fun H9 hk9=>?_
     obtain ⟨k89,_,_⟩:=zT H8 zK hk9
     have k9:=k8'.trans k89
     have w9:=hk9.wf
     have le_hk9:=hk9.le
     have hb9:Ar H9 b m:=k89.get hb8
     have lt9:=w9 _ _ hb9
     by_cases c9:gI m x<gI m y
     ·rw [decide_eq_true c9]
      refine zD (jS hl8 hv u0 ej ix1 ix2 lx1 lx2) ?_
      have ix19:a7 1 (.own b 0 n c 1 xf) (.int .i64 (x:Int))=some (.ptr b x):=aT zO
      have ix29:a7 1 (.own b 0 n c 1 xf) (.int .i64 (y:Int))=some (.ptr b y):=aT zO
      have lx19:=aL hb9 (show x<m.length by omega)
      have lx29:=aL hb9 (show y<m.length by omega)
      have sx19:=cW (z:=gI m y) hb9 (show x<m.length by omega)
      have sx29:=eH (l:=m.set x (gI m y)) (z:=gI m x) (show y<(m.set x (gI m y)).length by rw [List.length_set]; omega)
      refine kR (fun T'=>T'.length=133/\aa T' 0=.own b 0 n c 1 xf/\aa T' 10=.int .i64 (x:Int)) (zE (fe hl8 u0 hv)) ?_
      rintro T9 ⟨hl9,z0,z10⟩
      refine al ?_
      refine zD (d8 hl9 z0 z10 ej ex ix1 ix2 lx19 lx29 sx19 sx29) ?_
      have hg:=eu (l:=m) (i:=x) (j:=y) zO zO
      refine ⟨zK,hi-(x+1),by omega,x+1,iW m x y,rfl,rfl,by omega,by omega,aq _ _ _,hpm.swap zO zO zO zO zO,fun p r h1 h2 h3=>?_⟩
      rw [hg,hg,if_neg zO,if_neg zO,if_neg zO,if_neg zO]
      exact hS p r h1 h2 h3
     ·rw [decide_eq_false c9]
      refine zD (d8 hl8 hv u0 u7 u8 ej ix1 ix2 lx1 lx2 eq1) ?_
      exact ⟨zK,5-(q+1),by omega,i,q+1,m,rfl,rfl,by omega,by omega,by omega,hb9,hpm,hS⟩
    ·refine zW (lf hl8 hv u2 c8 u7 u8 eq1) ?_
     exact ⟨zK,5-(q+1),by omega,i,q+1,m,rfl,rfl,by omega,by omega,by omega,hb8,hpm,hS⟩
   ·refine zW (lf hl5 e2_5 e7_5 e8_5 di c7 eq1) ?_
    exact ⟨zK,5-(q+1),by omega,i,q+1,m,rfl,rfl,by omega,by omega,by omega,hb5,hpm,hS⟩
 ·have hpm:=hpm2
  have hS:iM m2 lo i:=fun p r h1 h2 h3=>by omega
  have hml2:m2.length=n:=by rw [hpm.len,hn]
  have hbS:∀ (Y:Heap),Ar (Y.put b (.cells (ne ((m.set i (gI m y)).set y (gI m i))) ap true)) b m2:=fun Y=>by rw [hm2]; exact aq _ _ _
  obtain ⟨m0,hm0⟩:∃ m0,m0=m:=⟨_,rfl⟩
  have di:IntKind.i64.wrap ((hi:Int)-(i:Int))=((hi-i:Nat):Int):=by rw [ae] <;> omega
  have eq1:IntKind.i64.wrap ((q:Int)+1)=((q+1:Nat):Int):=by rw [ae] <;> omega
  by_cases c7:(2:Int)<=((hi-i:Nat):Int)
  ·refine zD (sQ hl2 e2_2 e7_2 e0_2 e1_2 ix1 ix2 lx1 lx2 sx1 sx2 dil ej c4 di c7 ei) ?_
   refine aQ (L:=133) H0 [10] (fun k vs H'=>∃ (x:Nat) (m:List Int),vs=[.int .i64 (x:Int)]/\k=hi-x/\i<x/\x<=hi/\Ar H' b m/\Prm lo hi l m/\iM m lo i) (hi-(i+1)) (zE hl2) rfl zK ⟨i+1,m2,by exact zE hl2,rfl,by omega,by omega,(hbS _),hpm,hS⟩ ?_
   rintro k8 T8 H8 hl8 hs8 k8' ⟨x,m,hv,hq8,x1,x2,hb8,hpm,hS⟩
   have w8:=k8'.wf
   simp only [List.map_cons,List.map_nil,List.cons.injEq,and_true] at hv
   have u0:aa T8 0=.own b 0 n c 1 xf:=(hs8.at_ 0 zU).trans (zE (bb hl2 e0_2))
   have u2:aa T8 2=.int .i64 (hi:Int):=(hs8.at_ 2 zU).trans (zE (bb hl2 e2_2))
   have u7:aa T8 7=.int .i64 (i:Int):=(hs8.at_ 7 zU).trans (zE (bb hl2 e7_2))
   have u8:aa T8 8=.int .i64 (q:Int):=(hs8.at_ 8 zU).trans (zE (bb hl2 e8_2))
   have hml:m.length=n:=by rw [hpm.len,hn]
   by_cases c8:x<hi
   ·have ej:IntKind.i64.wrap ((x:Int)-1)=((x-1:Nat):Int):=by rw [ae] <;> omega
    have ex:IntKind.i64.wrap ((x:Int)+1)=((x+1:Nat):Int):=by rw [ae] <;> omega
    obtain ⟨y,hy⟩:∃ y,y=x-1:=⟨_,rfl⟩
    rw [<- hy] at ej
    have ix1:a7 1 (.own b 0 n c 1 xf) (.int .i64 (x:Int))=some (.ptr b x):=aT zO
    have ix2:a7 1 (.own b 0 n c 1 xf) (.int .i64 (y:Int))=some (.ptr b y):=aT zO
    have lx1:=aL hb8 (show x<m.length by omega)
    have lx2:=aL hb8 (show y<m.length by omega)
    have sx1:=cW (z:=gI m y) hb8 (show x<m.length by omega)
    have sx2:=eH (l:=m.set x (gI m y)) (z:=gI m x) (show y<(m.set x (gI m y)).length by rw [List.length_set]; omega)
    refine zW (dz hl8 hv u2 c8) ?_
    refine al ?_
    refine zD (jS hl8 hv u0 ej ix1 ix2 lx1 lx2) ?_
    refine AnsH.eq (dq C zF) fun H9 hk9=>?_
    obtain ⟨k89,_,_⟩:=zT H8 zK hk9
    have k9:=k8'.trans k89
    have w9:=hk9.wf
    have le_hk9:=hk9.le
    have hb9:Ar H9 b m:=k89.get hb8
    have lt9:=w9 _ _ hb9
    by_cases c9:gI m x<gI m y
    ·rw [decide_eq_true c9]
     refine zD (jS hl8 hv u0 ej ix1 ix2 lx1 lx2) ?_
     have ix19:a7 1 (.own b 0 n c 1 xf) (.int .i64 (x:Int))=some (.ptr b x):=aT zO
     have ix29:a7 1 (.own b 0 n c 1 xf) (.int .i64 (y:Int))=some (.ptr b y):=aT zO
     have lx19:=aL hb9 (show x<m.length by omega)
     have lx29:=aL hb9 (show y<m.length by omega)
     have sx19:=cW (z:=gI m y) hb9 (show x<m.length by omega)
     have sx29:=eH (l:=m.set x (gI m y)) (z:=gI m x) (show y<(m.set x (gI m y)).length by rw [List.length_set]; omega)
     refine kR (fun T'=>T'.length=133/\aa T' 0=.own b 0 n c 1 xf/\aa T' 10=.int .i64 (x:Int)) (zE (fe hl8 u0 hv)) ?_
     rintro T9 ⟨hl9,z0,z10⟩
     refine al ?_
     refine zD (d8 hl9 z0 z10 ej ex ix1 ix2 lx19 lx29 sx19 sx29) ?_
     have hg:=eu (l:=m) (i:=x) (j:=y) zO zO
     refine ⟨zK,hi-(x+1),by omega,x+1,iW m x y,rfl,rfl,by omega,by omega,aq _ _ _,hpm.swap zO zO zO zO zO,fun p r h1 h2 h3=>?_⟩
     rw [hg,hg,if_neg zO,if_neg zO,if_neg zO,if_neg zO]
     exact hS p r h1 h2 h3
    ·rw [decide_eq_false c9]
     refine zD (d8 hl8 hv u0 u7 u8 ej ix1 ix2 lx1 lx2 eq1) ?_
     exact ⟨zK,5-(q+1),by omega,i,q+1,m,rfl,rfl,by omega,by omega,by omega,hb9,hpm,hS⟩
   ·refine zW (lf hl8 hv u2 c8 u7 u8 eq1) ?_
    exact ⟨zK,5-(q+1),by omega,i,q+1,m,rfl,rfl,by omega,by omega,by omega,hb8,hpm,hS⟩
  ·refine zD (Fi hl2 e2_2 e7_2 e8_2 e0_2 e1_2 ix1 ix2 lx1 lx2 sx1 sx2 dil ej c4 di c7 eq1) ?_
   exact ⟨zK,5-(q+1),by omega,i,q+1,m2,rfl,rfl,by omega,by omega,by omega,(hbS _),hpm,hS⟩
end
def HeapF (l:List Int) (f k hi:Nat):Prop:=∀ i c,k<=i->(c=2*i+1\/c=2*i+2)->c<hi->gI l (f+c)<=gI l (f+i)
theorem HeapF.top {l:List Int} {f hi:Nat} (h:HeapF l f 0 hi):∀ k,k<hi->gI l (f+k)<=gI l (f+0):=by
 intro k
 induction k using Nat.strongRecOn with
 | _ k ih =>
  intro hk
  by_cases h0:k=0
  ·subst h0; exact Int.le_refl _
  ·have h1:=h ((k-1) / 2) k (Nat.zero_le _) zO hk
   have h2:=ih ((k-1) / 2) zO zO
   exact Int.le_trans h1 h2
section
variable {tab:Nat->Option aN} {H:Heap}
set_option maxHeartbeats 4000000 in
theorem uC (C:Code tab) {H0:Heap} {b n c lo hi f:Nat} {xf:Bool} {l:List Int} (hk:Kp H0 H) (hb:H0.next<=b) (h:Ar H b l) (hn:l.length=n) (hlh:lo<=hi) (hhn:f+hi<=n) (hlim:n<1099511627776) (hp0:HeapF l f (lo+1) hi) :
  Ans tab (.fn bm [.own b 0 n c 1 xf,.int .i64 (lo:Int),.int .i64 (hi:Int),.int .i64 (f:Int)]) H fun _ H'=>(∃ m,Ar H' b m/\Prm f (f+hi) l m/\HeapF m f lo hi)/\Kp H0 H':=by
 have hw:=hk.wf
 refine wT C.q48 zU fun T hl g0 g1 g2 g3=>?_
 refine zW (eU hl g0 g1 g2 g3) ?_
 refine aQ H0 [8] (fun k vs H'=>∃ r m,vs=[.int .i64 ((r:Nat):Int)]/\k=hi-r/\lo<=r/\r<=hi/\Ar H' b m/\Prm f (f+hi) l m/\(∀ i c,lo<=i->i≠r->(c=2*i+1\/c=2*i+2)->c<hi->gI m (f+c)<=gI m (f+i))/\(∀ i c,lo<=i->(r=2*i+1\/r=2*i+2)->(c=2*r+1\/c=2*r+2)->c<hi->gI m (f+c)<=gI m (f+i))) (hi-lo) (by simp only [List.length_set]; exact hl) rfl (hk.up _) ⟨lo,l,by exact zV (eU hl g0 g1 g2 g3),rfl,Nat.le_refl _,hlh,h,.refl _,fun i c h1 h2 h3 h4=>hp0 i c zO h3 h4,fun i c h1 h2 h3 h4=>by omega⟩ ?_
 rintro k T1 H1 hl1 hs1 hk1 ⟨r,m,hv,hkk,r1,r2,hb1,hp,hA,hB⟩
 have w1:=hk1.wf
 have le_hk1:=hk1.le
 simp only [List.map_cons,List.map_nil,List.cons.injEq,and_true] at hv
 have t0:aa T1 0=.own b 0 n c 1 xf:=(hs1.at_ 0 zU).trans (zV (bb hl g0))
 have t2:aa T1 2=.int .i64 (hi:Int):=(hs1.at_ 2 zU).trans (zV (gD hl g0 g1 g2 g3 g2))
 have t3:aa T1 3=.int .i64 (f:Int):=(hs1.at_ 3 zU).trans (zV (gD hl g0 g1 g2 g3 g3))
 have hml:m.length=n:=by rw [hp.len,hn]
 have e2:IntKind.i64.wrap (2*(r:Int))=((2*r:Nat):Int):=by rw [ae] <;> omega
 have e3:IntKind.i64.wrap (((2*r:Nat):Int)+1)=((2*r+1:Nat):Int):=by rw [ae] <;> omega
 by_cases hc:hi<=2*r+1
 ·refine zW (gD hl1 hv t2 e2 e3 hc) ?_
  refine ⟨⟨m,hb1,hp,fun i c h1 h2 h3=>?_⟩,zK⟩
  by_cases hi0:i=r
  ·subst hi0; omega
  ·exact hA i c h1 hi0 h2 h3
 refine zW (gD hl1 hv t2 e2 e3 hc) ?_
 refine al ?_
 by_cases hc2:2*r+2<hi
 ·have e4:IntKind.i64.wrap (((2*r+1:Nat):Int)+1)=((2*r+2:Nat):Int):=by rw [ae] <;> omega
  have f1:IntKind.i64.wrap ((f:Int)+((2*r+1:Nat):Int))=((f+(2*r+1):Nat):Int):=by rw [ae] <;> omega
  have f2:IntKind.i64.wrap (((f+(2*r+1):Nat):Int)+1)=((f+(2*r+2):Nat):Int):=by rw [ae] <;> omega
  have i1:a7 1 (.own b 0 n c 1 xf) (.int .i64 ((f+(2*r+1):Nat):Int))=some (.ptr b (f+(2*r+1))):=aT zO
  have i2:a7 1 (.own b 0 n c 1 xf) (.int .i64 ((f+(2*r+2):Nat):Int))=some (.ptr b (f+(2*r+2))):=aT zO
  have l1:=aL hb1 (show f+(2*r+1)<m.length by omega)
  have l2:=aL hb1 (show f+(2*r+2)<m.length by omega)
  refine zX (gt hl1 t0 t2 t3 hv e4 hc2 f1 f2 i1 i2 l1 l2) ?_
  refine AnsH.eq (dq C zF) fun H5 hk5=>?_
  obtain ⟨k5,_,_⟩:=zT H1 zK hk5
  have k05:Kp H0 H5:=hk1.trans k5
  have le_k05:=k05.le
  have w5:=hk5.wf
  have le_hk5:=hk5.le
  have hb5:Ar H5 b m:=k5.get hb1
  by_cases hq:gI m (f+(2*r+1))<gI m (f+(2*r+2))
  ·rw [decide_eq_true hq]
   refine zX (gt hl1 t0 t2 t3 hv e4 hc2 f1 f2 i1 i2 l1 l2) ?_
   have ar:IntKind.i64.wrap ((f:Int)+(r:Int))=((f+r:Nat):Int):=by rw [ae] <;> omega
   have ac:IntKind.i64.wrap ((f:Int)+(((2*r+2):Nat):Int))=((f+(2*r+2):Nat):Int):=by rw [ae] <;> omega
   have hmx:∀ c,(c=2*r+1\/c=2*r+2)->c<hi->gI m (f+c)<=gI m (f+(2*r+2)):=fun c h1 h2=>by
    rcases h1 with rfl | rfl <;> omega
   have ir:a7 1 (.own b 0 n c 1 xf) (.int .i64 ((f+r:Nat):Int))=some (.ptr b (f+r)):=aT zO
   have ic:a7 1 (.own b 0 n c 1 xf) (.int .i64 ((f+(2*r+2):Nat):Int))=some (.ptr b (f+(2*r+2))):=aT zO
   have lr:=aL hb5 (show f+r<m.length by omega)
   have lc:=aL hb5 (show f+(2*r+2)<m.length by omega)
   refine al ?_
   refine zD (d8 hl1 t0 t2 t3 hv ar ac ir ic lr lc) ?_
   refine AnsH.eq (dq C zF) fun H6 hk6=>?_
   obtain ⟨k6,_,_⟩:=zT H5 zK hk6
   have k06:Kp H0 H6:=k05.trans k6
   have le_k06:=k06.le
   have w6:=hk6.wf
   have le_hk6:=hk6.le
   have hb6:Ar H6 b m:=k6.get hb5
   have lt6:=w6 _ _ hb6
   by_cases hlt:gI m (f+r)<gI m (f+(2*r+2))
   ·rw [decide_eq_true hlt]
    refine zD (d8 hl1 t0 t2 t3 hv ar ac ir ic lr lc) ?_
    have lr6:=aL hb6 (show f+r<m.length by omega)
    have lc6:=aL hb6 (show f+(2*r+2)<m.length by omega)
    have sx1:=cW (z:=gI m (f+(2*r+2))) hb6 (show f+r<m.length by omega)
    have sx2:=eH (l:=m.set (f+r) (gI m (f+(2*r+2)))) (z:=gI m (f+r)) (show f+(2*r+2)<(m.set (f+r) (gI m (f+(2*r+2)))).length by rw [List.length_set]; omega)
    refine kR (fun T'=>T'.length=76/\aa T' 0=.own b 0 n c 1 xf/\aa T' 3=.int .i64 (f:Int)/\aa T' 8=.int .i64 (r:Int)/\aa T' 9=.int .i64 (((2*r+2):Nat):Int)) (zE (eU hl1 t0 t2 t3 hv)) ?_
    rintro T9 ⟨q1,q0,q3,q8,q9⟩
    refine al ?_
    refine zD (gt q1 q0 q3 q8 q9 ar ac ir ic lr6 lc6 sx1 sx2) ?_
    have hg:=eu (l:=m) (i:=f+r) (j:=f+(2*r+2)) zO zO
    refine ⟨zK,hi-(2*r+2),by omega,(2*r+2),iW m (f+r) (f+(2*r+2)),rfl,rfl,by omega,by omega,aq _ _ _,hp.swap zO zO zO zO zO,fun i c h1 h2 h3 h4=>?_,fun i c h1 h2 h3 h4=>?_⟩
    ·rw [hg,hg,if_neg (by omega:¬ f+i=f+((2*r+2)))]
     by_cases e1:i=r
     ·rw [e1,if_pos rfl]
      by_cases e2:c=(2*r+2)
      ·rw [if_pos zO]; omega
      ·rw [if_neg zO,if_neg zO]; exact hmx c zO h4
     ·rw [if_neg (by omega:¬ f+i=f+r),if_neg zO]
      by_cases e2:c=r
      ·subst e2; rw [if_pos rfl]; exact hB i _ h1 h3 zO zO
      ·rw [if_neg zO]; exact hA i c h1 e1 h3 h4
    ·have hir:i=r:=by omega
     rw [hir,hg,hg,if_neg zO,if_neg zO,if_neg zO,if_pos rfl]
     exact hA _ c zO zO h3 h4
   ·rw [decide_eq_false hlt]
    refine zD (d8 hl1 t0 t2 t3 hv ar ac ir ic lr lc) ?_
    refine ⟨⟨m,hb6,hp,fun i c h1 h2 h3=>?_⟩,zK⟩
    by_cases e1:i=r
    ·subst e1; have:=hmx c h2 h3; omega
    ·exact hA i c h1 e1 h2 h3
  ·rw [decide_eq_false hq]
   refine zX (gt hl1 t0 t2 t3 hv e4 hc2 f1 f2 i1 i2 l1 l2) ?_
   have ar:IntKind.i64.wrap ((f:Int)+(r:Int))=((f+r:Nat):Int):=by rw [ae] <;> omega
   have ac:IntKind.i64.wrap ((f:Int)+(((2*r+1):Nat):Int))=((f+(2*r+1):Nat):Int):=by rw [ae] <;> omega
   have hmx:∀ c,(c=2*r+1\/c=2*r+2)->c<hi->gI m (f+c)<=gI m (f+(2*r+1)):=fun c h1 h2=>by
    rcases h1 with rfl | rfl <;> omega
   have ir:a7 1 (.own b 0 n c 1 xf) (.int .i64 ((f+r:Nat):Int))=some (.ptr b (f+r)):=aT zO
   have ic:a7 1 (.own b 0 n c 1 xf) (.int .i64 ((f+(2*r+1):Nat):Int))=some (.ptr b (f+(2*r+1))):=aT zO
   have lr:=aL hb5 (show f+r<m.length by omega)
   have lc:=aL hb5 (show f+(2*r+1)<m.length by omega)
   refine al ?_
   refine zD (d8 hl1 t0 t2 t3 hv ar ac ir ic lr lc) ?_
   refine AnsH.eq (dq C zF) fun H6 hk6=>?_
   obtain ⟨k6,_,_⟩:=zT H5 zK hk6
   have k06:Kp H0 H6:=k05.trans k6
   have le_k06:=k06.le
   have w6:=hk6.wf
   have le_hk6:=hk6.le
   have hb6:Ar H6 b m:=k6.get hb5
   have lt6:=w6 _ _ hb6
   by_cases hlt:gI m (f+r)<gI m (f+(2*r+1))
   ·rw [decide_eq_true hlt]
    refine zD (d8 hl1 t0 t2 t3 hv ar ac ir ic lr lc) ?_
    have lr6:=aL hb6 (show f+r<m.length by omega)
    have lc6:=aL hb6 (show f+(2*r+1)<m.length by omega)
    have sx1:=cW (z:=gI m (f+(2*r+1))) hb6 (show f+r<m.length by omega)
    have sx2:=eH (l:=m.set (f+r) (gI m (f+(2*r+1)))) (z:=gI m (f+r)) (show f+(2*r+1)<(m.set (f+r) (gI m (f+(2*r+1)))).length by rw [List.length_set]; omega)
    refine kR (fun T'=>T'.length=76/\aa T' 0=.own b 0 n c 1 xf/\aa T' 3=.int .i64 (f:Int)/\aa T' 8=.int .i64 (r:Int)/\aa T' 9=.int .i64 (((2*r+1):Nat):Int)) (zE (eU hl1 t0 t2 t3 hv)) ?_
    rintro T9 ⟨q1,q0,q3,q8,q9⟩
    refine al ?_
    refine zD (gt q1 q0 q3 q8 q9 ar ac ir ic lr6 lc6 sx1 sx2) ?_
    have hg:=eu (l:=m) (i:=f+r) (j:=f+(2*r+1)) zO zO
    refine ⟨zK,hi-(2*r+1),by omega,(2*r+1),iW m (f+r) (f+(2*r+1)),rfl,rfl,by omega,by omega,aq _ _ _,hp.swap zO zO zO zO zO,fun i c h1 h2 h3 h4=>?_,fun i c h1 h2 h3 h4=>?_⟩
    ·rw [hg,hg,if_neg (by omega:¬ f+i=f+((2*r+1)))]
     by_cases e1:i=r
     ·rw [e1,if_pos rfl]
      by_cases e2:c=(2*r+1)
      ·rw [if_pos zO]; omega
      ·rw [if_neg zO,if_neg zO]; exact hmx c zO h4
     ·rw [if_neg (by omega:¬ f+i=f+r),if_neg zO]
      by_cases e2:c=r
      ·subst e2; rw [if_pos rfl]; exact hB i _ h1 h3 zO zO
      ·rw [if_neg zO]; exact hA i c h1 e1 h3 h4
    ·have hir:i=r:=by omega
     rw [hir,hg,hg,if_neg zO,if_neg zO,if_neg zO,if_pos rfl]
     exact hA _ c zO zO h3 h4
   ·rw [decide_eq_false hlt]
    refine zD (d8 hl1 t0 t2 t3 hv ar ac ir ic lr lc) ?_
    refine ⟨⟨m,hb6,hp,fun i c h1 h2 h3=>?_⟩,zK⟩
    by_cases e1:i=r
    ·subst e1; have:=hmx c h2 h3; omega
    ·exact hA i c h1 e1 h2 h3
 ·have e4:IntKind.i64.wrap (((2*r+1:Nat):Int)+1)=((2*r+2:Nat):Int):=by rw [ae] <;> omega
  refine zX (lf hl1 t0 t2 t3 hv e4 hc2) ?_
  have ar:IntKind.i64.wrap ((f:Int)+(r:Int))=((f+r:Nat):Int):=by rw [ae] <;> omega
  have ac:IntKind.i64.wrap ((f:Int)+(((2*r+1):Nat):Int))=((f+(2*r+1):Nat):Int):=by rw [ae] <;> omega
  have hmx:∀ c,(c=2*r+1\/c=2*r+2)->c<hi->gI m (f+c)<=gI m (f+(2*r+1)):=fun c h1 h2=>by
   rcases h1 with rfl | rfl <;> omega
  have ir:a7 1 (.own b 0 n c 1 xf) (.int .i64 ((f+r:Nat):Int))=some (.ptr b (f+r)):=aT zO
  have ic:a7 1 (.own b 0 n c 1 xf) (.int .i64 ((f+(2*r+1):Nat):Int))=some (.ptr b (f+(2*r+1))):=aT zO
  have lr:=aL hb1 (show f+r<m.length by omega)
  have lc:=aL hb1 (show f+(2*r+1)<m.length by omega)
  refine al ?_
  refine zD (d8 hl1 t0 t2 t3 hv ar ac ir ic lr lc) ?_
  refine AnsH.eq (dq C zF) fun H6 hk6=>?_
  obtain ⟨k6,_,_⟩:=zT H1 zK hk6
  have k06:Kp H0 H6:=hk1.trans k6
  have le_k06:=k06.le
  have w6:=hk6.wf
  have le_hk6:=hk6.le
  have hb6:Ar H6 b m:=k6.get hb1
  have lt6:=w6 _ _ hb6
  by_cases hlt:gI m (f+r)<gI m (f+(2*r+1))
  ·rw [decide_eq_true hlt]
   refine zD (d8 hl1 t0 t2 t3 hv ar ac ir ic lr lc) ?_
   have lr6:=aL hb6 (show f+r<m.length by omega)
   have lc6:=aL hb6 (show f+(2*r+1)<m.length by omega)
   have sx1:=cW (z:=gI m (f+(2*r+1))) hb6 (show f+r<m.length by omega)
   have sx2:=eH (l:=m.set (f+r) (gI m (f+(2*r+1)))) (z:=gI m (f+r)) (show f+(2*r+1)<(m.set (f+r) (gI m (f+(2*r+1)))).length by rw [List.length_set]; omega)
   refine kR (fun T'=>T'.length=76/\aa T' 0=.own b 0 n c 1 xf/\aa T' 3=.int .i64 (f:Int)/\aa T' 8=.int .i64 (r:Int)/\aa T' 9=.int .i64 (((2*r+1):Nat):Int)) (zE (eU hl1 t0 t2 t3 hv)) ?_
   rintro T9 ⟨q1,q0,q3,q8,q9⟩
   refine al ?_
   refine zD (gt q1 q0 q3 q8 q9 ar ac ir ic lr6 lc6 sx1 sx2) ?_
   have hg:=eu (l:=m) (i:=f+r) (j:=f+(2*r+1)) zO zO
   refine ⟨zK,hi-(2*r+1),by omega,(2*r+1),iW m (f+r) (f+(2*r+1)),rfl,rfl,by omega,by omega,aq _ _ _,hp.swap zO zO zO zO zO,fun i c h1 h2 h3 h4=>?_,fun i c h1 h2 h3 h4=>?_⟩
   ·rw [hg,hg,if_neg (by omega:¬ f+i=f+((2*r+1)))]
    by_cases e1:i=r
    ·rw [e1,if_pos rfl]
     by_cases e2:c=(2*r+1)
     ·rw [if_pos zO]; omega
     ·rw [if_neg zO,if_neg zO]; exact hmx c zO h4
    ·rw [if_neg (by omega:¬ f+i=f+r),if_neg zO]
     by_cases e2:c=r
     ·subst e2; rw [if_pos rfl]; exact hB i _ h1 h3 zO zO
     ·rw [if_neg zO]; exact hA i c h1 e1 h3 h4
   ·have hir:i=r:=by omega
    rw [hir,hg,hg,if_neg zO,if_neg zO,if_neg zO,if_pos rfl]
    exact hA _ c zO zO h3 h4
  ·rw [decide_eq_false hlt]
   refine zD (d8 hl1 t0 t2 t3 hv ar ac ir ic lr lc) ?_
   refine ⟨⟨m,hb6,hp,fun i c h1 h2 h3=>?_⟩,zK⟩
   by_cases e1:i=r
   ·subst e1; have:=hmx c h2 h3; omega
   ·exact hA i c h1 e1 h2 h3
end
section
variable {tab:Nat->Option aN} {H:Heap}
set_option maxHeartbeats 4000000 in
theorem BU (C:Code tab) {H0:Heap} {b n c lo hi:Nat} {xf:Bool} {l:List Int} (hk:Kp H0 H) (hb:H0.next<=b) (h:Ar H b l) (hn:l.length=n) (hlh:lo<hi) (hhn:hi<=n) (hlim:n<1099511627776) :
  Ans tab (.fn bJ [.own b 0 n c 1 xf,.int .i64 (lo:Int),.int .i64 (hi:Int)]) H fun _ H'=>(∃ m,Ar H' b m/\Prm lo hi l m/\iM m lo hi)/\Kp H0 H':=by
 have hw:=hk.wf
 refine qE C.q34 zU fun T hl g0 g1 g2=>?_
 obtain ⟨w,hw1⟩:∃ w,w=hi-lo:=⟨_,rfl⟩
 have e01:IntKind.i64.wrap ((hi:Int)-(lo:Int))=((w:Nat):Int):=by rw [ae] <;> omega
 have e1:IntKind.i64.wrap ((w:Int)-1)=((w-1:Nat):Int):=by rw [ae] <;> omega
 obtain ⟨p,hp⟩:∃ p,p=(w-1) / 2:=⟨_,rfl⟩
 have q2:cw .quo .int (.int .i64 ((w-1:Nat):Int)) (.int .i64 2)=some (.int .i64 (p:Int)):=by rw [hp]; exact uF (c:=2) zO zO
 have hhi:lo+w=hi:=by omega
 have ep:((p+1:Nat):Int)-1=(p:Int):=by omega
 have ew:((w:Nat):Int)-1=((w-1:Nat):Int):=by omega
 refine zW (lf hl g0 g1 g2 e01 e1 q2) ?_
 refine aQ H0 [9] (fun k vs H'=>∃ m,vs=[.int .i64 ((k:Int)-1)]/\k<=p+1/\Ar H' b m/\Prm lo hi l m/\HeapF m lo k w) (p+1) (by simp only [List.length_set]; exact hl) rfl (hk.up _) ⟨l,by rw [ep]; exact zV (dz hl g0 g1 g2),Nat.le_refl _,h,.refl _,fun i c h1 h2 h3=>by omega⟩ ?_
 rintro k T1 H1 hl1 hs1 hk1 ⟨m,hv,k1,hb1,hpm,hhp⟩
 have w1:=hk1.wf
 have le_hk1:=hk1.le
 simp only [List.map_cons,List.map_nil,List.cons.injEq,and_true] at hv
 have t0:aa T1 0=.own b 0 n c 1 xf:=(hs1.at_ 0 zU).trans (zV (bb hl g0))
 have t6:aa T1 6=.int .i64 (lo:Int):=(hs1.at_ 6 zU).trans (zV (eU hl g0 g1 g2 g1))
 have t7:aa T1 7=.int .i64 0:=(hs1.at_ 7 zU).trans (zV (dz hl g0 g1 g2))
 have t8:aa T1 8=.int .i64 (w:Int):=(hs1.at_ 8 zU).trans (zV (dz hl g0 g1 g2))
 have hml:m.length=n:=by rw [hpm.len,hn]
 by_cases hk0:0<k
 ·obtain ⟨j,rfl⟩:∃ j,k=j+1:=⟨k-1,by omega⟩
  have ev:((j+1:Nat):Int)-1=(j:Int):=by omega
  rw [ev] at hv
  have c0:(0:Int)<=(j:Int):=by omega
  have ej:IntKind.i64.wrap ((j:Int)-1)=(j:Int)-1:=by rw [ae] <;> omega
  refine zW (gD hl1 hv t0 t6 t8 c0) ?_
  refine AnsH.use (uC C (H0:=H0) (hk1.up _) hb hb1 hml zO zO hlim hhp) ?_
  rintro _ H2 ⟨⟨m2,hb2,hp2,hh2⟩,hk2⟩
  refine zW (fe hl1 hv ej) ?_
  exact ⟨zK,j,by omega,m2,rfl,by omega,hb2,hpm.trans (by rw [hhi] at hp2; exact hp2),hh2⟩
 ·have hk00:k=0:=by omega
  subst hk00
  have ev:((0:Nat):Int)-1 = -1:=by omega
  rw [ev] at hv
  have c0:¬ (0:Int) <= -1:=by omega
  refine zW (eU hl1 hv t8 c0 e1) ?_
  refine aQ H0 [10] (fun k vs H'=>∃ m,vs=[.int .i64 ((k:Int)-1)]/\k<=w/\Ar H' b m/\Prm lo hi l m/\HeapF m lo 0 k/\(∀ p q,p<q->q<w->k<=q->gI m (lo+p)<=gI m (lo+q))) w (by simp only [List.length_set]; exact hl1) rfl (hk1.up _) ⟨m,by rw [ew]; exact zV hl1,Nat.le_refl _,hb1,hpm,hhp,fun p q h1 h2 h3=>by omega⟩ ?_
  rintro k T3 H3 hl3 hs3 hk3 ⟨m3,hv3,k3,hb3,hpm3,hh3,hS⟩
  have w3:=hk3.wf
  have le_hk3:=hk3.le
  simp only [List.map_cons,List.map_nil,List.cons.injEq,and_true] at hv3
  have u0:aa T3 0=.own b 0 n c 1 xf:=(hs3.at_ 0 zU).trans (zV (bb hl1 t0))
  have u6:aa T3 6=.int .i64 (lo:Int):=(hs3.at_ 6 zU).trans (zV (bb hl1 t6))
  have u7:aa T3 7=.int .i64 0:=(hs3.at_ 7 zU).trans (zV (bb hl1 t7))
  have hml3:m3.length=n:=by rw [hpm3.len,hn]
  by_cases hk0:0<k
  ·obtain ⟨j,rfl⟩:∃ j,k=j+1:=⟨k-1,by omega⟩
   have ev:((j+1:Nat):Int)-1=(j:Int):=by omega
   rw [ev] at hv3
   have c0:(0:Int)<=(j:Int):=by omega
   have ej:IntKind.i64.wrap ((j:Int)-1)=(j:Int)-1:=by rw [ae] <;> omega
   have aj:IntKind.i64.wrap ((lo:Int)+(j:Int))=((lo+j:Nat):Int):=by rw [ae] <;> omega
   have ix1:a7 1 (.own b 0 n c 1 xf) (.int .i64 (lo:Int))=some (.ptr b lo):=aT zO
   have ix2:a7 1 (.own b 0 n c 1 xf) (.int .i64 ((lo+j:Nat):Int))=some (.ptr b (lo+j)):=aT zO
   have lx1:=aL hb3 (show lo<m3.length by omega)
   have lx2:=aL hb3 (show lo+j<m3.length by omega)
   have sx1:=cW (z:=gI m3 (lo+j)) hb3 (show lo<m3.length by omega)
   have sx2:=eH (l:=m3.set lo (gI m3 (lo+j))) (z:=gI m3 lo) (show lo+j<(m3.set lo (gI m3 (lo+j))).length by rw [List.length_set]; omega)
   have lt3:=w3 _ _ hb3
   refine zW (fe hl3 hv3 c0) ?_
   refine al ?_
   refine zD (dC hl3 hv3 u0 u6 u7 aj ix1 ix2 lx1 lx2 sx1 sx2) ?_
   have hg:=eu (l:=m3) (i:=lo) (j:=lo+j) zO zO
   have hp4:Prm lo hi l (iW m3 lo (lo+j)):=hpm3.swap zO zO zO zO zO
   have hmax:=hh3.top
   have hS4:∀ p q,p<q->q<w->j<=q->gI (iW m3 lo (lo+j)) (lo+p)<=gI (iW m3 lo (lo+j)) (lo+q):=fun p q h1 h2 h3=>by
    rw [hg,hg]
    by_cases e1:q=j
    ·subst e1
     rw [if_pos rfl,if_neg zO]
     by_cases e2:p=0
     ·subst e2
      rw [if_pos (Nat.add_zero _)]
      exact hmax q zO
     ·rw [if_neg zO]
      exact hmax p zO
    ·rw [if_neg (by omega:¬ lo+q=lo+j),if_neg (by omega:¬ lo+q=lo)]
     by_cases e2:p=j
     ·subst e2
      rw [if_pos rfl]
      exact hS 0 q zO h2 zO
     ·rw [if_neg zO]
      by_cases e3:p=0
      ·subst e3
       rw [if_pos (Nat.add_zero _)]
       exact hS j q zO h2 zO
      ·rw [if_neg zO]
       exact hS p q h1 h2 zO
   have hH4:HeapF (iW m3 lo (lo+j)) lo (0+1) j:=fun i c h1 h2 h3=>by
    rw [hg,hg,if_neg zO,if_neg zO,if_neg zO,if_neg zO]
    exact hh3 i c zO h2 zO
   have S:∀ X,Kp H0 X->Ar X b (iW m3 lo (lo+j))->_:=fun X hk h=>uC C (H0:=H0) (H:=X) (b:=b) (n:=n) (c:=c) (lo:=0) (hi:=j) (f:=lo) (xf:=xf) (l:=iW m3 lo (lo+j)) hk hb h (by rw [ng]; omega) zO zO hlim hH4
   rw [show (((0:Nat):Int))=0 from rfl] at S
   refine AnsH.use (S _ zK (aq _ _ _)) ?_
   rintro _ H5 ⟨⟨m5,hb5,hp5,hh5⟩,hk5⟩
   refine zD (fe hl3 hv3 ej) ?_
   refine ⟨zK,j,by omega,m5,rfl,by omega,hb5,?_,hh5,fun p q h1 h2 h3=>?_⟩
   ·exact hp4.trans (hp5.wide (Nat.le_refl _) zO (by rw [ng]; omega)).1
   ·rw [hp5.out (k:=lo+q) (.inr zO)]
    by_cases e1:p<j
    ·exact hp5.all (P:=fun x=>x<=gI (iW m3 lo (lo+j)) (lo+q)) (fun k h4 h5=>by
      have:=hS4 (k-lo) q zO h2 h3
      rwa [show lo+(k-lo)=k by omega] at this) (lo+p) zO zO
    ·rw [hp5.out (k:=lo+p) (.inr zO)]
     exact hS4 p q h1 h2 h3
  ·have hk00:k=0:=by omega
   subst hk00
   have ev:((0:Nat):Int)-1 = -1:=by omega
   rw [ev] at hv3
   have c0:¬ (0:Int) <= -1:=by omega
   refine zW (fe hl3 hv3 c0) ?_
   refine ⟨⟨m3,hb3,hpm3,fun p q h1 h2 h3=>?_⟩,zK⟩
   have:=hS (p-lo) (q-lo) zO zO (Nat.zero_le _)
   rwa [show lo+(p-lo)=p by omega,show lo+(q-lo)=q by omega] at this
end
section
variable {tab:Nat->Option aN} {H:Heap}
set_option maxHeartbeats 2000000 in
theorem tl (C:Code tab) {H0:Heap} {b n c lo hi:Nat} {xf:Bool} {l:List Int} (hk:Kp H0 H) (hb:H0.next<=b) (h:Ar H b l) (hn:l.length=n) (hlh:lo<hi) (hhn:hi<=n) (hlim:n<1099511627776) :
  Ans tab (.fn bq [.own b 0 n c 1 xf,.int .i64 (lo:Int),.int .i64 (hi:Int)]) H fun _ H'=>(∃ m,Ar H' b m/\Prm lo hi l m)/\Kp H0 H':=by
 have hw:=hk.wf
 refine qE C.q37 zU fun T hl g0 g1 g2=>?_
 have e01:IntKind.i64.wrap ((hi:Int)-1)=((hi-1:Nat):Int):=by rw [ae] <;> omega
 refine zW (eU hl g0 g1 g2 e01) ?_
 refine aQ H0 [6,7] (fun k vs H'=>∃ i j m,vs=[.int .i64 ((i:Nat):Int),.int .i64 ((j:Nat):Int)]/\k=j/\lo<=i/\j<hi/\Ar H' b m/\Prm lo hi l m) (hi-1) (by simp only [List.length_set]; exact hl) rfl (hk.up _) ⟨lo,hi-1,l,by exact zV (dz hl g0 g1 g2),rfl,Nat.le_refl _,by omega,h,.refl _⟩ ?_
 rintro k T1 H1 hl1 hs1 hk1 ⟨i,j,m,hv,hkj,i1,j1,hb1,hp⟩
 have w1:=hk1.wf
 have le_hk1:=hk1.le
 simp only [List.map_cons,List.map_nil,List.cons.injEq,and_true] at hv
 obtain ⟨hv6,hv7⟩:=hv
 have t0:aa T1 0=.own b 0 n c 1 xf:=(hs1.at_ 0 zU).trans (zV (bb hl g0))
 have hml:m.length=n:=by rw [hp.len,hn]
 by_cases hij:i<j
 case neg =>
  have hi':¬ (i:Int)<(j:Int):=by omega
  refine zW (dz hl1 hv6 hv7 hi') ?_
  exact ⟨⟨m,hb1,hp⟩,zK⟩
 have hi':(i:Int)<(j:Int):=by omega
 refine zW (dz hl1 hv6 hv7 hi') ?_
 have lx1:=aL hb1 (show i<m.length by omega)
 have lx2:=aL hb1 (show j<m.length by omega)
 have ix1:a7 1 (.own b 0 n c 1 xf) (.int .i64 (i:Int))=some (.ptr b i):=aT zO
 have ix2:a7 1 (.own b 0 n c 1 xf) (.int .i64 (j:Int))=some (.ptr b j):=aT zO
 have sx1:=cW (z:=gI m j) hb1 (show i<m.length by omega)
 have sx2:=eH (l:=m.set i (gI m j)) (z:=gI m i) (show j<(m.set i (gI m j)).length by rw [List.length_set]; omega)
 have ei:IntKind.i64.wrap ((i:Int)+1)=((i+1:Nat):Int):=by rw [ae] <;> omega
 have ej:IntKind.i64.wrap ((j:Int)-1)=((j-1:Nat):Int):=by rw [ae] <;> omega
 have lt1:=w1 _ _ hb1
 refine al ?_
 refine zD (dC hl1 t0 hv6 hv7 lx1 lx2 ix1 ix2 sx1 sx2 ei ej) ?_
 exact ⟨zK,j-1,by omega,i+1,j-1,iW m i j,rfl,rfl,by omega,by omega,aq _ _ _,hp.swap zO zO zO zO zO⟩
theorem ma (C:Code tab) {H0:Heap} {b n c x y sb:Nat} {xf:Bool} {l:List Int} {s:Int} (hk:Kp H0 H) (hsb:H0.next<=sb) (h:Ar H b l) (hn:l.length=n) (hx:x<n) (hy:y<n) (hs:H.get sb=some (.cells [.int .i64 s] fM true)) :
  Ans tab (.fn bf [.own b 0 n c 1 xf,.int .i64 (x:Int),.int .i64 (y:Int),.ptr sb 0]) H fun v H'=>(∃ x' y':Nat,∃ s',v=.tup [.int .i64 (x':Int),.int .i64 (y':Int)]/\((x'=x/\y'=y)\/(x'=y/\y'=x))/\H'.get sb=some (.cells [.int .i64 s'] fM true)/\Ar H' b l)/\Kp H0 H':=by
 have hw:=hk.wf
 refine wT C.q56 zU fun T hl g0 g1 g2 g3=>?_
 have ix1:a7 1 (.own b 0 n c 1 xf) (.int .i64 (x:Int))=some (.ptr b x):=aT hx
 have ix2:a7 1 (.own b 0 n c 1 xf) (.int .i64 (y:Int))=some (.ptr b y):=aT hy
 have lx1:=aL h (show x<l.length by omega)
 have lx2:=aL h (show y<l.length by omega)
 refine zW (eU hl g0 g1 g2 g3) ?_
 refine al ?_
 refine zD (jS hl g0 g1 g2 ix1 ix2 lx1 lx2) ?_
 refine AnsH.eq (dq C zF) fun H2 hk2=>?_
 obtain ⟨k2,_,w2⟩:=zT H zK hk2
 have h2:Ar H2 b l:=k2.get h
 have s2:=k2.get hs
 have kH2:=hk.trans k2
 have ls:=w2 _ _ s2
 have hne:b≠sb:=fun e=>by
  subst e
  rw [h] at hs
  injection hs with hs
  injection hs with _ hs _
  exact absurd hs zU
 by_cases hxy:gI l y<gI l x
 ·rw [decide_eq_true hxy]
  refine zD (fg hl g0 g1 g2 g3 ix1 ix2 lx1 lx2 s2) ?_
  exact ⟨⟨y,x,_,rfl,.inr ⟨rfl,rfl⟩,rfl,(bo hne).trans h2⟩,zK⟩
 ·rw [decide_eq_false hxy]
  refine zD (pd hl g0 g1 g2 g3 ix1 ix2 lx1 lx2) ?_
  exact ⟨⟨x,y,s,rfl,.inl ⟨rfl,rfl⟩,s2,h2⟩,zK⟩
theorem mj (C:Code tab) {H0:Heap} {b n c x y z sb lo hi:Nat} {xf:Bool} {l:List Int} {s:Int} (hk:Kp H0 H) (hsb:H0.next<=sb) (h:Ar H b l) (hn:l.length=n) (hhn:hi<=n) (hx:lo<=x/\x<hi) (hy:lo<=y/\y<hi) (hz:lo<=z/\z<hi) (hs:H.get sb=some (.cells [.int .i64 s] fM true)) :
  Ans tab (.fn bt [.own b 0 n c 1 xf,.int .i64 (x:Int),.int .i64 (y:Int),.int .i64 (z:Int),.ptr sb 0]) H fun v H'=>(∃ r:Nat,∃ s',v=.int .i64 (r:Int)/\(lo<=r/\r<hi)/\H'.get sb=some (.cells [.int .i64 s'] fM true)/\Ar H' b l)/\Kp H0 H':=by
 have hw:=hk.wf
 refine Fs C.q52 zU fun T hl g0 g1 g2 g3 g4=>?_
 refine zW (gD hl g0 g1 g2 g3 g4) ?_
 refine AnsH.use (ma C (H0:=H0) (hk.up _) hsb h hn (by omega:x<n) (by omega:y<n) hs) ?_
 rintro _ H2 ⟨⟨x1,y1,s1,rfl,e1,hs1,h1⟩,hk2⟩
 have hx1:lo<=x1/\x1<hi:=by omega
 have hy1:lo<=y1/\y1<hi:=by omega
 refine zW (gD hl g0 g1 g2 g3 g4) ?_
 refine AnsH.use (ma C (H0:=H0) (hk2.up _) hsb h1 hn (by omega:y1<n) (by omega:z<n) hs1) ?_
 rintro _ H3 ⟨⟨y2,z2,s2,rfl,e2,hs2,h2⟩,hk3⟩
 have hy2:lo<=y2/\y2<hi:=by omega
 refine zW (gD hl g0 g1 g2 g3 g4) ?_
 refine AnsH.use (ma C (H0:=H0) (hk3.up _) hsb h2 hn (by omega:x1<n) (by omega:y2<n) hs2) ?_
 rintro _ H4 ⟨⟨x3,y3,s3,rfl,e3,hs3,h3⟩,hk4⟩
 refine zW (gD hl g0 g1 g2 g3 g4) ?_
 exact ⟨⟨y3,s3,rfl,by omega,hs3,h3⟩,zK⟩
theorem iZ (C:Code tab) {H0:Heap} {b n c x sb lo hi:Nat} {xf:Bool} {l:List Int} {s:Int} (hk:Kp H0 H) (hsb:H0.next<=sb) (h:Ar H b l) (hn:l.length=n) (hhn:hi<=n) (hlim:n<1099511627776) (hx:lo<x/\x+1<hi) (hs:H.get sb=some (.cells [.int .i64 s] fM true)) :
  Ans tab (.fn aJ [.own b 0 n c 1 xf,.int .i64 (x:Int),.ptr sb 0]) H fun v H'=>(∃ r:Nat,∃ s',v=.int .i64 (r:Int)/\(lo<=r/\r<hi)/\H'.get sb=some (.cells [.int .i64 s'] fM true)/\Ar H' b l)/\Kp H0 H':=by
 have hw:=hk.wf
 refine qE C.q51 zU fun T hl g0 g1 g2=>?_
 have ei:IntKind.i64.wrap ((x:Int)+1)=((x+1:Nat):Int):=by rw [ae] <;> omega
 have ej:IntKind.i64.wrap ((x:Int)-1)=((x-1:Nat):Int):=by rw [ae] <;> omega
 refine zW (gD hl g0 g1 g2 ei ej) ?_
 refine AnsH.use (mj C (H0:=H0) (lo:=lo) (hi:=hi) (hk.up _) hsb h hn hhn zO zO zO hs) ?_
 rintro _ H2 ⟨⟨r,s',rfl,hr,hs2,h2⟩,hk2⟩
 refine zW (dz hl g0 g1 g2) ?_
 exact ⟨⟨r,s',rfl,hr,hs2,h2⟩,hk2⟩
end
theorem mz {a b:Nat} (ha:a<18446744073709551616) (hb:b<18446744073709551616):∃ r:Nat,r<18446744073709551616/\cw .xor .int (.int .u64 (a:Int)) (.int .u64 (b:Int))=some (.int .u64 (r:Int)):=by
 have e:(BitVec.ofInt 64 (a:Int) ^^^ BitVec.ofInt 64 (b:Int)).toNat<2^64:=BitVec.isLt _
 refine ⟨(BitVec.ofInt 64 (a:Int) ^^^ BitVec.ofInt 64 (b:Int)).toNat,by omega,?_⟩
 show some (AV.int .u64 (IntKind.u64.wrap ((BitVec.ofInt 64 (a:Int) ^^^ BitVec.ofInt 64 (b:Int)).toNat:Nat)))=_
 rw [gu zO zO]
section
variable {tab:Nat->Option aN} {H:Heap}
theorem Ef (C:Code tab) {H0:Heap} {b x ty:Nat} (hk:Kp H0 H) (hb:H0.next<=b) (hx:x<18446744073709551616) (h:H.get b=some (.cells [.int .u64 (x:Int)] ty true)) :
  Ans tab (.fn cB [.ptr b 0]) H fun v H'=>(∃ r:Nat,v=.int .u64 (r:Int)/\r<18446744073709551616/\H'.get b=some (.cells [.int .u64 (r:Int)] ty true)/\(∀ c,c<H.next->c≠b->H'.get c=H.get c))/\Kp H0 H':=by
 have hw:=hk.wf
 refine jp C.q50 zU fun T hl g0=>?_
 have lt1:=hw _ _ h
 have s13:cw .shl .int (.int .u64 (x:Int)) (.int .u64 13)=some (.int .u64 ((x*2^13 % B:Nat):Int)):=pJ (r:=13) zO
 obtain ⟨x1,hx1,e1⟩:=mz (a:=x) (b:=x*2^13 % B) hx (Nat.mod_lt _ zU)
 have s7:cw .shr .int (.int .u64 (x1:Int)) (.int .u64 7)=some (.int .u64 ((x1 / 2^7:Nat):Int)):=ke x1 7 zO
 obtain ⟨x2,hx2,e2⟩:=mz (a:=x1) (b:=x1 / 2^7) hx1 (Nat.lt_of_le_of_lt (Nat.div_le_self _ _) hx1)
 have s17:cw .shl .int (.int .u64 (x2:Int)) (.int .u64 17)=some (.int .u64 ((x2*2^17 % B:Nat):Int)):=pJ (r:=17) zO
 obtain ⟨x3,hx3,e3⟩:=mz (a:=x2) (b:=x2*2^17 % B) hx2 (Nat.mod_lt _ zU)
 have st:∀ z w:Nat,sM (some (.cells [.int .u64 (z:Int)] ty true)) 1 0 (.int .u64 (w:Int))=some (.cells [.int .u64 (w:Int)] ty true):=fun z w=>rfl
 clear hx1 hx2
 refine zW (bb hl g0) ?_
 refine al ?_
 refine zD (gD hl g0 h s13 e1 st) ?_
 refine kf (fun T' Y=>T'.length=33/\aa T' 0=.ptr b 0/\Y.get b=some (.cells [.int .u64 (x1:Int)] ty true)/\Kp H0 Y/\b<Y.next/\∀ c,c<H.next->c≠b->Y.get c=H.get c) ⟨by exact zV (bb hl g0),by exact zV (bb hl g0),aq _ _ _,zK,by simp only [next_put,fO]; omega,fun c _ hc=>bo hc⟩ ?_
 clear hl g0 h s13 e1
 rintro T1 Y1 ⟨hl,g0,h,kY1,lY1,o1⟩
 refine al ?_
 refine zD (gD hl g0 h s7 e2 st) ?_
 refine kf (fun T' Y=>T'.length=33/\aa T' 0=.ptr b 0/\Y.get b=some (.cells [.int .u64 (x2:Int)] ty true)/\Kp H0 Y/\b<Y.next/\∀ c,c<H.next->c≠b->Y.get c=H.get c) ⟨by exact zV (bb hl g0),by exact zV (bb hl g0),aq _ _ _,zK,by simp only [next_put,fO]; omega,fun c h1 hc=>(bo hc).trans (o1 c h1 hc)⟩ ?_
 clear hl g0 h s7 e2 o1 lY1
 rintro T2 Y2 ⟨hl,g0,h,kY2,lY2,o2⟩
 refine al ?_
 refine zD (gD hl g0 h s17 e3 st) ?_
 exact ⟨⟨x3,rfl,hx3,rfl,fun c h1 hc=>(bo hc).trans (o2 c h1 hc)⟩,zK⟩
theorem CG (C:Code tab) (hw:Wf H) {w:Nat} (h0:0<w) (hB:w<18446744073709551616) :
  Ans tab (.fn cH [.int .u64 (w:Int)]) H fun v H'=>(∃ L:Nat,v=.int .i64 (L:Int)/\1<=L/\L<=64/\w<2^L/\2^(L-1)<=w)/\Kp H H':=by
 refine jp C.q18 zU fun T hl g0=>?_
 refine zW (bb hl g0) ?_
 refine AnsH.use (ui C zF h0 hB) ?_
 rintro _ H2 ⟨⟨L,rfl,h1⟩,hk2⟩
 obtain ⟨k2,_,_⟩:=zT H zK hk2
 refine zW (bb hl g0) ?_
 exact ⟨⟨L,rfl,h1⟩,zK⟩
theorem Bx (C:Code tab) (hw:Wf H) {w:Nat} (h0:0<w) (hB:w<1099511627776) :
  Ans tab (.fn cE [.int .i64 (w:Int)]) H fun v H'=>(∃ L:Nat,v=.int .u64 ((2^L:Nat):Int)/\w<2^L/\2^L<=2*w)/\Kp H H':=by
 refine jp C.q49 zU fun T hl g0=>?_
 have e:IntKind.u64.wrap (w:Int)=(w:Int):=by show (w:Int) % 18446744073709551616=w; omega
 refine zW (fe hl g0 e) ?_
 refine AnsH.use (CG C zF h0 zO) ?_
 rintro _ H2 ⟨⟨L,rfl,h1,h2,h3,h4⟩,hk2⟩
 obtain ⟨k2,_,_⟩:=zT H zK hk2
 have hp:2^L=2*2^(L-1):=by
  obtain ⟨m,rfl⟩:∃ m,L=m+1:=⟨L-1,by omega⟩
  rw [Nat.pow_succ]; simp; omega
 have hL:L<64:=by
  by_cases h:L<64
  ·exact h
  ·have:L=64:=by omega
   subst this
   have:(2:Nat)^63<=w:=h4
   omega
 have es:=zZ (k:=.i64) hL
 refine zW (fe hl g0 es) ?_
 exact ⟨⟨L,rfl,h3,by omega⟩,zK⟩
set_option maxHeartbeats 4000000 in
theorem zQ (C:Code tab) {H0:Heap} {b n c lo hi:Nat} {xf:Bool} {l:List Int} (hk:Kp H0 H) (hb:H0.next<=b) (h:Ar H b l) (hn:l.length=n) (hlh:lo<=hi) (hhn:hi<=n) (hlim:n<1099511627776) :
  Ans tab (.fn bp [.own b 0 n c 1 xf,.int .i64 (lo:Int),.int .i64 (hi:Int)]) H fun _ H'=>(∃ m,Ar H' b m/\Prm lo hi l m)/\Kp H0 H':=by
 have hw:=hk.wf
 refine qE C.q35 zU fun T hl g0 g1 g2=>?_
 obtain ⟨w,hw1⟩:∃ w,w=hi-lo:=⟨_,rfl⟩
 have e01:IntKind.i64.wrap ((hi:Int)-(lo:Int))=((w:Nat):Int):=by rw [ae] <;> omega
 by_cases h8:8<=w
 case neg =>
  have h8':¬ (8:Int)<=(w:Int):=by omega
  refine zW (gD hl g0 g1 g2 e01 h8') ?_
  exact ⟨⟨l,h,.refl _⟩,zK⟩
 have h8':(8:Int)<=(w:Int):=by omega
 have e:IntKind.u64.wrap (w:Int)=(w:Int):=by show (w:Int) % 18446744073709551616=w; omega
 have st:∀ z v:Nat,sM (some (.cells [.int .u64 (z:Int)] bX true)) 1 0 (.int .u64 (v:Int))=some (.cells [.int .u64 (v:Int)] bX true):=fun z w=>rfl
 have st0:=st 0 w
 have q4:cw .quo .int (.int .i64 (w:Int)) (.int .i64 4)=some (.int .i64 ((w / 4:Nat):Int)):=uF (c:=4) zO zO
 refine zW (jS hl g0 g1 g2 e01 h8' e st0) ?_
 obtain ⟨X,hX⟩:∃ X,X=((H.up 13).put (H.next+8) (.cells [.int .u64 0] bX true)).put (H.next+8) (.cells [.int .u64 (w:Int)] bX true):=⟨_,rfl⟩
 rw [<- hX]
 have kX:Kp H X:=by rw [hX]; exact zK
 have dX:X.get (H.next+8)=some (.cells [.int .u64 (w:Int)] bX true):=by rw [hX,aq]
 have wX:=kX.wf
 have hX1:=kX.get h
 clear hX
 refine AnsH.use (Bx C wX (w:=w) zO zO) ?_
 rintro _ H2 ⟨⟨L,rfl,hL1,hL2⟩,hk2⟩
 have k2:Kp H H2:=kX.trans hk2
 have le_k2:=k2.le
 have w2:=k2.wf
 have d2:=hk2.get dX
 have h2:Ar H2 b l:=k2.get h
 have kH2:=hk.trans k2
 obtain ⟨q,hq⟩:∃ q,q=lo+w / 4*2:=⟨_,rfl⟩
 have m2:IntKind.i64.wrap (((w / 4:Nat):Int)*2)=((w / 4*2:Nat):Int):=by rw [ae] <;> omega
 have a1:IntKind.i64.wrap ((lo:Int)+((w / 4*2:Nat):Int))=(q:Int):=by rw [ae] <;> omega
 have a2:IntKind.i64.wrap ((q:Int)-1)=((q-1:Nat):Int):=by rw [ae] <;> omega
 have a3:IntKind.i64.wrap ((q:Int)+1)=((q+1:Nat):Int):=by rw [ae] <;> omega
 refine zW (pd hl g0 g1 g2 g1 q4 m2 @a1 @a2) ?_
 have hbne:b≠H.next+8:=fun e=>by have:=hw _ _ h; omega
 refine aQ H0 [9] (fun k vs H'=>∃ i m x,vs=[.int .i64 ((i:Nat):Int)]/\q-1<=i/\k=q+2-i/\i<=q+2/\Ar H' b m/\Prm lo hi l m/\H.next+8<H'.next/\x<18446744073709551616/\H'.get (H.next+8)=some (.cells [.int .u64 ((x:Nat):Int)] bX true)) 3 (by simp only [List.length_set]; exact hl) rfl zK ⟨q-1,l,w,by exact zV (dz hl g0 g1 g2),Nat.le_refl _,by omega,by omega,h2,.refl _,by have:=w2 _ _ d2; simp only [fO]; omega,by omega,d2⟩ ?_
 rintro k T1 H1 hl1 hs1 hk1 ⟨i,m,x,hv,i1,hkk,i2,hb1,hp,hlt,hx,dx⟩
 have w1:=hk1.wf
 have le_hk1:=hk1.le
 simp only [List.map_cons,List.map_nil,List.cons.injEq,and_true] at hv
 have t0:aa T1 0=.own b 0 n c 1 xf:=(hs1.at_ 0 zU).trans (zV (bb hl g0))
 have t1:aa T1 1=.int .i64 (lo:Int):=(hs1.at_ 1 zU).trans (zV (eU hl g0 g1 g2 g1))
 have t6:aa T1 6=.int .i64 (w:Int):=(hs1.at_ 6 zU).trans (zV (dz hl g0 g1 g2))
 have t7:aa T1 7=.ptr (H.next+8) 0:=(hs1.at_ 7 zU).trans (zV (dz hl g0 g1 g2))
 have t8:aa T1 8=.int .u64 ((2^L:Nat):Int):=(hs1.at_ 8 zU).trans (zV (dz hl g0 g1 g2))
 by_cases hi0:i<=q+1
 case neg =>
  refine zW (pd hl1 hv t1 t6 q4 m2 @a1 @a3 hi0) ?_
  exact ⟨⟨m,hb1,hp⟩,zK⟩
 refine zW (fg hl1 hv t1 t6 t7 q4 m2 @a1 @a3 hi0) ?_
 refine AnsH.use (Ef C (H0:=H0) (hk1.up _) (by have:=hk.le; omega) hx dx) ?_
 rintro _ H3 ⟨⟨r,rfl,hr,dr,o3⟩,hk3⟩
 have w3:=hk3.wf
 have le_hk3:=hk3.le
 have hb3:Ar H3 b m:=(o3 b (by have:=w1 _ _ hb1; simp only [fO]; omega) hbne).trans hb1
 obtain ⟨M,hM⟩:∃ M,M=2^L:=⟨_,rfl⟩
 rw [<- hM] at t8 hL1 hL2
 have u0:IntKind.u64.wrap ((M:Int)-1)=((M-1:Nat):Int):=by rw [gu] <;> omega
 have u1:cw .sub .int (.int .u64 (M:Int)) (.int .u64 1)=some (.int .u64 ((M-1:Nat):Int)):=by
  show some (AV.int .u64 (IntKind.u64.wrap ((M:Int)-1)))=_
  rw [u0]
 have an:=xB (a:=r) (b:=M-1) hr zO
 obtain ⟨o,ho⟩:∃ o,o=r &&& (M-1):=⟨_,rfl⟩
 have hol:o<=M-1:=by rw [ho]; exact Nat.and_le_right
 rw [<- ho] at an
 have ci:IntKind.i64.wrap (o:Int)=(o:Int):=by rw [ae] <;> omega
 have ei:IntKind.i64.wrap ((i:Int)+1)=((i+1:Nat):Int):=by rw [ae] <;> omega
 have lt3:=w3 _ _ hb3
 have hml:m.length=n:=by rw [hp.len,hn]
 by_cases hc:w<=o
 ·have so:IntKind.i64.wrap ((o:Int)-(w:Int))=((o-w:Nat):Int):=by rw [ae] <;> omega
  have ao:IntKind.i64.wrap ((lo:Int)+(((o-w):Nat):Int))=((lo+(o-w):Nat):Int):=by rw [ae] <;> omega
  have hol2:lo+(o-w)<hi:=by omega
  obtain ⟨z,hz⟩:∃ z,z=lo+(o-w):=⟨_,rfl⟩
  rw [<- hz] at ao hol2
  have hzl:lo<=z:=by omega
  have lx1:=aL hb3 (show i<m.length by omega)
  have lx2:=aL hb3 (show z<m.length by omega)
  have ix1:a7 1 (.own b 0 n c 1 xf) (.int .i64 (i:Int))=some (.ptr b i):=aT zO
  have ix2:a7 1 (.own b 0 n c 1 xf) (.int .i64 (z:Int))=some (.ptr b z):=aT zO
  have sx1:=cW (z:=gI m z) hb3 (show i<m.length by omega)
  have sx2:=eH (l:=m.set i (gI m z)) (z:=gI m i) (show z<(m.set i (gI m z)).length by rw [List.length_set]; omega)
  refine zW (d8 hl1 hv t0 t1 t6 t8 u1 an ci hc so) ?_
  refine al ?_
  refine zD (dC hl1 t0 hv t1 ao lx1 lx2 ix1 ix2 sx1 sx2 ei) ?_
  exact ⟨zK,q+2-(i+1),by omega,i+1,iW m i z,r,rfl,by omega,rfl,by omega,aq _ _ _,hp.swap zO zO zO zO zO,by have:=w3 _ _ dr; first | omega | (simp only [next_put,fO]; omega),hr,dr⟩
 ·have ao:IntKind.i64.wrap ((lo:Int)+((o:Nat):Int))=((lo+o:Nat):Int):=by rw [ae] <;> omega
  have hol2:lo+o<hi:=by omega
  obtain ⟨z,hz⟩:∃ z,z=lo+o:=⟨_,rfl⟩
  rw [<- hz] at ao hol2
  have hzl:lo<=z:=by omega
  have lx1:=aL hb3 (show i<m.length by omega)
  have lx2:=aL hb3 (show z<m.length by omega)
  have ix1:a7 1 (.own b 0 n c 1 xf) (.int .i64 (i:Int))=some (.ptr b i):=aT zO
  have ix2:a7 1 (.own b 0 n c 1 xf) (.int .i64 (z:Int))=some (.ptr b z):=aT zO
  have sx1:=cW (z:=gI m z) hb3 (show i<m.length by omega)
  have sx2:=eH (l:=m.set i (gI m z)) (z:=gI m i) (show z<(m.set i (gI m z)).length by rw [List.length_set]; omega)
  refine zW (fg hl1 hv t0 t1 t6 t8 u1 an ci hc) ?_
  refine al ?_
  refine zD (dC hl1 t0 hv t1 ao lx1 lx2 ix1 ix2 sx1 sx2 ei) ?_
  exact ⟨zK,q+2-(i+1),by omega,i+1,iW m i z,r,rfl,by omega,rfl,by omega,aq _ _ _,hp.swap zO zO zO zO zO,by have:=w3 _ _ dr; first | omega | (simp only [next_put,fO]; omega),hr,dr⟩
end
section
variable {tab:Nat->Option aN} {H:Heap}
set_option maxHeartbeats 4000000 in
theorem xp (C:Code tab) {b n c lo hi:Nat} {xf:Bool} {l:List Int} (hw:Wf H) (h:Ar H b l) (hn:l.length=n) (hlh:lo+8<=hi) (hhn:hi<=n) (hlim:n<1099511627776) :
  Ans tab (.fn bw [.own b 0 n c 1 xf,.int .i64 (lo:Int),.int .i64 (hi:Int)]) H fun v H'=>(∃ (r:Nat) (t:Int),v=.tup [.int .i64 (r:Int),.int .i64 t]/\(lo<=r/\r<hi))/\Kp H H':=by
 refine qE C.q36 zU fun T hl g0 g1 g2=>?_
 obtain ⟨w,hw1⟩:∃ w,w=hi-lo:=⟨_,rfl⟩
 have e01:IntKind.i64.wrap ((hi:Int)-(lo:Int))=((w:Nat):Int):=by rw [ae] <;> omega
 have h8':(8:Int)<=(w:Int):=by omega
 obtain ⟨p,hp⟩:∃ p,p=w / 4:=⟨_,rfl⟩
 have q4:cw .quo .int (.int .i64 (w:Int)) (.int .i64 4)=some (.int .i64 (p:Int)):=by rw [hp]; exact uF (c:=4) zO zO
 obtain ⟨x,hx⟩:∃ x,x=lo+p:=⟨_,rfl⟩
 obtain ⟨y,hy⟩:∃ y,y=lo+p*2:=⟨_,rfl⟩
 obtain ⟨z,hz⟩:∃ z,z=lo+p*3:=⟨_,rfl⟩
 have m1:IntKind.i64.wrap ((p:Int)*1)=(p:Int):=by rw [ae] <;> omega
 have m2:IntKind.i64.wrap ((p:Int)*2)=((p*2:Nat):Int):=by rw [ae] <;> omega
 have m3:IntKind.i64.wrap ((p:Int)*3)=((p*3:Nat):Int):=by rw [ae] <;> omega
 have a1:IntKind.i64.wrap ((lo:Int)+(p:Int))=(x:Int):=by rw [ae] <;> omega
 have a2:IntKind.i64.wrap ((lo:Int)+((p*2:Nat):Int))=(y:Int):=by rw [ae] <;> omega
 have a3:IntKind.i64.wrap ((lo:Int)+((p*3:Nat):Int))=(z:Int):=by rw [ae] <;> omega
 have hbl:=hw _ _ h
 have hA:∀ m,Ar ((H.up m).put (H.next+6) (.cells [.int .i64 0] fM true)) b l:=fun m=>(bo zO).trans h
 by_cases h50:(50:Int)<=(w:Int)
 ·refine zW (lh hl g0 g1 g2 e01 h8' h50 q4 m1 m2 m3 @a1 @a2 @a3) ?_
  refine AnsH.use (iZ C (H0:=H) (lo:=lo) (hi:=hi) (s:=0) zK zO (hA _) hn hhn hlim zO (aq _ _ _)) ?_
  rintro _ H2 ⟨⟨x1,s1,rfl,hx1,hs1,h1⟩,hk2⟩
  refine zW (eU hl g0 g1 g2 e01) ?_
  refine AnsH.use (iZ C (H0:=H) (lo:=lo) (hi:=hi) (hk2.up _) zO h1 hn hhn hlim zO hs1) ?_
  rintro _ H3 ⟨⟨y1,s2,rfl,hy1,hs2,h2⟩,hk3⟩
  refine zW (eU hl g0 g1 g2 e01) ?_
  refine AnsH.use (iZ C (H0:=H) (lo:=lo) (hi:=hi) (hk3.up _) zO h2 hn hhn hlim zO hs2) ?_
  rintro _ H4 ⟨⟨z1,s3,rfl,hz1,hs3,h3⟩,hk4⟩
  refine zW (eU hl g0 g1 g2 e01) ?_
  refine AnsH.use (mj C (H0:=H) (lo:=lo) (hi:=hi) (hk4.up _) zO h3 hn hhn hx1 hy1 hz1 hs3) ?_
  rintro _ H5 ⟨⟨r,s',rfl,hr,hsF,h4⟩,hk5⟩
  by_cases z0:s'=0
  ·refine zW (gD hl g0 g1 g2 z0 hsF) ?_
   exact ⟨⟨r,_,rfl,hr⟩,zK⟩
  ·by_cases z1:s'=12
   ·refine zW (lf hl g0 g1 g2 z0 z1 hsF) ?_
    exact ⟨⟨r,_,rfl,hr⟩,zK⟩
   ·refine zW (lf hl g0 g1 g2 z0 z1 hsF) ?_
    exact ⟨⟨r,_,rfl,hr⟩,zK⟩
 ·refine zW (lh hl g0 g1 g2 e01 h8' h50 q4 m1 m2 m3 @a1 @a2 @a3) ?_
  refine AnsH.use (mj C (H0:=H) (lo:=lo) (hi:=hi) (s:=0) zK zO (hA _) hn hhn (by omega:lo<=x/\x<hi) (by omega:lo<=y/\y<hi) (by omega:lo<=z/\z<hi) (aq _ _ _)) ?_
  rintro _ H5 ⟨⟨r,s',rfl,hr,hsF,h4⟩,hk5⟩
  by_cases z0:s'=0
  ·refine zW (gD hl g0 g1 g2 z0 hsF) ?_
   exact ⟨⟨r,_,rfl,hr⟩,zK⟩
  ·by_cases z1:s'=12
   ·refine zW (lf hl g0 g1 g2 z0 z1 hsF) ?_
    exact ⟨⟨r,_,rfl,hr⟩,zK⟩
   ·refine zW (lf hl g0 g1 g2 z0 z1 hsF) ?_
    exact ⟨⟨r,_,rfl,hr⟩,zK⟩
end
section
variable {tab:Nat->Option aN} {rd:Bool}
theorem ph {id:Nat} {a:ACode} {T:Tm} {H:Heap} {Q:Ex->Tm->Heap->Prop} (h:WB tab rd a T H (jM id Q)):WB tab rd (.block id a) T H Q:=by
 obtain ⟨x,T',H',⟨N,g⟩,hq⟩:=h
 cases x with
 | nrm=>exact ⟨.nrm,T',H',⟨N,fun m n hm hn=>by simp only [aw,g m n hm hn]⟩,hq⟩
 | ret=>exact ⟨.ret,T',H',⟨N,fun m n hm hn=>by simp only [aw,g m n hm hn]⟩,hq⟩
 | goto l=>exact ⟨.goto l,T',H',⟨N,fun m n hm hn=>by simp only [aw,g m n hm hn]⟩,hq⟩
 | exit e =>
  simp only [jM] at hq
  by_cases he:e=id
  ·rw [if_pos he] at hq
   exact ⟨.nrm,T',H',⟨N,fun m n hm hn=>by simp only [aw,g m n hm hn,if_pos he]⟩,hq⟩
  ·rw [if_neg he] at hq
   exact ⟨.exit e,T',H',⟨N,fun m n hm hn=>by simp only [aw,g m n hm hn,if_neg he]⟩,hq⟩
theorem mE {id:Nat} {c:ACode} {T:Tm} {H:Heap} {Q:Ex->Tm->Heap->Prop} {L:Nat} (H0:Heap) (live:List Nat) (P:Nat->List AV->Heap->Prop) (k0:Nat)
  (hl:T.length=L) (hp:eN c=true) (hk0:Kp H0 H) (h0:P k0 (live.map (aa T)) H)
  (hb:∀ k T1 H1,T1.length=L->Same (dt c) T T1->Kp H0 H1->P k (live.map (aa T1)) H1->WB tab rd c T1 H1 (Cr id (fun T2 H2=>Kp H0 H2/\∃ k',k'<k/\P k' (live.map (aa T2)) H2) Q)):WC tab rd (dN id c) T H Q:=by
 unfold dN
 refine WB.wcLoop ?_
 refine nd (fun k T1 H1=>T1.length=L/\Same (dt c) T T1/\Kp H0 H1/\P k (live.map (aa T1)) H1) ?_ k0 T H ⟨hl,Same.refl _ _,hk0,h0⟩
 rintro k T1 H1 ⟨hl1,hs1,hk1,hP1⟩
 refine ((hb k T1 H1 hl1 hs1 hk1 hP1).same hp).mono ?_
 rintro x T2 H2 ⟨hs2,hq⟩
 cases x with
 | nrm =>
  obtain ⟨hk2,k',hk',hP2⟩:=hq
  exact ⟨k',hk',hs2.len.trans hl1,(hs1.trans hs2).wide fun s hs=>by simpa using hs,hk2,hP2⟩
 | exit e=>exact hq
 | goto l=>exact hq
 | ret=>exact hq
end
section
variable {tab:Nat->Option aN} {H:Heap}
def PreR (l:List Int) (lo hi:Nat):Prop:=0<lo->∀ k,lo<=k->k<hi->gI l (lo-1)<=gI l k
theorem PreR.prm {l m:List Int} {lo hi:Nat} (h:PreR l lo hi) (hp:Prm lo hi l m):PreR m lo hi:=fun h0 k h1 h2=>by
 rw [hp.out (k:=lo-1) (.inl zO)]
 exact hp.all (P:=fun x=>gI l (lo-1)<=x) (h h0) k h1 h2
set_option maxHeartbeats 8000000 in
theorem Dt (C:Code tab) {H0:Heap} {b n c:Nat} {xf:Bool} (hb:H0.next<=b) (hlim:n<1099511627776):∀ (s:Nat) {H:Heap} {lo hi:Nat} {Z:Int} {l:List Int},hi-lo<=s->Kp H0 H->Ar H b l->l.length=n->lo<=hi->hi<=n->PreR l lo hi ->
  Ans tab (.fn aS [.own b 0 n c 1 xf,.int .i64 (lo:Int),.int .i64 (hi:Int),.int .i64 Z]) H fun _ H'=>(∃ m,Ar H' b m/\Prm lo hi l m/\iM m lo hi)/\Kp H0 H':=by
 intro s
 induction s using Nat.strongRecOn with
 | _ s ih =>
 intro H lo hi Z l hs hk h hn hlh hhn hpre
 have hw:=hk.wf
 refine wT C.q19 zU fun T hl g0 g1 g2 g3=>?_
 refine zW (eU hl g0 g1 g2 g3) ?_
 refine mE (L:=134) H0 [1,2,3,8,9] (fun k vs H'=>∃ (x y:Nat) (Z:Int) (b8 b9:Bool) (m:List Int),vs=[.int .i64 (x:Int),.int .i64 (y:Int),.int .i64 Z,.bool b8,.bool b9]/\k=y-x/\(lo<=x/\x<=y/\y<=hi)/\Ar H' b m/\Prm lo hi l m/\PreR m x y/\(∀ m',Prm x y m m'->iM m' x y->iM m' lo hi)) (hi-lo) (zV (eU hl g0 g1 g2 g3)) rfl (hk.up _) ⟨lo,hi,Z,true,true,l,by exact zV (jS hl g0 g1 g2 g3 g1 g2 g3),rfl,by omega,h,.refl _,hpre,fun m' _ h=>h⟩ ?_
 rintro k1 T1 H1 hl1 hs1 k1' ⟨x,y,Z1,b8,b9,m,hv,hq,hxy,hb1,hpm,hpr,hout⟩
 have w1:=k1'.wf
 simp only [List.map_cons,List.map_nil,List.cons.injEq,and_true] at hv
 obtain ⟨e1,e2,e3,e8,e9⟩:=hv
 have e0:aa T1 0=.own b 0 n c 1 xf:=(hs1.at_ 0 zU).trans (zV (bb hl g0))
 have hml:m.length=n:=by rw [hpm.len,hn]
 clear hs1 hl g0 g1 g2 g3 h hpre
 have done:∀ (m':List Int),Prm x y m m'->iM m' x y->Prm lo hi l m'/\iM m' lo hi:=fun m' h1 h2=>⟨hpm.trans (h1.wide hxy.1 hxy.2.2 zO).1,hout m' h1 h2⟩
 refine ph ?_
 obtain ⟨w,hw1⟩:∃ w,w=y-x:=⟨_,rfl⟩
 have e01:IntKind.i64.wrap ((y:Int)-(x:Int))=((w:Nat):Int):=by rw [ae] <;> omega
 refine aG ?_
 refine zW (eU hl1 e1 e2 e01 @az) ?_
 refine bP (fun T' Y=>T'.length=134/\aa T' 0=.own b 0 n c 1 xf/\aa T' 1=.int .i64 (x:Int)/\aa T' 2=.int .i64 (y:Int)/\aa T' 3=.int .i64 Z1/\aa T' 8=.bool b8/\aa T' 9=.bool b9/\aa T' 10=.int .i64 (w:Int)/\Ar Y b m/\Kp H0 Y) ⟨by exact zV hl1,by exact zV (bb hl1 e0),by exact zV (bb hl1 e1),by exact zV (bb hl1 e2),by exact zV (bb hl1 e3),by exact zV (bb hl1 e8),by exact zV (bb hl1 e9),by exact zV hl1,hb1,zK⟩ ?_
 clear hl1 e0 e1 e2 e3 e8 e9 hb1 k1' w1
 rintro T2 H2 ⟨hl2,e0,e1,e2,e3,e8,e9,e10,hb2,k2⟩
 have w2:=k2.wf
 refine aG ?_
 by_cases c12:(w:Int)<=12
 ·refine zW (gD hl2 e0 e1 e2 e10 c12) ?_
  refine AnsH.use (qB C (H0:=H0) (k2.up _) hb hb2 hml hxy.2.1 zO hlim) ?_
  rintro _ H3 ⟨⟨m3,hb3,hp3,hs3⟩,k3⟩
  obtain ⟨d1,d2⟩:=done m3 hp3 hs3
  refine zW (bb hl2 @ed) ?_
  exact ⟨⟨m3,hb3,d1,d2⟩,zK⟩
 refine zW (lf hl2 e0 e1 e2 e10 c12 @az) ?_
 refine bP (fun T' Y=>T'.length=134/\aa T' 0=.own b 0 n c 1 xf/\aa T' 1=.int .i64 (x:Int)/\aa T' 2=.int .i64 (y:Int)/\aa T' 3=.int .i64 Z1/\aa T' 8=.bool b8/\aa T' 9=.bool b9/\aa T' 10=.int .i64 (w:Int)/\Ar Y b m/\Kp H0 Y) ⟨by exact zV hl2,by exact zV (bb hl2 e0),by exact zV (bb hl2 e1),by exact zV (bb hl2 e2),by exact zV (bb hl2 e3),by exact zV (bb hl2 e8),by exact zV (bb hl2 e9),by exact zV (bb hl2 e10),hb2,zK⟩ ?_
 clear hl2 e0 e1 e2 e3 e8 e9 e10 hb2 k2 w2
 rintro T2 H2 ⟨hl2,e0,e1,e2,e3,e8,e9,e10,hb2,k2⟩
 have w2:=k2.wf
 refine aG ?_
 by_cases cZ:Z1=0
 ·refine zW (gD hl2 e0 e1 e2 e3 cZ) ?_
  refine AnsH.use (BU C (H0:=H0) (k2.up _) hb hb2 hml zO zO hlim) ?_
  rintro _ H3 ⟨⟨m3,hb3,hp3,hs3⟩,k3⟩
  obtain ⟨d1,d2⟩:=done m3 hp3 hs3
  refine zW (bb hl2 @ed) ?_
  exact ⟨⟨m3,hb3,d1,d2⟩,zK⟩
 refine zW (lf hl2 e0 e1 e2 e3 cZ @az) ?_
 refine bP (fun T' Y=>T'.length=134/\aa T' 0=.own b 0 n c 1 xf/\aa T' 1=.int .i64 (x:Int)/\aa T' 2=.int .i64 (y:Int)/\aa T' 3=.int .i64 Z1/\aa T' 8=.bool b8/\aa T' 9=.bool b9/\aa T' 10=.int .i64 (w:Int)/\Ar Y b m/\Kp H0 Y) ⟨by exact zV hl2,by exact zV (bb hl2 e0),by exact zV (bb hl2 e1),by exact zV (bb hl2 e2),by exact zV (bb hl2 e3),by exact zV (bb hl2 e8),by exact zV (bb hl2 e9),by exact zV (bb hl2 e10),hb2,zK⟩ ?_
 clear hl2 e0 e1 e2 e3 e8 e9 e10 hb2 k2 w2
 rintro T2 H2 ⟨hl2,e0,e1,e2,e3,e8,e9,e10,hb2,k2⟩
 have w2:=k2.wf
 refine cu (fun T' H'=>∃ (m':List Int) (Z':Int),aa T' 3=.int .i64 Z'/\Ar H' b m'/\Prm x y m m'/\Kp H0 H') rfl ?_ ?_
 ·cases b8 with
  | true =>
   refine zW (dz hl2 e8 e3 @ad) ?_
   exact ⟨m,Z1,rfl,hb2,.refl _,zK⟩
  | false =>
   refine zW (eU hl2 e8 e0 e1 e2) ?_
   refine AnsH.use (zQ C (H0:=H0) (k2.up _) hb hb2 hml hxy.2.1 zO hlim) ?_
   rintro _ H3 ⟨⟨m3,hb3,hp3⟩,k3⟩
   refine zW (fe hl2 e3 @ad) ?_
   exact ⟨m3,_,rfl,hb3,hp3,zK⟩
 rintro T3 H3 hs3 ⟨m3,Z3,e3',hb3,hp3,k3⟩
 have hl3:T3.length=134:=hs3.len.trans hl2
 have e0':aa T3 0=.own b 0 n c 1 xf:=(hs3.at_ 0 zU).trans e0
 have e1':aa T3 1=.int .i64 (x:Int):=(hs3.at_ 1 zU).trans e1
 have e2':aa T3 2=.int .i64 (y:Int):=(hs3.at_ 2 zU).trans e2
 have e8':aa T3 8=.bool b8:=(hs3.at_ 8 zU).trans e8
 have e9':aa T3 9=.bool b9:=(hs3.at_ 9 zU).trans e9
 have e10':aa T3 10=.int .i64 (w:Int):=(hs3.at_ 10 zU).trans e10
 have w3:=k3.wf
 have hml3:m3.length=n:=by rw [hp3.len,hml]
 clear hs3 hl2 e0 e1 e2 e3 e8 e9 e10 hb2 k2 w2
 refine aG ?_
 refine zW (dz hl3 e0' e1' e2') ?_
 refine AnsH.use (xp C zF hb3 hml3 (by omega:x+8<=y) zO hlim) ?_
 rintro _ H4 ⟨⟨p,t,rfl,hpr1⟩,hk4⟩
 obtain ⟨k34,_,_⟩:=zT H3 zK hk4
 have k4:=k3.trans k34
 have hb4:Ar H4 b m3:=k34.get hb3
 refine zW (bb hl3 @az) ?_
 refine bP (fun T' Y=>T'.length=134/\aa T' 0=.own b 0 n c 1 xf/\aa T' 1=.int .i64 (x:Int)/\aa T' 2=.int .i64 (y:Int)/\aa T' 3=.int .i64 Z3/\aa T' 8=.bool b8/\aa T' 9=.bool b9/\aa T' 10=.int .i64 (w:Int)/\aa T' 11=.int .i64 (p:Int)/\aa T' 12=.int .i64 t/\Ar Y b m3/\Kp H0 Y) ⟨by exact zV hl3,by exact zV (bb hl3 e0'),by exact zV (bb hl3 e1'),by exact zV (bb hl3 e2'),by exact zV (bb hl3 e3'),by exact zV (bb hl3 e8'),by exact zV (bb hl3 e9'),by exact zV (bb hl3 e10'),by exact zV hl3,by exact zV hl3,hb4,zK⟩ ?_
 clear hl3 e0' e1' e2' e3' e8' e9' e10' hb3 k3 w3 k34 hk4 k4 hb4
 rintro T2 H2 ⟨hl2,e0,e1,e2,e3,e8,e9,e10,e11,e12,hb2,k2⟩
 have w2:=k2.wf
 refine cu (fun T' H'=>∃ (m':List Int) (p:Nat) (t:Int),aa T' 11=.int .i64 (p:Int)/\aa T' 12=.int .i64 t/\(x<=p/\p<y)/\Ar H' b m'/\Prm x y m m'/\Kp H0 H') rfl ?_ ?_
 ·by_cases ct:t=2
  ·have s1:IntKind.i64.wrap ((y:Int)-1)=((y-1:Nat):Int):=by rw [ae] <;> omega
   have s2:IntKind.i64.wrap ((p:Int)-(x:Int))=((p-x:Nat):Int):=by rw [ae] <;> omega
   have s3:IntKind.i64.wrap (((y-1:Nat):Int)-((p-x:Nat):Int))=((y-1-(p-x):Nat):Int):=by rw [ae] <;> omega
   refine zW (gD hl2 e0 e1 e2 e12 ct) ?_
   refine AnsH.use (tl C (H0:=H0) (k2.up _) hb hb2 hml3 zO zO hlim) ?_
   rintro _ H3 ⟨⟨m4,hb4,hp4⟩,k3⟩
   refine zW (jS hl2 e1 e2 e11 s1 s2 s3 @ad) ?_
   exact ⟨m4,y-1-(p-x),1,rfl,rfl,by omega,hb4,hp3.trans hp4,zK⟩
  ·refine zW (eU hl2 e11 e12 ct @ad) ?_
   exact ⟨m3,p,t,rfl,rfl,hpr1,hb2,hp3,zK⟩
 clear hpr1 hml3 hp3 hb2
 rintro T3 H3 hs3 ⟨m3,p,t,e11',e12',hpr1,hb3,hp3,k3⟩
 have hl3:T3.length=134:=hs3.len.trans hl2
 have e0':aa T3 0=.own b 0 n c 1 xf:=(hs3.at_ 0 zU).trans e0
 have e1':aa T3 1=.int .i64 (x:Int):=(hs3.at_ 1 zU).trans e1
 have e2':aa T3 2=.int .i64 (y:Int):=(hs3.at_ 2 zU).trans e2
 have e3':aa T3 3=.int .i64 Z3:=(hs3.at_ 3 zU).trans e3
 have e8':aa T3 8=.bool b8:=(hs3.at_ 8 zU).trans e8
 have e9':aa T3 9=.bool b9:=(hs3.at_ 9 zU).trans e9
 have e10':aa T3 10=.int .i64 (w:Int):=(hs3.at_ 10 zU).trans e10
 have w3:=k3.wf
 have hml3:m3.length=n:=by rw [hp3.len,hml]
 have hpr3:=hpr.prm hp3
 clear hs3 hl2 e0 e1 e2 e3 e8 e9 e10 e11 e12 k2 w2
 refine cu (fun T' H'=>∃ m':List Int,Ar H' b m'/\Prm x y m m'/\Kp H0 H') rfl ?_ ?_
 ·have skip:∀ (Q:Prop),(b8=true->b9=true->t=1->Q)->(b8=false->Q)->(b8=true->b9=false->Q)->(b8=true->b9=true->¬ t=1->Q)->Q:=fun Q q1 q2 q3 q4=>by
   cases b8 with
   | false=>exact q2 rfl
   | true =>
    cases b9 with
    | false=>exact q3 rfl rfl
    | true =>
     by_cases ht:t=1
     ·exact q1 rfl rfl ht
     ·exact q4 rfl rfl ht
  refine skip _ (fun c1 c2 c3=>?_) (fun c1=>?_) (fun c1 c2=>?_) (fun c1 c2 c3=>?_)
  ·subst c1; subst c2
   refine zW (jS hl3 e8' e9' e12' c3 e0' e1' e2') ?_
   refine AnsH.use (tB C (H0:=H0) (k3.up _) hb hb3 hml3 zO zO hlim hpr3) ?_
   rintro _ H4 ⟨⟨m4,tt,rfl,hb4,hp4,hs4⟩,k4⟩
   cases tt with
   | true =>
    obtain ⟨d1,d2⟩:=done m4 (hp3.trans hp4) (hs4 rfl)
    refine zW (bb hl3 @af) ?_
    exact ⟨⟨m4,hb4,d1,d2⟩,zK⟩
   | false =>
    refine zW (bb hl3 @ad) ?_
    exact ⟨m4,hb4,hp3.trans hp4,zK⟩
  ·subst c1
   refine zW (fe hl3 e8' @ad) ?_
   exact ⟨m3,hb3,hp3,zK⟩
  ·subst c1; subst c2
   refine zW (dz hl3 e8' e9' @ad) ?_
   exact ⟨m3,hb3,hp3,zK⟩
  ·subst c1; subst c2
   refine zW (gD hl3 e8' e9' e12' c3 @ad) ?_
   exact ⟨m3,hb3,hp3,zK⟩
 clear hml3 hp3 hb3 hpr3
 rintro T2 H2 hs2 ⟨m3,hb2,hp3,k2⟩
 have hl2:T2.length=134:=hs2.len.trans hl3
 have e0:aa T2 0=.own b 0 n c 1 xf:=(hs2.at_ 0 zU).trans e0'
 have e1:aa T2 1=.int .i64 (x:Int):=(hs2.at_ 1 zU).trans e1'
 have e2:aa T2 2=.int .i64 (y:Int):=(hs2.at_ 2 zU).trans e2'
 have e3:aa T2 3=.int .i64 Z3:=(hs2.at_ 3 zU).trans e3'
 have e8:aa T2 8=.bool b8:=(hs2.at_ 8 zU).trans e8'
 have e9:aa T2 9=.bool b9:=(hs2.at_ 9 zU).trans e9'
 have e10:aa T2 10=.int .i64 (w:Int):=(hs2.at_ 10 zU).trans e10'
 have e11:aa T2 11=.int .i64 (p:Int):=(hs2.at_ 11 zU).trans e11'
 have w2:=k2.wf
 have hml3:m3.length=n:=by rw [hp3.len,hml]
 have hpr3:=hpr.prm hp3
 have hpm3:Prm lo hi l m3:=hpm.trans (hp3.wide hxy.1 hxy.2.2 zO).1
 clear hs2 hl3 e0' e1' e2' e3' e8' e9' e10' e11' e12' k3 w3
 refine cu (fun T' H'=>aa T' 1=.int .i64 (x:Int)/\Ar H' b m3/\Kp H0 H') rfl ?_ ?_
 ·by_cases cx:0<x
  ·have cx':(0:Int)<(x:Int):=by omega
   have s1:IntKind.i64.wrap ((x:Int)-1)=((x-1:Nat):Int):=by rw [ae] <;> omega
   have ix1:a7 1 (.own b 0 n c 1 xf) (.int .i64 ((x-1:Nat):Int))=some (.ptr b (x-1)):=aT zO
   have ix2:a7 1 (.own b 0 n c 1 xf) (.int .i64 (p:Int))=some (.ptr b p):=aT zO
   have lx1:=aL hb2 (show x-1<m3.length by omega)
   have lx2:=aL hb2 (show p<m3.length by omega)
   refine zW hl2 ?_
   refine al ?_
   refine zX (d8 hl2 e0 e1 e11 cx' s1 ix1 ix2 lx1 lx2 @aC) ?_
   refine AnsH.eq (dq C zF) fun H3 hk3=>?_
   obtain ⟨k23,_,_⟩:=zT H2 zK hk3
   have k3:=k2.trans k23
   have w3:=hk3.wf
   have le_hk3:=hk3.le
   have hb3:Ar H3 b m3:=k23.get hb2
   by_cases c4:gI m3 (x-1)<gI m3 p
   ·rw [decide_eq_true c4]
    refine zX (dC hl2 e0 e1 e11 cx' s1 ix1 ix2 lx1 lx2 @aC @ad) ?_
    exact ⟨hb3,zK⟩
   ·rw [decide_eq_false c4]
    refine zX (dC hl2 e0 e1 e2 e11 cx' s1 ix1 ix2 lx1 lx2 @aC) ?_
    refine AnsH.use (wv C (H0:=H0) (k3.up _) hb hb3 hml3 hpr1.1 hpr1.2 zO hlim) ?_
    rintro _ H4 ⟨⟨m4,i,rfl,hb4,hp4,i1,i2,hA,hB⟩,k4⟩
    have w4:=k4.wf
    refine zD (gD hl2 e2 e3 e8 e9 @xn) ?_
    have hlo:∀ k,x<=k->k<y->gI m3 (x-1)<=gI m4 k:=hp4.all (P:=fun z=>gI m3 (x-1)<=z) (hpr3 cx)
    refine ⟨zK,y-i,by omega,i,y,Z3,b8,b9,m4,rfl,rfl,by omega,hb4,hpm3.trans (hp4.wide hxy.1 hxy.2.2 zO).1,fun _ k h1 h2=>?_,fun m' h1 h2=>?_⟩
    ·have a1:=hA (i-1) zO zO
     have a2:=hB k h1 h2
     omega
    ·have h3:=(h1.wide (lo':=x) (hi':=y) zO (Nat.le_refl _) (by rw [hp4.len]; omega)).1
     refine hout m' ((hp3.trans hp4).trans h3) fun q r a1 a2 a3=>?_
     by_cases b1:r<i
     ·rw [h1.out (k:=q) (.inl zO),h1.out (k:=r) (.inl b1)]
      have a4:=hA q a1 zO
      have a5:=hlo r zO a3
      omega
     ·by_cases b2:q<i
      ·rw [h1.out (k:=q) (.inl b2)]
       have a4:=hA q a1 b2
       have a5:=h1.all (P:=fun z=>gI m3 p<z) hB r zO a3
       have a5:gI m3 p<gI m' r:=a5
       omega
      ·exact h2 q r zO a2 a3
  ·have cx':¬ (0:Int)<(x:Int):=by omega
   refine zW hl2 ?_
   refine al ?_
   refine zX (eU hl2 e1 cx' @aC @ad) ?_
   exact ⟨hb2,zK⟩
 clear hb2
 rintro T3 H3 hs3 ⟨e1',hb3,k3⟩
 have hl3:T3.length=134:=hs3.len.trans hl2
 have e0':aa T3 0=.own b 0 n c 1 xf:=(hs3.at_ 0 zU).trans e0
 have e2':aa T3 2=.int .i64 (y:Int):=(hs3.at_ 2 zU).trans e2
 have e3':aa T3 3=.int .i64 Z3:=(hs3.at_ 3 zU).trans e3
 have e8':aa T3 8=.bool b8:=(hs3.at_ 8 zU).trans e8
 have e9':aa T3 9=.bool b9:=(hs3.at_ 9 zU).trans e9
 have e10':aa T3 10=.int .i64 (w:Int):=(hs3.at_ 10 zU).trans e10
 have e11':aa T3 11=.int .i64 (p:Int):=(hs3.at_ 11 zU).trans e11
 have w3:=k3.wf
 clear hs3 hl2 e0 e1 e2 e3 e8 e9 e10 e11 k2 w2
 refine aG ?_
 refine zW (eU hl3 e0' e1' e2' e11') ?_
 refine AnsH.use (Bq C (H0:=H0) (k3.up _) hb hb3 hml3 hpr1.1 hpr1.2 zO hlim) ?_
 rintro _ H4 ⟨⟨m4,j,tt,rfl,hb4,hp4,j1,j2,hjv,hA,hB⟩,k4⟩
 refine zW (bb hl3 @az) ?_
 refine bP (fun T' Y=>T'.length=134/\aa T' 0=.own b 0 n c 1 xf/\aa T' 1=.int .i64 (x:Int)/\aa T' 2=.int .i64 (y:Int)/\aa T' 3=.int .i64 Z3/\aa T' 10=.int .i64 (w:Int)/\aa T' 14=.int .i64 (j:Int)/\aa T' 15=.bool tt/\Ar Y b m4/\Kp H0 Y) ⟨by exact zV hl3,by exact zV (bb hl3 e0'),by exact zV (bb hl3 e1'),by exact zV (bb hl3 e2'),by exact zV (bb hl3 e3'),by exact zV (bb hl3 e10'),by exact zV hl3,by exact zV hl3,hb4,zK⟩ ?_
 clear hl3 e0' e1' e2' e3' e8' e9' e10' e11' hb3 k3 w3 hb4 k4
 rintro T2 H2 ⟨hl2,e0,e1,e2,e3,e10,e14,e15,hb2,k2⟩
 have w2:=k2.wf
 have hml4:m4.length=n:=by rw [hp4.len,hml3]
 have hpr4:=hpr3.prm hp4
 have hpm4:Prm lo hi l m4:=hpm3.trans (hp4.wide hxy.1 hxy.2.2 zO).1
 have hp34:=hp3.trans hp4
 have s1:IntKind.i64.wrap ((j:Int)-(x:Int))=((j-x:Nat):Int):=by rw [ae] <;> omega
 have s2:IntKind.i64.wrap ((y:Int)-(j:Int))=((y-j:Nat):Int):=by rw [ae] <;> omega
 have s3:IntKind.i64.wrap ((j:Int)+1)=((j+1:Nat):Int):=by rw [ae] <;> omega
 have q8:cw .quo .int (.int .i64 (w:Int)) (.int .i64 8)=some (.int .i64 ((w / 8:Nat):Int)):=uF (c:=8) zO zO
 refine WC.wb ?_
 obtain ⟨v,hv⟩:∃ v,v=gI m3 p:=⟨_,rfl⟩
 rw [<- hv] at hjv hA hB
 by_cases cs:j-x<y-j
 ·refine zW (dC hl2 e0 e1 e2 e3 e10 e14 e15 s1 s2 q8 cs) ?_
  refine AnsH.use (ih (j-x) zO (Nat.le_refl _) (k2.up _) hb2 hml4 j1 zO (fun h0 k h1 h2=>hpr4 h0 k h1 zO)) ?_
  rintro _ H5 ⟨⟨m5,hb5,hp5,hs5⟩,k5⟩
  have w5:=k5.wf
  refine zW (eU hl2 e2 e3 e14 s3) ?_
  have hA5:=hp5.all (P:=fun z=>z<v) hA
  have hj5:gI m5 j=v:=(hp5.out (.inr (Nat.le_refl _))).trans hjv
  have hB5:∀ k,j<k->k<y->v<=gI m5 k:=fun k h1 h2=>by rw [hp5.out (k:=k) (.inr zO)]; exact hB k h1 h2
  refine ⟨zK,y-(j+1),by omega,j+1,y,Z3,_,tt,m5,rfl,rfl,by omega,hb5,hpm4.trans (hp5.wide hxy.1 zO zO).1,fun _ k h1 h2=>?_,fun m' h1 h2=>?_⟩
  ·rw [Nat.add_sub_cancel,hj5]; exact hB5 k zO h2
  ·have h3:=(h1.wide (lo':=x) (hi':=y) zO (Nat.le_refl _) (by rw [hp5.len]; omega)).1
   have h4:=(hp5.wide (lo':=x) (hi':=y) (Nat.le_refl _) zO zO).1
   refine hout m' ((hp34.trans h4).trans h3) fun q r a1 a2 a3=>?_
   by_cases b1:r<j
   ·rw [h1.out (k:=q) (.inl zO),h1.out (k:=r) (.inl zO)]
    exact hs5 q r a1 a2 b1
   ·have hr:v<=gI m' r:=by
     by_cases b3:r=j
     ·rw [b3,h1.out (k:=j) (.inl zO),hj5]; exact Int.le_refl _
     ·exact h1.all (P:=fun z=>v<=z) (fun k h5 h6=>hB5 k zO h6) r zO a3
    by_cases b2:q<j
    ·rw [h1.out (k:=q) (.inl zO)]
     have:=hA5 q a1 b2
     have:gI m5 q<v:=this
     omega
    ·by_cases b4:q=j
     ·rw [b4,h1.out (k:=j) (.inl zO),hj5]; exact hr
     ·exact h2 q r zO a2 a3
 ·refine zW (gt hl2 e0 e1 e2 e3 e10 e14 e15 s1 s2 s3 q8 cs) ?_
  refine AnsH.use (ih (y-(j+1)) zO (Nat.le_refl _) (k2.up _) hb2 hml4 zO zO (fun _ k h1 h2=>by rw [Nat.add_sub_cancel,hjv]; exact hB k zO h2)) ?_
  rintro _ H5 ⟨⟨m5,hb5,hp5,hs5⟩,k5⟩
  have w5:=k5.wf
  refine zW (dz hl2 e1 e3 e14) ?_
  have hA5:∀ k,x<=k->k<j->gI m5 k<v:=fun k h1 h2=>by rw [hp5.out (k:=k) (.inl zO)]; exact hA k h1 h2
  have hj5:gI m5 j=v:=(hp5.out (.inl zO)).trans hjv
  have hB5:=hp5.all (P:=fun z=>v<=z) (fun k h1 h2=>hB k zO h2)
  refine ⟨zK,j-x,by omega,x,j,Z3,_,tt,m5,rfl,rfl,by omega,hb5,hpm4.trans (hp5.wide zO hxy.2.2 zO).1,fun h0 k h1 h2=>?_,fun m' h1 h2=>?_⟩
  ·rw [hp5.out (k:=x-1) (.inl zO),hp5.out (k:=k) (.inl zO)]
   exact hpr4 h0 k h1 zO
  ·have h3:=(h1.wide (lo':=x) (hi':=y) (Nat.le_refl _) zO (by rw [hp5.len]; omega)).1
   have h4:=(hp5.wide (lo':=x) (hi':=y) zO (Nat.le_refl _) zO).1
   refine hout m' ((hp34.trans h4).trans h3) fun q r a1 a2 a3=>?_
   by_cases b1:r<j
   ·exact h2 q r a1 a2 b1
   ·have hr:v<=gI m' r:=by
     rw [h1.out (k:=r) (.inr zO)]
     by_cases b3:r=j
     ·rw [b3,hj5]; exact Int.le_refl _
     ·have:v<=gI m5 r:=hB5 r zO a3
      exact this
    by_cases b2:q<j
    ·have h5:=h1.all (P:=fun z=>z<v) hA5 q a1 b2
     have h5:gI m' q<v:=h5
     omega
    ·by_cases b4:q=j
     ·rw [b4,h1.out (k:=j) (.inr zO),hj5]; exact hr
     ·rw [h1.out (k:=q) (.inr zO),h1.out (k:=r) (.inr zO)]
      exact hs5 q r zO a2 a3
end
def sj (l:List Int):Nat->List Int
 | 0=>[]
 | k+1=>sj l k++(if k=0\/gI l k≠gI l (k-1) then [gI l k] else [])
theorem lP {l:List Int} {k:Nat} (h:¬ k=0) (h2:gI l k=gI l (k-1)):sj l (k+1)=sj l k:=by
 simp only [sj]; rw [if_neg (by simp [h,h2]),List.append_nil]
theorem jF {l:List Int} {k:Nat} (h2:k=0\/gI l k≠gI l (k-1)):sj l (k+1)=sj l k++[gI l k]:=by
 simp only [sj]; rw [if_pos h2]
theorem s9 {l:List Int} {k:Nat} (h:k<l.length):l.take (k+1)=l.take k++[gI l k]:=by
 rw [List.take_succ_eq_append_getElem h,oi h]
theorem yD (l:List Int) (k:Nat):ne (l.take k)=(ne l).take k:=by unfold ne; rw [List.map_take]
section
variable {tab:Nat->Option aN} {H:Heap}
set_option maxRecDepth 20000 in
theorem Co (C:Code tab) (hw:Wf H):Ans tab (.fn dc [.int .u64 0]) H fun v H'=>(∃ L:Int,v=.int .i64 L)/\Kp H H':=by
 refine jp C.q32 zU fun T hl g0=>?_
 obtain ⟨L,e1,e2,-,-⟩:=px (x:=0) zU
 have e5:DK (.str ⟨#[0,1,2,2,3,3,3,3,4,4,4,4,4,4,4,4,5,5,5,5,5,5,5,5,5,5,5,5,5,5,5,5,6,6,6,6,6,6,6,6,6,6,6,6,6,6,6,6,6,6,6,6,6,6,6,6,6,6,6,6,6,6,6,6,7,7,7,7,7,7,7,7,7,7,7,7,7,7,7,7,7,7,7,7,7,7,7,7,7,7,7,7,7,7,7,7,7,7,7,7,7,7,7,7,7,7,7,7,7,7,7,7,7,7,7,7,7,7,7,7,7,7,7,7,7,7,7,7,8,8,8,8,8,8,8,8,8,8,8,8,8,8,8,8,8,8,8,8,8,8,8,8,8,8,8,8,8,8,8,8,8,8,8,8,8,8,8,8,8,8,8,8,8,8,8,8,8,8,8,8,8,8,8,8,8,8,8,8,8,8,8,8,8,8,8,8,8,8,8,8,8,8,8,8,8,8,8,8,8,8,8,8,8,8,8,8,8,8,8,8,8,8,8,8,8,8,8,8,8,8,8,8,8,8,8,8,8,8,8,8,8,8,8,8,8,8,8,8,8,8,8,8,8,8,8,8]⟩) (.int .u8 (IntKind.u8.wrap 0))=some (.int .u8 (L:Int)):=e1
 simp -dsimp (maxSteps:=1000000) (disch:=(first | omega | assumption | exact ay _ | exact aA _ _ | exact aM | exact bh _ _ _ | exact aO _ _ | exact aP _ _ _ _ _ _ | exact bd _ _ | exact aR _)) only [↓iJ,iI,Nat.reduceLT,Nat.reduceEqDiff,Nat.reduceAdd,↓reduceIte,reduceCtorEq,Nat.reduceBEq,Int.reduceEq,Int.reduceLT,Int.reduceLE,Int.reduceAdd,Int.reduceSub,hl,g0,je,mV,↓ca,e5]
 exact ⟨⟨_,rfl⟩,zK⟩
theorem CF (C:Code tab) (hw:Wf H):Ans tab (.fn cH [.int .u64 0]) H fun v H'=>(∃ L:Int,v=.int .i64 L)/\Kp H H':=by
 refine jp C.q18 zU fun T hl g0=>?_
 refine zW (bb hl g0) ?_
 refine AnsH.use (Co C zF) ?_
 rintro _ H2 ⟨⟨L,rfl⟩,hk2⟩
 obtain ⟨k2,_,_⟩:=zT H zK hk2
 refine zW (bb hl g0) ?_
 exact ⟨⟨L,rfl⟩,zK⟩
theorem Cn (C:Code tab) {H0:Heap} (hk:Kp H0 H) {b n c:Nat} {xf:Bool} {l:List Int} (hb:H0.next<=b) (h:Ar H b l) (hn:l.length=n) (hlim:n<1099511627776) :
  Ans tab (.fn bu [.own b 0 n c 1 xf]) H fun _ H'=>(∃ m,Ar H' b m/\Prm 0 n l m/\iM m 0 n)/\Kp H0 H':=by
 have hw:=hk.wf
 refine jp C.q7 zU fun T hl g0=>?_
 have hlen:lenV (.own b 0 n c 1 xf)=some (.int .i64 (n:Int)):=by simp [lenV,gG]
 have e:IntKind.u64.wrap (n:Int)=(n:Int):=by show (n:Int) % 18446744073709551616=n; omega
 refine zW (dz hl g0 hlen e) ?_
 have hLen:∀ X,Wf X->Ans tab (.fn cH [.int .u64 (n:Int)]) X fun v X'=>(∃ L:Int,v=.int .i64 L)/\Kp X X':=fun X wX=>by
  by_cases h0:n=0
  ·subst h0; exact CF C wX
  ·refine Ans.mono (CG C (w:=n) wX zO zO) ?_
   rintro v X' ⟨⟨L,hv,-⟩,hk⟩
   exact ⟨⟨(L:Int),hv⟩,hk⟩
 refine AnsH.use (hLen _ zF) ?_
 rintro _ H2 ⟨⟨L,rfl⟩,hk2⟩
 obtain ⟨k2,_,w2⟩:=zT H zK hk2
 have h2:Ar H2 b l:=k2.get h
 have P:=Dt C (H0:=H0) (b:=b) (n:=n) (c:=c) (xf:=xf) hb hlim n (H:=H2) (lo:=0) (hi:=n) (Z:=L) (l:=l) zO (hk.trans k2) h2 hn (Nat.zero_le _) (Nat.le_refl _) (fun h=>by omega)
 rw [show (((0:Nat):Int))=0 from rfl] at P
 refine zW (bb hl g0) ?_
 refine AnsH.use P ?_
 rintro _ H3 ⟨hr,hk3⟩
 refine zW (bb hl g0) ?_
 exact ⟨hr,hk3⟩
theorem mW (C:Code tab) (hw:Wf H) :
  Ans tab (.fn aW [.nilSl,.int .i64 0,.int .i64 0]) H fun _ H'=>Kp H H':=by
 refine qE C.q33 zU fun T hl g0 g1 g2=>?_
 have e01:IntKind.i64.wrap (0+1)=((1:Nat):Int):=by decide
 refine zW (eU hl g0 g1 g2 e01) ?_
 refine aQ (L:=49) H [6] (fun k vs H'=>vs=[.int .i64 ((1:Nat):Int)]) 0 (zV (dz hl g0 g1 g2)) rfl zK (by refine zW (dz hl g0 g1 g2) ?_; rfl) ?_
 rintro k T1 H1 hl1 hs1 hk1 hv
 simp only [List.map_cons,List.map_nil,List.cons.injEq,and_true] at hv
 have t2:aa T1 2=.int .i64 0:=(hs1.at_ 2 zU).trans (zV (eU hl g0 g1 g2 g2))
 have c1:¬ ((1:Nat):Int)<0:=by omega
 refine zW (dz hl1 hv t2 @c1) ?_
 exact zK
theorem Bp (C:Code tab) {Z:Int} (hw:Wf H) :
  Ans tab (.fn aS [.nilSl,.int .i64 0,.int .i64 0,.int .i64 Z]) H fun _ H'=>Kp H H':=by
 refine wT C.q19 zU fun T hl g0 g1 g2 g3=>?_
 refine zW (eU hl g0 g1 g2 g3) ?_
 refine aQ (L:=134) H [1,2] (fun k vs H'=>vs=[.int .i64 0,.int .i64 0]) 0 (zV (eU hl g0 g1 g2 g3)) rfl zK (zV (lf hl g0 g1 g2 g3 g1 g2)) ?_
 rintro k T1 H1 hl1 hs1 hk1 hv
 have w1:=hk1.wf
 have le_hk1:=hk1.le
 simp only [List.map_cons,List.map_nil,List.cons.injEq,and_true] at hv
 obtain ⟨t1,t2⟩:=hv
 have t0:aa T1 0=.nilSl:=(hs1.at_ 0 zU).trans (zV (bb hl g0))
 have e:IntKind.i64.wrap 0=0:=by decide
 have ee:IntKind.i64.wrap (0-0)=0:=by decide
 have h12:(0:Int)<=12:=by omega
 refine zW (lf hl1 t0 t1 t2 e ee h12) ?_
 refine AnsH.use (mW C ?_) ?_
 ·exact zF
 rintro _ H2 hk2
 obtain ⟨k2,_,_⟩:=zT H1 zK hk2
 refine zW hl1 ?_
 exact hk1.trans k2
theorem ur (C:Code tab) (hw:Wf H) :
  Ans tab (.fn bu [.nilSl]) H fun _ H'=>Kp H H':=by
 refine jp C.q7 zU fun T hl g0=>?_
 have hlen:lenV .nilSl=some (.int .i64 0):=rfl
 have e:IntKind.u64.wrap 0=0:=rfl
 refine zW (dz hl g0 hlen e) ?_
 refine AnsH.use (CF C zF) ?_
 rintro _ H2 ⟨⟨L,rfl⟩,hk2⟩
 obtain ⟨k2,_,w2⟩:=zT H zK hk2
 refine zW (bb hl g0) ?_
 refine AnsH.use (Bp C (Z:=L) w2) ?_
 rintro _ H3 hk3
 refine zW (bb hl g0) ?_
 exact k2.trans hk3
theorem uI {b n c i:Nat} {xf:Bool} (h1:i<=n) (h2:i<c) (h3:n<=c):l3 1 (.own b 0 n c 1 xf) (some (.int .i64 (i:Int))) none none=some (.own b i (n-i) (c-i) 1 xf):=by
 show fd 1 (.own b 0 n c 1 xf) (some (.int .i64 (i:Int))) none none=_
 simp only [fd,qU,ne_eq,not_true_eq_false,if_false,Option.bind_eq_bind,Option.bind_some,Option.map_none,Option.map_some,Option.getD_none,Option.getD_some]
 rw [if_pos ⟨by omega,h1⟩,if_pos (.inl h2)]
 congr 2; omega
theorem Br {b n c i:Nat} {xf:Bool} (h1:i<=c):l3 1 (.own b 0 n c 1 xf) none (some (.int .i64 (i:Int))) none=some (.own b 0 i c 1 xf):=Du b 0 n c 1 i xf .i64 h1
theorem zL {H:Heap} {b n c i:Nat} {xf:Bool} {m:List Int} (h:Ar H b m) (hn:m.length=n) (hi:i<n):jH H 1 [.int .u8 0] (.own b i (n-i) c 1 xf)=some (H.put b (.cells (ne (m.take i++List.replicate (n-i) 0)) ap true)):=by
 have hl:(ne m).length=n:=by unfold ne; rw [List.length_map,hn]
 simp only [jH,h]
 rw [if_neg zO,if_pos ⟨trivial,by omega,rfl,rfl⟩]
 congr 3
 unfold ne
 rw [List.map_append,List.map_take,List.map_replicate,List.drop_eq_nil_of_le (by rw [List.length_map]; omega),List.append_nil]
 congr 1
 generalize n-i=k
 induction k with
 | zero=>rfl
 | succ k ih=>rw [List.replicate_succ,List.flatten_cons,ih]; rfl
set_option maxHeartbeats 4000000 in
theorem uv (C:Code tab) {H0:Heap} (hk:Kp H0 H) {b n c:Nat} {xf:Bool} {l:List Int} (hb:H0.next<=b) (h:Ar H b l) (hn:l.length=n) (hc:n<=c) (hlim:n<1099511627776) :
  Ans tab (.fn bi [.own b 0 n c 1 xf]) H fun v H'=>(∃ n' m,v=.own b 0 n' c 1 xf/\n'<=n/\Ar H' b m/\m.length=n/\m.take n'=sj l n)/\Kp H0 H':=by
 have hw:=hk.wf
 refine jp C.q8 zU fun T hl g0=>?_
 have hlen:=qw b 0 n c 1 xf
 by_cases h00:n=0
 ·have c2:(n:Int)<2:=by omega
  refine zW (dz hl g0 hlen @c2) ?_
  exact ⟨⟨n,l,rfl,Nat.le_refl _,h,hn,by rw [h00]; rfl⟩,zK⟩
 have h0:0<n:=by omega
 have dd1:sj l 1=l.take 1:=by
  rw [jF (.inl rfl),s9 zO]; rfl
 by_cases c2:(n:Int)<2
 ·have e1:n=1:=by omega
  refine zW (dz hl g0 hlen @c2) ?_
  exact ⟨⟨n,l,rfl,Nat.le_refl _,h,hn,by rw [e1]; exact dd1.symm⟩,zK⟩
 refine zW (dz hl g0 hlen @c2) ?_
 refine aQ (L:=61) H0 [3] (fun k vs H'=>∃ i:Nat,vs=[.int .i64 (i:Int)]/\k=n-i/\1<=i/\i<=n/\Ar H' b l/\sj l i=l.take i) (n-1) (zV (bb hl g0)) rfl (hk.up _) ⟨1,by refine zW (bb hl g0) ?_; rfl,rfl,Nat.le_refl _,h0,h,dd1⟩ ?_
 rintro k1 T1 H1 hl1 hs1 k1' ⟨i,hv,hq,i1,i2,hb1,hd⟩
 have w1:=k1'.wf
 simp only [List.map_cons,List.map_nil,List.cons.injEq,and_true] at hv
 have t0:aa T1 0=.own b 0 n c 1 xf:=(hs1.at_ 0 zU).trans (zV (bb hl g0))
 by_cases ci:i<n
 case neg =>
  have e:i=n:=by omega
  refine zW (eU hl1 hv t0 hlen ci) ?_
  exact ⟨⟨n,l,rfl,Nat.le_refl _,hb1,hn,by rw [<- e]; exact hd.symm⟩,zK⟩
 have s1:IntKind.i64.wrap ((i:Int)-1)=((i-1:Nat):Int):=by rw [ae] <;> omega
 have s2:IntKind.i64.wrap ((i:Int)+1)=((i+1:Nat):Int):=by rw [ae] <;> omega
 have ix1:a7 1 (.own b 0 n c 1 xf) (.int .i64 (i:Int))=some (.ptr b i):=aT ci
 have ix2:a7 1 (.own b 0 n c 1 xf) (.int .i64 ((i-1:Nat):Int))=some (.ptr b (i-1)):=aT zO
 have lx1:=aL hb1 (show i<l.length by omega)
 have lx2:=aL hb1 (show i-1<l.length by omega)
 refine zW (eU hl1 hv t0 hlen ci) ?_
 refine al ?_
 by_cases ce:gI l i=gI l (i-1)
 case neg =>
  refine zD (fg hl1 hv t0 s1 s2 ix1 ix2 lx1 lx2 ce) ?_
  exact ⟨zK,n-(i+1),by omega,i+1,rfl,rfl,by omega,by omega,hb1,by rw [jF (.inr ce),hd,s9 zO]⟩
 have lo1:=uI (b:=b) (xf:=xf) (show i<=n by omega) (show i<c by omega) hc
 refine zD (d8 hl1 hv t0 s1 s2 ix1 ix2 lx1 lx2 ce lo1) ?_
 refine aQ (L:=61) H0 [3,5] (fun k vs H'=>∃ (x j:Nat) (m:List Int),vs=[.int .i64 (x:Int),.int .i64 (j:Int)]/\k=n-i-j/\(1<=j/\j<=n-i/\i<=x/\x+1<=i+j)/\Ar H' b m/\m.length=n/\(∀ k,i+j<=k+1->k<n->gI m k=gI l k)/\m.take x=sj l (i+j)) (n-i-1) (zE hl1) rfl zK ⟨i,1,l,by refine zD (bb hl1 hv) ?_; rfl,rfl,by omega,hb1,hn,fun k _ _=>rfl,by rw [lP zO ce,hd]⟩ ?_
 rintro k2 T2 H2 hl2 hs2 k2' ⟨x,j,m,hv2,hq2,hx,hb2,hm,hG,hD⟩
 have w2:=k2'.wf
 simp only [List.map_cons,List.map_nil,List.cons.injEq,and_true] at hv2
 obtain ⟨hv3,hv5⟩:=hv2
 have u0:aa T2 0=.own b 0 n c 1 xf:=(hs2.at_ 0 zU).trans (zE (bb hl1 t0))
 have u4:aa T2 4=.own b i (n-i) (c-i) 1 xf:=(hs2.at_ 4 zU).trans (zE hl1)
 have hlen2:=qw b i (n-i) (c-i) 1 xf
 have lt2:=w2 _ _ hb2
 by_cases cj:j<n-i
 case neg =>
  have ej:i+j=n:=by omega
  have lo2:=uI (b:=b) (xf:=xf) (show x<=n by omega) (show x<c by omega) hc
  have hi2:=Br (b:=b) (n:=n) (xf:=xf) (show x<=c by omega)
  have cl:=fun k=>zL (H:=H2.up k) (c:=c-x) (xf:=xf) (i:=x) hb2 hm zO
  simp -dsimp (maxSteps:=1000000) (disch:=(first | omega | assumption | exact ay _ | exact aA _ _ | exact aM | exact bh _ _ _ | exact aO _ _ | exact aP _ _ _ _ _ _ | exact bd _ _ | exact aR _)) only [↓iJ,iI,Nat.reduceLT,Nat.reduceEqDiff,Nat.reduceAdd,↓reduceIte,reduceCtorEq,Nat.reduceBEq,Int.reduceEq,Int.reduceLT,Int.reduceLE,Int.reduceAdd,Int.reduceSub,hl2,hv3,hv5,u0,u4,hlen2,cj,lo2,hi2,↓yc,cl]
  refine ⟨⟨x,m.take x++List.replicate (n-x) 0,rfl,by omega,aq _ _ _,by simp; omega,?_⟩,zK⟩
  rw [List.take_append_of_le_length (by rw [List.length_take]; omega),List.take_of_length_le (by rw [List.length_take]; omega),hD,ej]
 have s3:IntKind.i64.wrap ((j:Int)-1)=((j-1:Nat):Int):=by rw [ae] <;> omega
 have s4:IntKind.i64.wrap ((j:Int)+1)=((j+1:Nat):Int):=by rw [ae] <;> omega
 have s5:IntKind.i64.wrap ((x:Int)+1)=((x+1:Nat):Int):=by rw [ae] <;> omega
 have ix3:a7 1 (.own b i (n-i) (c-i) 1 xf) (.int .i64 (j:Int))=some (.ptr b (i+j)):=by
  rw [nn cj]; congr 2; omega
 have ix4:a7 1 (.own b i (n-i) (c-i) 1 xf) (.int .i64 ((j-1:Nat):Int))=some (.ptr b (i+(j-1))):=by
  rw [nn zO]; congr 2; omega
 have ix5:a7 1 (.own b 0 n c 1 xf) (.int .i64 (x:Int))=some (.ptr b x):=aT zO
 have lx3:=aL hb2 (show i+j<m.length by omega)
 have lx4:=aL hb2 (show i+(j-1)<m.length by omega)
 have sx:=cW (z:=gI m (i+j)) hb2 (show x<m.length by omega)
 have g1:=hG (i+j) zO zO
 have g2:=hG (i+(j-1)) zO zO
 have hij:i+j-1=i+(j-1):=by omega
 refine zW (lf hl2 hv3 hv5 u0 u4 hlen2 cj) ?_
 refine al ?_
 by_cases cq:gI m (i+j)=gI m (i+(j-1))
 ·refine zD (dC hl2 hv3 hv5 u0 u4 s3 s4 ix3 ix4 lx3 lx4 cq) ?_
  refine ⟨zK,n-i-(j+1),by omega,x,j+1,m,rfl,rfl,by omega,hb2,hm,fun k h1 h2=>hG k zO h2,?_⟩
  rw [hD,show i+(j+1)=(i+j)+1 by omega,lP zO (by rw [hij,<- g1,<- g2]; exact cq)]
 ·refine zD (mU hl2 hv3 hv5 u0 u4 s3 s4 s5 ix3 ix4 ix5 lx3 lx4 sx cq) ?_
  refine ⟨zK,n-i-(j+1),by omega,x+1,j+1,m.set x (gI m (i+j)),rfl,rfl,by omega,aq _ _ _,by rw [List.length_set]; exact hm,fun k h1 h2=>?_,?_⟩
  ·rw [qD,if_neg zO]; exact hG k zO h2
  ·rw [s9 (by rw [List.length_set]; omega),qD,if_pos ⟨rfl,by omega⟩,List.take_set_of_le (Nat.le_refl _),hD,show i+(j+1)=(i+j)+1 by omega,jF (.inr (by rw [hij,<- g1,<- g2]; exact cq)),g1]
theorem pa (C:Code tab) (hw:Wf H) :
  Ans tab (.fn bi [.nilSl]) H fun v H'=>v=.nilSl/\Kp H H':=by
 refine jp C.q8 zU fun T hl g0=>?_
 have hlen:lenV .nilSl=some (.int .i64 0):=rfl
 have c2:(0:Int)<2:=by omega
 refine zW (dz hl g0 hlen @c2) ?_
 exact zK
end
def kT (k:Nat):List Int:=match k with
 | 3=>[5] | 4=>[2] | 5=>[2] | 6=>[2] | 7=>[2] | 8=>[2,3] | 9=>[3] | 10=>[2,4] | 11=>[4] | _=>[]
mutual
def i8:Tx->List Int
 | .mk k _ _ _ l _=>kT k++aE l
def aE:List Tx->List Int
 | []=>[]
 | x :: l=>i8 x++aE l
end
theorem pz (x:Tx):i8 x=kT x.kind++aE x.args:=by cases x; simp only [i8,Tx.kind,Tx.args]
theorem kw:∀ (l m:List Tx),aE (l++m)=aE l++aE m
 | [],m=>by simp [aE]
 | x :: l,m=>by simp only [List.cons_append,aE,kw l m,List.append_assoc]
theorem jA {l:List Tx} {i:Nat} (h:i<l.length):aE (l.take (i+1))=aE (l.take i)++i8 l[i]:=by
 rw [List.take_succ_eq_append_getElem h,kw]; simp [aE]
theorem qy (k:Nat):(kT k).length<=2:=by
 unfold kT
 split <;> simp
mutual
theorem kK:∀ x:Tx,(i8 x).length<=2*uy x
 | .mk k s n nl l p=>by
  have h1:=qy k
  have h2:=ij l
  simp only [i8,uy,List.length_append]
  omega
theorem ij:∀ l:List Tx,(aE l).length<=2*lW l
 | []=>by simp [aE]
 | x :: l=>by
  have h1:=kK x
  have h2:=ij l
  simp only [aE,lW,List.length_append]
  omega
end
abbrev u8E:gC Int:=mY (qA .u8)
def Eh (n:Nat):List AV:=[.nilSl,.nilSl,.nilSl,.own (n+2) 0 1 1 1 true,.own (n+3) 0 1 1 1 true,.own (n+4) 0 1 1 1 true,.own (n+5) 0 1 1 1 true,.own (n+6) 0 1 1 1 true,.own (n+7) 0 2 2 1 true,.own (n+8) 0 1 1 1 true,.own (n+9) 0 2 2 1 true,.own (n+10) 0 1 1 1 true]
def Fj (n k:Nat):AV:=(Eh n).getD k .nilSl
theorem Ey {n k:Nat} (h:k<=11):aB (Eh n) k none=some (Fj n k):=by
 have:k=0\/k=1\/k=2\/k=3\/k=4\/k=5\/k=6\/k=7\/k=8\/k=9\/k=10\/k=11:=by omega
 rcases this with rfl | rfl | rfl | rfl | rfl | rfl | rfl | rfl | rfl | rfl | rfl | rfl <;> rfl
abbrev Fy:List AV:=[.nilSl,.nilSl,.nilSl,.nilSl,.nilSl,.nilSl,.nilSl,.nilSl,.nilSl,.nilSl,.nilSl,.nilSl]
theorem E5 (n:Nat):gm Fy [((3,1),.own (n+2) 0 1 1 1 true),((4,1),.own (n+3) 0 1 1 1 true),((5,1),.own (n+4) 0 1 1 1 true),((6,1),.own (n+5) 0 1 1 1 true),((7,1),.own (n+6) 0 1 1 1 true),((8,1),.own (n+7) 0 2 2 1 true),((9,1),.own (n+8) 0 1 1 1 true),((10,1),.own (n+9) 0 2 2 1 true),((11,1),.own (n+10) 0 1 1 1 true)]=some (.agg (Eh n)):=by
 unfold gm
 iterate 9 rw [gi (aP _ _ _ _ _ _) (by simp)]
 rfl
theorem uY (x:Int):cD [.int .u8 0] [((0,1),.int .u8 x)]=some [.int .u8 x]:=by
 rw [gi (aA _ _) (by simp)]; rfl
theorem EM (x y:Int):cD [.int .u8 0,.int .u8 0] [((0,1),.int .u8 x),((1,1),.int .u8 y)]=some [.int .u8 x,.int .u8 y]:=by
 rw [gi (aA _ _) (by simp),gi (aA _ _) (by simp)]; rfl
theorem nG {H:Heap} {b:Nat} {x:Int} (h:H.get b=some (.cells [.int .u8 x] ap true)):SlV u8E ap H (.own b 0 1 1 1 true) [x] :=
 (show Own u8E ap default H b true (.own b 0 1 1 1 true) [x] from ⟨_,rfl,h,Cells.one ⟨_,rfl,rfl⟩,Nat.zero_le _⟩).sl
theorem Cv {H:Heap} {b:Nat} {x y:Int} (h:H.get b=some (.cells [.int .u8 x,.int .u8 y] ap true)):SlV u8E ap H (.own b 0 2 2 1 true) [x,y] :=
 (show Own u8E ap default H b true (.own b 0 2 2 1 true) [x,y] from ⟨_,rfl,h,(Cells.one (E:=u8E) (a:=x) ⟨_,rfl,rfl⟩).append (Cells.one ⟨_,rfl,rfl⟩),Nat.zero_le _⟩).sl
def TbOK (H:Heap) (n:Nat):Prop:=∀ k,k<=11->SlV u8E ap H (Fj n k) (kT k)
theorem TbOK.mono {H H':Heap} {n:Nat} (hs:Sub H H') (h:TbOK H n):TbOK H' n:=fun k hk=>(h k hk).mono hs
theorem Ew {H:Heap} {n:Nat} (h3:H.get (n+2)=some (.cells [.int .u8 5] ap true)) (h4:H.get (n+3)=some (.cells [.int .u8 2] ap true)) (h5:H.get (n+4)=some (.cells [.int .u8 2] ap true)) (h6:H.get (n+5)=some (.cells [.int .u8 2] ap true)) (h7:H.get (n+6)=some (.cells [.int .u8 2] ap true)) (h8:H.get (n+7)=some (.cells [.int .u8 2,.int .u8 3] ap true)) (h9:H.get (n+8)=some (.cells [.int .u8 3] ap true)) (h10:H.get (n+9)=some (.cells [.int .u8 2,.int .u8 4] ap true)) (h11:H.get (n+10)=some (.cells [.int .u8 4] ap true)):TbOK H n:=fun k hk=>by
 have:k=0\/k=1\/k=2\/k=3\/k=4\/k=5\/k=6\/k=7\/k=8\/k=9\/k=10\/k=11:=by omega
 rcases this with rfl | rfl | rfl | rfl | rfl | rfl | rfl | rfl | rfl | rfl | rfl | rfl
 ·exact SlV.nil _ _ _
 ·exact SlV.nil _ _ _
 ·exact SlV.nil _ _ _
 ·exact nG h3
 ·exact nG h4
 ·exact nG h5
 ·exact nG h6
 ·exact nG h7
 ·exact Cv h8
 ·exact nG h9
 ·exact Cv h10
 ·exact nG h11
section
variable {tab:Nat->Option aN} {H:Heap}
set_option maxHeartbeats 4000000 in
theorem qg (C:Code tab) {vars:Int} {na:Nat}:∀ (s:Nat) (x:Tx),SizeOf.sizeOf x<=s->fh vars na x=true->uy x<=1048576->∀ {H:Heap},Wf H ->
  Ans tab (.fn eO [.agg (dJ x)]) H fun v H'=>Bl u8E ap H H' v (i8 x)/\Kp H H':=by
 intro s
 induction s with
 | zero=>intro x hx; cases x; simp at hx
 | succ s ih =>
 intro x hx hm hwt H hw
 have hrs:c_report_kinds.results=[(2,none)]:=rfl
 refine oY C.q6 rfl rfl zU fun T hl ga=>?_
 have hl:T.length=34:=hl
 have g0:aa T 0=.agg (dJ x):=ga 0 (by simp)
 clear ga
 have bx:=t9 x
 obtain ⟨hm1,hm2⟩:((1<=x.kind/\x.kind<=11)/\bM vars na x.kind x.n/\x.args.length=cT x.kind)/\tH vars na x.args=true:=by
  rw [qp] at hm; simpa using hm
 rw [lz] at hm2
 have hm2':∀ y∈x.args,fh vars na y=true:=fun y hy=>List.all_eq_true.1 hm2 y hy
 have hwx:=pR x
 have hb12:=E5 H.next
 have f1:=uY
 have f2:=EM
 have hst:∀ ty,sM (some (.cells Fy ty true)) 12 0 (.agg (Eh H.next))=some (.cells (Eh H.next) ty true):=fun ty=>ko rfl rfl rfl
 refine aG ?_
 refine zW (dz hl g0 bx @az) ?_
 refine aG ?_
 refine zW (gD hl hb12 f1 f2 hst @az) ?_
 refine bP (fun T' Y=>T'.length=34/\aa T' 1=.ptr H.next 0/\aa T' 2=.nilSl/\aa T' 3=.ptr (H.next+12) 0/\Y.get H.next=some (.cells [.int .u8 (x.kind:Int),.str x.name,.int .i64 x.n,mZ x.nl x.args,.int .i64 x.pl] au true)/\Y.get (H.next+12)=some (.cells (Eh H.next) kn true)/\TbOK Y H.next/\Kp H Y) ⟨by exact zV hl,by exact zV hl,by exact zV hl,by exact zV hl,by exact oH,by exact oH,Ew (oH) (oH) (oH) (oH) (oH) (oH) (oH) (oH) (oH),zK⟩ ?_
 clear hl g0 bx hb12 f1 f2 hst
 rintro T Y ⟨hl,t1,t2,t3,dX,dT,hTb,kY⟩
 have wY:=kY.wf
 have leY:=kY.le
 have ia:gK 12 1 (.ptr (H.next+12) 0) (.int .u8 (x.kind:Int))=some (.ptr (H.next+12) x.kind):=by rw [lJ zO,Nat.mul_one,Nat.zero_add]
 have tk:=Ey (n:=H.next) hm1.1.2
 obtain ⟨v1,H1,e1,b1,k1,n1,o1,-⟩:=Bl.app (E:=u8E) (ty:=ap) (ty2:=ap) (bytes:=1) (id:=Y.next+5) (H0:=H) (H:=Y.up 7) (v:=.nilSl) (l:=[]) Bl.nil (fun h=>by cases h) (kY.up 7) ((hTb x.kind hm1.1.2).mono (Sub.bump Y 7)) zO (by simp only [fO]; omega) (wY.fresh (b:=Y.next+5) zO) (fun b n h=>by cases h) (by have:=qy x.kind; simp; omega) (by have:=qy x.kind; simp; omega)
 have e1':iV (Y.up 7) (Y.next+5) 1 1 ap .nilSl (Fj H.next x.kind)=some (v1,H1):=e1
 refine aG ?_
 simp -dsimp (maxSteps:=1000000) (disch:=(first | omega | assumption | exact ay _ | exact aA _ _ | exact aM | exact bh _ _ _ | exact aO _ _ | exact aP _ _ _ _ _ _ | exact bd _ _ | exact aR _)) only [↓iJ,iI,Nat.reduceLT,Nat.reduceEqDiff,Nat.reduceAdd,↓reduceIte,reduceCtorEq,Nat.reduceBEq,Int.reduceEq,Int.reduceLT,Int.reduceLE,Int.reduceAdd,Int.reduceSub,hl,t1,t2,t3,dX,dT,↓dF,cJ,ia,tk,e1',az]
 have dX1:=o1 H.next _ dX (fun n h=>by cases h)
 refine bP (fun T' Z=>T'.length=34/\aa T' 1=.ptr H.next 0/\aa T' 2=v1/\Z=H1) ⟨by exact zV hl,by exact zV (bb hl t1),by exact zV hl,rfl⟩ ?_
 clear hl t1 t2 t3 e1 e1' o1
 rintro T Z ⟨hl,t1,t2,rfl⟩
 have sa:=fun H=>dZ (ty:=au) (H:=H) x.nl x.args
 have la:=gq x.nl x.args
 obtain ⟨av,hav⟩:∃ av,av=mZ x.nl x.args:=⟨_,rfl⟩
 rw [<- hav] at dX1 sa la
 have w1:=k1.wf
 have hlen:=kJ x.args
 refine aG ?_
 refine zW (eU hl t1 dX1 @fF la) ?_
 refine fI H [2] (fun j vs H'=>∃ o,vs=[o]/\Bl u8E ap H H' o (kT x.kind++aE (x.args.take j))) (a:=0) (N:=x.args.length) rfl (by refine zW hl ?_; rfl) (zV hl) (Nat.zero_le _) zO (by simp only [List.length_set,hl]; rfl) rfl (fun j vs H' m ⟨o,h1,h2⟩=>⟨o,h1,h2.mono (Sub.bump H' m)⟩) zK ⟨v1,by exact zV (bb hl t2),by simp only [List.take_zero,aE,List.append_nil]; exact b1.mono (Sub.bump Z _)⟩ ?_ ?_
 ·rintro j T2 H2-hj hl2 hi2 hs2 k2 ⟨o,hv,hb2⟩
  have w2:=k2.wf
  have le2:=k2.le
  simp only [List.map_cons,List.map_nil,List.cons.injEq,and_true] at hv
  have u23:aa T2 23=av:=(hs2.at_ 23 zU).trans (zV hl)
  simp only [List.length_set,hl] at hl2
  obtain ⟨ix,fx,-,-,-,-,x5⟩:=mN sa hj
  have hmem:x.args[j]∈x.args:=List.getElem_mem _
  have hsz:SizeOf.sizeOf x.args[j]<=s:=by
   have h1:=lm x
   have h2:=List.sizeOf_lt_of_mem hmem
   omega
  have htk:=m8 hj
  have htl:=fp x.args (j+1)
  have st5:=ko (ty:=au) (cs:=[.int .u8 0,.str ⟨#[]⟩,.int .i64 0,.nilSl,.int .i64 0]) (n:=5) (ds:=dJ x.args[j]) (fU _) rfl (jE _)
  have t5:aB (dJ x.args[j]) 0 (some 5)=some (.agg (dJ x.args[j])):=rm (fU _)
  refine zW (jS hl2 u23 hv hi2 ix x5 st5 t5) ?_
  obtain ⟨X,hX⟩:∃ X,X=((H2.up 9).put (H2.next+2) (.cells [.int .u8 0,.str ⟨#[]⟩,.int .i64 0,.nilSl,.int .i64 0] au true)).put (H2.next+2) (.cells (dJ x.args[j]) au true):=⟨_,rfl⟩
  rw [<- hX]
  have k2X:Kp H2 X:=by rw [hX]; exact zK
  have nX:X.next=H2.next+9:=by rw [hX]; rfl
  have fX:X.get (H2.next+7)=none:=by rw [hX,bo zO,bo zO]; exact w2.fresh (b:=H2.next+7) zO
  clear hX
  have wX:=k2X.wf
  refine AnsH.use (ih _ hsz (hm2' _ hmem) zO wX) ?_
  rintro v3 H3 ⟨b3,hk3⟩
  have k23:=k2X.trans hk3
  have k3:=k2.trans k23
  have w3:=k3.wf
  have le3:=hk3.le
  have f3:=hk3.free (show H2.next+7<X.next by omega) fX
  have hl1:=qy x.kind
  have hl3:=ij (x.args.take j)
  have hl4:=kK x.args[j]
  have htj:=fp x.args j
  obtain ⟨v4,H4,e4,b4,k4,n4,-,-⟩:=Bl.app (bytes:=1) (id:=H2.next+7) (hb2.mono k23.sub) (fun h=>by cases h) k3 b3.sl zO zO f3 (fun b n hv' off m c z x hw'=>by
   have hbl:b<H2.next:=by
    obtain ⟨cells,h⟩:=hb2.blk (b:=b) (by rw [hv']; rfl)
    exact w2 _ _ h
   have:=b3.ge (b:=b) (by rw [hw']; rfl)
   omega) (by rw [List.length_append]; omega) (by rw [List.length_append]; omega)
  have e4':iV H3 (H2.next+7) 1 1 ap o v3=some (v4,H4):=e4
  refine zW (fe hl2 hv e4') ?_
  refine ⟨zK,v4,rfl,?_⟩
  rw [jA hj,<- List.append_assoc]
  exact b4
 ·rintro T2 H2 hl2 hs2 k2 ⟨o,hv,hb2⟩
  simp only [List.map_cons,List.map_nil,List.cons.injEq,and_true] at hv
  simp only [List.length_set,hl] at hl2
  rw [List.take_length] at hb2
  refine WC.wb ?_
  refine zW (fe hl2 hv hrs) ?_
  refine ⟨?_,zK⟩
  rw [pz]; exact hb2
end
theorem Dy {l:List Int} {z:Int}:z∈l ↔ ∃ i,i<l.length/\gI l i=z:=by
 constructor
 ·intro h
  obtain ⟨i,hi,e⟩:=List.getElem_of_mem h
  exact ⟨i,hi,by rw [oi hi,e]⟩
 ·rintro ⟨i,hi,rfl⟩
  rw [oi hi]; exact List.getElem_mem hi
theorem qQ (l:List Int) (z:Int):∀ k,z∈sj l k ↔ ∃ i,i<k/\gI l i=z
 | 0=>by simp [sj]
 | k+1=>by
  have ih:=qQ l z k
  by_cases h:k=0\/gI l k≠gI l (k-1)
  ·rw [jF h,List.mem_append,ih,List.mem_singleton]
   constructor
   ·rintro (⟨i,h1,h2⟩ | h1)
    ·exact ⟨i,by omega,h2⟩
    ·exact ⟨k,by omega,h1.symm⟩
   ·rintro ⟨i,h1,h2⟩
    by_cases e:i=k
    ·exact .inr (by rw [<- h2,e])
    ·exact .inl ⟨i,by omega,h2⟩
  ·have h1:¬ k=0:=fun e=>h (.inl e)
   have h2:gI l k=gI l (k-1):=Classical.byContradiction fun e=>h (.inr e)
   rw [lP h1 h2,ih]
   constructor
   ·rintro ⟨i,h1,h2⟩; exact ⟨i,by omega,h2⟩
   ·rintro ⟨i,h3,h4⟩
    by_cases e:i=k
    ·exact ⟨k-1,by omega,by rw [<- h4,e,h2]⟩
    ·exact ⟨i,by omega,h4⟩
theorem vd {l:List Int} {n:Nat} (h:iM l 0 n):∀ k,k<=n->(sj l k).Pairwise (· < ·)
 | 0,_=>List.Pairwise.nil
 | k+1,hk=>by
  have ih:=vd h k zO
  by_cases hc:k=0\/gI l k≠gI l (k-1)
  ·rw [jF hc]
   refine List.pairwise_append.2 ⟨ih,List.pairwise_singleton _ _,fun a ha b hb=>?_⟩
   rw [List.mem_singleton] at hb
   subst hb
   obtain ⟨i,h1,rfl⟩:=(qQ l a k).1 ha
   have h2:gI l i<=gI l (k-1):=by
    by_cases e:i=k-1
    ·rw [e]; exact Int.le_refl _
    ·exact h i (k-1) (Nat.zero_le _) zO zO
   have h3:=h (k-1) k (Nat.zero_le _) zO zO
   rcases hc with hc | hc
   ·omega
   ·omega
  ·have h1:¬ k=0:=fun e=>hc (.inl e)
   have h2:gI l k=gI l (k-1):=Classical.byContradiction fun e=>hc (.inr e)
   rw [lP h1 h2]; exact ih
theorem Bn {lo hi:Nat} {l m:List Int} (h:Prm lo hi l m) (z:Int):z∈m ↔ z∈l:=by
 rw [<- List.count_pos_iff,<- List.count_pos_iff,h.cnt]
theorem DW {l m:List Int} {n:Nat} (hn:l.length=n) (h:Prm 0 n l m) (hs:iM m 0 n):(sj m n).Pairwise (· < ·)/\∀ z,z∈sj m n ↔ z∈l:=by
 refine ⟨vd hs n (Nat.le_refl _),fun z=>?_⟩
 rw [qQ,<- Bn h z,Dy,h.len,hn]
theorem uE:∀ {a b:List Int},a.Pairwise (· < ·)->b.Pairwise (· < ·)->(∀ z,z∈a ↔ z∈b)->a=b
 | [],[],_,_,_=>rfl
 | [],y :: b,_,_,h=>by have:=(h y).2 (List.mem_cons_self ..); cases this
 | x :: a,[],_,_,h=>by have:=(h x).1 (List.mem_cons_self ..); cases this
 | x :: a,y :: b,ha,hb,h=>by
  obtain ⟨a1,a2⟩:=List.pairwise_cons.1 ha
  obtain ⟨b1,b2⟩:=List.pairwise_cons.1 hb
  have e:x=y:=by
   have h1:=(h x).1 (List.mem_cons_self ..)
   have h2:=(h y).2 (List.mem_cons_self ..)
   rcases List.mem_cons.1 h1 with e | h1
   ·exact e
   ·rcases List.mem_cons.1 h2 with e | h2
    ·exact e.symm
    ·have c1:=b1 x h1
     have c2:=a1 y h2
     omega
  subst e
  rw [uE a2 b2 fun z=>?_]
  constructor
  ·intro hz
   rcases List.mem_cons.1 ((h z).1 (List.mem_cons_of_mem _ hz)) with e | h1
   ·have:=a1 z hz; omega
   ·exact h1
  ·intro hz
   rcases List.mem_cons.1 ((h z).2 (List.mem_cons_of_mem _ hz)) with e | h1
   ·have:=b1 z hz; omega
   ·exact h1
def KsV (H:Heap) (v:AV) (d:List Int):Prop:=(∀ s,v ≠ .str s)/\∃ n,gG v=some n/\bE H 1 n v=some (ne d)
theorem KsV.mono {H H':Heap} {v:AV} {d:List Int} (hs:Sub H H') (h:KsV H v d):KsV H' v d:=by
 obtain ⟨h1,n,h2,h3⟩:=h
 exact ⟨h1,n,h2,mM hs h3⟩
theorem KsV.str {H:Heap} {v:AV} {d:List Int} (h:KsV H v d):gZ H v=jL (ne d) .empty:=by
 obtain ⟨h1,n,h2,h3⟩:=h
 unfold gZ
 split
 ·rename_i s; exact absurd rfl (h1 s)
 ·rw [h2]; simp only; rw [h3]
theorem KsV.nil (H:Heap):KsV H .nilSl []:=⟨(fun s h=>nomatch h),0,rfl,rfl⟩
theorem zM {H:Heap}:∀ {d:List Int} {cells:List AV},Cells u8E H cells d->cells=ne d:=fun {d cells} h=>by
 have hl:cells.length=d.length*1:=h.1
 refine List.ext_getElem (by unfold ne; rw [List.length_map]; omega) fun i h1 h2=>?_
 have hi:i<d.length:=by omega
 have:=h.2 i d[i] (List.getElem?_eq_getElem hi)
 have e:(cells.drop (i*1)).take 1=[cells[i]]:=by
  rw [Nat.mul_one,List.drop_eq_getElem_cons h1]; rfl
 rw [show u8E.sz=1 from rfl,e] at this
 obtain ⟨c,hc,hr⟩:=this
 have hr:c=.int .u8 d[i]:=hr
 rw [hr] at hc
 simp only [ne,List.getElem_map]
 simpa using hc
theorem Bl.ar {H0 H:Heap} {v:AV} {d:List Int} (h:Bl u8E ap H0 H v d):(v=.nilSl/\d=[])\/∃ b,v=.own b 0 d.length d.length 1 false/\Ar H b d/\H0.next<=b:=by
 rcases h with h | ⟨b,cells,rfl,hb,hc,h0⟩
 ·exact .inl h
 ·exact .inr ⟨b,rfl,by have e:=zM hc; subst e; exact hb,h0⟩
theorem Cy {H:Heap} {b n c:Nat} {xf:Bool} {m:List Int} (h:Ar H b m) (hn:n<=m.length):KsV H (.own b 0 n c 1 xf) (m.take n):=by
 refine ⟨(fun s h=>nomatch h),n,rfl,?_⟩
 have hl:(ne m).length=m.length:=by unfold ne; rw [List.length_map]
 simp only [bE,h]
 rw [if_pos ⟨trivial,Nat.le_refl _,by omega⟩,yD,List.drop_zero,Nat.mul_one]
theorem Bl.ks {H0 H:Heap} {v:AV} {d:List Int} (h:Bl u8E ap H0 H v d):KsV H v d:=by
 rcases h.ar with ⟨rfl,rfl⟩ | ⟨b,rfl,hb,-⟩
 ·exact KsV.nil H
 ·have:=Cy (c:=d.length) (xf:=false) hb (Nat.le_refl _)
  rwa [List.take_length] at this
mutual
theorem DB:∀ x:Tx,uy x<4611686018427387904->km x
 | .mk k s n nl l p,h=>by
  have h1:=kJ l
  simp only [uy] at h
  exact ⟨by omega,qr l zO⟩
theorem qr:∀ l:List Tx,lW l<4611686018427387904->uu l
 | [],_=>trivial
 | x :: l,h=>by
  simp only [lW] at h
  exact ⟨DB x zO,qr l zO⟩
end
theorem A9 {l:List Edx} {e:Edx} (h:e∈l):pf e<=(l.map pf).sum:=by
 induction l with
 | nil=>cases h
 | cons a l ih =>
  simp only [List.map_cons,List.sum_cons]
  rcases List.mem_cons.1 h with rfl | h
  ·omega
  ·have:=ih h; omega
theorem pQ {g:Gx} (h:xV g<=1048576) {e:Edx} (he:e∈g.edges):lW e.act.args<=1048576:=by
 have h1:=A9 he
 unfold xV at h
 have h2:pf e=lW e.act.args+1:=rfl
 omega
theorem xU {g:Gx} (h:xV g<=1048576):∀ e∈g.edges,(∀ x∈e.act.args,km x)/\e.act.args.length<4611686018427387904:=fun e he=>by
 have h1:=pQ h he
 have h2:=kJ e.act.args
 exact ⟨(iR _).1 (qr _ zO),by omega⟩
def xN (k:Nat):List Int:=if k=7 then [1] else if k=4 then [5] else []
def gc (g:Gx) (n:Int):Int:=if i4 g=true then (if n<0\/(g.edges.length:Int)<=n then 2 else 0) else 8
def yL (g:Gx) (n:Int):List Int:=if i4 g=true/\0<=n/\n<g.edges.length then (match g.edges[n.toNat]? with | some E=>aE E.act.args++xN E.act.kind | none=>[]) else []
def KsR (g:Gx) (n:Int) (H:Heap) (o:AV):Prop:=∃ d,KsV H o d/\d.Pairwise (· < ·)/\∀ z,z∈d ↔ z∈yL g n
theorem KsR.mono {g:Gx} {n:Int} {H H':Heap} {o:AV} (hs:Sub H H') (h:KsR g n H o):KsR g n H' o:=by
 obtain ⟨d,h1,h2,h3⟩:=h
 exact ⟨d,h1.mono hs,h2,h3⟩
theorem KsR.none {g:Gx} {n:Int} (H:Heap) (h:¬ (i4 g=true/\0<=n/\n<g.edges.length)):KsR g n H .nilSl:=⟨[],KsV.nil H,List.Pairwise.nil,fun z=>by unfold yL; rw [if_neg h]⟩
theorem uD {g:Gx} {i:Nat} (hi:i<g.edges.length) (hm:i4 g=true):yL g (i:Int)=aE g.edges[i].act.args++xN g.edges[i].act.kind:=by
 unfold yL
 rw [if_pos ⟨hm,by omega,by omega⟩]
 simp [List.getElem?_eq_getElem hi]
theorem Dz {g:Gx} (h:i4 g=true) {e:Edx} (he:e∈g.edges):oR g.vars g.arrays.length e.act=true:=by
 unfold i4 at h
 simp only [Bool.and_eq_true] at h
 have:=List.all_eq_true.1 h.2.2.1 e he
 unfold mh at this
 simp only [Bool.and_eq_true] at this
 exact this.2.2
theorem uR {g:Gx} (h:i4 g=true):g.edges.length<=2048:=by
 unfold i4 at h
 simp only [Bool.and_eq_true,decide_eq_true_eq] at h
 exact h.1.2.2.2.2.2
section
variable {tab:Nat->Option aN} {H:Heap}
set_option maxHeartbeats 4000000 in
theorem qh (C:Code tab) (hw:Wf H) {g:Gx} {n:Int} (hg:mT g) (hwt:xV g<=1048576) :
  Ans tab (.fn fP [.agg (dW g),.int .i64 n]) H fun v H'=>(∃ o,v=.tup [o,.int .i64 (gc g n)]/\KsR g n H' o)/\Kp H H':=by
 have hrs:c_report_Kinds.results=[(4,none),(5,none)]:=rfl
 refine oY C.q2 rfl rfl zU fun T hl ga=>?_
 have hl:T.length=56:=hl
 have g0:aa T 0=.agg (dW g):=ga 0 (by simp)
 have g1:aa T 1=.int .i64 n:=ga 1 (by simp)
 clear ga
 have bg:=ki g
 have sl:=fun H=>gp bc H g
 have ll:=iC g
 obtain ⟨s,hs⟩:∃ s,s=lg g:=⟨_,rfl⟩
 rw [<- hs] at bg sl ll
 have tg:aB [.int .i64 g.vars,jN g,.int .i64 g.nodes,.int .i64 g.start,.int .i64 g.last,s] 0 (some 6)=some (.agg (dW g)):=by rw [hs]; rfl
 refine aG ?_
 refine zW (dz hl g0 bg @az) ?_
 refine bP (fun T' Y=>T'.length=56/\aa T' 1=.int .i64 n/\aa T' 2=.ptr H.next 0/\aa T' 4=.nilSl/\Y.get H.next=some (.cells [.int .i64 g.vars,jN g,.int .i64 g.nodes,.int .i64 g.start,.int .i64 g.last,s] ah true)/\Kp H Y) ⟨by exact zV hl,by exact zV (bb hl g1),by exact zV hl,by exact zV hl,by exact oH,zK⟩ ?_
 clear hl g0 g1 bg hs
 rintro T Y ⟨hl,t1,t2,t4,dG,kY⟩
 have wY:=kY.wf
 refine aG ?_
 refine zW (dz hl t2 dG tg) ?_
 refine AnsH.eq (tR C zF hg (xU hwt)) fun H2 hk2=>?_
 obtain ⟨k2,_,_⟩:=zT Y zK hk2
 have w2:=hk2.wf
 have le_hk2:=hk2.le
 have d2:=k2.get dG
 have kH2:=kY.trans k2
 by_cases cm:i4 g=true
 case neg =>
  have ec:gc g n=8:=by unfold gc; rw [if_neg cm]
  rw [if_neg cm,ec]
  refine zW (dz hl t4 @ed hrs) ?_
  exact ⟨⟨_,rfl,KsR.none _ (fun h=>cm h.1)⟩,zK⟩
 rw [if_pos cm]
 refine zW (bb hl @az) ?_
 have hE5:=uR cm
 refine bP (fun T' Z=>T'.length=56/\aa T' 1=.int .i64 n/\aa T' 2=.ptr H.next 0/\aa T' 4=.nilSl/\Z.get H.next=some (.cells [.int .i64 g.vars,jN g,.int .i64 g.nodes,.int .i64 g.start,.int .i64 g.last,s] ah true)/\Kp H Z) ⟨by exact zV hl,by exact zV (bb hl t1),by exact zV (bb hl t2),by exact zV (bb hl t4),d2,zK⟩ ?_
 clear hl t1 t2 t4 dG kY wY k2 w2 d2 kH2 hk2
 rintro T Y ⟨hl,t1,t2,t4,dG,kY⟩
 have wY:=kY.wf
 refine aG ?_
 by_cases c0:n<0
 ·have ec:gc g n=2:=by unfold gc; rw [if_pos cm,if_pos (.inl c0)]
  rw [ec]
  refine zW (eU hl t1 c0 @ed hrs) ?_
  exact ⟨⟨_,rfl,KsR.none _ (fun h=>by omega)⟩,zK⟩
 by_cases c1:(g.edges.length:Int)<=n
 ·have ec:gc g n=2:=by unfold gc; rw [if_pos cm,if_pos (.inr c1)]
  rw [ec]
  refine zW (fg hl t1 t2 dG @gV ll c0 @c1 @ed hrs) ?_
  exact ⟨⟨_,rfl,KsR.none _ (fun h=>by omega)⟩,zK⟩
 refine zW (pd hl t1 t2 dG @gV ll c0 @c1 @az) ?_
 obtain ⟨i,rfl⟩:∃ i:Nat,n=(i:Int):=⟨n.toNat,by omega⟩
 have hi:i<g.edges.length:=by omega
 have ec:gc g (i:Int)=0:=by unfold gc; rw [if_pos cm,if_neg zO]
 have eS:=uD hi cm
 obtain ⟨E,hE⟩:∃ E,E=g.edges[i]:=⟨_,rfl⟩
 have hEm:E∈g.edges:=by rw [hE]; exact List.getElem_mem _
 obtain ⟨ix,fx,-⟩:=eT (sl default) hi
 have xD:=fun H=>(eT (sl H) hi).2.2.2.2.2.2.2.2.2
 rw [<- hE] at xD eS
 have stD:=ko (ty:=bR) (cs:=Fa) (n:=4) (ds:=fV E.act) rfl rfl (lO _)
 obtain ⟨D0,D2,D3⟩:=Eu E.act
 have hmD:=Dz cm hEm
 have hwE:=pQ hwt hEm
 rw [ec]
 refine bP (fun T' Z=>T'.length=56/\aa T' 1=.int .i64 (i:Int)/\aa T' 2=.ptr H.next 0/\aa T' 4=.nilSl/\Z.get H.next=some (.cells [.int .i64 g.vars,jN g,.int .i64 g.nodes,.int .i64 g.start,.int .i64 g.last,s] ah true)/\Kp H Z) ⟨by exact zV hl,by exact zV (bb hl t1),by exact zV (bb hl t2),by exact zV (bb hl t4),dG,zK⟩ ?_
 clear hl t1 t2 t4 dG kY wY
 rintro T Y ⟨hl,t1,t2,t4,dG,kY⟩
 have wY:=kY.wf
 have leY:=kY.le
 refine aG ?_
 refine zW (fg hl t1 t2 dG @gV ix fx xD stD @az) ?_
 refine bP (fun T' Z=>T'.length=56/\aa T' 4=.nilSl/\aa T' 6=.ptr (Y.next+6) 0/\Z.get (Y.next+6)=some (.cells (fV E.act) bR true)/\Kp H Z) ⟨by exact zV hl,by exact zV (bb hl t4),by exact zV hl,by exact oH,zK⟩ ?_
 clear hl t1 t2 t4 dG wY
 rintro T Z ⟨hl,t4,t6,dD,kZ⟩
 have wZ:=kZ.wf
 have sa:=fun H=>dZ (ty:=au) (H:=H) E.act.nl E.act.args
 have la:=gq E.act.nl E.act.args
 obtain ⟨av,hav⟩:∃ av,av=mZ E.act.nl E.act.args:=⟨_,rfl⟩
 rw [<- hav] at sa la D3
 have hlen:=kJ E.act.args
 have hmA:∀ y∈E.act.args,fh g.vars g.arrays.length y=true:=fun y hy=>by
  unfold oR at hmD
  simp only [Bool.and_eq_true] at hmD
  exact List.all_eq_true.1 hmD.2 y hy
 refine cu (fun T' X=>∃ o,aa T' 4=o/\Bl u8E ap Z X o (aE E.act.args)/\Kp Z X) rfl ?_ ?_
 ·refine zW (eU hl t6 dD D3 la) ?_
  refine fI Z [4] (fun j vs H'=>∃ o,vs=[o]/\Bl u8E ap Z H' o (aE (E.act.args.take j))) (a:=0) (N:=E.act.args.length) rfl (by refine zW hl ?_; rfl) (zV hl) (Nat.zero_le _) zO (by simp only [List.length_set,hl]; rfl) rfl (fun j vs H' m ⟨o,h1,h2⟩=>⟨o,h1,h2.mono (Sub.bump H' m)⟩) zK ⟨.nilSl,by exact zV (bb hl t4),Bl.nil⟩ ?_ ?_
  ·rintro j T2 H2-hj hl2 hi2 hs2 k2 ⟨o,hv,hb2⟩
   have w2:=k2.wf
   have le2:=k2.le
   simp only [List.map_cons,List.map_nil,List.cons.injEq,and_true] at hv
   have u29:aa T2 29=av:=(hs2.at_ 29 zU).trans (zV hl)
   simp only [List.length_set,hl] at hl2
   obtain ⟨ix,fx,-,-,-,-,x5⟩:=mN sa hj
   have hmem:E.act.args[j]∈E.act.args:=List.getElem_mem _
   have htk:=m8 hj
   have htl:=fp E.act.args (j+1)
   have st5:=ko (ty:=au) (cs:=[.int .u8 0,.str ⟨#[]⟩,.int .i64 0,.nilSl,.int .i64 0]) (n:=5) (ds:=dJ E.act.args[j]) (fU _) rfl (jE _)
   have t5:aB (dJ E.act.args[j]) 0 (some 5)=some (.agg (dJ E.act.args[j])):=rm (fU _)
   refine zW (jS hl2 u29 hv hi2 ix x5 st5 t5) ?_
   obtain ⟨X,hX⟩:∃ X,X=((H2.up 9).put (H2.next+2) (.cells [.int .u8 0,.str ⟨#[]⟩,.int .i64 0,.nilSl,.int .i64 0] au true)).put (H2.next+2) (.cells (dJ E.act.args[j]) au true):=⟨_,rfl⟩
   rw [<- hX]
   have k2X:Kp H2 X:=by rw [hX]; exact zK
   have nX:X.next=H2.next+9:=by rw [hX]; rfl
   have fX:X.get (H2.next+7)=none:=by rw [hX,bo zO,bo zO]; exact w2.fresh (b:=H2.next+7) zO
   clear hX
   have wX:=k2X.wf
   refine AnsH.use (qg C _ _ (Nat.le_refl _) (hmA _ hmem) zO wX) ?_
   rintro v3 H3 ⟨b3,hk3⟩
   have k23:=k2X.trans hk3
   have k3:=k2.trans k23
   have w3:=k3.wf
   have le3:=hk3.le
   have f3:=hk3.free (show H2.next+7<X.next by omega) fX
   have hl3:=ij (E.act.args.take j)
   have hl4:=kK E.act.args[j]
   have htj:=fp E.act.args j
   obtain ⟨v4,H4,e4,b4,k4,n4,-,-⟩:=Bl.app (bytes:=1) (id:=H2.next+7) (hb2.mono k23.sub) (fun h=>by cases h) k3 b3.sl zO zO f3 (fun b n hv' off m c z x hw'=>by
    have hbl:b<H2.next:=by
     obtain ⟨cells,h⟩:=hb2.blk (b:=b) (by rw [hv']; rfl)
     exact w2 _ _ h
    have:=b3.ge (b:=b) (by rw [hw']; rfl)
    omega) zO zO
   have e4':iV H3 (H2.next+7) 1 1 ap o v3=some (v4,H4):=e4
   refine zW (fe hl2 hv e4') ?_
   refine ⟨zK,v4,rfl,?_⟩
   rw [jA hj]
   exact b4
  ·rintro T2 H2 hl2 hs2 k2 ⟨o,hv,hb2⟩
   simp only [List.map_cons,List.map_nil,List.cons.injEq,and_true] at hv
   rw [List.take_length] at hb2
   rw [ad]
   exact ⟨o,hv,hb2,k2⟩
 rintro T2 H2 hs2 ⟨o,u4,hb2,k2⟩
 have hl2:T2.length=56:=hs2.len.trans hl
 have u6:aa T2 6=.ptr (Y.next+6) 0:=(hs2.at_ 6 zU).trans t6
 have d2:=k2.get dD
 have w2:=k2.wf
 have le2:=k2.le
 have hkl:=ij E.act.args
 clear hs2 hl t4 t6 dD wZ
 obtain ⟨K,hK⟩:∃ K,K=aE E.act.args++xN E.act.kind:=⟨_,rfl⟩
 have hKl:K.length<=2097153:=by
  have:(xN E.act.kind).length<=1:=by unfold xN; split; simp; split <;> simp
  rw [hK,List.length_append]; omega
 rw [<- hK] at eS
 refine cu (fun T' X=>∃ o,aa T' 4=o/\Bl u8E ap Z X o K/\Kp Z X) rfl ?_ ?_
 ·by_cases q7:E.act.kind=7
  ·have q7':(E.act.kind:Int)=7:=by omega
   have eK:K=aE E.act.args++[1]:=by rw [hK]; unfold xN; rw [if_pos q7]
   obtain ⟨n6,H6,e6,h6,k6,n7,-⟩:=Bl.push1 (ty2:=ap) (bytes:=1) (id:=H2.next+6) (id2:=H2.next+5) (k:=8) (cs:=[.int .u8 1]) (a:=1) hb2 (fun h=>by cases h) k2 ⟨_,rfl,rfl⟩ zO zO zO zO zO zO zO
   have e6':iV ((H2.up 8).put (H2.next+5) (.cells [.int .u8 1] ap true)) (H2.next+6) 1 1 ap o (.own (H2.next+5) 0 1 1 1 true)=some (.own (H2.next+6) 0 n6 n6 1 false,H6):=e6
   have f1:=uY 1
   refine zW (pd hl2 u6 u4 d2 D0 q7' f1 e6' @ad) ?_
   rw [eK]
   exact ⟨_,rfl,h6,zK⟩
  ·have q7':¬ (E.act.kind:Int)=7:=by omega
   by_cases q4:E.act.kind=4
   ·have q4':(E.act.kind:Int)=4:=by omega
    have eK:K=aE E.act.args++[5]:=by rw [hK]; unfold xN; rw [if_neg q7,if_pos q4]
    obtain ⟨n6,H6,e6,h6,k6,n7,-⟩:=Bl.push1 (ty2:=ap) (bytes:=1) (id:=H2.next+8) (id2:=H2.next+7) (k:=10) (cs:=[.int .u8 5]) (a:=5) hb2 (fun h=>by cases h) k2 ⟨_,rfl,rfl⟩ zO zO zO zO zO zO zO
    have e6':iV ((H2.up 10).put (H2.next+7) (.cells [.int .u8 5] ap true)) (H2.next+8) 1 1 ap o (.own (H2.next+7) 0 1 1 1 true)=some (.own (H2.next+8) 0 n6 n6 1 false,H6):=e6
    have f1:=uY 5
    refine zW (fg hl2 u6 u4 d2 D0 q7' q4' f1 e6' @ad) ?_
    rw [eK]
    exact ⟨_,rfl,h6,zK⟩
   ·have q4':¬ (E.act.kind:Int)=4:=by omega
    have eK:K=aE E.act.args:=by rw [hK]; unfold xN; rw [if_neg q7,if_neg q4,List.append_nil]
    refine zW (jS hl2 u6 u4 d2 D0 q7' q4' @ad) ?_
    rw [eK]
    exact ⟨o,rfl,hb2.mono (Sub.bump H2 _),zK⟩
 rintro T3 H3 hs3 ⟨o,u4,hb3,k3⟩
 have hl3:T3.length=56:=hs3.len.trans hl2
 have w3:=k3.wf
 have leZ:=kZ.le
 have le3:=k3.le
 have kH3:=kZ.trans k3
 clear hs3 hl2 u6 d2 w2 le2 k2 hb2
 rcases hb3.ar with ⟨rfl,hK0⟩ | ⟨b,rfl,hA,hbZ⟩
 ·refine aG ?_
  refine zW (bb hl3 u4) ?_
  refine AnsH.use (ur C zF) ?_
  rintro _ H4 hk4
  obtain ⟨k34,_,_⟩:=zT H3 zK hk4
  have k4:=kH3.trans k34
  have w4:=hk4.wf
  have le_hk4:=hk4.le
  refine zW (bb hl3 @az) ?_
  refine aG ?_
  refine zW (bb hl3 u4) ?_
  refine AnsH.eq (pa C zF) fun H5 hk5=>?_
  obtain ⟨k45,_,_⟩:=zT H4 zK hk5
  have k5:=k4.trans k45
  have w5:=hk5.wf
  have le_hk5:=hk5.le
  refine zW (bb hl3 @az) ?_
  refine WC.wb ?_
  refine zW (bb hl3 hrs) ?_
  exact ⟨⟨_,rfl,[],KsV.nil _,List.Pairwise.nil,fun z=>by rw [eS,hK0]⟩,zK⟩
 ·refine aG ?_
  refine zW (bb hl3 u4) ?_
  refine AnsH.use (Cn C (H0:=Z) (k3.up _) (c:=K.length) hbZ hA rfl zO) ?_
  rintro _ H4 ⟨⟨m,hb4,hp4,hs4⟩,k4⟩
  have w4:=k4.wf
  refine zW (bb hl3 @az) ?_
  refine aG ?_
  refine zW (bb hl3 u4) ?_
  refine AnsH.use (uv C (H0:=Z) (n:=K.length) (c:=K.length) (k4.up _) hbZ hb4 hp4.len (Nat.le_refl _) zO) ?_
  rintro _ H5 ⟨⟨n',m',rfl,hn',hb5,hm',htk⟩,k5⟩
  have w5:=k5.wf
  have kH5:=kZ.trans k5
  obtain ⟨r1,r2⟩:=DW rfl hp4 hs4
  refine zW (bb hl3 @az) ?_
  refine WC.wb ?_
  refine zW (bb hl3 hrs) ?_
  refine ⟨⟨_,rfl,sj m K.length,?_,r1,fun z=>by rw [eS,r2]⟩,zK⟩
  have:=Cy (n:=n') (c:=K.length) (xf:=false) hb5 zO
  rw [htk] at this
  exact this
end
def bW (S:List Int):List AV:=[.bool (decide ((0:Int)∈S)),.bool (decide ((1:Int)∈S)),.bool (decide ((2:Int)∈S)),.bool (decide ((3:Int)∈S)),.bool (decide ((4:Int)∈S)),.bool (decide ((5:Int)∈S))]
theorem xk {S S':List Int} (h:∀ z,z∈S ↔ z∈S'):bW S=bW S':=by
 unfold bW
 simp only [h]
theorem r9 (S:List Int):(bW S).all AV.one=true:=rfl
theorem zC {S:List Int} {i:Nat} (hi:i<6):(bW S).set i (.bool true)=bW (S++[(i:Int)]):=by
 have:i=0\/i=1\/i=2\/i=3\/i=4\/i=5:=by omega
 rcases this with rfl | rfl | rfl | rfl | rfl | rfl <;> simp [bW]
theorem p6 {S:List Int} {i ty:Nat} (hi:i<6):sM (some (.cells (bW S) ty true)) 1 i (.bool true)=some (.cells (bW (S++[(i:Int)])) ty true):=by
 rw [Ez (ay _),if_pos (by simpa [bW] using hi),zC hi]
theorem E2 (S:List Int):kh (.agg (bW S))=some (bW S):=iT (r9 S)
theorem DN {b i:Nat} (hi:i<6):gK 6 1 (.ptr b 0) (.int .u8 (i:Int))=some (.ptr b i):=by rw [lJ hi,Nat.mul_one,Nat.zero_add]
theorem Dk {S S':List Int} {ty:Nat}:sM (some (.cells (bW S) ty true)) 6 0 (.agg (bW S'))=some (.cells (bW S') ty true):=ko rfl rfl (r9 _)
theorem Dh (S:List Int):aB (bW S) 0 (some 6)=some (.agg (bW S)):=rm rfl
theorem sd:bW []=[.bool false,.bool false,.bool false,.bool false,.bool false,.bool false]:=by simp [bW]
section
variable {tab:Nat->Option aN} {rd:Bool}
theorem yu {a b:ACode} {T:Tm} {H:Heap} {Q:Ex->Tm->Heap->Prop} (h:WB tab rd a T H (yO tab rd b Q)):WB tab rd (.seq a b) T H Q:=lY (h.mono fun x T' H' h=>by cases x <;> exact h)
end
def k2 (k:Nat):List Int:=if (4<=k/\k<=8)\/k=10 then [2] else []
def k3 (k:Nat):List Int:=if k=8\/k=9 then [3] else []
def k4 (k:Nat):List Int:=if k=10\/k=11 then [4] else []
def k5 (k:Nat):List Int:=if k=3 then [5] else []
theorem zq (k:Nat) (z:Int):z∈kT k ↔ z∈k2 k++(k3 k++(k4 k++k5 k)):=by
 by_cases h:k<=11
 ·have:k=0\/k=1\/k=2\/k=3\/k=4\/k=5\/k=6\/k=7\/k=8\/k=9\/k=10\/k=11:=by omega
  rcases this with rfl | rfl | rfl | rfl | rfl | rfl | rfl | rfl | rfl | rfl | rfl | rfl <;> simp [kT,k2,k3,k4,k5]
 ·have e1:kT k=[]:=by unfold kT; split <;> first | omega | rfl
  have e2:k2 k=[]:=if_neg zO
  have e3:k3 k=[]:=if_neg zO
  have e4:k4 k=[]:=if_neg zO
  have e5:k5 k=[]:=if_neg zO
  rw [e1,e2,e3,e4,e5]; simp
section
variable {tab:Nat->Option aN} {H:Heap}
set_option maxHeartbeats 4000000 in
theorem tq (C:Code tab):∀ (s:Nat) (l:List Tx),SizeOf.sizeOf l<=s->lW l<=1048576->∀ (S:List Int) (nl:Bool) {H:Heap},Wf H ->
  Ans tab (.fn cp [.agg (bW S),mZ nl l]) H fun v H'=>v=.agg (bW (S++aE l))/\Kp H H':=by
 intro s
 induction s with
 | zero=>intro l hl; cases l <;> simp at hl
 | succ s ih =>
 intro l hls hwt S nl H hw
 refine i9 C.q10 zU fun T hl g0 g1=>?_
 have bS:=E2 S
 have sa:=fun H=>dZ (ty:=au) (H:=H) nl l
 have la:=gq nl l
 have hlen:=kJ l
 obtain ⟨av,hav⟩:∃ av,av=mZ nl l:=⟨_,rfl⟩
 rw [<- hav] at sa la g1
 refine zW (dz hl g0 g1 bS) ?_
 refine kf (fun T' Y=>T'.length=54/\aa T' 1=av/\aa T' 2=.ptr H.next 0/\aa T' 4=.ptr (H.next+1) 0/\aa T' 5=.int .i64 0/\Y.get H.next=some (.cells (bW S) aH true)/\Y.get (H.next+1)=some (.cells (bW []) aH true)/\Kp H Y) ⟨by exact zV (fe hl g0 g1),by exact zV (dz hl g0 g1 g1),by exact zV (fe hl g0 g1),by exact zV (fe hl g0 g1),by exact zV (fe hl g0 g1),by exact oH,by rw [sd]; exact oH,zK⟩ ?_
 clear hl g0 g1
 rintro T Y ⟨hl,t1,t2,t4,t5,dA,dB,kY⟩
 have wY:=kY.wf
 refine mE (L:=54) H [5] (fun r vs H'=>∃ i:Nat,vs=[.int .i64 (i:Int)]/\i+r=l.length/\H'.get H.next=some (.cells (bW (S++aE (l.take i))) aH true)/\H'.get (H.next+1)=some (.cells (bW []) aH true)) l.length hl rfl kY ⟨0,by simp only [List.map_cons,List.map_nil,t5]; rfl,by omega,by simpa [aE] using dA,dB⟩ ?_
 rintro r T1 Z1 hl1 hs1 k1' ⟨i,hv,hik,dA,dB⟩
 have w1:=k1'.wf
 have lt1:=w1 _ _ dB
 simp only [List.map_cons,List.map_nil,List.cons.injEq,and_true] at hv
 have y1:aa T1 1=av:=(hs1.at_ 1 zU).trans t1
 have y2:aa T1 2=.ptr H.next 0:=(hs1.at_ 2 zU).trans t2
 have y4:aa T1 4=.ptr (H.next+1) 0:=(hs1.at_ 4 zU).trans t4
 clear hs1 hl t1 t2 t4 t5
 refine aG ?_
 by_cases hi:i<l.length
 case neg =>
  have hii:¬ (i:Int)<(l.length:Int):=by omega
  rw [List.take_of_length_le zO] at dA
  have stF:=Dk (S:=[]) (S':=S++aE l) (ty:=aH)
  have taF:=Dh (S++aE l)
  refine zW (dC hl1 hv y1 la hii @v9 y2 y4 dA dB stF taF) ?_
  exact zK
 have hii:(i:Int)<(l.length:Int):=by omega
 refine zW (gD hl1 hv y1 la hii @az) ?_
 refine bP (fun T' Z=>T'.length=54/\aa T' 1=av/\aa T' 2=.ptr H.next 0/\aa T' 4=.ptr (H.next+1) 0/\aa T' 5=.int .i64 (i:Int)/\Z.get H.next=some (.cells (bW (S++aE (l.take i))) aH true)/\Z.get (H.next+1)=some (.cells (bW []) aH true)/\Kp H Z) ⟨by exact zV hl1,by exact zV (bb hl1 y1),by exact zV (bb hl1 y2),by exact zV (bb hl1 y4),by exact zV (bb hl1 hv),dA,dB,zK⟩ ?_
 clear hl1 hv y1 y2 y4 dA dB k1' w1 lt1
 rintro T2 Z2 ⟨hl2,y1,y2,y4,y5,dA,dB,k2'⟩
 have w2:=k2'.wf
 have lt2:=w2 _ _ dB
 obtain ⟨ix,fx,x0,-,-,x3,-⟩:=mN sa hi
 refine yu ?_
 refine ph ?_
 refine aG ?_
 refine zW (lf hl2 y1 y5 ix fx x0 @az) ?_
 refine bP (fun T' Z=>T'.length=54/\aa T' 1=av/\aa T' 2=.ptr H.next 0/\aa T' 4=.ptr (H.next+1) 0/\aa T' 5=.int .i64 (i:Int)/\aa T' 6=.int .u8 (l[i].kind:Int)/\Z.get H.next=some (.cells (bW (S++aE (l.take i))) aH true)/\Z.get (H.next+1)=some (.cells (bW []) aH true)/\Kp H Z) ⟨by exact zV hl2,by exact zV (bb hl2 y1),by exact zV (bb hl2 y2),by exact zV (bb hl2 y4),by exact zV (bb hl2 y5),by exact zV hl2,dA,dB,zK⟩ ?_
 clear hl2 y1 y2 y4 y5 dA dB k2' w2 lt2
 rintro T3 Z3 ⟨hl3,y1,y2,y4,y5,y6,dA,dB,k3'⟩
 have w3:=k3'.wf
 have lt3:=w3 _ _ dB
 have iav2:gK 6 1 (.ptr H.next 0) (.int .u8 2)=some (.ptr H.next 2):=DN (i:=2) zO
 have iav3:gK 6 1 (.ptr H.next 0) (.int .u8 3)=some (.ptr H.next 3):=DN (i:=3) zO
 have iav4:gK 6 1 (.ptr H.next 0) (.int .u8 4)=some (.ptr H.next 4):=DN (i:=4) zO
 have iav5:gK 6 1 (.ptr H.next 0) (.int .u8 5)=some (.ptr H.next 5):=DN (i:=5) zO
 have stv:=fun (S:List Int) (i:Nat) (hi:i<6)=>p6 (S:=S) (ty:=aH) hi
 refine cu (fun T' X=>X.get H.next=some (.cells (bW (S++aE (l.take i)++k2 l[i].kind)) aH true)/\X.get (H.next+1)=some (.cells (bW []) aH true)/\Kp H X) rfl ?_ ?_
 ·have stI:=stv (S++aE (l.take i)) 2 zO
  have yes:k2 l[i].kind=[2]->some (Ent.cells (bW (S++aE (l.take i)++[((2:Nat):Int)])) aH true)=some (Ent.cells (bW (S++aE (l.take i)++k2 l[i].kind)) aH true):=fun h=>by rw [h]; rfl
  have no:k2 l[i].kind=[]->bW (S++aE (l.take i)++k2 l[i].kind)=bW (S++aE (l.take i)):=fun h=>by rw [h,List.append_nil]
  by_cases qa:4<=l[i].kind
  ·have qa':(4:Int)<=(l[i].kind:Int):=by omega
   by_cases qb:l[i].kind<=8
   ·have qb':(l[i].kind:Int)<=8:=by omega
    simp -dsimp (maxSteps:=1000000) (disch:=(first | omega | assumption | exact ay _ | exact aA _ _ | exact aM | exact bh _ _ _ | exact aO _ _ | exact aP _ _ _ _ _ _ | exact bd _ _ | exact aR _)) only [↓iJ,iI,Nat.reduceLT,Nat.reduceEqDiff,Nat.reduceAdd,↓reduceIte,reduceCtorEq,Nat.reduceBEq,Int.reduceEq,Int.reduceLT,Int.reduceLE,Int.reduceAdd,Int.reduceSub,hl3,y2,y6,dA,qa',qb',↓dF,cJ,iav2,stI,ad]
    exact ⟨yes (if_pos zO),dB,zK⟩
   ·have qb':¬ (l[i].kind:Int)<=8:=by omega
    by_cases qc:l[i].kind=10
    ·have qc':(l[i].kind:Int)=10:=by omega
     simp -dsimp (maxSteps:=1000000) (disch:=(first | omega | assumption | exact ay _ | exact aA _ _ | exact aM | exact bh _ _ _ | exact aO _ _ | exact aP _ _ _ _ _ _ | exact bd _ _ | exact aR _)) only [↓iJ,iI,Nat.reduceLT,Nat.reduceEqDiff,Nat.reduceAdd,↓reduceIte,reduceCtorEq,Nat.reduceBEq,Int.reduceEq,Int.reduceLT,Int.reduceLE,Int.reduceAdd,Int.reduceSub,hl3,y2,y6,dA,qa',qb',qc',↓dF,cJ,iav2,stI,ad]
     exact ⟨yes (if_pos zO),dB,zK⟩
    ·have qc':¬ (l[i].kind:Int)=10:=by omega
     refine zW (gD hl3 y6 qa' qb' qc' @ad) ?_
     exact ⟨by rw [no (if_neg zO)]; exact dA,dB,zK⟩
  ·have qa':¬ (4:Int)<=(l[i].kind:Int):=by omega
   have qc':¬ (l[i].kind:Int)=10:=by omega
   refine zW (eU hl3 y6 qa' qc' @ad) ?_
   exact ⟨by rw [no (if_neg zO)]; exact dA,dB,zK⟩
 clear dA dB lt3
 rintro T4 Z4 hs4 ⟨dA,dB,k4'⟩
 have hl4:T4.length=54:=hs4.len.trans hl3
 have y1:aa T4 1=av:=(hs4.at_ 1 zU).trans y1
 have y2:aa T4 2=.ptr H.next 0:=(hs4.at_ 2 zU).trans y2
 have y4:aa T4 4=.ptr (H.next+1) 0:=(hs4.at_ 4 zU).trans y4
 have y5:aa T4 5=.int .i64 (i:Int):=(hs4.at_ 5 zU).trans y5
 have y6:aa T4 6=.int .u8 (l[i].kind:Int):=(hs4.at_ 6 zU).trans y6
 have w4:=k4'.wf
 have lt4:=w4 _ _ dB
 clear hs4 hl3
 refine cu (fun T' X=>X.get H.next=some (.cells (bW (S++aE (l.take i)++k2 l[i].kind++k3 l[i].kind)) aH true)/\X.get (H.next+1)=some (.cells (bW []) aH true)/\Kp H X) rfl ?_ ?_
 ·have stI:=stv (S++aE (l.take i)++k2 l[i].kind) 3 zO
  have yes:k3 l[i].kind=[3]->some (Ent.cells (bW (S++aE (l.take i)++k2 l[i].kind++[((3:Nat):Int)])) aH true)=some (Ent.cells (bW (S++aE (l.take i)++k2 l[i].kind++k3 l[i].kind)) aH true):=fun h=>by rw [h]; rfl
  have no:k3 l[i].kind=[]->bW (S++aE (l.take i)++k2 l[i].kind++k3 l[i].kind)=bW (S++aE (l.take i)++k2 l[i].kind):=fun h=>by rw [h,List.append_nil]
  by_cases qa:l[i].kind=8
  ·have qa':(l[i].kind:Int)=8:=by omega
   simp -dsimp (maxSteps:=1000000) (disch:=(first | omega | assumption | exact ay _ | exact aA _ _ | exact aM | exact bh _ _ _ | exact aO _ _ | exact aP _ _ _ _ _ _ | exact bd _ _ | exact aR _)) only [↓iJ,iI,Nat.reduceLT,Nat.reduceEqDiff,Nat.reduceAdd,↓reduceIte,reduceCtorEq,Nat.reduceBEq,Int.reduceEq,Int.reduceLT,Int.reduceLE,Int.reduceAdd,Int.reduceSub,hl4,y2,y6,dA,qa',↓dF,cJ,iav3,stI,ad]
   exact ⟨yes (if_pos zO),dB,zK⟩
  ·have qa':¬ (l[i].kind:Int)=8:=by omega
   by_cases qb:l[i].kind=9
   ·have qb':(l[i].kind:Int)=9:=by omega
    simp -dsimp (maxSteps:=1000000) (disch:=(first | omega | assumption | exact ay _ | exact aA _ _ | exact aM | exact bh _ _ _ | exact aO _ _ | exact aP _ _ _ _ _ _ | exact bd _ _ | exact aR _)) only [↓iJ,iI,Nat.reduceLT,Nat.reduceEqDiff,Nat.reduceAdd,↓reduceIte,reduceCtorEq,Nat.reduceBEq,Int.reduceEq,Int.reduceLT,Int.reduceLE,Int.reduceAdd,Int.reduceSub,hl4,y2,y6,dA,qa',qb',↓dF,cJ,iav3,stI,ad]
    exact ⟨yes (if_pos zO),dB,zK⟩
   ·have qb':¬ (l[i].kind:Int)=9:=by omega
    refine zW (eU hl4 y6 qa' qb' @ad) ?_
    exact ⟨by rw [no (if_neg zO)]; exact dA,dB,zK⟩
 clear dA dB lt4
 rintro T5 Z5 hs5 ⟨dA,dB,k5'⟩
 have hl5:T5.length=54:=hs5.len.trans hl4
 have y1:aa T5 1=av:=(hs5.at_ 1 zU).trans y1
 have y2:aa T5 2=.ptr H.next 0:=(hs5.at_ 2 zU).trans y2
 have y4:aa T5 4=.ptr (H.next+1) 0:=(hs5.at_ 4 zU).trans y4
 have y5:aa T5 5=.int .i64 (i:Int):=(hs5.at_ 5 zU).trans y5
 have y6:aa T5 6=.int .u8 (l[i].kind:Int):=(hs5.at_ 6 zU).trans y6
 have w5:=k5'.wf
 have lt5:=w5 _ _ dB
 clear hs5 hl4
 refine cu (fun T' X=>X.get H.next=some (.cells (bW (S++aE (l.take i)++k2 l[i].kind++k3 l[i].kind++k4 l[i].kind)) aH true)/\X.get (H.next+1)=some (.cells (bW []) aH true)/\Kp H X) rfl ?_ ?_
 ·have stI:=stv (S++aE (l.take i)++k2 l[i].kind++k3 l[i].kind) 4 zO
  have yes:k4 l[i].kind=[4]->some (Ent.cells (bW (S++aE (l.take i)++k2 l[i].kind++k3 l[i].kind++[((4:Nat):Int)])) aH true)=some (Ent.cells (bW (S++aE (l.take i)++k2 l[i].kind++k3 l[i].kind++k4 l[i].kind)) aH true):=fun h=>by rw [h]; rfl
  have no:k4 l[i].kind=[]->bW (S++aE (l.take i)++k2 l[i].kind++k3 l[i].kind++k4 l[i].kind)=bW (S++aE (l.take i)++k2 l[i].kind++k3 l[i].kind):=fun h=>by rw [h,List.append_nil]
  by_cases qa:l[i].kind=10
  ·have qa':(l[i].kind:Int)=10:=by omega
   simp -dsimp (maxSteps:=1000000) (disch:=(first | omega | assumption | exact ay _ | exact aA _ _ | exact aM | exact bh _ _ _ | exact aO _ _ | exact aP _ _ _ _ _ _ | exact bd _ _ | exact aR _)) only [↓iJ,iI,Nat.reduceLT,Nat.reduceEqDiff,Nat.reduceAdd,↓reduceIte,reduceCtorEq,Nat.reduceBEq,Int.reduceEq,Int.reduceLT,Int.reduceLE,Int.reduceAdd,Int.reduceSub,hl5,y2,y6,dA,qa',↓dF,cJ,iav4,stI,ad]
   exact ⟨yes (if_pos zO),dB,zK⟩
  ·have qa':¬ (l[i].kind:Int)=10:=by omega
   by_cases qb:l[i].kind=11
   ·have qb':(l[i].kind:Int)=11:=by omega
    simp -dsimp (maxSteps:=1000000) (disch:=(first | omega | assumption | exact ay _ | exact aA _ _ | exact aM | exact bh _ _ _ | exact aO _ _ | exact aP _ _ _ _ _ _ | exact bd _ _ | exact aR _)) only [↓iJ,iI,Nat.reduceLT,Nat.reduceEqDiff,Nat.reduceAdd,↓reduceIte,reduceCtorEq,Nat.reduceBEq,Int.reduceEq,Int.reduceLT,Int.reduceLE,Int.reduceAdd,Int.reduceSub,hl5,y2,y6,dA,qa',qb',↓dF,cJ,iav4,stI,ad]
    exact ⟨yes (if_pos zO),dB,zK⟩
   ·have qb':¬ (l[i].kind:Int)=11:=by omega
    refine zW (eU hl5 y6 qa' qb' @ad) ?_
    exact ⟨by rw [no (if_neg zO)]; exact dA,dB,zK⟩
 clear dA dB lt5
 rintro T6 Z6 hs6 ⟨dA,dB,k6'⟩
 have hl6:T6.length=54:=hs6.len.trans hl5
 have y1:aa T6 1=av:=(hs6.at_ 1 zU).trans y1
 have y2:aa T6 2=.ptr H.next 0:=(hs6.at_ 2 zU).trans y2
 have y4:aa T6 4=.ptr (H.next+1) 0:=(hs6.at_ 4 zU).trans y4
 have y5:aa T6 5=.int .i64 (i:Int):=(hs6.at_ 5 zU).trans y5
 have y6:aa T6 6=.int .u8 (l[i].kind:Int):=(hs6.at_ 6 zU).trans y6
 have w6:=k6'.wf
 have lt6:=w6 _ _ dB
 clear hs6 hl5
 refine cu (fun T' X=>X.get H.next=some (.cells (bW (S++aE (l.take i)++k2 l[i].kind++k3 l[i].kind++k4 l[i].kind++k5 l[i].kind)) aH true)/\X.get (H.next+1)=some (.cells (bW []) aH true)/\Kp H X) rfl ?_ ?_
 ·have stI:=stv (S++aE (l.take i)++k2 l[i].kind++k3 l[i].kind++k4 l[i].kind) 5 zO
  have yes:k5 l[i].kind=[5]->some (Ent.cells (bW (S++aE (l.take i)++k2 l[i].kind++k3 l[i].kind++k4 l[i].kind++[((5:Nat):Int)])) aH true)=some (Ent.cells (bW (S++aE (l.take i)++k2 l[i].kind++k3 l[i].kind++k4 l[i].kind++k5 l[i].kind)) aH true):=fun h=>by rw [h]; rfl
  have no:k5 l[i].kind=[]->bW (S++aE (l.take i)++k2 l[i].kind++k3 l[i].kind++k4 l[i].kind++k5 l[i].kind)=bW (S++aE (l.take i)++k2 l[i].kind++k3 l[i].kind++k4 l[i].kind):=fun h=>by rw [h,List.append_nil]
  by_cases qa:l[i].kind=3
  ·have qa':(l[i].kind:Int)=3:=by omega
   simp -dsimp (maxSteps:=1000000) (disch:=(first | omega | assumption | exact ay _ | exact aA _ _ | exact aM | exact bh _ _ _ | exact aO _ _ | exact aP _ _ _ _ _ _ | exact bd _ _ | exact aR _)) only [↓iJ,iI,Nat.reduceLT,Nat.reduceEqDiff,Nat.reduceAdd,↓reduceIte,reduceCtorEq,Nat.reduceBEq,Int.reduceEq,Int.reduceLT,Int.reduceLE,Int.reduceAdd,Int.reduceSub,hl6,y2,y6,dA,qa',↓dF,cJ,iav5,stI,ad]
   exact ⟨yes (if_pos zO),dB,zK⟩
  ·have qa':¬ (l[i].kind:Int)=3:=by omega
   refine zW (dz hl6 y6 qa' @ad) ?_
   exact ⟨by rw [no (if_neg zO)]; exact dA,dB,zK⟩
 clear dA dB lt6
 rintro T7 Z7 hs7 ⟨dA,dB,k7'⟩
 have hl7:T7.length=54:=hs7.len.trans hl6
 have y1:aa T7 1=av:=(hs7.at_ 1 zU).trans y1
 have y2:aa T7 2=.ptr H.next 0:=(hs7.at_ 2 zU).trans y2
 have y4:aa T7 4=.ptr (H.next+1) 0:=(hs7.at_ 4 zU).trans y4
 have y5:aa T7 5=.int .i64 (i:Int):=(hs7.at_ 5 zU).trans y5
 have y6:aa T7 6=.int .u8 (l[i].kind:Int):=(hs7.at_ 6 zU).trans y6
 have w7:=k7'.wf
 have lt7:=w7 _ _ dB
 clear hs7 hl6
 obtain ⟨S',hS'⟩:∃ S',S'=S++aE (l.take i)++k2 l[i].kind++k3 l[i].kind++k4 l[i].kind++k5 l[i].kind:=⟨_,rfl⟩
 rw [<- hS'] at dA
 have hsz:SizeOf.sizeOf l[i].args<=s:=by
  have h1:=lm l[i]
  have h2:=List.sizeOf_lt_of_mem (List.getElem_mem hi)
  omega
 have hx:=pR l[i]
 have hti:=m8 hi
 have htl:=fp l (i+1)
 have taS:=Dh S'
 have stS:=Dk (S:=S') (S':=S'++aE l[i].args) (ty:=aH)
 have ei:IntKind.i64.wrap ((i:Int)+1)=((i+1:Nat):Int):=by rw [ae] <;> omega
 refine WC.wb ?_
 refine al ?_
 refine zD (pd hl7 y1 y2 y5 dA taS ix fx x3) ?_
 refine AnsH.eq (ih _ hsz zO S' _ zF) fun H8 hk8=>?_
 obtain ⟨k78,_,_⟩:=zT Z7 zK hk8
 have k8':=k7'.trans k78
 have w8:=hk8.wf
 have le_hk8:=hk8.le
 have dA8:=k78.get dA
 have dB8:=k78.get dB
 have lt8:=w8 _ _ dB8
 refine zD (dC hl7 y1 y2 y5 dA dA8 taS ix fx x3 stS @az) ?_
 refine WC.wb ?_
 refine zD (fe hl7 y5 ei) ?_
 refine ⟨zK,r-1,by omega,i+1,rfl,by omega,?_,dB8⟩
 congr 2
 refine xk fun z=>?_
 rw [hS',jA hi,pz]
 have:=zq l[i].kind z
 simp only [List.mem_append] at this ⊢
 rw [this]
 simp only [or_assoc]
end
end Go.Proofs.Ytekmejlgocineaa.Ev
