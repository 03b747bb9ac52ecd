/- A part. -/
import Derived.Test.YtekmejlgocineaaKG27
import Derived.Test.YtekmejlgocineaaEvDraw5
import Derived.KernelRfl
import Derived.WalkKit
import Derived.ProofKit
import Derived.Test.YtekmejlgocineaaCode
import Derived.Test.YtekmejlgocineaaProg
namespace Go.Proofs.Ytekmejlgocineaa.Ev
open Go Nn
set_option linter.all false
def jy (S:List Int):Nat->List Int
 | 0=>[]
 | k+1=>jy S k++if ((k+1:Nat):Int)∈S then [((k+1:Nat):Int)] else []
theorem nY (S:List Int) (z:Int):∀ k,z∈jy S k ↔ (1<=z/\z<=(k:Int))/\z∈S
 | 0=>by simp only [jy,List.not_mem_nil,false_iff]; omega
 | k+1=>by
  rw [jy,List.mem_append,nY S z k]
  by_cases h:((k+1:Nat):Int)∈S
  ·rw [if_pos h,List.mem_singleton]
   constructor
   ·rintro (⟨h1,h2⟩ | h1)
    ·exact ⟨by omega,h2⟩
    ·subst h1; exact ⟨by omega,h⟩
   ·rintro ⟨h1,h2⟩
    by_cases e:z=((k+1:Nat):Int)
    ·exact .inr e
    ·exact .inl ⟨by omega,h2⟩
  ·rw [if_neg h]
   constructor
   ·rintro (⟨h1,h2⟩ | h1)
    ·exact ⟨by omega,h2⟩
    ·cases h1
   ·rintro ⟨h1,h2⟩
    by_cases e:z=((k+1:Nat):Int)
    ·subst e; exact absurd h2 h
    ·exact .inl ⟨by omega,h2⟩
theorem rQ (S:List Int):∀ k,(jy S k).Pairwise (· < ·)
 | 0=>List.Pairwise.nil
 | k+1=>by
  have ih:=rQ S k
  rw [jy]
  split
  ·refine List.pairwise_append.2 ⟨ih,List.pairwise_singleton _ _,fun a ha b hb=>?_⟩
   rw [List.mem_singleton] at hb
   have:=(nY S a k).1 ha
   omega
  ·rw [List.append_nil]; exact ih
theorem rR (S:List Int):∀ k,(jy S k).length<=k
 | 0=>Nat.le_refl _
 | k+1=>by
  have:=rR S k
  rw [jy,List.length_append]
  split <;> simp <;> omega
theorem EJ {k:Nat} {z:Int} (h:z∈kT k):1<=z/\z<=5:=by
 rw [zq] at h
 simp only [List.mem_append,k2,k3,k4,k5] at h
 rcases h with h | h | h | h <;> (split at h <;> simp at h <;> omega)
mutual
theorem wO:∀ (x:Tx) {z:Int},z∈i8 x->1<=z/\z<=5
 | .mk k s n nl l p,z,h=>by
  simp only [i8,List.mem_append] at h
  rcases h with h | h
  ·exact EJ h
  ·exact mm l h
theorem mm:∀ (l:List Tx) {z:Int},z∈aE l->1<=z/\z<=5
 | [],z,h=>by simp [aE] at h
 | x :: l,z,h=>by
  simp only [aE,List.mem_append] at h
  rcases h with h | h
  ·exact wO x h
  ·exact mm l h
end
theorem DT {k:Nat} {z:Int} (h:z∈xN k):1<=z/\z<=5:=by
 unfold xN at h
 split at h
 ·simp at h; omega
 ·split at h <;> simp at h; omega
theorem BY {S:List Int} {i:Nat} (h:i<6):aB (bW S) i none=some (.bool (decide ((i:Int)∈S))):=by
 have:i=0\/i=1\/i=2\/i=3\/i=4\/i=5:=by omega
 rcases this with rfl | rfl | rfl | rfl | rfl | rfl <;> rfl
section
variable {tab:Nat->Option aN} {H:Heap}
set_option maxHeartbeats 4000000 in
theorem rx (C:Code tab) (hw:Wf H) {g:Gx} {n:Int} (hg:mT g) (hwt:xV g<=1048576) :
  Ans tab (.fn cN [.agg (dW g),.int .i64 n]) H fun v H'=>(∃ o,v=.tup [o,.int .i64 (gc g n)]/\KsR g n H' o)/\Kp H H':=by
 have hrs:c_facetroomref31_Kinds.results=[(4,none),(5,none)]:=rfl
 refine oY C.q3 rfl rfl zU fun T hl ga=>?_
 have hl:T.length=52:=hl
 have g0:aa T 0=.agg (dW g):=ga 0 (by simp)
 have g1:aa T 1=.int .i64 n:=ga 1 (by simp)
 clear ga
 have bg:=ki g
 have sl:=fun H=>gp bc H g
 have ll:=iC g
 obtain ⟨s,hs⟩:∃ s,s=lg g:=⟨_,rfl⟩
 rw [<- hs] at bg sl ll
 have tg:aB [.int .i64 g.vars,jN g,.int .i64 g.nodes,.int .i64 g.start,.int .i64 g.last,s] 0 (some 6)=some (.agg (dW g)):=by rw [hs]; rfl
 refine aG ?_
 refine zW (dz hl g0 bg @az) ?_
 refine bP (fun T' Y=>T'.length=52/\aa T' 1=.int .i64 n/\aa T' 2=.ptr H.next 0/\aa T' 4=.nilSl/\Y.get H.next=some (.cells [.int .i64 g.vars,jN g,.int .i64 g.nodes,.int .i64 g.start,.int .i64 g.last,s] ah true)/\Kp H Y) ⟨by exact zV hl,by exact zV (bb hl g1),by exact zV hl,by exact zV hl,by exact oH,zK⟩ ?_
 clear hl g0 g1 bg hs
 rintro T Y ⟨hl,t1,t2,t4,dG,kY⟩
 have wY:=kY.wf
 refine aG ?_
 refine zW (dz hl t2 dG tg) ?_
 refine AnsH.eq (wn C zF hg (xU hwt)) fun H2 hk2=>?_
 obtain ⟨k2,_,_⟩:=zT Y zK hk2
 have w2:=hk2.wf
 have le_hk2:=hk2.le
 have d2:=k2.get dG
 have kH2:=kY.trans k2
 by_cases cm:i4 g=true
 case neg =>
  have ec:gc g n=8:=by unfold gc; rw [if_neg cm]
  have cm':i4 g=false:=by simpa using cm
  rw [cm',ec]
  refine zW (dz hl t4 @ed hrs) ?_
  exact ⟨⟨_,rfl,KsR.none _ (fun h=>cm h.1)⟩,zK⟩
 rw [cm]
 refine zW (bb hl @az) ?_
 have hE5:=uR cm
 refine bP (fun T' Z=>T'.length=52/\aa T' 1=.int .i64 n/\aa T' 2=.ptr H.next 0/\aa T' 4=.nilSl/\Z.get H.next=some (.cells [.int .i64 g.vars,jN g,.int .i64 g.nodes,.int .i64 g.start,.int .i64 g.last,s] ah true)/\Kp H Z) ⟨by exact zV hl,by exact zV (bb hl t1),by exact zV (bb hl t2),by exact zV (bb hl t4),d2,zK⟩ ?_
 clear hl t1 t2 t4 dG kY wY k2 w2 d2 kH2 hk2
 rintro T Y ⟨hl,t1,t2,t4,dG,kY⟩
 have wY:=kY.wf
 refine aG ?_
 by_cases c0:n<0
 ·have ec:gc g n=2:=by unfold gc; rw [if_pos cm,if_pos (.inl c0)]
  rw [ec]
  refine zW (eU hl t1 c0 @ed hrs) ?_
  exact ⟨⟨_,rfl,KsR.none _ (fun h=>by omega)⟩,zK⟩
 by_cases c1:(g.edges.length:Int)<=n
 ·have ec:gc g n=2:=by unfold gc; rw [if_pos cm,if_pos (.inr c1)]
  rw [ec]
  refine zW (fg hl t1 t2 dG @gV ll c0 @c1 @ed hrs) ?_
  exact ⟨⟨_,rfl,KsR.none _ (fun h=>by omega)⟩,zK⟩
 refine zW (pd hl t1 t2 dG @gV ll c0 @c1 @az) ?_
 obtain ⟨i,rfl⟩:∃ i:Nat,n=(i:Int):=⟨n.toNat,by omega⟩
 have hi:i<g.edges.length:=by omega
 have ec:gc g (i:Int)=0:=by unfold gc; rw [if_pos cm,if_neg zO]
 have eS:=uD hi cm
 obtain ⟨E,hE⟩:∃ E,E=g.edges[i]:=⟨_,rfl⟩
 have hEm:E∈g.edges:=by rw [hE]; exact List.getElem_mem _
 obtain ⟨ix,fx,-⟩:=eT (sl default) hi
 have xD:=fun H=>(eT (sl H) hi).2.2.2.2.2.2.2.2.2
 rw [<- hE] at xD eS
 have stD:=ko (ty:=bR) (cs:=Fa) (n:=4) (ds:=fV E.act) rfl rfl (lO _)
 obtain ⟨D0,D2,D3⟩:=Eu E.act
 have hwE:=pQ hwt hEm
 rw [ec]
 refine bP (fun T' Z=>T'.length=52/\aa T' 1=.int .i64 (i:Int)/\aa T' 2=.ptr H.next 0/\aa T' 4=.nilSl/\Z.get H.next=some (.cells [.int .i64 g.vars,jN g,.int .i64 g.nodes,.int .i64 g.start,.int .i64 g.last,s] ah true)/\Kp H Z) ⟨by exact zV hl,by exact zV (bb hl t1),by exact zV (bb hl t2),by exact zV (bb hl t4),dG,zK⟩ ?_
 clear hl t1 t2 t4 dG kY wY
 rintro T Y ⟨hl,t1,t2,t4,dG,kY⟩
 have wY:=kY.wf
 have leY:=kY.le
 refine aG ?_
 refine zW (fg hl t1 t2 dG @gV ix fx xD stD @az) ?_
 refine bP (fun T' Z=>T'.length=52/\aa T' 4=.nilSl/\aa T' 6=.ptr (Y.next+6) 0/\Z.get (Y.next+6)=some (.cells (fV E.act) bR true)/\Kp H Z) ⟨by exact zV hl,by exact zV (bb hl t4),by exact zV hl,by exact oH,zK⟩ ?_
 clear hl t1 t2 t4 dG wY
 rintro T Z ⟨hl,t4,t6,dD,kZ⟩
 have wZ:=kZ.wf
 have leZ:=kZ.le
 refine aG ?_
 refine zW (bb hl @az) ?_
 refine bP (fun T' X=>T'.length=52/\aa T' 4=.nilSl/\aa T' 6=.ptr (Y.next+6) 0/\aa T' 7=.ptr Z.next 0/\X.get (Y.next+6)=some (.cells (fV E.act) bR true)/\X.get Z.next=some (.cells (bW []) aH true)/\Kp Z X) ⟨by exact zV hl,by exact zV (bb hl t4),by exact zV (bb hl t6),by exact zV hl,by have:=wZ _ _ dD; exact zV dD,by rw [sd]; exact oH,zK⟩ ?_
 clear hl t4 t6 dD
 rintro T2 Z2 ⟨hl2,t4,t6,t7,dD,dS,k2⟩
 have w2:=k2.wf
 have le2:=k2.le
 have lt2:=w2 _ _ dS
 have hne:Y.next+6≠Z.next:=fun e=>by
  rw [e,dS] at dD
  injection dD with dD
  injection dD with _ dD _
  exact absurd dD zU
 refine aG ?_
 have taS:=Dh []
 have stS:=Dk (S:=[]) (S':=aE E.act.args) (ty:=aH)
 refine zW (lf hl2 t6 t7 dD dS taS D3) ?_
 refine AnsH.eq (tq C _ _ (Nat.le_refl _) hwE [] _ zF) fun H3 hk3=>?_
 obtain ⟨k23,_,_⟩:=zT Z2 zK hk3
 have k3:=k2.trans k23
 have w3:=hk3.wf
 have le_hk3:=hk3.le
 have dD3:=k23.get dD
 have dS3:=k23.get dS
 have lt3:=w3 _ _ dS3
 refine zW (eU hl2 t7 dS3 stS @az) ?_
 obtain ⟨A,hA⟩:∃ A,A=aE E.act.args:=⟨_,rfl⟩
 rw [<- hA] at eS
 refine bP (fun T' X=>T'.length=52/\aa T' 4=.nilSl/\aa T' 6=.ptr (Y.next+6) 0/\aa T' 7=.ptr Z.next 0/\X.get (Y.next+6)=some (.cells (fV E.act) bR true)/\X.get Z.next=some (.cells (bW A) aH true)/\Kp Z X) ⟨by exact zV hl2,by exact zV (bb hl2 t4),by exact zV (bb hl2 t6),by exact zV (bb hl2 t7),(bo hne).trans dD3,by rw [hA]; exact aq _ _ _,zK⟩ ?_
 clear hl2 t4 t6 t7 dD dS k2 w2 le2 lt2 taS stS k23 k3 w3 dD3 dS3 lt3
 rintro T2 Z2 ⟨hl2,t4,t6,t7,dD,dS,k2⟩
 have w2:=k2.wf
 have lt2:=w2 _ _ dS
 have ia1:gK 6 1 (.ptr Z.next 0) (.int .u8 1)=some (.ptr Z.next 1):=DN (i:=1) zO
 have ia5:gK 6 1 (.ptr Z.next 0) (.int .u8 5)=some (.ptr Z.next 5):=DN (i:=5) zO
 refine cu (fun T' X=>X.get (Y.next+6)=some (.cells (fV E.act) bR true)/\X.get Z.next=some (.cells (bW (A++if E.act.kind=7 then [1] else [])) aH true)/\Kp Z X) rfl ?_ ?_
 ·have Ez:=p6 (S:=A) (i:=1) (ty:=aH) zO
  by_cases q7:E.act.kind=7
  ·have q7':(E.act.kind:Int)=7:=by omega
   rw [if_pos q7]
   simp -dsimp (maxSteps:=1000000) (disch:=(first | omega | assumption | exact ay _ | exact aA _ _ | exact aM | exact bh _ _ _ | exact aO _ _ | exact aP _ _ _ _ _ _ | exact bd _ _ | exact aR _)) only [↓iJ,iI,Nat.reduceLT,Nat.reduceEqDiff,Nat.reduceAdd,↓reduceIte,reduceCtorEq,Nat.reduceBEq,Int.reduceEq,Int.reduceLT,Int.reduceLE,Int.reduceAdd,Int.reduceSub,hl2,t6,t7,dD,dS,D0,q7',↓dF,cJ,ia1,Ez,ad]
   exact ⟨rfl,zK⟩
  ·have q7':¬ (E.act.kind:Int)=7:=by omega
   rw [if_neg q7,List.append_nil]
   refine zW (gD hl2 t6 dD D0 q7' @ad) ?_
   exact ⟨dS,zK⟩
 clear dD dS lt2
 rintro T3 Z3 hs3 ⟨dD,dS,k3⟩
 have hl3:T3.length=52:=hs3.len.trans hl2
 have t4':aa T3 4=.nilSl:=(hs3.at_ 4 zU).trans t4
 have t6':aa T3 6=.ptr (Y.next+6) 0:=(hs3.at_ 6 zU).trans t6
 have t7':aa T3 7=.ptr Z.next 0:=(hs3.at_ 7 zU).trans t7
 have w3:=k3.wf
 have lt3:=w3 _ _ dS
 clear hs3 hl2 t4 t6 t7 k2 w2
 refine cu (fun T' X=>X.get Z.next=some (.cells (bW ((A++if E.act.kind=7 then [1] else [])++if E.act.kind=4 then [5] else [])) aH true)/\Kp Z X) rfl ?_ ?_
 ·have st5:=p6 (S:=A++if E.act.kind=7 then [1] else []) (i:=5) (ty:=aH) zO
  by_cases q4:E.act.kind=4
  ·have q4':(E.act.kind:Int)=4:=by omega
   rw [if_pos q4]
   simp -dsimp (maxSteps:=1000000) (disch:=(first | omega | assumption | exact ay _ | exact aA _ _ | exact aM | exact bh _ _ _ | exact aO _ _ | exact aP _ _ _ _ _ _ | exact bd _ _ | exact aR _)) only [↓iJ,iI,Nat.reduceLT,Nat.reduceEqDiff,Nat.reduceAdd,↓reduceIte,reduceCtorEq,Nat.reduceBEq,Int.reduceEq,Int.reduceLT,Int.reduceLE,Int.reduceAdd,Int.reduceSub,hl3,t6',t7',dD,dS,D0,q4',↓dF,cJ,ia5,st5,ad]
   exact ⟨rfl,zK⟩
  ·have q4':¬ (E.act.kind:Int)=4:=by omega
   rw [if_neg q4,List.append_nil]
   refine zW (gD hl3 t6' dD D0 q4' @ad) ?_
   exact ⟨dS,zK⟩
 obtain ⟨S,hS⟩:∃ S,S=(A++if E.act.kind=7 then [1] else [])++if E.act.kind=4 then [5] else []:=⟨_,rfl⟩
 rw [<- hS]
 clear dD dS lt3
 rintro T2 Z2 hs2 ⟨dS,k2⟩
 have hl2:T2.length=52:=hs2.len.trans hl3
 have t7:aa T2 7=.ptr Z.next 0:=(hs2.at_ 7 zU).trans t7'
 have w2:=k2.wf
 clear hs2 hl3 t4' t6' t7' k3 w3
 have hmem:∀ z,z∈jy S 5 ↔ z∈yL g (i:Int):=fun z=>by
  rw [nY,eS,hS,hA]
  have e:z∈xN E.act.kind ↔ z∈(if E.act.kind=7 then [(1:Int)] else [])++(if E.act.kind=4 then [(5:Int)] else []):=by
   unfold xN
   by_cases q7:E.act.kind=7
   ·rw [if_pos q7,if_pos q7,if_neg zO,List.append_nil]
   ·rw [if_neg q7,if_neg q7,List.nil_append]
  constructor
  ·rintro ⟨h1,h2⟩
   rw [List.append_assoc,List.mem_append] at h2
   rw [List.mem_append]
   rcases h2 with h2 | h2
   ·exact .inl h2
   ·exact .inr (e.2 h2)
  ·intro h2
   rw [List.append_assoc,List.mem_append]
   rw [List.mem_append] at h2
   rcases h2 with h2 | h2
   ·exact ⟨mm _ h2,.inl h2⟩
   ·exact ⟨DT h2,.inr (e.1 h2)⟩
 refine aG ?_
 refine zW (bb hl2 @az) ?_
 refine aG ?_
 refine zW hl2 ?_
 refine aQ (L:=52) Z [8,9] (fun r vs H'=>∃ (j:Nat) (o:AV),vs=[o,.int .u8 (j:Int)]/\1<=j/\j+r=6/\Bl u8E ap Z H' o (jy S (j-1))/\H'.get Z.next=some (.cells (bW S) aH true)) 5 (zV hl2) rfl zK ⟨1,.nilSl,by refine zW hl2 ?_; rfl,Nat.le_refl _,rfl,Bl.nil,dS⟩ ?_
 rintro r T4 H4 hl4 hs4 k4 ⟨j,o,hv,j1,hjr,hb4,dS4⟩
 have w4:=k4.wf
 have le4:=k4.le
 simp only [List.map_cons,List.map_nil,List.cons.injEq,and_true] at hv
 obtain ⟨hv8,hv9⟩:=hv
 have u7:aa T4 7=.ptr Z.next 0:=(hs4.at_ 7 zU).trans (zV (bb hl2 t7))
 have hll:=rR S (j-1)
 by_cases cj:(j:Int)<=5
 case neg =>
  have e:j-1=5:=by omega
  rw [e] at hb4
  have kH4:=kZ.trans k4
  refine zW (eU hl4 hv8 hv9 cj @az) ?_
  refine WC.wb ?_
  refine zW (fe hl4 hv8 hrs) ?_
  exact ⟨⟨o,rfl,jy S 5,(hb4.mono (Sub.bump H4 _)).ks,rQ S 5,hmem⟩,zK⟩
 have iaj:gK 6 1 (.ptr Z.next 0) (.int .u8 (j:Int))=some (.ptr Z.next j):=DN zO
 have taj:=BY (S:=S) (i:=j) zO
 have ew:IntKind.u8.wrap ((j:Int)+1)=((j+1:Nat):Int):=by show ((j:Int)+1) % 256=_; omega
 have eb:cw .add .int (.int .u8 (j:Int)) (.int .u8 1)=some (.int .u8 ((j+1:Nat):Int)):=by
  show some (AV.int .u8 (IntKind.u8.wrap ((j:Int)+1)))=_
  rw [ew]
 have ej:j+1-1=j-1+1:=by omega
 have ej2:j-1+1=j:=by omega
 by_cases hm:(j:Int)∈S
 ·rw [decide_eq_true hm] at taj
  have eL:jy S (j+1-1)=jy S (j-1)++[(j:Int)]:=by rw [ej,jy,ej2,if_pos hm]
  obtain ⟨n6,H6,e6,h6,k6,n7,f6,-⟩:=Bl.push1 (ty2:=ap) (bytes:=1) (id:=H4.next+8) (id2:=H4.next+7) (k:=10) (cs:=[.int .u8 (j:Int)]) (a:=(j:Int)) hb4 (fun h=>by cases h) k4 ⟨_,rfl,rfl⟩ zO zO zO zO zO zO zO
  have e6':iV ((H4.up 10).put (H4.next+7) (.cells [.int .u8 (j:Int)] ap true)) (H4.next+8) 1 1 ap o (.own (H4.next+7) 0 1 1 1 true)=some (.own (H4.next+8) 0 n6 n6 1 false,H6):=e6
  have f1:=uY (j:Int)
  have dS6:H6.get Z.next=some (.cells (bW S) aH true):=f6.other hb4 dS4 (fun cs h=>by injection h with _ h2; exact absurd h2 zU)
  simp -dsimp (maxSteps:=1000000) (disch:=(first | omega | assumption | exact ay _ | exact aA _ _ | exact aM | exact bh _ _ _ | exact aO _ _ | exact aP _ _ _ _ _ _ | exact bd _ _ | exact aR _)) only [↓iJ,iI,Nat.reduceLT,Nat.reduceEqDiff,Nat.reduceAdd,↓reduceIte,reduceCtorEq,Nat.reduceBEq,Int.reduceEq,Int.reduceLT,Int.reduceLE,Int.reduceAdd,Int.reduceSub,hl4,hv8,hv9,cj,u7,dS4,↓dF,cJ,iaj,taj,f1,e6',eb]
  exact ⟨zK,r-1,by omega,j+1,_,rfl,by omega,by omega,by rw [eL]; exact h6.mono (Sub.bump H6 _),dS6⟩
 ·rw [decide_eq_false hm] at taj
  have eL:jy S (j+1-1)=jy S (j-1):=by rw [ej,jy,ej2,if_neg hm,List.append_nil]
  simp -dsimp (maxSteps:=1000000) (disch:=(first | omega | assumption | exact ay _ | exact aA _ _ | exact aM | exact bh _ _ _ | exact aO _ _ | exact aP _ _ _ _ _ _ | exact bd _ _ | exact aR _)) only [↓iJ,iI,Nat.reduceLT,Nat.reduceEqDiff,Nat.reduceAdd,↓reduceIte,reduceCtorEq,Nat.reduceBEq,Int.reduceEq,Int.reduceLT,Int.reduceLE,Int.reduceAdd,Int.reduceSub,hl4,hv8,hv9,cj,u7,dS4,↓dF,cJ,iaj,taj,eb]
  exact ⟨zK,r-1,by omega,j+1,o,rfl,by omega,by omega,by rw [eL]; exact hb4.mono (Sub.bump H4 _)⟩
end
theorem sE:∀ (d:List Int) (s:ByteArray),∃ S,jL (ne d) s=some S
 | [],s=>⟨s,rfl⟩
 | z :: d,s=>sE d (s.push (UInt8.ofNat z.toNat))
theorem Di (S:ByteArray):cw .eql .str (.str S) (.str S)=some (.bool true):=by
 show some (AV.bool (S.toList == S.toList))=_
 rw [beq_self_eq_true]
theorem vI {tab:Nat->Option aN} {ev:Src->AV} {H:Heap} {id:Nat} {Q:AV->Heap->Prop} (x:Src):gU tab ev H id (.toStr x) Q=eG (gZ H (ev x)) (fun s=>Q (.str s) H) ():=by
 rw [bF,eV tab ev H id Q (o:=.toStr x) (fun f a e=>by cases e) rfl]
 show eX ((gZ H (ev x)).map fun s=>(AV.str s,H)) _=_
 cases gZ H (ev x) <;> rfl
section
variable {tab:Nat->Option aN} {H:Heap}
set_option maxHeartbeats 4000000 in
theorem law31_ReportKinds (C:Code tab) (hw:Wf H) {g:Gx} {n:Int} (hg:mT g) (hwt:xV g<=1048576) :
  Ans tab (.fn cI [.agg (dW g),.int .i64 n]) H fun v H'=>v=.bool true/\Kp H H':=by
 refine i9 C.q0 zU fun T hl g0 g1=>?_
 have bg:=ki g
 obtain ⟨s,hs⟩:∃ s,s=lg g:=⟨_,rfl⟩
 rw [<- hs] at bg
 have tg:aB [.int .i64 g.vars,jN g,.int .i64 g.nodes,.int .i64 g.start,.int .i64 g.last,s] 0 (some 6)=some (.agg (dW g)):=by rw [hs]; rfl
 clear hs
 refine zW (dz hl g0 bg tg) ?_
 refine AnsH.use (rB C zF hwt) ?_
 rintro _ H2 ⟨⟨b,rfl⟩,hk2⟩
 obtain ⟨k2,_,_⟩:=zT H zK hk2
 have w2:=hk2.wf
 have le_hk2:=hk2.le
 have d2:H2.get H.next=some (.cells [.int .i64 g.vars,jN g,.int .i64 g.nodes,.int .i64 g.start,.int .i64 g.last,s] ah true):=hk2.get (oH)
 cases b with
 | true =>
  refine zW (fe hl g0 g1) ?_
  exact zK
 | false =>
  refine zW (gD hl g0 g1 g1 d2 tg) ?_
  refine AnsH.use (qh C zF hg hwt) ?_
  rintro _ H3 ⟨⟨o1,rfl,r1⟩,hk3⟩
  obtain ⟨k23,_,_⟩:=zT H2 zK hk3
  have k3:=k2.trans k23
  have w3:=hk3.wf
  have le_hk3:=hk3.le
  have d3:=k23.get d2
  refine zW (gD hl g0 g1 g1 d3 tg) ?_
  refine AnsH.use (rx C zF hg hwt) ?_
  rintro _ H4 ⟨⟨o2,rfl,r2⟩,hk4⟩
  obtain ⟨k34,_,_⟩:=zT H3 zK hk4
  have k4:=k3.trans k34
  have w4:=hk4.wf
  have le_hk4:=hk4.le
  obtain ⟨d1,v1,s1,m1⟩:=r1.mono k34.sub
  obtain ⟨d2',v2,s2,m2⟩:=r2
  have e:d1=d2':=uE s1 s2 fun z=>(m1 z).trans (m2 z).symm
  subst e
  obtain ⟨S,hS⟩:=sE d1 .empty
  have t1:∀ k,gZ (H4.up k) o1=some S:=fun k=>(v1.mono (Sub.bump H4 k)).str.trans hS
  have t2:∀ k,gZ (H4.up k) o2=some S:=fun k=>(v2.mono (Sub.bump H4 k)).str.trans hS
  have eS:=Di S
  simp -dsimp (maxSteps:=1000000) (disch:=(first | omega | assumption | exact ay _ | exact aA _ _ | exact aM | exact bh _ _ _ | exact aO _ _ | exact aP _ _ _ _ _ _ | exact bd _ _ | exact aR _)) only [↓iJ,iI,Nat.reduceLT,Nat.reduceEqDiff,Nat.reduceAdd,↓reduceIte,reduceCtorEq,Nat.reduceBEq,Int.reduceEq,Int.reduceLT,Int.reduceLE,Int.reduceAdd,Int.reduceSub,hl,g0,g1,↓vI,t1,t2,eS]
  exact zK
end
open Go
theorem za {P:Program}:ut P dP:=trivial
theorem Bs {P:Program} {w:World} (hG:GlobW w):HR P (fun _=>none) (fun c=>c<w.heap.size) (Heap.nil 0) w:=by
 have h:=yI (P:=P) hG
 refine ⟨h.dom,fun c hc=>hc,fun b e hb=>?_,h.inj,fun g cs hg=>(h.gl g cs hg).mono (fun _ _ h=>h) (fun c hc=>h.fb c hc) fun _ _=>rfl⟩
 rw [Tr.nil_get] at hb; cases hb
theorem open_calls {P:Program} (hmix:P.follows .mixedOrders=true) {tab:Nat->Option aN} (ht:vz P tab) {f:Nat} {afn:aN} (haf:tab f=some afn) (hext:afn.ext=none) {args:List AV} {vs:List Value} {w:World} (hG:GlobW w)
  (hl:LR (fun _=>none) (fun c=>c<w.heap.size) w args vs) (h:Ans tab (.fn f args) (Heap.nil 0) fun v _=>v=.bool true) :
  Calls P f vs.toArray w fun e w'=>e=.returned (.bool true)/\w'.os=w.os/\w'.output=w.output/\w.heap.size<=w'.heap.size/\∀ c,c<w.heap.size->w'.heap[c]? = w.heap[c]?:=by
 obtain ⟨v,H',⟨N,hN⟩,rfl⟩:=h
 have h1:=hN (N+1) (N+1) (by omega) (by omega)
 simp only [gy,kp,haf,hext] at h1
 obtain ⟨-,ht2⟩:=ht f afn haf
 obtain ⟨fn,hfn,hc⟩:=ht2 fun e h=>by rw [hext] at h; cases h
 obtain ⟨c1,c2,c3,c4,-⟩:=qR hc hext
 have hH:=Bs (P:=P) hG
 have hin:=ju (nJ za hmix ht N) hmix hfn c1 c2 c3 c4 h1 hl hH 0 (fence:=Fence.wide) (rd:=false) (.inl ⟨rfl,rfl⟩)
 refine (hin.calls fun k=>room_wide k).mono fun e w' ⟨u,he,μ',hv,_,hS⟩=>?_
 cases hv
 refine ⟨he,hS.os,hS.out,hS.size,fun c hc=>hS.keep c hc fun b L ⟨e,h,_⟩=>?_⟩
 rw [Tr.nil_get] at h; cases h
theorem zp {w w':World} (h1:w'.os=w.os) (h2:w'.output=w.output) (h:∀ c,c<w.heap.size->w'.heap[c]? = w.heap[c]?) (may:MemPlace->Prop):w.keptBut w' may:=by
 refine ⟨h1,h2,fun i hi=>?_⟩
 rw [h i hi]
 split
 ·rename_i e1 e2
  cases e1.symm.trans e2
  exact ⟨rfl,rfl,rfl,fun _ _=>rfl⟩
 ·rename_i e1 e2
  cases e1.symm.trans e2
  exact .inr ⟨rfl,rfl⟩
 ·rfl
section
open Go.ChangeShapes Go.WideShapes Go.ChangeAt Go.RowKit
variable {HT:Type} {enc:TypeId × Value->HT} {P:Program}
theorem stays {t:TypeId} (hl:laidOutB P=true) (hr:P.readableRec t=true) (hrow:t<P.types.size) {W W':World} {sp:Nat->Bool} {v:Value} {d:DataW HT} {ps:List MemPlace}
  (h:DataW.Trod enc P W 0 (fun _=>true) true t v d ps) (hk:∀ c,c<W.heap.size->W'.heap[c]? = W.heap[c]?) (hlt:∀ x∈ps,x.block<W.heap.size) (hs:∀ p∈ps,sp p.block=true):DataW.Trod enc P W' 0 sp true t v d ps :=
 WideElems.Trod_stays hl hr hrow h (fun p hp=>by
  have hb:=hk p.block (hlt p hp)
  cases p with
  | cell b o=>exact World.cell?_of_block (w:=W) hb
  | map b=>exact hb) hs
theorem post_kept {f:Func} {s:ChangeSpec} {apart fresh handsOn again:Bool} {W W':World} {args:Array Value} {v:Value} {ds gs:List (DataW HT)} {before:List MemPlace}
  (hW:DataW.Whole enc P f.params.toList s.vars apart W args.toList ds gs before)
  (hres:∀ (b:Nat) (sp:Nat->Bool) (hd:Bool),DataW.TrodAll enc P W' b sp hd f.resultTypes.toList (v.resultList f.resultTypes.size) (s.fn HT (ds++gs)).results [])
  (hargs:∀ sp:Nat->Bool,(∀ p∈before,sp p.block=true)->DataW.TrodAll enc P W' 0 sp true f.params.toList args.toList (s.fn HT (ds++gs)).args before)
  (hvars:∀ sp:Nat->Bool,DataW.TrodVars enc P W' sp s.vars (s.fn HT (ds++gs)).vars [])
  (h1:W'.os=W.os) (h2:W'.output=W.output) (hk:∀ c,c<W.heap.size->W'.heap[c]? = W.heap[c]?)
  (hok:∀ (j:Nat) (t:TypeId) (r:Value),f.resultTypes[j]? = some t->(v.resultList f.resultTypes.size)[j]? = some r->Value.okWide P W' .any 0 t r) :
  s.post enc P f apart fresh handsOn again W args v W':=by
 have hold:∀ p∈before,(fun b=>decide (b<W.heap.size)) p.block=true:=fun p hp=>by simpa using hW.lt p hp
 have hlt:∀ p∈before,p.block<W.heap.size:=fun p hp=>hW.lt p hp
 refine ⟨ds,gs,before,[],before,[],hW,hres _ _ _,hargs _ hold,hvars _,zp h1 h2 hk _,fun _=>?_⟩
 obtain ⟨_,_,_,_,e,hz,hn⟩:=hW
 refine ⟨hok,_,_,([]++before)++[],⟨[]++before,[],trodAll_append (hargs _ (fun _ _=>rfl)) (hres _ _ _),hvars _,rfl,?_,?_⟩,?_⟩
 ·intro b off hp
  have hp':MemPlace.cell b off∈before:=by simpa using hp
  have hb:=hlt _ hp'
  rw [World.frozen?_of_block (w:=W) (hk b hb)]
  exact hz b off hp'
 ·intro ha
  have:=hn ha
  simpa using this
 ·intro p hp _
  simpa using hp
end
open Go
set_option maxRecDepth 1000000
set_option maxHeartbeats 8000000
def look:List (Nat × aN)->Nat->Option aN
 | [],_=>none
 | p :: r,f=>if f=p.1 then some p.2 else look r f
theorem rT:∀ {L:List (Nat × aN)} {f:Nat} {a:aN},look L f=some a->(f,a)∈L
 | p :: r,f,a,h=>by
  unfold look at h
  split at h
  ·rename_i e; cases h; subst e; exact List.mem_cons_self ..
  ·exact List.mem_cons_of_mem _ (rT h)
theorem bQ {f:Nat} {fn:Func} {a:aN} (hf:Try.prog.funcs[f]? = some fn) (hc:Ej Try.prog fn=some a:=by kernel_rfl) (he:a.ext.isNone=true:=by rfl):vA Try.prog f a:=yG hf hc he
abbrev Rw (l:List (Nat × aN)):Prop:=∀ p∈l,vA Try.prog p.1 p.2
theorem Fb:Rw []:=fun p hp=>by cases hp
theorem f9 {f:Nat} {a:aN} {l:List (Nat × aN)} (h:vA Try.prog f a) (hl:Rw l):Rw ((f,a) :: l):=List.forall_mem_cons.2 ⟨h,hl⟩
def FB:List (Nat × aN):=[(cI,c_facetroomlaw31_ReportKinds),(cQ,fY),(fP,c_report_Kinds),(cN,c_facetroomref31_Kinds),(cr,gf),(fT,c_flow_Check),(eO,c_report_kinds),(bu,el),(bi,dy),(de,c_facetroomref13_May),(cp,gd),(cA,lR),(bB,dj),(fm,jl),(fl,jk),(aV,b7),(iv,mQ),(gO,lQ),(cH,ji),(aS,dQ)]
def FA:List (Nat × aN):=[(bn,fK),(cP,c_facetroomref13_mayDo),(cC,gB),(cF,c_facetroomref13_mayOut),(cO,fW),(bO,dR),(iz,c_flow_deed),(ba,cz),(fk,jj),(ai,bj),(fS,lS),(fQ,iE),(dc,iD),(aW,cR),(bJ,dL),(bp,cS),(bw,db),(bq,da),(aU,bZ),(aD,iS)]
def Fz:List (Nat × aN):=[(bk,cK),(bH,dw),(bz,c_facetroomref13_MayExpr),(cn,fc),(bY,c_facetroomref13_alike),(iw,mR),(fR,jK),(aI,b6),(bm,dK),(cE,fJ),(cB,fj),(aJ,cL),(bt,eh),(dg,iG),(bT,c_flow_expr_f1),(a8,cy),(bf,eg),(eC,iF)]
theorem FQ:Rw FB:=f9 (bQ Try.func3)<|f9 (bQ Try.func4)<|f9 (bQ Try.func5)<|f9 (bQ Try.func6)<|f9 (bQ Try.func7)<|f9 (bQ Try.func8)<|f9 (bQ Try.func9)<|f9 (bQ Try.func10)<|f9 (bQ Try.func11)<|f9 (bQ Try.func12)<|f9 (bQ Try.func13)<|f9 (bQ Try.func14)<|f9 (bQ Try.func15)<|f9 (bQ Try.func16)<|f9 (bQ Try.func18)<|f9 (bQ Try.func17)<|f9 (bQ Try.func20)<|f9 (bQ Try.func21)<|f9 (bQ Try.func23)<|f9 (bQ Try.func22)<|Fb
theorem FP:Rw FA:=f9 (bQ Try.func24)<|f9 (bQ Try.func25)<|f9 (bQ Try.func27)<|f9 (bQ Try.func26)<|f9 (bQ Try.func28)<|f9 (bQ Try.func29)<|f9 (bQ Try.func19)<|f9 (bQ Try.func30)<|f9 (bQ Try.func34)<|f9 (bQ Try.func35)<|f9 (bQ Try.func36)<|f9 (bQ Try.func46)<|f9 (bQ Try.func47)<|f9 (bQ Try.func37)<|f9 (bQ Try.func38)<|f9 (bQ Try.func39)<|f9 (bQ Try.func40)<|f9 (bQ Try.func41)<|f9 (bQ Try.func42)<|f9 (bQ Try.func43)<|Fb
theorem FO:Rw Fz:=f9 (bQ Try.func44)<|f9 (bQ Try.func45)<|f9 (bQ Try.func48)<|f9 (bQ Try.func49)<|f9 (bQ Try.func50)<|f9 (bQ Try.func31)<|f9 (bQ Try.func33)<|f9 (bQ Try.func32)<|f9 (bQ Try.func54)<|f9 (bQ Try.func55)<|f9 (bQ Try.func56)<|f9 (bQ Try.func57)<|f9 (bQ Try.func58)<|f9 (bQ Try.func59)<|f9 (bQ Try.func51)<|f9 (bQ Try.func53)<|f9 (bQ Try.func60)<|f9 (bQ Try.func52)<|Fb
def Dg:List (Nat × aN):=FB++FA++Fz
theorem FC {l m:List (Nat × aN)} (h:Rw l) (h2:Rw m):Rw (l++m):=fun p hp=>(List.mem_append.1 hp).elim (h p) (h2 p)
theorem AY:Rw Dg:=(FC (FC FQ FP) FO)
theorem tabOK:vz Try.prog (look Dg):=fun _ _ h=>AY _ (rT h)
theorem code:Code (look Dg):=by constructor <;> kernel_rfl
end Go.Proofs.Ytekmejlgocineaa.Ev
