/- A part. -/
import Derived.Test.YtboamamhcfhanaaGreatN45
import Derived.Test.YtboamamhcfhanaaGreatEvDraw5
import Derived.KernelRfl
import Derived.WalkKit
import Derived.ProofKit
import Derived.Test.YtboamamhcfhanaaGreatProg
import Derived.Lib.Walk
import Derived.Lib.SliceRun
import Derived.Lib.JoinLaws
import Derived.Lib.AppendZeros
import Derived.Lib.AppendZerosOnto
import Derived.Lib.Overlaps
import Derived.Laws.Externs
import Derived.Laws.IdiomCopy
import Derived.Laws.NewBlocks
import Derived.Shelf.RegionOpenPlain
import Derived.Shelf.SlSortCmp.NoneTotal
import Derived.Ground.SlsfProg
namespace Go.Proofs.YtboamamhcfhanaaGreat.Ev
open Go Nn
set_option linter.all false
section
variable {tab:Nat->Option aq} {H:Heap} {s:AV}
theorem rK (C:Code tab) (hw:Wf H) {a b:AV} {l m:List Nat} (ha:Lb H a l) (hb:Lb H b m) (hl':l.length<4611686018427387904) :
  Ans tab (.fn cG [a,b]) H fun v H'=>v=.bool (decide (l=m))/\Kp H H':=by
 refine ca C.slices_Equal_api_Nat_uint64 (by decide) fun T hl g0 g1=>?_
 by_cases he:l.length=m.length
 ·have lb:lenV b=some (.int .i64 (l.length:Int)):=by rw [hb.lenV,he]
  refine zW (cJ hl g0 g1 ha.lenV lb) ?_
  refine ak H [] (fun j _ _=>∀ q (h:q<l.length) (h':q<m.length),q<j->l[q]=m[q]) (a:=0) (N:=l.length) rfl (by refine zW (aC hl g0 g1) ?_; rfl) (zV (aC hl g0 g1)) (Nat.zero_le _) (by omega) (by simp only [List.length_set,hl]; rfl) rfl (fun _ _ _ _ h=>h) zK (fun q _ _ h=>by omega) ?_ ?_
  ·intro i T1 H1 _ hi hl1 hi1 hs1 hk1 hP
   have w1:=hk1.wf
   have le_hk1:=hk1.le
   have t0:ae T1 0=a:=(hs1.at_ 0 (by decide)).trans (zV (az hl g0))
   have t1:ae T1 1=b:=(hs1.at_ 1 (by decide)).trans (zV (bg hl g0 g1 g1))
   have hi':i<m.length:=by omega
   obtain ⟨w,hr,hld⟩:=SlV.at1 (ha.mono hk1.sub) (List.getElem?_eq_getElem hi)
   obtain ⟨w',hr',hld'⟩:=SlV.at1 (hb.mono hk1.sub) (List.getElem?_eq_getElem hi')
   have hr:w=.int .u64 ((l[i]:Nat):Int):=hr
   have hr':w'=.int .u64 ((m[i]:Nat):Int):=hr'
   subst hr; subst hr'
   have hix:=SlV.idx1 ha .i64 i hi
   have hix':=SlV.idx1 hb .i64 i hi'
   simp only [List.length_set,hl] at hl1
   refine zW (bg hl1 t0 t1 hi1) ?_
   refine aO ?_
   by_cases hq:l[i]=m[i]
   ·have hq':((l[i]:Nat):Int)=((m[i]:Nat):Int):=by omega
    refine zD (mw hl1 t0 t1 hix hld hix' hld' hq') ?_
    refine ⟨zK,fun q h h' hqi=>?_⟩
    by_cases eq:q=i
    ·subst eq; exact hq
    ·exact hP q h h' (by omega)
   ·have hq':¬ ((l[i]:Nat):Int)=((m[i]:Nat):Int):=by omega
    refine zD (kU hl1 t0 t1 hix hld hix' hld' hq' hq) ?_
    refine ⟨?_,zK⟩
    rw [decide_eq_false]
    intro e; subst e; exact hq rfl
  ·intro T1 H1 hl1 hs1 hk1 hP
   simp only [List.length_set,hl] at hl1
   refine zW hl1 ?_
   exact ⟨by rw [decide_eq_true (jO he fun q h h'=>hP q h h' h)],zK⟩
 ·have he':¬ (l.length:Int)=(m.length:Int):=by omega
  refine zW (jm hl g0 g1 ha.lenV hb.lenV he' he) ?_
  refine ⟨?_,zK⟩
  rw [decide_eq_false]
  intro e; subst e; exact he rfl
theorem whole_Same (C:Code tab) (hw:Wf H) {a b:AV} {x y:Int} (ha:IntV H a x) (hb:IntV H b y) (hx:OV x) :
  Ans tab (.fn gV [a,b]) H fun v H'=>v=.bool (decide (x=y))/\Kp H H':=by
 obtain ⟨p,rfl,hp⟩:=ha
 obtain ⟨q,rfl,hq⟩:=hb
 have op:=hp.one
 have oq:=hq.one
 unfold OV Sm at hx
 refine ca C.whole_Same (by decide) fun T hl g0 g1=>?_
 by_cases h:decide (x<0)=decide (y<0)
 ·have h':(decide (x<0) == decide (y<0))=true:=by rw [h]; simp
  refine zW (bg hl g0 g1 h') ?_
  refine AnsH.eq (rK C zF (hp.mono (Kp.sub (H:=H) zK)) (hq.mono (Kp.sub (H:=H) zK)) (by omega)) fun H2 hk2=>?_
  obtain ⟨k2,_,_⟩:=zT H zK hk2
  refine zW (aC hl g0 g1) ?_
  refine ⟨?_,zK⟩
  by_cases e:x=y
  ·rw [decide_eq_true e,decide_eq_true (by rw [e])]
  ·rw [decide_eq_false e,decide_eq_false]
   intro h2
   have:=xP h2
   have h3:(x<0) ↔ (y<0):=by simpa using h
   omega
 ·have h':(decide (x<0) == decide (y<0))=false:=by simpa using h
  refine zW (bg hl g0 g1 h') ?_
  refine ⟨?_,zK⟩
  rw [decide_eq_false]
  intro e; subst e; exact h rfl
theorem vec_Same (C:Code tab) (hw:Wf H) {a b:AV} {l m:List Int} (ha:RowV H a l) (hb:RowV H b m) (hbig:l.length<1099511627776) (hz:∀ z∈l,OV z) :
  Ans tab (.fn qj [a,b]) H fun v H'=>v=.bool (decide (l=m))/\Kp H H':=by
 have key:∀ {H:Heap},Wf H->RowV H a l->RowV H b m->Ans tab (.fn aX [a,b,.fn (.func gV) [] []]) H fun v H'=>v=.bool (decide (l=m))/\Kp H H':=by
  intro H hw ha hb
  refine Qg C.slices_EqualFunc_api_Vec_api_Vec_api_Int_api_Int (by decide) fun T hl g0 g1 g2=>?_
  by_cases he:l.length=m.length
  ·have lb:lenV b=some (.int .i64 (l.length:Int)):=by rw [hb.lenV,he]
   refine zW (fW hl g0 g1 g2 ha.lenV lb) ?_
   refine ak H [] (fun j _ _=>∀ q (h:q<l.length) (h':q<m.length),q<j->l[q]=m[q]) (a:=0) (N:=l.length) rfl (by refine zW (bg hl g0 g1 g2) ?_; rfl) (zV (bg hl g0 g1 g2)) (Nat.zero_le _) (by omega) (by simp only [List.length_set,hl]; rfl) rfl (fun _ _ _ _ h=>h) zK (fun q _ _ h=>by omega) ?_ ?_
   ·intro j T1 H1 _ hj hl1 hi1 hs1 hk1 hP
    have w1:=hk1.wf
    have le_hk1:=hk1.le
    have hj2:j<m.length:=by omega
    have t15:ae T1 15=a:=(hs1.at_ 15 (by decide)).trans (zV (az hl g0))
    have t1:ae T1 1=b:=(hs1.at_ 1 (by decide)).trans (zV (cJ hl g0 g1 g2 g1))
    have t2:ae T1 2=.fn (.func gV) [] []:=(hs1.at_ 2 (by decide)).trans (zV (cJ hl g0 g1 g2 g2))
    obtain ⟨w,hn,L0,hix⟩:=kJ w1 (ha.mono hk1.sub) hj
    obtain ⟨u,hu,L,hiy⟩:=kJ w1 (hb.mono hk1.sub) hj2
    have ow:=hn.one
    have ou:=hu.one
    have Lp0:=L0.put
    have Ll0:=L0.ld
    have Lp:=L.put
    have Ll:=L.ld
    simp only [List.length_set,hl] at hl1
    refine zW (p9 hl1 t15 t1 t2 hi1 hix Lp0 Ll0 hiy Lp Ll) ?_
    refine AnsH.eq (whole_Same C (x:=l[j]) (y:=m[j]) zF ⟨w,rfl,hn.mono (Kp.sub (H:=H1) zK)⟩ ⟨u,rfl,hu.mono (Kp.sub (H:=H1) zK)⟩ (hz _ (List.getElem_mem hj))) fun H2 hk2=>?_
    obtain ⟨k2,_,_⟩:=zT H zK hk2
    cases hq:decide (l[j]=m[j]) with
    | true =>
     have hq:=of_decide_eq_true hq
     refine zW hl1 ?_
     refine ⟨zK,fun q h h' hqi=>?_⟩
     by_cases e:q=j
     ·subst e; exact hq
     ·exact hP q h h' (by omega)
    | false =>
     have hq:=of_decide_eq_false hq
     refine zW hl1 ?_
     refine ⟨?_,zK⟩
     rw [decide_eq_false]
     intro e; subst e; exact hq rfl
   ·intro T1 H1 hl1 hs1 hk1 hP
    simp only [List.length_set,hl] at hl1
    refine zW hl1 ?_
    exact ⟨by rw [decide_eq_true (jO he fun q h h'=>hP q h h' h)],zK⟩
  ·have he':¬ (l.length:Int)=(m.length:Int):=by omega
   refine zW (mw hl g0 g1 g2 ha.lenV hb.lenV he' he) ?_
   refine ⟨?_,zK⟩
   rw [decide_eq_false]
   intro e; subst e; exact he rfl
 refine ca C.vec_Same (by decide) fun T hl g0 g1=>?_
 refine zW (aC hl g0 g1) ?_
 refine AnsH.eq (key zF (ha.mono (Kp.sub (H:=H) zK)) (hb.mono (Kp.sub (H:=H) zK))) fun H2 hk2=>?_
 obtain ⟨k2,_,_⟩:=zT H zK hk2
 refine zW (aC hl g0 g1) ?_
 exact zK
end
section
open Lin
variable {n:Nat} {g:List (Nat × V)}
theorem Cm {j:Nat} (hj:j<g.length):linesOf (g.take (j+1))=if g[j].1=1 then linesOf (g.take j)++[g[j].2] else linesOf (g.take j):=by
 rw [List.take_succ_eq_append_getElem hj]
 unfold linesOf
 rw [List.filter_append,List.map_append]
 by_cases h:g[j].1=1 <;> simp [h]
theorem EO {j:Nat} (hj:j<g.length):raysOf (g.take (j+1))=if g[j].1=1 then raysOf (g.take j) else raysOf (g.take j)++[g[j].2]:=by
 rw [List.take_succ_eq_append_getElem hj]
 unfold raysOf
 rw [List.filter_append,List.map_append]
 by_cases h:g[j].1=1 <;> simp [h]
theorem EC {j:Nat} (hj:j<g.length):(g.take (j+1)).any (fun x=>x.1 == 3)=((g.take j).any (fun x=>x.1 == 3) || g[j].1 == 3):=by
 rw [List.take_succ_eq_append_getElem hj,List.any_append]
 simp
theorem AB (g:List (Nat × V)):(linesOf g).length<=g.length:=by
 unfold linesOf
 rw [List.length_map]
 exact List.length_filter_le _ _
theorem rays_le (g:List (Nat × V)):(raysOf g).length<=g.length:=by
 unfold raysOf
 rw [List.length_map]
 exact List.length_filter_le _ _
theorem xM {x:V} (h:x∈raysOf g):∃ y∈g,y.2=x:=by
 obtain ⟨k,-,h⟩:=mem_rays.1 h
 exact ⟨_,h,rfl⟩
end
section
variable {tab:Nat->Option aq} {H:Heap} {s:AV}
set_option maxHeartbeats 4000000 in
theorem dual_cons (C:Code tab) (hw:Wf H) {n m:Nat} {g:List (Nat × List Int)} (hs:SlV genE t_api_Gen H s g) (hn:n<=4) (hlen:g.length<=1023) (hcnt:g.length^n<1099000000000) (hrow:∀ x∈g,x.2.length=n+1/\Lin.Bd (2^m) x.2) (hm:m<=300000) :
  Ans tab (.fn ol [.int .i64 (n:Int),s]) H fun v H'=>SlV conE cA H' v (Lin.consP n g)/\Kp H H':=by
 refine xw C.dual_cons rfl rfl (by decide) fun T hl g'=>?_
 have hl:T.length=84:=hl
 have hrs:c_dual_cons.results=[(4,none)]:=rfl
 have g0:ae T 0=.int .i64 (n:Int):=g' 0 (by simp)
 have g1:ae T 1=s:=g' 1 (by simp)
 refine br ?_
 refine zW (az hl @aK) ?_
 refine br ?_
 refine zW (az hl @aK) ?_
 refine br ?_
 refine zW (az hl @aK) ?_
 refine OF (fun T' H'=>∃ o5 o6,ae T' 5=o5/\ae T' 6=o6/\ae T' 7=.bool (g.any fun x=>x.1 == 3)/\Kp H H'/\cI H' o5 (Lin.linesOf g)/\cI H' o6 (Lin.raysOf g)) rfl ?_ ?_
 ·refine zW (aC hl g1 hs.lenV) ?_
  refine ak H [5,6,7] (fun j vs H'=>∃ o5 o6,vs=[o5,o6,.bool ((g.take j).any fun x=>x.1 == 3)]/\Bq rowsE af H H' o5 (Lin.linesOf (g.take j))/\Bq rowsE af H H' o6 (Lin.raysOf (g.take j))/\Sep o5 o6) (a:=0) (N:=g.length) rfl (by refine zW hl ?_; rfl) (zV hl) (Nat.zero_le _) (by omega) (by simp only [List.length_set,hl]; rfl) rfl (fun j vs H' m ⟨o5,o6,q1,q2,q3,q4⟩=>⟨o5,o6,q1,q2.mono (Sub.bump H' m),q3.mono (Sub.bump H' m),q4⟩) zK ⟨.nilSl,.nilSl,by refine zW hl ?_; rfl,Bq.nil,Bq.nil,fun b h=>by cases h⟩ ?_ ?_
  ·rintro j T2 H2 _ hj hl2 hi2 hs2 hk2 ⟨o5,o6,hv,bq5,bq6,hsep⟩
   have w2:=hk2.wf
   have le_hk2:=hk2.le
   have le2:=hk2.le
   simp only [List.map_cons,List.map_nil,List.cons.injEq,and_true] at hv
   obtain ⟨v5,v6,v7⟩:=hv
   have t17:ae T2 17=s:=(hs2.at_ 17 (by decide)).trans (zV (az hl g1))
   obtain ⟨cs,⟨w,rfl,hr⟩,hlen',-,hld⟩:=(hs.mono hk2.sub).at (List.getElem?_eq_getElem hj)
   have hix:Ox 2 s (.int .i64 (j:Int))=some (al s (j*2)):=SlV.idx hs .i64 j hj
   have hld:aZ H2 (some 2) (al s (j*2))=some (.agg [.int .u8 (g[j].1:Int),w]):=hld
   have ow:=hr.one
   simp only [List.length_set,hl] at hl2
   have he:=Cm (g:=g) hj
   have hi:=EO (g:=g) hj
   have hso:=EC (g:=g) hj
   have l5:=AB (g.take j)
   have l6:=rays_le (g.take j)
   rw [List.length_take] at l5 l6
   have main:∀ K:Nat,6<=K->∃ Hx,Hx=((H2.up K).put (H2.next+2) (.cells [.int .u8 0,.nilSl] t_api_Gen true)).put (H2.next+2) (.cells [.int .u8 (g[j].1:Int),w] t_api_Gen true)/\Kp H2 Hx/\Hx.next=H2.next+K/\(∀ c,H2.next<=c->c≠H2.next+2->Hx.get c=none):=fun K hK=>by
    refine ⟨_,rfl,zK,rfl,fun c h1 h2=>?_⟩
    rw [au h2,au h2]; exact w2.fresh h1
   by_cases c1:g[j].1=1
   ·have c1':(g[j].1:Int)=1:=by omega
    rw [c1'] at hld
    obtain ⟨Hx,hHx,kx,nx,fx⟩:=main 14 (by omega)
    rw [c1'] at hHx
    obtain ⟨n6,H6,e6,b6,k6,nx6,f6,-⟩:=Bq.push (ty2:=af) (bytes:=24) (id:=H2.next+12) (id2:=H2.next+11) (cs:=[w]) (a:=g[j].2) (bq5.mono kx.sub) (by decide) (hk2.trans kx) ⟨w,rfl,hr.mono kx.sub⟩ (by omega) (by omega) (fx _ (by omega) (by omega)) (by omega) (by omega) (fx _ (by omega) (by omega)) (by omega) (by omega) (by omega)
    have e6':OC ((((H2.up 14).put (H2.next+2) (.cells [.int .u8 0,.nilSl] t_api_Gen true)).put (H2.next+2) (.cells [.int .u8 1,w] t_api_Gen true)).put (H2.next+11) (.cells [w] af true)) (H2.next+12) 1 24 af o5 (.own (H2.next+11) 0 1 1 1 true)=some (.own (H2.next+12) 0 n6 n6 1 false,H6):=by rw [hHx] at e6; exact e6
    refine zW (kU hl2 t17 hi2 hix hld v5 v6 v7 e6') ?_
    have c13:(g[j].1 == 3)=false:=by rw [c1]; rfl
    rw [hso,c13,Bool.or_false]
    refine ⟨k6,.own (H2.next+12) 0 n6 n6 1 false,o6,rfl,?_,?_,?_⟩
    ·rw [he,if_pos c1]; exact b6
    ·rw [hi,if_pos c1]; exact f6.bq (bq5.mono kx.sub) (bq6.mono kx.sub) hsep (by decide)
    ·intro b h1 h2
     have:=bq6.lt w2 h2
     cases h1
     omega
   have c1':¬ (g[j].1:Int)=1:=by omega
   have c1b:(g[j].1 == 1)=false:=by simpa using c1
   by_cases c3:g[j].1=3
   ·have c3':(g[j].1:Int)=3:=by omega
    rw [c3'] at hld
    obtain ⟨Hx,hHx,kx,nx,fx⟩:=main 17 (by omega)
    rw [c3'] at hHx
    obtain ⟨n6,H6,e6,b6,k6,nx6,f6,-⟩:=Bq.push (ty2:=af) (bytes:=24) (id:=H2.next+15) (id2:=H2.next+14) (cs:=[w]) (a:=g[j].2) (bq6.mono kx.sub) (by decide) (hk2.trans kx) ⟨w,rfl,hr.mono kx.sub⟩ (by omega) (by omega) (fx _ (by omega) (by omega)) (by omega) (by omega) (fx _ (by omega) (by omega)) (by omega) (by omega) (by omega)
    have e6':OC ((((H2.up 17).put (H2.next+2) (.cells [.int .u8 0,.nilSl] t_api_Gen true)).put (H2.next+2) (.cells [.int .u8 3,w] t_api_Gen true)).put (H2.next+14) (.cells [w] af true)) (H2.next+15) 1 24 af o6 (.own (H2.next+14) 0 1 1 1 true)=some (.own (H2.next+15) 0 n6 n6 1 false,H6):=by rw [hHx] at e6; exact e6
    refine zW (kU hl2 t17 hi2 hix hld v5 v6 v7 e6') ?_
    have c13:(g[j].1 == 3)=true:=by rw [c3]; rfl
    rw [hso,c13,Bool.or_true]
    refine ⟨k6,o5,.own (H2.next+15) 0 n6 n6 1 false,rfl,?_,?_,?_⟩
    ·rw [he,if_neg c1]; exact f6.bq (bq6.mono kx.sub) (bq5.mono kx.sub) hsep.symm (by decide)
    ·rw [hi,if_neg c1]; exact b6
    ·intro b h1 h2
     have:=bq5.lt w2 h1
     cases h2
     omega
   ·have c3':¬ (g[j].1:Int)=3:=by omega
    have c3b:(g[j].1 == 3)=false:=by simpa using c3
    obtain ⟨Hx,hHx,kx,nx,fx⟩:=main 16 (by omega)
    obtain ⟨n6,H6,e6,b6,k6,nx6,f6,-⟩:=Bq.push (ty2:=af) (bytes:=24) (id:=H2.next+14) (id2:=H2.next+13) (cs:=[w]) (a:=g[j].2) (bq6.mono kx.sub) (by decide) (hk2.trans kx) ⟨w,rfl,hr.mono kx.sub⟩ (by omega) (by omega) (fx _ (by omega) (by omega)) (by omega) (by omega) (fx _ (by omega) (by omega)) (by omega) (by omega) (by omega)
    have e6':OC ((((H2.up 16).put (H2.next+2) (.cells [.int .u8 0,.nilSl] t_api_Gen true)).put (H2.next+2) (.cells [.int .u8 (g[j].1:Int),w] t_api_Gen true)).put (H2.next+13) (.cells [w] af true)) (H2.next+14) 1 24 af o6 (.own (H2.next+13) 0 1 1 1 true)=some (.own (H2.next+14) 0 n6 n6 1 false,H6):=by rw [hHx] at e6; exact e6
    refine zW (p9 hl2 t17 hi2 hix hld v5 v6 v7 e6' c1' c3') ?_
    rw [hso,c3b,Bool.or_false]
    refine ⟨k6,o5,.own (H2.next+14) 0 n6 n6 1 false,rfl,?_,?_,?_⟩
    ·rw [he,if_neg c1]; exact f6.bq (bq6.mono kx.sub) (bq5.mono kx.sub) hsep.symm (by decide)
    ·rw [hi,if_neg c1]; exact b6
    ·intro b h1 h2
     have:=bq5.lt w2 h1
     cases h2
     omega
  ·rintro T2 H2 hl2 hs2 hk2 ⟨o5,o6,hv,bq5,bq6,hsep⟩
   simp only [List.map_cons,List.map_nil,List.cons.injEq,and_true] at hv
   rw [List.take_length] at bq5 bq6 hv
   refine zW (az hl2 @aQ) ?_
   exact ⟨o5,o6,hv.1,hv.2.1,hv.2.2,hk2,bq5.sl,bq6.sl⟩
 rintro T2 H2 hs2 ⟨o5,o6,v5,v6,v7,k2,r5,r6⟩
 have w2:=k2.wf
 have le2:=k2.le
 have u0:ae T2 0=.int .i64 (n:Int):=(hs2.at_ 0 (by decide)).trans (zV (az hl g0))
 have u4:ae T2 4=.nilSl:=(hs2.at_ 4 (by decide)).trans (zV hl)
 have hl2:T2.length=84:=hs2.len.trans (by simp only [List.length_set]; exact hl)
 refine OF (fun T' H'=>Kp H2 H'/\ae T' 4=.nilSl/\(g.any fun x=>x.1 == 3)=true) rfl ?_ ?_
 ·cases hc:g.any fun x=>x.1 == 3 with
  | true =>
   rw [hc] at v7
   refine zW (bg hl2 v7 u4 @aQ) ?_
   exact zK
  | false =>
   rw [hc] at v7
   refine zW (aC hl2 v7 u0) ?_
   refine AnsH.use (dual_unit C (n:=n) (k:=-1) zF (by omega) (by omega) (by omega)) ?_
   rintro v H3 ⟨hr,hk3⟩
   obtain ⟨k23,_,_⟩:=zT H2 zK hk3
   have k3:Kp H H3:=k2.trans k23
   have le_k3:=k3.le
   have w3:=k3.wf
   have ov:=hr.one
   have n3:H2.next+7<=H3.next:=hk3.le
   have f3:H3.get (H2.next+5)=none:=hk3.free (show H2.next+5<H2.next+7 by omega) (w2.fresh (b:=H2.next+5) (by omega))
   refine zW (bg hl2 (rB ov) @oE hrs) ?_
   refine ⟨?_,zK⟩
   have e:Lin.consP n g=[(Lin.unitC n (-1),false)]:=by unfold Lin.consP; rw [if_neg (by rw [hc]; decide)]
   rw [e]
   obtain ⟨Hx,hHx⟩:∃ Hx,Hx=H3.put (H2.next+5) (.cells [v,.bool false] cA true):=⟨_,rfl⟩
   have sx:Sub H3 Hx:=by rw [hHx]; exact bh f3
   have:Own conE cA H Hx (H2.next+5) true (.own (H2.next+5) 0 1 1 2 true) [(Lin.unitC n (-1),false)]:=⟨[v,.bool false],rfl,by rw [hHx]; exact aA _ _ _,Cells.one (E:=conE) ⟨v,rfl,hr.mono sx⟩,by omega⟩
   rw [<- hHx]
   exact this.sl
 rintro T3 H3 hs3 ⟨k23,x4,hyes⟩
 have k3:Kp H H3:=k2.trans k23
 have le_k3:=k3.le
 have w3:=k3.wf
 have le3:=k3.le
 have x0:ae T3 0=.int .i64 (n:Int):=(hs3.at_ 0 (by decide)).trans u0
 have x5:ae T3 5=o5:=(hs3.at_ 5 (by decide)).trans v5
 have x6:ae T3 6=o6:=(hs3.at_ 6 (by decide)).trans v6
 have hl3:T3.length=84:=hs3.len.trans hl2
 have hE:∀ a∈Lin.linesOf g,a.length=n+1/\Lin.Bd (2^m) a:=fun a ha=>hrow _ (Lin.mem_lines.1 ha)
 have hI:∀ a∈Lin.raysOf g,a.length=n+1/\Lin.Bd (2^m) a:=fun a ha=>by
  obtain ⟨y,hy,rfl⟩:=xM ha
  exact hrow _ hy
 have lE:=AB g
 have lI:=rays_le g
 obtain ⟨c1,c2⟩:=qR (d:=n+1) (m:=m) (by omega) (by omega) hE hI
 have hT:=Lin.gens_told (d:=n+1) (fun a ha=>(hE a ha).1) (fun a ha=>(hI a ha).1)
 have lL:=ech_len hT.form
 have hcI:(Lin.raysOf g).length^n<1099000000000:=Nat.lt_of_le_of_lt (Nat.pow_le_pow_left lI n) hcnt
 have lR:(Lin.gensR (n+1) (Lin.linesOf g) (Lin.raysOf g)).length<=1099000000000:=by
  have:=hT.dd.count3 (fun a ha=>(hI a ha).1)
  simp only [Nat.add_sub_cancel] at this
  omega
 obtain ⟨L,hL⟩:∃ L,L=Lin.gensL (n+1) (Lin.linesOf g) (Lin.raysOf g):=⟨_,rfl⟩
 obtain ⟨R,hR⟩:∃ R,R=Lin.gensR (n+1) (Lin.linesOf g) (Lin.raysOf g):=⟨_,rfl⟩
 have lnR:∀ r∈R,r.length=n+1:=fun r hr=>by rw [hR] at hr; exact (c2 r hr).1
 have smR:∀ r∈R,∀ z∈r,OV z:=fun r hr z hz=>by
  rw [hR] at hr
  exact (fz (c2 r hr).2 z hz).sm (by omega)
 have ej:IntKind.i64.wrap ((n:Int)+1)=((n+1:Nat):Int):=by rw [wrap_i64] <;> omega
 refine OF (fun T' H'=>∃ p q,ae T' 10=p/\ae T' 11=q/\Kp H H'/\cI H' p L/\cI H' q R) rfl ?_ ?_
 ·refine zW (cJ hl3 x0 x5 x6 ej) ?_
  refine AnsH.use (qF C (d:=n+1) (m:=m) zF ((r5.mono k23.sub).mono (Kp.sub (H:=H3) zK)) ((r6.mono k23.sub).mono (Kp.sub (H:=H3) zK)) (by omega) (by omega) (by omega) (by omega) (by simpa using hcI) hE hI hm) ?_
  rintro v H4 ⟨p,q,rfl,hp,hq,hk4⟩
  obtain ⟨k34,_,_⟩:=zT H3 zK hk4
  have k4:Kp H H4:=k3.trans k34
  have le_k4:=k4.le
  refine zW (az hl3 @aQ) ?_
  rw [hL,hR]
  exact ⟨p,q,rfl,rfl,zK,hp,hq⟩
 rintro T4 H4 hs4 ⟨p,q,y10,y11,k4,hp,hq⟩
 have w4:=k4.wf
 have le4:=k4.le
 have y0:ae T4 0=.int .i64 (n:Int):=(hs4.at_ 0 (by decide)).trans x0
 have y4:ae T4 4=.nilSl:=(hs4.at_ 4 (by decide)).trans x4
 have hl4:T4.length=84:=hs4.len.trans hl3
 rw [<- hL] at lL
 rw [<- hR] at lR
 refine OF (fun T' H'=>∃ o,ae T' 4=o/\Kp H4 H'/\Bq conE cA H4 H' o (L.map fun r=>(r,true))) rfl ?_ ?_
 ·refine zW (aC hl4 y10 hp.lenV) ?_
  refine ak H4 [4] (fun j vs H'=>∃ o,vs=[o]/\Bq conE cA H4 H' o ((L.take j).map fun r=>(r,true))) (a:=0) (N:=L.length) rfl (by refine zW hl4 ?_; rfl) (zV hl4) (Nat.zero_le _) (by omega) (by simp only [List.length_set,hl4]; rfl) rfl (fun j vs H' m ⟨o,q1,q2⟩=>⟨o,q1,q2.mono (Sub.bump H' m)⟩) (Kp.up (Kp.refl w4) _) ⟨.nilSl,by exact zV (az hl4 y4),Bq.nil⟩ ?_ ?_
  ·rintro j T5 H5 _ hj hl5 hi5 hs5 hk5 ⟨o,hv,ho⟩
   have w5:=hk5.wf
   have le_hk5:=hk5.le
   have le5:=hk5.le
   simp only [List.map_cons,List.map_nil,List.cons.injEq,and_true] at hv
   have t55:ae T5 55=p:=(hs5.at_ 55 (by decide)).trans (zV (az hl4 y10))
   obtain ⟨w,hr,hld⟩:=cV (hp.mono hk5.sub) hj
   have hix:=SlV.idx1 hp .i64 j hj
   have ow:=hr.one
   simp only [List.length_set,hl4] at hl5
   obtain ⟨n6,H6,e6,b6,k6,nx6,f6,-⟩:=Bq.push (ty2:=cA) (bytes:=32) (id:=H5.next+7) (id2:=H5.next+6) (H:=H5.up 9) (cs:=[w,.bool true]) (a:=(L[j],true)) (ho.mono (Sub.bump H5 9)) (by decide) (hk5.up 9) ⟨w,rfl,hr.mono (Sub.bump H5 9)⟩ (by omega) (by rw [cw]; omega) (w5.fresh (by omega)) (by omega) (by rw [cw]; omega) (w5.fresh (by omega)) (by omega) (by simp; omega) (by simp; omega)
   have e6':OC ((H5.up 9).put (H5.next+6) (.cells [w,.bool true] cA true)) (H5.next+7) 2 32 cA o (.own (H5.next+6) 0 1 1 2 true)=some (.own (H5.next+7) 0 n6 n6 2 false,H6):=e6
   refine zW (jm hl5 t55 hi5 hix hld hv e6') ?_
   refine ⟨k6,_,rfl,?_⟩
   rw [List.take_succ_eq_append_getElem hj,List.map_append]
   exact b6
  ·rintro T5 H5 hl5 hs5 hk5 ⟨o,hv,ho⟩
   simp only [List.map_cons,List.map_nil,List.cons.injEq,and_true] at hv
   rw [List.take_length] at ho
   refine zW (az hl5 @aQ) ?_
   exact ⟨o,hv,hk5,ho⟩
 rintro T5 H5 hs5 ⟨o5',z4,k45,bo5⟩
 have w5:=k45.wf
 have le5:=k45.le
 have z0:ae T5 0=.int .i64 (n:Int):=(hs5.at_ 0 (by decide)).trans y0
 have z11:ae T5 11=q:=(hs5.at_ 11 (by decide)).trans y11
 have hl5:T5.length=84:=hs5.len.trans hl4
 refine OF (fun T' H'=>∃ o,ae T' 4=o/\Kp H4 H'/\Bq conE cA H4 H' o ((L.map fun r=>(r,true))++(R.filter fun r=>!decide (r=Lin.unitC n 1)).map fun r=>(r,false))) rfl ?_ ?_
 ·refine zW (aC hl5 z11 hq.lenV) ?_
  refine ak H4 [4] (fun j vs H'=>∃ o,vs=[o]/\Bq conE cA H4 H' o ((L.map fun r=>(r,true))++((R.take j).filter fun r=>!decide (r=Lin.unitC n 1)).map fun r=>(r,false))) (a:=0) (N:=R.length) rfl (by refine zW hl5 ?_; rfl) (zV hl5) (Nat.zero_le _) (by omega) (by simp only [List.length_set,hl5]; rfl) rfl (fun j vs H' m ⟨o,q1,q2⟩=>⟨o,q1,q2.mono (Sub.bump H' m)⟩) (k45.up _) ⟨o5',by exact zV (az hl5 z4),by rw [List.take_zero,List.filter_nil,List.map_nil,List.append_nil]; exact bo5.mono (Sub.bump H5 _)⟩ ?_ ?_
  ·rintro j T6 H6 _ hj hl6 hi6 hs6 hk6 ⟨o,hv,ho⟩
   have w6:=hk6.wf
   have le_hk6:=hk6.le
   have le6:=hk6.le
   simp only [List.map_cons,List.map_nil,List.cons.injEq,and_true] at hv
   have t0:ae T6 0=.int .i64 (n:Int):=(hs6.at_ 0 (by decide)).trans (zV (az hl5 z0))
   have t67:ae T6 67=q:=(hs6.at_ 67 (by decide)).trans (zV (az hl5 z11))
   obtain ⟨w,hr,hld⟩:=cV (hq.mono hk6.sub) hj
   have hix:=SlV.idx1 hq .i64 j hj
   have ow:=hr.one
   simp only [List.length_set,hl5] at hl6
   have hm:=List.getElem_mem hj
   refine zW (fW hl6 t0 t67 hi6 hix hld) ?_
   refine AnsH.use (dual_unit C (n:=n) (k:=1) zF (by omega) (by omega) (by omega)) ?_
   rintro v H7 ⟨hu,hk7⟩
   obtain ⟨k67,_,_⟩:=zT H6 zK hk7
   have k47:Kp H4 H7:=hk6.trans k67
   have le_k47:=k47.le
   have w7:=k67.wf
   refine zW hl6 ?_
   refine AnsH.eq (vec_Same C zF ((hr.mono k67.sub).mono (Kp.sub (H:=H7) zK)) (hu.mono (Kp.sub (H:=H7) zK)) (by rw [lnR _ hm]; omega) (smR _ hm)) fun H8 hk8=>?_
   obtain ⟨k78,_,_⟩:=zT H7 zK hk8
   have k48:Kp H4 H8:=k47.trans k78
   have le_k48:=k48.le
   have k68:Kp H6 H8:=k67.trans k78
   have le_k68:=k68.le
   have w8:=k48.wf
   by_cases hq1:R[j]=Lin.unitC n 1
   ·refine zW (aC hl6 hv hq1) ?_
    refine ⟨k48,_,rfl,?_⟩
    rw [List.take_succ_eq_append_getElem hj,List.filter_append]
    simp only [hq1,List.filter_cons,List.filter_nil,decide_true,Bool.not_true,Bool.false_eq_true,if_false,List.append_nil]
    exact ho.mono k68.sub
   ·have lf:((R.take j).filter fun r=>!decide (r=Lin.unitC n 1)).length<=R.length:=Nat.le_trans (List.length_filter_le _ _) (by rw [List.length_take]; omega)
    obtain ⟨n8,H9,e8,b8,k8,nx8,f8,-⟩:=Bq.push (ty2:=cA) (bytes:=32) (id:=H8.next+4) (id2:=H8.next+3) (H:=H8.up 6) (cs:=[w,.bool false]) (a:=(R[j],false)) ((ho.mono k68.sub).mono (Sub.bump H8 6)) (by decide) (k48.up 6) ⟨w,rfl,(hr.mono k68.sub).mono (Sub.bump H8 6)⟩ (by omega) (by rw [cw]; omega) (w8.fresh (by omega)) (by omega) (by rw [cw]; omega) (w8.fresh (by omega)) (by omega) (by rw [List.length_append,List.length_map,List.length_map]; omega) (by rw [List.length_append,List.length_map,List.length_map]; omega)
    have e8':OC ((H8.up 6).put (H8.next+3) (.cells [w,.bool false] cA true)) (H8.next+4) 2 32 cA o (.own (H8.next+3) 0 1 1 2 true)=some (.own (H8.next+4) 0 n8 n8 2 false,H9):=e8
    refine zW (cJ hl6 hv hq1 e8' (rB ow)) ?_
    refine ⟨k8,_,rfl,?_⟩
    rw [List.take_succ_eq_append_getElem hj,List.filter_append]
    simp only [List.filter_cons,List.filter_nil,hq1,decide_false,Bool.not_false,if_true,List.map_append,List.map_cons,List.map_nil,<- List.append_assoc]
    exact b8
  ·rintro T6 H6 hl6 hs6 hk6 ⟨o,hv,ho⟩
   simp only [List.map_cons,List.map_nil,List.cons.injEq,and_true] at hv
   rw [List.take_length] at ho
   refine zW (az hl6 @aQ) ?_
   exact ⟨o,hv,hk6,ho⟩
 rintro T6 H6 hs6 ⟨o6',a4,k46,bo6⟩
 have hl6:T6.length=84:=hs6.len.trans hl5
 refine WC.wb ?_
 refine zW (aC hl6 @a4 hrs) ?_
 have hG:Lin.consP n g=(L.map fun r=>(r,true))++(R.filter fun r=>!decide (r=Lin.unitC n 1)).map fun r=>(r,false):=by
  unfold Lin.consP
  rw [if_pos hyes,<- hL,<- hR]
 rw [hG]
 exact ⟨bo6.sl,k4.trans k46⟩
end
theorem ND {x y z a b c:AV} {ty:Nat} (ha:One a) (hb:One b) (hc:One c):By (some (.cells [x,y,z] ty true)) 3 0 (.agg [a,b,c])=some (.cells [a,b,c] ty true):=by
 simpa using i9 (cs:=[x,y,z]) (vs:=[a,b,c]) (ty:=ty) (n:=3) (o:=0) (v:=.agg [a,b,c]) ⟨rfl,rfl,by simp [ha.2,hb.2,hc.2]⟩ (by simp)
theorem gU {x y z a b c:AV} (ha:One a) (hb:One b) (hc:One c):gH [x,y,z] [((0,1),a),((1,1),b),((2,1),c)]=some (.agg [a,b,c]):=by
 simp [gH,cM,ha.1,ha.2,hb.1,hb.2,hc.1,hc.2]
section
variable {H:Heap} {s:AV}
theorem A2 {ty:Nat} {l:List (List Int × Bool)} (h:SlV conE ty H s l):SlV conQE ty H s (l.map fun c=>(c.1.map jv,c.2)):=by
 obtain ⟨cells,hr,ht,hc,ha⟩:=h
 refine ⟨cells,hr,ht,by rw [hc,List.length_map]; rfl,fun i a hi=>?_⟩
 rw [List.getElem?_map,Option.map_eq_some_iff] at hi
 obtain ⟨z,hz,rfl⟩:=hi
 obtain ⟨w,h1,h2⟩:=ha i z hz
 exact ⟨w,h1,h2.raw⟩
theorem Od {ty:Nat} {l:List (Nat × List Int)} (h:SlV genE ty H s l):SlV genQE ty H s (l.map fun c=>(c.1,c.2.map jv)):=by
 obtain ⟨cells,hr,ht,hc,ha⟩:=h
 refine ⟨cells,hr,ht,by rw [hc,List.length_map]; rfl,fun i a hi=>?_⟩
 rw [List.getElem?_map,Option.map_eq_some_iff] at hi
 obtain ⟨z,hz,rfl⟩:=hi
 obtain ⟨w,h1,h2⟩:=ha i z hz
 exact ⟨w,h1,h2.raw⟩
end
theorem Oi (z:Int):cU (jv z)=z:=by
 unfold cU jv
 simp only [bJ]
 by_cases h:z<0
 ·simp [h]; omega
 ·simp [h]; omega
theorem Om (l:List Int):(l.map jv).map cU=l:=by
 rw [List.map_map]
 conv=>rhs; rw [<- List.map_id l]
 exact List.map_congr_left fun z _=>Oi z
section
open Lin
variable {n m:Nat}
theorem Qf {l:List (V × Bool)} (hn:n<=5) (h:∀ c∈l,c.1.length=n+1/\Bd (2^m) c.1):∀ x∈gensP n l,x.2.length=n+1/\Bd (2^(64*(m+4))) x.2:=fun x hx=>by
 have hE:∀ a∈eqsOf l,a.length=n+1/\Bd (2^m) a:=fun a ha=>h _ (mem_eqs.1 ha)
 have hI:∀ a∈ineqsOf n l,a.length=n+1/\Bd (2^m) a:=fun a ha=>by
  rcases mem_ineqs.1 ha with rfl | ha
  ·exact ⟨unitC_len n 1,C5 n m⟩
  ·exact h _ ha
 obtain ⟨c1,c2⟩:=qR (d:=n+1) (m:=m) (by omega) (by omega) hE hI
 unfold gensP at hx
 split at hx
 ·rcases List.mem_append.1 hx with hx | hx
  ·obtain ⟨r,hr,rfl⟩:=List.mem_map.1 hx
   exact c1 r hr
  ·obtain ⟨r,hr,rfl⟩:=List.mem_map.1 hx
   exact c2 r hr
 ·cases hx
theorem GC (n m:Nat):Bd (2^m) (unitC n (-1)):=fun i=>by
 have h1:1<=2^m:=Nat.pow_pos (by decide)
 unfold unitC at_
 cases i with
 | zero=>simpa using h1
 | succ i =>
  rw [List.getD_cons_succ,List.getD_eq_getElem?_getD,List.getElem?_replicate]
  split <;> simp
theorem Ik {g:List (Nat × V)} (hn:n<=5) (h:∀ x∈g,x.2.length=n+1/\Bd (2^m) x.2):∀ c∈consP n g,c.1.length=n+1/\Bd (2^(64*(m+4))) c.1:=fun x hx=>by
 have hE:∀ a∈linesOf g,a.length=n+1/\Bd (2^m) a:=fun a ha=>h _ (mem_lines.1 ha)
 have hI:∀ a∈raysOf g,a.length=n+1/\Bd (2^m) a:=fun a ha=>by
  obtain ⟨y,hy,rfl⟩:=xM ha
  exact h _ hy
 obtain ⟨c1,c2⟩:=qR (d:=n+1) (m:=m) (by omega) (by omega) hE hI
 unfold consP at hx
 split at hx
 ·rcases List.mem_append.1 hx with hx | hx
  ·obtain ⟨r,hr,rfl⟩:=List.mem_map.1 hx
   exact c1 r hr
  ·obtain ⟨r,hr,rfl⟩:=List.mem_map.1 hx
   exact c2 r (List.mem_filter.1 hr).1
 ·rw [List.mem_singleton] at hx
  subst hx
  exact ⟨unitC_len n (-1),GC n _⟩
theorem JG {k n:Nat} (hk:k<=1023) (hn:n<=4):k^n<1099000000000:=by
 have h1:k^n<=1023^n:=Nat.pow_le_pow_left hk n
 have h2:1023^n<=1023^4:=Nat.pow_le_pow_right (by decide) hn
 have h3:(1023:Nat)^4=1095222947841:=by decide
 omega
end
abbrev Hw:AV:=.agg [.int .i64 0,.nilSl,.nilSl]
def PolyV (H:Heap) (v:AV) (n:Nat) (c:List (List Int × Bool)) (g:List (Nat × List Int)):Prop:=∃ vc vg,v=.agg [.int .i64 (n:Int),vc,vg]/\SlV conE cA H vc c/\SlV genE t_api_Gen H vg g
theorem PolyV.mono {H H':Heap} (hs:Sub H H') {v:AV} {n:Nat} {c:List (List Int × Bool)} {g:List (Nat × List Int)} (h:PolyV H v n c g):PolyV H' v n c g:=by
 obtain ⟨vc,vg,e,h1,h2⟩:=h
 exact ⟨vc,vg,e,h1.mono hs,h2.mono hs⟩
def KF (H:Heap) (v:AV) (n:Nat) (g:List (Nat × List Int)):Prop :=
 (v=.tup [Hw,.int .i64 4]/\(1024<=g.length\/1024<=(Lin.consP n g).length))\/∃ p,v=.tup [p,.int .i64 0]/\PolyV H p n (Lin.consP n g) g/\g.length<1024/\(Lin.consP n g).length<1024
section
variable {tab:Nat->Option aq} {H:Heap} {s:AV}
theorem dual_made (C:Code tab) (hw:Wf H) {n m:Nat} {g:List (Nat × List Int)} (hs:SlV genE t_api_Gen H s g) (hbig:g.length<1099511627776) (hn:n<=4) (hrow:∀ x∈g,x.2.length=n+1/\Lin.Bd (2^m) x.2) (hm:m<=300000) :
  Ans tab (.fn oj [.int .i64 (n:Int),s]) H fun v H'=>KF H' v n g/\Kp H H':=by
 have os:=hs.one
 refine ca C.dual_made (by decide) fun T hl g0 g1=>?_
 by_cases q1:(1024:Int)<=(g.length:Int)
 ·refine zW (fW hl g0 g1 hs.lenV q1 @ND) ?_
  exact ⟨.inl ⟨rfl,.inl (by omega)⟩,zK⟩
 refine zW (cJ hl g0 g1 hs.lenV q1) ?_
 refine AnsH.use (dual_cons C zF (hs.mono (Kp.sub (H:=H) zK)) hn (by omega) (JG (by omega) hn) hrow hm) ?_
 rintro v H2 ⟨hc,hk2⟩
 obtain ⟨k2,_,w2⟩:=zT H zK hk2
 have ov:=hc.one
 have d0:=hk2.get (b:=H.next) (e:=.cells [.int .i64 0,.nilSl,.nilSl] iK true) (dC)
 have lt0:=w2 _ _ d0
 by_cases q2:(1024:Int)<=((Lin.consP n g).length:Int)
 ·refine zW (jm hl g0 g1 hc.lenV q2 d0 @ND) ?_
  exact ⟨.inl ⟨rfl,.inr (by omega)⟩,zK⟩
 have st:NoTy [cA,aa,ad,t_api_Gen] H2 H.next:=NoTy.ty d0 (by decide)
 refine zW (mw hl hc.lenV q2 d0 g0 g1 @gU @ND) ?_
 refine ⟨.inr ⟨_,rfl,⟨v,s,rfl,?_,?_⟩,by omega,by omega⟩,zK⟩
 ·have m3:NoTy (cA :: conE.tys) H2 H.next:=NoTy.ty d0 (by decide)
  exact SlV.monoT (E:=conE) zS hc
 ·have m3:NoTy (t_api_Gen :: genE.tys) H2 H.next:=NoTy.ty d0 (by decide)
  exact SlV.monoT (E:=genE) zS (hs.mono k2.sub)
end
section
open Lin
variable {n:Nat}
theorem ts {l:List (V × Bool)} (hn:n<=8) (hl:l.length<=60) (h:∀ c∈l,c.1.length=n+1):cT n (l.map fun c=>(c.1.map jv,c.2))=0:=by
 unfold cT
 rw [if_neg (by omega),if_neg (by rw [List.length_map]; omega),if_neg,if_neg]
 ·rw [List.any_eq_true]
  rintro ⟨c,hc,h1⟩
  obtain ⟨x,hx,rfl⟩:=List.mem_map.1 hc
  have h1:=of_decide_eq_true h1
  have:=h x hx
  simp only [List.length_map] at h1
  omega
 ·rw [List.any_eq_true]
  rintro ⟨c,hc,h1⟩
  obtain ⟨x,hx,rfl⟩:=List.mem_map.1 hc
  have:=h x hx
  rw [Bool.not_eq_true',B3 (by omega)] at h1
  cases h1
theorem D6 {l:List (V × Bool)} (hn:n<=60) (h:∀ c∈l,c.1.length=n+1/\∀ z∈c.1,OV z):∀ c∈l.map fun c=>(c.1.map jv,c.2),xq c.1:=fun c hc=>by
 obtain ⟨x,hx,rfl⟩:=List.mem_map.1 hc
 exact uo (by rw [(h x hx).1]; omega) (h x hx).2
theorem Oe {g:List (Nat × V)} (hn:n<=8) (hl:g.length<=60) (h:ValidG n g) (hk:∀ x∈g,x.1=1\/x.1=2\/x.1=3):PI n (g.map fun c=>(c.1,c.2.map jv))=0:=by
 unfold PI
 rw [if_neg (by omega),if_neg (by rw [List.length_map]; omega),if_neg,if_neg]
 ·rw [List.any_eq_true]
  rintro ⟨c,hc,h1⟩
  obtain ⟨x,hx,rfl⟩:=List.mem_map.1 hc
  have h1:=of_decide_eq_true h1
  have:=(h x hx).1
  simp only [List.length_map] at h1
  omega
 ·rw [List.any_eq_true]
  rintro ⟨c,hc,h1⟩
  obtain ⟨x,hx,rfl⟩:=List.mem_map.1 hc
  obtain ⟨h2,h3,h4⟩:=h x hx
  simp only [Og,Om,Bool.or_eq_true,Bool.not_eq_true',B3 (r:=x.2) (by omega),Hu] at h1
  rcases h1 with h1 | h1
  ·cases h1
  ·rcases hk x hx with e | e | e
   ·rw [if_pos (.inl e)] at h1
    exact absurd (h4 (by omega)) (of_decide_eq_true h1)
   ·rw [if_pos (.inr e)] at h1
    exact absurd (h4 (by omega)) (of_decide_eq_true h1)
   ·rw [if_neg (by omega),if_pos e] at h1
    have:=h3 e
    have:=of_decide_eq_true h1
    omega
theorem Ot {g:List (Nat × V)} (hn:n<=60) (h:∀ c∈g,c.2.length=n+1/\∀ z∈c.2,OV z):∀ c∈g.map fun c=>(c.1,c.2.map jv),xq c.2:=fun c hc=>by
 obtain ⟨x,hx,rfl⟩:=List.mem_map.1 hc
 exact uo (by rw [(h x hx).1]; omega) (h x hx).2
end
section
variable {tab:Nat->Option aq} {H:Heap} {s:AV}
theorem wm (C:Code tab) (hw:Wf H) {n m:Nat} {l:List (List Int × Bool)} (hs:SlV conE cA H s l) (hn:n<=4) (hlen:l.length<=60) (hrow:∀ c∈l,c.1.length=n+1/\Lin.Bd (2^m) c.1) (hm:m<=300000) :
  Ans tab (.fn y6 [.int .i64 (n:Int),s]) H fun v H'=>∃ q,v=.tup [q,.int .i64 0]/\SlV genE t_api_Gen H' q (Lin.gensP n l)/\Kp H H':=by
 refine ca C.dual_Points (by decide) fun T hl g0 g1=>?_
 refine zW (aC hl g0 g1) ?_
 refine AnsH.eq (iU C zF ((A2 hs).mono (Kp.sub (H:=H) zK)) (D6 (n:=n) (by omega) fun c hc=>⟨(hrow c hc).1,fun z hz=>(fz (hrow c hc).2 z hz).sm (by omega)⟩) (by rw [List.length_map]; omega)) fun H2 hk2=>?_
 rw [ts (by omega) hlen fun c hc=>(hrow c hc).1]
 obtain ⟨k2,_,w2⟩:=zT H zK hk2
 refine zW (aC hl g0 g1) ?_
 refine AnsH.use (dual_points C zF ((hs.mono k2.sub).mono (Kp.sub (H:=H2) zK)) hn (by omega) (JG (by omega) hn) hrow hm) ?_
 rintro v H3 ⟨hg,hk3⟩
 have k3:Kp H H3:=Kp.trans zK (Kp.trans zK hk3)
 have le_k3:=k3.le
 refine zW (aC hl g0 g1) ?_
 exact ⟨v,rfl,hg,zK⟩
theorem eG (C:Code tab) (hw:Wf H) {n:Int} {l:List Of} (hs:SlV genQE t_api_Gen H s l) (hbig:∀ c∈l,xq c.2) (hgood:∀ c∈l,∀ z∈c.2,Lim z.2/\z.2.length<=1048576) (hlen:l.length<4611686018427387904) (hc:PI n l≠0) :
  Ans tab (.fn sZ [.int .i64 n,s]) H fun v H'=>v=.tup [Hw,.int .i64 (PI n l)]/\Kp H H':=by
 refine ca C.dual_Span (by decide) fun T hl g0 g1=>?_
 refine zW (aC hl g0 g1) ?_
 refine AnsH.eq (NW C zF (hs.mono (Kp.sub (H:=H) zK)) hbig hgood hlen) fun H2 hk2=>?_
 obtain ⟨k2,_,w2⟩:=zT H zK hk2
 have d0:=hk2.get (b:=H.next) (e:=.cells [.int .i64 0,.nilSl,.nilSl] iK true) (dC)
 have lt0:=w2 _ _ d0
 have hc:¬ PI n l=0:=hc
 refine zW (fW hl g0 g1 hc d0 @ND) ?_
 exact zK
theorem cn {n k m:Nat} (h:n<2^m) (hm:m<=64*k):(ag n).length<=k:=bk (by
 have e:B^k=2^(64*k):=by
  have:B=2^64:=by decide
  rw [this,<- Nat.pow_mul]
 rw [e]
 exact Nat.lt_of_lt_of_le h (Nat.pow_le_pow_right (by decide) hm))
def Ov (H:Heap) (v:AV) (n:Nat) (g:List (Nat × List Int)):Prop :=
 (v=.tup [Hw,.int .i64 4]/\1024<=(Lin.consP n g).length)\/KF H v n (Lin.gensP n (Lin.consP n g))
theorem N8 (C:Code tab) (hw:Wf H) {n m m2 m3:Nat} {g:List (Nat × List Int)} (hs:SlV genE t_api_Gen H s g) (hn:n<=4) (hlen:g.length<=60) (hv:Lin.ValidG n g) (hk:∀ x∈g,x.1=1\/x.1=2\/x.1=3) (hrow:∀ c∈g,Lin.Bd (2^m) c.2) (hm:m<=300000) (hC:∀ c∈Lin.consP n g,Lin.Bd (2^m2) c.1) (hm2:m2<=300000) (hG:∀ x∈Lin.gensP n (Lin.consP n g),Lin.Bd (2^m3) x.2) (hm3:m3<=300000)
  (hlc:(Lin.consP n g).length<=1022\/1024<=(Lin.consP n g).length) :
  Ans tab (.fn sZ [.int .i64 (n:Int),s]) H fun v H'=>Ov H' v n g/\Kp H H':=by
 have hrow':∀ c∈g,c.2.length=n+1/\Lin.Bd (2^m) c.2:=fun c hc=>⟨(hv c hc).1,hrow c hc⟩
 have hgood:∀ c∈g.map fun c=>(c.1,c.2.map jv),∀ z∈c.2,Lim z.2/\z.2.length<=1048576:=fun c hc z hz=>by
  obtain ⟨x,hx,rfl⟩:=List.mem_map.1 hc
  obtain ⟨y,hy,rfl⟩:=List.mem_map.1 hz
  have hb:=fz (hrow x hx) y hy
  exact ⟨bz _,cn (n:=y.natAbs) (k:=1048576) (m:=m+1) hb (by omega)⟩
 refine ca C.dual_Span (by decide) fun T hl g0 g1=>?_
 refine zW (aC hl g0 g1) ?_
 refine AnsH.eq (NW C zF ((Od hs).mono (Kp.sub (H:=H) zK)) (Ot (n:=n) (by omega) fun c hc=>⟨(hrow' c hc).1,fun z hz=>(fz (hrow c hc) z hz).sm (by omega)⟩) hgood (by rw [List.length_map]; omega)) fun H2 hk2=>?_
 rw [Oe (by omega) hlen hv hk]
 obtain ⟨k2,_,w2⟩:=zT H zK hk2
 refine zW (aC hl g0 g1) ?_
 refine AnsH.use (dual_cons C zF ((hs.mono k2.sub).mono (Kp.sub (H:=H2) zK)) hn (by omega) (JG (by omega) hn) hrow' (by omega)) ?_
 rintro v H3 ⟨hc3,hk3⟩
 obtain ⟨k23,_,_⟩:=zT H2 zK hk3
 have k3:Kp H H3:=k2.trans k23
 have le_k3:=k3.le
 have w3:=k3.wf
 have d3:=hk3.get (hk2.get (b:=H.next) (e:=.cells [.int .i64 0,.nilSl,.nilSl] iK true) (dC))
 have lt3:=w3 _ _ d3
 by_cases q1:(1024:Int)<=((Lin.consP n g).length:Int)
 ·refine zW (jm hl g0 g1 hc3.lenV q1 d3 @ND) ?_
  exact ⟨.inl ⟨rfl,by omega⟩,zK⟩
 have hrc:∀ c∈Lin.consP n g,c.1.length=n+1/\Lin.Bd (2^m2) c.1:=fun c hc=>⟨(Ik (by omega) hrow' c hc).1,hC c hc⟩
 refine zW (bg hl hc3.lenV q1 g0) ?_
 refine AnsH.use (dual_points C zF (hc3.mono (Kp.sub (H:=H3) zK)) hn (by omega) (JG (by omega) hn) hrc hm2) ?_
 rintro v4 H4 ⟨hg4,hk4⟩
 obtain ⟨k34,_,_⟩:=zT H3 zK hk4
 have k4:Kp H H4:=k3.trans k34
 have le_k4:=k4.le
 have w4:=k4.wf
 refine zW (az hl g0) ?_
 refine AnsH.use (dual_made C zF (hg4.mono (Kp.sub (H:=H4) zK)) ?_ hn (fun x hx=>⟨(Qf (by omega) hrc x hx).1,hG x hx⟩) hm3) ?_
 ·have hT:=Lin.gens_told (d:=n+1) (Lin.eqs_len (l:=Lin.consP n g) fun c hc=>(hrc c hc).1) (Lin.ineqs_len (l:=Lin.consP n g) fun c hc=>(hrc c hc).1)
  have h1:=hT.dd.count3 (Lin.ineqs_len (l:=Lin.consP n g) fun c hc=>(hrc c hc).1)
  have h2:=ech_len hT.form
  have h3:(Lin.ineqsOf n (Lin.consP n g)).length^n<1099000000000:=JG (Nat.le_trans (rh _) (by omega)) hn
  simp only [Nat.add_sub_cancel] at h1
  unfold Lin.gensP
  split
  ·rw [List.length_append,List.length_map,List.length_map]; omega
  ·simp
 rintro v5 H5 ⟨hm5,hk5⟩
 have k5:Kp H H5:=k4.trans (Kp.trans zK hk5)
 have le_k5:=k5.le
 have w5:=k5.wf
 have d0:=hk5.get (hk4.get d3)
 have lt0:=w5 _ _ d0
 rcases hm5 with ⟨rfl,hm5⟩ | ⟨p,rfl,⟨vc,vg,rfl,hc,hg5⟩,h1,h2⟩
 ·refine zW (cJ hl g0 g1 d0 @ND) ?_
  exact ⟨.inr (.inl ⟨rfl,hm5⟩),zK⟩
 ·have oc:=hc.one
  have og:=hg5.one
  refine zW (cJ hl g0 g1 d0 @ND) ?_
  refine ⟨.inr (.inr ⟨_,rfl,⟨vc,vg,rfl,?_,?_⟩,h1,h2⟩),zK⟩
  ·have m3:NoTy (cA :: conE.tys) H5 H.next:=NoTy.ty d0 (by decide)
   exact SlV.monoT (E:=conE) zS hc
  ·have m3:NoTy (t_api_Gen :: genE.tys) H5 H.next:=NoTy.ty d0 (by decide)
   exact SlV.monoT (E:=genE) zS hg5
end
section
variable {tab:Nat->Option aq} {base i k:Nat} {T0:Tm} {dst:Option Nat} {op:AOp} {us:List (Nat × Option Nat)} {adds:List Nat} {r:List (Nat × List Nat)} {ds:List ir} {Vs:List AV} {Cs:List Heap} {Es:List (Option Ent)} {Q:DS->Prop} {t:Nat} {w:Bool}
end
section
variable {tab:Nat->Option aq} {H:Heap} {s:AV}
theorem Rk (C:Code tab) (hw:Wf H) {a b:AV} {l m:List (List Int × Bool)} (ha:SlV conE cA H a l) (hb:SlV conE cA H b m) (hl':l.length<1099511627776) (hz:∀ r∈l,r.1.length<1099511627776/\∀ z∈r.1,OV z) :
  Ans tab (.fn dy [a,b]) H fun v H'=>v=.bool (decide (l=m))/\Kp H H':=by
 refine ca C.facetroomref21_SameCons (by decide) fun T hl g0 g1=>?_
 by_cases he:l.length=m.length
 ·have lb:lenV b=some (.int .i64 (l.length:Int)):=by rw [hb.lenV,he]
  refine zW (cJ hl g0 g1 ha.lenV lb) ?_
  refine bf H [5] (fun k vs H'=>∃ i:Nat,vs=[.int .i64 (i:Int)]/\i+k=l.length/\∀ q (h:q<l.length) (h':q<m.length),q<i->l[q]=m[q]) l.length (by simp only [List.length_set]; exact hl) rfl zK ⟨0,by refine zW (aC hl g0 g1) ?_; rfl,by omega,fun q _ _ h=>by omega⟩ ?_
  rintro k T1 H1 hl1 hs1 hk1 ⟨i,hv,hik,hP⟩
  have w1:=hk1.wf
  have le_hk1:=hk1.le
  simp only [List.map_cons,List.map_nil,List.cons.injEq,and_true] at hv
  have t0:ae T1 0=a:=(hs1.at_ 0 (by decide)).trans (zV (az hl g0))
  have t1:ae T1 1=b:=(hs1.at_ 1 (by decide)).trans (zV (bg hl g0 g1 g1))
  by_cases hi:i<l.length
  ·have hii:(i:Int)<(l.length:Int):=by omega
   have hi':i<m.length:=by omega
   obtain ⟨cs,⟨w,rfl,hr⟩,-,h2,-⟩:=(ha.mono hk1.sub).at (List.getElem?_eq_getElem hi)
   obtain ⟨cs',⟨w',rfl,hr'⟩,-,h2',-⟩:=(hb.mono hk1.sub).at (List.getElem?_eq_getElem hi')
   have l0:aZ H1 none (al a (i*2))=some w:=h2 0 _ rfl
   have l1:aZ H1 none (al a (i*2+1))=some (.bool l[i].2):=h2 1 _ rfl
   have l0':aZ H1 none (al b (i*2))=some w':=h2' 0 _ rfl
   have l1':aZ H1 none (al b (i*2+1))=some (.bool m[i].2):=h2' 1 _ rfl
   have hix:Ox 2 a (.int .i64 (i:Int))=some (al a (i*2)):=SlV.idx ha .i64 i hi
   have hix':Ox 2 b (.int .i64 (i:Int))=some (al b (i*2)):=SlV.idx hb .i64 i hi'
   have f0:vZ 0 (al a (i*2))=some (al a (i*2)):=ha.fa (by omega) 0 (i*2)
   have f1:vZ 1 (al a (i*2))=some (al a (i*2+1)):=ha.fa (by omega) 1 (i*2)
   have f0':vZ 0 (al b (i*2))=some (al b (i*2)):=hb.fa (by omega) 0 (i*2)
   have f1':vZ 1 (al b (i*2))=some (al b (i*2+1)):=hb.fa (by omega) 1 (i*2)
   have e:IntKind.i64.wrap ((i:Int)+1)=((i+1:Nat):Int):=by rw [wrap_i64] <;> omega
   refine zW (jm hl1 hv t0 t1 ha.lenV hii hi) ?_
   by_cases hx:l[i].2=m[i].2
   ·skip
    refine aO ?_
    simp -dsimp (maxSteps:=1000000) (disch:=(first | omega | assumption | exact aF _ | exact aR _ _ | exact aV | exact bB _ _ _ | exact aY _ _ | exact aU _ _ _ _ _ _ | exact bI _ _ | exact bc _)) only [↓nD,nC,↓BH,BG,Nat.reduceLT,Nat.reduceEqDiff,Nat.reduceAdd,reduceIte,reduceCtorEq,Nat.reduceBEq,Int.reduceEq,Int.reduceLT,Int.reduceLE,Int.reduceAdd,Int.reduceSub,hl1,hv,t0,t1,hix,hix',l0,l1,l0',l1',f0,f1,f0',f1',eE,hx,↓dM,beq_self_eq_true]
    refine AnsH.eq (vj C zF (hr.mono (Kp.sub (H:=H1) zK)) (hr'.mono (Kp.sub (H:=H1) zK)) (hz _ (List.getElem_mem hi)).1 (hz _ (List.getElem_mem hi)).2) fun H2 hk2=>?_
    obtain ⟨k12,_,_⟩:=zT H1 zK hk2
    have k2:Kp H H2:=Kp.trans hk1 k12
    have le_k2:=k2.le
    have l0b:=aH k12.sub l0
    have l1b:=aH k12.sub l1
    have l0b':=aH k12.sub l0'
    have l1b':=aH k12.sub l1'
    cases hq:decide (l[i].1=m[i].1) with
    | true =>
     have hq:=of_decide_eq_true hq
     simp -dsimp (maxSteps:=1000000) (disch:=(first | omega | assumption | exact aF _ | exact aR _ _ | exact aV | exact bB _ _ _ | exact aY _ _ | exact aU _ _ _ _ _ _ | exact bI _ _ | exact bc _)) only [↓nD,nC,↓BH,BG,Nat.reduceLT,Nat.reduceEqDiff,Nat.reduceAdd,reduceIte,reduceCtorEq,Nat.reduceBEq,Int.reduceEq,Int.reduceLT,Int.reduceLE,Int.reduceAdd,Int.reduceSub,hl1,hv,t0,t1,hix,hix',l0,l1,l0',l1',l0b,l1b,l0b',l1b',f0,f1,f0',f1',eE,hx,e,↓dM,beq_self_eq_true]
     refine ⟨zK,k-1,by omega,i+1,rfl,by omega,fun q h h' hqi=>?_⟩
     by_cases eq:q=i
     ·subst eq; exact Prod.ext hq hx
     ·exact hP q h h' (by omega)
    | false =>
     have hq:=of_decide_eq_false hq
     simp -dsimp (maxSteps:=1000000) (disch:=(first | omega | assumption | exact aF _ | exact aR _ _ | exact aV | exact bB _ _ _ | exact aY _ _ | exact aU _ _ _ _ _ _ | exact bI _ _ | exact bc _)) only [↓nD,nC,↓BH,BG,Nat.reduceLT,Nat.reduceEqDiff,Nat.reduceAdd,reduceIte,reduceCtorEq,Nat.reduceBEq,Int.reduceEq,Int.reduceLT,Int.reduceLE,Int.reduceAdd,Int.reduceSub,hl1,hv,t0,t1,hix,hix',l0,l1,l0',l1',l0b,l1b,l0b',l1b',f0,f1,f0',f1',eE,hx,e,↓dM,beq_self_eq_true]
     refine ⟨?_,zK⟩
     rw [decide_eq_false]
     intro e; subst e; exact hq rfl
   ·have hxb:(l[i].2 == m[i].2)=false:=by simpa using hx
    refine aO ?_
    simp -dsimp (maxSteps:=1000000) (disch:=(first | omega | assumption | exact aF _ | exact aR _ _ | exact aV | exact bB _ _ _ | exact aY _ _ | exact aU _ _ _ _ _ _ | exact bI _ _ | exact bc _)) only [↓nD,nC,↓BH,BG,Nat.reduceLT,Nat.reduceEqDiff,Nat.reduceAdd,reduceIte,reduceCtorEq,Nat.reduceBEq,Int.reduceEq,Int.reduceLT,Int.reduceLE,Int.reduceAdd,Int.reduceSub,hl1,hv,t0,t1,hix,hix',l0,l1,l0',l1',f0,f1,f0',f1',eE,hx,hxb,↓dM,beq_self_eq_true]
    refine ⟨?_,zK⟩
    rw [decide_eq_false]
    intro e; subst e; exact hx rfl
  ·have hii:¬ (i:Int)<(l.length:Int):=by omega
   refine zW (jm hl1 hv t0 t1 ha.lenV hii hi) ?_
   refine ⟨?_,zK⟩
   rw [decide_eq_true (jO he fun q h h'=>hP q h h' (by omega))]
 ·have he':¬ (l.length:Int)=(m.length:Int):=by omega
  refine zW (jm hl g0 g1 ha.lenV hb.lenV he' he) ?_
  refine ⟨?_,zK⟩
  rw [decide_eq_false]
  intro e; subst e; exact he rfl
theorem Rj (C:Code tab) (hw:Wf H) {a b:AV} {l m:List (Nat × List Int)} (ha:SlV genE t_api_Gen H a l) (hb:SlV genE t_api_Gen H b m) (hl':l.length<1099511627776) (hz:∀ r∈l,r.2.length<1099511627776/\∀ z∈r.2,OV z) :
  Ans tab (.fn dx [a,b]) H fun v H'=>v=.bool (decide (l=m))/\Kp H H':=by
 refine ca C.facetroomref21_SameGens (by decide) fun T hl g0 g1=>?_
 by_cases he:l.length=m.length
 ·have lb:lenV b=some (.int .i64 (l.length:Int)):=by rw [hb.lenV,he]
  refine zW (cJ hl g0 g1 ha.lenV lb) ?_
  refine bf H [5] (fun k vs H'=>∃ i:Nat,vs=[.int .i64 (i:Int)]/\i+k=l.length/\∀ q (h:q<l.length) (h':q<m.length),q<i->l[q]=m[q]) l.length (by simp only [List.length_set]; exact hl) rfl zK ⟨0,by refine zW (aC hl g0 g1) ?_; rfl,by omega,fun q _ _ h=>by omega⟩ ?_
  rintro k T1 H1 hl1 hs1 hk1 ⟨i,hv,hik,hP⟩
  have w1:=hk1.wf
  have le_hk1:=hk1.le
  simp only [List.map_cons,List.map_nil,List.cons.injEq,and_true] at hv
  have t0:ae T1 0=a:=(hs1.at_ 0 (by decide)).trans (zV (az hl g0))
  have t1:ae T1 1=b:=(hs1.at_ 1 (by decide)).trans (zV (bg hl g0 g1 g1))
  by_cases hi:i<l.length
  ·have hii:(i:Int)<(l.length:Int):=by omega
   have hi':i<m.length:=by omega
   obtain ⟨cs,⟨w,rfl,hr⟩,-,h2,-⟩:=(ha.mono hk1.sub).at (List.getElem?_eq_getElem hi)
   obtain ⟨cs',⟨w',rfl,hr'⟩,-,h2',-⟩:=(hb.mono hk1.sub).at (List.getElem?_eq_getElem hi')
   have l0:aZ H1 none (al a (i*2))=some (.int .u8 (l[i].1:Int)):=h2 0 _ rfl
   have l1:aZ H1 none (al a (i*2+1))=some w:=h2 1 _ rfl
   have l0':aZ H1 none (al b (i*2))=some (.int .u8 (m[i].1:Int)):=h2' 0 _ rfl
   have l1':aZ H1 none (al b (i*2+1))=some w':=h2' 1 _ rfl
   have hix:Ox 2 a (.int .i64 (i:Int))=some (al a (i*2)):=SlV.idx ha .i64 i hi
   have hix':Ox 2 b (.int .i64 (i:Int))=some (al b (i*2)):=SlV.idx hb .i64 i hi'
   have f0:vZ 0 (al a (i*2))=some (al a (i*2)):=ha.fa (by omega) 0 (i*2)
   have f1:vZ 1 (al a (i*2))=some (al a (i*2+1)):=ha.fa (by omega) 1 (i*2)
   have f0':vZ 0 (al b (i*2))=some (al b (i*2)):=hb.fa (by omega) 0 (i*2)
   have f1':vZ 1 (al b (i*2))=some (al b (i*2+1)):=hb.fa (by omega) 1 (i*2)
   have e:IntKind.i64.wrap ((i:Int)+1)=((i+1:Nat):Int):=by rw [wrap_i64] <;> omega
   refine zW (jm hl1 hv t0 t1 ha.lenV hii hi) ?_
   by_cases hx:l[i].1=m[i].1
   ·have hx2:(l[i].1:Int)=(m[i].1:Int):=by omega
    refine aO ?_
    simp -dsimp (maxSteps:=1000000) (disch:=(first | omega | assumption | exact aF _ | exact aR _ _ | exact aV | exact bB _ _ _ | exact aY _ _ | exact aU _ _ _ _ _ _ | exact bI _ _ | exact bc _)) only [↓nD,nC,↓BH,BG,Nat.reduceLT,Nat.reduceEqDiff,Nat.reduceAdd,reduceIte,reduceCtorEq,Nat.reduceBEq,Int.reduceEq,Int.reduceLT,Int.reduceLE,Int.reduceAdd,Int.reduceSub,hl1,hv,t0,t1,hix,hix',l0,l1,l0',l1',f0,f1,f0',f1',eE,hx,hx2,↓dM,beq_self_eq_true]
    refine AnsH.eq (vj C zF (hr.mono (Kp.sub (H:=H1) zK)) (hr'.mono (Kp.sub (H:=H1) zK)) (hz _ (List.getElem_mem hi)).1 (hz _ (List.getElem_mem hi)).2) fun H2 hk2=>?_
    obtain ⟨k12,_,_⟩:=zT H1 zK hk2
    have k2:Kp H H2:=Kp.trans hk1 k12
    have le_k2:=k2.le
    have l0b:=aH k12.sub l0
    have l1b:=aH k12.sub l1
    have l0b':=aH k12.sub l0'
    have l1b':=aH k12.sub l1'
    cases hq:decide (l[i].2=m[i].2) with
    | true =>
     have hq:=of_decide_eq_true hq
     simp -dsimp (maxSteps:=1000000) (disch:=(first | omega | assumption | exact aF _ | exact aR _ _ | exact aV | exact bB _ _ _ | exact aY _ _ | exact aU _ _ _ _ _ _ | exact bI _ _ | exact bc _)) only [↓nD,nC,↓BH,BG,Nat.reduceLT,Nat.reduceEqDiff,Nat.reduceAdd,reduceIte,reduceCtorEq,Nat.reduceBEq,Int.reduceEq,Int.reduceLT,Int.reduceLE,Int.reduceAdd,Int.reduceSub,hl1,hv,t0,t1,hix,hix',l0,l1,l0',l1',l0b,l1b,l0b',l1b',f0,f1,f0',f1',eE,hx,hx2,e,↓dM,beq_self_eq_true]
     refine ⟨zK,k-1,by omega,i+1,rfl,by omega,fun q h h' hqi=>?_⟩
     by_cases eq:q=i
     ·subst eq; exact Prod.ext hx hq
     ·exact hP q h h' (by omega)
    | false =>
     have hq:=of_decide_eq_false hq
     simp -dsimp (maxSteps:=1000000) (disch:=(first | omega | assumption | exact aF _ | exact aR _ _ | exact aV | exact bB _ _ _ | exact aY _ _ | exact aU _ _ _ _ _ _ | exact bI _ _ | exact bc _)) only [↓nD,nC,↓BH,BG,Nat.reduceLT,Nat.reduceEqDiff,Nat.reduceAdd,reduceIte,reduceCtorEq,Nat.reduceBEq,Int.reduceEq,Int.reduceLT,Int.reduceLE,Int.reduceAdd,Int.reduceSub,hl1,hv,t0,t1,hix,hix',l0,l1,l0',l1',l0b,l1b,l0b',l1b',f0,f1,f0',f1',eE,hx,hx2,e,↓dM,beq_self_eq_true]
     refine ⟨?_,zK⟩
     rw [decide_eq_false]
     intro e; subst e; exact hq rfl
   ·have hx2:¬ (l[i].1:Int)=(m[i].1:Int):=by omega
    have hxb:=hx2
    refine aO ?_
    simp -dsimp (maxSteps:=1000000) (disch:=(first | omega | assumption | exact aF _ | exact aR _ _ | exact aV | exact bB _ _ _ | exact aY _ _ | exact aU _ _ _ _ _ _ | exact bI _ _ | exact bc _)) only [↓nD,nC,↓BH,BG,Nat.reduceLT,Nat.reduceEqDiff,Nat.reduceAdd,reduceIte,reduceCtorEq,Nat.reduceBEq,Int.reduceEq,Int.reduceLT,Int.reduceLE,Int.reduceAdd,Int.reduceSub,hl1,hv,t0,t1,hix,hix',l0,l1,l0',l1',f0,f1,f0',f1',eE,hx,hx2,hxb,↓dM,beq_self_eq_true]
    refine ⟨?_,zK⟩
    rw [decide_eq_false]
    intro e; subst e; exact hx rfl
  ·have hii:¬ (i:Int)<(l.length:Int):=by omega
   refine zW (jm hl1 hv t0 t1 ha.lenV hii hi) ?_
   refine ⟨?_,zK⟩
   rw [decide_eq_true (jO he fun q h h'=>hP q h h' (by omega))]
 ·have he':¬ (l.length:Int)=(m.length:Int):=by omega
  refine zW (jm hl g0 g1 ha.lenV hb.lenV he' he) ?_
  refine ⟨?_,zK⟩
  rw [decide_eq_false]
  intro e; subst e; exact he rfl
def fo (n:Nat) (l:List sQ):Bool:=decide (n<l.length) || l.any fun c=>lJ 5 1 c.1
theorem tY (C:Code tab) (hw:Wf H) {a:AV} {ls:List sQ} {n:Nat} (ha:SlV conQE cA H a ls) (hn:n<4611686018427387904) :
  Ans tab (.fn dg [a,.int .i64 (n:Int)]) H fun v H'=>v=.bool (fo n ls)/\Kp H H':=by
 refine ca C.facetroomref21_GreatCons (by decide) fun T hl g0 g1=>?_
 by_cases he:n<ls.length
 ·have he':(n:Int)<(ls.length:Int):=by omega
  refine zW (fW hl g0 g1 ha.lenV he' he) ?_
  exact ⟨by unfold fo; rw [decide_eq_true he]; rfl,zK⟩
 ·have he':¬ (n:Int)<(ls.length:Int):=by omega
  refine zW (fW hl g0 g1 ha.lenV he' he) ?_
  refine bf H [5] (fun k vs H'=>∃ i:Nat,vs=[.int .i64 (i:Int)]/\i+k=ls.length/\∀ q (h:q<ls.length),q<i->lJ 5 1 (ls[q]).1=false) ls.length (by simp only [List.length_set]; exact hl) rfl zK ⟨0,by refine zW (aC hl g0 g1) ?_; rfl,by omega,fun q _ h=>by omega⟩ ?_
  rintro k T1 H1 hl1 hs1 hk1 ⟨i,hv,hik,hP⟩
  have w1:=hk1.wf
  have le_hk1:=hk1.le
  simp only [List.map_cons,List.map_nil,List.cons.injEq,and_true] at hv
  have t0:ae T1 0=a:=(hs1.at_ 0 (by decide)).trans (zV (az hl g0))
  by_cases hi:i<ls.length
  ·have hii:(i:Int)<(ls.length:Int):=by omega
   obtain ⟨cs,⟨w,rfl,hr⟩,-,h2,-⟩:=(ha.mono hk1.sub).at (List.getElem?_eq_getElem hi)
   have hld:aZ H1 none (al a (i*2))=some w:=h2 0 _ rfl
   have hix:Ox 2 a (.int .i64 (i:Int))=some (al a (i*2)):=SlV.idx ha .i64 i hi
   have hfa:vZ 0 (al a (i*2))=some (al a (i*2)):=ha.fa (by omega) 0 (i*2)
   have e:IntKind.i64.wrap ((i:Int)+1)=((i+1:Nat):Int):=by rw [wrap_i64] <;> omega
   refine zW (kU hl1 hv t0 ha.lenV hii hi hix hfa hld) ?_
   refine AnsH.eq (Al C (many:=5) (lim:=1) zF (hr.mono (Kp.sub (H:=H1) zK)) (by omega)) fun H2 hk2=>?_
   obtain ⟨k12,_,_⟩:=zT H1 zK hk2
   have k2:Kp H H2:=Kp.trans hk1 k12
   have le_k2:=k2.le
   cases hq:lJ 5 1 (ls[i]).1 with
   | true =>
    refine zW hl1 ?_
    refine ⟨?_,zK⟩
    unfold fo
    rw [List.any_eq_true.2 ⟨_,List.getElem_mem hi,hq⟩,Bool.or_true]
   | false =>
    refine zW (aC hl1 hv e) ?_
    refine ⟨zK,k-1,by omega,i+1,rfl,by omega,fun q h hqi=>?_⟩
    by_cases eq:q=i
    ·subst eq; exact hq
    ·exact hP q h (by omega)
  ·have hii:¬ (i:Int)<(ls.length:Int):=by omega
   refine zW (fW hl1 hv t0 ha.lenV hii hi) ?_
   refine ⟨?_,zK⟩
   have e:(ls.any fun c=>lJ 5 1 c.1)=false:=by
    rw [List.any_eq_false]
    intro z hz
    obtain ⟨q,hq,rfl⟩:=List.getElem_of_mem hz
    rw [hP q hq (by omega)]; simp
   unfold fo
   rw [decide_eq_false he,Bool.false_or,e]
def x9 (n:Nat) (l:List Of):Bool:=decide (n<l.length) || l.any fun c=>lJ 5 1 c.2
theorem NX (C:Code tab) (hw:Wf H) {a:AV} {ls:List Of} {n:Nat} (ha:SlV genQE t_api_Gen H a ls) (hn:n<4611686018427387904) :
  Ans tab (.fn fd [a,.int .i64 (n:Int)]) H fun v H'=>v=.bool (x9 n ls)/\Kp H H':=by
 refine ca C.facetroomref21_GreatGens (by decide) fun T hl g0 g1=>?_
 by_cases he:n<ls.length
 ·have he':(n:Int)<(ls.length:Int):=by omega
  refine zW (fW hl g0 g1 ha.lenV he' he) ?_
  exact ⟨by unfold x9; rw [decide_eq_true he]; rfl,zK⟩
 ·have he':¬ (n:Int)<(ls.length:Int):=by omega
  refine zW (fW hl g0 g1 ha.lenV he' he) ?_
  refine bf H [5] (fun k vs H'=>∃ i:Nat,vs=[.int .i64 (i:Int)]/\i+k=ls.length/\∀ q (h:q<ls.length),q<i->lJ 5 1 (ls[q]).2=false) ls.length (by simp only [List.length_set]; exact hl) rfl zK ⟨0,by refine zW (aC hl g0 g1) ?_; rfl,by omega,fun q _ h=>by omega⟩ ?_
  rintro k T1 H1 hl1 hs1 hk1 ⟨i,hv,hik,hP⟩
  have w1:=hk1.wf
  have le_hk1:=hk1.le
  simp only [List.map_cons,List.map_nil,List.cons.injEq,and_true] at hv
  have t0:ae T1 0=a:=(hs1.at_ 0 (by decide)).trans (zV (az hl g0))
  by_cases hi:i<ls.length
  ·have hii:(i:Int)<(ls.length:Int):=by omega
   obtain ⟨cs,⟨w,rfl,hr⟩,-,h2,-⟩:=(ha.mono hk1.sub).at (List.getElem?_eq_getElem hi)
   have hld:aZ H1 none (al a (i*2+1))=some w:=h2 1 _ rfl
   have hix:Ox 2 a (.int .i64 (i:Int))=some (al a (i*2)):=SlV.idx ha .i64 i hi
   have hfa:vZ 1 (al a (i*2))=some (al a (i*2+1)):=ha.fa (by omega) 1 (i*2)
   have e:IntKind.i64.wrap ((i:Int)+1)=((i+1:Nat):Int):=by rw [wrap_i64] <;> omega
   refine zW (kU hl1 hv t0 ha.lenV hii hi hix hfa hld) ?_
   refine AnsH.eq (Al C (many:=5) (lim:=1) zF (hr.mono (Kp.sub (H:=H1) zK)) (by omega)) fun H2 hk2=>?_
   obtain ⟨k12,_,_⟩:=zT H1 zK hk2
   have k2:Kp H H2:=Kp.trans hk1 k12
   have le_k2:=k2.le
   cases hq:lJ 5 1 (ls[i]).2 with
   | true =>
    refine zW hl1 ?_
    refine ⟨?_,zK⟩
    unfold x9
    rw [List.any_eq_true.2 ⟨_,List.getElem_mem hi,hq⟩,Bool.or_true]
   | false =>
    refine zW (aC hl1 hv e) ?_
    refine ⟨zK,k-1,by omega,i+1,rfl,by omega,fun q h hqi=>?_⟩
    by_cases eq:q=i
    ·subst eq; exact hq
    ·exact hP q h (by omega)
  ·have hii:¬ (i:Int)<(ls.length:Int):=by omega
   refine zW (fW hl1 hv t0 ha.lenV hii hi) ?_
   refine ⟨?_,zK⟩
   have e:(ls.any fun c=>lJ 5 1 c.2)=false:=by
    rw [List.any_eq_false]
    intro z hz
    obtain ⟨q,hq,rfl⟩:=List.getElem_of_mem hz
    rw [hP q hq (by omega)]; simp
   unfold x9
   rw [decide_eq_false he,Bool.false_or,e]
end
theorem Rm {H:Heap} {b:Nat} {x y:Int} {r:Bool} (h:H.get b=some (.cells [.int .i64 x,.int .i64 y] fL r)):tX (zi .i64) fL H (.own b 0 2 2 1 true) [x,y] :=
 ⟨[_,_],Rd.own h rfl (Nat.le_refl _),fun _ _ _ _ _ _ e=>by cases e; exact ⟨_,_,h⟩,rfl,fun i a hi=>by
  match i with
  | 0=>simp at hi; subst hi; exact ⟨_,rfl,rfl⟩
  | 1=>simp at hi; subst hi; exact ⟨_,rfl,rfl⟩
  | i+2=>simp at hi⟩
def Emp (H:Heap) (a e:Nat):Prop:=e<=H.next/\∀ c,a<=c->c<e->H.get c=none
theorem Emp.start {H:Heap} (hw:Wf H) {k:Nat}:Emp (H.up k) H.next (H.next+k):=⟨Nat.le_refl _,fun c h _=>hw.fresh h⟩
theorem Emp.next {G H2:Heap} {a e p a':Nat} {x:Ent} (hf:Emp G a e) (hk:Kp (G.put p x) H2) (hp:p<a') (ha:a<=a'):Emp H2 a' e :=
 ⟨Nat.le_trans hf.1 hk.le,fun c h1 h2=>hk.free (by rw [next_put]; exact Nat.lt_of_lt_of_le h2 hf.1) (by rw [au (by omega)]; exact hf.2 c (by omega) h2)⟩
theorem Emp.keep {G H2:Heap} {a e:Nat} (hf:Emp G a e) (hk:Kp G H2):Emp H2 a e :=
 ⟨Nat.le_trans hf.1 hk.le,fun c h1 h2=>hk.free (Nat.lt_of_lt_of_le h2 hf.1) (hf.2 c h1 h2)⟩
theorem Emp.sub {G:Heap} {a e p:Nat} {x:Ent} (hf:Emp G a e) (h1:a<=p) (h2:p<e):Sub G (G.put p x):=bh (hf.2 p h1 h2)
section
variable {tab:Nat->Option aq} {H:Heap} {s:AV}
end
end Go.Proofs.YtboamamhcfhanaaGreat.Ev
namespace Go.Proofs.YtboamamhcfhanaaGreat.Lin
set_option linter.all false
theorem CD:gensL 2 [] [[1,1]]=[[-1,1]]/\gensR 2 [] [[1,1]]=[[1,0]]:=by
 have r:(gensU 2 [] [[1,1]]).rays.map (restF (gensL 2 [] [[1,1]]))=[[1,0]]:=by decide +kernel
 refine ⟨by decide +kernel,?_⟩
 unfold gensR; rw [r]; simp
end Go.Proofs.YtboamamhcfhanaaGreat.Lin
namespace Go.Proofs.YtboamamhcfhanaaGreat.Ev
open Go Nn
set_option linter.all false
theorem Emp.put {G:Heap} {a e p a':Nat} {x:Ent} (hf:Emp G a e) (hp:p<a') (ha:a<=a'):Emp (G.put p x) a' e :=
 ⟨hf.1,fun c h1 h2=>by rw [au (by omega)]; exact hf.2 c (by omega) h2⟩
section
variable {tab:Nat->Option aq} {H:Heap} {s:AV}
end
end Go.Proofs.YtboamamhcfhanaaGreat.Ev
namespace Go.Proofs.YtboamamhcfhanaaGreat.Lin
set_option linter.all false
theorem bd_small2 {x:V} (h:x.all (fun a=>decide (a.natAbs<=4))=true):Bd (2^2) x:=fun i=>by
 by_cases hi:i<x.length
 ·have:at_ x i=x[i]:=by simp [at_,hi]
  rw [this]
  simpa using List.all_eq_true.1 h _ (List.getElem_mem hi)
 ·have:at_ x i=0:=by simp [at_,hi]
  rw [this]; simp
theorem pt1:gensP 1 [([-1,1],false),([3,-1],false)]=[(3,[1,1]),(3,[1,3])]:=by
 have r:(gensU 2 [] [[1,0],[-1,1],[3,-1]]).rays.map (restF (gensL 2 [] [[1,0],[-1,1],[3,-1]]))=[[1,3],[1,1]]\/(gensU 2 [] [[1,0],[-1,1],[3,-1]]).rays.map (restF (gensL 2 [] [[1,0],[-1,1],[3,-1]]))=[[1,1],[1,3]]:=by decide +kernel
 have e:gensL 2 [] [[1,0],[-1,1],[3,-1]]=[]:=by decide +kernel
 have g:gensR 2 [] [[1,0],[-1,1],[3,-1]]=[[1,1],[1,3]]:=by
  unfold gensR
  rcases r with r | r <;> rw [r] <;> simp [List.mergeSort,List.MergeSort.Internal.splitInTwo,cmpV]
 have h1:eqsOf [(([-1,1]:V),false),([3,-1],false)]=[]:=rfl
 have h2:ineqsOf 1 [(([-1,1]:V),false),([3,-1],false)]=[[1,0],[-1,1],[3,-1]]:=rfl
 unfold gensP
 rw [h1,h2,e,g]
 rfl
theorem pt2:gensP 1 [([-1,2],true)]=[(3,[2,1])]:=by
 have r:(gensU 2 [[-1,2]] [[1,0]]).rays.map (restF (gensL 2 [[-1,2]] [[1,0]]))=[[2,1]]:=by decide +kernel
 have e:gensL 2 [[-1,2]] [[1,0]]=[]:=by decide +kernel
 have g:gensR 2 [[-1,2]] [[1,0]]=[[2,1]]:=by
  unfold gensR
  rw [r]; simp
 have h1:eqsOf [(([-1,2]:V),true)]=[[-1,2]]:=rfl
 have h2:ineqsOf 1 [(([-1,2]:V),true)]=[[1,0]]:=rfl
 unfold gensP
 rw [h1,h2,e,g]
 rfl
theorem pt3:gensP 1 [([0,1],false)]=[(2,[0,1]),(3,[1,0])]:=by
 have r:(gensU 2 [] [[1,0],[0,1]]).rays.map (restF (gensL 2 [] [[1,0],[0,1]]))=[[1,0],[0,1]]:=by decide +kernel
 have e:gensL 2 [] [[1,0],[0,1]]=[]:=by decide +kernel
 have g:gensR 2 [] [[1,0],[0,1]]=[[0,1],[1,0]]:=by
  unfold gensR
  rw [r]; simp [List.mergeSort,List.MergeSort.Internal.splitInTwo,cmpV]
 have h1:eqsOf [(([0,1]:V),false)]=[]:=rfl
 have h2:ineqsOf 1 [(([0,1]:V),false)]=[[1,0],[0,1]]:=rfl
 unfold gensP
 rw [h1,h2,e,g]
 rfl
end Go.Proofs.YtboamamhcfhanaaGreat.Lin
namespace Go.Proofs.YtboamamhcfhanaaGreat.Ev
open Go Nn
set_option linter.all false
theorem Ou {a b c:AV} (ha:One a) (hb:One b) (hc:One c):iq (.agg [a,b,c])=some [a,b,c]:=by
 simp [iq,AV.cells,ha.2,hb.2,hc.2]
theorem Oq {b c:AV} (hb:One b) (hc:One c) (k:IntKind) (n:Int):iq (.agg [.int k n,b,c])=some [.int k n,b,c]:=Ou (aR _ _) hb hc
section
variable {tab:Nat->Option aq} {H:Heap} {s:AV}
def NV (c:List (List Int × Bool)) (g:List (Nat × List Int)):Bool:=fo 9 (c.map fun c=>(c.1.map jv,c.2)) || x9 9 (g.map fun c=>(c.1,c.2.map jv))
theorem Oc (C:Code tab) (hw:Wf H) {v:AV} {n:Nat} {c:List (List Int × Bool)} {g:List (Nat × List Int)} (hp:PolyV H v n c g) :
  Ans tab (.fn g9 [v]) H fun x H'=>x=.bool (NV c g)/\Kp H H':=by
 obtain ⟨vc,vg,rfl,hc,hg⟩:=hp
 have oc:=hc.one
 have og:=hg.one
 refine OD C.facetroomref21_Great (by decide) fun T hl g0=>?_
 refine zW (aC hl g0 (Oq oc og)) ?_
 refine AnsH.eq (tY C (n:=9) zF ((A2 hc).mono (Kp.sub (H:=H) zK)) (by omega)) fun H2 hk2=>?_
 obtain ⟨k2,_,w2⟩:=zT H zK hk2
 have d0:=hk2.get (b:=H.next) (e:=.cells [.int .i64 (n:Int),vc,vg] iK true) (dC)
 cases hq:fo 9 (c.map fun c=>(c.1.map jv,c.2)) with
 | true =>
  refine zW (az hl g0) ?_
  exact ⟨by unfold NV; rw [hq,Bool.true_or],zK⟩
 | false =>
  refine zW (aC hl g0 d0) ?_
  refine AnsH.eq (NX C (n:=9) zF ((Od (hg.mono k2.sub)).mono (Kp.sub (H:=H2) zK)) (by omega)) fun H3 hk3=>?_
  have k3:Kp H H3:=k2.trans (Kp.trans zK hk3)
  have le_k3:=k3.le
  refine zW (az hl g0) ?_
  exact ⟨by unfold NV; rw [hq,Bool.false_or],zK⟩
theorem NU (C:Code tab) (hw:Wf H) {v v':AV} {n n':Nat} {c c':List (List Int × Bool)} {g g':List (Nat × List Int)} (hp:PolyV H v n c g) (hp':PolyV H v' n' c' g') (hc1:c.length<1099511627776) (hc2:∀ r∈c,r.1.length<1099511627776/\∀ z∈r.1,OV z) (hg1:g.length<1099511627776) (hg2:∀ r∈g,r.2.length<1099511627776/\∀ z∈r.2,OV z) :
  Ans tab (.fn iw [v,v']) H fun x H'=>x=.bool (decide (n=n'/\c=c'/\g=g'))/\Kp H H':=by
 obtain ⟨vc,vg,rfl,hc,hg⟩:=hp
 obtain ⟨vc',vg',rfl,hc',hg'⟩:=hp'
 have oc:=hc.one
 have og:=hg.one
 have oc':=hc'.one
 have og':=hg'.one
 refine ca C.facetroomref21_Same (by decide) fun T hl g0 g1=>?_
 by_cases hn:n=n'
 ·subst hn
  refine zW (cJ hl g0 g1 (Oq oc og) (Oq oc' og')) ?_
  refine AnsH.eq (Rk C zF (hc.mono (Kp.sub (H:=H) zK)) (hc'.mono (Kp.sub (H:=H) zK)) hc1 hc2) fun H2 hk2=>?_
  obtain ⟨k2,_,w2⟩:=zT H zK hk2
  have d0:=hk2.get (b:=H.next) (e:=.cells [.int .i64 (n:Int),vc,vg] iK true) (dC)
  have d1:=hk2.get (b:=H.next+1) (e:=.cells [.int .i64 (n:Int),vc',vg'] iK true) (dC)
  by_cases hcc:c=c'
  ·rw [decide_eq_true hcc]
   refine zW (cJ hl g0 g1 d0 d1) ?_
   refine AnsH.eq (Rj C zF ((hg.mono k2.sub).mono (Kp.sub (H:=H2) zK)) ((hg'.mono k2.sub).mono (Kp.sub (H:=H2) zK)) hg1 hg2) fun H3 hk3=>?_
   have k3:Kp H H3:=k2.trans (Kp.trans zK hk3)
   have le_k3:=k3.le
   refine zW (aC hl g0 g1) ?_
   exact ⟨by simp [hcc],zK⟩
  ·rw [decide_eq_false hcc]
   refine zW (aC hl g0 g1) ?_
   exact ⟨by simp [hcc],zK⟩
 ·have hn':¬ (n:Int)=(n':Int):=by omega
  refine zW (fW hl g0 g1 (Oq oc og) (Oq oc' og') hn') ?_
  exact ⟨by simp [hn],zK⟩
theorem sn (C:Code tab) (hw:Wf H) {l:List Int} {ty:Nat} (hs:tX (zi .i64) ty H s l) (h64:l.length<=64) (hz:∀ z∈l,-9223372036854775808<=z/\z<9223372036854775808) :
  Ans tab (.fn fg [s]) H fun v H'=>∃ w,v=.agg [w,.bool false]/\RowV H' w l/\Kp H H':=by
 refine OD C.facetroomlaw21_con (by decide) fun T hl g0=>?_
 refine zW (az hl g0) ?_
 refine AnsH.use (vec_Of C zF (hs.mono (Kp.sub (H:=H) zK)) h64 hz) ?_
 rintro v H2 ⟨hr,hk2⟩
 obtain ⟨k2,_,w2⟩:=zT H zK hk2
 have d0:=hk2.get (b:=H.next) (e:=.cells [.nilSl,.bool false] cA true) (dC)
 have lt0:=w2 _ _ d0
 have ov:=hr.one
 have m3:NoTy (aa :: intE.tys) H2 H.next:=NoTy.ty d0 (by decide)
 refine zW (bg hl g0 d0 (rB ov)) ?_
 exact ⟨v,rfl,SlV.monoT (E:=intE) zS hr,zK⟩
theorem HL (C:Code tab) (hw:Wf H) {l:List Int} {ty:Nat} (hs:tX (zi .i64) ty H s l) (h64:l.length<=64) (hz:∀ z∈l,-9223372036854775808<=z/\z<9223372036854775808) :
  Ans tab (.fn gf [s]) H fun v H'=>∃ w,v=.agg [w,.bool true]/\RowV H' w l/\Kp H H':=by
 refine OD C.facetroomlaw21_eq (by decide) fun T hl g0=>?_
 refine zW (az hl g0) ?_
 refine AnsH.use (vec_Of C zF (hs.mono (Kp.sub (H:=H) zK)) h64 hz) ?_
 rintro v H2 ⟨hr,hk2⟩
 obtain ⟨k2,_,w2⟩:=zT H zK hk2
 have d0:=hk2.get (b:=H.next) (e:=.cells [.nilSl,.bool false] cA true) (dC)
 have lt0:=w2 _ _ d0
 have ov:=hr.one
 have m3:NoTy (aa :: intE.tys) H2 H.next:=NoTy.ty d0 (by decide)
 refine zW (aC hl g0 d0) ?_
 exact ⟨v,rfl,SlV.monoT (E:=intE) zS hr,zK⟩
theorem mc (C:Code tab) (hw:Wf H) {k:Nat} {l:List Int} {ty:Nat} (hs:tX (zi .i64) ty H s l) (h64:l.length<=64) (hz:∀ z∈l,-9223372036854775808<=z/\z<9223372036854775808) :
  Ans tab (.fn fe [.int .u8 (k:Int),s]) H fun v H'=>∃ w,v=.agg [.int .u8 (k:Int),w]/\RowV H' w l/\Kp H H':=by
 refine ca C.facetroomlaw21_gen (by decide) fun T hl g0 g1=>?_
 refine zW (aC hl g0 g1) ?_
 refine AnsH.use (vec_Of C zF (hs.mono (Kp.sub (H:=H) zK)) h64 hz) ?_
 rintro v H2 ⟨hr,hk2⟩
 obtain ⟨k2,_,w2⟩:=zT H zK hk2
 have d0:=hk2.get (b:=H.next) (e:=.cells [.int .u8 0,.nilSl] t_api_Gen true) (dC)
 have lt0:=w2 _ _ d0
 have ov:=hr.one
 have m3:NoTy (aa :: intE.tys) H2 H.next:=NoTy.ty d0 (by decide)
 refine zW (bg hl g0 g1 d0) ?_
 exact ⟨v,rfl,SlV.monoT (E:=intE) zS hr,zK⟩
theorem mS (C:Code tab) (hw:Wf H) {va vb:AV} {m:Nat} {l:List (List Int × Bool)} {g:List (Nat × List Int)} (hs:SlV conE cA H va l) (hg:SlV genE t_api_Gen H vb g) (hlen:l.length<=60) (hrow:∀ c∈l,c.1.length=2/\Lin.Bd (2^m) c.1) (hm:m<=3000) :
  Ans tab (.fn dS [va,vb]) H fun v H'=>v=.bool (decide (Lin.gensP 1 l=g))/\Kp H H':=by
 refine ca C.facetroomlaw21_points (by decide) fun T hl g0 g1=>?_
 refine zW (az hl g0) ?_
 refine AnsH.use (wm C (n:=1) zF (hs.mono (Kp.sub (H:=H) zK)) (by omega) hlen hrow (by omega)) ?_
 rintro v H2 ⟨q,rfl,hq,hk2⟩
 obtain ⟨k2,_,w2⟩:=zT H zK hk2
 have hb:=Qf (n:=1) (by omega) hrow
 refine zW (bg hl g0 g1 g1) ?_
 refine AnsH.eq (Rj C zF (hq.mono (Kp.sub (H:=H2) zK)) ((hg.mono k2.sub).mono (Kp.sub (H:=H2) zK)) ?_ (fun r hr=>⟨by rw [(hb r hr).1]; omega,fun z hz=>(fz (hb r hr).2 z hz).sm (by omega)⟩)) fun H3 hk3=>?_
 ·have hT:=Lin.gens_told (d:=2) (Lin.eqs_len (n:=1) (l:=l) fun c hc=>(hrow c hc).1) (Lin.ineqs_len (n:=1) (l:=l) fun c hc=>(hrow c hc).1)
  have h1:=hT.dd.count3 (Lin.ineqs_len (n:=1) (l:=l) fun c hc=>(hrow c hc).1)
  have h2:=ech_len hT.form
  have h3:=rh (n:=1) l
  simp only [Nat.add_sub_cancel,Nat.pow_one,Nat.reduceSub] at h1
  unfold Lin.gensP
  split
  ·simp only [List.length_append,List.length_map,Nat.reduceAdd]; omega
  ·simp
 have k3:Kp H H3:=k2.trans (Kp.trans zK hk3)
 have le_k3:=k3.le
 refine zW (aC hl g0 g1) ?_
 exact zK
end
section
variable {tab:Nat->Option aq} {H:Heap} {s:AV}
theorem HH {H:Heap} {b:Nat} {v:AV} {x:List Int} {p r:Bool} (h:H.get b=some (.cells [v,.bool p] cA r)) (hv:RowV H v x):SlV conE cA H (.own b 0 1 1 2 true) [(x,p)] :=
 ⟨[_,_],Rd.own h rfl (Nat.le_refl _),fun _ _ _ _ _ _ e=>by cases e; exact ⟨_,_,h⟩,Cells.one (E:=conE) ⟨v,rfl,hv⟩⟩
theorem ME {H:Heap} {b:Nat} {v w:AV} {x y:List Int} {p q r:Bool} (h:H.get b=some (.cells [v,.bool p,w,.bool q] cA r)) (hv:RowV H v x) (hw:RowV H w y):SlV conE cA H (.own b 0 2 2 2 true) [(x,p),(y,q)] :=
 ⟨[_,_,_,_],Rd.own h rfl (Nat.le_refl _),fun _ _ _ _ _ _ e=>by cases e; exact ⟨_,_,h⟩,(Cells.one (E:=conE) ⟨v,rfl,hv⟩).append (Cells.one (E:=conE) ⟨w,rfl,hw⟩)⟩
theorem MD {H:Heap} {b:Nat} {v:AV} {x:List Int} {p:Nat} {r:Bool} (h:H.get b=some (.cells [.int .u8 (p:Int),v] t_api_Gen r)) (hv:RowV H v x):SlV genE t_api_Gen H (.own b 0 1 1 2 true) [(p,x)] :=
 ⟨[_,_],Rd.own h rfl (Nat.le_refl _),fun _ _ _ _ _ _ e=>by cases e; exact ⟨_,_,h⟩,Cells.one (E:=genE) ⟨v,rfl,hv⟩⟩
theorem Kw {H:Heap} {b:Nat} {v w:AV} {x y:List Int} {p q:Nat} {r:Bool} (h:H.get b=some (.cells [.int .u8 (p:Int),v,.int .u8 (q:Int),w] t_api_Gen r)) (hv:RowV H v x) (hw:RowV H w y):SlV genE t_api_Gen H (.own b 0 2 2 2 true) [(p,x),(q,y)] :=
 ⟨[_,_,_,_],Rd.own h rfl (Nat.le_refl _),fun _ _ _ _ _ _ e=>by cases e; exact ⟨_,_,h⟩,(Cells.one (E:=genE) ⟨v,rfl,hv⟩).append (Cells.one (E:=genE) ⟨w,rfl,hw⟩)⟩
theorem BP {A:List (List Int × Bool)} (h:A.all (fun x=>decide (x.1.length=2) && x.1.all (fun a=>decide (a.natAbs<=4)))=true):∀ a∈A,a.1.length=2/\Lin.Bd (2^2) a.1:=fun a ha=>by
 have:=List.all_eq_true.1 h a ha
 simp only [Bool.and_eq_true,decide_eq_true_eq] at this
 exact ⟨this.1,Lin.bd_small2 this.2⟩
theorem AF (C:Code tab) (hw:Wf H):Ans tab (.fn eh []) H fun v H'=>v=.bool true/\Kp H H':=by
 refine Nl C.facetroomlaw21_alive fun T hl=>?_
 refine zW hl ?_
 have e0:Emp (H.up 13) H.next (H.next+13):=Emp.start hw
 refine AnsH.use (sn C (l:=[-1,1]) zF (Rm (by refine qN ?_; rfl)) (by simp) (by simp)) ?_
 rintro _ H2 ⟨v3,rfl,r3,hk2⟩
 obtain ⟨k2,_,w2⟩:=zT H zK hk2
 have e2:Emp H2 (H.next+2) (H.next+13):=(e0.put (by omega) (by omega)).keep hk2
 have n2:=e2.1
 have o3:=r3.one
 refine zW hl ?_
 refine AnsH.use (sn C (l:=[3,-1]) zF (Rm (by refine qN ?_; rfl)) (by simp) (by simp)) ?_
 rintro _ H3 ⟨v5,rfl,r5,hk3⟩
 obtain ⟨k3,_,w3⟩:=zT H zK hk3
 have e3:Emp H3 (H.next+4) (H.next+13):=(e2.put (by omega) (by omega)).keep hk3
 have n3:=e3.1
 have s23:Sub H2 H3:=(e2.sub (p:=H.next+3) (by omega) (by omega)).trans hk3.sub
 have o5:=r5.one
 refine zW hl ?_
 obtain ⟨G3,hG3⟩:∃ G,G=H3.put (H.next+5) (.cells [v3,.bool false,v5,.bool false] cA true):=⟨_,rfl⟩
 rw [<- hG3]
 have e3':Emp G3 (H.next+6) (H.next+13):=by rw [hG3]; exact e3.put (by omega) (by omega)
 have s3:Sub H3 G3:=by rw [hG3]; exact e3.sub (by omega) (by omega)
 have k3':Kp H G3:=by rw [hG3]; exact zK
 have w3':=k3'.wf
 have n3':=e3'.1
 have R1:SlV conE cA G3 (.own (H.next+5) 0 2 2 2 true) [([-1,1],false),([3,-1],false)]:=ME (by rw [hG3]; exact aA _ _ _) (r3.mono (s23.trans s3)) (r5.mono s3)
 refine AnsH.use (mc C (k:=3) (l:=[1,1]) zF (Rm (by refine qN ?_; rfl)) (by simp) (by simp)) ?_
 rintro _ H4 ⟨v8,rfl,r8,hk4⟩
 obtain ⟨k4,_,w4⟩:=zT H zK hk4
 have e4:Emp H4 (H.next+7) (H.next+13):=(e3'.put (by omega) (by omega)).keep hk4
 have n4:=e4.1
 have s4:Sub G3 H4:=(e3'.sub (p:=H.next+6) (by omega) (by omega)).trans hk4.sub
 have o8:=r8.one
 refine zW hl ?_
 refine AnsH.use (mc C (k:=3) (l:=[1,3]) zF (Rm (by refine qN ?_; rfl)) (by simp) (by simp)) ?_
 rintro _ H5 ⟨v10,rfl,r10,hk5⟩
 obtain ⟨k5,_,w5⟩:=zT H zK hk5
 have e5:Emp H5 (H.next+9) (H.next+13):=(e4.put (by omega) (by omega)).keep hk5
 have n5:=e5.1
 have s5:Sub H4 H5:=(e4.sub (p:=H.next+8) (by omega) (by omega)).trans hk5.sub
 have o10:=r10.one
 refine zW hl ?_
 obtain ⟨G5,hG5⟩:∃ G,G=H5.put (H.next+10) (.cells [.int .u8 ((3:Nat):Int),v8,.int .u8 ((3:Nat):Int),v10] t_api_Gen true):=⟨_,rfl⟩
 rw [<- hG5]
 have s5':Sub H5 G5:=by rw [hG5]; exact e5.sub (by omega) (by omega)
 have k5':Kp H G5:=by rw [hG5]; exact zK
 have w5':=k5'.wf
 have R2:SlV genE t_api_Gen G5 (.own (H.next+10) 0 2 2 2 true) [(3,[1,1]),(3,[1,3])]:=Kw (by rw [hG5]; exact aA _ _ _) (r8.mono (s5.trans s5')) (r10.mono s5')
 have R1':=R1.mono ((s4.trans s5).trans s5')
 refine AnsH.eq (mS C (m:=2) zF R1' R2 (by simp) (BP (by decide)) (by omega)) fun H6 hk6=>?_
 obtain ⟨k6,_,w6⟩:=zT H zK hk6
 rw [decide_eq_true Lin.pt1]
 have f0:Emp (H6.up 28) H6.next (H6.next+28):=Emp.start w6
 refine zW hl ?_
 refine AnsH.use (HL C (l:=[-1,2]) zF (Rm (by refine qN ?_; rfl)) (by simp) (by simp)) ?_
 rintro _ H7 ⟨v16,rfl,r16,hk7⟩
 obtain ⟨k7,_,w7⟩:=zT H zK hk7
 have f7:Emp H7 (H6.next+3) (H6.next+28):=(f0.put (by omega) (by omega)).keep hk7
 have n7:=f7.1
 have o16:=r16.one
 refine zW hl ?_
 obtain ⟨G7,hG7⟩:∃ G,G=H7.put (H6.next+4) (.cells [v16,.bool true] cA true):=⟨_,rfl⟩
 rw [<- hG7]
 have f7':Emp G7 (H6.next+5) (H6.next+28):=by rw [hG7]; exact f7.put (by omega) (by omega)
 have s7:Sub H7 G7:=by rw [hG7]; exact f7.sub (by omega) (by omega)
 have k7':Kp H G7:=by rw [hG7]; exact zK
 have w7':=k7'.wf
 have n7':=f7'.1
 have R3:SlV conE cA G7 (.own (H6.next+4) 0 1 1 2 true) [([-1,2],true)]:=HH (by rw [hG7]; exact aA _ _ _) (r16.mono s7)
 refine AnsH.use (mc C (k:=3) (l:=[2,1]) zF (Rm (by refine qN ?_; rfl)) (by simp) (by simp)) ?_
 rintro _ H8 ⟨v19,rfl,r19,hk8⟩
 obtain ⟨k8,_,w8⟩:=zT H zK hk8
 have f8:Emp H8 (H6.next+6) (H6.next+28):=(f7'.put (by omega) (by omega)).keep hk8
 have n8:=f8.1
 have s8:Sub G7 H8:=(f7'.sub (p:=H6.next+5) (by omega) (by omega)).trans hk8.sub
 have o19:=r19.one
 refine zW hl ?_
 obtain ⟨G8,hG8⟩:∃ G,G=H8.put (H6.next+7) (.cells [.int .u8 ((3:Nat):Int),v19] t_api_Gen true):=⟨_,rfl⟩
 rw [<- hG8]
 have f8':Emp G8 (H6.next+8) (H6.next+28):=by rw [hG8]; exact f8.put (by omega) (by omega)
 have s8':Sub H8 G8:=by rw [hG8]; exact f8.sub (by omega) (by omega)
 have k8':Kp H G8:=by rw [hG8]; exact zK
 have w8':=k8'.wf
 have n8':=f8'.1
 have R4:SlV genE t_api_Gen G8 (.own (H6.next+7) 0 1 1 2 true) [(3,[2,1])]:=MD (by rw [hG8]; exact aA _ _ _) (r19.mono s8')
 refine AnsH.eq (mS C (m:=2) zF (R3.mono (s8.trans s8')) R4 (by simp) (BP (by decide)) (by omega)) fun H9 hk9=>?_
 obtain ⟨k9,_,w9⟩:=zT H zK hk9
 have f9:Emp H9 (H6.next+8) (H6.next+28):=f8'.keep hk9
 have n9:=f9.1
 rw [decide_eq_true Lin.pt2]
 refine zW hl ?_
 refine AnsH.use (sn C (l:=[0,1]) zF (Rm (by refine qN ?_; rfl)) (by simp) (by simp)) ?_
 rintro _ H10 ⟨v25,rfl,r25,hk10⟩
 obtain ⟨k10,_,w10⟩:=zT H zK hk10
 have f10:Emp H10 (H6.next+12) (H6.next+28):=(f9.put (by omega) (by omega)).keep hk10
 have n10:=f10.1
 have o25:=r25.one
 refine zW hl ?_
 obtain ⟨G10,hG10⟩:∃ G,G=H10.put (H6.next+13) (.cells [v25,.bool false] cA true):=⟨_,rfl⟩
 rw [<- hG10]
 have f10':Emp G10 (H6.next+14) (H6.next+28):=by rw [hG10]; exact f10.put (by omega) (by omega)
 have s10:Sub H10 G10:=by rw [hG10]; exact f10.sub (by omega) (by omega)
 have k10':Kp H G10:=by rw [hG10]; exact zK
 have w10':=k10'.wf
 have n10':=f10'.1
 have R5:SlV conE cA G10 (.own (H6.next+13) 0 1 1 2 true) [([0,1],false)]:=HH (by rw [hG10]; exact aA _ _ _) (r25.mono s10)
 refine AnsH.use (mc C (k:=2) (l:=[0,1]) zF (Rm (by refine qN ?_; rfl)) (by simp) (by simp)) ?_
 rintro _ H11 ⟨v28,rfl,r28,hk11⟩
 obtain ⟨k11,_,w11⟩:=zT H zK hk11
 have f11:Emp H11 (H6.next+15) (H6.next+28):=(f10'.put (by omega) (by omega)).keep hk11
 have n11:=f11.1
 have s11:Sub G10 H11:=(f10'.sub (p:=H6.next+14) (by omega) (by omega)).trans hk11.sub
 have o28:=r28.one
 refine zW hl ?_
 refine AnsH.use (mc C (k:=3) (l:=[1,0]) zF (Rm (by refine qN ?_; rfl)) (by simp) (by simp)) ?_
 rintro _ H12 ⟨v30,rfl,r30,hk12⟩
 obtain ⟨k12,_,w12⟩:=zT H zK hk12
 have f12:Emp H12 (H6.next+17) (H6.next+28):=(f11.put (by omega) (by omega)).keep hk12
 have n12:=f12.1
 have s12:Sub H11 H12:=(f11.sub (p:=H6.next+16) (by omega) (by omega)).trans hk12.sub
 have o30:=r30.one
 refine zW hl ?_
 obtain ⟨G12,hG12⟩:∃ G,G=H12.put (H6.next+18) (.cells [.int .u8 ((2:Nat):Int),v28,.int .u8 ((3:Nat):Int),v30] t_api_Gen true):=⟨_,rfl⟩
 rw [<- hG12]
 have f12':Emp G12 (H6.next+19) (H6.next+28):=by rw [hG12]; exact f12.put (by omega) (by omega)
 have s12':Sub H12 G12:=by rw [hG12]; exact f12.sub (by omega) (by omega)
 have k12':Kp H G12:=by rw [hG12]; exact zK
 have w12':=k12'.wf
 have n12':=f12'.1
 have R6:SlV genE t_api_Gen G12 (.own (H6.next+18) 0 2 2 2 true) [(2,[0,1]),(3,[1,0])]:=Kw (by rw [hG12]; exact aA _ _ _) (r28.mono (s12.trans s12')) (r30.mono s12')
 refine AnsH.eq (mS C (m:=2) zF (R5.mono ((s11.trans s12).trans s12')) R6 (by simp) (BP (by decide)) (by omega)) fun H13 hk13=>?_
 obtain ⟨k13,_,w13⟩:=zT H zK hk13
 have f13:Emp H13 (H6.next+19) (H6.next+28):=f12'.keep hk13
 have n13:=f13.1
 rw [decide_eq_true Lin.pt3]
 refine zW hl ?_
 refine AnsH.use (vec_Of C (l:=[1,2]) zF (Rm (by refine qN ?_; rfl)) (by simp) (by simp)) ?_
 rintro v36 H14 ⟨r36,hk14⟩
 obtain ⟨k14,_,_⟩:=zT H zK hk14
 have l36:lenV v36=some (.int .i64 2):=r36.lenV
 refine zW (az hl l36) ?_
 exact zK
theorem QU {many lim:Nat} {r:List (Bool × List Nat)} (h:lJ many lim r=false):r.length<=many/\∀ z∈r,z.2.length<=lim:=by
 unfold lJ at h
 rw [Bool.or_eq_false_iff,decide_eq_false_iff_not,List.any_eq_false] at h
 refine ⟨by omega,fun z hz=>?_⟩
 have:=h.2 z hz
 simp only [decide_eq_true_eq] at this
 omega
theorem km {n:Nat} {l:List sQ} (h:fo n l=false):l.length<=n/\∀ c∈l,c.1.length<=5/\∀ z∈c.1,z.2.length<=1:=by
 unfold fo at h
 rw [Bool.or_eq_false_iff,decide_eq_false_iff_not,List.any_eq_false] at h
 exact ⟨by omega,fun c hc=>QU (by simpa using h.2 c hc)⟩
theorem NY {n:Nat} {l:List Of} (h:x9 n l=false):l.length<=n/\∀ c∈l,c.2.length<=5/\∀ z∈c.2,z.2.length<=1:=by
 unfold x9 at h
 rw [Bool.or_eq_false_iff,decide_eq_false_iff_not,List.any_eq_false] at h
 exact ⟨by omega,fun c hc=>QU (by simpa using h.2 c hc)⟩
theorem fA {n:Nat} {l:List Of} (h:x9 n l=false):∀ c∈l,xq c.2:=fun c hc=>by
 obtain ⟨h1,h2⟩:=(NY h).2 c hc
 exact ⟨by omega,fun z hz=>by have:=h2 z hz; omega⟩
abbrev e7 (c:Of):Nat × List Int:=(c.1,c.2.map cU)
theorem LA {r:List (Bool × List Nat)} (hl:∀ z∈r,Lim z.2/\z.2.length<=1):Lin.Bd (2^64) (r.map cU):=fun i=>by
 unfold Lin.at_
 rw [List.getD_eq_getElem?_getD]
 cases hi:(r.map cU)[i]? with
 | none=>simp
 | some z =>
  obtain ⟨x,hx,rfl⟩:=List.mem_map.1 (List.mem_of_getElem? hi)
  have:=La (n:=1) (hl x hx).1 (hl x hx).2
  unfold Bt at this
  simp only [Nat.mul_one] at this
  simp only [Option.getD_some]
  omega
theorem JJ {r:List (Bool × List Nat)} (h:yT r=true):∀ z∈r,pC z=false:=by
 simp only [yT,Bool.and_eq_true,Bool.not_eq_true',List.any_eq_false,Bool.not_eq_true] at h
 exact h.2
end
section
variable {tab:Nat->Option aq} {H:Heap} {s:AV}
end
section
open Lin
theorem N5 {r:V} (h:∀ z∈r.map jv,z.2.length<=1):Bd (2^64) r:=fun i=>by
 unfold at_
 rw [List.getD_eq_getElem?_getD]
 cases hi:r[i]? with
 | none=>simp
 | some z =>
  have h1:=h (jv z) (List.mem_map.2 ⟨z,List.mem_of_getElem? hi,rfl⟩)
  have h2:z.natAbs<B^1:=xN (n:=z.natAbs) h1
  have h3:B^1=2^64:=by decide
  simp only [Option.getD_some]
  omega
theorem N7 {c:List (V × Bool)} {g:List (Nat × V)} (h:NV c g=false):(c.length<=9/\∀ x∈c,x.1.length<=5/\Bd (2^64) x.1)/\g.length<=9/\∀ x∈g,x.2.length<=5/\Bd (2^64) x.2:=by
 unfold NV at h
 rw [Bool.or_eq_false_iff] at h
 obtain ⟨h1,h2⟩:=km h.1
 obtain ⟨h3,h4⟩:=NY h.2
 rw [List.length_map] at h1 h3
 refine ⟨⟨h1,fun x hx=>?_⟩,h3,fun x hx=>?_⟩
 ·obtain ⟨q1,q2⟩:=h2 _ (List.mem_map.2 ⟨x,hx,rfl⟩)
  simp only [List.length_map] at q1
  exact ⟨q1,N5 q2⟩
 ·obtain ⟨q1,q2⟩:=h4 _ (List.mem_map.2 ⟨x,hx,rfl⟩)
  simp only [List.length_map] at q1
  exact ⟨q1,N5 q2⟩
end
section
variable {tab:Nat->Option aq} {H:Heap} {s:AV}
end
section
open Lin
theorem fS {r:V} (h:0<r.length):hd1 r=r[0]:=by
 cases r with
 | nil=>simp at h
 | cons a r=>rfl
theorem gR {m n:Int} {x y:V} (h:x.length=y.length) (h0:0<x.length):hd1 (mix m x n y)=m*hd1 x+n*hd1 y:=by
 cases x with
 | nil=>simp at h0
 | cons a x =>
  cases y with
  | nil=>simp at h
  | cons b y=>rfl
theorem gG {M:Nat} {r:V} (h:Bd M r) (h0:0<r.length):(hd1 r).natAbs<=M:=by
 have:=h 0
 cases r with
 | nil=>simp at h0
 | cons a r=>exact this
theorem gB {m n:Int} {x y:V} (h:x.length=y.length) (hm:m.natAbs<=2^64) (hn:n.natAbs<=2^64) (hx:Bd (2^64) x) (hy:Bd (2^64) y):Bd (2^129) (mix m x n y):=fun i=>by
 rw [aj h]
 have h1:=hx i
 have h2:=hy i
 have h3:m.natAbs*(at_ x i).natAbs<=2^64*2^64:=Nat.mul_le_mul hm h1
 have h4:n.natAbs*(at_ y i).natAbs<=2^64*2^64:=Nat.mul_le_mul hn h2
 have h5:(m*at_ x i+n*at_ y i).natAbs<=(m*at_ x i).natAbs+(n*at_ y i).natAbs:=Int.natAbs_add_le _ _
 rw [Int.natAbs_mul,Int.natAbs_mul] at h5
 have h6:(2:Nat)^64*2^64+2^64*2^64<=2^129:=by decide
 omega
theorem RO {a b:Nat} {x:V} (h:Bd (2^a) x) (hab:a<=b):Bd (2^b) x:=fun i=>Nat.le_trans (h i) (Nat.pow_le_pow_right (by decide) hab)
theorem Sc {n:Nat} {g:List (Nat × V)} (hg:ValidG n g):(consP n g).length<=2^g.length+n+1:=by
 have e1:∀ a∈linesOf g,a.length=n+1:=fun a ha=>(hg _ (mem_lines.1 ha)).1
 have e2:∀ a∈raysOf g,a.length=n+1:=fun a ha=>by obtain ⟨k,-,h⟩:=mem_rays.1 ha; exact (hg _ h).1
 have t:=gens_told e1 e2
 have h1:=t.dd.count
 have h2:=Ev.ech_len t.form
 have h3:2^(raysOf g).length<=2^g.length:=Nat.pow_le_pow_right (by decide) (Ev.rays_le g)
 unfold consP
 split
 ·rw [List.length_append,List.length_map,List.length_map]
  have:=List.length_filter_le (fun r:V=>!decide (r=unitC n 1)) (gensR (n+1) (linesOf g) (raysOf g))
  omega
 ·show 1<=_
  omega
end
section
variable {tab:Nat->Option aq} {H:Heap} {s:AV}
theorem fG {d:Int} {n:Nat} {l:List Of} (hs:SlV genQE t_api_Gen H s l) (gl:∀ r∈l,mX r.2) (hg:x9 n l=false) (h4:¬ 4<d) (hn:n<=60) :
  PI d l≠0\/∃ k:Nat,d=(k:Int)/\k<=4/\SlV genE t_api_Gen H s (l.map e7)/\l.length<=n/\Lin.ValidG k (l.map e7)/\(∀ x∈l.map e7,x.1=1\/x.1=2\/x.1=3)/\∀ x∈l.map e7,Lin.Bd (2^64) x.2:=by
 by_cases hc:PI d l=0
 ·refine .inr ?_
  obtain ⟨h1,h2⟩:=NY hg
  unfold PI at hc
  split at hc
  ·omega
  split at hc
  ·omega
  split at hc
  ·omega
  split at hc
  ·omega
  rename_i q1 q2 q3 q4
  have q3:∀ c∈l,Og c=false:=fun c hc=>by
   cases hok:Og c with
   | false=>rfl
   | true=>exact absurd (List.any_eq_true.2 ⟨c,hc,hok⟩) q3
  have q4:∀ c∈l,(c.2.length:Int)=d+1:=fun c hc=>by
   apply Classical.byContradiction
   intro hn
   exact q4 (List.any_eq_true.2 ⟨c,hc,by simpa using hn⟩)
  have ok:∀ c∈l,yT c.2=true/\Hu (c.1,c.2.map cU)=false:=fun c hc=>by
   have:=q3 c hc
   unfold Og at this
   rw [Bool.or_eq_false_iff] at this
   exact ⟨by simpa using this.1,this.2⟩
  refine ⟨d.toNat,by omega,by omega,gm hs fun r hr z hz=>⟨JJ (ok r hr).1 z hz,((gl r hr).1 z hz).1⟩,h1,fun c hc=>?_,fun c hc=>?_,fun c hc=>?_⟩
  ·obtain ⟨x,hx,rfl⟩:=List.mem_map.1 hc
   have hl:=q4 x hx
   have ho:=(ok x hx).2
   unfold Hu at ho
   refine ⟨by show (x.2.map cU).length=_; rw [List.length_map]; omega,fun e=>?_,fun e=>?_⟩
   ·have e:x.1=3:=e
    rw [if_neg (by simp only; omega),if_pos e] at ho
    have:=of_decide_eq_false ho
    show 0<Lin.hd1 (x.2.map cU)
    simp only at this
    omega
   ·have e:x.1≠3:=e
    split at ho
    ·have:=of_decide_eq_false ho
     show Lin.hd1 (x.2.map cU)=0
     simp only at this
     omega
    ·cases ho
  ·obtain ⟨x,hx,rfl⟩:=List.mem_map.1 hc
   have ho:=(ok x hx).2
   unfold Hu at ho
   show x.1=1\/x.1=2\/x.1=3
   split at ho
   ·rename_i h; simp only at h; omega
   ·split at ho
    ·rename_i h; simp only at h; omega
    ·cases ho
  ·obtain ⟨x,hx,rfl⟩:=List.mem_map.1 hc
   exact LA fun z hz=>⟨((gl x hx).1 z hz).1,(h2 x hx).2 z hz⟩
 ·exact .inl hc
set_option maxHeartbeats 20000000 in
theorem dP (C:Code tab) (hw:Wf H) {d:Int} {ii kk:Nat} {l:List Of} (hs:SlV genQE t_api_Gen H s l) (gl:∀ r∈l,mX r.2) (_ : -9223372036854775808<=d/\d<9223372036854775808) (hii:ii<256) (hkk:kk<256) :
  Ans tab (.fn fh [.int .i64 d,s,.int .u8 (ii:Int),.int .u8 (kk:Int)]) H fun v H'=>v=.bool true/\Kp H H':=by
 refine xw C.facetroomlaw21_DualSpans rfl rfl (by decide) fun T hl g=>?_
 have hl:T.length=136:=hl
 have hrs:c_facetroomlaw21_DualSpans.results=[(8,none)]:=rfl
 have g0:ae T 0=.int .i64 d:=g 0 (by simp)
 have g1:ae T 1=s:=g 1 (by simp)
 have g2:ae T 2=.int .u8 (ii:Int):=g 2 (by simp)
 have g3:ae T 3=.int .u8 (kk:Int):=g 3 (by simp)
 refine br ?_
 refine zW (az hl @aK) ?_
 refine br ?_
 refine zW hl ?_
 refine AnsH.eq (AF C zF) fun H2 hk2=>?_
 obtain ⟨k2,_,w2⟩:=zT H zK hk2
 refine zW (az hl @aK) ?_
 refine br ?_
 refine zW (az hl g1) ?_
 refine AnsH.eq (NX C (n:=6) zF (hs.mono (Kp.sub (H:=H) zK)) (by omega)) fun H3 hk3=>?_
 obtain ⟨k3,_,w3⟩:=zT H zK hk3
 cases q1:x9 6 l with
 | true =>
  refine zW (aC hl @nM hrs) ?_
  exact zK
 | false =>
 by_cases q2:4<d
 ·refine zW (cJ hl g0 q2 @nM hrs) ?_
  exact zK
 refine zW (bg hl g0 q2 @aK) ?_
 refine br ?_
 refine zW (aC hl g0 g1) ?_
 rcases fG hs gl q1 q2 (by omega) with hbad | ⟨n,rfl,n4,hsl,ll,hv,hkd,hbd⟩
 ·refine AnsH.use (eG C zF (hs.mono (Kp.sub (H:=H) zK)) (fA q1) (fun c hc z hz=>⟨((gl c hc).1 z hz).1,by have:=((NY q1).2 c hc).2 z hz; omega⟩) (by have:=(NY q1).1; omega) hbad) ?_
  rintro v H4 ⟨rfl,hk4⟩
  obtain ⟨k4,_,w4⟩:=zT H zK hk4
  have n4:H3.next+9<=H4.next:=hk4.le
  have hbad:¬ PI d l=0:=hbad
  refine zW (aC hl @ND @aK) ?_
  refine br ?_
  refine zW (bg hl hbad @nM hrs) ?_
  exact zK
 obtain ⟨g',hg'⟩:∃ g',g'=l.map e7:=⟨_,rfl⟩
 have len':g'.length=l.length:=by rw [hg',List.length_map]
 rw [<- hg'] at hsl hv hkd hbd
 have hrow:∀ x∈g',x.2.length=n+1/\Lin.Bd (2^64) x.2:=fun x hx=>⟨(hv x hx).1,hbd x hx⟩
 have hAb:=Ik (by omega) hrow
 have hGb:=Qf (by omega) hAb
 have lfew:=Sc hv
 have h26:2^g'.length<=2^6:=Nat.pow_le_pow_right (by decide) (by omega)
 refine AnsH.use (N8 C (m:=64) (m2:=64*(64+4)) (m3:=64*(64*(64+4)+4)) zF (hsl.mono (Kp.sub (H:=H) zK)) n4 (by omega) hv hkd hbd (by omega) (fun x hx=>(hAb x hx).2) (by omega) (fun x hx=>(hGb x hx).2) (by omega) (.inl (by omega))) ?_
 rintro v H4 ⟨hm,hk4⟩
 obtain ⟨k34,_,_⟩:=zT H3 zK hk4
 have k4:Kp H H4:=k3.trans k34
 have le_k4:=k4.le
 have w4:=k4.wf
 have n4':H3.next+9<=H4.next:=hk4.le
 have f4:H4.get (H3.next+6)=none:=hk4.free (show H3.next+6<H3.next+9 by omega) (w3.fresh (b:=H3.next+6) (by omega))
 obtain ⟨A,hA⟩:∃ A,A=Lin.consP n g':=⟨_,rfl⟩
 have hm:v=.tup [Hw,.int .i64 4]\/∃ p,v=.tup [p,.int .i64 0]/\PolyV H4 p n (Lin.consP n (Lin.gensP n A)) (Lin.gensP n A):=by
  rw [hA]
  rcases hm with ⟨h,-⟩ | ⟨h,-⟩ | ⟨p,h,h2,-,-⟩
  ·exact .inl h
  ·exact .inl h
  ·exact .inr ⟨p,h,h2⟩
 rcases hm with rfl | ⟨p,rfl,vc,vg,rfl,hc,hgg⟩
 ·refine zW (aC hl @ND @aK) ?_
  refine br ?_
  refine zW (aC hl @nM hrs) ?_
  exact zK
 have oc:=hc.one
 have og:=hgg.one
 have hspan:=fun hne {x} (hx:x∈g') {c} hc=>Lin.poly_spans (n:=n) (g:=g') hv hne hx (c:=c) hc
 rw [<- hA] at hspan hAb hGb lfew
 have hKb:=Ik (by omega) hGb
 obtain ⟨G,hG⟩:∃ G,G=Lin.gensP n A:=⟨_,rfl⟩
 obtain ⟨K,hK⟩:∃ K,K=Lin.consP n G:=⟨_,rfl⟩
 rw [<- hG] at hc hgg hGb hspan hKb
 rw [<- hK] at hc hspan hKb
 obtain ⟨H5,hH5⟩:∃ H5,H5=(H4.put (H3.next+6) (.cells [.int .i64 0,.nilSl,.nilSl] iK true)).put (H3.next+6) (.cells [.int .i64 (n:Int),vc,vg] iK true):=⟨_,rfl⟩
 have s45:Sub H4 H5:=by rw [hH5]; exact (bh f4).put f4 _
 have k5:Kp H H5:=by rw [hH5]; exact zK
 have le_k5:=k5.le
 have w5:=k5.wf
 have d10:H5.get (H3.next+6)=some (.cells [.int .i64 (n:Int),vc,vg] iK true):=by rw [hH5]; exact aA _ _ _
 have hc5:=hc.mono s45
 have hg5:=hgg.mono s45
 have hsl5:=(hsl.mono k4.sub).mono s45
 obtain ⟨ub,hub⟩:∃ ub,ub=H3.next+6:=⟨_,rfl⟩
 refine zW (aC hl @ND @aK) ?_
 rw [<- hH5]
 rw [<- hub] at d10 ⊢
 refine br ?_
 refine zW (az hl d10) ?_
 refine AnsH.eq (Oc C (n:=n) (c:=K) (g:=G) zF ⟨vc,vg,rfl,hc5.mono (Kp.sub (H:=H5) zK),hg5.mono (Kp.sub (H:=H5) zK)⟩) fun H6 hk6=>?_
 obtain ⟨k56,_,_⟩:=zT H5 zK hk6
 have k6:Kp H H6:=k5.trans k56
 have le_k6:=k6.le
 have w6:=k6.wf
 cases hgp:NV K G with
 | true =>
  refine zW (aC hl @nM hrs) ?_
  exact zK
 | false =>
 obtain ⟨⟨lK,bK⟩,lG,bG⟩:=N7 hgp
 have hKl:∀ c∈K,c.1.length=n+1/\Lin.Bd (2^64) c.1:=fun c hc=>⟨(hKb c hc).1,(bK c hc).2⟩
 have hGl:∀ x∈G,x.2.length=n+1/\Lin.Bd (2^64) x.2:=fun x hx=>⟨(hGb x hx).1,(bG x hx).2⟩
 have smK:∀ r∈K,r.1.length<1099511627776/\∀ z∈r.1,OV z:=fun r hr=>⟨by rw [(hKl r hr).1]; omega,fun z hz=>(fz (hKl r hr).2 z hz).sm (by omega)⟩
 have smG:∀ r∈G,r.2.length<1099511627776/\∀ z∈r.2,OV z:=fun r hr=>⟨by rw [(hGl r hr).1]; omega,fun z hz=>(fz (hGl r hr).2 z hz).sm (by omega)⟩
 have d10b:=k56.get d10
 have hc6:=hc5.mono k56.sub
 have hg6:=hg5.mono k56.sub
 have hsl6:=hsl5.mono k56.sub
 refine zW (az hl @aK) ?_
 refine br ?_
 by_cases h0:(G.length:Int)=0
 ·have hG0:G=[]:=List.length_eq_zero_iff.1 (by omega)
  have hK0:K.length=1:=by rw [hK,hG0]; rfl
  have hK1:(K.length:Int)=1:=by omega
  refine zW (mw hl d10b hg6.lenV hc6.lenV h0 hK1 @nM hrs) ?_
  exact zK
 have hne:G≠[]:=fun e=>h0 (by rw [e]; rfl)
 have g0':0<g'.length:=by
  rcases Nat.eq_zero_or_pos g'.length with e | e
  ·exfalso
   have e:=List.length_eq_zero_iff.1 e
   refine hne ?_
   rw [hG,hA,e]
   exact Lin.none_empty
  ·exact e
 refine zW (cJ hl d10b hg6.lenV h0 @aK) ?_
 refine OF (fun T' H'=>Kp H6 H') rfl ?_ ?_
 ·refine zW hl ?_
  refine bf H6 [12] (fun r vs H'=>∃ i:Nat,vs=[.int .i64 (i:Int)]/\i+r=g'.length) g'.length (by simp only [List.length_set]; exact hl) rfl zK ⟨0,by refine zW hl ?_; rfl,by omega⟩ ?_
  rintro r T6 H7 hl6 hs6 hk7 ⟨i,hvv,hir⟩
  have w7:=hk7.wf
  have le_hk7:=hk7.le
  have le7:=hk7.le
  simp only [List.map_cons,List.map_nil,List.cons.injEq,and_true] at hvv
  have u1:ae T6 1=s:=(hs6.at_ 1 (by decide)).trans (zV (az hl g1))
  have u10:ae T6 10=.ptr ub 0:=(hs6.at_ 10 (by decide)).trans (zV hl)
  have d7:=hk7.get d10b
  have hc7:=hc6.mono hk7.sub
  have hs7:=hsl6.mono hk7.sub
  by_cases hi:i<g'.length
  ·have hiI:(i:Int)<(g'.length:Int):=by omega
   have mi:=List.getElem_mem hi
   obtain ⟨cs,⟨w,rfl,hr⟩,-,-,hldg⟩:=hs7.at (List.getElem?_eq_getElem hi)
   have hldg:aZ H7 (some 2) (al s (i*2))=some (.agg [.int .u8 (g'[i].1:Int),w]):=hldg
   have ixg:Ox 2 s (.int .i64 (i:Int))=some (al s (i*2)):=SlV.idx hs7 .i64 i hi
   have ei:IntKind.i64.wrap ((i:Int)+1)=((i+1:Nat):Int):=by rw [wrap_i64] <;> omega
   refine zW (fW hl6 hvv u1 hs7.lenV hiI hi) ?_
   refine bf H7 [13] (fun r vs H'=>∃ j:Nat,vs=[.int .i64 (j:Int)]/\j+r=K.length) K.length (by simp only [List.length_set]; exact hl6) rfl zK ⟨0,by refine zW hl6 ?_; rfl,by omega⟩ ?_
   rintro r3 T8 H10 hl8 hs8 hk10 ⟨j,hv2,hjr⟩
   have w10:=hk10.wf
   have le_hk10:=hk10.le
   have le10:=hk10.le
   simp only [List.map_cons,List.map_nil,List.cons.injEq,and_true] at hv2
   have y1:ae T8 1=s:=(hs8.at_ 1 (by decide)).trans (zV (az hl6 u1))
   have y10:ae T8 10=.ptr ub 0:=(hs8.at_ 10 (by decide)).trans (zV (az hl6 u10))
   have y12:ae T8 12=.int .i64 (i:Int):=(hs8.at_ 12 (by decide)).trans (zV (az hl6 hvv))
   have d10':=hk10.get d7
   by_cases hj:j<K.length
   ·have hjj:(j:Int)<(K.length:Int):=by omega
    have mj:=List.getElem_mem hj
    obtain ⟨cs,⟨w',rfl,hr'⟩,-,-,hldc⟩:=(hc7.mono hk10.sub).at (List.getElem?_eq_getElem hj)
    have hldc:aZ H10 (some 2) (al vc (j*2))=some (.agg [w',.bool K[j].2]):=hldc
    have hldg8:=aH hk10.sub hldg
    have ixc:Ox 2 vc (.int .i64 (j:Int))=some (al vc (j*2)):=SlV.idx hc7 .i64 j hj
    have ej:IntKind.i64.wrap ((j:Int)+1)=((j+1:Nat):Int):=by rw [wrap_i64] <;> omega
    refine zW (jm hl8 hv2 y10 d10' hc7.lenV hjj hj) ?_
    refine aO ?_
    refine zD (nE hl8 hv2 y1 y10 y12 d10' ixc ixg hldc hldg8) ?_
    refine AnsH.eq (kI C (b:=K[j].2) (k:=g'[i].1) (a:=K[j].1) (r:=g'[i].2) (e:=65) (f:=65) zF (hr'.mono (Kp.sub (H:=H10) zK)) ((hr.mono hk10.sub).mono (Kp.sub (H:=H10) zK)) ((hKl _ mj).1.trans (hrow _ mi).1.symm) (by rw [(hKl _ mj).1]; omega) (fun z hz=>fz (hKl _ mj).2 z hz) (fun z hz=>fz (hrow _ mi).2 z hz) (by omega)) fun H9 hk9=>?_
    obtain ⟨k89,_,_⟩:=zT H10 zK hk9
    have k79:Kp H7 H9:=hk10.trans k89
    have le_k79:=k79.le
    have d9:=k89.get d10'
    have hldc9:=aH k89.sub hldc
    have hldg9:=aH k89.sub hldg8
    have hke:Lin.keepsP (K[j].1,K[j].2) (g'[i].1,g'[i].2)=true:=hspan hne mi mj
    rw [hke]
    refine zD (Eh hl8 hv2 y1 y10 y12 d10' ixc ixg hldc hldg8 d9 hldc9 hldg9 ej) ?_
    exact ⟨zK,r3-1,by omega,j+1,rfl,by omega⟩
   ·have hjj:¬ (j:Int)<(K.length:Int):=by omega
    refine zW (kU hl8 hv2 y10 y12 d10' hc7.lenV hjj hj ei) ?_
    have k610:Kp H6 H10:=hk7.trans hk10
    have le_k610:=k610.le
    exact ⟨zK,r-1,by omega,i+1,rfl,by omega⟩
  ·have hiI:¬ (i:Int)<(g'.length:Int):=by omega
   refine zW (jm hl6 hvv u1 hs7.lenV hiI hi @aQ) ?_
   exact zK
 rintro T6 H7 hs6 k67
 have w7:=k67.wf
 have le7:=k67.le
 have hl6:T6.length=136:=hs6.len.trans (by simp only [List.length_set]; exact hl)
 have t0:ae T6 0=.int .i64 (n:Int):=(hs6.at_ 0 (by decide)).trans (zV (az hl g0))
 have t1:ae T6 1=s:=(hs6.at_ 1 (by decide)).trans (zV (az hl g1))
 have t2:ae T6 2=.int .u8 (ii:Int):=(hs6.at_ 2 (by decide)).trans (zV (az hl g2))
 have t3:ae T6 3=.int .u8 (kk:Int):=(hs6.at_ 3 (by decide)).trans (zV (az hl g3))
 have t10:ae T6 10=.ptr ub 0:=(hs6.at_ 10 (by decide)).trans (zV hl)
 have k7:Kp H H7:=k6.trans k67
 have le_k7:=k7.le
 have hs7:=hsl6.mono k67.sub
 have d7:=k67.get d10b
 have lt7:=w7 _ _ d7
 obtain ⟨ia,hia⟩:∃ ia,ia=ii % g'.length:=⟨_,rfl⟩
 obtain ⟨ib,hib⟩:∃ ib,ib=kk % g'.length:=⟨_,rfl⟩
 have la:ia<g'.length:=by rw [hia]; exact Nat.mod_lt _ g0'
 have lb:ib<g'.length:=by rw [hib]; exact Nat.mod_lt _ g0'
 have ma:=List.getElem_mem la
 have mb:=List.getElem_mem lb
 have ra:bP .rem .int (.int .i64 (ii:Int)) (.int .i64 (g'.length:Int))=some (.int .i64 (ia:Int)):=by rw [hia]; exact Hf g0'
 have rb:bP .rem .int (.int .i64 (kk:Int)) (.int .i64 (g'.length:Int))=some (.int .i64 (ib:Int)):=by rw [hib]; exact Hf g0'
 have ea:IntKind.i64.wrap (ii:Int)=(ii:Int):=by rw [wrap_i64] <;> omega
 have eb:IntKind.i64.wrap (kk:Int)=(kk:Int):=by rw [wrap_i64] <;> omega
 obtain ⟨_,⟨wa,rfl,hra⟩,-,-,lda⟩:=hs7.at (List.getElem?_eq_getElem la)
 obtain ⟨_,⟨wb,rfl,hrb⟩,-,-,ldb⟩:=hs7.at (List.getElem?_eq_getElem lb)
 have lda:aZ H7 (some 2) (al s (ia*2))=some (.agg [.int .u8 (g'[ia].1:Int),wa]):=lda
 have ldb:aZ H7 (some 2) (al s (ib*2))=some (.agg [.int .u8 (g'[ib].1:Int),wb]):=ldb
 have ixa:Ox 2 s (.int .i64 (ia:Int))=some (al s (ia*2)):=SlV.idx hs7 .i64 ia la
 have ixb:Ox 2 s (.int .i64 (ib:Int))=some (al s (ib*2)):=SlV.idx hs7 .i64 ib lb
 have oa:=hra.one
 have ob:=hrb.one
 obtain ⟨H8,hH8⟩:∃ H8,H8=((H7.up 10).put (H7.next+8) (.cells [.int .u8 0,.nilSl] t_api_Gen true)).put (H7.next+8) (.cells [.int .u8 (g'[ia].1:Int),wa] t_api_Gen true):=⟨_,rfl⟩
 have k78:Kp H7 H8:=by rw [hH8]; exact zK
 have le_k78:=k78.le
 have w8:=k78.wf
 have n8:H8.next=H7.next+10:=by rw [hH8]; rfl
 have dA:H8.get (H7.next+8)=some (.cells [.int .u8 (g'[ia].1:Int),wa] t_api_Gen true):=by rw [hH8]; exact aA _ _ _
 obtain ⟨ua,hua⟩:∃ ua,ua=H7.next+8:=⟨_,rfl⟩
 have ldb8:=aH k78.sub ldb
 refine br ?_
 refine zW (kU hl6 t1 t2 hs7.lenV ra ea ixa lda @aK) ?_
 rw [<- hH8]
 rw [<- hua] at dA ⊢
 obtain ⟨H9,hH9⟩:∃ H9,H9=((H8.up 10).put (H8.next+8) (.cells [.int .u8 0,.nilSl] t_api_Gen true)).put (H8.next+8) (.cells [.int .u8 (g'[ib].1:Int),wb] t_api_Gen true):=⟨_,rfl⟩
 have k89:Kp H8 H9:=by rw [hH9]; exact zK
 have le_k89:=k89.le
 have w9:=k89.wf
 have n9:H9.next=H8.next+10:=by rw [hH9]; rfl
 have dB:H9.get (H8.next+8)=some (.cells [.int .u8 (g'[ib].1:Int),wb] t_api_Gen true):=by rw [hH9]; exact aA _ _ _
 have dA9:=k89.get dA
 obtain ⟨uc,huc⟩:∃ uc,uc=H8.next+8:=⟨_,rfl⟩
 refine br ?_
 refine zW (kU hl6 t1 t3 hs7.lenV rb eb ixb ldb8 @aK) ?_
 rw [<- hH9]
 rw [<- huc] at dB ⊢
 have k79:Kp H7 H9:=k78.trans k89
 have le_k79:=k79.le
 have k9:Kp H H9:=k7.trans k79
 have le_k9:=k9.le
 have d10c:=k79.get d7
 have hs9:=hs7.mono k79.sub
 have hra9:=hra.mono k79.sub
 have hrb9:=hrb.mono k79.sub
 refine OF (fun T' H'=>Kp H H') rfl ?_ ?_
 ·by_cases c1:(g'[ia].1:Int)=3
  ·by_cases c2:(g'[ib].1:Int)=3
   ·have c1':g'[ia].1=3:=by omega
    have c2':g'[ib].1=3:=by omega
    have ha3:(3,g'[ia].2)∈g':=by rw [<- c1']; exact ma
    have hb3:(3,g'[ib].2)∈g':=by rw [<- c2']; exact mb
    have hmid:=Lin.poly_mid hv ha3 hb3
    have pa:0<g'[ia].2.length:=by rw [(hrow _ ma).1]; omega
    have pb:0<g'[ib].2.length:=by rw [(hrow _ mb).1]; omega
    have hab:g'[ia].2.length=g'[ib].2.length:=(hrow _ ma).1.trans (hrow _ mb).1.symm
    have za:=fS pa
    have zb:=fS pb
    have xa:Ox 2 wa (.int .i64 0)=some (al wa (0*2)):=SlV.idx hra9 .i64 0 pa
    have xb:Ox 2 wb (.int .i64 0)=some (al wb (0*2)):=SlV.idx hrb9 .i64 0 pb
    obtain ⟨na,hna,ldna,-,-⟩:=js hra9 pa
    obtain ⟨nb,hnb,ldnb,-,-⟩:=js hrb9 pb
    have ba:=gG (hrow _ ma).2 pa
    have bb:=gG (hrow _ mb).2 pb
    have Ia:Bt 65 (g'[ia].2[0]):=by rw [<- za]; unfold Bt; omega
    have Ib:Bt 65 (g'[ib].2[0]):=by rw [<- zb]; unfold Bt; omega
    refine zW (cJ hl6 dA9 dB @c1 @c2) ?_
    refine aO ?_
    refine zD (mw hl6 @bQ dA9 dB xa xb ldna ldnb) ?_
    have Ma:MuI g'[ia].2[0]:=Ia.len (by omega)
    have Mb:MuI g'[ib].2[0]:=Ib.len (by omega)
    have hxa:∀ z∈g'[ia].2,MuI z/\OV (g'[ib].2[0]*z):=fun z hz=>by
     have hB:=fz (hrow _ ma).2 z hz
     exact ⟨hB.len (by omega),Bt.sm (Ib.mul hB) (by omega)⟩
    have hxb:∀ z∈g'[ib].2,MuI z/\OV (g'[ia].2[0]*z):=fun z hz=>by
     have hB:=fz (hrow _ mb).2 z hz
     exact ⟨hB.len (by omega),Bt.sm (Ia.mul hB) (by omega)⟩
    have h64:g'[ia].2.length<=64:=by rw [(hrow _ ma).1]; omega
    obtain ⟨xm,hxm⟩:∃ xm,xm=g'[ib].2[0]:=⟨_,rfl⟩
    obtain ⟨xn,hxn⟩:∃ xn,xn=g'[ia].2[0]:=⟨_,rfl⟩
    rw [<- hxm] at Mb hxa hnb ldnb zb ⊢
    rw [<- hxn] at Ma hxb hna ldna za ⊢
    refine AnsH.use (vec_Mix C (m:=xm) (n:=xn) (x:=g'[ia].2) (y:=g'[ib].2) zF ⟨nb,rfl,hnb.mono (Kp.sub (H:=H9) zK)⟩ ⟨na,rfl,hna.mono (Kp.sub (H:=H9) zK)⟩ (hra9.mono (Kp.sub (H:=H9) zK)) (hrb9.mono (Kp.sub (H:=H9) zK)) hab h64 Mb Ma hxa hxb) ?_
    rintro vm H10 ⟨q,rfl,hq,hk10⟩
    obtain ⟨k910,_,w10⟩:=zT H9 zK hk10
    have dA10:=k910.get dA9
    have dB10:=k910.get dB
    have d10d:=k910.get d10c
    have ldna10:=aH k910.sub ldna
    have ldnb10:=aH k910.sub ldnb
    have oq:=hq.one
    rw [<- za,<- zb] at hq
    obtain ⟨mid,hmidd⟩:∃ mid,mid=Lin.mix (Lin.hd1 g'[ib].2) g'[ia].2 (Lin.hd1 g'[ia].2) g'[ib].2:=⟨_,rfl⟩
    rw [<- hmidd] at hq hmid
    have hs10:=hs9.mono k910.sub
    obtain ⟨H11,hH11⟩:∃ H11,H11=(H10.up 6).put (H10.next+2) (.cells [.int .u8 3,q] t_api_Gen true):=⟨_,rfl⟩
    have k1011:Kp H10 H11:=by rw [hH11]; exact zK
    have le_k1011:=k1011.le
    have w11:=k1011.wf
    have n11:H11.next=H10.next+6:=by rw [hH11]; rfl
    have lit:SlV genE t_api_Gen H11 (.own (H10.next+2) 0 ([(3,mid)]:List (Nat × List Int)).length ([(3,mid)]:List (Nat × List Int)).length genE.sz true) [(3,mid)]:=MD (by rw [hH11]; exact aA _ _ _) (hq.mono k1011.sub)
    obtain ⟨v6,H12,e6,s6,k6',nx6,sub6,-⟩:=SlV.app (bytes:=32) (id:=H10.next+4) lit k1011 (hs10.mono k1011.sub) (by omega) (by omega) (by rw [hH11,au (by omega)]; exact w10.fresh (by omega)) (by simp only [List.length_cons,List.length_nil]; omega) (by simp only [List.length_cons,List.length_nil]; omega)
    have e6':OC ((H10.up 6).put (H10.next+2) (.cells [.int .u8 3,q] t_api_Gen true)) (H10.next+4) 2 32 t_api_Gen (.own (H10.next+2) 0 1 1 2 true) s=some (v6,H12):=by rw [hH11] at e6; exact e6
    have w12:=k6'.wf
    have k912:Kp H9 H12:=k910.trans k6'
    have le_k912:=k912.le
    have s6:SlV genE t_api_Gen H12 v6 ((3,mid) :: g'):=s6
    have mlen:mid.length=n+1:=by rw [hmidd]; exact Lin.mix_length (hrow _ ma).1 (hrow _ mb).1
    have p1:0<Lin.hd1 g'[ia].2:=(hv _ ma).2.1 c1'
    have p2:0<Lin.hd1 g'[ib].2:=(hv _ mb).2.1 c2'
    have mhd:0<Lin.hd1 mid:=by
     rw [hmidd,gR hab pa]
     have:=Int.mul_pos p2 p1
     have:=Int.mul_pos p1 p2
     omega
    have mbd:Lin.Bd (2^129) mid:=by rw [hmidd]; exact gB hab bb ba (hrow _ ma).2 (hrow _ mb).2
    have hv2:Lin.ValidG n ((3,mid) :: g'):=fun x hx=>by
     rcases List.mem_cons.1 hx with rfl | hx
     ·exact ⟨mlen,fun _=>mhd,fun h=>absurd rfl h⟩
     ·exact hv x hx
    have hkd2:∀ x∈(3,mid) :: g',x.1=1\/x.1=2\/x.1=3:=fun x hx=>by
     rcases List.mem_cons.1 hx with rfl | hx
     ·exact .inr (.inr rfl)
     ·exact hkd x hx
    have hbd2:∀ x∈(3,mid) :: g',Lin.Bd (2^129) x.2:=fun x hx=>by
     rcases List.mem_cons.1 hx with rfl | hx
     ·exact mbd
     ·exact RO (hbd x hx) (by omega)
    rw [<- hA] at hmid
    refine zD (KN hl6 @bQ dA9 dB xa xb ldna ldnb dA10 dB10 ldna10 ldnb10 t1 t0 e6') ?_
    refine AnsH.use (N8 C (m:=129) (m2:=64*(64+4)) (m3:=64) zF (s6.mono (Kp.sub (H:=H12) zK)) n4 (by simp only [List.length_cons]; omega) hv2 hkd2 hbd2 (by omega) (fun x hx=>by rw [hmid] at hx; exact (hAb x hx).2) (by omega) (fun x hx=>by rw [hmid,<- hG] at hx; exact (hGl x hx).2) (by omega) (.inl (by rw [hmid]; omega))) ?_
    rintro v7 H13 ⟨hm,hk13⟩
    have hm:∃ vc1 vg1,v7=.tup [.agg [.int .i64 (n:Int),vc1,vg1],.int .i64 0]/\SlV conE cA H13 vc1 K/\SlV genE t_api_Gen H13 vg1 G:=by
     rcases hm with ⟨-,hm⟩ | hm
     ·rw [hmid] at hm; omega
     rw [hmid,<- hG] at hm
     rcases hm with ⟨-,hm⟩ | ⟨p,rfl,⟨vc,vg,rfl,h1,h2⟩,-,-⟩
     ·rw [<- hK] at hm; omega
     ·rw [<- hK] at h1
      exact ⟨vc,vg,rfl,h1,h2⟩
    obtain ⟨vc1,vg1,rfl,hc1,hg1⟩:=hm
    obtain ⟨k1213,_,w13⟩:=zT H12 zK hk13
    have n13:H12.next+9<=H13.next:=hk13.le
    have f13:H13.get (H12.next+6)=none:=hk13.free (show H12.next+6<H12.next+9 by omega) (w12.fresh (b:=H12.next+6) (by omega))
    have oc1:=hc1.one
    have og1:=hg1.one
    obtain ⟨H14,hH14⟩:∃ H14,H14=(H13.put (H12.next+6) (.cells [.int .i64 0,.nilSl,.nilSl] iK true)).put (H12.next+6) (.cells [.int .i64 (n:Int),vc1,vg1] iK true):=⟨_,rfl⟩
    have s1314:Sub H13 H14:=by rw [hH14]; exact (bh f13).put f13 _
    have k1214:Kp H12 H14:=by rw [hH14]; exact zK
    have le_k1214:=k1214.le
    have w14:=k1214.wf
    have d19:H14.get (H12.next+6)=some (.cells [.int .i64 (n:Int),vc1,vg1] iK true):=by rw [hH14]; exact aA _ _ _
    have k914:Kp H9 H14:=k912.trans k1214
    have le_k914:=k914.le
    have k614:Kp H6 H14:=(k67.trans k79).trans k914
    have le_k614:=k614.le
    have d10e:=k914.get d10c
    have d19':(((H13.up 8).put (H12.next+6) (.cells [.int .i64 0,.nilSl,.nilSl] iK true)).put (H12.next+6) (.cells [.int .i64 (n:Int),vc1,vg1] iK true)).get (H12.next+6)=some (.cells [.int .i64 (n:Int),vc1,vg1] iK true):=aA _ _ _
    have d13:=(k912.trans k1213).get d10c
    have nub:ub≠H12.next+6:=by
     have:=w9 _ _ d10c
     have:=k912.le
     omega
    refine zD (fW hl6 @bQ t10 @ND d13 nub) ?_
    refine AnsH.eq (NU C zF ⟨vc,vg,rfl,(hc6.mono k614.sub).mono ?_,(hg6.mono k614.sub).mono ?_⟩ ⟨vc1,vg1,rfl,(hc1.mono s1314).mono ?_,(hg1.mono s1314).mono ?_⟩ (by omega) smK (by omega) smG) fun H15 hk15=>?_
    any_goals (rw [hH14]; exact Sub.bump _ 8)
    have kA13:Kp H H13:=(k9.trans k912).trans k1213
    have leA:=kA13.le
    have leB:=(k9.trans k912).le
    obtain ⟨k15,_,_⟩:=zT H zK hk15
    rw [show decide (n=n/\K=K/\G=G)=true from decide_eq_true ⟨rfl,rfl,rfl⟩]
    refine zD (aC hl6 @bQ @aQ) ?_
    exact k15
   ·refine zW (fW hl6 dA9 dB @c1 @c2 @aQ) ?_
    exact zK
  ·refine zW (cJ hl6 dA9 dB @c1 @aQ) ?_
   exact zK
 rintro T7 H10 hs7' k10
 have hl7:T7.length=136:=hs7'.len.trans (by simp only [List.length_set]; exact hl6)
 refine br ?_
 refine zW (az hl7 @aK) ?_
 refine WC.wb ?_
 refine zW (az hl7 hrs) ?_
 exact k10.up _
theorem law21_DualSpans (C:Code tab) (hw:Wf H) {d i k:Int} {l:List Of} (hs:SlV genQE t_api_Gen H s l) (gl:∀ r∈l,mX r.2) (hd : -9223372036854775808<=d/\d<9223372036854775808) (hi:0<=i/\i<256) (hk:0<=k/\k<256) :
  Ans tab (.fn fh [.int .i64 d,s,.int .u8 i,.int .u8 k]) H fun v H'=>v=.bool true/\Kp H H':=by
 have ei:i=(i.toNat:Int):=by omega
 have ek:k=(k.toNat:Int):=by omega
 rw [ei,ek]
 exact dP C hw hs gl hd (by omega) (by omega)
end
open Go
theorem Hy {P:Program}:CY P dK:=trivial
theorem JI {P:Program} {w:World} (hG:GlobW w):HR P (fun _=>none) (fun c=>c<w.heap.size) (Heap.nil 0) w:=by
 have h:=GR (P:=P) hG
 refine ⟨h.dom,fun c hc=>hc,fun b e hb=>?_,h.inj,fun g cs hg=>(h.gl g cs hg).mono (fun _ _ h=>h) (fun c hc=>h.fb c hc) fun _ _=>rfl⟩
 rw [Tr.nil_get] at hb; cases hb
theorem open_calls {P:Program} (hmix:P.follows .mixedOrders=true) {tab:Nat->Option aq} (ht:Eb P tab) {f:Nat} {afn:aq} (haf:tab f=some afn) (hext:afn.ext=none) {args:List AV} {vs:List Value} {w:World} (hG:GlobW w)
  (hl:LR (fun _=>none) (fun c=>c<w.heap.size) w args vs) (h:Ans tab (.fn f args) (Heap.nil 0) fun v _=>v=.bool true) :
  Calls P f vs.toArray w fun e w'=>e=.returned (.bool true)/\w'.os=w.os/\w'.output=w.output/\w.heap.size<=w'.heap.size/\∀ c,c<w.heap.size->w'.heap[c]? = w.heap[c]?:=by
 obtain ⟨v,H',⟨N,hN⟩,rfl⟩:=h
 have h1:=hN (N+1) (N+1) (by omega) (by omega)
 simp only [jC,iv,haf,hext] at h1
 obtain ⟨-,ht2⟩:=ht f afn haf
 obtain ⟨fn,hfn,hc⟩:=ht2 fun e h=>by rw [hext] at h; cases h
 obtain ⟨c1,c2,c3,c4,-⟩:=zx hc hext
 have hH:=JI (P:=P) hG
 have hin:=nO (uW Hy hmix ht N) hmix hfn c1 c2 c3 c4 h1 hl hH 0 (fence:=Fence.wide) (rd:=false) (.inl ⟨rfl,rfl⟩)
 refine (hin.calls fun k=>room_wide k).mono fun e w' ⟨u,he,μ',hv,_,hS⟩=>?_
 cases hv
 refine ⟨he,hS.os,hS.out,hS.size,fun c hc=>hS.keep c hc fun b L ⟨e,h,_⟩=>?_⟩
 rw [Tr.nil_get] at h; cases h
theorem HN {w w':World} (h1:w'.os=w.os) (h2:w'.output=w.output) (h:∀ c,c<w.heap.size->w'.heap[c]? = w.heap[c]?) (may:MemPlace->Prop):w.keptBut w' may:=by
 refine ⟨h1,h2,fun i hi=>?_⟩
 rw [h i hi]
 split
 ·rename_i e1 e2
  cases e1.symm.trans e2
  exact ⟨rfl,rfl,rfl,fun _ _=>rfl⟩
 ·rename_i e1 e2
  cases e1.symm.trans e2
  exact .inr ⟨rfl,rfl⟩
 ·rfl
section
open Go.ChangeShapes Go.WideShapes Go.ChangeAt Go.RowKit
variable {HT:Type} {enc:TypeId × Value->HT} {P:Program}
theorem stays {t:TypeId} (hl:laidOutB P=true) (hr:P.readableRec t=true) (hrow:t<P.types.size) {W W':World} {sp:Nat->Bool} {v:Value} {d:DataW HT} {ps:List MemPlace}
  (h:DataW.Trod enc P W 0 (fun _=>true) true t v d ps) (hk:∀ c,c<W.heap.size->W'.heap[c]? = W.heap[c]?) (hlt:∀ x∈ps,x.block<W.heap.size) (hs:∀ p∈ps,sp p.block=true):DataW.Trod enc P W' 0 sp true t v d ps :=
 WideElems.Trod_stays hl hr hrow h (fun p hp=>by
  have hb:=hk p.block (hlt p hp)
  cases p with
  | cell b o=>exact World.cell?_of_block (w:=W) hb
  | map b=>exact hb) hs
theorem post_kept {f:Func} {s:ChangeSpec} {apart fresh handsOn again:Bool} {W W':World} {args:Array Value} {v:Value} {ds gs:List (DataW HT)} {before:List MemPlace}
  (hW:DataW.Whole enc P f.params.toList s.vars apart W args.toList ds gs before)
  (hres:∀ (b:Nat) (sp:Nat->Bool) (hd:Bool),DataW.TrodAll enc P W' b sp hd f.resultTypes.toList (v.resultList f.resultTypes.size) (s.fn HT (ds++gs)).results [])
  (hargs:∀ sp:Nat->Bool,(∀ p∈before,sp p.block=true)->DataW.TrodAll enc P W' 0 sp true f.params.toList args.toList (s.fn HT (ds++gs)).args before)
  (hvars:∀ sp:Nat->Bool,DataW.TrodVars enc P W' sp s.vars (s.fn HT (ds++gs)).vars [])
  (h1:W'.os=W.os) (h2:W'.output=W.output) (hk:∀ c,c<W.heap.size->W'.heap[c]? = W.heap[c]?)
  (hok:∀ (j:Nat) (t:TypeId) (r:Value),f.resultTypes[j]? = some t->(v.resultList f.resultTypes.size)[j]? = some r->Value.okWide P W' .any 0 t r) :
  s.post enc P f apart fresh handsOn again W args v W':=by
 have hold:∀ p∈before,(fun b=>decide (b<W.heap.size)) p.block=true:=fun p hp=>by simpa using hW.lt p hp
 have hlt:∀ p∈before,p.block<W.heap.size:=fun p hp=>hW.lt p hp
 refine ⟨ds,gs,before,[],before,[],hW,hres _ _ _,hargs _ hold,hvars _,HN h1 h2 hk _,fun _=>?_⟩
 obtain ⟨_,_,_,_,e,hz,hn⟩:=hW
 refine ⟨hok,_,_,([]++before)++[],⟨[]++before,[],trodAll_append (hargs _ (fun _ _=>rfl)) (hres _ _ _),hvars _,rfl,?_,?_⟩,?_⟩
 ·intro b off hp
  have hp':MemPlace.cell b off∈before:=by simpa using hp
  have hb:=hlt _ hp'
  rw [World.frozen?_of_block (w:=W) (hk b hb)]
  exact hz b off hp'
 ·intro ha
  have:=hn ha
  simpa using this
 ·intro p hp _
  simpa using hp
end
end Go.Proofs.YtboamamhcfhanaaGreat.Ev
namespace Go.Proofs.YtboamamhcfhanaaGreat.Ins147
open Go Go.RowKit Go.Lib Go.Proofs
set_option linter.all false
variable {P:Program}
theorem tS:Tryz.prog.underlying 88=some (.slice 32):=by kernel_rfl
theorem iE:(Tryz.prog.info? 32).map (fun i=>(i.zero,i.size,i.bytes))=some (some (Value.slice none 0 0),1,24):=by kernel_rfl
theorem zE:∀ w,(Go.sizeOf 32).run Tryz.prog w=.ok 1 w:=fun w=>by
 obtain ⟨i0,hi,h0,h1,h2⟩:=info_parts iE
 simp [Go.sizeOf,typeInfo,hi,h1]
theorem tI:Tryz.prog.underlying 3=some (.int .i64):=by kernel_rfl
theorem yX:Tryz.prog.follows .mixedOrders=true:=by kernel_rfl
theorem yw (w:World) {o:Oper} {a:Act} {K:Act->World->Prop} {Q:Exit->Act->World->Prop} (d s:Operand) (t t':TypeId)
  (ho:o.op=.call { callee:=.builtin .copy,args:=#[d,s],argTypes:=#[t,t'] }) (v u:Value) (hd:a.eval d=v) (hs:a.eval s=u) {v':Value} {w':World}
  (hr:(Builtin.copy_ #[t,t'] o.type #[v,u]).run P w=.ok v' w') (h:K (a.put o.dst v') w'):o.wp P a w K Q:=by
 unfold Oper.wp execOp
 simp only [ho,resolve,invoke,builtin,Sem.run_bind,Sem.run_pure,Result.andThen_ok,List.map_toArray,List.map_cons,List.map_nil,hd,hs,hr]
 exact h
theorem iI (w:World) {ops:Array Oper} {rest:List Oper} {o:Oper} {a:Act} {Q:Exit->Act->World->Prop} (hgd:o.guard=none) (d s:Operand) (t t':TypeId)
  (ho:o.op=.call { callee:=.builtin .copy,args:=#[d,s],argTypes:=#[t,t'] }) (v u:Value) (hd:a.eval d=v) (hs:a.eval s=u) {v':Value} {w':World}
  (hr:(Builtin.copy_ #[t,t'] o.type #[v,u]).run P w=.ok v' w') (h:wpList P ops Q rest (a.put o.dst v') w'):wpList P ops Q (o :: rest) a w :=
 wpList_plain hgd fun _ hK=>yw w d s t t' ho v u hd hs hr (hK _ _ h)
theorem nK {ops:Array Oper} {o:Oper} {a:Act} {w:World} {K:Act->World->Prop} {Q:Exit->Act->World->Prop} {E:Prop}
  (hg:o.guard=none) (d x:Operand) (dT sT:TypeId) (hop:o.op=Op.call { callee:=Callee.builtin Builtin.copy,args:=#[d,x],argTypes:=#[dT,sT] })
  (v u:Value) (hd:a.eval d=v) (hx:a.eval x=u) {v':Value} {w':World} (hr:(Builtin.copy_ #[dT,sT] o.type #[v,u]).run P w=.ok v' w') (hK:K (a.put o.dst v') w') :
  if Region.wanted o (yielded ops a.tmps)=true then Oper.wp P o a w K Q else E:=by
 have hw:Region.wanted o (yielded ops a.tmps)=true:=by simp [Region.wanted,hg]
 rw [if_pos hw]
 unfold Oper.wp
 simp [execOp,hop,resolve,invoke,builtin,hd,hx,hr,Result.andThen]
 exact hK
theorem nw (b:Nat) (vs:List Value) (o:Nat) (w:World) (h:∀ j,j<vs.length->(w.cell? ⟨b,o+j,none⟩).isSome=true) (k:Nat) (hk:(w.cell? ⟨b,k,none⟩).isSome=true):((w.setCells b o vs).cell? ⟨b,k,none⟩).isSome=true:=by
 by_cases hin:o<=k/\k<o+vs.length
 ·have:=World.cell?_setCells_in b vs o w h (k-o) (by omega)
  rw [show o+(k-o)=k by omega] at this
  rw [this]; rfl
 ·rw [World.cell?_setCells_out b vs o w ⟨b,k,none⟩ (fun _ _=>by show k<o\/o+vs.length<=k; omega)]
  exact hk
set_option maxHeartbeats 4000000 in
set_option maxRecDepth 100000 in
theorem shift (b off n c i vb voff m vc:Nat) (cs vs:List Value) (w:World) (hi:i<n) (hm:0<m) (hroom:n+m<=c) (hc63:n+m<=9223372036854775807) (hvb:vb≠b)
  (hcl:cs.length=n) (hvl:vs.length=m)
  (hcs:∀ j v,cs[j]? = some v->w.cell? ⟨b,off+j,none⟩=some v) (hsp:∀ j,j<n+m->(w.cell? ⟨b,off+j,none⟩).isSome=true) (hfz:∀ j,j<n+m->w.frozen? ⟨b,off+j,none⟩=false)
  (hvs:∀ j v,vs[j]? = some v->w.cell? ⟨vb,voff+j,none⟩=some v) (h1c:∀ v∈cs,v.oneCell'=true) (h1v:∀ v∈vs,v.oneCell'=true)
  (tA tB:TypeId) (kA kB:Nat) (hsa:w.shape? vb=some (tA,kA)) (hsb:w.shape? b=some (tB,kB)) (hkB:kB≠0) (hfa:w.frozen? ⟨vb,voff,none⟩=false) (hfe:w.frozen? ⟨vb,kA,none⟩=false) :
  Calls Tryz.prog 147 #[.slice (some ⟨b,off,none⟩) n c,.int .i64 i,.slice (some ⟨vb,voff,none⟩) m vc] w fun e w' =>
   e=.returned (.slice (some ⟨b,off,none⟩) (n+m) c)/\w'=(w.drew.setCells b (off+(i+m)) (cs.drop i)).setCells b (off+i) vs:=by
 have hz1:¬ ((m:Int)=0):=by omega
 have hz2:¬ ((i:Int)=(n:Int)):=by omega
 have hsz:(Tryz.prog.info? 32).map (·.size)=some 1:=by
  obtain ⟨i0,hi0,h0,h1,h2⟩:=info_parts iE
  rw [hi0]; simp [h1]
 have hov:∀ lb cb,(callFunc 160 #[.slice (some ⟨vb,voff,none⟩) m vc,.slice (some ⟨b,off+(i+m),none⟩) lb cb]).run Tryz.prog w=.ok (.value (.bool false)) w:=fun lb cb=>by
  rw [run_callFunc_extern Tryz.func160 (by kernel_rfl) (by kernel_rfl) (by kernel_rfl) (e:=Extern.SlicesOverlaps.overlaps #[88,88] #[4]) (by kernel_rfl),
   Lib.run_overlaps_apart w 88 4 32 tS 1 zE ⟨vb,voff,none⟩ ⟨b,off+(i+m),none⟩ m vc lb cb hvb tA tB kA kB hsa hsb hkB hfa hfe]
  rfl
 have hdl:(cs.drop i).length=n-i:=by rw [List.length_drop,hcl]
 have hw1:IntKind.i64.wrap ((i:Int)+(m:Int))=(i:Int)+(m:Int):=by rw [IntKind.wrap_i64]; omega
 have hb1:(0:Int)<=(i:Int)+(m:Int):=by omega
 have hin:i<=n:=by omega
 have htn:((i:Int)+(m:Int)).toNat=i+m:=by omega
 have hb2:¬ (c=i+m):=by omega
 have hb3:(i:Int)<=(n:Int)+(m:Int):=by omega
 have hb4:¬ (c=i):=by omega
 have hcp1:∀ ty dc sc,(Builtin.copy_ #[88,88] ty #[.slice (some ⟨b,off+(i+m),none⟩) (n+m-(i+m)) dc,.slice (some ⟨b,off+i,none⟩) (n+m-i) sc]).run Tryz.prog w.drew=.ok (goInt (cs.drop i).length) (w.drew.setCells b (off+(i+m)) (cs.drop i)):=fun ty dc sc =>
  run_copy_cells w.drew _ _ ty 32 b (off+(i+m)) (n+m-(i+m)) dc ⟨b,off+i,none⟩ (n+m-i) sc (cs.drop i) tS hsz (by rw [hdl]; simp only [Nat.min_def]; split <;> omega)
   (fun j v hj=>by rw [Addr.add_lit,Nat.add_assoc]; exact hcs (i+j) v (by rwa [List.getElem?_drop] at hj))
   (fun j hj=>by rw [Nat.add_assoc]; exact hsp _ (by omega)) (fun j hj=>by rw [Nat.add_assoc]; exact hfz _ (by omega)) (fun v hv=>h1c v (List.mem_of_mem_drop hv))
 obtain ⟨W1,hW1⟩:∃ W1,W1=w.drew.setCells b (off+(i+m)) (cs.drop i):=⟨_,rfl⟩
 have hsp1:∀ k,k<n+m->(W1.cell? ⟨b,off+k,none⟩).isSome=true:=fun k hk=>by
  rw [hW1]
  exact nw b _ _ _ (fun j hj=>by rw [Nat.add_assoc]; exact hsp _ (by omega)) _ (hsp k hk)
 have hcp2:∀ (W:World),(∀ x,W.cell? x=W1.cell? x)->(∀ x,W.frozen? x=W1.frozen? x)->∀ ty dc,(Builtin.copy_ #[88,88] ty #[.slice (some ⟨b,off+i,none⟩) (n+m-i) dc,.slice (some ⟨vb,voff,none⟩) m vc]).run Tryz.prog W=.ok (goInt vs.length) (W.setCells b (off+i) vs):=fun W hWc hWf ty dc =>
  run_copy_cells W _ _ ty 32 b (off+i) (n+m-i) dc ⟨vb,voff,none⟩ m vc vs tS hsz (by rw [hvl]; simp only [Nat.min_def]; split <;> omega)
   (fun j v hj=>by
    rw [Addr.add_lit,hWc,hW1,World.cell?_setCells_out b _ _ _ _ (fun h _=>absurd h hvb)]
    exact hvs j v hj)
   (fun j hj=>by rw [hWc,Nat.add_assoc]; exact hsp1 _ (by omega)) (fun j hj=>by rw [hWf,hW1,World.frozen?_setCells,Nat.add_assoc]; exact hfz _ (by omega)) h1v
 rw [<- hW1] at hcp1
 have mixed:=yX
 go_enter Tryz.func147,Tryz.ntmps147
 go_wp2_with (simp only [hov])
 go_region_law_o (refine nK rfl _ _ 88 88 rfl _ _ (by simp [Act.eval,Act.put]) (by simp [Act.eval,Act.put]) (hcp1 _ _ _) ?_)
 go_wp2_with (at_builtin; refine iI _ rfl _ _ 88 88 rfl _ _ rfl rfl (hcp2 _ (fun _=>rfl) (fun _=>rfl) _ _) ?_)
 go_ret
 first | exact ⟨rfl,rfl⟩ | exact ⟨rfl,by rw [hW1]⟩
set_option maxHeartbeats 4000000 in
set_option maxRecDepth 100000 in
theorem end_room (b off n c vb voff m vc:Nat) (vs:List Value) (w:World) (hm:0<m) (hroom:n+m<=c) (hc63:n+m<=9223372036854775807)
  (hvl:vs.length=m) (hsp:∀ j,j<m->(w.cell? ⟨b,off+n+j,none⟩).isSome=true) (hfz:∀ j,j<m->w.frozen? ⟨b,off+n+j,none⟩=false)
  (hvs:∀ j v,vs[j]? = some v->w.cell? ⟨vb,voff+j,none⟩=some v) (h1v:∀ v∈vs,v.oneCell'=true) :
  Calls Tryz.prog 147 #[.slice (some ⟨b,off,none⟩) n c,.int .i64 n,.slice (some ⟨vb,voff,none⟩) m vc] w fun e w' =>
   e=.returned (.slice (some ⟨b,off,none⟩) (n+m) c)/\w'=w.setCells b (off+n) vs:=by
 have hz1:¬ ((m:Int)=0):=by omega
 have hsrc:Src Tryz.prog 1 88 (.slice (some ⟨vb,voff,none⟩) m vc) m vs w:=Src.ofSlice w tS ⟨vb,voff,none⟩ m vc vs (by omega) (fun j u hj=>by rw [Addr.add_lit]; exact hvs j u hj) h1v
 have mixed:=yX
 go_enter Tryz.func147,Tryz.ntmps147
 go_wp2_with (at_builtin; refine wpList_append_room1 _ rfl _ _ 88 88 rfl 32 _ _ tS iE b off n c rfl _ rfl m vs hsrc hroom (by rw [hvl]; exact hsp) (by rw [hvl]; exact hfz) ?_)
 go_ret
 exact ⟨rfl,rfl⟩
set_option maxHeartbeats 4000000 in
set_option maxRecDepth 100000 in
theorem end_grow (base:Option Addr) (n c vb voff m vc:Nat) (cs vs:List Value) (w:World) (hm:0<m) (hnc:n<=c) (hroom:c<n+m) (hbig:(n+m)*24<=140737488355328)
  (hcl:cs.length=n) (hvl:vs.length=m) (hnil:base=none->n=0)
  (hcs:∀ a,base=some a->∀ j v,cs[j]? = some v->w.cell? (a.add j)=some v)
  (hvs:∀ j v,vs[j]? = some v->w.cell? ⟨vb,voff+j,none⟩=some v) (h1v:∀ v∈vs,v.oneCell'=true) :
  Calls Tryz.prog 147 #[.slice base n c,.int .i64 n,.slice (some ⟨vb,voff,none⟩) m vc] w fun e w' =>
   e=.returned (.slice (some ⟨w.heap.size,0,none⟩) (n+m) (grownCap w (n+m) c 32)) /\
   w'=w.drew.alloc (.cells ((cs++vs).toArray++Builtin.zeroCells (Value.slice none 0 0).cells (grownCap w (n+m) c 32-(n+m))) 32):=by
 obtain ⟨i0,hi0,hz0,hzs,hzb⟩:=info_parts iE
 have hz1:¬ ((m:Int)=0):=by omega
 have hsrc:Src Tryz.prog i0.size 88 (.slice (some ⟨vb,voff,none⟩) m vc) m vs w:=by
  rw [hzs]
  exact Src.ofSlice w tS ⟨vb,voff,none⟩ m vc vs (by omega) (fun j u hj=>by rw [Addr.add_lit]; exact hvs j u hj) h1v
 have hold:(Builtin.firstCells i0.size n (.slice base n c)).run Tryz.prog w.drew=.ok cs.toArray w.drew:=by
  rw [hzs]
  cases base with
  | none =>
   have h0:=hnil rfl
   subst h0
   rw [List.length_eq_zero_iff.1 hcl]
   exact run_firstCells_none w.drew 1 0 0 c
  | some a=>exact run_firstCells_some w.drew 1 n a n c cs (by omega) (fun j v hj=>hcs a rfl j v hj)
 have hrun:∀ ty,(Builtin.append_ #[88,88] ty #[.slice base n c,.slice (some ⟨vb,voff,none⟩) m vc]).run Tryz.prog w=_:=fun ty =>
  run_append_grow_src w 88 88 ty 32 i0 _ tS hi0 hz0 base n c cs hold _ m vs hsrc hroom (by omega) (by rw [hzb]; exact growslice_fits hroom hbig)
 have mixed:=yX
 go_enter Tryz.func147,Tryz.ntmps147
 cases base with
 | none =>
  have h0:=hnil rfl
  subst h0
  go_wp2_with (at_builtin; refine Lib.wpList_append_run _ rfl _ _ _ _ rfl _ _ rfl rfl _ _ (hrun _) ?_)
  go_ret
  exact ⟨rfl,rfl⟩
 | some a =>
  obtain ⟨ab,ao,asp⟩:=a
  go_wp2_with (at_builtin; refine Lib.wpList_append_run _ rfl _ _ _ _ rfl _ _ rfl rfl _ _ (hrun _) ?_)
  all_goals (go_ret; exact ⟨rfl,rfl⟩)
set_option maxHeartbeats 4000000 in
set_option maxRecDepth 100000 in
theorem grow (b off n c i vb voff m vc:Nat) (cs vs:List Value) (w:World) (hi:i<n) (hm:0<m) (hnc:n<=c) (hroom:c<n+m) (hbig:(n+m)*24<=140737488355328)
  (hcl:cs.length=n) (hvl:vs.length=m)
  (hcs:∀ j v,cs[j]? = some v->w.cell? ⟨b,off+j,none⟩=some v)
  (hvs:∀ j v,vs[j]? = some v->w.cell? ⟨vb,voff+j,none⟩=some v) (h1c:∀ v∈cs,v.oneCell'=true) (h1v:∀ v∈vs,v.oneCell'=true) :
  Calls Tryz.prog 147 #[.slice (some ⟨b,off,none⟩) n c,.int .i64 i,.slice (some ⟨vb,voff,none⟩) m vc] w fun e w' =>
   e=.returned (.slice (some ⟨w.heap.size,0,none⟩) (n+m) (grownCap w (n+m) c 32)) /\
   w'=(((w.alloc (.cells ((cs.take i).toArray++Builtin.zeroCells (Value.slice none 0 0).cells (n+m-i)++Builtin.zeroCells (Value.slice none 0 0).cells (grownCap w (n+m) c 32-(n+m))) 32)).drew.setCells w.heap.size i vs).drew).setCells w.heap.size (i+m) (cs.drop i):=by
 obtain ⟨i0,hi0,hz0,hzs,hzb⟩:=info_parts iE
 have hz1:¬ ((m:Int)=0):=by omega
 have hz2:¬ ((i:Int)=(n:Int)):=by omega
 have hz3:(c:Int)<(n:Int)+(m:Int):=by omega
 have hsz:(Tryz.prog.info? 32).map (·.size)=some 1:=by rw [hi0]; simp [hzs]
 have hbw:b<w.heap.size:=block_lt_of_cell (hcs 0 _ (List.getElem?_eq_getElem (by omega)))
 have hvw:vb<w.heap.size:=block_lt_of_cell (hvs 0 _ (List.getElem?_eq_getElem (by omega)))
 have hkk:(n:Int)+(m:Int)-(i:Int)=((n+m-i:Nat):Int):=by omega
 have hik:i+(n+m-i)=n+m:=by omega
 have hold:(Builtin.firstCells i0.size i (.slice (some ⟨b,off,none⟩) i c)).run Tryz.prog w.drew=.ok (cs.take i).toArray w.drew:=by
  rw [hzs]
  exact run_firstCells_some w.drew 1 i ⟨b,off,none⟩ i c (cs.take i) (by rw [List.length_take]; omega) (fun j v hj=>by
   rw [Addr.add_lit]
   rw [List.getElem?_take] at hj
   split at hj
   ·exact hcs j v hj
   ·cases hj)
 have hrz:∀ ty,(Builtin.append_ #[88,3] ty #[.slice (some ⟨b,off,none⟩) i c,.int .i64 ((n:Int)+(m:Int)-(i:Int))]).run Tryz.prog w =
   .ok (.slice (some ⟨w.heap.size,0,none⟩) (n+m) (grownCap w (n+m) c 32)) (w.drew.alloc (.cells ((cs.take i).toArray++Builtin.zeroCells (Value.slice none 0 0).cells (n+m-i)++Builtin.zeroCells (Value.slice none 0 0).cells (grownCap w (n+m) c 32-(n+m))) 32)):=fun ty=>by
  have h:=Lib.run_append_grow_zeros w 88 3 ty 32 i0 _ .i64 .i64 tS tI hi0 hz0 (some ⟨b,off,none⟩) i c (cs.take i) hold (n+m-i) (by omega) (by omega) (by omega) (by omega) (by rw [hzb]; omega) (by rw [hzb,hik]; exact growslice_fits hroom hbig)
  rw [hik] at h
  rw [hkk]
  exact h
 obtain ⟨G,hG⟩:∃ G,G=grownCap w (n+m) c 32:=⟨_,rfl⟩
 obtain ⟨ROW,hROW⟩:∃ ROW:Array Value,ROW=(cs.take i).toArray++Builtin.zeroCells (Value.slice none 0 0).cells (n+m-i)++Builtin.zeroCells (Value.slice none 0 0).cells (G-(n+m)):=⟨_,rfl⟩
 rw [<- hG] at hrz ⊢
 rw [<- hROW] at hrz ⊢
 have hRl:n+m<=ROW.size:=by
  rw [hROW]
  simp [Builtin.zeroCells,Value.cells]
  omega
 obtain ⟨W1,hW1⟩:∃ W1,W1=w.drew.alloc (.cells ROW 32):=⟨_,rfl⟩
 rw [<- hW1] at hrz
 have hN:∀ j,j<n+m->(W1.cell? ⟨w.heap.size,j,none⟩).isSome=true:=fun j hj=>by
  rw [hW1,World.cell?_alloc_at (w:=w.drew) ROW _ w.heap.size j rfl,Array.getElem?_eq_getElem (by omega)]; rfl
 have hNf:∀ j,W1.frozen? ⟨w.heap.size,j,none⟩=false:=fun j=>by rw [hW1]; exact World.frozen?_alloc_at (w:=w.drew) ROW _ w.heap.size j rfl
 have hOb:∀ j v,w.cell? ⟨b,j,none⟩=some v->W1.cell? ⟨b,j,none⟩=some v:=fun j v h=>by rw [hW1,World.cell?_alloc_past (w:=w.drew) _ b j hbw]; exact h
 have hOv:∀ j v,w.cell? ⟨vb,j,none⟩=some v->W1.cell? ⟨vb,j,none⟩=some v:=fun j v h=>by rw [hW1,World.cell?_alloc_past (w:=w.drew) _ vb j hvw]; exact h
 have hcpA:∀ (W:World),(∀ x,W.cell? x=W1.cell? x)->(∀ x,W.frozen? x=W1.frozen? x)->∀ ty dc,(Builtin.copy_ #[88,88] ty #[.slice (some ⟨w.heap.size,i,none⟩) (n+m-i) dc,.slice (some ⟨vb,voff,none⟩) m vc]).run Tryz.prog W=.ok (goInt vs.length) (W.setCells w.heap.size i vs):=fun W hWc hWf ty dc =>
  run_copy_cells W _ _ ty 32 w.heap.size i (n+m-i) dc ⟨vb,voff,none⟩ m vc vs tS hsz (by rw [hvl]; simp only [Nat.min_def]; split <;> omega)
   (fun j v hj=>by rw [Addr.add_lit,hWc]; exact hOv _ v (hvs j v hj))
   (fun j hj=>by rw [hWc]; exact hN _ (by omega)) (fun j hj=>by rw [hWf]; exact hNf _) h1v
 have hGn:n+m<=G:=by rw [hG]; exact grownCap_ge w _ _ _
 have hG63:G<=9223372036854775807:=by
  have:=grownCap_le_maxLen w (n+m) c 32 (by unfold maxLen; omega)
  rw [<- hG] at this
  unfold maxLen at this
  omega
 have hGi:¬ (G=i):=by omega
 have hGim:¬ (G=i+m):=by omega
 have hci:¬ (c=i):=by omega
 have hbN:b≠w.heap.size:=by omega
 have hdl:(cs.drop i).length=n-i:=by rw [List.length_drop,hcl]
 have hcpB:∀ (W:World),(∀ x,W.cell? x=(W1.setCells w.heap.size i vs).cell? x)->(∀ x,W.frozen? x=(W1.setCells w.heap.size i vs).frozen? x)->∀ ty dc sc,(Builtin.copy_ #[88,88] ty #[.slice (some ⟨w.heap.size,i+m,none⟩) (n+m-(i+m)) dc,.slice (some ⟨b,off+i,none⟩) (n-i) sc]).run Tryz.prog W=.ok (goInt (cs.drop i).length) (W.setCells w.heap.size (i+m) (cs.drop i)):=fun W hWc hWf ty dc sc =>
  run_copy_cells W _ _ ty 32 w.heap.size (i+m) (n+m-(i+m)) dc ⟨b,off+i,none⟩ (n-i) sc (cs.drop i) tS hsz (by rw [hdl]; simp only [Nat.min_def]; split <;> omega)
   (fun j v hj=>by
    rw [Addr.add_lit,hWc,World.cell?_setCells_out _ _ _ _ _ (fun h _=>absurd h hbN),Nat.add_assoc]
    exact hOb _ v (hcs (i+j) v (by rwa [List.getElem?_drop] at hj)))
   (fun j hj=>by rw [hWc]; exact nw _ _ _ _ (fun t ht=>hN _ (by omega)) _ (hN _ (by omega)))
   (fun j hj=>by rw [hWf,World.frozen?_setCells]; exact hNf _) (fun v hv=>h1c v (List.mem_of_mem_drop hv))
 subst hW1
 have hE1:∀ x,((w.alloc (.cells ROW 32)).drew).cell? x=(w.drew.alloc (.cells ROW 32)).cell? x:=fun x=>rfl
 have hE2:∀ x,((w.alloc (.cells ROW 32)).drew).frozen? x=(w.drew.alloc (.cells ROW 32)).frozen? x:=fun x=>rfl
 have hF1:∀ x,(((w.alloc (.cells ROW 32)).drew.setCells w.heap.size i vs).drew).cell? x=((w.drew.alloc (.cells ROW 32)).setCells w.heap.size i vs).cell? x:=fun x=>rfl
 have hF2:∀ x,(((w.alloc (.cells ROW 32)).drew.setCells w.heap.size i vs).drew).frozen? x=((w.drew.alloc (.cells ROW 32)).setCells w.heap.size i vs).frozen? x:=fun x=>rfl
 have hw1:IntKind.i64.wrap ((i:Int)+(m:Int))=(i:Int)+(m:Int):=by rw [IntKind.wrap_i64]; omega
 have hb1:(0:Int)<=(i:Int)+(m:Int):=by omega
 have hin:i<=n:=by omega
 have htn:((i:Int)+(m:Int)).toNat=i+m:=by omega
 have hb3:(i:Int)<=(n:Int):=by omega
 clear hkk hik hold hROW hG hRl
 have mixed:=yX
 go_enter Tryz.func147,Tryz.ntmps147
 go_wp2_with (first
  | (at_builtin; refine Lib.wpList_append_run _ rfl _ _ _ _ rfl _ _ rfl rfl _ _ (hrz _) ?_)
  | (at_builtin; refine iI _ rfl _ _ 88 88 rfl _ _ rfl rfl (hcpA _ hE1 hE2 _ _) ?_)
  | (at_builtin; refine iI _ rfl _ _ 88 88 rfl _ _ rfl rfl (hcpB _ (fun _=>rfl) (fun _=>rfl) _ _ _) ?_))
 go_region_law_o (refine nK rfl _ _ 88 88 rfl (.slice (some ⟨w.heap.size,i+m,none⟩) (n+m-(i+m)) (G-(i+m))) (.slice (some ⟨b,off+i,none⟩) (n-i) (c-i)) (by simp [Act.eval,Act.put]) (by simp [Act.eval,Act.put]) (hcpB _ hF1 hF2 3 (G-(i+m)) (c-i)) ?_)
 go_wp2
 go_ret
 exact ⟨rfl,rfl⟩
end Go.Proofs.YtboamamhcfhanaaGreat.Ins147
namespace Go.Proofs.YtboamamhcfhanaaGreat.Ev.Ok147
open Go Go.Proofs.YtboamamhcfhanaaGreat.Ev
set_option linter.all false
def pz (A:Array Value):Nat->List Value->Array Value
 | _,[]=>A
 | o,v :: r=>pz (A.setIfInBounds o v) (o+1) r
theorem gN:∀ (vs:List Value) (o:Nat) (A:Array Value),(pz A o vs).size=A.size
 | [],o,A=>rfl
 | v :: r,o,A=>by rw [pz,gN r]; simp
theorem Ql:∀ (vs:List Value) (o:Nat) (A:Array Value) (j:Nat),j<A.size->(pz A o vs)[j]? = if o<=j/\j<o+vs.length then vs[j-o]? else A[j]?
 | [],o,A,j,hj=>by rw [pz,if_neg (by simp only [List.length_nil]; omega)]
 | v :: r,o,A,j,hj=>by
  rw [pz,Ql r (o+1) _ j (by simpa using hj)]
  by_cases h1:o+1<=j/\j<o+1+r.length
  ·rw [if_pos h1,if_pos (by simp; omega),show j-o=(j-(o+1))+1 by omega,List.getElem?_cons_succ]
  ·rw [if_neg h1]
   by_cases h2:j=o
   ·subst h2
    rw [if_pos (by simp),Nat.sub_self,List.getElem?_cons_zero,Array.getElem?_setIfInBounds_self_of_lt hj]
   ·rw [if_neg (by simp; omega),Array.getElem?_setIfInBounds_ne (by omega)]
theorem ky (b:Nat):∀ (vs:List Value) (o:Nat) (w:World) (arr:Array Value) (ty:TypeId) (fr:Nat × Nat),w.heap[b]? = some (.cells arr ty fr) ->
  (w.setCells b o vs).heap[b]? = some (.cells (pz arr o vs) ty fr)/\(∀ c,c≠b->(w.setCells b o vs).heap[c]? = w.heap[c]?)/\(w.setCells b o vs).heap.size=w.heap.size /\
   Tp w (w.setCells b o vs)/\(w.setCells b o vs).os=w.os/\(w.setCells b o vs).output=w.output
 | [],o,w,arr,ty,fr,h=>⟨h,fun _ _=>rfl,rfl,Tp.same rfl rfl,rfl,rfl⟩
 | v :: r,o,w,arr,ty,fr,h=>by
  have h1:(w.setCell ⟨b,o,none⟩ v).heap[b]? = some (.cells (arr.setIfInBounds o v) ty fr):=by
   simp [World.setCell,Array.getElem?_modify,h]
  obtain ⟨k1,k2,k3,k4,k5,k6⟩:=ky b r (o+1) (w.setCell ⟨b,o,none⟩ v) _ ty fr h1
  refine ⟨k1,fun c hc=>(k2 c hc).trans ?_,k3.trans ?_,(Tp.same rfl rfl).trans k4,k5,k6⟩
  ·simp [World.setCell,Array.getElem?_modify,Ne.symm hc]
  ·simp [World.setCell]
theorem ko (w:World) (ty:TypeId):∀ (vs:List Value) (o:Nat) (A:Array Value),(w.alloc (.cells A ty)).setCells w.heap.size o vs=w.alloc (.cells (pz A o vs) ty)
 | [],o,A=>rfl
 | v :: r,o,A=>by
  have h1:(w.alloc (.cells A ty)).setCell ⟨w.heap.size,o,none⟩ v=w.alloc (.cells (A.setIfInBounds o v) ty):=by
   simp only [World.setCell,World.alloc]
   congr 1
   apply Array.ext_getElem?
   intro j
   rw [Array.getElem?_modify]
   by_cases hj:w.heap.size=j
   ·subst hj; simp
   ·rw [if_neg hj,Array.getElem?_push,Array.getElem?_push,if_neg (Ne.symm hj),if_neg (Ne.symm hj)]
  rw [World.setCells,h1,ko w ty r (o+1) _]; rfl
section
variable {P:Program} {μ:Mu} {F:Nat->Prop} {H:Heap} {w:World}
theorem Rq {μ':Mu} {H':Heap} {w':World} (h:Stp (fun x=>x=H.next) P μ F { H with next:=H.next+1 } w μ' F H' w'):Stp pu P μ F H w μ' F H' w' :=
 ⟨h.mu,h.fr,h.size,h.keep,h.rw,Nat.le_trans (Nat.le_add_right _ _) h.next,fun b hb _ hn=>h.new b (Nat.lt_of_lt_of_le hb (Nat.le_add_right _ _)) (by omega) hn,h.rng,
  fun b e hb hl _=>h.old b e hb (Nat.lt_of_lt_of_le hl (Nat.le_add_right _ _)) (by omega),h.alv,h.tape,h.os,h.out⟩
theorem Dz {ty:Nat} {cs:List AV} {V:List Value} {A:Array Value} {w1:World} {k cap':Nat} {H1:Heap} (hH:HR P μ F H1 w) (hnx:H1.next=H.next+1) (hid:μ H.next=none) (hs:sizeOf? P ty=some 1)
  (hl:LR μ F w cs V) (hk:V.length=k) (hA:∀ j,j<k->A[j]? = V[j]?) (hcap:k<=cap') (hsz:A.size=cap')
  (h1:w1.heap=w.heap) (ht:Tp w w1) (hos:w1.os=w.os) (hout:w1.output=w.output) :
  ∃ μ',VR μ' F (w1.alloc (.cells A ty)) (.own H.next 0 k k 1 false) (.slice (some ⟨w.heap.size,0,none⟩) k cap')/\HR P μ' F (H1.put H.next (.cells cs ty true)) (w1.alloc (.cells A ty)) /\
   Stp (fun x=>x=H.next) P μ F H1 w μ' F (H1.put H.next (.cells cs ty true)) (w1.alloc (.cells A ty)):=by
 have hcl:cs.length=k:=hl.1.trans hk
 obtain ⟨q1,q2⟩:=jN (I:=fun x=>x=H.next) hH hid (by omega) rfl (sz:=1) (arr:=A) (cs:=cs) hs (by omega)
  (fun i c v hc hv=>by
   have hi:i<k:=by rw [<- hcl]; exact (List.getElem?_eq_some_iff.1 hc).1
   rw [hA i hi] at hv
   exact hl.2 i c v hc hv) w1 h1 ht hos hout
 exact ⟨_,.own H.next 0 k k 1 false _ cap' (upd_same _ _) rfl (Nat.le_refl _) hcap (fun h=>by cases h) (by simp [hsz]),q1,q2⟩
theorem JY {b ty:Nat} {L:xe} {cs0 cs:List AV} {V:List Value} {A:Array Value} {w':World} {k cap:Nat} (hH:HR P μ F H w) (hb:H.get b=some (.cells cs0 ty true)) (hL:μ b=some L) (hLs:L.sz=1)
  (hl:LR μ F w cs V) (hk:V.length=k) (hA:∀ j,j<k->A[j]? = V[j]?) (hcap:k<=cap) (hsz:A.size=L.N) (hN:cap<=L.N)
  (hw:w'.heap[L.blk]? = some (.cells A ty (0,0))) (hoth:∀ c,c≠L.blk->w'.heap[c]? = w.heap[c]?) (hsize:w'.heap.size=w.heap.size) (ht:Tp w w') (hos:w'.os=w.os) (hout:w'.output=w.output) :
  ∃ μ',VR μ' F w' (.own H.next 0 k k 1 false) (.slice (some ⟨L.blk,0,none⟩) k cap)/\HR P μ' F (({ H with next:=H.next+1 }.kill b).put H.next (.cells cs ty true)) w' /\
   Stp pu P μ F H w μ' F (({ H with next:=H.next+1 }.kill b).put H.next (.cells cs ty true)) w':=by
 have hcl:cs.length=k:=hl.1.trans hk
 have hid:μ H.next=none:=iT hH (Nat.le_refl _)
 have hH1:=hH.bump 1
 have hb1:({ H with next:=H.next+1 }:Heap).get b=some (.cells cs0 ty true):=hb
 obtain ⟨arr,fr,g1,g2,g3,g4,g5,g6,g7⟩:=eJ hH hb hL
 obtain ⟨p1,p2⟩:=gK (I:=fun x=>x=H.next) (e:=.cells cs ty true) hH1 hb1 rfl hL w' hoth hsize ht hos hout
  (fun hF=>⟨A,(0,0),hw,hsz,g3,by omega,fun i c v hc hv=>by
   have hi:i<k:=by rw [<- hcl]; exact (List.getElem?_eq_some_iff.1 hc).1
   rw [hA i hi] at hv
   exact (hl.2 i c v hc hv).mono (fun _ _ h=>h) (fun _ h=>h) hF,fun _=>⟨(g6 rfl).1,rfl⟩,fun h=>by cases h⟩) rfl
 obtain ⟨q4,q5⟩:=qW (I:=fun x=>x=H.next) p1 (b:=b) (id:=H.next) (L:=L) (by rw [Heap.get_put,if_pos rfl]) hL hid (by show H.next<H.next+1; omega) rfl
 refine ⟨μ.upd H.next L,.own H.next 0 k k 1 false L cap (upd_same _ _) hLs (Nat.le_refl _) hcap (fun h=>by cases h) (by simp; omega),?_,?_⟩
 ·refine q4.congr rfl fun x=>?_
  simp only [Heap.get_put,Heap.get_kill]
  split
  ·rfl
  ·split
   ·rfl
   ·rename_i hx; rfl
 ·refine Rq ((p2.trans q5).congr rfl fun x e he=>⟨e,?_,rfl⟩)
  simp only [Heap.get_put,Heap.get_kill] at he ⊢
  split at he
  ·rename_i hx; rw [if_pos hx]; exact he
  ·rename_i hx
   rw [if_neg hx]
   split at he
   ·cases he
   ·rename_i hx2; rw [if_neg hx2,if_neg hx2]; exact he
end
theorem rg {vs:List Value} {w:World} {F:Fence} {rd:Bool} {n:Nat} {R:Value->World->Prop} (hF:FenceOK F rd) (h:Calls Tryz.prog 147 vs.toArray w fun e w'=>∃ u,e=.returned u/\R u w'):Runs F n Tryz.prog ((callFunc 147 vs.toArray).run Tryz.prog w) R:=by
 rw [pk (P:=Tryz.prog) (f:=147) Tryz.func147 (by kernel_rfl) (of_decide_eq_true (by kernel_rfl))]
 unfold Runs
 simp only
 have key:CallsIn Fence.wide n Tryz.prog 147 vs.toArray w fun e w'=>∃ u,e=.returned u/\R u w':=callsIn_wide.2 h
 rcases hF with ⟨_,rfl⟩ | ⟨_,l,rfl⟩
 ·exact key
 ·exact key
theorem qY {w:World} {b:Nat} {arr:Array Value} {ty:TypeId} (h:w.heap[b]? = some (.cells arr ty (0,0))) (o:Nat):w.frozen? ⟨b,o,none⟩=false:=by
 simp [World.frozen?,h]
theorem JZ {H H':Heap} {size bytes ty:Nat} {args:List AV} {v:AV} (h:rk H (.insert size bytes ty) args=some (v,H')) :
  (∃ b2 off2 m c2 sz2 CD news,args=[.nilSl,.int .i64 (.ofNat 0),.own b2 off2 m c2 sz2 CD]/\aJ H size m (.own b2 off2 m c2 sz2 CD)=some news/\0<m/\m*bytes<=2^46/\m<2^62/\news.all AV.one=true /\
   v=.own H.next 0 m m size false/\H'=({ H with next:=H.next+1 }:Heap).put H.next (.cells news ty true)) \/
  (∃ b n c ex i b2 off2 m c2 sz2 CD news cs cs2 ty2,args=[.own b 0 n c size ex,.int .i64 (.ofNat i),.own b2 off2 m c2 sz2 CD]/\aJ H size m (.own b2 off2 m c2 sz2 CD)=some news/\H.get b=some (.cells cs ty true)/\H.get b2=some (.cells cs2 ty2 true) /\
   b≠b2/\0<m/\i<=n/\cs.length=n*size/\(n+m)*bytes<=2^46/\n+m<2^62/\news.all AV.one=true/\cs.all AV.one=true /\
   v=.own H.next 0 (n+m) (n+m) size false/\H'=(({ H with next:=H.next+1 }:Heap).kill b).put H.next (.cells (cs.take (i*size)++news++cs.drop (i*size)) ty true)):=by
 unfold rk at h
 split at h
 all_goals first | contradiction | skip
 ·rename_i heq
  cases heq
  split at h
  ·rename_i news hnews
   split at h
   ·rename_i hc
    obtain ⟨c1,c2',c3,c4,c5⟩:=hc
    cases h
    subst c1
    exact .inl ⟨_,_,_,_,_,_,news,rfl,hnews,c2',c3,c4,c5,rfl,rfl⟩
   ·cases h
  ·cases h
 ·rename_i heq
  cases heq
  split at h
  ·rename_i news cs ty' cs2 ty2 hnews hb hb2
   split at h
   ·rename_i hc
    obtain ⟨c1,c2',c3,c4,c5,c6,c7,c8,c9,c10,c11⟩:=hc
    cases h
    subst c1
    subst c2'
    subst c9
    exact .inr ⟨_,_,_,_,_,_,_,_,_,_,_,news,cs,cs2,ty2,rfl,hnews,hb,hb2,c3,c4,c5,c6,c7,c8,c10,c11,rfl,rfl⟩
   ·cases h
  ·cases h
 all_goals (cases h)
theorem AH {P:Program} {μ:Mu} {F:Nat->Prop} {H:Heap} {w:World} {b2 off2 m c2 sz2:Nat} {CD:Bool} {news:List AV} {z:Value} (hH:HR P μ F H w) (hz:VR μ F w (.own b2 off2 m c2 sz2 CD) z) (hnews:aJ H 1 m (.own b2 off2 m c2 sz2 CD)=some news) :
  ∃ L2 cap2 arr2 ty2 fr2 cs2 rw2,μ b2=some L2/\z=.slice (some ⟨L2.blk,off2,none⟩) m cap2/\H.get b2=some (.cells cs2 ty2 rw2)/\w.heap[L2.blk]? = some (.cells arr2 ty2 fr2)/\off2+m<=arr2.size/\(rw2=true->fr2=(0,0)) /\
   ((arr2.toList.drop off2).take m).length=m/\LR μ F w news ((arr2.toList.drop off2).take m)/\∀ j u,((arr2.toList.drop off2).take m)[j]? = some u->w.cell? ⟨L2.blk,off2+j,none⟩=some u:=by
 cases hz with
 | own _ _ _ _ _ _ L2 cap2 k1 k2 k3 k4 k5 k6 =>
 simp only [aJ] at hnews
 split at hnews
 ·rename_i cs2 ty2 rw2 hb2
  split at hnews
  ·rename_i hcc
   obtain ⟨e1,e2,e3⟩:=hcc
   cases hnews
   obtain ⟨arr2,fr2,g1,g2,g3,g4,g5,g6,g7⟩:=eJ hH hb2 k1
   have hvl:((arr2.toList.drop off2).take m).length=m:=by simp; omega
   refine ⟨L2,cap2,arr2,ty2,fr2,cs2,rw2,k1,rfl,hb2,g1,by omega,fun h=>(g6 h).2,hvl,⟨by simp; omega,fun i c u hi hu=>?_⟩,fun j u hj=>?_⟩
   ·rw [List.getElem?_take] at hi hu
    rw [Nat.mul_one] at hi
    split at hi
    ·rename_i him
     rw [if_pos him] at hu
     rw [List.getElem?_drop] at hi hu
     exact g5 _ c u hi (by simpa using hu)
    ·cases hi
   ·rw [nd g1]
    rw [List.getElem?_take] at hj
    split at hj
    ·rw [List.getElem?_drop] at hj; simpa using hj
    ·cases hj
  ·cases hnews
 ·cases hnews
theorem JH {μ:Mu} {F:Nat->Prop} {w:World} {b n c sz:Nat} {ex:Bool} {x:Value} (h:VR μ F w (.own b 0 n c sz ex) x):∃ L cap,μ b=some L/\L.sz=sz/\n<=c/\c<=cap/\cap*sz<=L.N/\x=.slice (some ⟨L.blk,0,none⟩) n cap:=by
 cases h with
 | own _ _ _ _ _ _ L cap k1 k2 k3 k4 k5 k6=>exact ⟨L,cap,k1,k2,k3,k4,by omega,rfl⟩
theorem uI {μ:Mu} {F:Nat->Prop} {w:World} {vs:List Value} {a b c:AV} (h:LR μ F w [a,b,c] vs):∃ x y z,vs=[x,y,z]/\VR μ F w a x/\VR μ F w b y/\VR μ F w c z:=by
 have hl:=h.1
 match vs,hl with
 | [x,y,z],_=>exact ⟨x,y,z,rfl,h.head,h.tail.head,h.tail.tail.head⟩
set_option maxRecDepth 100000 in
theorem extOK_insert:ExtOK Tryz.prog 147 (.insert 1 24 32):=by
 intro H args v H' h μ F w vs fence rd nn hF hH hl
 have hsE:sizeOf? Tryz.prog 32=some 1:=by
  obtain ⟨i0,hi,h0,h1,h2⟩:=info_parts Ins147.iE
  simp [sizeOf?,hi,h1]
 have hid:μ H.next=none:=iT hH (Nat.le_refl _)
 have hzs:∀ k,(Builtin.zeroCells (Value.slice none 0 0).cells k).size=k:=fun k=>by rw [uj]; simp [Value.cells]
 rcases JZ h with ⟨b2,off2,m,c2,sz2,CD,news,rfl,hnews,h1,h2,h3,h4,rfl,rfl⟩ | ⟨b,n,c,ex,i,b2,off2,m,c2,sz2,CD,news,cs,cs2,ty2,rfl,hnews,hb,hb2,h1,h2,h3,h4,h5,h6,h7,h8,rfl,rfl⟩
 ·obtain ⟨x,y,z,rfl,hx,hy,hz⟩:=uI hl
  cases hx
  cases hy
  obtain ⟨L2,cap2,arr2,ty2,fr2,cs2,rw2,k1,rfl,k3,g1,g2,-,hvl,hvr,hcell⟩:=AH hH hz hnews
  refine rg hF ((Ins147.end_grow none 0 0 L2.blk off2 m cap2 [] ((arr2.toList.drop off2).take m) w h1 (Nat.le_refl _) (by omega) (by omega) rfl hvl (fun _=>rfl) (fun a h=>by cases h) hcell (hvr.one h4)).mono fun e w' ⟨he,hw⟩=>?_)
  subst hw
  rw [Nat.zero_add] at he
  have hge:=Go.grownCap_ge w m 0 32
  simp only [Nat.zero_add,List.nil_append]
  obtain ⟨μ',q1,q2,q3⟩:=Dz (P:=Tryz.prog) (H:=H) (A:=((arr2.toList.drop off2).take m).toArray++Builtin.zeroCells (Value.slice none 0 0).cells (grownCap w m 0 32-m)) (w1:=w.drew) (k:=m) (cap':=grownCap w m 0 32) (hH.bump 1) rfl hid hsE hvr hvl
   (fun j hj=>by rw [Array.getElem?_append_left (by simp [hvl]; omega)]; simp) hge (by simp only [Array.size_append,List.size_toArray,hvl,hzs]; omega) rfl Tp.draw rfl rfl
  exact ⟨_,he,μ',q1,q2,Rq q3⟩
 ·obtain ⟨x,y,z,rfl,hx,hy,hz⟩:=uI hl
  obtain ⟨L,cap,r1,r2,r3,r4,r5,rfl⟩:=JH hx
  cases hy
  obtain ⟨L2,cap2,arr2,ty2',fr2,cs2',rw2,k1,rfl,k3,g1,g2,gfr,hvl,hvr,hcell⟩:=AH hH hz hnews
  rw [hb2] at k3
  cases k3
  have hfr2:=gfr rfl
  subst hfr2
  obtain ⟨arr,fr,p1,p2,p3,p4,p5,p6,p7⟩:=eJ hH hb r1
  obtain ⟨-,rfl⟩:=p6 rfl
  rw [Nat.mul_one] at h4 r5
  have hne:L2.blk≠L.blk:=fun e=>h1 (hH.inj b b2 _ _ L L2 hb hb2 r1 k1 e.symm)
  have hvsl:(arr.toList.take n).length=n:=by simp; omega
  have hcs:LR μ F w cs (arr.toList.take n):=by
   refine ⟨by simp; omega,fun i c u hi hu=>?_⟩
   rw [List.getElem?_take] at hu
   split at hu
   ·exact p5 i c u hi (by simpa using hu)
   ·cases hu
  have hcell0:∀ j u,(arr.toList.take n)[j]? = some u->w.cell? ⟨L.blk,0+j,none⟩=some u:=fun j u hj=>by
   rw [nd p1,Nat.zero_add]
   rw [List.getElem?_take] at hj
   split at hj
   ·simpa using hj
   ·cases hj
  have hV:LR μ F w (cs.take (i*1)++news++cs.drop (i*1)) ((arr.toList.take n).take i++(arr2.toList.drop off2).take m++(arr.toList.take n).drop i):=by
   rw [Nat.mul_one]
   exact ((hcs.take i).append hvr).append (hcs.drop i)
  have hVl:((arr.toList.take n).take i++(arr2.toList.drop off2).take m++(arr.toList.take n).drop i).length=n+m:=by
   simp only [List.length_append,List.length_take,List.length_drop,hvl,hvsl]
   have:=hvsl
   rw [List.length_take] at this
   omega
  generalize hC:arr.toList.take n=C at *
  generalize hD:(arr2.toList.drop off2).take m=D at *
  have hCl:=hvsl
  have hDl:=hvl
  have harr:∀ j,j<n->arr[j]? = C[j]?:=fun j hj=>by rw [<- hC,List.getElem?_take,if_pos hj]; simp
  have hVat:∀ j,j<n+m->(C.take i++D++C.drop i)[j]? = if j<i then C[j]? else if j<i+m then D[j-i]? else C[j-m]?:=by
   intro j hj
   have e1:(C.take i).length=i:=by rw [List.length_take]; omega
   by_cases q1:j<i
   ·rw [if_pos q1,List.getElem?_append_left (by rw [List.length_append,e1]; omega),List.getElem?_append_left (by omega),List.getElem?_take,if_pos q1]
   ·rw [if_neg q1]
    by_cases q2:j<i+m
    ·rw [if_pos q2,List.getElem?_append_left (by rw [List.length_append,e1]; omega),List.getElem?_append_right (by omega),e1]
    ·rw [if_neg q2,List.getElem?_append_right (by rw [List.length_append,e1]; omega),List.length_append,e1,List.getElem?_drop]
     congr 1; omega
  have hsp:∀ j,j<cap->(w.cell? ⟨L.blk,0+j,none⟩).isSome=true:=fun j hj=>by
   rw [nd p1,Nat.zero_add,Array.getElem?_eq_getElem (by omega)]; rfl
  by_cases hroom:n+m<=cap
  ·
   have fin:∀ (A:Array Value) (w':World),A.size=L.N->(∀ j,j<n+m->A[j]? = (C.take i++D++C.drop i)[j]?)->w'.heap[L.blk]? = some (.cells A 32 (0,0))->(∀ c,c≠L.blk->w'.heap[c]? = w.heap[c]?)->w'.heap.size=w.heap.size->Tp w w'->w'.os=w.os->w'.output=w.output ->
     ∃ μ',gn pu Tryz.prog μ F H w (.own H.next 0 (n+m) (n+m) 1 false) (({ H with next:=H.next+1 }:Heap).kill b |>.put H.next (.cells (cs.take (i*1)++news++cs.drop (i*1)) 32 true)) (.slice (some ⟨L.blk,0,none⟩) (n+m) cap) w' μ':=by
    intro A w' a1 a2 a3 a4 a5 a6 a7 a8
    obtain ⟨μ',q1,q2,q3⟩:=JY (P:=Tryz.prog) (A:=A) (w':=w') (k:=n+m) (cap:=cap) hH hb r1 r2 hV hVl a2 hroom a1 r5 a3 a4 a5 a6 a7 a8
    exact ⟨μ',q1,q2,q3⟩
   by_cases hin:i=n
   ·subst hin
    refine rg hF ((Ins147.end_room L.blk 0 i cap L2.blk off2 m cap2 D w h2 hroom (by omega) hDl (fun j hj=>by rw [Nat.add_assoc]; exact hsp _ (by omega)) (fun j _=>qY p1 _) hcell (hvr.one h7)).mono fun e w' ⟨he,hw⟩=>?_)
    subst hw
    obtain ⟨s1,s2,s3,s4,s5,s6⟩:=ky L.blk D (0+i) w arr 32 (0,0) p1
    obtain ⟨μ',hd⟩:=fin _ _ ((gN _ _ _).trans p2) (fun j hj=>by
     rw [Ql _ _ _ _ (by omega),hVat j hj,hDl,Nat.zero_add]
     by_cases q1:j<i
     ·rw [if_neg (by omega),if_pos q1,harr j q1]
     ·rw [if_pos (by omega),if_neg q1,if_pos (by omega)]) s1 s2 s3 s4 s5 s6
    exact ⟨_,he,μ',hd⟩
   ·refine rg hF ((Ins147.shift L.blk 0 n cap i L2.blk off2 m cap2 C D w (by omega) h2 hroom (by omega) hne hCl hDl hcell0 (fun j hj=>hsp j (by omega)) (fun j _=>qY p1 _) hcell (hcs.one h8) (hvr.one h7)
     ty2 32 arr2.size arr.size (by simp [World.shape?,g1]) (by simp [World.shape?,p1]) (by omega) (qY g1 _) (qY g1 _)).mono fun e w' ⟨he,hw⟩=>?_)
    subst hw
    obtain ⟨s1,s2,s3,s4,s5,s6⟩:=ky L.blk (C.drop i) (0+(i+m)) w.drew arr 32 (0,0) p1
    obtain ⟨t1,t2,t3,t4,t5,t6⟩:=ky L.blk D (0+i) _ _ 32 (0,0) s1
    obtain ⟨μ',hd⟩:=fin _ _ (by rw [gN,gN]; exact p2) (fun j hj=>by
     rw [Ql _ _ _ _ (by rw [gN]; omega),Ql _ _ _ _ (by omega),hVat j hj,hDl,Nat.zero_add,Nat.zero_add,List.length_drop,hCl]
     by_cases q1:j<i
     ·rw [if_neg (by omega),if_neg (by omega),if_pos q1,harr j (by omega)]
     ·by_cases q2:j<i+m
      ·rw [if_pos (by omega),if_neg q1,if_pos q2]
      ·rw [if_neg (by omega),if_pos (by omega),if_neg q1,if_neg q2,List.getElem?_drop]
       congr 1; omega) t1 (fun c hc=>(t2 c hc).trans (s2 c hc)) (t3.trans s3) ((Tp.draw.trans s4).trans t4) (t5.trans s5) (t6.trans s6)
    exact ⟨_,he,μ',hd⟩
  ·
   have hge:=Go.grownCap_ge w (n+m) cap 32
   obtain ⟨z1,z2⟩:=qA (I:=fun x=>x=H.next) (hH.bump 1) b
   have fin:∀ (A:Array Value) (w1:World),A.size=grownCap w (n+m) cap 32->(∀ j,j<n+m->A[j]? = (C.take i++D++C.drop i)[j]?)->w1.heap=w.heap->Tp w w1->w1.os=w.os->w1.output=w.output ->
     ∃ μ',gn pu Tryz.prog μ F H w (.own H.next 0 (n+m) (n+m) 1 false) (({ H with next:=H.next+1 }:Heap).kill b |>.put H.next (.cells (cs.take (i*1)++news++cs.drop (i*1)) 32 true)) (.slice (some ⟨w.heap.size,0,none⟩) (n+m) (grownCap w (n+m) cap 32)) (w1.alloc (.cells A 32)) μ':=by
    intro A w1 a1 a2 a3 a4 a5 a6
    obtain ⟨μ',q1,q2,q3⟩:=Dz (P:=Tryz.prog) (H:=H) (A:=A) (w1:=w1) (k:=n+m) (cap':=grownCap w (n+m) cap 32) z1 rfl hid hsE hV hVl a2 hge a1 a3 a4 a5 a6
    exact ⟨μ',q1,q2,Rq (z2.trans q3)⟩
   by_cases hin:i=n
   ·subst hin
    refine rg hF ((Ins147.end_grow (some ⟨L.blk,0,none⟩) i cap L2.blk off2 m cap2 C D w h2 (by omega) (by omega) (by omega) hCl hDl (fun h=>by cases h) (fun a ha j u hj=>by cases ha; rw [ip]; exact hcell0 j u hj) hcell (hvr.one h7)).mono fun e w' ⟨he,hw⟩=>?_)
    subst hw
    obtain ⟨μ',hd⟩:=fin ((C++D).toArray++Builtin.zeroCells (Value.slice none 0 0).cells (grownCap w (i+m) cap 32-(i+m))) w.drew (by simp only [Array.size_append,List.size_toArray,List.length_append,hCl,hDl,hzs]; omega) (fun j hj=>by
     rw [Array.getElem?_append_left (by simp [hCl,hDl]; omega),hVat j hj]
     have e0:(C++D).toArray[j]? = (C++D)[j]?:=by simp
     rw [e0]
     by_cases q1:j<i
     ·rw [if_pos q1,List.getElem?_append_left (by omega)]
     ·rw [if_neg q1,if_pos (by omega),List.getElem?_append_right (by omega),hCl]) rfl Tp.draw rfl rfl
    exact ⟨_,he,μ',hd⟩
   ·refine rg hF ((Ins147.grow L.blk 0 n cap i L2.blk off2 m cap2 C D w (by omega) h2 (by omega) (by omega) (by omega) hCl hDl hcell0 hcell (hcs.one h8) (hvr.one h7)).mono fun e w' ⟨he,hw⟩=>?_)
    have e1:∀ A:Array Value,(((w.alloc (.cells A 32)).drew.setCells w.heap.size i D).drew).setCells w.heap.size (i+m) (C.drop i)=w.drew.drew.alloc (.cells (pz (pz A i D) (i+m) (C.drop i)) 32):=fun A=>by
     have a1:(w.alloc (.cells A 32)).drew=w.drew.alloc (.cells A 32):=rfl
     have a2:(w.drew.alloc (.cells A 32)).setCells w.heap.size i D=w.drew.alloc (.cells (pz A i D) 32):=ko w.drew 32 D i A
     have a3:(w.drew.alloc (.cells (pz A i D) 32)).drew=w.drew.drew.alloc (.cells (pz A i D) 32):=rfl
     rw [a1,a2,a3]
     exact ko w.drew.drew 32 (C.drop i) (i+m) (pz A i D)
    rw [e1] at hw
    subst hw
    obtain ⟨μ',hd⟩:=fin (pz (pz ((C.take i).toArray++Builtin.zeroCells (Value.slice none 0 0).cells (n+m-i)++Builtin.zeroCells (Value.slice none 0 0).cells (grownCap w (n+m) cap 32-(n+m))) i D) (i+m) (C.drop i)) w.drew.drew (by
      rw [gN,gN]
      simp only [Array.size_append,List.size_toArray,List.length_take,hCl,hzs]; omega) (fun j hj=>by
     have hA0:((C.take i).toArray++Builtin.zeroCells (Value.slice none 0 0).cells (n+m-i)++Builtin.zeroCells (Value.slice none 0 0).cells (grownCap w (n+m) cap 32-(n+m))).size=grownCap w (n+m) cap 32:=by
      simp only [Array.size_append,List.size_toArray,List.length_take,hCl,hzs]; omega
     rw [Ql _ _ _ _ (by rw [gN,hA0]; omega),Ql _ _ _ _ (by rw [hA0]; omega),hVat j hj,hDl,List.length_drop,hCl]
     by_cases q1:j<i
     ·rw [if_neg (by omega),if_neg (by omega),if_pos q1,Array.getElem?_append_left (by simp only [Array.size_append,List.size_toArray,List.length_take,hCl,hzs]; omega),Array.getElem?_append_left (by simp only [List.size_toArray,List.length_take,hCl]; omega)]
      simp [q1]
     ·by_cases q2:j<i+m
      ·rw [if_neg (by omega),if_pos (by omega),if_neg q1,if_pos q2]
      ·rw [if_pos (by omega),if_neg q1,if_neg q2,List.getElem?_drop]
       congr 1; omega) rfl (Tp.draw.trans Tp.draw) rfl rfl
    exact ⟨_,he,μ',hd⟩
end Go.Proofs.YtboamamhcfhanaaGreat.Ev.Ok147
namespace Go.Proofs.YtboamamhcfhanaaGreat.Ev.So79
open Go Go.RowKit Go.Sort Go.Shelf Go.Lib Go.Proofs.YtboamamhcfhanaaGreat.Ev
set_option linter.all false
set_option maxRecDepth 100000
def BO:Go.Shelf.Ren:=⟨fun | 6=>79 | 15=>102 | 14=>101 | 28=>131 | 29=>132 | 20=>123 | 21=>124 | 22=>125 | 23=>126 | 24=>127 | 25=>128 | 26=>129 | 27=>130 | 46=>152 | 47=>153 | 48=>154 | 49=>155 | 50=>156 | 57=>165 | n=>n,fun | 22=>88 | 24=>32 | 25=>115 | 3=>3 | 39=>137 | 0=>0 | 53=>166 | 55=>82 | 4=>4 | 46=>159 | 45=>158 | 50=>163 | 5=>5 | 9=>9 | 66=>189 | 70=>193 | 76=>206 | 77=>207 | n=>n,fun | n=>n⟩
theorem GS:Go.Proofs.SlLaysF.n6 Tryz.prog BO:={
 mixed:=by kernel_rfl
 f6:=⟨Tryz.f79.name,by decide,Tryz.func79.trans (congrArg some (by kernel_rfl))⟩
 f14:=⟨Tryz.f101.name,by decide,Tryz.func101.trans (congrArg some (by kernel_rfl))⟩
 f15:=Tryz.func102.trans (congrArg some (by kernel_rfl))
 f20:=⟨Tryz.f123.name,by decide,Tryz.func123.trans (congrArg some (by kernel_rfl))⟩
 f21:=⟨Tryz.f124.name,by decide,Tryz.func124.trans (congrArg some (by kernel_rfl))⟩
 f22:=⟨Tryz.f125.name,by decide,Tryz.func125.trans (congrArg some (by kernel_rfl))⟩
 f23:=⟨Tryz.f126.name,by decide,Tryz.func126.trans (congrArg some (by kernel_rfl))⟩
 f24:=⟨Tryz.f127.name,by decide,Tryz.func127.trans (congrArg some (by kernel_rfl))⟩
 f25:=⟨Tryz.f128.name,by decide,Tryz.func128.trans (congrArg some (by kernel_rfl))⟩
 f26:=⟨Tryz.f129.name,by decide,Tryz.func129.trans (congrArg some (by kernel_rfl))⟩
 f27:=⟨Tryz.f130.name,by decide,Tryz.func130.trans (congrArg some (by kernel_rfl))⟩
 f28:=Tryz.func131.trans (congrArg some (by kernel_rfl))
 f29:=Tryz.func132.trans (congrArg some (by kernel_rfl))
 f46:=⟨Tryz.f152.name,by decide,Tryz.func152.trans (congrArg some (by kernel_rfl))⟩
 f47:=Tryz.func153.trans (congrArg some (by kernel_rfl))
 f48:=Tryz.func154.trans (congrArg some (by kernel_rfl))
 f49:=⟨Tryz.f155.name,by decide,Tryz.func155.trans (congrArg some (by kernel_rfl))⟩
 f50:=⟨Tryz.f156.name,by decide,Tryz.func156.trans (congrArg some (by kernel_rfl))⟩
 f57:=⟨Tryz.f165.name,by decide,Tryz.func165.trans (congrArg some (by kernel_rfl))⟩
 t0:=Tryz.underlying0
 a0:=Tryz.isAgg0
 z0:=Tryz.sizeOf0
 v0:=Tryz.zeroValue0
 t3:=Tryz.underlying3
 a3:=Tryz.isAgg3
 z3:=Tryz.sizeOf3
 v3:=Tryz.zeroValue3
 t4:=Tryz.underlying4
 a4:=Tryz.isAgg4
 z4:=Tryz.sizeOf4
 v4:=Tryz.zeroValue4
 t5:=Tryz.underlying5
 a5:=Tryz.isAgg5
 z5:=Tryz.sizeOf5
 v5:=Tryz.zeroValue5
 t9:=Tryz.underlying9
 a9:=Tryz.isAgg9
 z9:=Tryz.sizeOf9
 v9:=Tryz.zeroValue9
 t22:=Tryz.underlying88
 a22:=Tryz.isAgg88
 z22:=Tryz.sizeOf88
 v22:=Tryz.zeroValue88
 a24:=Tryz.isAgg32
 z24:=Tryz.sizeOf32
 t25:=Tryz.underlying115
 a25:=Tryz.isAgg115
 z25:=Tryz.sizeOf115
 v25:=Tryz.zeroValue115
 t39:=Tryz.underlying137
 a39:=Tryz.isAgg137
 z39:=Tryz.sizeOf137
 v39:=Tryz.zeroValue137
 t45:=Tryz.underlying158
 a45:=Tryz.isAgg158
 z45:=Tryz.sizeOf158
 v45:=Tryz.zeroValue158
 t46:=Tryz.underlying159
 a46:=Tryz.isAgg159
 z46:=Tryz.sizeOf159
 v46:=Tryz.zeroValue159
 t50:=Tryz.underlying163
 a50:=Tryz.isAgg163
 z50:=Tryz.sizeOf163
 v50:=Tryz.zeroValue163
 t53:=Tryz.underlying166
 a53:=Tryz.isAgg166
 z53:=Tryz.sizeOf166
 v53:=Tryz.zeroValue166
 t55:=Tryz.underlying82
 a55:=Tryz.isAgg82
 z55:=Tryz.sizeOf82
 v55:=Tryz.zeroValue82
 t66:=Tryz.underlying189
 a66:=Tryz.isAgg189
 z66:=Tryz.sizeOf189
 v66:=Tryz.zeroValue189
 t70:=Tryz.underlying193
 a70:=Tryz.isAgg193
 z70:=Tryz.sizeOf193
 v70:=Tryz.zeroValue193
 t76:=Tryz.underlying206
 a76:=Tryz.isAgg206
 z76:=Tryz.sizeOf206
 v76:=Tryz.zeroValue206
 t77:=Tryz.underlying207
 a77:=Tryz.isAgg207
 z77:=Tryz.sizeOf207
 v77:=Tryz.zeroValue207 }
theorem Lr:CX Tryz.prog 79 [80]:=by
 refine ⟨⟨Tryz.f79,Tryz.func79,by kernel_rfl,by decide +kernel⟩,trivial,?_,?_,?_⟩
 ·intro g hg args w
  simp only [List.mem_cons,List.not_mem_nil,or_false] at hg
  subst hg
  exact enters_of Tryz.func80 (by kernel_rfl) rfl args w
 ·intro p cap fv w
  exact AnyF.slices_SortFunc_none { GS with } p cap fv w
 ·intro k enc cf g cb blk cap w hg h1 hO hT hcmp hH hblk hsz
  have eg:∀ args w,(callFunc g args).run Tryz.prog w=.ok (.enter g args) w:=by
   intro args w
   simp only [List.mem_cons,List.not_mem_nil,or_false] at hg
   subst hg
   exact enters_of Tryz.func80 (by kernel_rfl) rfl args w
  have hs:(List.finRange (k+1)).toArray.size=k+1:=by simp
  have h:=Any.slices_SortFunc_total GS enc h1 cf hO g cb blk 0 cap (List.finRange (k+1)).toArray w eg (by rw [hs]; exact hcmp) hH hblk (by rw [hs]; exact hsz) hT
  rw [hs] at h
  change Calls Tryz.prog 79 _ _ _ at h
  exact h
theorem extOK:ExtOK Tryz.prog 79 (.sortF 32 [80]):=Lr
end Go.Proofs.YtboamamhcfhanaaGreat.Ev.So79
