/- A part. -/
import Derived.Test.YtboamamhcfhanaaGreatN46
import Derived.Test.YtboamamhcfhanaaGreatEvDraw5
import Derived.KernelRfl
import Derived.WalkKit
import Derived.ProofKit
import Derived.Test.YtboamamhcfhanaaGreatProg
import Derived.Lib.Walk
import Derived.Lib.SliceRun
import Derived.Lib.JoinLaws
import Derived.Lib.AppendZeros
import Derived.Lib.AppendZerosOnto
import Derived.Lib.Overlaps
import Derived.Laws.Externs
import Derived.Laws.IdiomCopy
import Derived.Laws.NewBlocks
import Derived.Shelf.RegionOpenPlain
import Derived.Shelf.SlSortCmp.NoneTotal
import Derived.Ground.SlsfProg
import Derived.Test.YtboamamhcfhanaaGreatKit
namespace Go.Proofs.YtboamamhcfhanaaGreat.Ev
open Go Nn
set_option linter.all false
theorem ND {x y z a b c:AV} {ty:Nat} (ha:One a) (hb:One b) (hc:One c):By (some (.cells [x,y,z] ty true)) 3 0 (.agg [a,b,c])=some (.cells [a,b,c] ty true):=by
 simpa using i9 (cs:=[x,y,z]) (vs:=[a,b,c]) (ty:=ty) (n:=3) (o:=0) (v:=.agg [a,b,c]) ⟨rfl,rfl,by simp [ha.2,hb.2,hc.2]⟩ (by simp)
theorem Ma {x y z a b c:AV} (ha:One a) (hb:One b) (hc:One c):gH [x,y,z] [((0,1),a),((1,1),b),((2,1),c)]=some (.agg [a,b,c]):=by
 simp [gH,cM,ha.1,ha.2,hb.1,hb.2,hc.1,hc.2]
section
variable {H:Heap} {s:AV}
theorem A2 {ty:Nat} {l:List (List Int × Bool)} (h:SlV conE ty H s l):SlV conQE ty H s (l.map fun c=>(c.1.map jv,c.2)):=by
 obtain ⟨cells,hr,ht,hc,ha⟩:=h
 refine ⟨cells,hr,ht,by rw [hc,List.length_map]; rfl,fun i a hi=>?_⟩
 rw [List.getElem?_map,Option.map_eq_some_iff] at hi
 obtain ⟨z,hz,rfl⟩:=hi
 obtain ⟨w,h1,h2⟩:=ha i z hz
 exact ⟨w,h1,h2.raw⟩
end
section
open Lin
variable {n m:Nat}
theorem vW {l:List (V × Bool)} (hn:n<=5) (h:∀ c∈l,c.1.length=n+1/\Bd (2^m) c.1):∀ x∈gensP n l,x.2.length=n+1/\Bd (2^(64*(m+4))) x.2:=fun x hx=>by
 have hE:∀ a∈eqsOf l,a.length=n+1/\Bd (2^m) a:=fun a ha=>h _ (mem_eqs.1 ha)
 have hI:∀ a∈ineqsOf n l,a.length=n+1/\Bd (2^m) a:=fun a ha=>by
  rcases mem_ineqs.1 ha with rfl | ha
  ·exact ⟨unitC_len n 1,C5 n m⟩
  ·exact h _ ha
 obtain ⟨c1,c2⟩:=qR (d:=n+1) (m:=m) (by omega) (by omega) hE hI
 unfold gensP at hx
 split at hx
 ·rcases List.mem_append.1 hx with hx | hx
  ·obtain ⟨r,hr,rfl⟩:=List.mem_map.1 hx
   exact c1 r hr
  ·obtain ⟨r,hr,rfl⟩:=List.mem_map.1 hx
   exact c2 r hr
 ·cases hx
theorem GC (n m:Nat):Bd (2^m) (unitC n (-1)):=fun i=>by
 have h1:1<=2^m:=Nat.pow_pos (by decide)
 unfold unitC at_
 cases i with
 | zero=>simpa using h1
 | succ i =>
  rw [List.getD_cons_succ,List.getD_eq_getElem?_getD,List.getElem?_replicate]
  split <;> simp
theorem Ik {g:List (Nat × V)} (hn:n<=5) (h:∀ x∈g,x.2.length=n+1/\Bd (2^m) x.2):∀ c∈consP n g,c.1.length=n+1/\Bd (2^(64*(m+4))) c.1:=fun x hx=>by
 have hE:∀ a∈linesOf g,a.length=n+1/\Bd (2^m) a:=fun a ha=>h _ (mem_lines.1 ha)
 have hI:∀ a∈raysOf g,a.length=n+1/\Bd (2^m) a:=fun a ha=>by
  obtain ⟨y,hy,rfl⟩:=xM ha
  exact h _ hy
 obtain ⟨c1,c2⟩:=qR (d:=n+1) (m:=m) (by omega) (by omega) hE hI
 unfold consP at hx
 split at hx
 ·rcases List.mem_append.1 hx with hx | hx
  ·obtain ⟨r,hr,rfl⟩:=List.mem_map.1 hx
   exact c1 r hr
  ·obtain ⟨r,hr,rfl⟩:=List.mem_map.1 hx
   exact c2 r (List.mem_filter.1 hr).1
 ·rw [List.mem_singleton] at hx
  subst hx
  exact ⟨unitC_len n (-1),GC n _⟩
theorem JG {k n:Nat} (hk:k<=1023) (hn:n<=4):k^n<1099000000000:=by
 have h1:k^n<=1023^n:=Nat.pow_le_pow_left hk n
 have h2:1023^n<=1023^4:=Nat.pow_le_pow_right (by decide) hn
 have h3:(1023:Nat)^4=1095222947841:=by decide
 omega
end
abbrev Hw:AV:=.agg [.int .i64 0,.nilSl,.nilSl]
def PolyV (H:Heap) (v:AV) (n:Nat) (c:List (List Int × Bool)) (g:List (Nat × List Int)):Prop:=∃ vc vg,v=.agg [.int .i64 (n:Int),vc,vg]/\SlV conE t_api_Con H vc c/\SlV genE ap H vg g
theorem PolyV.mono {H H':Heap} (hs:Sub H H') {v:AV} {n:Nat} {c:List (List Int × Bool)} {g:List (Nat × List Int)} (h:PolyV H v n c g):PolyV H' v n c g:=by
 obtain ⟨vc,vg,e,h1,h2⟩:=h
 exact ⟨vc,vg,e,h1.mono hs,h2.mono hs⟩
def KF (H:Heap) (v:AV) (n:Nat) (g:List (Nat × List Int)):Prop :=
 (v=.tup [Hw,.int .i64 4]/\(1024<=g.length\/1024<=(Lin.consP n g).length))\/∃ p,v=.tup [p,.int .i64 0]/\PolyV H p n (Lin.consP n g) g/\g.length<1024/\(Lin.consP n g).length<1024
section
variable {tab:Nat->Option aq} {H:Heap} {s:AV}
theorem dual_made (C:Code tab) (hw:Wf H) {n m:Nat} {g:List (Nat × List Int)} (hs:SlV genE ap H s g) (hbig:g.length<1099511627776) (hn:n<=4) (hrow:∀ x∈g,x.2.length=n+1/\Lin.Bd (2^m) x.2) (hm:m<=300000) :
  Ans tab (.fn oj [.int .i64 (n:Int),s]) H fun v H'=>KF H' v n g/\Kp H H':=by
 have os:=hs.one
 refine ca C.dual_made (by decide) fun T hl g0 g1=>?_
 by_cases q1:(1024:Int)<=(g.length:Int)
 ·refine zW (fW hl g0 g1 hs.lenV q1 @ND) ?_
  exact ⟨.inl ⟨rfl,.inl (by omega)⟩,zK⟩
 refine zW (cJ hl g0 g1 hs.lenV q1) ?_
 refine AnsH.use (dual_cons C zF (hs.mono (Kp.sub (H:=H) zK)) hn (by omega) (JG (by omega) hn) hrow hm) ?_
 rintro v H2 ⟨hc,hk2⟩
 obtain ⟨k2,_,w2⟩:=zT H zK hk2
 have ov:=hc.one
 have d0:=hk2.get (b:=H.next) (e:=.cells [.int .i64 0,.nilSl,.nilSl] iK true) (dC)
 have lt0:=w2 _ _ d0
 by_cases q2:(1024:Int)<=((Lin.consP n g).length:Int)
 ·refine zW (jm hl g0 g1 hc.lenV q2 d0 @ND) ?_
  exact ⟨.inl ⟨rfl,.inr (by omega)⟩,zK⟩
 have st:NoTy [t_api_Con,aa,ad,ap] H2 H.next:=NoTy.ty d0 (by decide)
 refine zW (mw hl hc.lenV q2 d0 g0 g1 @Ma @ND) ?_
 refine ⟨.inr ⟨_,rfl,⟨v,s,rfl,?_,?_⟩,by omega,by omega⟩,zK⟩
 ·have m3:NoTy (t_api_Con :: conE.tys) H2 H.next:=NoTy.ty d0 (by decide)
  exact SlV.monoT (E:=conE) zS hc
 ·have m3:NoTy (ap :: genE.tys) H2 H.next:=NoTy.ty d0 (by decide)
  exact SlV.monoT (E:=genE) zS (hs.mono k2.sub)
end
section
open Lin
variable {n:Nat}
theorem ts {l:List (V × Bool)} (hn:n<=8) (hl:l.length<=60) (h:∀ c∈l,c.1.length=n+1):cT n (l.map fun c=>(c.1.map jv,c.2))=0:=by
 unfold cT
 rw [if_neg (by omega),if_neg (by rw [List.length_map]; omega),if_neg,if_neg]
 ·rw [List.any_eq_true]
  rintro ⟨c,hc,h1⟩
  obtain ⟨x,hx,rfl⟩:=List.mem_map.1 hc
  have h1:=of_decide_eq_true h1
  have:=h x hx
  simp only [List.length_map] at h1
  omega
 ·rw [List.any_eq_true]
  rintro ⟨c,hc,h1⟩
  obtain ⟨x,hx,rfl⟩:=List.mem_map.1 hc
  have:=h x hx
  rw [Bool.not_eq_true',B3 (by omega)] at h1
  cases h1
theorem D6 {l:List (V × Bool)} (hn:n<=60) (h:∀ c∈l,c.1.length=n+1/\∀ z∈c.1,fA z):∀ c∈l.map fun c=>(c.1.map jv,c.2),xq c.1:=fun c hc=>by
 obtain ⟨x,hx,rfl⟩:=List.mem_map.1 hc
 exact uo (by rw [(h x hx).1]; omega) (h x hx).2
end
section
variable {tab:Nat->Option aq} {H:Heap} {s:AV}
theorem wm (C:Code tab) (hw:Wf H) {n m:Nat} {l:List (List Int × Bool)} (hs:SlV conE t_api_Con H s l) (hn:n<=4) (hlen:l.length<=60) (hrow:∀ c∈l,c.1.length=n+1/\Lin.Bd (2^m) c.1) (hm:m<=300000) :
  Ans tab (.fn lG [.int .i64 (n:Int),s]) H fun v H'=>∃ q,v=.tup [q,.int .i64 0]/\SlV genE ap H' q (Lin.gensP n l)/\Kp H H':=by
 refine ca C.dual_Points (by decide) fun T hl g0 g1=>?_
 refine zW (aC hl g0 g1) ?_
 refine AnsH.eq (iU C zF ((A2 hs).mono (Kp.sub (H:=H) zK)) (D6 (n:=n) (by omega) fun c hc=>⟨(hrow c hc).1,fun z hz=>(fz (hrow c hc).2 z hz).sm (by omega)⟩) (by rw [List.length_map]; omega)) fun H2 hk2=>?_
 rw [ts (by omega) hlen fun c hc=>(hrow c hc).1]
 obtain ⟨k2,_,w2⟩:=zT H zK hk2
 refine zW (aC hl g0 g1) ?_
 refine AnsH.use (dual_points C zF ((hs.mono k2.sub).mono (Kp.sub (H:=H2) zK)) hn (by omega) (JG (by omega) hn) hrow hm) ?_
 rintro v H3 ⟨hg,hk3⟩
 have k3:Kp H H3:=Kp.trans zK (Kp.trans zK hk3)
 have le_k3:=k3.le
 refine zW (aC hl g0 g1) ?_
 exact ⟨v,rfl,hg,zK⟩
theorem AU (C:Code tab) (hw:Wf H) {n:Int} {l:List sQ} (hs:SlV conQE t_api_Con H s l) (hbig:∀ c∈l,xq c.1) (hlen:l.length<4611686018427387904) (hc:cT n l≠0) :
  Ans tab (.fn ph [.int .i64 n,s]) H fun v H'=>v=.tup [Hw,.int .i64 (cT n l)]/\Kp H H':=by
 refine ca C.dual_Of (by decide) fun T hl g0 g1=>?_
 refine zW (aC hl g0 g1) ?_
 refine AnsH.eq (iU C zF (hs.mono (Kp.sub (H:=H) zK)) hbig hlen) fun H2 hk2=>?_
 obtain ⟨k2,_,w2⟩:=zT H zK hk2
 have d0:=hk2.get (b:=H.next) (e:=.cells [.int .i64 0,.nilSl,.nilSl] iK true) (dC)
 have lt0:=w2 _ _ d0
 have hc:¬ cT n l=0:=hc
 refine zW (fW hl g0 g1 hc d0 @ND) ?_
 exact zK
theorem CG (C:Code tab) (hw:Wf H) {n m m2:Nat} {l:List (List Int × Bool)} (hs:SlV conE t_api_Con H s l) (hn:n<=4) (hlen:l.length<=60) (hrow:∀ c∈l,c.1.length=n+1/\Lin.Bd (2^m) c.1) (hm:m<=300000) (hG:∀ x∈Lin.gensP n l,Lin.Bd (2^m2) x.2) (hm2:m2<=300000) :
  Ans tab (.fn ph [.int .i64 (n:Int),s]) H fun v H'=>KF H' v n (Lin.gensP n l)/\Kp H H':=by
 refine ca C.dual_Of (by decide) fun T hl g0 g1=>?_
 refine zW (aC hl g0 g1) ?_
 refine AnsH.eq (iU C zF ((A2 hs).mono (Kp.sub (H:=H) zK)) (D6 (n:=n) (by omega) fun c hc=>⟨(hrow c hc).1,fun z hz=>(fz (hrow c hc).2 z hz).sm (by omega)⟩) (by rw [List.length_map]; omega)) fun H2 hk2=>?_
 rw [ts (by omega) hlen fun c hc=>(hrow c hc).1]
 obtain ⟨k2,_,w2⟩:=zT H zK hk2
 refine zW (aC hl g0 g1) ?_
 refine AnsH.use (dual_points C zF ((hs.mono k2.sub).mono (Kp.sub (H:=H2) zK)) hn (by omega) (JG (by omega) hn) hrow hm) ?_
 rintro v H3 ⟨hg,hk3⟩
 obtain ⟨k23,_,_⟩:=zT H2 zK hk3
 have k3:Kp H H3:=k2.trans k23
 have le_k3:=k3.le
 have w3:=k3.wf
 refine zW (aC hl g0 g1) ?_
 refine AnsH.use (dual_made C zF (hg.mono (Kp.sub (H:=H3) zK)) ?_ hn (fun x hx=>⟨(vW (by omega) hrow x hx).1,hG x hx⟩) hm2) ?_
 ·have hT:=Lin.gens_told (d:=n+1) (Lin.eqs_len (l:=l) fun c hc=>(hrow c hc).1) (Lin.ineqs_len (l:=l) fun c hc=>(hrow c hc).1)
  have h1:=hT.dd.count3 (Lin.ineqs_len (l:=l) fun c hc=>(hrow c hc).1)
  have h2:=ech_len hT.form
  have h3:(Lin.ineqsOf n l).length^n<1099000000000:=JG (Nat.le_trans (rh l) (by omega)) hn
  simp only [Nat.add_sub_cancel] at h1
  unfold Lin.gensP
  split
  ·rw [List.length_append,List.length_map,List.length_map]; omega
  ·simp
 rintro v2 H4 ⟨hm4,hk4⟩
 have k4:Kp H H4:=k3.trans (Kp.trans zK hk4)
 have le_k4:=k4.le
 have w4:=k4.wf
 have d0:=hk4.get (hk3.get (hk2.get (b:=H.next) (e:=.cells [.int .i64 0,.nilSl,.nilSl] iK true) (dC)))
 have lt0:=w4 _ _ d0
 rcases hm4 with ⟨rfl,hm4⟩ | ⟨p,rfl,⟨vc,vg,rfl,hc,hg4⟩,h1,h2⟩
 ·refine zW (cJ hl g0 g1 d0 @ND) ?_
  exact ⟨.inl ⟨rfl,hm4⟩,zK⟩
 ·have oc:=hc.one
  have og:=hg4.one
  have e1:AP 0 (.tup [.agg [.int .i64 (n:Int),vc,vg],.int .i64 0])=some (.agg [.int .i64 (n:Int),vc,vg]):=rfl
  refine zW (cJ hl g0 g1 d0 @ND) ?_
  refine ⟨.inr ⟨_,rfl,⟨vc,vg,rfl,?_,?_⟩,h1,h2⟩,zK⟩
  ·have m3:NoTy (t_api_Con :: conE.tys) H4 H.next:=NoTy.ty d0 (by decide)
   exact SlV.monoT (E:=conE) zS hc
  ·have m3:NoTy (ap :: genE.tys) H4 H.next:=NoTy.ty d0 (by decide)
   exact SlV.monoT (E:=genE) zS hg4
end
section
variable {tab:Nat->Option aq} {base i k:Nat} {T0:Tm} {dst:Option Nat} {op:AOp} {us:List (Nat × Option Nat)} {adds:List Nat} {r:List (Nat × List Nat)} {ds:List ir} {Vs:List AV} {Cs:List Heap} {Es:List (Option Ent)} {Q:DS->Prop} {t:Nat} {w:Bool}
theorem BI (T:Tm) (t:Nat) (w:Bool):bw T (some (t,w))=match ae T t with | .bool b=>some (b == w) | .tup []=>some false | _=>none:=by
 unfold ae
 rw [List.getD_eq_getElem?_getD]
 cases h:T[t]? with
 | none=>simp only [bw,h]; rfl
 | some v =>
  simp only [bw,h,Option.getD_some]
  cases v with
  | tup vs=>cases vs <;> rfl
  | _=>rfl
theorem uB:WD tab base T0 i (⟨dst,op,some (t,w),us,1,r⟩ :: ds) ⟨Vs,Cs,Es⟩ Q =
  iS (ae (bO T0 Vs us) t) w (op.makes=true/\jT tab (Src.ev (bO T0 Vs us)) (Heap.nil 0) (base+i) op fun v H'=>WD tab base T0 (i+1) ds ⟨Vs++[v],Cs,Es++[H'.get (base+i)]⟩ Q) (WD tab base T0 (i+1) ds ⟨Vs++[.tup []],Cs,Es++[none]⟩ Q) () ():=by
 rw [xc]
 conv=>lhs; unfold wd
 simp only [BI,iS]
 cases ae (bO T0 Vs us) t with
 | bool b=>cases b <;> cases w <;> cases r <;> rfl
 | tup vs=>cases vs <;> cases r <;> rfl
 | _=>rfl
end
section
variable {tab:Nat->Option aq} {H:Heap} {s:AV}
theorem ve (C:Code tab) (hw:Wf H) {a b:AV} {l m:List (List Int × Bool)} (ha:SlV conE t_api_Con H a l) (hb:SlV conE t_api_Con H b m) (hl':l.length<1099511627776) (hz:∀ r∈l,r.1.length<1099511627776/\∀ z∈r.1,fA z) :
  Ans tab (.fn dy [a,b]) H fun v H'=>v=.bool (decide (l=m))/\Kp H H':=by
 refine ca C.facetroomref21_SameCons (by decide) fun T hl g0 g1=>?_
 by_cases he:l.length=m.length
 ·have lb:lenV b=some (.int .i64 (l.length:Int)):=by rw [hb.lenV,he]
  refine zW (cJ hl g0 g1 ha.lenV lb) ?_
  refine bf H [5] (fun k vs H'=>∃ i:Nat,vs=[.int .i64 (i:Int)]/\i+k=l.length/\∀ q (h:q<l.length) (h':q<m.length),q<i->l[q]=m[q]) l.length (by simp only [List.length_set]; exact hl) rfl zK ⟨0,by refine zW (aC hl g0 g1) ?_; rfl,by omega,fun q _ _ h=>by omega⟩ ?_
  rintro k T1 H1 hl1 hs1 hk1 ⟨i,hv,hik,hP⟩
  have w1:=hk1.wf
  have le_hk1:=hk1.le
  simp only [List.map_cons,List.map_nil,List.cons.injEq,and_true] at hv
  have t0:ae T1 0=a:=(hs1.at_ 0 (by decide)).trans (zV (az hl g0))
  have t1:ae T1 1=b:=(hs1.at_ 1 (by decide)).trans (zV (bg hl g0 g1 g1))
  by_cases hi:i<l.length
  ·have hii:(i:Int)<(l.length:Int):=by omega
   have hi':i<m.length:=by omega
   obtain ⟨cs,⟨w,rfl,hr⟩,-,h2,-⟩:=(ha.mono hk1.sub).at (List.getElem?_eq_getElem hi)
   obtain ⟨cs',⟨w',rfl,hr'⟩,-,h2',-⟩:=(hb.mono hk1.sub).at (List.getElem?_eq_getElem hi')
   have l0:aZ H1 none (al a (i*2))=some w:=h2 0 _ rfl
   have l1:aZ H1 none (al a (i*2+1))=some (.bool l[i].2):=h2 1 _ rfl
   have l0':aZ H1 none (al b (i*2))=some w':=h2' 0 _ rfl
   have l1':aZ H1 none (al b (i*2+1))=some (.bool m[i].2):=h2' 1 _ rfl
   have hix:cW 2 a (.int .i64 (i:Int))=some (al a (i*2)):=SlV.idx ha .i64 i hi
   have hix':cW 2 b (.int .i64 (i:Int))=some (al b (i*2)):=SlV.idx hb .i64 i hi'
   have f0:vZ 0 (al a (i*2))=some (al a (i*2)):=ha.fa (by omega) 0 (i*2)
   have f1:vZ 1 (al a (i*2))=some (al a (i*2+1)):=ha.fa (by omega) 1 (i*2)
   have f0':vZ 0 (al b (i*2))=some (al b (i*2)):=hb.fa (by omega) 0 (i*2)
   have f1':vZ 1 (al b (i*2))=some (al b (i*2+1)):=hb.fa (by omega) 1 (i*2)
   have e:IntKind.i64.wrap ((i:Int)+1)=((i+1:Nat):Int):=by rw [wrap_i64] <;> omega
   refine zW (jm hl1 hv t0 t1 ha.lenV hii hi) ?_
   by_cases hx:l[i].2=m[i].2
   ·skip
    refine aO ?_
    simp -dsimp (maxSteps:=1000000) (disch:=(first | omega | assumption | exact aF _ | exact aR _ _ | exact aV | exact bB _ _ _ | exact aY _ _ | exact aU _ _ _ _ _ _ | exact bI _ _ | exact bc _)) only [↓nD,nC,↓BH,BG,Nat.reduceLT,Nat.reduceEqDiff,Nat.reduceAdd,reduceIte,reduceCtorEq,Nat.reduceBEq,Int.reduceEq,Int.reduceLT,Int.reduceLE,Int.reduceAdd,Int.reduceSub,hl1,hv,t0,t1,hix,hix',l0,l1,l0',l1',f0,f1,f0',f1',eE,hx,↓dM,beq_self_eq_true]
    refine AnsH.eq (vj C zF (hr.mono (Kp.sub (H:=H1) zK)) (hr'.mono (Kp.sub (H:=H1) zK)) (hz _ (List.getElem_mem hi)).1 (hz _ (List.getElem_mem hi)).2) fun H2 hk2=>?_
    obtain ⟨k12,_,_⟩:=zT H1 zK hk2
    have k2:Kp H H2:=Kp.trans hk1 k12
    have le_k2:=k2.le
    have l0b:=aH k12.sub l0
    have l1b:=aH k12.sub l1
    have l0b':=aH k12.sub l0'
    have l1b':=aH k12.sub l1'
    cases hq:decide (l[i].1=m[i].1) with
    | true =>
     have hq:=of_decide_eq_true hq
     simp -dsimp (maxSteps:=1000000) (disch:=(first | omega | assumption | exact aF _ | exact aR _ _ | exact aV | exact bB _ _ _ | exact aY _ _ | exact aU _ _ _ _ _ _ | exact bI _ _ | exact bc _)) only [↓nD,nC,↓BH,BG,Nat.reduceLT,Nat.reduceEqDiff,Nat.reduceAdd,reduceIte,reduceCtorEq,Nat.reduceBEq,Int.reduceEq,Int.reduceLT,Int.reduceLE,Int.reduceAdd,Int.reduceSub,hl1,hv,t0,t1,hix,hix',l0,l1,l0',l1',l0b,l1b,l0b',l1b',f0,f1,f0',f1',eE,hx,e,↓dM,beq_self_eq_true]
     refine ⟨zK,k-1,by omega,i+1,rfl,by omega,fun q h h' hqi=>?_⟩
     by_cases eq:q=i
     ·subst eq; exact Prod.ext hq hx
     ·exact hP q h h' (by omega)
    | false =>
     have hq:=of_decide_eq_false hq
     simp -dsimp (maxSteps:=1000000) (disch:=(first | omega | assumption | exact aF _ | exact aR _ _ | exact aV | exact bB _ _ _ | exact aY _ _ | exact aU _ _ _ _ _ _ | exact bI _ _ | exact bc _)) only [↓nD,nC,↓BH,BG,Nat.reduceLT,Nat.reduceEqDiff,Nat.reduceAdd,reduceIte,reduceCtorEq,Nat.reduceBEq,Int.reduceEq,Int.reduceLT,Int.reduceLE,Int.reduceAdd,Int.reduceSub,hl1,hv,t0,t1,hix,hix',l0,l1,l0',l1',l0b,l1b,l0b',l1b',f0,f1,f0',f1',eE,hx,e,↓dM,beq_self_eq_true]
     refine ⟨?_,zK⟩
     rw [decide_eq_false]
     intro e; subst e; exact hq rfl
   ·have hxb:(l[i].2 == m[i].2)=false:=by simpa using hx
    refine aO ?_
    simp -dsimp (maxSteps:=1000000) (disch:=(first | omega | assumption | exact aF _ | exact aR _ _ | exact aV | exact bB _ _ _ | exact aY _ _ | exact aU _ _ _ _ _ _ | exact bI _ _ | exact bc _)) only [↓nD,nC,↓BH,BG,Nat.reduceLT,Nat.reduceEqDiff,Nat.reduceAdd,reduceIte,reduceCtorEq,Nat.reduceBEq,Int.reduceEq,Int.reduceLT,Int.reduceLE,Int.reduceAdd,Int.reduceSub,hl1,hv,t0,t1,hix,hix',l0,l1,l0',l1',f0,f1,f0',f1',eE,hx,hxb,↓dM,beq_self_eq_true]
    refine ⟨?_,zK⟩
    rw [decide_eq_false]
    intro e; subst e; exact hx rfl
  ·have hii:¬ (i:Int)<(l.length:Int):=by omega
   refine zW (jm hl1 hv t0 t1 ha.lenV hii hi) ?_
   refine ⟨?_,zK⟩
   rw [decide_eq_true (jO he fun q h h'=>hP q h h' (by omega))]
 ·have he':¬ (l.length:Int)=(m.length:Int):=by omega
  refine zW (jm hl g0 g1 ha.lenV hb.lenV he' he) ?_
  refine ⟨?_,zK⟩
  rw [decide_eq_false]
  intro e; subst e; exact he rfl
theorem u3 (C:Code tab) (hw:Wf H) {a b:AV} {l m:List (Nat × List Int)} (ha:SlV genE ap H a l) (hb:SlV genE ap H b m) (hl':l.length<1099511627776) (hz:∀ r∈l,r.2.length<1099511627776/\∀ z∈r.2,fA z) :
  Ans tab (.fn dx [a,b]) H fun v H'=>v=.bool (decide (l=m))/\Kp H H':=by
 refine ca C.facetroomref21_SameGens (by decide) fun T hl g0 g1=>?_
 by_cases he:l.length=m.length
 ·have lb:lenV b=some (.int .i64 (l.length:Int)):=by rw [hb.lenV,he]
  refine zW (cJ hl g0 g1 ha.lenV lb) ?_
  refine bf H [5] (fun k vs H'=>∃ i:Nat,vs=[.int .i64 (i:Int)]/\i+k=l.length/\∀ q (h:q<l.length) (h':q<m.length),q<i->l[q]=m[q]) l.length (by simp only [List.length_set]; exact hl) rfl zK ⟨0,by refine zW (aC hl g0 g1) ?_; rfl,by omega,fun q _ _ h=>by omega⟩ ?_
  rintro k T1 H1 hl1 hs1 hk1 ⟨i,hv,hik,hP⟩
  have w1:=hk1.wf
  have le_hk1:=hk1.le
  simp only [List.map_cons,List.map_nil,List.cons.injEq,and_true] at hv
  have t0:ae T1 0=a:=(hs1.at_ 0 (by decide)).trans (zV (az hl g0))
  have t1:ae T1 1=b:=(hs1.at_ 1 (by decide)).trans (zV (bg hl g0 g1 g1))
  by_cases hi:i<l.length
  ·have hii:(i:Int)<(l.length:Int):=by omega
   have hi':i<m.length:=by omega
   obtain ⟨cs,⟨w,rfl,hr⟩,-,h2,-⟩:=(ha.mono hk1.sub).at (List.getElem?_eq_getElem hi)
   obtain ⟨cs',⟨w',rfl,hr'⟩,-,h2',-⟩:=(hb.mono hk1.sub).at (List.getElem?_eq_getElem hi')
   have l0:aZ H1 none (al a (i*2))=some (.int .u8 (l[i].1:Int)):=h2 0 _ rfl
   have l1:aZ H1 none (al a (i*2+1))=some w:=h2 1 _ rfl
   have l0':aZ H1 none (al b (i*2))=some (.int .u8 (m[i].1:Int)):=h2' 0 _ rfl
   have l1':aZ H1 none (al b (i*2+1))=some w':=h2' 1 _ rfl
   have hix:cW 2 a (.int .i64 (i:Int))=some (al a (i*2)):=SlV.idx ha .i64 i hi
   have hix':cW 2 b (.int .i64 (i:Int))=some (al b (i*2)):=SlV.idx hb .i64 i hi'
   have f0:vZ 0 (al a (i*2))=some (al a (i*2)):=ha.fa (by omega) 0 (i*2)
   have f1:vZ 1 (al a (i*2))=some (al a (i*2+1)):=ha.fa (by omega) 1 (i*2)
   have f0':vZ 0 (al b (i*2))=some (al b (i*2)):=hb.fa (by omega) 0 (i*2)
   have f1':vZ 1 (al b (i*2))=some (al b (i*2+1)):=hb.fa (by omega) 1 (i*2)
   have e:IntKind.i64.wrap ((i:Int)+1)=((i+1:Nat):Int):=by rw [wrap_i64] <;> omega
   refine zW (jm hl1 hv t0 t1 ha.lenV hii hi) ?_
   by_cases hx:l[i].1=m[i].1
   ·have hx2:(l[i].1:Int)=(m[i].1:Int):=by omega
    refine aO ?_
    simp -dsimp (maxSteps:=1000000) (disch:=(first | omega | assumption | exact aF _ | exact aR _ _ | exact aV | exact bB _ _ _ | exact aY _ _ | exact aU _ _ _ _ _ _ | exact bI _ _ | exact bc _)) only [↓nD,nC,↓BH,BG,Nat.reduceLT,Nat.reduceEqDiff,Nat.reduceAdd,reduceIte,reduceCtorEq,Nat.reduceBEq,Int.reduceEq,Int.reduceLT,Int.reduceLE,Int.reduceAdd,Int.reduceSub,hl1,hv,t0,t1,hix,hix',l0,l1,l0',l1',f0,f1,f0',f1',eE,hx,hx2,↓dM,beq_self_eq_true]
    refine AnsH.eq (vj C zF (hr.mono (Kp.sub (H:=H1) zK)) (hr'.mono (Kp.sub (H:=H1) zK)) (hz _ (List.getElem_mem hi)).1 (hz _ (List.getElem_mem hi)).2) fun H2 hk2=>?_
    obtain ⟨k12,_,_⟩:=zT H1 zK hk2
    have k2:Kp H H2:=Kp.trans hk1 k12
    have le_k2:=k2.le
    have l0b:=aH k12.sub l0
    have l1b:=aH k12.sub l1
    have l0b':=aH k12.sub l0'
    have l1b':=aH k12.sub l1'
    cases hq:decide (l[i].2=m[i].2) with
    | true =>
     have hq:=of_decide_eq_true hq
     simp -dsimp (maxSteps:=1000000) (disch:=(first | omega | assumption | exact aF _ | exact aR _ _ | exact aV | exact bB _ _ _ | exact aY _ _ | exact aU _ _ _ _ _ _ | exact bI _ _ | exact bc _)) only [↓nD,nC,↓BH,BG,Nat.reduceLT,Nat.reduceEqDiff,Nat.reduceAdd,reduceIte,reduceCtorEq,Nat.reduceBEq,Int.reduceEq,Int.reduceLT,Int.reduceLE,Int.reduceAdd,Int.reduceSub,hl1,hv,t0,t1,hix,hix',l0,l1,l0',l1',l0b,l1b,l0b',l1b',f0,f1,f0',f1',eE,hx,hx2,e,↓dM,beq_self_eq_true]
     refine ⟨zK,k-1,by omega,i+1,rfl,by omega,fun q h h' hqi=>?_⟩
     by_cases eq:q=i
     ·subst eq; exact Prod.ext hx hq
     ·exact hP q h h' (by omega)
    | false =>
     have hq:=of_decide_eq_false hq
     simp -dsimp (maxSteps:=1000000) (disch:=(first | omega | assumption | exact aF _ | exact aR _ _ | exact aV | exact bB _ _ _ | exact aY _ _ | exact aU _ _ _ _ _ _ | exact bI _ _ | exact bc _)) only [↓nD,nC,↓BH,BG,Nat.reduceLT,Nat.reduceEqDiff,Nat.reduceAdd,reduceIte,reduceCtorEq,Nat.reduceBEq,Int.reduceEq,Int.reduceLT,Int.reduceLE,Int.reduceAdd,Int.reduceSub,hl1,hv,t0,t1,hix,hix',l0,l1,l0',l1',l0b,l1b,l0b',l1b',f0,f1,f0',f1',eE,hx,hx2,e,↓dM,beq_self_eq_true]
     refine ⟨?_,zK⟩
     rw [decide_eq_false]
     intro e; subst e; exact hq rfl
   ·have hx2:¬ (l[i].1:Int)=(m[i].1:Int):=by omega
    have hxb:=hx2
    refine aO ?_
    simp -dsimp (maxSteps:=1000000) (disch:=(first | omega | assumption | exact aF _ | exact aR _ _ | exact aV | exact bB _ _ _ | exact aY _ _ | exact aU _ _ _ _ _ _ | exact bI _ _ | exact bc _)) only [↓nD,nC,↓BH,BG,Nat.reduceLT,Nat.reduceEqDiff,Nat.reduceAdd,reduceIte,reduceCtorEq,Nat.reduceBEq,Int.reduceEq,Int.reduceLT,Int.reduceLE,Int.reduceAdd,Int.reduceSub,hl1,hv,t0,t1,hix,hix',l0,l1,l0',l1',f0,f1,f0',f1',eE,hx,hx2,hxb,↓dM,beq_self_eq_true]
    refine ⟨?_,zK⟩
    rw [decide_eq_false]
    intro e; subst e; exact hx rfl
  ·have hii:¬ (i:Int)<(l.length:Int):=by omega
   refine zW (jm hl1 hv t0 t1 ha.lenV hii hi) ?_
   refine ⟨?_,zK⟩
   rw [decide_eq_true (jO he fun q h h'=>hP q h h' (by omega))]
 ·have he':¬ (l.length:Int)=(m.length:Int):=by omega
  refine zW (jm hl g0 g1 ha.lenV hb.lenV he' he) ?_
  refine ⟨?_,zK⟩
  rw [decide_eq_false]
  intro e; subst e; exact he rfl
def fo (n:Nat) (l:List sQ):Bool:=decide (n<l.length) || l.any fun c=>lJ 5 1 c.1
theorem tY (C:Code tab) (hw:Wf H) {a:AV} {ls:List sQ} {n:Nat} (ha:SlV conQE t_api_Con H a ls) (hn:n<4611686018427387904) :
  Ans tab (.fn dg [a,.int .i64 (n:Int)]) H fun v H'=>v=.bool (fo n ls)/\Kp H H':=by
 refine ca C.facetroomref21_GreatCons (by decide) fun T hl g0 g1=>?_
 by_cases he:n<ls.length
 ·have he':(n:Int)<(ls.length:Int):=by omega
  refine zW (fW hl g0 g1 ha.lenV he' he) ?_
  exact ⟨by unfold fo; rw [decide_eq_true he]; rfl,zK⟩
 ·have he':¬ (n:Int)<(ls.length:Int):=by omega
  refine zW (fW hl g0 g1 ha.lenV he' he) ?_
  refine bf H [5] (fun k vs H'=>∃ i:Nat,vs=[.int .i64 (i:Int)]/\i+k=ls.length/\∀ q (h:q<ls.length),q<i->lJ 5 1 (ls[q]).1=false) ls.length (by simp only [List.length_set]; exact hl) rfl zK ⟨0,by refine zW (aC hl g0 g1) ?_; rfl,by omega,fun q _ h=>by omega⟩ ?_
  rintro k T1 H1 hl1 hs1 hk1 ⟨i,hv,hik,hP⟩
  have w1:=hk1.wf
  have le_hk1:=hk1.le
  simp only [List.map_cons,List.map_nil,List.cons.injEq,and_true] at hv
  have t0:ae T1 0=a:=(hs1.at_ 0 (by decide)).trans (zV (az hl g0))
  by_cases hi:i<ls.length
  ·have hii:(i:Int)<(ls.length:Int):=by omega
   obtain ⟨cs,⟨w,rfl,hr⟩,-,h2,-⟩:=(ha.mono hk1.sub).at (List.getElem?_eq_getElem hi)
   have hld:aZ H1 none (al a (i*2))=some w:=h2 0 _ rfl
   have hix:cW 2 a (.int .i64 (i:Int))=some (al a (i*2)):=SlV.idx ha .i64 i hi
   have hfa:vZ 0 (al a (i*2))=some (al a (i*2)):=ha.fa (by omega) 0 (i*2)
   have e:IntKind.i64.wrap ((i:Int)+1)=((i+1:Nat):Int):=by rw [wrap_i64] <;> omega
   refine zW (kU hl1 hv t0 ha.lenV hii hi hix hfa hld) ?_
   refine AnsH.eq (Al C (many:=5) (lim:=1) zF (hr.mono (Kp.sub (H:=H1) zK)) (by omega)) fun H2 hk2=>?_
   obtain ⟨k12,_,_⟩:=zT H1 zK hk2
   have k2:Kp H H2:=Kp.trans hk1 k12
   have le_k2:=k2.le
   cases hq:lJ 5 1 (ls[i]).1 with
   | true =>
    refine zW hl1 ?_
    refine ⟨?_,zK⟩
    unfold fo
    rw [List.any_eq_true.2 ⟨_,List.getElem_mem hi,hq⟩,Bool.or_true]
   | false =>
    refine zW (aC hl1 hv e) ?_
    refine ⟨zK,k-1,by omega,i+1,rfl,by omega,fun q h hqi=>?_⟩
    by_cases eq:q=i
    ·subst eq; exact hq
    ·exact hP q h (by omega)
  ·have hii:¬ (i:Int)<(ls.length:Int):=by omega
   refine zW (fW hl1 hv t0 ha.lenV hii hi) ?_
   refine ⟨?_,zK⟩
   have e:(ls.any fun c=>lJ 5 1 c.1)=false:=by
    rw [List.any_eq_false]
    intro z hz
    obtain ⟨q,hq,rfl⟩:=List.getElem_of_mem hz
    rw [hP q hq (by omega)]; simp
   unfold fo
   rw [decide_eq_false he,Bool.false_or,e]
end
theorem gr {H:Heap} {b:Nat} {x y:Int} {r:Bool} (h:H.get b=some (.cells [.int .i64 x,.int .i64 y] fL r)):tX (zi .i64) fL H (.own b 0 2 2 1 true) [x,y] :=
 ⟨[_,_],Rd.own h rfl (Nat.le_refl _),fun _ _ _ _ _ _ e=>by cases e; exact ⟨_,_,h⟩,rfl,fun i a hi=>by
  match i with
  | 0=>simp at hi; subst hi; exact ⟨_,rfl,rfl⟩
  | 1=>simp at hi; subst hi; exact ⟨_,rfl,rfl⟩
  | i+2=>simp at hi⟩
def Emp (H:Heap) (a e:Nat):Prop:=e<=H.next/\∀ c,a<=c->c<e->H.get c=none
theorem Emp.start {H:Heap} (hw:Wf H) {k:Nat}:Emp (H.up k) H.next (H.next+k):=⟨Nat.le_refl _,fun c h _=>hw.fresh h⟩
theorem Emp.next {G H2:Heap} {a e p a':Nat} {x:Ent} (hf:Emp G a e) (hk:Kp (G.put p x) H2) (hp:p<a') (ha:a<=a'):Emp H2 a' e :=
 ⟨Nat.le_trans hf.1 hk.le,fun c h1 h2=>hk.free (by rw [next_put]; exact Nat.lt_of_lt_of_le h2 hf.1) (by rw [au (by omega)]; exact hf.2 c (by omega) h2)⟩
theorem Emp.keep {G H2:Heap} {a e:Nat} (hf:Emp G a e) (hk:Kp G H2):Emp H2 a e :=
 ⟨Nat.le_trans hf.1 hk.le,fun c h1 h2=>hk.free (Nat.lt_of_lt_of_le h2 hf.1) (hf.2 c h1 h2)⟩
theorem Emp.sub {G:Heap} {a e p:Nat} {x:Ent} (hf:Emp G a e) (h1:a<=p) (h2:p<e):Sub G (G.put p x):=bh (hf.2 p h1 h2)
section
variable {tab:Nat->Option aq} {H:Heap} {s:AV}
end
end Go.Proofs.YtboamamhcfhanaaGreat.Ev
namespace Go.Proofs.YtboamamhcfhanaaGreat.Lin
set_option linter.all false
theorem CD:gensL 2 [] [[1,1]]=[[-1,1]]/\gensR 2 [] [[1,1]]=[[1,0]]:=by
 have r:(gensU 2 [] [[1,1]]).rays.map (restF (gensL 2 [] [[1,1]]))=[[1,0]]:=by decide +kernel
 refine ⟨by decide +kernel,?_⟩
 unfold gensR; rw [r]; simp
end Go.Proofs.YtboamamhcfhanaaGreat.Lin
namespace Go.Proofs.YtboamamhcfhanaaGreat.Ev
open Go Nn
set_option linter.all false
theorem Emp.put {G:Heap} {a e p a':Nat} {x:Ent} (hf:Emp G a e) (hp:p<a') (ha:a<=a'):Emp (G.put p x) a' e :=
 ⟨hf.1,fun c h1 h2=>by rw [au (by omega)]; exact hf.2 c (by omega) h2⟩
section
variable {tab:Nat->Option aq} {H:Heap} {s:AV}
end
end Go.Proofs.YtboamamhcfhanaaGreat.Ev
namespace Go.Proofs.YtboamamhcfhanaaGreat.Lin
set_option linter.all false
theorem bd_small2 {x:V} (h:x.all (fun a=>decide (a.natAbs<=4))=true):Bd (2^2) x:=fun i=>by
 by_cases hi:i<x.length
 ·have:at_ x i=x[i]:=by simp [at_,hi]
  rw [this]
  simpa using List.all_eq_true.1 h _ (List.getElem_mem hi)
 ·have:at_ x i=0:=by simp [at_,hi]
  rw [this]; simp
theorem pt1:gensP 1 [([-1,1],false),([3,-1],false)]=[(3,[1,1]),(3,[1,3])]:=by
 have r:(gensU 2 [] [[1,0],[-1,1],[3,-1]]).rays.map (restF (gensL 2 [] [[1,0],[-1,1],[3,-1]]))=[[1,3],[1,1]]\/(gensU 2 [] [[1,0],[-1,1],[3,-1]]).rays.map (restF (gensL 2 [] [[1,0],[-1,1],[3,-1]]))=[[1,1],[1,3]]:=by decide +kernel
 have e:gensL 2 [] [[1,0],[-1,1],[3,-1]]=[]:=by decide +kernel
 have g:gensR 2 [] [[1,0],[-1,1],[3,-1]]=[[1,1],[1,3]]:=by
  unfold gensR
  rcases r with r | r <;> rw [r] <;> simp [List.mergeSort,List.MergeSort.Internal.splitInTwo,cmpV]
 have h1:eqsOf [(([-1,1]:V),false),([3,-1],false)]=[]:=rfl
 have h2:ineqsOf 1 [(([-1,1]:V),false),([3,-1],false)]=[[1,0],[-1,1],[3,-1]]:=rfl
 unfold gensP
 rw [h1,h2,e,g]
 rfl
theorem pt2:gensP 1 [([-1,2],true)]=[(3,[2,1])]:=by
 have r:(gensU 2 [[-1,2]] [[1,0]]).rays.map (restF (gensL 2 [[-1,2]] [[1,0]]))=[[2,1]]:=by decide +kernel
 have e:gensL 2 [[-1,2]] [[1,0]]=[]:=by decide +kernel
 have g:gensR 2 [[-1,2]] [[1,0]]=[[2,1]]:=by
  unfold gensR
  rw [r]; simp
 have h1:eqsOf [(([-1,2]:V),true)]=[[-1,2]]:=rfl
 have h2:ineqsOf 1 [(([-1,2]:V),true)]=[[1,0]]:=rfl
 unfold gensP
 rw [h1,h2,e,g]
 rfl
theorem pt3:gensP 1 [([0,1],false)]=[(2,[0,1]),(3,[1,0])]:=by
 have r:(gensU 2 [] [[1,0],[0,1]]).rays.map (restF (gensL 2 [] [[1,0],[0,1]]))=[[1,0],[0,1]]:=by decide +kernel
 have e:gensL 2 [] [[1,0],[0,1]]=[]:=by decide +kernel
 have g:gensR 2 [] [[1,0],[0,1]]=[[0,1],[1,0]]:=by
  unfold gensR
  rw [r]; simp [List.mergeSort,List.MergeSort.Internal.splitInTwo,cmpV]
 have h1:eqsOf [(([0,1]:V),false)]=[]:=rfl
 have h2:ineqsOf 1 [(([0,1]:V),false)]=[[1,0],[0,1]]:=rfl
 unfold gensP
 rw [h1,h2,e,g]
 rfl
end Go.Proofs.YtboamamhcfhanaaGreat.Lin
namespace Go.Proofs.YtboamamhcfhanaaGreat.Ev
open Go Nn
set_option linter.all false
section
variable {tab:Nat->Option aq} {H:Heap} {s:AV}
theorem Am (C:Code tab) (hw:Wf H) {n:Nat} (hn:n<B):Ans tab (.fn gc [.int .u64 (n:Int)]) H fun v H'=>bZ H' v n/\Kp H H':=by
 refine cR C.facetroomref01_Of (by decide) fun T hl g0=>?_
 by_cases h0:(n:Int)=0
 ·have e:n=0:=by omega
  subst e
  refine zW (aC hl g0 h0) ?_
  exact ⟨dQ _,zK⟩
 ·refine zW (aC hl g0 h0) ?_
  have e:ag n=[n]:=by
   have h0:¬ n=0:=by omega
   have hd:n / B=0:=Nat.div_eq_of_lt hn
   rw [gO h0,hd,Nat.mod_eq_of_lt hn,co]
  refine ⟨?_,zK⟩
  show Lb _ _ (ag n)
  rw [e]
  exact (show Own (bK bX) ad H _ _ true _ [n] from ⟨_,rfl,aA _ _ _,Cells.one ⟨_,rfl,rfl⟩,by omega⟩).sl
theorem Hg (C:Code tab) (hw:Wf H) {n:Int} (h1 : -9223372036854775808<=n) (h2:n<9223372036854775808):Ans tab (.fn fZ [.int .i64 n]) H fun v H'=>IntV H' v n/\Kp H H':=by
 refine cR C.facetroomref05_Of (by decide) fun T hl g0=>?_
 by_cases h:n<0
 ·have e:IntKind.u64.wrap (0-IntKind.u64.wrap n)=((n.natAbs:Nat):Int):=by rw [eY,eY]; omega
  refine zW (cJ hl g0 h e @zy) ?_
  refine AnsH.use (Am C zF (n:=n.natAbs) (by unfold B; omega)) ?_
  rintro v H2 ⟨hn,hk2⟩
  obtain ⟨k2,_,w2⟩:=zT H zK hk2
  have b0:=hk2.get (b:=H.next) (e:=.cells [.bool false,.nilSl] aa true) (dC)
  have lt0:=w2 _ _ b0
  have ov:=hn.one
  refine zW (aC hl g0 @b0) ?_
  refine ⟨⟨v,by rw [decide_eq_true h],?_⟩,zK⟩
  exact hn.monoT (SubT.put_ty b0 (by decide))
 ·have e:IntKind.u64.wrap n=((n.natAbs:Nat):Int):=by rw [eY]; omega
  refine zW (bg hl g0 h e) ?_
  refine AnsH.use (Am C zF (n:=n.natAbs) (by unfold B; omega)) ?_
  rintro v H2 ⟨hn,hk2⟩
  obtain ⟨k2,_,w2⟩:=zT H zK hk2
  have b0:=hk2.get (b:=H.next) (e:=.cells [.bool false,.nilSl] aa true) (dC)
  have lt0:=w2 _ _ b0
  have ov:=hn.one
  have eb:gH [.bool false,.nilSl] [((1,1),v)]=some (.agg [.bool false,v]):=DX ov
  refine zW (bg hl g0 @b0 eb) ?_
  refine ⟨⟨v,by rw [decide_eq_false h],?_⟩,zK⟩
  exact hn.monoT (SubT.put_ty b0 (by decide))
theorem BZ (C:Code tab) (hw:Wf H) {n:Nat} {k:Int} (hn:n<=60) (hk1 : -9223372036854775808<=k) (hk2:k<9223372036854775808) :
  Ans tab (.fn eK [.int .i64 (n:Int),.int .i64 k]) H fun v H'=>RowV H' v (Lin.unitC n k)/\Kp H H':=by
 refine ca C.facetroomref21_Unit (by decide) fun T hl g0 g1=>?_
 refine zW (aC hl g0 g1) ?_
 refine AnsH.use (Hg C (n:=k) zF hk1 hk2) ?_
 rintro v H2 ⟨⟨w,rfl,hr⟩,hk2⟩
 obtain ⟨k2,_,w2⟩:=zT H zK hk2
 have ow:=hr.one
 have n2:H.next+5<=H2.next:=hk2.le
 have f2:H2.get (H.next+3)=none:=hk2.free (show H.next+3<H.next+5 by omega) (hw.fresh (b:=H.next+3) (by omega))
 refine zW (aC hl g0 g1) ?_
 obtain ⟨G,hG⟩:∃ G,G=(H2.up 1).put (H.next+3) (.cells [.bool (decide (k<0)),w] aa true):=⟨_,rfl⟩
 have sG:Sub H2 G:=by rw [hG]; exact (Sub.bump H2 1).trans (bh f2)
 have kG:Kp H G:=by rw [hG]; exact zK
 have bG:Bq intE aa H G (.own (H.next+3) 0 1 1 2 true) (Lin.unitC 0 k):=.inr ⟨H.next+3,true,[.bool (decide (k<0)),w],rfl,by rw [hG]; exact aA _ _ _,Cells.one (E:=intE) ⟨w,rfl,hr.mono sG⟩,by omega⟩
 have wG:=kG.wf
 rw [<- hG]
 refine bf H [5,6] (fun r vs H'=>∃ (i:Nat) (o:AV),vs=[o,.int .i64 (i:Int)]/\i+r=n/\Bq intE aa H H' o (Lin.unitC i k)) n (by simp only [List.length_set]; exact hl) rfl kG ⟨0,_,by refine zW (aC hl g0 g1) ?_; rfl,by omega,bG⟩ ?_
 rintro r T1 H1 hl1 hs1 hk1 ⟨i,o,hv,hik,bq⟩
 have w1:=hk1.wf
 have le_hk1:=hk1.le
 have le1:=hk1.le
 simp only [List.map_cons,List.map_nil,List.cons.injEq,and_true] at hv
 obtain ⟨v5,v6⟩:=hv
 have t0:ae T1 0=.int .i64 (n:Int):=(hs1.at_ 0 (by decide)).trans (zV (az hl g0))
 by_cases hi:i<n
 ·have hii:(i:Int)<(n:Int):=by omega
  have e:IntKind.i64.wrap ((i:Int)+1)=((i+1:Nat):Int):=by rw [wrap_i64] <;> omega
  have hf:cM [AV.bool false,AV.nilSl] [((0,2),AV.agg [AV.bool false,AV.nilSl])]=some [.bool false,.nilSl]:=HW (aF _) aV
  obtain ⟨n6,H6,e6,b6,k6,nx6,f6,-⟩:=Bq.push (ty2:=aa) (bytes:=32) (id:=H1.next+6) (id2:=H1.next+5) (H:=H1.up 8) (cs:=[.bool false,.nilSl]) (a:=(0:Int)) (bq.mono (Sub.bump H1 8)) (by decide) (hk1.up 8) ⟨.nilSl,by simp,dQ _⟩ (by omega) (by rw [cw]; omega) (w1.fresh (by omega)) (by omega) (by rw [cw]; omega) (w1.fresh (by omega)) (by omega) (by rw [Lin.unitC_len]; omega) (by rw [Lin.unitC_len]; omega)
  have e6':dB ((H1.up 8).put (H1.next+5) (.cells [.bool false,.nilSl] aa true)) (H1.next+6) 2 32 aa o (.own (H1.next+5) 0 1 1 2 true)=some (.own (H1.next+6) 0 n6 n6 2 false,H6):=e6
  refine zW (kU hl1 v5 v6 t0 hii hi hf e6' e) ?_
  refine ⟨k6.up _,r-1,by omega,i+1,_,rfl,by omega,?_⟩
  have eu:Lin.unitC (i+1) k=Lin.unitC i k++[0]:=by
   unfold Lin.unitC
   rw [List.replicate_succ',List.cons_append]
  rw [eu]
  exact b6.mono (Sub.bump H6 _)
 ·have hii:¬ (i:Int)<(n:Int):=by omega
  have ei:i=n:=by omega
  refine zW (fW hl1 v5 v6 t0 hii hi) ?_
  refine ⟨?_,zK⟩
  rw [<- ei]
  exact bq.sl.mono (Sub.bump H1 _)
theorem sn (C:Code tab) (hw:Wf H) {l:List Int} {ty:Nat} (hs:tX (zi .i64) ty H s l) (h64:l.length<=64) (hz:∀ z∈l,-9223372036854775808<=z/\z<9223372036854775808) :
  Ans tab (.fn fg [s]) H fun v H'=>∃ w,v=.agg [w,.bool false]/\RowV H' w l/\Kp H H':=by
 refine cR C.facetroomlaw21_con (by decide) fun T hl g0=>?_
 refine zW (az hl g0) ?_
 refine AnsH.use (vec_Of C zF (hs.mono (Kp.sub (H:=H) zK)) h64 hz) ?_
 rintro v H2 ⟨hr,hk2⟩
 obtain ⟨k2,_,w2⟩:=zT H zK hk2
 have d0:=hk2.get (b:=H.next) (e:=.cells [.nilSl,.bool false] t_api_Con true) (dC)
 have lt0:=w2 _ _ d0
 have ov:=hr.one
 have m3:NoTy (aa :: intE.tys) H2 H.next:=NoTy.ty d0 (by decide)
 refine zW (bg hl g0 d0 (rB ov)) ?_
 exact ⟨v,rfl,SlV.monoT (E:=intE) zS hr,zK⟩
theorem HL (C:Code tab) (hw:Wf H) {l:List Int} {ty:Nat} (hs:tX (zi .i64) ty H s l) (h64:l.length<=64) (hz:∀ z∈l,-9223372036854775808<=z/\z<9223372036854775808) :
  Ans tab (.fn gf [s]) H fun v H'=>∃ w,v=.agg [w,.bool true]/\RowV H' w l/\Kp H H':=by
 refine cR C.facetroomlaw21_eq (by decide) fun T hl g0=>?_
 refine zW (az hl g0) ?_
 refine AnsH.use (vec_Of C zF (hs.mono (Kp.sub (H:=H) zK)) h64 hz) ?_
 rintro v H2 ⟨hr,hk2⟩
 obtain ⟨k2,_,w2⟩:=zT H zK hk2
 have d0:=hk2.get (b:=H.next) (e:=.cells [.nilSl,.bool false] t_api_Con true) (dC)
 have lt0:=w2 _ _ d0
 have ov:=hr.one
 have m3:NoTy (aa :: intE.tys) H2 H.next:=NoTy.ty d0 (by decide)
 refine zW (aC hl g0 d0) ?_
 exact ⟨v,rfl,SlV.monoT (E:=intE) zS hr,zK⟩
theorem mc (C:Code tab) (hw:Wf H) {k:Nat} {l:List Int} {ty:Nat} (hs:tX (zi .i64) ty H s l) (h64:l.length<=64) (hz:∀ z∈l,-9223372036854775808<=z/\z<9223372036854775808) :
  Ans tab (.fn fe [.int .u8 (k:Int),s]) H fun v H'=>∃ w,v=.agg [.int .u8 (k:Int),w]/\RowV H' w l/\Kp H H':=by
 refine ca C.facetroomlaw21_gen (by decide) fun T hl g0 g1=>?_
 refine zW (aC hl g0 g1) ?_
 refine AnsH.use (vec_Of C zF (hs.mono (Kp.sub (H:=H) zK)) h64 hz) ?_
 rintro v H2 ⟨hr,hk2⟩
 obtain ⟨k2,_,w2⟩:=zT H zK hk2
 have d0:=hk2.get (b:=H.next) (e:=.cells [.int .u8 0,.nilSl] ap true) (dC)
 have lt0:=w2 _ _ d0
 have ov:=hr.one
 have m3:NoTy (aa :: intE.tys) H2 H.next:=NoTy.ty d0 (by decide)
 refine zW (bg hl g0 g1 d0) ?_
 exact ⟨v,rfl,SlV.monoT (E:=intE) zS hr,zK⟩
theorem mS (C:Code tab) (hw:Wf H) {va vb:AV} {m:Nat} {l:List (List Int × Bool)} {g:List (Nat × List Int)} (hs:SlV conE t_api_Con H va l) (hg:SlV genE ap H vb g) (hlen:l.length<=60) (hrow:∀ c∈l,c.1.length=2/\Lin.Bd (2^m) c.1) (hm:m<=3000) :
  Ans tab (.fn dS [va,vb]) H fun v H'=>v=.bool (decide (Lin.gensP 1 l=g))/\Kp H H':=by
 refine ca C.facetroomlaw21_points (by decide) fun T hl g0 g1=>?_
 refine zW (az hl g0) ?_
 refine AnsH.use (wm C (n:=1) zF (hs.mono (Kp.sub (H:=H) zK)) (by omega) hlen hrow (by omega)) ?_
 rintro v H2 ⟨q,rfl,hq,hk2⟩
 obtain ⟨k2,_,w2⟩:=zT H zK hk2
 have hb:=vW (n:=1) (by omega) hrow
 refine zW (bg hl g0 g1 g1) ?_
 refine AnsH.eq (u3 C zF (hq.mono (Kp.sub (H:=H2) zK)) ((hg.mono k2.sub).mono (Kp.sub (H:=H2) zK)) ?_ (fun r hr=>⟨by rw [(hb r hr).1]; omega,fun z hz=>(fz (hb r hr).2 z hz).sm (by omega)⟩)) fun H3 hk3=>?_
 ·have hT:=Lin.gens_told (d:=2) (Lin.eqs_len (n:=1) (l:=l) fun c hc=>(hrow c hc).1) (Lin.ineqs_len (n:=1) (l:=l) fun c hc=>(hrow c hc).1)
  have h1:=hT.dd.count3 (Lin.ineqs_len (n:=1) (l:=l) fun c hc=>(hrow c hc).1)
  have h2:=ech_len hT.form
  have h3:=rh (n:=1) l
  simp only [Nat.add_sub_cancel,Nat.pow_one,Nat.reduceSub] at h1
  unfold Lin.gensP
  split
  ·simp only [List.length_append,List.length_map,Nat.reduceAdd]; omega
  ·simp
 have k3:Kp H H3:=k2.trans (Kp.trans zK hk3)
 have le_k3:=k3.le
 refine zW (aC hl g0 g1) ?_
 exact zK
end
section
variable {tab:Nat->Option aq} {H:Heap} {s:AV}
theorem HH {H:Heap} {b:Nat} {v:AV} {x:List Int} {p r:Bool} (h:H.get b=some (.cells [v,.bool p] t_api_Con r)) (hv:RowV H v x):SlV conE t_api_Con H (.own b 0 1 1 2 true) [(x,p)] :=
 ⟨[_,_],Rd.own h rfl (Nat.le_refl _),fun _ _ _ _ _ _ e=>by cases e; exact ⟨_,_,h⟩,Cells.one (E:=conE) ⟨v,rfl,hv⟩⟩
theorem ME {H:Heap} {b:Nat} {v w:AV} {x y:List Int} {p q r:Bool} (h:H.get b=some (.cells [v,.bool p,w,.bool q] t_api_Con r)) (hv:RowV H v x) (hw:RowV H w y):SlV conE t_api_Con H (.own b 0 2 2 2 true) [(x,p),(y,q)] :=
 ⟨[_,_,_,_],Rd.own h rfl (Nat.le_refl _),fun _ _ _ _ _ _ e=>by cases e; exact ⟨_,_,h⟩,(Cells.one (E:=conE) ⟨v,rfl,hv⟩).append (Cells.one (E:=conE) ⟨w,rfl,hw⟩)⟩
theorem MD {H:Heap} {b:Nat} {v:AV} {x:List Int} {p:Nat} {r:Bool} (h:H.get b=some (.cells [.int .u8 (p:Int),v] ap r)) (hv:RowV H v x):SlV genE ap H (.own b 0 1 1 2 true) [(p,x)] :=
 ⟨[_,_],Rd.own h rfl (Nat.le_refl _),fun _ _ _ _ _ _ e=>by cases e; exact ⟨_,_,h⟩,Cells.one (E:=genE) ⟨v,rfl,hv⟩⟩
theorem Kw {H:Heap} {b:Nat} {v w:AV} {x y:List Int} {p q:Nat} {r:Bool} (h:H.get b=some (.cells [.int .u8 (p:Int),v,.int .u8 (q:Int),w] ap r)) (hv:RowV H v x) (hw:RowV H w y):SlV genE ap H (.own b 0 2 2 2 true) [(p,x),(q,y)] :=
 ⟨[_,_,_,_],Rd.own h rfl (Nat.le_refl _),fun _ _ _ _ _ _ e=>by cases e; exact ⟨_,_,h⟩,(Cells.one (E:=genE) ⟨v,rfl,hv⟩).append (Cells.one (E:=genE) ⟨w,rfl,hw⟩)⟩
theorem BP {A:List (List Int × Bool)} (h:A.all (fun x=>decide (x.1.length=2) && x.1.all (fun a=>decide (a.natAbs<=4)))=true):∀ a∈A,a.1.length=2/\Lin.Bd (2^2) a.1:=fun a ha=>by
 have:=List.all_eq_true.1 h a ha
 simp only [Bool.and_eq_true,decide_eq_true_eq] at this
 exact ⟨this.1,Lin.bd_small2 this.2⟩
theorem AF (C:Code tab) (hw:Wf H):Ans tab (.fn eh []) H fun v H'=>v=.bool true/\Kp H H':=by
 refine Nl C.facetroomlaw21_alive fun T hl=>?_
 refine zW hl ?_
 have e0:Emp (H.up 13) H.next (H.next+13):=Emp.start hw
 refine AnsH.use (sn C (l:=[-1,1]) zF (gr (by refine qN ?_; rfl)) (by simp) (by simp)) ?_
 rintro _ H2 ⟨v3,rfl,r3,hk2⟩
 obtain ⟨k2,_,w2⟩:=zT H zK hk2
 have e2:Emp H2 (H.next+2) (H.next+13):=(e0.put (by omega) (by omega)).keep hk2
 have n2:=e2.1
 have o3:=r3.one
 refine zW hl ?_
 refine AnsH.use (sn C (l:=[3,-1]) zF (gr (by refine qN ?_; rfl)) (by simp) (by simp)) ?_
 rintro _ H3 ⟨v5,rfl,r5,hk3⟩
 obtain ⟨k3,_,w3⟩:=zT H zK hk3
 have e3:Emp H3 (H.next+4) (H.next+13):=(e2.put (by omega) (by omega)).keep hk3
 have n3:=e3.1
 have s23:Sub H2 H3:=(e2.sub (p:=H.next+3) (by omega) (by omega)).trans hk3.sub
 have o5:=r5.one
 refine zW hl ?_
 obtain ⟨G3,hG3⟩:∃ G,G=H3.put (H.next+5) (.cells [v3,.bool false,v5,.bool false] t_api_Con true):=⟨_,rfl⟩
 rw [<- hG3]
 have e3':Emp G3 (H.next+6) (H.next+13):=by rw [hG3]; exact e3.put (by omega) (by omega)
 have s3:Sub H3 G3:=by rw [hG3]; exact e3.sub (by omega) (by omega)
 have k3':Kp H G3:=by rw [hG3]; exact zK
 have w3':=k3'.wf
 have n3':=e3'.1
 have R1:SlV conE t_api_Con G3 (.own (H.next+5) 0 2 2 2 true) [([-1,1],false),([3,-1],false)]:=ME (by rw [hG3]; exact aA _ _ _) (r3.mono (s23.trans s3)) (r5.mono s3)
 refine AnsH.use (mc C (k:=3) (l:=[1,1]) zF (gr (by refine qN ?_; rfl)) (by simp) (by simp)) ?_
 rintro _ H4 ⟨v8,rfl,r8,hk4⟩
 obtain ⟨k4,_,w4⟩:=zT H zK hk4
 have e4:Emp H4 (H.next+7) (H.next+13):=(e3'.put (by omega) (by omega)).keep hk4
 have n4:=e4.1
 have s4:Sub G3 H4:=(e3'.sub (p:=H.next+6) (by omega) (by omega)).trans hk4.sub
 have o8:=r8.one
 refine zW hl ?_
 refine AnsH.use (mc C (k:=3) (l:=[1,3]) zF (gr (by refine qN ?_; rfl)) (by simp) (by simp)) ?_
 rintro _ H5 ⟨v10,rfl,r10,hk5⟩
 obtain ⟨k5,_,w5⟩:=zT H zK hk5
 have e5:Emp H5 (H.next+9) (H.next+13):=(e4.put (by omega) (by omega)).keep hk5
 have n5:=e5.1
 have s5:Sub H4 H5:=(e4.sub (p:=H.next+8) (by omega) (by omega)).trans hk5.sub
 have o10:=r10.one
 refine zW hl ?_
 obtain ⟨G5,hG5⟩:∃ G,G=H5.put (H.next+10) (.cells [.int .u8 ((3:Nat):Int),v8,.int .u8 ((3:Nat):Int),v10] ap true):=⟨_,rfl⟩
 rw [<- hG5]
 have s5':Sub H5 G5:=by rw [hG5]; exact e5.sub (by omega) (by omega)
 have k5':Kp H G5:=by rw [hG5]; exact zK
 have w5':=k5'.wf
 have R2:SlV genE ap G5 (.own (H.next+10) 0 2 2 2 true) [(3,[1,1]),(3,[1,3])]:=Kw (by rw [hG5]; exact aA _ _ _) (r8.mono (s5.trans s5')) (r10.mono s5')
 have R1':=R1.mono ((s4.trans s5).trans s5')
 refine AnsH.eq (mS C (m:=2) zF R1' R2 (by simp) (BP (by decide)) (by omega)) fun H6 hk6=>?_
 obtain ⟨k6,_,w6⟩:=zT H zK hk6
 rw [decide_eq_true Lin.pt1]
 have f0:Emp (H6.up 28) H6.next (H6.next+28):=Emp.start w6
 refine zW hl ?_
 refine AnsH.use (HL C (l:=[-1,2]) zF (gr (by refine qN ?_; rfl)) (by simp) (by simp)) ?_
 rintro _ H7 ⟨v16,rfl,r16,hk7⟩
 obtain ⟨k7,_,w7⟩:=zT H zK hk7
 have f7:Emp H7 (H6.next+3) (H6.next+28):=(f0.put (by omega) (by omega)).keep hk7
 have n7:=f7.1
 have o16:=r16.one
 refine zW hl ?_
 obtain ⟨G7,hG7⟩:∃ G,G=H7.put (H6.next+4) (.cells [v16,.bool true] t_api_Con true):=⟨_,rfl⟩
 rw [<- hG7]
 have f7':Emp G7 (H6.next+5) (H6.next+28):=by rw [hG7]; exact f7.put (by omega) (by omega)
 have s7:Sub H7 G7:=by rw [hG7]; exact f7.sub (by omega) (by omega)
 have k7':Kp H G7:=by rw [hG7]; exact zK
 have w7':=k7'.wf
 have n7':=f7'.1
 have R3:SlV conE t_api_Con G7 (.own (H6.next+4) 0 1 1 2 true) [([-1,2],true)]:=HH (by rw [hG7]; exact aA _ _ _) (r16.mono s7)
 refine AnsH.use (mc C (k:=3) (l:=[2,1]) zF (gr (by refine qN ?_; rfl)) (by simp) (by simp)) ?_
 rintro _ H8 ⟨v19,rfl,r19,hk8⟩
 obtain ⟨k8,_,w8⟩:=zT H zK hk8
 have f8:Emp H8 (H6.next+6) (H6.next+28):=(f7'.put (by omega) (by omega)).keep hk8
 have n8:=f8.1
 have s8:Sub G7 H8:=(f7'.sub (p:=H6.next+5) (by omega) (by omega)).trans hk8.sub
 have o19:=r19.one
 refine zW hl ?_
 obtain ⟨G8,hG8⟩:∃ G,G=H8.put (H6.next+7) (.cells [.int .u8 ((3:Nat):Int),v19] ap true):=⟨_,rfl⟩
 rw [<- hG8]
 have f8':Emp G8 (H6.next+8) (H6.next+28):=by rw [hG8]; exact f8.put (by omega) (by omega)
 have s8':Sub H8 G8:=by rw [hG8]; exact f8.sub (by omega) (by omega)
 have k8':Kp H G8:=by rw [hG8]; exact zK
 have w8':=k8'.wf
 have n8':=f8'.1
 have R4:SlV genE ap G8 (.own (H6.next+7) 0 1 1 2 true) [(3,[2,1])]:=MD (by rw [hG8]; exact aA _ _ _) (r19.mono s8')
 refine AnsH.eq (mS C (m:=2) zF (R3.mono (s8.trans s8')) R4 (by simp) (BP (by decide)) (by omega)) fun H9 hk9=>?_
 obtain ⟨k9,_,w9⟩:=zT H zK hk9
 have f9:Emp H9 (H6.next+8) (H6.next+28):=f8'.keep hk9
 have n9:=f9.1
 rw [decide_eq_true Lin.pt2]
 refine zW hl ?_
 refine AnsH.use (sn C (l:=[0,1]) zF (gr (by refine qN ?_; rfl)) (by simp) (by simp)) ?_
 rintro _ H10 ⟨v25,rfl,r25,hk10⟩
 obtain ⟨k10,_,w10⟩:=zT H zK hk10
 have f10:Emp H10 (H6.next+12) (H6.next+28):=(f9.put (by omega) (by omega)).keep hk10
 have n10:=f10.1
 have o25:=r25.one
 refine zW hl ?_
 obtain ⟨G10,hG10⟩:∃ G,G=H10.put (H6.next+13) (.cells [v25,.bool false] t_api_Con true):=⟨_,rfl⟩
 rw [<- hG10]
 have f10':Emp G10 (H6.next+14) (H6.next+28):=by rw [hG10]; exact f10.put (by omega) (by omega)
 have s10:Sub H10 G10:=by rw [hG10]; exact f10.sub (by omega) (by omega)
 have k10':Kp H G10:=by rw [hG10]; exact zK
 have w10':=k10'.wf
 have n10':=f10'.1
 have R5:SlV conE t_api_Con G10 (.own (H6.next+13) 0 1 1 2 true) [([0,1],false)]:=HH (by rw [hG10]; exact aA _ _ _) (r25.mono s10)
 refine AnsH.use (mc C (k:=2) (l:=[0,1]) zF (gr (by refine qN ?_; rfl)) (by simp) (by simp)) ?_
 rintro _ H11 ⟨v28,rfl,r28,hk11⟩
 obtain ⟨k11,_,w11⟩:=zT H zK hk11
 have f11:Emp H11 (H6.next+15) (H6.next+28):=(f10'.put (by omega) (by omega)).keep hk11
 have n11:=f11.1
 have s11:Sub G10 H11:=(f10'.sub (p:=H6.next+14) (by omega) (by omega)).trans hk11.sub
 have o28:=r28.one
 refine zW hl ?_
 refine AnsH.use (mc C (k:=3) (l:=[1,0]) zF (gr (by refine qN ?_; rfl)) (by simp) (by simp)) ?_
 rintro _ H12 ⟨v30,rfl,r30,hk12⟩
 obtain ⟨k12,_,w12⟩:=zT H zK hk12
 have f12:Emp H12 (H6.next+17) (H6.next+28):=(f11.put (by omega) (by omega)).keep hk12
 have n12:=f12.1
 have s12:Sub H11 H12:=(f11.sub (p:=H6.next+16) (by omega) (by omega)).trans hk12.sub
 have o30:=r30.one
 refine zW hl ?_
 obtain ⟨G12,hG12⟩:∃ G,G=H12.put (H6.next+18) (.cells [.int .u8 ((2:Nat):Int),v28,.int .u8 ((3:Nat):Int),v30] ap true):=⟨_,rfl⟩
 rw [<- hG12]
 have f12':Emp G12 (H6.next+19) (H6.next+28):=by rw [hG12]; exact f12.put (by omega) (by omega)
 have s12':Sub H12 G12:=by rw [hG12]; exact f12.sub (by omega) (by omega)
 have k12':Kp H G12:=by rw [hG12]; exact zK
 have w12':=k12'.wf
 have n12':=f12'.1
 have R6:SlV genE ap G12 (.own (H6.next+18) 0 2 2 2 true) [(2,[0,1]),(3,[1,0])]:=Kw (by rw [hG12]; exact aA _ _ _) (r28.mono (s12.trans s12')) (r30.mono s12')
 refine AnsH.eq (mS C (m:=2) zF (R5.mono ((s11.trans s12).trans s12')) R6 (by simp) (BP (by decide)) (by omega)) fun H13 hk13=>?_
 obtain ⟨k13,_,w13⟩:=zT H zK hk13
 have f13:Emp H13 (H6.next+19) (H6.next+28):=f12'.keep hk13
 have n13:=f13.1
 rw [decide_eq_true Lin.pt3]
 refine zW hl ?_
 refine AnsH.use (vec_Of C (l:=[1,2]) zF (gr (by refine qN ?_; rfl)) (by simp) (by simp)) ?_
 rintro v36 H14 ⟨r36,hk14⟩
 obtain ⟨k14,_,_⟩:=zT H zK hk14
 have l36:lenV v36=some (.int .i64 2):=r36.lenV
 refine zW (az hl l36) ?_
 exact zK
theorem AE (C:Code tab) (hw:Wf H) {d:Int} {l:List sQ} (hs:SlV conQE t_api_Con H s l) :
  Ans tab (.fn ee [.int .i64 d,s]) H fun v H'=>v=.bool (fo 7 l || decide (4<d))/\Kp H H':=by
 refine ca C.facetroomlaw21_great (by decide) fun T hl g0 g1=>?_
 refine zW (bg hl g0 g1 g1) ?_
 refine AnsH.eq (tY C (n:=7) zF (hs.mono (Kp.sub (H:=H) zK)) (by omega)) fun H2 hk2=>?_
 obtain ⟨k2,_,_⟩:=zT H zK hk2
 cases hq:fo 7 l with
 | true =>
  refine zW (aC hl g0 g1) ?_
  exact ⟨by simp,zK⟩
 | false =>
  refine zW (az hl g0) ?_
  exact ⟨by simp,zK⟩
theorem zl {many lim:Nat} {r:List (Bool × List Nat)} (h:lJ many lim r=false):r.length<=many/\∀ z∈r,z.2.length<=lim:=by
 unfold lJ at h
 rw [Bool.or_eq_false_iff,decide_eq_false_iff_not,List.any_eq_false] at h
 refine ⟨by omega,fun z hz=>?_⟩
 have:=h.2 z hz
 simp only [decide_eq_true_eq] at this
 omega
theorem km {n:Nat} {l:List sQ} (h:fo n l=false):l.length<=n/\∀ c∈l,c.1.length<=5/\∀ z∈c.1,z.2.length<=1:=by
 unfold fo at h
 rw [Bool.or_eq_false_iff,decide_eq_false_iff_not,List.any_eq_false] at h
 exact ⟨by omega,fun c hc=>zl (by simpa using h.2 c hc)⟩
theorem Cw {n:Nat} {l:List sQ} (h:fo n l=false):∀ c∈l,xq c.1:=fun c hc=>by
 obtain ⟨h1,h2⟩:=(km h).2 c hc
 exact ⟨by omega,fun z hz=>by have:=h2 z hz; omega⟩
abbrev Im (c:sQ):List Int × Bool:=(c.1.map ia,c.2)
theorem LA {r:List (Bool × List Nat)} (hl:∀ z∈r,Lim z.2/\z.2.length<=1):Lin.Bd (2^64) (r.map ia):=fun i=>by
 unfold Lin.at_
 rw [List.getD_eq_getElem?_getD]
 cases hi:(r.map ia)[i]? with
 | none=>simp
 | some z =>
  obtain ⟨x,hx,rfl⟩:=List.mem_map.1 (List.mem_of_getElem? hi)
  have:=La (n:=1) (hl x hx).1 (hl x hx).2
  unfold Bt at this
  simp only [Nat.mul_one] at this
  simp only [Option.getD_some]
  omega
theorem JJ {r:List (Bool × List Nat)} (h:yT r=true):∀ z∈r,pC z=false:=by
 simp only [yT,Bool.and_eq_true,Bool.not_eq_true',List.any_eq_false,Bool.not_eq_true] at h
 exact h.2
theorem FE {d:Int} {n:Nat} {l:List sQ} (hs:SlV conQE t_api_Con H s l) (gl:∀ r∈l,mX r.1) (hg:fo n l=false) (h4:¬ 4<d) (hn:n<=60) :
  cT d l≠0\/∃ k:Nat,d=(k:Int)/\k<=4/\SlV conE t_api_Con H s (l.map Im)/\l.length<=n/\∀ c∈l.map Im,c.1.length=k+1/\Lin.Bd (2^64) c.1:=by
 by_cases hc:cT d l=0
 ·refine .inr ?_
  obtain ⟨h1,h2⟩:=km hg
  unfold cT at hc
  split at hc
  ·omega
  split at hc
  ·omega
  split at hc
  ·omega
  split at hc
  ·omega
  rename_i q1 q2 q3 q4
  have q3:∀ c∈l,yT c.1=true:=fun c hc=>by
   cases hok:yT c.1 with
   | true=>rfl
   | false=>exact absurd (List.any_eq_true.2 ⟨c,hc,by rw [hok]; rfl⟩) q3
  have q4:∀ c∈l,(c.1.length:Int)=d+1:=fun c hc=>by
   apply Classical.byContradiction
   intro hn
   exact q4 (List.any_eq_true.2 ⟨c,hc,by simpa using hn⟩)
  refine ⟨d.toNat,by omega,by omega,Ij hs fun r hr z hz=>⟨JJ (q3 r hr) z hz,((gl r hr).1 z hz).1⟩,h1,fun c hc=>?_⟩
  obtain ⟨x,hx,rfl⟩:=List.mem_map.1 hc
  refine ⟨?_,LA fun z hz=>⟨((gl x hx).1 z hz).1,(h2 x hx).2 z hz⟩⟩
  have:=q4 x hx
  show (x.1.map ia).length=_
  rw [List.length_map]
  omega
 ·exact .inl hc
end
theorem IA {α:Type} {p:α->Bool} {l:List α} {j:Nat} (hj:j<l.length):(l.take (j+1)).any p=((l.take j).any p || p l[j]):=by
 rw [List.take_succ_eq_append_getElem hj,List.any_append]
 simp
section
variable {tab:Nat->Option aq} {H:Heap} {s:AV}
set_option maxHeartbeats 20000000 in
theorem law21_DualKeeps (C:Code tab) (hw:Wf H) {d:Int} {l:List sQ} (hs:SlV conQE t_api_Con H s l) (gl:∀ r∈l,mX r.1) (_ : -9223372036854775808<=d/\d<9223372036854775808) :
  Ans tab (.fn dj [.int .i64 d,s]) H fun v H'=>v=.bool true/\Kp H H':=by
 refine xw C.facetroomlaw21_DualKeeps rfl rfl (by decide) fun T hl g=>?_
 have hl:T.length=108:=hl
 have hrs:c_facetroomlaw21_DualKeeps.results=[(4,none)]:=rfl
 have g0:ae T 0=.int .i64 d:=g 0 (by simp)
 have g1:ae T 1=s:=g 1 (by simp)
 refine br ?_
 refine zW (az hl @aK) ?_
 refine br ?_
 refine zW hl ?_
 refine AnsH.eq (AF C zF) fun H2 hk2=>?_
 obtain ⟨k2,_,w2⟩:=zT H zK hk2
 refine zW (az hl @aK) ?_
 refine br ?_
 refine zW (aC hl g0 g1) ?_
 refine AnsH.eq (AE C zF (hs.mono (Kp.sub (H:=H) zK))) fun H3 hk3=>?_
 obtain ⟨k3,_,w3⟩:=zT H zK hk3
 cases hg:fo 7 l || decide (4<d) with
 | true =>
  refine zW (aC hl @nM hrs) ?_
  exact zK
 | false =>
 simp only [Bool.or_eq_false_iff,decide_eq_false_iff_not] at hg
 obtain ⟨q1,q2⟩:=hg
 refine zW (az hl @aK) ?_
 refine br ?_
 refine zW (aC hl g0 g1) ?_
 rcases FE hs gl q1 q2 (by omega) with hbad | ⟨n,rfl,n4,hsl,ll,hrow⟩
 ·refine AnsH.use (AU C zF (hs.mono (Kp.sub (H:=H) zK)) (Cw q1) (by have:=(km q1).1; omega) hbad) ?_
  rintro v H4 ⟨rfl,hk4⟩
  obtain ⟨k4,_,w4⟩:=zT H zK hk4
  have n4:H3.next+9<=H4.next:=hk4.le
  have hbad:¬ cT d l=0:=hbad
  refine zW (aC hl @ND @aK) ?_
  refine br ?_
  refine zW (bg hl hbad @nM hrs) ?_
  exact zK
 obtain ⟨l',hl'⟩:∃ l',l'=l.map Im:=⟨_,rfl⟩
 have len':l'.length=l.length:=by rw [hl',List.length_map]
 rw [<- hl'] at hsl hrow
 have hlen1:∀ c∈l',c.1.length=n+1:=fun c hc=>(hrow c hc).1
 have hGb:=vW (by omega) hrow
 refine AnsH.use (CG C (m:=64) (m2:=64*(64+4)) zF (hsl.mono (Kp.sub (H:=H) zK)) n4 (by omega) hrow (by omega) (fun x hx=>(hGb x hx).2) (by omega)) ?_
 rintro v H4 ⟨hm,hk4⟩
 obtain ⟨k34,_,_⟩:=zT H3 zK hk4
 have k4:Kp H H4:=k3.trans k34
 have le_k4:=k4.le
 have w4:=k4.wf
 have n4':H3.next+9<=H4.next:=hk4.le
 have f4:H4.get (H3.next+6)=none:=hk4.free (show H3.next+6<H3.next+9 by omega) (w3.fresh (b:=H3.next+6) (by omega))
 rcases hm with ⟨rfl,hm⟩ | ⟨p,rfl,⟨vc,vg,rfl,hc,hgg⟩,lg,lc⟩
 ·refine zW (aC hl @ND @aK) ?_
  refine br ?_
  refine zW (aC hl @nM hrs) ?_
  exact zK
 have oc:=hc.one
 have og:=hgg.one
 have hpk:=fun {g} (hg:g∈Lin.gensP n l') {c} (hc:c∈l'\/c∈Lin.consP n (Lin.gensP n l'))=>Lin.poly_keeps hlen1 hg hc
 have hpp:=Lin.poly_point (n:=n) (l:=l')
 have hCb:=Ik (by omega) hGb
 obtain ⟨G,hG⟩:∃ G,G=Lin.gensP n l':=⟨_,rfl⟩
 obtain ⟨K,hK⟩:∃ K,K=Lin.consP n (Lin.gensP n l'):=⟨_,rfl⟩
 rw [<- hK] at hc lc hCb hpk
 rw [<- hG] at hgg lg hGb hpk hpp
 obtain ⟨H5,hH5⟩:∃ H5,H5=(H4.put (H3.next+6) (.cells [.int .i64 0,.nilSl,.nilSl] iK true)).put (H3.next+6) (.cells [.int .i64 (n:Int),vc,vg] iK true):=⟨_,rfl⟩
 have s45:Sub H4 H5:=by rw [hH5]; exact (bh f4).put f4 _
 have k5:Kp H H5:=by rw [hH5]; exact zK
 have le_k5:=k5.le
 have w5:=k5.wf
 have d6:H5.get (H3.next+6)=some (.cells [.int .i64 (n:Int),vc,vg] iK true):=by rw [hH5]; exact aA _ _ _
 have hc5:=hc.mono s45
 have hg5:=hgg.mono s45
 have hsl5:=(hsl.mono k4.sub).mono s45
 obtain ⟨ub,hub⟩:∃ ub,ub=H3.next+6:=⟨_,rfl⟩
 refine zW (aC hl @ND @aK) ?_
 rw [<- hH5]
 rw [<- hub] at d6 ⊢
 refine br ?_
 refine zW (az hl @aK) ?_
 refine cB (fun T' H'=>Kp H5 H'/\G≠[]) rfl ?_ ?_
 ·by_cases h0:(G.length:Int)=0
  ·have hG0:G=[]:=List.length_eq_zero_iff.1 (by omega)
   have hK0:K=[(Lin.unitC n (-1),false)]:=by rw [hK,<- hG,hG0]; rfl
   have lK:lenV vc=some (.int .i64 1):=by rw [hc5.lenV,hK0]; rfl
   have hpos:0<K.length:=by rw [hK0]; simp
   obtain ⟨cs,⟨w,rfl,hr⟩,-,h2,-⟩:=hc5.at (List.getElem?_eq_getElem hpos)
   have e0:K[0].2=false:=by simp [hK0]
   have ix:cW 2 vc (.int .i64 0)=some (al vc 0):=SlV.idx hc5 .i64 0 hpos
   have fa:vZ 1 (al vc 0)=some (al vc 1):=hc5.fa hpos 1 0
   have ld:aZ H5 none (al vc 1)=some (.bool false):=by rw [<- e0]; exact h2 1 _ rfl
   refine zW (bg hl d6 hg5.lenV h0) ?_
   refine aO ?_
   simp -dsimp (maxSteps:=1000000) (disch:=(first | omega | assumption | exact aF _ | exact aR _ _ | exact aV | exact bB _ _ _ | exact aY _ _ | exact aU _ _ _ _ _ _ | exact bI _ _ | exact bc _)) only [↓nD,nC,↓BH,BG,Nat.reduceLT,Nat.reduceEqDiff,Nat.reduceAdd,reduceIte,reduceCtorEq,Nat.reduceBEq,Int.reduceEq,Int.reduceLT,Int.reduceLE,Int.reduceAdd,Int.reduceSub,hl,d6,lK,ix,fa,ld,eE,↓dM,↓uB,g0]
   refine AnsH.use (BZ C (n:=n) (k:=-1) zF (by omega) (by omega) (by omega)) ?_
   rintro v6 H6 ⟨hu,hk6⟩
   obtain ⟨k56,_,w6⟩:=zT H5 zK hk6
   have ou:=hu.one
   have d6b:=k56.get d6
   have ldb:=aH k56.sub ld
   have n6:H5.next+28<=H6.next:=hk6.le
   have f6:H6.get (H5.next+24)=none:=hk6.free (show H5.next+24<H5.next+28 by omega) (w5.fresh (b:=H5.next+24) (by omega))
   simp -dsimp (maxSteps:=1000000) (disch:=(first | omega | assumption | exact aF _ | exact aR _ _ | exact aV | exact bB _ _ _ | exact aY _ _ | exact aU _ _ _ _ _ _ | exact bI _ _ | exact bc _)) only [↓nD,nC,↓BH,BG,Nat.reduceLT,Nat.reduceEqDiff,Nat.reduceAdd,reduceIte,reduceCtorEq,Nat.reduceBEq,Int.reduceEq,Int.reduceLT,Int.reduceLE,Int.reduceAdd,Int.reduceSub,hl,d6,lK,ix,fa,ld,eE,↓dM,↓uB,g0,rB ou,d6b,ldb]
   obtain ⟨G6,hG6⟩:∃ G,G=H6.put (H5.next+24) (.cells [v6,.bool false] t_api_Con true):=⟨_,rfl⟩
   have s6:Sub H6 G6:=by rw [hG6]; exact bh f6
   have k56':Kp H5 G6:=by rw [hG6]; exact zK
   have w6':=k56'.wf
   rw [<- hG6]
   refine AnsH.eq (ve C w6' (hc5.mono k56'.sub) (HH (by rw [hG6]; exact aA _ _ _) (hu.mono s6)) (by omega) fun r hr=>⟨by rw [(hCb r hr).1]; omega,fun z hz=>(fz (hCb r hr).2 z hz).sm (by omega)⟩) fun H7 hk7=>?_
   have k57:Kp H5 H7:=k56'.trans hk7
   have le_k57:=k57.le
   have d7:=k57.get d6
   have ld7:=aH k57.sub ld
   rw [decide_eq_true hK0]
   simp -dsimp (maxSteps:=1000000) (disch:=(first | omega | assumption | exact aF _ | exact aR _ _ | exact aV | exact bB _ _ _ | exact aY _ _ | exact aU _ _ _ _ _ _ | exact bI _ _ | exact bc _)) only [↓nD,nC,↓BH,BG,Nat.reduceLT,Nat.reduceEqDiff,Nat.reduceAdd,reduceIte,reduceCtorEq,Nat.reduceBEq,Int.reduceEq,Int.reduceLT,Int.reduceLE,Int.reduceAdd,Int.reduceSub,hl,d6,lK,ix,fa,ld,eE,↓dM,↓uB,g0,rB ou,d6b,ldb,d7,ld7,oE,hrs]
   exact k5.trans k57
  ·refine zW (cJ hl d6 hg5.lenV h0 @aQ) ?_
   exact ⟨zK,fun e=>h0 (by rw [e]; rfl)⟩
 rintro T5 H6 hs5 ⟨k56,hne⟩
 have k6:Kp H H6:=k5.trans k56
 have le_k6:=k6.le
 have w6:=k6.wf
 have le6:=k56.le
 have t1:ae T5 1=s:=(hs5.at_ 1 (by decide)).trans (zV (az hl g1))
 have t6:ae T5 6=.ptr ub 0:=(hs5.at_ 6 (by decide)).trans (zV hl)
 have hl5:T5.length=108:=hs5.len.trans (by simp only [List.length_set]; exact hl)
 refine br ?_
 refine zW (az hl5 @aK) ?_
 refine cB (fun T' H'=>Kp H6 H'/\ae T' 8=.bool true) rfl ?_ ?_
 ·refine zW hl5 ?_
  refine bf H6 [8,9] (fun r vs H'=>∃ i:Nat,vs=[.bool ((G.take i).any fun x=>x.1 == 3),.int .i64 (i:Int)]/\i+r=G.length) G.length (by simp only [List.length_set]; exact hl5) rfl zK ⟨0,by refine zW hl5 ?_; rfl,by omega⟩ ?_
  rintro r T6 H7 hl6 hs6 hk7 ⟨i,hv,hir⟩
  have w7:=hk7.wf
  have le_hk7:=hk7.le
  have le7:=hk7.le
  simp only [List.map_cons,List.map_nil,List.cons.injEq,and_true] at hv
  obtain ⟨v8,v9⟩:=hv
  have u1:ae T6 1=s:=(hs6.at_ 1 (by decide)).trans (zV (az hl5 t1))
  have u6:ae T6 6=.ptr ub 0:=(hs6.at_ 6 (by decide)).trans (zV (az hl5 t6))
  have k57:Kp H5 H7:=k56.trans hk7
  have le_k57:=k57.le
  have d7:=k57.get d6
  have hc7:=hc5.mono k57.sub
  have hg7:=hg5.mono k57.sub
  have hs7:=hsl5.mono k57.sub
  by_cases hi:i<G.length
  ·have hii:(i:Int)<(G.length:Int):=by omega
   have mi:=List.getElem_mem hi
   obtain ⟨cs,⟨w,rfl,hr⟩,-,h2,hldg⟩:=hg7.at (List.getElem?_eq_getElem hi)
   have hldg:aZ H7 (some 2) (al vg (i*2))=some (.agg [.int .u8 (G[i].1:Int),w]):=hldg
   have l0:aZ H7 none (al vg (i*2))=some (.int .u8 (G[i].1:Int)):=h2 0 _ rfl
   have ixg:cW 2 vg (.int .i64 (i:Int))=some (al vg (i*2)):=SlV.idx hg5 .i64 i hi
   have f0:vZ 0 (al vg (i*2))=some (al vg (i*2)):=hg5.fa (by omega) 0 (i*2)
   have ei:IntKind.i64.wrap ((i:Int)+1)=((i+1:Nat):Int):=by rw [wrap_i64] <;> omega
   have hso:=IA (p:=fun x:Nat × List Int=>x.1 == 3) hi
   have hB:(G.take (i+1)).any (fun x=>x.1 == 3)=((G.take i).any (fun x=>x.1 == 3) || decide ((G[i].1:Int)=3)):=by
    rw [hso]
    congr 1
    rw [Bool.eq_iff_iff]
    simp
    omega
   cases hb:(G.take i).any fun x=>x.1 == 3 with
   | true =>
    rw [hb] at v8 hB
    refine zW (mw hl6 v8 v9 u6 d7 hg7.lenV hii hi) ?_
    refine bf H7 [10] (fun r vs H'=>∃ j:Nat,vs=[.int .i64 (j:Int)]/\j+r=l'.length) l'.length (by simp only [List.length_set]; exact hl6) rfl zK ⟨0,by refine zW hl6 ?_; rfl,by omega⟩ ?_
    rintro r2 T7 H8 hl7 hs7' hk8 ⟨j,hv,hjr⟩
    have w8:=hk8.wf
    have le_hk8:=hk8.le
    have le8:=hk8.le
    simp only [List.map_cons,List.map_nil,List.cons.injEq,and_true] at hv
    have x1:ae T7 1=s:=(hs7'.at_ 1 (by decide)).trans (zV (az hl6 u1))
    have x6:ae T7 6=.ptr ub 0:=(hs7'.at_ 6 (by decide)).trans (zV (az hl6 u6))
    have x8:ae T7 8=.bool ((G.take (i+1)).any fun x=>x.1 == 3):=by rw [hB,Bool.true_or]; exact (hs7'.at_ 8 (by decide)).trans (zV hl6)
    have x9:ae T7 9=.int .i64 (i:Int):=(hs7'.at_ 9 (by decide)).trans (zV (az hl6 v9))
    have d8:=hk8.get d7
    by_cases hj:j<l'.length
    ·have hjj:(j:Int)<(l'.length:Int):=by omega
     have mj:=List.getElem_mem hj
     obtain ⟨cs,⟨w',rfl,hr'⟩,-,-,hldc⟩:=(hs7.mono hk8.sub).at (List.getElem?_eq_getElem hj)
     have hldc:aZ H8 (some 2) (al s (j*2))=some (.agg [w',.bool l'[j].2]):=hldc
     have hldg8:=aH hk8.sub hldg
     have ixc:cW 2 s (.int .i64 (j:Int))=some (al s (j*2)):=SlV.idx hs7 .i64 j hj
     have ej:IntKind.i64.wrap ((j:Int)+1)=((j+1:Nat):Int):=by rw [wrap_i64] <;> omega
     refine zW (fW hl7 hv x1 hs7.lenV hjj hj) ?_
     refine aO ?_
     refine zD (nE hl7 hv x1 x6 x9 d8 ixc ixg hldc hldg8) ?_
     refine AnsH.eq (kI C (b:=l'[j].2) (k:=G[i].1) (a:=l'[j].1) (r:=G[i].2) (e:=65) (f:=64*(64+4)+1) zF (hr'.mono (Kp.sub (H:=H8) zK)) ((hr.mono hk8.sub).mono (Kp.sub (H:=H8) zK)) ((hrow _ mj).1.trans (hGb _ mi).1.symm) (by rw [(hrow _ mj).1]; omega) (fun z hz=>fz (hrow _ mj).2 z hz) (fun z hz=>fz (hGb _ mi).2 z hz) (by omega)) fun H9 hk9=>?_
     obtain ⟨k89,_,_⟩:=zT H8 zK hk9
     have k79:Kp H7 H9:=hk8.trans k89
     have le_k79:=k79.le
     have d9:=k89.get d8
     have hldc9:=aH k89.sub hldc
     have hldg9:=aH k89.sub hldg8
     have hke:Lin.keepsP (l'[j].1,l'[j].2) (G[i].1,G[i].2)=true:=hpk mi (.inl mj)
     rw [hke]
     refine zD (Eh hl7 hv x1 x6 x9 d8 ixc ixg hldc hldg8 d9 hldc9 hldg9 ej) ?_
     exact ⟨zK,r2-1,by omega,j+1,rfl,by omega⟩
    ·have hjj:¬ (j:Int)<(l'.length:Int):=by omega
     refine zW (fW hl7 hv x1 hs7.lenV hjj hj) ?_
     refine bf H7 [11] (fun r vs H'=>∃ j:Nat,vs=[.int .i64 (j:Int)]/\j+r=K.length) K.length (by simp only [List.length_set]; exact hl7) rfl zK ⟨0,by refine zW hl7 ?_; rfl,by omega⟩ ?_
     rintro r3 T8 H10 hl8 hs8 hk10 ⟨j,hv,hjr⟩
     have w10:=hk10.wf
     have le_hk10:=hk10.le
     have le10:=hk10.le
     simp only [List.map_cons,List.map_nil,List.cons.injEq,and_true] at hv
     have y6:ae T8 6=.ptr ub 0:=(hs8.at_ 6 (by decide)).trans (zV (az hl7 x6))
     have y8:ae T8 8=.bool ((G.take (i+1)).any fun x=>x.1 == 3):=(hs8.at_ 8 (by decide)).trans (zV (az hl7 x8))
     have y9:ae T8 9=.int .i64 (i:Int):=(hs8.at_ 9 (by decide)).trans (zV (az hl7 x9))
     have d10:=hk10.get d7
     by_cases hj:j<K.length
     ·have hjj:(j:Int)<(K.length:Int):=by omega
      have mj:=List.getElem_mem hj
      obtain ⟨cs,⟨w',rfl,hr'⟩,-,-,hldc⟩:=(hc7.mono hk10.sub).at (List.getElem?_eq_getElem hj)
      have hldc:aZ H10 (some 2) (al vc (j*2))=some (.agg [w',.bool K[j].2]):=hldc
      have hldg8:=aH hk10.sub hldg
      have ixc:cW 2 vc (.int .i64 (j:Int))=some (al vc (j*2)):=SlV.idx hc7 .i64 j hj
      have ej:IntKind.i64.wrap ((j:Int)+1)=((j+1:Nat):Int):=by rw [wrap_i64] <;> omega
      refine zW (jm hl8 hv y6 d10 hc7.lenV hjj hj) ?_
      refine aO ?_
      refine zD (kU hl8 hv y6 y9 d10 ixc ixg hldc hldg8) ?_
      refine AnsH.eq (kI C (b:=K[j].2) (k:=G[i].1) (a:=K[j].1) (r:=G[i].2) (e:=64*(64*(64+4)+4)+1) (f:=64*(64+4)+1) zF (hr'.mono (Kp.sub (H:=H10) zK)) ((hr.mono hk10.sub).mono (Kp.sub (H:=H10) zK)) ((hCb _ mj).1.trans (hGb _ mi).1.symm) (by rw [(hCb _ mj).1]; omega) (fun z hz=>fz (hCb _ mj).2 z hz) (fun z hz=>fz (hGb _ mi).2 z hz) (by omega)) fun H9 hk9=>?_
      obtain ⟨k89,_,_⟩:=zT H10 zK hk9
      have k79:Kp H7 H9:=hk10.trans k89
      have le_k79:=k79.le
      have d9:=k89.get d10
      have hldc9:=aH k89.sub hldc
      have hldg9:=aH k89.sub hldg8
      have hke:Lin.keepsP (K[j].1,K[j].2) (G[i].1,G[i].2)=true:=hpk mi (.inr mj)
      rw [hke]
      refine zD (Ei hl8 hv y6 y9 d10 ixc ixg hldc hldg8 d9 hldc9 hldg9 ej) ?_
      exact ⟨zK,r3-1,by omega,j+1,rfl,by omega⟩
     ·have hjj:¬ (j:Int)<(K.length:Int):=by omega
      refine zW (nE hl8 hv y6 y8 y9 d10 hc7.lenV hjj hj ei) ?_
      have k610:Kp H6 H10:=hk7.trans hk10
      have le_k610:=k610.le
      exact ⟨zK,r-1,by omega,i+1,rfl,by omega⟩
   | false =>
    rw [hb] at v8 hB
    refine zW (p9 hl6 v8 v9 u6 d7 hg7.lenV hii hi ixg f0 l0) ?_
    refine bf H7 [10] (fun r vs H'=>∃ j:Nat,vs=[.int .i64 (j:Int)]/\j+r=l'.length) l'.length (by simp only [List.length_set]; exact hl6) rfl zK ⟨0,by refine zW hl6 ?_; rfl,by omega⟩ ?_
    rintro r2 T7 H8 hl7 hs7' hk8 ⟨j,hv,hjr⟩
    have w8:=hk8.wf
    have le_hk8:=hk8.le
    have le8:=hk8.le
    simp only [List.map_cons,List.map_nil,List.cons.injEq,and_true] at hv
    have x1:ae T7 1=s:=(hs7'.at_ 1 (by decide)).trans (zV (az hl6 u1))
    have x6:ae T7 6=.ptr ub 0:=(hs7'.at_ 6 (by decide)).trans (zV (az hl6 u6))
    have x8:ae T7 8=.bool ((G.take (i+1)).any fun x=>x.1 == 3):=by rw [hB,Bool.false_or]; exact (hs7'.at_ 8 (by decide)).trans (zV hl6)
    have x9:ae T7 9=.int .i64 (i:Int):=(hs7'.at_ 9 (by decide)).trans (zV (az hl6 v9))
    have d8:=hk8.get d7
    by_cases hj:j<l'.length
    ·have hjj:(j:Int)<(l'.length:Int):=by omega
     have mj:=List.getElem_mem hj
     obtain ⟨cs,⟨w',rfl,hr'⟩,-,-,hldc⟩:=(hs7.mono hk8.sub).at (List.getElem?_eq_getElem hj)
     have hldc:aZ H8 (some 2) (al s (j*2))=some (.agg [w',.bool l'[j].2]):=hldc
     have hldg8:=aH hk8.sub hldg
     have ixc:cW 2 s (.int .i64 (j:Int))=some (al s (j*2)):=SlV.idx hs7 .i64 j hj
     have ej:IntKind.i64.wrap ((j:Int)+1)=((j+1:Nat):Int):=by rw [wrap_i64] <;> omega
     refine zW (fW hl7 hv x1 hs7.lenV hjj hj) ?_
     refine aO ?_
     refine zD (nE hl7 hv x1 x6 x9 d8 ixc ixg hldc hldg8) ?_
     refine AnsH.eq (kI C (b:=l'[j].2) (k:=G[i].1) (a:=l'[j].1) (r:=G[i].2) (e:=65) (f:=64*(64+4)+1) zF (hr'.mono (Kp.sub (H:=H8) zK)) ((hr.mono hk8.sub).mono (Kp.sub (H:=H8) zK)) ((hrow _ mj).1.trans (hGb _ mi).1.symm) (by rw [(hrow _ mj).1]; omega) (fun z hz=>fz (hrow _ mj).2 z hz) (fun z hz=>fz (hGb _ mi).2 z hz) (by omega)) fun H9 hk9=>?_
     obtain ⟨k89,_,_⟩:=zT H8 zK hk9
     have k79:Kp H7 H9:=hk8.trans k89
     have le_k79:=k79.le
     have d9:=k89.get d8
     have hldc9:=aH k89.sub hldc
     have hldg9:=aH k89.sub hldg8
     have hke:Lin.keepsP (l'[j].1,l'[j].2) (G[i].1,G[i].2)=true:=hpk mi (.inl mj)
     rw [hke]
     refine zD (Eh hl7 hv x1 x6 x9 d8 ixc ixg hldc hldg8 d9 hldc9 hldg9 ej) ?_
     exact ⟨zK,r2-1,by omega,j+1,rfl,by omega⟩
    ·have hjj:¬ (j:Int)<(l'.length:Int):=by omega
     refine zW (fW hl7 hv x1 hs7.lenV hjj hj) ?_
     refine bf H7 [11] (fun r vs H'=>∃ j:Nat,vs=[.int .i64 (j:Int)]/\j+r=K.length) K.length (by simp only [List.length_set]; exact hl7) rfl zK ⟨0,by refine zW hl7 ?_; rfl,by omega⟩ ?_
     rintro r3 T8 H10 hl8 hs8 hk10 ⟨j,hv,hjr⟩
     have w10:=hk10.wf
     have le_hk10:=hk10.le
     have le10:=hk10.le
     simp only [List.map_cons,List.map_nil,List.cons.injEq,and_true] at hv
     have y6:ae T8 6=.ptr ub 0:=(hs8.at_ 6 (by decide)).trans (zV (az hl7 x6))
     have y8:ae T8 8=.bool ((G.take (i+1)).any fun x=>x.1 == 3):=(hs8.at_ 8 (by decide)).trans (zV (az hl7 x8))
     have y9:ae T8 9=.int .i64 (i:Int):=(hs8.at_ 9 (by decide)).trans (zV (az hl7 x9))
     have d10:=hk10.get d7
     by_cases hj:j<K.length
     ·have hjj:(j:Int)<(K.length:Int):=by omega
      have mj:=List.getElem_mem hj
      obtain ⟨cs,⟨w',rfl,hr'⟩,-,-,hldc⟩:=(hc7.mono hk10.sub).at (List.getElem?_eq_getElem hj)
      have hldc:aZ H10 (some 2) (al vc (j*2))=some (.agg [w',.bool K[j].2]):=hldc
      have hldg8:=aH hk10.sub hldg
      have ixc:cW 2 vc (.int .i64 (j:Int))=some (al vc (j*2)):=SlV.idx hc7 .i64 j hj
      have ej:IntKind.i64.wrap ((j:Int)+1)=((j+1:Nat):Int):=by rw [wrap_i64] <;> omega
      refine zW (jm hl8 hv y6 d10 hc7.lenV hjj hj) ?_
      refine aO ?_
      refine zD (kU hl8 hv y6 y9 d10 ixc ixg hldc hldg8) ?_
      refine AnsH.eq (kI C (b:=K[j].2) (k:=G[i].1) (a:=K[j].1) (r:=G[i].2) (e:=64*(64*(64+4)+4)+1) (f:=64*(64+4)+1) zF (hr'.mono (Kp.sub (H:=H10) zK)) ((hr.mono hk10.sub).mono (Kp.sub (H:=H10) zK)) ((hCb _ mj).1.trans (hGb _ mi).1.symm) (by rw [(hCb _ mj).1]; omega) (fun z hz=>fz (hCb _ mj).2 z hz) (fun z hz=>fz (hGb _ mi).2 z hz) (by omega)) fun H9 hk9=>?_
      obtain ⟨k89,_,_⟩:=zT H10 zK hk9
      have k79:Kp H7 H9:=hk10.trans k89
      have le_k79:=k79.le
      have d9:=k89.get d10
      have hldc9:=aH k89.sub hldc
      have hldg9:=aH k89.sub hldg8
      have hke:Lin.keepsP (K[j].1,K[j].2) (G[i].1,G[i].2)=true:=hpk mi (.inr mj)
      rw [hke]
      refine zD (Ei hl8 hv y6 y9 d10 ixc ixg hldc hldg8 d9 hldc9 hldg9 ej) ?_
      exact ⟨zK,r3-1,by omega,j+1,rfl,by omega⟩
     ·have hjj:¬ (j:Int)<(K.length:Int):=by omega
      refine zW (nE hl8 hv y6 y8 y9 d10 hc7.lenV hjj hj ei) ?_
      have k610:Kp H6 H10:=hk7.trans hk10
      have le_k610:=k610.le
      exact ⟨zK,r-1,by omega,i+1,rfl,by omega⟩
  ·have hii:¬ (i:Int)<(G.length:Int):=by omega
   have e:G.take i=G:=List.take_of_length_le (by omega)
   rw [e,hpp hne] at v8
   refine zW (kU hl6 v8 v9 u6 d7 hg7.lenV hii hi @aQ) ?_
   exact zK
 rintro T6 H7 hs6 ⟨k67,v8⟩
 have hl6:T6.length=108:=hs6.len.trans (by simp only [List.length_set]; exact hl5)
 refine br ?_
 refine zW (aC hl6 v8 @aK) ?_
 refine WC.wb ?_
 refine zW (az hl6 hrs) ?_
 exact (k6.trans k67).up _
end
section
open Lin
end
section
variable {tab:Nat->Option aq} {H:Heap} {s:AV}
end
open Go
theorem Hy {P:Program}:CY P dK:=trivial
theorem JI {P:Program} {w:World} (hG:GlobW w):HR P (fun _=>none) (fun c=>c<w.heap.size) (Heap.nil 0) w:=by
 have h:=GR (P:=P) hG
 refine ⟨h.dom,fun c hc=>hc,fun b e hb=>?_,h.inj,fun g cs hg=>(h.gl g cs hg).mono (fun _ _ h=>h) (fun c hc=>h.fb c hc) fun _ _=>rfl⟩
 rw [Tr.nil_get] at hb; cases hb
theorem open_calls {P:Program} (hmix:P.follows .mixedOrders=true) {tab:Nat->Option aq} (ht:Eb P tab) {f:Nat} {afn:aq} (haf:tab f=some afn) (hext:afn.ext=none) {args:List AV} {vs:List Value} {w:World} (hG:GlobW w)
  (hl:LR (fun _=>none) (fun c=>c<w.heap.size) w args vs) (h:Ans tab (.fn f args) (Heap.nil 0) fun v _=>v=.bool true) :
  Calls P f vs.toArray w fun e w'=>e=.returned (.bool true)/\w'.os=w.os/\w'.output=w.output/\w.heap.size<=w'.heap.size/\∀ c,c<w.heap.size->w'.heap[c]? = w.heap[c]?:=by
 obtain ⟨v,H',⟨N,hN⟩,rfl⟩:=h
 have h1:=hN (N+1) (N+1) (by omega) (by omega)
 simp only [jC,iv,haf,hext] at h1
 obtain ⟨-,ht2⟩:=ht f afn haf
 obtain ⟨fn,hfn,hc⟩:=ht2 fun e h=>by rw [hext] at h; cases h
 obtain ⟨c1,c2,c3,c4,-⟩:=zx hc hext
 have hH:=JI (P:=P) hG
 have hin:=nO (uW Hy hmix ht N) hmix hfn c1 c2 c3 c4 h1 hl hH 0 (fence:=Fence.wide) (rd:=false) (.inl ⟨rfl,rfl⟩)
 refine (hin.calls fun k=>room_wide k).mono fun e w' ⟨u,he,μ',hv,_,hS⟩=>?_
 cases hv
 refine ⟨he,hS.os,hS.out,hS.size,fun c hc=>hS.keep c hc fun b L ⟨e,h,_⟩=>?_⟩
 rw [Tr.nil_get] at h; cases h
theorem HN {w w':World} (h1:w'.os=w.os) (h2:w'.output=w.output) (h:∀ c,c<w.heap.size->w'.heap[c]? = w.heap[c]?) (may:MemPlace->Prop):w.keptBut w' may:=by
 refine ⟨h1,h2,fun i hi=>?_⟩
 rw [h i hi]
 split
 ·rename_i e1 e2
  cases e1.symm.trans e2
  exact ⟨rfl,rfl,rfl,fun _ _=>rfl⟩
 ·rename_i e1 e2
  cases e1.symm.trans e2
  exact .inr ⟨rfl,rfl⟩
 ·rfl
section
open Go.ChangeShapes Go.WideShapes Go.ChangeAt Go.RowKit
variable {HT:Type} {enc:TypeId × Value->HT} {P:Program}
theorem stays {t:TypeId} (hl:laidOutB P=true) (hr:P.readableRec t=true) (hrow:t<P.types.size) {W W':World} {sp:Nat->Bool} {v:Value} {d:DataW HT} {ps:List MemPlace}
  (h:DataW.Trod enc P W 0 (fun _=>true) true t v d ps) (hk:∀ c,c<W.heap.size->W'.heap[c]? = W.heap[c]?) (hlt:∀ x∈ps,x.block<W.heap.size) (hs:∀ p∈ps,sp p.block=true):DataW.Trod enc P W' 0 sp true t v d ps :=
 WideElems.Trod_stays hl hr hrow h (fun p hp=>by
  have hb:=hk p.block (hlt p hp)
  cases p with
  | cell b o=>exact World.cell?_of_block (w:=W) hb
  | map b=>exact hb) hs
theorem post_kept {f:Func} {s:ChangeSpec} {apart fresh handsOn again:Bool} {W W':World} {args:Array Value} {v:Value} {ds gs:List (DataW HT)} {before:List MemPlace}
  (hW:DataW.Whole enc P f.params.toList s.vars apart W args.toList ds gs before)
  (hres:∀ (b:Nat) (sp:Nat->Bool) (hd:Bool),DataW.TrodAll enc P W' b sp hd f.resultTypes.toList (v.resultList f.resultTypes.size) (s.fn HT (ds++gs)).results [])
  (hargs:∀ sp:Nat->Bool,(∀ p∈before,sp p.block=true)->DataW.TrodAll enc P W' 0 sp true f.params.toList args.toList (s.fn HT (ds++gs)).args before)
  (hvars:∀ sp:Nat->Bool,DataW.TrodVars enc P W' sp s.vars (s.fn HT (ds++gs)).vars [])
  (h1:W'.os=W.os) (h2:W'.output=W.output) (hk:∀ c,c<W.heap.size->W'.heap[c]? = W.heap[c]?)
  (hok:∀ (j:Nat) (t:TypeId) (r:Value),f.resultTypes[j]? = some t->(v.resultList f.resultTypes.size)[j]? = some r->Value.okWide P W' .any 0 t r) :
  s.post enc P f apart fresh handsOn again W args v W':=by
 have hold:∀ p∈before,(fun b=>decide (b<W.heap.size)) p.block=true:=fun p hp=>by simpa using hW.lt p hp
 have hlt:∀ p∈before,p.block<W.heap.size:=fun p hp=>hW.lt p hp
 refine ⟨ds,gs,before,[],before,[],hW,hres _ _ _,hargs _ hold,hvars _,HN h1 h2 hk _,fun _=>?_⟩
 obtain ⟨_,_,_,_,e,hz,hn⟩:=hW
 refine ⟨hok,_,_,([]++before)++[],⟨[]++before,[],trodAll_append (hargs _ (fun _ _=>rfl)) (hres _ _ _),hvars _,rfl,?_,?_⟩,?_⟩
 ·intro b off hp
  have hp':MemPlace.cell b off∈before:=by simpa using hp
  have hb:=hlt _ hp'
  rw [World.frozen?_of_block (w:=W) (hk b hb)]
  exact hz b off hp'
 ·intro ha
  have:=hn ha
  simpa using this
 ·intro p hp _
  simpa using hp
end
end Go.Proofs.YtboamamhcfhanaaGreat.Ev
namespace Go.Proofs.YtboamamhcfhanaaGreat.Ins147
open Go Go.RowKit Go.Lib Go.Proofs
set_option linter.all false
variable {P:Program}
theorem tS:Tryz.prog.underlying 88=some (.slice 32):=by kernel_rfl
theorem iE:(Tryz.prog.info? 32).map (fun i=>(i.zero,i.size,i.bytes))=some (some (Value.slice none 0 0),1,24):=by kernel_rfl
theorem zE:∀ w,(Go.sizeOf 32).run Tryz.prog w=.ok 1 w:=fun w=>by
 obtain ⟨i0,hi,h0,h1,h2⟩:=info_parts iE
 simp [Go.sizeOf,typeInfo,hi,h1]
theorem tI:Tryz.prog.underlying 3=some (.int .i64):=by kernel_rfl
theorem yX:Tryz.prog.follows .mixedOrders=true:=by kernel_rfl
theorem yw (w:World) {o:Oper} {a:Act} {K:Act->World->Prop} {Q:Exit->Act->World->Prop} (d s:Operand) (t t':TypeId)
  (ho:o.op=.call { callee:=.builtin .copy,args:=#[d,s],argTypes:=#[t,t'] }) (v u:Value) (hd:a.eval d=v) (hs:a.eval s=u) {v':Value} {w':World}
  (hr:(Builtin.copy_ #[t,t'] o.type #[v,u]).run P w=.ok v' w') (h:K (a.put o.dst v') w'):o.wp P a w K Q:=by
 unfold Oper.wp execOp
 simp only [ho,resolve,invoke,builtin,Sem.run_bind,Sem.run_pure,Result.andThen_ok,List.map_toArray,List.map_cons,List.map_nil,hd,hs,hr]
 exact h
theorem iI (w:World) {ops:Array Oper} {rest:List Oper} {o:Oper} {a:Act} {Q:Exit->Act->World->Prop} (hgd:o.guard=none) (d s:Operand) (t t':TypeId)
  (ho:o.op=.call { callee:=.builtin .copy,args:=#[d,s],argTypes:=#[t,t'] }) (v u:Value) (hd:a.eval d=v) (hs:a.eval s=u) {v':Value} {w':World}
  (hr:(Builtin.copy_ #[t,t'] o.type #[v,u]).run P w=.ok v' w') (h:wpList P ops Q rest (a.put o.dst v') w'):wpList P ops Q (o :: rest) a w :=
 wpList_plain hgd fun _ hK=>yw w d s t t' ho v u hd hs hr (hK _ _ h)
theorem nK {ops:Array Oper} {o:Oper} {a:Act} {w:World} {K:Act->World->Prop} {Q:Exit->Act->World->Prop} {E:Prop}
  (hg:o.guard=none) (d x:Operand) (dT sT:TypeId) (hop:o.op=Op.call { callee:=Callee.builtin Builtin.copy,args:=#[d,x],argTypes:=#[dT,sT] })
  (v u:Value) (hd:a.eval d=v) (hx:a.eval x=u) {v':Value} {w':World} (hr:(Builtin.copy_ #[dT,sT] o.type #[v,u]).run P w=.ok v' w') (hK:K (a.put o.dst v') w') :
  if Region.wanted o (yielded ops a.tmps)=true then Oper.wp P o a w K Q else E:=by
 have hw:Region.wanted o (yielded ops a.tmps)=true:=by simp [Region.wanted,hg]
 rw [if_pos hw]
 unfold Oper.wp
 simp [execOp,hop,resolve,invoke,builtin,hd,hx,hr,Result.andThen]
 exact hK
theorem nw (b:Nat) (vs:List Value) (o:Nat) (w:World) (h:∀ j,j<vs.length->(w.cell? ⟨b,o+j,none⟩).isSome=true) (k:Nat) (hk:(w.cell? ⟨b,k,none⟩).isSome=true):((w.setCells b o vs).cell? ⟨b,k,none⟩).isSome=true:=by
 by_cases hin:o<=k/\k<o+vs.length
 ·have:=World.cell?_setCells_in b vs o w h (k-o) (by omega)
  rw [show o+(k-o)=k by omega] at this
  rw [this]; rfl
 ·rw [World.cell?_setCells_out b vs o w ⟨b,k,none⟩ (fun _ _=>by show k<o\/o+vs.length<=k; omega)]
  exact hk
set_option maxHeartbeats 4000000 in
set_option maxRecDepth 100000 in
theorem shift (b off n c i vb voff m vc:Nat) (cs vs:List Value) (w:World) (hi:i<n) (hm:0<m) (hroom:n+m<=c) (hc63:n+m<=9223372036854775807) (hvb:vb≠b)
  (hcl:cs.length=n) (hvl:vs.length=m)
  (hcs:∀ j v,cs[j]? = some v->w.cell? ⟨b,off+j,none⟩=some v) (hsp:∀ j,j<n+m->(w.cell? ⟨b,off+j,none⟩).isSome=true) (hfz:∀ j,j<n+m->w.frozen? ⟨b,off+j,none⟩=false)
  (hvs:∀ j v,vs[j]? = some v->w.cell? ⟨vb,voff+j,none⟩=some v) (h1c:∀ v∈cs,v.oneCell'=true) (h1v:∀ v∈vs,v.oneCell'=true)
  (tA tB:TypeId) (kA kB:Nat) (hsa:w.shape? vb=some (tA,kA)) (hsb:w.shape? b=some (tB,kB)) (hkB:kB≠0) (hfa:w.frozen? ⟨vb,voff,none⟩=false) (hfe:w.frozen? ⟨vb,kA,none⟩=false) :
  Calls Tryz.prog 147 #[.slice (some ⟨b,off,none⟩) n c,.int .i64 i,.slice (some ⟨vb,voff,none⟩) m vc] w fun e w' =>
   e=.returned (.slice (some ⟨b,off,none⟩) (n+m) c)/\w'=(w.drew.setCells b (off+(i+m)) (cs.drop i)).setCells b (off+i) vs:=by
 have hz1:¬ ((m:Int)=0):=by omega
 have hz2:¬ ((i:Int)=(n:Int)):=by omega
 have hsz:(Tryz.prog.info? 32).map (·.size)=some 1:=by
  obtain ⟨i0,hi0,h0,h1,h2⟩:=info_parts iE
  rw [hi0]; simp [h1]
 have hov:∀ lb cb,(callFunc 160 #[.slice (some ⟨vb,voff,none⟩) m vc,.slice (some ⟨b,off+(i+m),none⟩) lb cb]).run Tryz.prog w=.ok (.value (.bool false)) w:=fun lb cb=>by
  rw [run_callFunc_extern Tryz.func160 (by kernel_rfl) (by kernel_rfl) (by kernel_rfl) (e:=Extern.SlicesOverlaps.overlaps #[88,88] #[4]) (by kernel_rfl),
   Lib.run_overlaps_apart w 88 4 32 tS 1 zE ⟨vb,voff,none⟩ ⟨b,off+(i+m),none⟩ m vc lb cb hvb tA tB kA kB hsa hsb hkB hfa hfe]
  rfl
 have hdl:(cs.drop i).length=n-i:=by rw [List.length_drop,hcl]
 have hw1:IntKind.i64.wrap ((i:Int)+(m:Int))=(i:Int)+(m:Int):=by rw [IntKind.wrap_i64]; omega
 have hb1:(0:Int)<=(i:Int)+(m:Int):=by omega
 have hin:i<=n:=by omega
 have htn:((i:Int)+(m:Int)).toNat=i+m:=by omega
 have hb2:¬ (c=i+m):=by omega
 have hb3:(i:Int)<=(n:Int)+(m:Int):=by omega
 have hb4:¬ (c=i):=by omega
 have hcp1:∀ ty dc sc,(Builtin.copy_ #[88,88] ty #[.slice (some ⟨b,off+(i+m),none⟩) (n+m-(i+m)) dc,.slice (some ⟨b,off+i,none⟩) (n+m-i) sc]).run Tryz.prog w.drew=.ok (goInt (cs.drop i).length) (w.drew.setCells b (off+(i+m)) (cs.drop i)):=fun ty dc sc =>
  run_copy_cells w.drew _ _ ty 32 b (off+(i+m)) (n+m-(i+m)) dc ⟨b,off+i,none⟩ (n+m-i) sc (cs.drop i) tS hsz (by rw [hdl]; simp only [Nat.min_def]; split <;> omega)
   (fun j v hj=>by rw [Addr.add_lit,Nat.add_assoc]; exact hcs (i+j) v (by rwa [List.getElem?_drop] at hj))
   (fun j hj=>by rw [Nat.add_assoc]; exact hsp _ (by omega)) (fun j hj=>by rw [Nat.add_assoc]; exact hfz _ (by omega)) (fun v hv=>h1c v (List.mem_of_mem_drop hv))
 obtain ⟨W1,hW1⟩:∃ W1,W1=w.drew.setCells b (off+(i+m)) (cs.drop i):=⟨_,rfl⟩
 have hsp1:∀ k,k<n+m->(W1.cell? ⟨b,off+k,none⟩).isSome=true:=fun k hk=>by
  rw [hW1]
  exact nw b _ _ _ (fun j hj=>by rw [Nat.add_assoc]; exact hsp _ (by omega)) _ (hsp k hk)
 have hcp2:∀ (W:World),(∀ x,W.cell? x=W1.cell? x)->(∀ x,W.frozen? x=W1.frozen? x)->∀ ty dc,(Builtin.copy_ #[88,88] ty #[.slice (some ⟨b,off+i,none⟩) (n+m-i) dc,.slice (some ⟨vb,voff,none⟩) m vc]).run Tryz.prog W=.ok (goInt vs.length) (W.setCells b (off+i) vs):=fun W hWc hWf ty dc =>
  run_copy_cells W _ _ ty 32 b (off+i) (n+m-i) dc ⟨vb,voff,none⟩ m vc vs tS hsz (by rw [hvl]; simp only [Nat.min_def]; split <;> omega)
   (fun j v hj=>by
    rw [Addr.add_lit,hWc,hW1,World.cell?_setCells_out b _ _ _ _ (fun h _=>absurd h hvb)]
    exact hvs j v hj)
   (fun j hj=>by rw [hWc,Nat.add_assoc]; exact hsp1 _ (by omega)) (fun j hj=>by rw [hWf,hW1,World.frozen?_setCells,Nat.add_assoc]; exact hfz _ (by omega)) h1v
 rw [<- hW1] at hcp1
 have mixed:=yX
 go_enter Tryz.func147,Tryz.ntmps147
 go_wp2_with (simp only [hov])
 go_region_law_o (refine nK rfl _ _ 88 88 rfl _ _ (by simp [Act.eval,Act.put]) (by simp [Act.eval,Act.put]) (hcp1 _ _ _) ?_)
 go_wp2_with (at_builtin; refine iI _ rfl _ _ 88 88 rfl _ _ rfl rfl (hcp2 _ (fun _=>rfl) (fun _=>rfl) _ _) ?_)
 go_ret
 first | exact ⟨rfl,rfl⟩ | exact ⟨rfl,by rw [hW1]⟩
set_option maxHeartbeats 4000000 in
set_option maxRecDepth 100000 in
theorem end_room (b off n c vb voff m vc:Nat) (vs:List Value) (w:World) (hm:0<m) (hroom:n+m<=c) (hc63:n+m<=9223372036854775807)
  (hvl:vs.length=m) (hsp:∀ j,j<m->(w.cell? ⟨b,off+n+j,none⟩).isSome=true) (hfz:∀ j,j<m->w.frozen? ⟨b,off+n+j,none⟩=false)
  (hvs:∀ j v,vs[j]? = some v->w.cell? ⟨vb,voff+j,none⟩=some v) (h1v:∀ v∈vs,v.oneCell'=true) :
  Calls Tryz.prog 147 #[.slice (some ⟨b,off,none⟩) n c,.int .i64 n,.slice (some ⟨vb,voff,none⟩) m vc] w fun e w' =>
   e=.returned (.slice (some ⟨b,off,none⟩) (n+m) c)/\w'=w.setCells b (off+n) vs:=by
 have hz1:¬ ((m:Int)=0):=by omega
 have hsrc:Src Tryz.prog 1 88 (.slice (some ⟨vb,voff,none⟩) m vc) m vs w:=Src.ofSlice w tS ⟨vb,voff,none⟩ m vc vs (by omega) (fun j u hj=>by rw [Addr.add_lit]; exact hvs j u hj) h1v
 have mixed:=yX
 go_enter Tryz.func147,Tryz.ntmps147
 go_wp2_with (at_builtin; refine wpList_append_room1 _ rfl _ _ 88 88 rfl 32 _ _ tS iE b off n c rfl _ rfl m vs hsrc hroom (by rw [hvl]; exact hsp) (by rw [hvl]; exact hfz) ?_)
 go_ret
 exact ⟨rfl,rfl⟩
set_option maxHeartbeats 4000000 in
set_option maxRecDepth 100000 in
theorem end_grow (base:Option Addr) (n c vb voff m vc:Nat) (cs vs:List Value) (w:World) (hm:0<m) (hnc:n<=c) (hroom:c<n+m) (hbig:(n+m)*24<=140737488355328)
  (hcl:cs.length=n) (hvl:vs.length=m) (hnil:base=none->n=0)
  (hcs:∀ a,base=some a->∀ j v,cs[j]? = some v->w.cell? (a.add j)=some v)
  (hvs:∀ j v,vs[j]? = some v->w.cell? ⟨vb,voff+j,none⟩=some v) (h1v:∀ v∈vs,v.oneCell'=true) :
  Calls Tryz.prog 147 #[.slice base n c,.int .i64 n,.slice (some ⟨vb,voff,none⟩) m vc] w fun e w' =>
   e=.returned (.slice (some ⟨w.heap.size,0,none⟩) (n+m) (grownCap w (n+m) c 32)) /\
   w'=w.drew.alloc (.cells ((cs++vs).toArray++Builtin.zeroCells (Value.slice none 0 0).cells (grownCap w (n+m) c 32-(n+m))) 32):=by
 obtain ⟨i0,hi0,hz0,hzs,hzb⟩:=info_parts iE
 have hz1:¬ ((m:Int)=0):=by omega
 have hsrc:Src Tryz.prog i0.size 88 (.slice (some ⟨vb,voff,none⟩) m vc) m vs w:=by
  rw [hzs]
  exact Src.ofSlice w tS ⟨vb,voff,none⟩ m vc vs (by omega) (fun j u hj=>by rw [Addr.add_lit]; exact hvs j u hj) h1v
 have hold:(Builtin.firstCells i0.size n (.slice base n c)).run Tryz.prog w.drew=.ok cs.toArray w.drew:=by
  rw [hzs]
  cases base with
  | none =>
   have h0:=hnil rfl
   subst h0
   rw [List.length_eq_zero_iff.1 hcl]
   exact run_firstCells_none w.drew 1 0 0 c
  | some a=>exact run_firstCells_some w.drew 1 n a n c cs (by omega) (fun j v hj=>hcs a rfl j v hj)
 have hrun:∀ ty,(Builtin.append_ #[88,88] ty #[.slice base n c,.slice (some ⟨vb,voff,none⟩) m vc]).run Tryz.prog w=_:=fun ty =>
  run_append_grow_src w 88 88 ty 32 i0 _ tS hi0 hz0 base n c cs hold _ m vs hsrc hroom (by omega) (by rw [hzb]; exact growslice_fits hroom hbig)
 have mixed:=yX
 go_enter Tryz.func147,Tryz.ntmps147
 cases base with
 | none =>
  have h0:=hnil rfl
  subst h0
  go_wp2_with (at_builtin; refine Lib.wpList_append_run _ rfl _ _ _ _ rfl _ _ rfl rfl _ _ (hrun _) ?_)
  go_ret
  exact ⟨rfl,rfl⟩
 | some a =>
  obtain ⟨ab,ao,asp⟩:=a
  go_wp2_with (at_builtin; refine Lib.wpList_append_run _ rfl _ _ _ _ rfl _ _ rfl rfl _ _ (hrun _) ?_)
  all_goals (go_ret; exact ⟨rfl,rfl⟩)
set_option maxHeartbeats 4000000 in
set_option maxRecDepth 100000 in
theorem grow (b off n c i vb voff m vc:Nat) (cs vs:List Value) (w:World) (hi:i<n) (hm:0<m) (hnc:n<=c) (hroom:c<n+m) (hbig:(n+m)*24<=140737488355328)
  (hcl:cs.length=n) (hvl:vs.length=m)
  (hcs:∀ j v,cs[j]? = some v->w.cell? ⟨b,off+j,none⟩=some v)
  (hvs:∀ j v,vs[j]? = some v->w.cell? ⟨vb,voff+j,none⟩=some v) (h1c:∀ v∈cs,v.oneCell'=true) (h1v:∀ v∈vs,v.oneCell'=true) :
  Calls Tryz.prog 147 #[.slice (some ⟨b,off,none⟩) n c,.int .i64 i,.slice (some ⟨vb,voff,none⟩) m vc] w fun e w' =>
   e=.returned (.slice (some ⟨w.heap.size,0,none⟩) (n+m) (grownCap w (n+m) c 32)) /\
   w'=(((w.alloc (.cells ((cs.take i).toArray++Builtin.zeroCells (Value.slice none 0 0).cells (n+m-i)++Builtin.zeroCells (Value.slice none 0 0).cells (grownCap w (n+m) c 32-(n+m))) 32)).drew.setCells w.heap.size i vs).drew).setCells w.heap.size (i+m) (cs.drop i):=by
 obtain ⟨i0,hi0,hz0,hzs,hzb⟩:=info_parts iE
 have hz1:¬ ((m:Int)=0):=by omega
 have hz2:¬ ((i:Int)=(n:Int)):=by omega
 have hz3:(c:Int)<(n:Int)+(m:Int):=by omega
 have hsz:(Tryz.prog.info? 32).map (·.size)=some 1:=by rw [hi0]; simp [hzs]
 have hbw:b<w.heap.size:=block_lt_of_cell (hcs 0 _ (List.getElem?_eq_getElem (by omega)))
 have hvw:vb<w.heap.size:=block_lt_of_cell (hvs 0 _ (List.getElem?_eq_getElem (by omega)))
 have hkk:(n:Int)+(m:Int)-(i:Int)=((n+m-i:Nat):Int):=by omega
 have hik:i+(n+m-i)=n+m:=by omega
 have hold:(Builtin.firstCells i0.size i (.slice (some ⟨b,off,none⟩) i c)).run Tryz.prog w.drew=.ok (cs.take i).toArray w.drew:=by
  rw [hzs]
  exact run_firstCells_some w.drew 1 i ⟨b,off,none⟩ i c (cs.take i) (by rw [List.length_take]; omega) (fun j v hj=>by
   rw [Addr.add_lit]
   rw [List.getElem?_take] at hj
   split at hj
   ·exact hcs j v hj
   ·cases hj)
 have hrz:∀ ty,(Builtin.append_ #[88,3] ty #[.slice (some ⟨b,off,none⟩) i c,.int .i64 ((n:Int)+(m:Int)-(i:Int))]).run Tryz.prog w =
   .ok (.slice (some ⟨w.heap.size,0,none⟩) (n+m) (grownCap w (n+m) c 32)) (w.drew.alloc (.cells ((cs.take i).toArray++Builtin.zeroCells (Value.slice none 0 0).cells (n+m-i)++Builtin.zeroCells (Value.slice none 0 0).cells (grownCap w (n+m) c 32-(n+m))) 32)):=fun ty=>by
  have h:=Lib.run_append_grow_zeros w 88 3 ty 32 i0 _ .i64 .i64 tS tI hi0 hz0 (some ⟨b,off,none⟩) i c (cs.take i) hold (n+m-i) (by omega) (by omega) (by omega) (by omega) (by rw [hzb]; omega) (by rw [hzb,hik]; exact growslice_fits hroom hbig)
  rw [hik] at h
  rw [hkk]
  exact h
 obtain ⟨G,hG⟩:∃ G,G=grownCap w (n+m) c 32:=⟨_,rfl⟩
 obtain ⟨ROW,hROW⟩:∃ ROW:Array Value,ROW=(cs.take i).toArray++Builtin.zeroCells (Value.slice none 0 0).cells (n+m-i)++Builtin.zeroCells (Value.slice none 0 0).cells (G-(n+m)):=⟨_,rfl⟩
 rw [<- hG] at hrz ⊢
 rw [<- hROW] at hrz ⊢
 have hRl:n+m<=ROW.size:=by
  rw [hROW]
  simp [Builtin.zeroCells,Value.cells]
  omega
 obtain ⟨W1,hW1⟩:∃ W1,W1=w.drew.alloc (.cells ROW 32):=⟨_,rfl⟩
 rw [<- hW1] at hrz
 have hN:∀ j,j<n+m->(W1.cell? ⟨w.heap.size,j,none⟩).isSome=true:=fun j hj=>by
  rw [hW1,World.cell?_alloc_at (w:=w.drew) ROW _ w.heap.size j rfl,Array.getElem?_eq_getElem (by omega)]; rfl
 have hNf:∀ j,W1.frozen? ⟨w.heap.size,j,none⟩=false:=fun j=>by rw [hW1]; exact World.frozen?_alloc_at (w:=w.drew) ROW _ w.heap.size j rfl
 have hOb:∀ j v,w.cell? ⟨b,j,none⟩=some v->W1.cell? ⟨b,j,none⟩=some v:=fun j v h=>by rw [hW1,World.cell?_alloc_past (w:=w.drew) _ b j hbw]; exact h
 have hOv:∀ j v,w.cell? ⟨vb,j,none⟩=some v->W1.cell? ⟨vb,j,none⟩=some v:=fun j v h=>by rw [hW1,World.cell?_alloc_past (w:=w.drew) _ vb j hvw]; exact h
 have hcpA:∀ (W:World),(∀ x,W.cell? x=W1.cell? x)->(∀ x,W.frozen? x=W1.frozen? x)->∀ ty dc,(Builtin.copy_ #[88,88] ty #[.slice (some ⟨w.heap.size,i,none⟩) (n+m-i) dc,.slice (some ⟨vb,voff,none⟩) m vc]).run Tryz.prog W=.ok (goInt vs.length) (W.setCells w.heap.size i vs):=fun W hWc hWf ty dc =>
  run_copy_cells W _ _ ty 32 w.heap.size i (n+m-i) dc ⟨vb,voff,none⟩ m vc vs tS hsz (by rw [hvl]; simp only [Nat.min_def]; split <;> omega)
   (fun j v hj=>by rw [Addr.add_lit,hWc]; exact hOv _ v (hvs j v hj))
   (fun j hj=>by rw [hWc]; exact hN _ (by omega)) (fun j hj=>by rw [hWf]; exact hNf _) h1v
 have hGn:n+m<=G:=by rw [hG]; exact grownCap_ge w _ _ _
 have hG63:G<=9223372036854775807:=by
  have:=grownCap_le_maxLen w (n+m) c 32 (by unfold maxLen; omega)
  rw [<- hG] at this
  unfold maxLen at this
  omega
 have hGi:¬ (G=i):=by omega
 have hGim:¬ (G=i+m):=by omega
 have hci:¬ (c=i):=by omega
 have hbN:b≠w.heap.size:=by omega
 have hdl:(cs.drop i).length=n-i:=by rw [List.length_drop,hcl]
 have hcpB:∀ (W:World),(∀ x,W.cell? x=(W1.setCells w.heap.size i vs).cell? x)->(∀ x,W.frozen? x=(W1.setCells w.heap.size i vs).frozen? x)->∀ ty dc sc,(Builtin.copy_ #[88,88] ty #[.slice (some ⟨w.heap.size,i+m,none⟩) (n+m-(i+m)) dc,.slice (some ⟨b,off+i,none⟩) (n-i) sc]).run Tryz.prog W=.ok (goInt (cs.drop i).length) (W.setCells w.heap.size (i+m) (cs.drop i)):=fun W hWc hWf ty dc sc =>
  run_copy_cells W _ _ ty 32 w.heap.size (i+m) (n+m-(i+m)) dc ⟨b,off+i,none⟩ (n-i) sc (cs.drop i) tS hsz (by rw [hdl]; simp only [Nat.min_def]; split <;> omega)
   (fun j v hj=>by
    rw [Addr.add_lit,hWc,World.cell?_setCells_out _ _ _ _ _ (fun h _=>absurd h hbN),Nat.add_assoc]
    exact hOb _ v (hcs (i+j) v (by rwa [List.getElem?_drop] at hj)))
   (fun j hj=>by rw [hWc]; exact nw _ _ _ _ (fun t ht=>hN _ (by omega)) _ (hN _ (by omega)))
   (fun j hj=>by rw [hWf,World.frozen?_setCells]; exact hNf _) (fun v hv=>h1c v (List.mem_of_mem_drop hv))
 subst hW1
 have hE1:∀ x,((w.alloc (.cells ROW 32)).drew).cell? x=(w.drew.alloc (.cells ROW 32)).cell? x:=fun x=>rfl
 have hE2:∀ x,((w.alloc (.cells ROW 32)).drew).frozen? x=(w.drew.alloc (.cells ROW 32)).frozen? x:=fun x=>rfl
 have hF1:∀ x,(((w.alloc (.cells ROW 32)).drew.setCells w.heap.size i vs).drew).cell? x=((w.drew.alloc (.cells ROW 32)).setCells w.heap.size i vs).cell? x:=fun x=>rfl
 have hF2:∀ x,(((w.alloc (.cells ROW 32)).drew.setCells w.heap.size i vs).drew).frozen? x=((w.drew.alloc (.cells ROW 32)).setCells w.heap.size i vs).frozen? x:=fun x=>rfl
 have hw1:IntKind.i64.wrap ((i:Int)+(m:Int))=(i:Int)+(m:Int):=by rw [IntKind.wrap_i64]; omega
 have hb1:(0:Int)<=(i:Int)+(m:Int):=by omega
 have hin:i<=n:=by omega
 have htn:((i:Int)+(m:Int)).toNat=i+m:=by omega
 have hb3:(i:Int)<=(n:Int):=by omega
 clear hkk hik hold hROW hG hRl
 have mixed:=yX
 go_enter Tryz.func147,Tryz.ntmps147
 go_wp2_with (first
  | (at_builtin; refine Lib.wpList_append_run _ rfl _ _ _ _ rfl _ _ rfl rfl _ _ (hrz _) ?_)
  | (at_builtin; refine iI _ rfl _ _ 88 88 rfl _ _ rfl rfl (hcpA _ hE1 hE2 _ _) ?_)
  | (at_builtin; refine iI _ rfl _ _ 88 88 rfl _ _ rfl rfl (hcpB _ (fun _=>rfl) (fun _=>rfl) _ _ _) ?_))
 go_region_law_o (refine nK rfl _ _ 88 88 rfl (.slice (some ⟨w.heap.size,i+m,none⟩) (n+m-(i+m)) (G-(i+m))) (.slice (some ⟨b,off+i,none⟩) (n-i) (c-i)) (by simp [Act.eval,Act.put]) (by simp [Act.eval,Act.put]) (hcpB _ hF1 hF2 3 (G-(i+m)) (c-i)) ?_)
 go_wp2
 go_ret
 exact ⟨rfl,rfl⟩
end Go.Proofs.YtboamamhcfhanaaGreat.Ins147
namespace Go.Proofs.YtboamamhcfhanaaGreat.Ev.Ok147
open Go Go.Proofs.YtboamamhcfhanaaGreat.Ev
set_option linter.all false
def pz (A:Array Value):Nat->List Value->Array Value
 | _,[]=>A
 | o,v :: r=>pz (A.setIfInBounds o v) (o+1) r
theorem gN:∀ (vs:List Value) (o:Nat) (A:Array Value),(pz A o vs).size=A.size
 | [],o,A=>rfl
 | v :: r,o,A=>by rw [pz,gN r]; simp
theorem l3:∀ (vs:List Value) (o:Nat) (A:Array Value) (j:Nat),j<A.size->(pz A o vs)[j]? = if o<=j/\j<o+vs.length then vs[j-o]? else A[j]?
 | [],o,A,j,hj=>by rw [pz,if_neg (by simp only [List.length_nil]; omega)]
 | v :: r,o,A,j,hj=>by
  rw [pz,l3 r (o+1) _ j (by simpa using hj)]
  by_cases h1:o+1<=j/\j<o+1+r.length
  ·rw [if_pos h1,if_pos (by simp; omega),show j-o=(j-(o+1))+1 by omega,List.getElem?_cons_succ]
  ·rw [if_neg h1]
   by_cases h2:j=o
   ·subst h2
    rw [if_pos (by simp),Nat.sub_self,List.getElem?_cons_zero,Array.getElem?_setIfInBounds_self_of_lt hj]
   ·rw [if_neg (by simp; omega),Array.getElem?_setIfInBounds_ne (by omega)]
theorem ky (b:Nat):∀ (vs:List Value) (o:Nat) (w:World) (arr:Array Value) (ty:TypeId) (fr:Nat × Nat),w.heap[b]? = some (.cells arr ty fr) ->
  (w.setCells b o vs).heap[b]? = some (.cells (pz arr o vs) ty fr)/\(∀ c,c≠b->(w.setCells b o vs).heap[c]? = w.heap[c]?)/\(w.setCells b o vs).heap.size=w.heap.size /\
   Tp w (w.setCells b o vs)/\(w.setCells b o vs).os=w.os/\(w.setCells b o vs).output=w.output
 | [],o,w,arr,ty,fr,h=>⟨h,fun _ _=>rfl,rfl,Tp.same rfl rfl,rfl,rfl⟩
 | v :: r,o,w,arr,ty,fr,h=>by
  have h1:(w.setCell ⟨b,o,none⟩ v).heap[b]? = some (.cells (arr.setIfInBounds o v) ty fr):=by
   simp [World.setCell,Array.getElem?_modify,h]
  obtain ⟨k1,k2,k3,k4,k5,k6⟩:=ky b r (o+1) (w.setCell ⟨b,o,none⟩ v) _ ty fr h1
  refine ⟨k1,fun c hc=>(k2 c hc).trans ?_,k3.trans ?_,(Tp.same rfl rfl).trans k4,k5,k6⟩
  ·simp [World.setCell,Array.getElem?_modify,Ne.symm hc]
  ·simp [World.setCell]
theorem ko (w:World) (ty:TypeId):∀ (vs:List Value) (o:Nat) (A:Array Value),(w.alloc (.cells A ty)).setCells w.heap.size o vs=w.alloc (.cells (pz A o vs) ty)
 | [],o,A=>rfl
 | v :: r,o,A=>by
  have h1:(w.alloc (.cells A ty)).setCell ⟨w.heap.size,o,none⟩ v=w.alloc (.cells (A.setIfInBounds o v) ty):=by
   simp only [World.setCell,World.alloc]
   congr 1
   apply Array.ext_getElem?
   intro j
   rw [Array.getElem?_modify]
   by_cases hj:w.heap.size=j
   ·subst hj; simp
   ·rw [if_neg hj,Array.getElem?_push,Array.getElem?_push,if_neg (Ne.symm hj),if_neg (Ne.symm hj)]
  rw [World.setCells,h1,ko w ty r (o+1) _]; rfl
section
variable {P:Program} {μ:Mu} {F:Nat->Prop} {H:Heap} {w:World}
theorem vU {μ':Mu} {H':Heap} {w':World} (h:Stp (fun x=>x=H.next) P μ F { H with next:=H.next+1 } w μ' F H' w'):Stp pu P μ F H w μ' F H' w' :=
 ⟨h.mu,h.fr,h.size,h.keep,h.rw,Nat.le_trans (Nat.le_add_right _ _) h.next,fun b hb _ hn=>h.new b (Nat.lt_of_lt_of_le hb (Nat.le_add_right _ _)) (by omega) hn,h.rng,
  fun b e hb hl _=>h.old b e hb (Nat.lt_of_lt_of_le hl (Nat.le_add_right _ _)) (by omega),h.alv,h.tape,h.os,h.out⟩
theorem Dz {ty:Nat} {cs:List AV} {V:List Value} {A:Array Value} {w1:World} {k cap':Nat} {H1:Heap} (hH:HR P μ F H1 w) (hnx:H1.next=H.next+1) (hid:μ H.next=none) (hs:sizeOf? P ty=some 1)
  (hl:LR μ F w cs V) (hk:V.length=k) (hA:∀ j,j<k->A[j]? = V[j]?) (hcap:k<=cap') (hsz:A.size=cap')
  (h1:w1.heap=w.heap) (ht:Tp w w1) (hos:w1.os=w.os) (hout:w1.output=w.output) :
  ∃ μ',VR μ' F (w1.alloc (.cells A ty)) (.own H.next 0 k k 1 false) (.slice (some ⟨w.heap.size,0,none⟩) k cap')/\HR P μ' F (H1.put H.next (.cells cs ty true)) (w1.alloc (.cells A ty)) /\
   Stp (fun x=>x=H.next) P μ F H1 w μ' F (H1.put H.next (.cells cs ty true)) (w1.alloc (.cells A ty)):=by
 have hcl:cs.length=k:=hl.1.trans hk
 obtain ⟨q1,q2⟩:=jN (I:=fun x=>x=H.next) hH hid (by omega) rfl (sz:=1) (arr:=A) (cs:=cs) hs (by omega)
  (fun i c v hc hv=>by
   have hi:i<k:=by rw [<- hcl]; exact (List.getElem?_eq_some_iff.1 hc).1
   rw [hA i hi] at hv
   exact hl.2 i c v hc hv) w1 h1 ht hos hout
 exact ⟨_,.own H.next 0 k k 1 false _ cap' (upd_same _ _) rfl (Nat.le_refl _) hcap (fun h=>by cases h) (by simp [hsz]),q1,q2⟩
theorem JY {b ty:Nat} {L:xe} {cs0 cs:List AV} {V:List Value} {A:Array Value} {w':World} {k cap:Nat} (hH:HR P μ F H w) (hb:H.get b=some (.cells cs0 ty true)) (hL:μ b=some L) (hLs:L.sz=1)
  (hl:LR μ F w cs V) (hk:V.length=k) (hA:∀ j,j<k->A[j]? = V[j]?) (hcap:k<=cap) (hsz:A.size=L.N) (hN:cap<=L.N)
  (hw:w'.heap[L.blk]? = some (.cells A ty (0,0))) (hoth:∀ c,c≠L.blk->w'.heap[c]? = w.heap[c]?) (hsize:w'.heap.size=w.heap.size) (ht:Tp w w') (hos:w'.os=w.os) (hout:w'.output=w.output) :
  ∃ μ',VR μ' F w' (.own H.next 0 k k 1 false) (.slice (some ⟨L.blk,0,none⟩) k cap)/\HR P μ' F (({ H with next:=H.next+1 }.kill b).put H.next (.cells cs ty true)) w' /\
   Stp pu P μ F H w μ' F (({ H with next:=H.next+1 }.kill b).put H.next (.cells cs ty true)) w':=by
 have hcl:cs.length=k:=hl.1.trans hk
 have hid:μ H.next=none:=iT hH (Nat.le_refl _)
 have hH1:=hH.bump 1
 have hb1:({ H with next:=H.next+1 }:Heap).get b=some (.cells cs0 ty true):=hb
 obtain ⟨arr,fr,g1,g2,g3,g4,g5,g6,g7⟩:=eJ hH hb hL
 obtain ⟨p1,p2⟩:=gK (I:=fun x=>x=H.next) (e:=.cells cs ty true) hH1 hb1 rfl hL w' hoth hsize ht hos hout
  (fun hF=>⟨A,(0,0),hw,hsz,g3,by omega,fun i c v hc hv=>by
   have hi:i<k:=by rw [<- hcl]; exact (List.getElem?_eq_some_iff.1 hc).1
   rw [hA i hi] at hv
   exact (hl.2 i c v hc hv).mono (fun _ _ h=>h) (fun _ h=>h) hF,fun _=>⟨(g6 rfl).1,rfl⟩,fun h=>by cases h⟩) rfl
 obtain ⟨q4,q5⟩:=qW (I:=fun x=>x=H.next) p1 (b:=b) (id:=H.next) (L:=L) (by rw [Heap.get_put,if_pos rfl]) hL hid (by show H.next<H.next+1; omega) rfl
 refine ⟨μ.upd H.next L,.own H.next 0 k k 1 false L cap (upd_same _ _) hLs (Nat.le_refl _) hcap (fun h=>by cases h) (by simp; omega),?_,?_⟩
 ·refine q4.congr rfl fun x=>?_
  simp only [Heap.get_put,Heap.get_kill]
  split
  ·rfl
  ·split
   ·rfl
   ·rename_i hx; rfl
 ·refine vU ((p2.trans q5).congr rfl fun x e he=>⟨e,?_,rfl⟩)
  simp only [Heap.get_put,Heap.get_kill] at he ⊢
  split at he
  ·rename_i hx; rw [if_pos hx]; exact he
  ·rename_i hx
   rw [if_neg hx]
   split at he
   ·cases he
   ·rename_i hx2; rw [if_neg hx2,if_neg hx2]; exact he
end
theorem rg {vs:List Value} {w:World} {F:Fence} {rd:Bool} {n:Nat} {R:Value->World->Prop} (hF:FenceOK F rd) (h:Calls Tryz.prog 147 vs.toArray w fun e w'=>∃ u,e=.returned u/\R u w'):Runs F n Tryz.prog ((callFunc 147 vs.toArray).run Tryz.prog w) R:=by
 rw [pk (P:=Tryz.prog) (f:=147) Tryz.func147 (by kernel_rfl) (of_decide_eq_true (by kernel_rfl))]
 unfold Runs
 simp only
 have key:CallsIn Fence.wide n Tryz.prog 147 vs.toArray w fun e w'=>∃ u,e=.returned u/\R u w':=callsIn_wide.2 h
 rcases hF with ⟨_,rfl⟩ | ⟨_,l,rfl⟩
 ·exact key
 ·exact key
theorem qY {w:World} {b:Nat} {arr:Array Value} {ty:TypeId} (h:w.heap[b]? = some (.cells arr ty (0,0))) (o:Nat):w.frozen? ⟨b,o,none⟩=false:=by
 simp [World.frozen?,h]
theorem JZ {H H':Heap} {size bytes ty:Nat} {args:List AV} {v:AV} (h:rk H (.insert size bytes ty) args=some (v,H')) :
  (∃ b2 off2 m c2 sz2 CD news,args=[.nilSl,.int .i64 (.ofNat 0),.own b2 off2 m c2 sz2 CD]/\aJ H size m (.own b2 off2 m c2 sz2 CD)=some news/\0<m/\m*bytes<=2^46/\m<2^62/\news.all AV.one=true /\
   v=.own H.next 0 m m size false/\H'=({ H with next:=H.next+1 }:Heap).put H.next (.cells news ty true)) \/
  (∃ b n c ex i b2 off2 m c2 sz2 CD news cs cs2 ty2,args=[.own b 0 n c size ex,.int .i64 (.ofNat i),.own b2 off2 m c2 sz2 CD]/\aJ H size m (.own b2 off2 m c2 sz2 CD)=some news/\H.get b=some (.cells cs ty true)/\H.get b2=some (.cells cs2 ty2 true) /\
   b≠b2/\0<m/\i<=n/\cs.length=n*size/\(n+m)*bytes<=2^46/\n+m<2^62/\news.all AV.one=true/\cs.all AV.one=true /\
   v=.own H.next 0 (n+m) (n+m) size false/\H'=(({ H with next:=H.next+1 }:Heap).kill b).put H.next (.cells (cs.take (i*size)++news++cs.drop (i*size)) ty true)):=by
 unfold rk at h
 split at h
 all_goals first | contradiction | skip
 ·rename_i heq
  cases heq
  split at h
  ·rename_i news hnews
   split at h
   ·rename_i hc
    obtain ⟨c1,c2',c3,c4,c5⟩:=hc
    cases h
    subst c1
    exact .inl ⟨_,_,_,_,_,_,news,rfl,hnews,c2',c3,c4,c5,rfl,rfl⟩
   ·cases h
  ·cases h
 ·rename_i heq
  cases heq
  split at h
  ·rename_i news cs ty' cs2 ty2 hnews hb hb2
   split at h
   ·rename_i hc
    obtain ⟨c1,c2',c3,c4,c5,c6,c7,c8,c9,c10,c11⟩:=hc
    cases h
    subst c1
    subst c2'
    subst c9
    exact .inr ⟨_,_,_,_,_,_,_,_,_,_,_,news,cs,cs2,ty2,rfl,hnews,hb,hb2,c3,c4,c5,c6,c7,c8,c10,c11,rfl,rfl⟩
   ·cases h
  ·cases h
 all_goals (cases h)
theorem AH {P:Program} {μ:Mu} {F:Nat->Prop} {H:Heap} {w:World} {b2 off2 m c2 sz2:Nat} {CD:Bool} {news:List AV} {z:Value} (hH:HR P μ F H w) (hz:VR μ F w (.own b2 off2 m c2 sz2 CD) z) (hnews:aJ H 1 m (.own b2 off2 m c2 sz2 CD)=some news) :
  ∃ L2 cap2 arr2 ty2 fr2 cs2 rw2,μ b2=some L2/\z=.slice (some ⟨L2.blk,off2,none⟩) m cap2/\H.get b2=some (.cells cs2 ty2 rw2)/\w.heap[L2.blk]? = some (.cells arr2 ty2 fr2)/\off2+m<=arr2.size/\(rw2=true->fr2=(0,0)) /\
   ((arr2.toList.drop off2).take m).length=m/\LR μ F w news ((arr2.toList.drop off2).take m)/\∀ j u,((arr2.toList.drop off2).take m)[j]? = some u->w.cell? ⟨L2.blk,off2+j,none⟩=some u:=by
 cases hz with
 | own _ _ _ _ _ _ L2 cap2 k1 k2 k3 k4 k5 k6 =>
 simp only [aJ] at hnews
 split at hnews
 ·rename_i cs2 ty2 rw2 hb2
  split at hnews
  ·rename_i hcc
   obtain ⟨e1,e2,e3⟩:=hcc
   cases hnews
   obtain ⟨arr2,fr2,g1,g2,g3,g4,g5,g6,g7⟩:=eJ hH hb2 k1
   have hvl:((arr2.toList.drop off2).take m).length=m:=by simp; omega
   refine ⟨L2,cap2,arr2,ty2,fr2,cs2,rw2,k1,rfl,hb2,g1,by omega,fun h=>(g6 h).2,hvl,⟨by simp; omega,fun i c u hi hu=>?_⟩,fun j u hj=>?_⟩
   ·rw [List.getElem?_take] at hi hu
    rw [Nat.mul_one] at hi
    split at hi
    ·rename_i him
     rw [if_pos him] at hu
     rw [List.getElem?_drop] at hi hu
     exact g5 _ c u hi (by simpa using hu)
    ·cases hi
   ·rw [nd g1]
    rw [List.getElem?_take] at hj
    split at hj
    ·rw [List.getElem?_drop] at hj; simpa using hj
    ·cases hj
  ·cases hnews
 ·cases hnews
theorem JH {μ:Mu} {F:Nat->Prop} {w:World} {b n c sz:Nat} {ex:Bool} {x:Value} (h:VR μ F w (.own b 0 n c sz ex) x):∃ L cap,μ b=some L/\L.sz=sz/\n<=c/\c<=cap/\cap*sz<=L.N/\x=.slice (some ⟨L.blk,0,none⟩) n cap:=by
 cases h with
 | own _ _ _ _ _ _ L cap k1 k2 k3 k4 k5 k6=>exact ⟨L,cap,k1,k2,k3,k4,by omega,rfl⟩
theorem uI {μ:Mu} {F:Nat->Prop} {w:World} {vs:List Value} {a b c:AV} (h:LR μ F w [a,b,c] vs):∃ x y z,vs=[x,y,z]/\VR μ F w a x/\VR μ F w b y/\VR μ F w c z:=by
 have hl:=h.1
 match vs,hl with
 | [x,y,z],_=>exact ⟨x,y,z,rfl,h.head,h.tail.head,h.tail.tail.head⟩
set_option maxRecDepth 100000 in
theorem extOK_insert:ExtOK Tryz.prog 147 (.insert 1 24 32):=by
 intro H args v H' h μ F w vs fence rd nn hF hH hl
 have hsE:sizeOf? Tryz.prog 32=some 1:=by
  obtain ⟨i0,hi,h0,h1,h2⟩:=info_parts Ins147.iE
  simp [sizeOf?,hi,h1]
 have hid:μ H.next=none:=iT hH (Nat.le_refl _)
 have hzs:∀ k,(Builtin.zeroCells (Value.slice none 0 0).cells k).size=k:=fun k=>by rw [uj]; simp [Value.cells]
 rcases JZ h with ⟨b2,off2,m,c2,sz2,CD,news,rfl,hnews,h1,h2,h3,h4,rfl,rfl⟩ | ⟨b,n,c,ex,i,b2,off2,m,c2,sz2,CD,news,cs,cs2,ty2,rfl,hnews,hb,hb2,h1,h2,h3,h4,h5,h6,h7,h8,rfl,rfl⟩
 ·obtain ⟨x,y,z,rfl,hx,hy,hz⟩:=uI hl
  cases hx
  cases hy
  obtain ⟨L2,cap2,arr2,ty2,fr2,cs2,rw2,k1,rfl,k3,g1,g2,-,hvl,hvr,hcell⟩:=AH hH hz hnews
  refine rg hF ((Ins147.end_grow none 0 0 L2.blk off2 m cap2 [] ((arr2.toList.drop off2).take m) w h1 (Nat.le_refl _) (by omega) (by omega) rfl hvl (fun _=>rfl) (fun a h=>by cases h) hcell (hvr.one h4)).mono fun e w' ⟨he,hw⟩=>?_)
  subst hw
  rw [Nat.zero_add] at he
  have hge:=Go.grownCap_ge w m 0 32
  simp only [Nat.zero_add,List.nil_append]
  obtain ⟨μ',q1,q2,q3⟩:=Dz (P:=Tryz.prog) (H:=H) (A:=((arr2.toList.drop off2).take m).toArray++Builtin.zeroCells (Value.slice none 0 0).cells (grownCap w m 0 32-m)) (w1:=w.drew) (k:=m) (cap':=grownCap w m 0 32) (hH.bump 1) rfl hid hsE hvr hvl
   (fun j hj=>by rw [Array.getElem?_append_left (by simp [hvl]; omega)]; simp) hge (by simp only [Array.size_append,List.size_toArray,hvl,hzs]; omega) rfl Tp.draw rfl rfl
  exact ⟨_,he,μ',q1,q2,vU q3⟩
 ·obtain ⟨x,y,z,rfl,hx,hy,hz⟩:=uI hl
  obtain ⟨L,cap,r1,r2,r3,r4,r5,rfl⟩:=JH hx
  cases hy
  obtain ⟨L2,cap2,arr2,ty2',fr2,cs2',rw2,k1,rfl,k3,g1,g2,gfr,hvl,hvr,hcell⟩:=AH hH hz hnews
  rw [hb2] at k3
  cases k3
  have hfr2:=gfr rfl
  subst hfr2
  obtain ⟨arr,fr,p1,p2,p3,p4,p5,p6,p7⟩:=eJ hH hb r1
  obtain ⟨-,rfl⟩:=p6 rfl
  rw [Nat.mul_one] at h4 r5
  have hne:L2.blk≠L.blk:=fun e=>h1 (hH.inj b b2 _ _ L L2 hb hb2 r1 k1 e.symm)
  have hvsl:(arr.toList.take n).length=n:=by simp; omega
  have hcs:LR μ F w cs (arr.toList.take n):=by
   refine ⟨by simp; omega,fun i c u hi hu=>?_⟩
   rw [List.getElem?_take] at hu
   split at hu
   ·exact p5 i c u hi (by simpa using hu)
   ·cases hu
  have hcell0:∀ j u,(arr.toList.take n)[j]? = some u->w.cell? ⟨L.blk,0+j,none⟩=some u:=fun j u hj=>by
   rw [nd p1,Nat.zero_add]
   rw [List.getElem?_take] at hj
   split at hj
   ·simpa using hj
   ·cases hj
  have hV:LR μ F w (cs.take (i*1)++news++cs.drop (i*1)) ((arr.toList.take n).take i++(arr2.toList.drop off2).take m++(arr.toList.take n).drop i):=by
   rw [Nat.mul_one]
   exact ((hcs.take i).append hvr).append (hcs.drop i)
  have hVl:((arr.toList.take n).take i++(arr2.toList.drop off2).take m++(arr.toList.take n).drop i).length=n+m:=by
   simp only [List.length_append,List.length_take,List.length_drop,hvl,hvsl]
   have:=hvsl
   rw [List.length_take] at this
   omega
  generalize hC:arr.toList.take n=C at *
  generalize hD:(arr2.toList.drop off2).take m=D at *
  have hCl:=hvsl
  have hDl:=hvl
  have harr:∀ j,j<n->arr[j]? = C[j]?:=fun j hj=>by rw [<- hC,List.getElem?_take,if_pos hj]; simp
  have hVat:∀ j,j<n+m->(C.take i++D++C.drop i)[j]? = if j<i then C[j]? else if j<i+m then D[j-i]? else C[j-m]?:=by
   intro j hj
   have e1:(C.take i).length=i:=by rw [List.length_take]; omega
   by_cases q1:j<i
   ·rw [if_pos q1,List.getElem?_append_left (by rw [List.length_append,e1]; omega),List.getElem?_append_left (by omega),List.getElem?_take,if_pos q1]
   ·rw [if_neg q1]
    by_cases q2:j<i+m
    ·rw [if_pos q2,List.getElem?_append_left (by rw [List.length_append,e1]; omega),List.getElem?_append_right (by omega),e1]
    ·rw [if_neg q2,List.getElem?_append_right (by rw [List.length_append,e1]; omega),List.length_append,e1,List.getElem?_drop]
     congr 1; omega
  have hsp:∀ j,j<cap->(w.cell? ⟨L.blk,0+j,none⟩).isSome=true:=fun j hj=>by
   rw [nd p1,Nat.zero_add,Array.getElem?_eq_getElem (by omega)]; rfl
  by_cases hroom:n+m<=cap
  ·
   have fin:∀ (A:Array Value) (w':World),A.size=L.N->(∀ j,j<n+m->A[j]? = (C.take i++D++C.drop i)[j]?)->w'.heap[L.blk]? = some (.cells A 32 (0,0))->(∀ c,c≠L.blk->w'.heap[c]? = w.heap[c]?)->w'.heap.size=w.heap.size->Tp w w'->w'.os=w.os->w'.output=w.output ->
     ∃ μ',gn pu Tryz.prog μ F H w (.own H.next 0 (n+m) (n+m) 1 false) (({ H with next:=H.next+1 }:Heap).kill b |>.put H.next (.cells (cs.take (i*1)++news++cs.drop (i*1)) 32 true)) (.slice (some ⟨L.blk,0,none⟩) (n+m) cap) w' μ':=by
    intro A w' a1 a2 a3 a4 a5 a6 a7 a8
    obtain ⟨μ',q1,q2,q3⟩:=JY (P:=Tryz.prog) (A:=A) (w':=w') (k:=n+m) (cap:=cap) hH hb r1 r2 hV hVl a2 hroom a1 r5 a3 a4 a5 a6 a7 a8
    exact ⟨μ',q1,q2,q3⟩
   by_cases hin:i=n
   ·subst hin
    refine rg hF ((Ins147.end_room L.blk 0 i cap L2.blk off2 m cap2 D w h2 hroom (by omega) hDl (fun j hj=>by rw [Nat.add_assoc]; exact hsp _ (by omega)) (fun j _=>qY p1 _) hcell (hvr.one h7)).mono fun e w' ⟨he,hw⟩=>?_)
    subst hw
    obtain ⟨s1,s2,s3,s4,s5,s6⟩:=ky L.blk D (0+i) w arr 32 (0,0) p1
    obtain ⟨μ',hd⟩:=fin _ _ ((gN _ _ _).trans p2) (fun j hj=>by
     rw [l3 _ _ _ _ (by omega),hVat j hj,hDl,Nat.zero_add]
     by_cases q1:j<i
     ·rw [if_neg (by omega),if_pos q1,harr j q1]
     ·rw [if_pos (by omega),if_neg q1,if_pos (by omega)]) s1 s2 s3 s4 s5 s6
    exact ⟨_,he,μ',hd⟩
   ·refine rg hF ((Ins147.shift L.blk 0 n cap i L2.blk off2 m cap2 C D w (by omega) h2 hroom (by omega) hne hCl hDl hcell0 (fun j hj=>hsp j (by omega)) (fun j _=>qY p1 _) hcell (hcs.one h8) (hvr.one h7)
     ty2 32 arr2.size arr.size (by simp [World.shape?,g1]) (by simp [World.shape?,p1]) (by omega) (qY g1 _) (qY g1 _)).mono fun e w' ⟨he,hw⟩=>?_)
    subst hw
    obtain ⟨s1,s2,s3,s4,s5,s6⟩:=ky L.blk (C.drop i) (0+(i+m)) w.drew arr 32 (0,0) p1
    obtain ⟨t1,t2,t3,t4,t5,t6⟩:=ky L.blk D (0+i) _ _ 32 (0,0) s1
    obtain ⟨μ',hd⟩:=fin _ _ (by rw [gN,gN]; exact p2) (fun j hj=>by
     rw [l3 _ _ _ _ (by rw [gN]; omega),l3 _ _ _ _ (by omega),hVat j hj,hDl,Nat.zero_add,Nat.zero_add,List.length_drop,hCl]
     by_cases q1:j<i
     ·rw [if_neg (by omega),if_neg (by omega),if_pos q1,harr j (by omega)]
     ·by_cases q2:j<i+m
      ·rw [if_pos (by omega),if_neg q1,if_pos q2]
      ·rw [if_neg (by omega),if_pos (by omega),if_neg q1,if_neg q2,List.getElem?_drop]
       congr 1; omega) t1 (fun c hc=>(t2 c hc).trans (s2 c hc)) (t3.trans s3) ((Tp.draw.trans s4).trans t4) (t5.trans s5) (t6.trans s6)
    exact ⟨_,he,μ',hd⟩
  ·
   have hge:=Go.grownCap_ge w (n+m) cap 32
   obtain ⟨z1,z2⟩:=qA (I:=fun x=>x=H.next) (hH.bump 1) b
   have fin:∀ (A:Array Value) (w1:World),A.size=grownCap w (n+m) cap 32->(∀ j,j<n+m->A[j]? = (C.take i++D++C.drop i)[j]?)->w1.heap=w.heap->Tp w w1->w1.os=w.os->w1.output=w.output ->
     ∃ μ',gn pu Tryz.prog μ F H w (.own H.next 0 (n+m) (n+m) 1 false) (({ H with next:=H.next+1 }:Heap).kill b |>.put H.next (.cells (cs.take (i*1)++news++cs.drop (i*1)) 32 true)) (.slice (some ⟨w.heap.size,0,none⟩) (n+m) (grownCap w (n+m) cap 32)) (w1.alloc (.cells A 32)) μ':=by
    intro A w1 a1 a2 a3 a4 a5 a6
    obtain ⟨μ',q1,q2,q3⟩:=Dz (P:=Tryz.prog) (H:=H) (A:=A) (w1:=w1) (k:=n+m) (cap':=grownCap w (n+m) cap 32) z1 rfl hid hsE hV hVl a2 hge a1 a3 a4 a5 a6
    exact ⟨μ',q1,q2,vU (z2.trans q3)⟩
   by_cases hin:i=n
   ·subst hin
    refine rg hF ((Ins147.end_grow (some ⟨L.blk,0,none⟩) i cap L2.blk off2 m cap2 C D w h2 (by omega) (by omega) (by omega) hCl hDl (fun h=>by cases h) (fun a ha j u hj=>by cases ha; rw [ip]; exact hcell0 j u hj) hcell (hvr.one h7)).mono fun e w' ⟨he,hw⟩=>?_)
    subst hw
    obtain ⟨μ',hd⟩:=fin ((C++D).toArray++Builtin.zeroCells (Value.slice none 0 0).cells (grownCap w (i+m) cap 32-(i+m))) w.drew (by simp only [Array.size_append,List.size_toArray,List.length_append,hCl,hDl,hzs]; omega) (fun j hj=>by
     rw [Array.getElem?_append_left (by simp [hCl,hDl]; omega),hVat j hj]
     have e0:(C++D).toArray[j]? = (C++D)[j]?:=by simp
     rw [e0]
     by_cases q1:j<i
     ·rw [if_pos q1,List.getElem?_append_left (by omega)]
     ·rw [if_neg q1,if_pos (by omega),List.getElem?_append_right (by omega),hCl]) rfl Tp.draw rfl rfl
    exact ⟨_,he,μ',hd⟩
   ·refine rg hF ((Ins147.grow L.blk 0 n cap i L2.blk off2 m cap2 C D w (by omega) h2 (by omega) (by omega) (by omega) hCl hDl hcell0 hcell (hcs.one h8) (hvr.one h7)).mono fun e w' ⟨he,hw⟩=>?_)
    have e1:∀ A:Array Value,(((w.alloc (.cells A 32)).drew.setCells w.heap.size i D).drew).setCells w.heap.size (i+m) (C.drop i)=w.drew.drew.alloc (.cells (pz (pz A i D) (i+m) (C.drop i)) 32):=fun A=>by
     have a1:(w.alloc (.cells A 32)).drew=w.drew.alloc (.cells A 32):=rfl
     have a2:(w.drew.alloc (.cells A 32)).setCells w.heap.size i D=w.drew.alloc (.cells (pz A i D) 32):=ko w.drew 32 D i A
     have a3:(w.drew.alloc (.cells (pz A i D) 32)).drew=w.drew.drew.alloc (.cells (pz A i D) 32):=rfl
     rw [a1,a2,a3]
     exact ko w.drew.drew 32 (C.drop i) (i+m) (pz A i D)
    rw [e1] at hw
    subst hw
    obtain ⟨μ',hd⟩:=fin (pz (pz ((C.take i).toArray++Builtin.zeroCells (Value.slice none 0 0).cells (n+m-i)++Builtin.zeroCells (Value.slice none 0 0).cells (grownCap w (n+m) cap 32-(n+m))) i D) (i+m) (C.drop i)) w.drew.drew (by
      rw [gN,gN]
      simp only [Array.size_append,List.size_toArray,List.length_take,hCl,hzs]; omega) (fun j hj=>by
     have hA0:((C.take i).toArray++Builtin.zeroCells (Value.slice none 0 0).cells (n+m-i)++Builtin.zeroCells (Value.slice none 0 0).cells (grownCap w (n+m) cap 32-(n+m))).size=grownCap w (n+m) cap 32:=by
      simp only [Array.size_append,List.size_toArray,List.length_take,hCl,hzs]; omega
     rw [l3 _ _ _ _ (by rw [gN,hA0]; omega),l3 _ _ _ _ (by rw [hA0]; omega),hVat j hj,hDl,List.length_drop,hCl]
     by_cases q1:j<i
     ·rw [if_neg (by omega),if_neg (by omega),if_pos q1,Array.getElem?_append_left (by simp only [Array.size_append,List.size_toArray,List.length_take,hCl,hzs]; omega),Array.getElem?_append_left (by simp only [List.size_toArray,List.length_take,hCl]; omega)]
      simp [q1]
     ·by_cases q2:j<i+m
      ·rw [if_neg (by omega),if_pos (by omega),if_neg q1,if_pos q2]
      ·rw [if_pos (by omega),if_neg q1,if_neg q2,List.getElem?_drop]
       congr 1; omega) rfl (Tp.draw.trans Tp.draw) rfl rfl
    exact ⟨_,he,μ',hd⟩
end Go.Proofs.YtboamamhcfhanaaGreat.Ev.Ok147
namespace Go.Proofs.YtboamamhcfhanaaGreat.Ev.So79
open Go Go.RowKit Go.Sort Go.Shelf Go.Lib Go.Proofs.YtboamamhcfhanaaGreat.Ev
set_option linter.all false
set_option maxRecDepth 100000
def BO:Go.Shelf.Ren:=⟨fun | 6=>79 | 15=>102 | 14=>101 | 28=>131 | 29=>132 | 20=>123 | 21=>124 | 22=>125 | 23=>126 | 24=>127 | 25=>128 | 26=>129 | 27=>130 | 46=>152 | 47=>153 | 48=>154 | 49=>155 | 50=>156 | 57=>165 | n=>n,fun | 22=>88 | 24=>32 | 25=>115 | 3=>3 | 39=>137 | 0=>0 | 53=>166 | 55=>82 | 4=>4 | 46=>159 | 45=>158 | 50=>163 | 5=>5 | 9=>9 | 66=>189 | 70=>193 | 76=>206 | 77=>207 | n=>n,fun | n=>n⟩
theorem GS:Go.Proofs.SlLaysF.n6 Tryz.prog BO:={
 mixed:=by kernel_rfl
 f6:=⟨Tryz.f79.name,by decide,Tryz.func79.trans (congrArg some (by kernel_rfl))⟩
 f14:=⟨Tryz.f101.name,by decide,Tryz.func101.trans (congrArg some (by kernel_rfl))⟩
 f15:=Tryz.func102.trans (congrArg some (by kernel_rfl))
 f20:=⟨Tryz.f123.name,by decide,Tryz.func123.trans (congrArg some (by kernel_rfl))⟩
 f21:=⟨Tryz.f124.name,by decide,Tryz.func124.trans (congrArg some (by kernel_rfl))⟩
 f22:=⟨Tryz.f125.name,by decide,Tryz.func125.trans (congrArg some (by kernel_rfl))⟩
 f23:=⟨Tryz.f126.name,by decide,Tryz.func126.trans (congrArg some (by kernel_rfl))⟩
 f24:=⟨Tryz.f127.name,by decide,Tryz.func127.trans (congrArg some (by kernel_rfl))⟩
 f25:=⟨Tryz.f128.name,by decide,Tryz.func128.trans (congrArg some (by kernel_rfl))⟩
 f26:=⟨Tryz.f129.name,by decide,Tryz.func129.trans (congrArg some (by kernel_rfl))⟩
 f27:=⟨Tryz.f130.name,by decide,Tryz.func130.trans (congrArg some (by kernel_rfl))⟩
 f28:=Tryz.func131.trans (congrArg some (by kernel_rfl))
 f29:=Tryz.func132.trans (congrArg some (by kernel_rfl))
 f46:=⟨Tryz.f152.name,by decide,Tryz.func152.trans (congrArg some (by kernel_rfl))⟩
 f47:=Tryz.func153.trans (congrArg some (by kernel_rfl))
 f48:=Tryz.func154.trans (congrArg some (by kernel_rfl))
 f49:=⟨Tryz.f155.name,by decide,Tryz.func155.trans (congrArg some (by kernel_rfl))⟩
 f50:=⟨Tryz.f156.name,by decide,Tryz.func156.trans (congrArg some (by kernel_rfl))⟩
 f57:=⟨Tryz.f165.name,by decide,Tryz.func165.trans (congrArg some (by kernel_rfl))⟩
 t0:=Tryz.underlying0
 a0:=Tryz.isAgg0
 z0:=Tryz.sizeOf0
 v0:=Tryz.zeroValue0
 t3:=Tryz.underlying3
 a3:=Tryz.isAgg3
 z3:=Tryz.sizeOf3
 v3:=Tryz.zeroValue3
 t4:=Tryz.underlying4
 a4:=Tryz.isAgg4
 z4:=Tryz.sizeOf4
 v4:=Tryz.zeroValue4
 t5:=Tryz.underlying5
 a5:=Tryz.isAgg5
 z5:=Tryz.sizeOf5
 v5:=Tryz.zeroValue5
 t9:=Tryz.underlying9
 a9:=Tryz.isAgg9
 z9:=Tryz.sizeOf9
 v9:=Tryz.zeroValue9
 t22:=Tryz.underlying88
 a22:=Tryz.isAgg88
 z22:=Tryz.sizeOf88
 v22:=Tryz.zeroValue88
 a24:=Tryz.isAgg32
 z24:=Tryz.sizeOf32
 t25:=Tryz.underlying115
 a25:=Tryz.isAgg115
 z25:=Tryz.sizeOf115
 v25:=Tryz.zeroValue115
 t39:=Tryz.underlying137
 a39:=Tryz.isAgg137
 z39:=Tryz.sizeOf137
 v39:=Tryz.zeroValue137
 t45:=Tryz.underlying158
 a45:=Tryz.isAgg158
 z45:=Tryz.sizeOf158
 v45:=Tryz.zeroValue158
 t46:=Tryz.underlying159
 a46:=Tryz.isAgg159
 z46:=Tryz.sizeOf159
 v46:=Tryz.zeroValue159
 t50:=Tryz.underlying163
 a50:=Tryz.isAgg163
 z50:=Tryz.sizeOf163
 v50:=Tryz.zeroValue163
 t53:=Tryz.underlying166
 a53:=Tryz.isAgg166
 z53:=Tryz.sizeOf166
 v53:=Tryz.zeroValue166
 t55:=Tryz.underlying82
 a55:=Tryz.isAgg82
 z55:=Tryz.sizeOf82
 v55:=Tryz.zeroValue82
 t66:=Tryz.underlying189
 a66:=Tryz.isAgg189
 z66:=Tryz.sizeOf189
 v66:=Tryz.zeroValue189
 t70:=Tryz.underlying193
 a70:=Tryz.isAgg193
 z70:=Tryz.sizeOf193
 v70:=Tryz.zeroValue193
 t76:=Tryz.underlying206
 a76:=Tryz.isAgg206
 z76:=Tryz.sizeOf206
 v76:=Tryz.zeroValue206
 t77:=Tryz.underlying207
 a77:=Tryz.isAgg207
 z77:=Tryz.sizeOf207
 v77:=Tryz.zeroValue207 }
theorem Lr:CX Tryz.prog 79 [80]:=by
 refine ⟨⟨Tryz.f79,Tryz.func79,by kernel_rfl,by decide +kernel⟩,trivial,?_,?_,?_⟩
 ·intro g hg args w
  simp only [List.mem_cons,List.not_mem_nil,or_false] at hg
  subst hg
  exact enters_of Tryz.func80 (by kernel_rfl) rfl args w
 ·intro p cap fv w
  exact AnyF.slices_SortFunc_none { GS with } p cap fv w
 ·intro k enc cf g cb blk cap w hg h1 hO hT hcmp hH hblk hsz
  have eg:∀ args w,(callFunc g args).run Tryz.prog w=.ok (.enter g args) w:=by
   intro args w
   simp only [List.mem_cons,List.not_mem_nil,or_false] at hg
   subst hg
   exact enters_of Tryz.func80 (by kernel_rfl) rfl args w
  have hs:(List.finRange (k+1)).toArray.size=k+1:=by simp
  have h:=Any.slices_SortFunc_total GS enc h1 cf hO g cb blk 0 cap (List.finRange (k+1)).toArray w eg (by rw [hs]; exact hcmp) hH hblk (by rw [hs]; exact hsz) hT
  rw [hs] at h
  change Calls Tryz.prog 79 _ _ _ at h
  exact h
theorem extOK:ExtOK Tryz.prog 79 (.sortF 32 [80]):=Lr
end Go.Proofs.YtboamamhcfhanaaGreat.Ev.So79
namespace Go.Proofs.YtboamamhcfhanaaGreat.Ev
open Go
set_option maxRecDepth 1000000
set_option linter.all false
def look:List (Nat × aq)->Nat->Option aq
 | [],_=>none
 | p :: r,f=>if f=p.1 then some p.2 else look r f
theorem AA:∀ {L:List (Nat × aq)} {f:Nat} {a:aq},look L f=some a->(f,a)∈L
 | p :: r,f,a,h=>by
  unfold look at h
  split at h
  ·rename_i e; cases h; subst e; exact List.mem_cons_self ..
  ·exact List.mem_cons_of_mem _ (AA h)
theorem am {f:Nat} {fn:Func} {a:aq} (hf:Tryz.prog.funcs[f]? = some fn) (hc:L9 Tryz.prog fn=some a:=by kernel_rfl) (he:a.ext.isNone=true:=by rfl):Br Tryz.prog f a:=GN hf hc he
abbrev Rw (l:List (Nat × aq)):Prop:=∀ p∈l,Br Tryz.prog p.1 p.2
theorem IN:Rw []:=fun p hp=>by cases hp
theorem bu {f:Nat} {a:aq} {l:List (Nat × aq)} (h:Br Tryz.prog f a) (hl:Rw l):Rw ((f,a) :: l):=List.forall_mem_cons.2 ⟨h,hl⟩
def NC:List (Nat × aq):=[(dj,c_facetroomlaw21_DualKeeps),(fh,fy),(fM,fR),(eh,ij),(ee,ii),(ph,ym),(eK,iz),(dy,fQ),(ea,ig),(fd,fu),(sZ,tQ),(g9,ic),(rS,yd),(iw,iA),(qh,wD),(kz,tE),(fg,jj),(fe,ji),(dS,gQ),(gf,jA)]
def NB:List (Nat × aq):=[(vD,Bb),(dg,fw),(el,il),(dJ,pX),(jf,tO),(lC,c_dual_points),(oj,tP),(fZ,jx),(eM,iB),(pg,ye),(mE,rq),(dZ,ie),(hZ,ik),(lD,pW),(qq,wM),(ol,c_dual_cons),(iY,pK),(lh,pM),(mG,rt),(mF,wE)]
def NA:List (Nat × aq):=[(dx,fP),(vF,Be),(mD,rp),(j8,oK),(lG,pY),(dA,fV),(bD,cA),(dz,fU),(oi,tN),(kF,c_cone_Gens),(bC,cy),(iQ,mo),(mM,rA),(gc,jy),(eN,iC),(kZ,pL),(rR,yc),(mC,rn),(fO,fT),(cx,cz)]
def Nz:List (Nat × aq):=[(fN,fS),(qj,wH),(kD,tK),(kC,tG),(mJ,wI),(bS,cP),(kg,c_cone_checked),(oo,tV),(qx,wT),(cC,c_P_cone_under_add),(ke,oO),(ly,pS),(cS,cU),(h9,oQ),(bR,cN),(eO,iD),(nV,tz),(nX,tD),(cL,cO),(aX,bM)]
def Ny:List (Nat × aq):=[(gV,rr),(bT,cQ),(ka,oM),(cj,eG),(jD,rx),(eQ,iG),(gG,c_P_cone_under_cut),(gg,c_P_cone_under_fold),(lv,pQ),(gF,kn),(qi,wF),(rT,yf),(jr,ny),(rX,yj),(nS,tu),(cG,dW),(cm,dr),(mQ,wS),(jg,tT),(dN,jB)]
def Nx:List (Nat × aq):=[(kE,tU),(mO,wP),(mP,wQ),(cr,du),(cn,dt),(eR,c_P_rows_form_put),(nY,tF),(mI,rv),(kb,oN),(lp,pN),(aS,bF),(mH,ru),(fY,jw),(lA,pU),(rV,yh),(rU,yg),(nZ,c_sat_Signs),(qw,wR),(nU,tx),(lx,pR)]
def Nw:List (Nat × aq):=[(ck,dq),(lq,pO),(j9,oL),(lu,pP),(b9,dX),(nW,tC),(mL,rz),(oh,tM),(rW,yi),(qp,wL),(vG,Bf),(lz,pT),(mK,ry),(g8,kR),(gW,kN),(rY,yl),(kY,pJ),(dR,mm),(nT,tw),(gX,kO)]
def Nv:List (Nat × aq):=[(qm,wK),(od,tH),(lB,pV),(rZ,yn),(iP,ml),(fc,oP),(lH,pZ),(qv,wO),(de,ft),(vE,Bc),(eP,iF),(fj,jk),(fk,jl),(mN,wN),(qk,wJ),(cu,dH),(gZ,kQ),(gY,kP),(oe,tJ),(aT,cY)]
theorem NQ:Rw NC:=bu (am Tryz.func3)<|bu (am Tryz.func4)<|bu (am Tryz.func5)<|bu (am Tryz.func6)<|bu (am Tryz.func7)<|bu (am Tryz.func8)<|bu (am Tryz.func10)<|bu (am Tryz.func9)<|bu (am Tryz.func11)<|bu (am Tryz.func12)<|bu (am Tryz.func13)<|bu (am Tryz.func14)<|bu (am Tryz.func15)<|bu (am Tryz.func16)<|bu (am Tryz.func18)<|bu (am Tryz.func17)<|bu (am Tryz.func20)<|bu (am Tryz.func21)<|bu (am Tryz.func19)<|bu (am Tryz.func22)<|IN
theorem NP:Rw NB:=bu (am Tryz.func23)<|bu (am Tryz.func24)<|bu (am Tryz.func25)<|bu (am Tryz.func26)<|bu (am Tryz.func27)<|bu (am Tryz.func29)<|bu (am Tryz.func28)<|bu (am Tryz.func31)<|bu (am Tryz.func30)<|bu (am Tryz.func32)<|bu (am Tryz.func33)<|bu (am Tryz.func34)<|bu (am Tryz.func35)<|bu (am Tryz.func36)<|bu (am Tryz.func37)<|bu (am Tryz.func38)<|bu (am Tryz.func39)<|bu (am Tryz.func40)<|bu (am Tryz.func42)<|bu (am Tryz.func41)<|IN
theorem NO:Rw NA:=bu (am Tryz.func45)<|bu (am Tryz.func48)<|bu (am Tryz.func47)<|bu (am Tryz.func46)<|bu (am Tryz.func49)<|bu (am Tryz.func51)<|bu (am Tryz.func50)<|bu (am Tryz.func53)<|bu (am Tryz.func54)<|bu (am Tryz.func55)<|bu (am Tryz.func56)<|bu (am Tryz.func57)<|bu (am Tryz.func58)<|bu (am Tryz.func60)<|bu (am Tryz.func59)<|bu (am Tryz.func44)<|bu (am Tryz.func43)<|bu (am Tryz.func61)<|bu (am Tryz.func63)<|bu (am Tryz.func62)<|IN
theorem NN:Rw Nz:=bu (am Tryz.func64)<|bu (am Tryz.func65)<|bu (am Tryz.func66)<|bu (am Tryz.func52)<|bu (am Tryz.func69)<|bu (am Tryz.func70)<|bu (am Tryz.func73)<|bu (am Tryz.func74)<|bu (am Tryz.func75)<|bu (am Tryz.func76)<|bu (am Tryz.func77)<|bu (am Tryz.func78)<|bu (oY rfl rfl So79.extOK)<|bu (am Tryz.func80)<|bu (am Tryz.func82)<|bu (am Tryz.func83)<|bu (am Tryz.func68)<|bu (am Tryz.func67)<|bu (am Tryz.func84)<|bu (am Tryz.func85)<|IN
theorem NM:Rw Ny:=bu (am Tryz.func86)<|bu (am Tryz.func71)<|bu (am Tryz.func72)<|bu (am Tryz.func90)<|bu (am Tryz.func92)<|bu (am Tryz.func93)<|bu (am Tryz.func96)<|bu (am Tryz.func97)<|bu (am Tryz.func98)<|bu (am Tryz.func100)<|bu (am Tryz.func99)<|bu (am Tryz.func81)<|bu (am Tryz.func87)<|bu (am Tryz.func89)<|bu (am Tryz.func88)<|bu (am Tryz.func106)<|bu (am Tryz.func91)<|bu (am Tryz.func95)<|bu (am Tryz.func94)<|bu (am Tryz.func111)<|IN
theorem NL:Rw Nx:=bu (am Tryz.func112)<|bu (am Tryz.func114)<|bu (am Tryz.func113)<|bu (am Tryz.func116)<|bu (am Tryz.func115)<|bu (am Tryz.func117)<|bu (am Tryz.func120)<|bu (am Tryz.func122)<|bu (am Tryz.func121)<|bu (am Tryz.func118)<|bu (am Tryz.func103)<|bu (am Tryz.func104)<|bu (am Tryz.func110)<|bu (am Tryz.func109)<|bu (am Tryz.func107)<|bu (am Tryz.func108)<|bu (am Tryz.func143)<|bu (am Tryz.func144)<|bu (am Tryz.func145)<|bu (am Tryz.func146)<|IN
theorem NK:Rw Nw:=bu (oY rfl rfl Ok147.extOK_insert)<|bu (am Tryz.func148)<|bu (am Tryz.func149)<|bu (am Tryz.func151)<|bu (am Tryz.func119)<|bu (am Tryz.func105)<|bu (am Tryz.func138)<|bu (am Tryz.func139)<|bu (am Tryz.func141)<|bu (am Tryz.func140)<|bu (am Tryz.func142)<|bu (am Tryz.func134)<|bu (am Tryz.func135)<|bu (oY rfl rfl (AR Tryz.func136 (by kernel_rfl) (by kernel_rfl) (by kernel_rfl) (by kernel_rfl)))<|bu (oY rfl rfl (AQ Tryz.func137 (by kernel_rfl) (by kernel_rfl) (by kernel_rfl) (by kernel_rfl)))<|bu (am Tryz.func162)<|bu (am Tryz.func150)<|bu (am Tryz.func164)<|bu (am Tryz.func133)<|bu (am Tryz.func158)<|IN
theorem NJ:Rw Nv:=bu (am Tryz.func159)<|bu (am Tryz.func157)<|bu (am Tryz.func168)<|bu (am Tryz.func169)<|bu (am Tryz.func163)<|bu (am Tryz.func166)<|bu (am Tryz.func171)<|bu (am Tryz.func172)<|bu (am Tryz.func173)<|bu (am Tryz.func174)<|bu (am Tryz.func175)<|bu (am Tryz.func176)<|bu (am Tryz.func177)<|bu (am Tryz.func179)<|bu (am Tryz.func178)<|bu (am Tryz.func180)<|bu (am Tryz.func181)<|bu (am Tryz.func132)<|bu (am Tryz.func182)<|bu (am Tryz.func183)<|IN
def Lo:List (Nat × aq):=NC++NB++NA++Nz++Ny++Nx++Nw++Nv
theorem Lw {l m:List (Nat × aq)} (h:Rw l) (h2:Rw m):Rw (l++m):=fun p hp=>(List.mem_append.1 hp).elim (h p) (h2 p)
theorem Jt:Rw Lo:=(Lw (Lw (Lw (Lw (Lw (Lw (Lw NQ NP) NO) NN) NM) NL) NK) NJ)
theorem tabOK:Eb Tryz.prog (look Lo):=fun _ _ h=>Jt _ (AA h)
theorem code:Code (look Lo):=by constructor <;> kernel_rfl
end Go.Proofs.YtboamamhcfhanaaGreat.Ev
