/- A part. -/
import Derived.Test.YtiigaeehghcjiaaGreatA0
import Derived.Test.YtiigaeehghcjiaaGreatGens
set_option linter.all false
namespace Go.Proofs.YtiigaeehghcjiaaGreat.Ev
open Go Nn
def E4 {tab:Nat->Option au} (ev:Src->AV) (H:Heap) (id:Nat) (Q:AV->Heap->Prop) (size:Nat) (z:List AV) (x:Src) :
  nB tab ev H id (.clear size z x) Q=iv (oP H size z (ev x)) (fun H'=>Q (.tup []) H') ():=by
 rw [ck,iq tab ev H id Q (o:=.clear size z x) (fun f a e=>by cases e) rfl];show iK ((oP H size z (ev x)).map fun H'=>(AV.tup [],H')) _=_;cases oP H size z (ev x) <;> rfl
def Kp.at_ {H0 H H':Heap} {b:Nat} (a:Kp H0 H) (hg:∀ c,c≠b->H'.get c=H.get c) (hn:H'.next=H.next) (d:H0.next<=b) (hlt:b<H.next):Kp H0 H' :=
 ⟨a.wf0,fun c e hc=>by
  by_cases h:c=b
  ·rw [h,hn]; exact hlt
  ·rw [hn]; exact a.wf c e (by rw [<- hg c h]; exact hc),by rw [hn]; exact a.le,fun c hc=>by rw [hg c zO]; exact a.same c hc⟩
section
variable {tab:Nat->Option au} {H:Heap} {s:AV}
def sn (C:Code tab) (z:Wf H) {fi:Nat} {first caps:List AV} {l:List (List Int)} (hs:d9 H s l) (x:l.length<4611686018427387904) (p:List Int->Bool)
  (n:∀ r∈l,∀ H' w,Kp H H'->RowV H' w r->Ans tab (.fn fi (first++[w]++caps)) H' fun v H2=>v=.bool (p r)/\Kp H' H2) :
  Ans tab (.fn ca [s,.fn (.func fi) first caps]) H fun v H'=>v=.int .i64 (nR p l)/\Kp H H':=by
 refine bE C.q94 zU fun T hl c d=>?_;refine zW (aZ hl c d hs.lenV) ?_;refine aq H [] (fun j _ _=>∀ k (h:k<l.length),k<j->p l[k]=false) (a:=0) (N:=l.length) rfl (by refine zW (aC hl c d) ?_; rfl) (zV (aC hl c d)) (WG _) zO (by simp only [jL,hl]; rfl) rfl (fun _ _ _ _ h=>h) zK (fun k _ h=>by omega) ?_ ?_
 ·intro j T1 m _ hj b o i g f;have w1:=g.wf;have A:=g.le;have t0:ad T1 0=s:=(i.at_ 0 zU).trans (zV (aC hl c d));have t1:ad T1 1=.fn (.func fi) first caps:=(i.at_ 1 zU).trans (zV (aC hl c d))
  obtain ⟨w,hr,u⟩:=dE (hs.mono g.sub) hj;have q:=SlV.idx1 hs .i64 j hj;simp only [jL,hl] at b;refine zW (fy b t0 t1 o q u) ?_;refine AnsH.eq (n _ (EL hj) _ w zK (hr.mono (zG m))) fun H2 t=>?_;obtain ⟨k2,_,_⟩:=zT H zK t;cases hp:p l[j] with
  | true =>
   refine zW b ?_;exact ⟨by rw [sM hj f hp],zK⟩
  | false =>
   refine zW b ?_;refine ⟨zK,fun k h y=>?_⟩;by_cases e:k=j
   ·subst e; exact hp
   ·exact f k h zO
 ·intro T1 m b i g f;simp only [jL,hl] at b;refine zW b ?_;exact ⟨by rw [p9 fun k h=>f k h h],zK⟩
def IZ (C:Code tab) (h:Wf H) {l:List (List Int)} (hs:d9 H s l) (h0:0<l.length) (k:l.length<1099511627776):Ans tab (.fn cI [s]) H fun v H'=>Kp H H'/\∃ b,Own rowsE af H H' b false v l:=by
 refine cz C.q145 zU fun T hl a=>?_;rcases hs.nilcase with ⟨rfl,rfl⟩ | hne
 ·simp at h0
 ·have e:cP ([]:List AV) []=some []:=rfl;refine zW (aZ hl a hne e) ?_;have k1:Kp H ((H.up 7).put (H.next+3) (.cells [] af true)):=zK;have o:=k1.le;have i:SlV rowsE af ((H.up 7).put (H.next+3) (.cells [] af true)) (.own (H.next+3) 0 0 0 1 true) ([]:List (List Int)) :=
   (show Own rowsE af H _ (H.next+3) true _ [] from ⟨_,rfl,am _ _ _,Cells.nil _ _,zO⟩).sl
  obtain ⟨j,H2,c,h2,f,m,n,g⟩:=SlV.app (l:=[]) (id:=H.next+5) (bytes:=24) i k1 (hs.mono k1.sub) zO (by show _<H.next+7; omega) (by rw [aw zO]; exact h.fresh (b:=H.next+5) zO) (by simp; omega) (by simp; omega);have d:dq ((H.up 7).put (H.next+3) (.cells [] af true)) (H.next+5) 1 24 af (.own (H.next+3) 0 0 0 1 true) s=some (j,H2):=c;refine zW (aC hl a d) ?_;exact ⟨f,_,g h0⟩
def QS {H':Heap} {b n i:Nat} {cells:List AV} (hb:H'.get b=some (.cells cells af true)) (hn:cells.length=n) (hi:i<n) (j:n<1099511627776) (d:cells.all AV.one=true) :
  ∃ y H2 a,bU 1 (.own b 0 n n 1 false) (some (.int .i64 ((i+1:Nat):Int))) none none=some y/\(∀ id,dq H' id 1 24 af (.own b 0 i n 1 false) y=some (.own b 0 (n-1) n 1 false,H2))/\H2.get b=some (.cells a af true)/\a.take (n-1)=cells.eraseIdx i/\a.length=n/\(∀ c,c≠b->H2.get c=H'.get c)/\H2.next=H'.next:=by
 have he:cells.eraseIdx i=cells.take i++cells.drop (i+1):=Yj ..;by_cases h:i+1<n
 ·refine ⟨.own b (0+(i+1)*1) (n-(i+1)) (n-(i+1)) 1 false,H'.put b (.cells (cells.take (0+i*1)++cells.drop (i+1)++cells.drop (0+i*1+(n-(i+1))*1)) af true),_,?_,fun id=>?_,am _ _ _,?_,?_,fun c hc=>aw hc,rfl⟩
  ·show bA 1 (.own b 0 n n 1 false) (some (.int .i64 ((i+1:Nat):Int))) none none=_;simp only [bA,oS,ne_eq,not_true_eq_false,if_false,C6,Xr,X2,XY,XX,XG];rw [if_pos ⟨Jv _,zO⟩,if_pos (.inl h)]
  ·have f:aK H' 1 (n-(i+1)) (.own b (0+(i+1)*1) (n-(i+1)) (n-(i+1)) 1 false)=some (cells.drop (i+1)):=by
    simp only [aK,hb];rw [if_pos ⟨trivial,Jv _,zO⟩];rw [WS (by simp; omega)]
    simp
   have g:(cells.drop (i+1)).all AV.one=true:=by
    rw [WT] at d ⊢;exact fun x hx=>d x (YZ hx)
   unfold dq;simp only [gJ];rw [f];simp only [cM,hb];rw [if_pos ⟨trivial,zO,zO,trivial,zO⟩,if_pos zO,if_neg zO,if_pos ⟨trivial,g⟩];congr 3;omega
  ·rw [he,XU (by simp; omega),WS (by simp; omega)]
   simp
  ·simp; omega
 ·have k:n=i+1:=zO;refine ⟨.sl [] 0,H',cells,?_,fun id=>?_,hb,?_,hn,fun _ _=>rfl,rfl⟩
  ·show bA 1 (.own b 0 n n 1 false) (some (.int .i64 ((i+1:Nat):Int))) none none=_;simp only [bA,oS,ne_eq,not_true_eq_false,if_false,C6,Xr,X2,XY,XX,XG];rw [if_pos ⟨Jv _,zO⟩,if_neg zO]
   simp
  ·unfold dq;simp only [gJ,aK];simp only [cM,hb]
   simp
   refine ⟨zO,?_⟩;have e:n-1=i:=zO;rw [if_pos zO,e]
  ·rw [he,YQ zO,Xx];congr 1;omega
def G9 (C:Code tab) {H0:Heap} {v:AV} {l:List (List Int)} {i b:Nat} (q:Kp H0 H) (hs:Own rowsE af H0 H b false v l) (hi:i<l.length) (o:l.length<1099511627776) :
  Ans tab (.fn cC [v,.int .i64 (i:Int),.int .i64 ((i+1:Nat):Int)]) H fun O H'=>O=.own b 0 (l.length-1) l.length 1 false/\Kp H0 H'/\(∃ cells,H'.get b=some (.cells cells af true)/\cells.length=l.length/\Cells rowsE H' (cells.take (l.length-1)) (l.eraseIdx i))/\∀ c,c≠b->H'.get c=H.get c:=by
 obtain ⟨cells,g,hb,hcl,A⟩:=hs;have g:v=.own b 0 l.length l.length 1 false:=g;subst g;have hn:cells.length=l.length:=by have:=hcl.1; simpa [bz] using this
 have hlt:=q.wf _ _ hb;have J:=hcl.ones;obtain ⟨n,F⟩:∃ n,l.length=n:=⟨_,rfl⟩
 rw [F] at hn hi o ⊢;refine mz C.q146 zU fun T hl j k m=>?_;have w:bU 1 (.own b 0 n n 1 false) (some (.int .i64 (i:Int))) (some (.int .i64 ((i+1:Nat):Int))) (some (.int .i64 (n:Int)))=some (.own b (0+i*1) (i+1-i) (n-i) 1 true):=by
  simp only [bU,bA,oS,ne_eq,not_true_eq_false,if_false,C6,Xr,X2,XY,XX,XG];rw [if_pos ⟨Jv _,zO,zO⟩,if_neg zO]
 have G:¬ (i:Int)=((i+1:Nat):Int):=zO;have I:¬ i=i+1:=zO;have P:=DQ b 0 n n 1 i false .i64 (Yx hi);obtain ⟨y,H2,a,hy,z,q2,N,S,h,s⟩:=QS (H':=H.up 21) (b:=b) (i:=i) hb hn hi o J;have K:bU 1 (.own b 0 (n-1) n 1 false) (some (.int .i64 ((n-1:Nat):Int))) (some (.int .i64 (n:Int))) none=some (.own b (n-1) 1 1 1 false):=by
  simp only [bU,bA,oS,ne_eq,not_true_eq_false,if_false,C6,Xr,X2,XY,XX,XG];rw [if_pos ⟨Jv _,zO⟩,if_pos (.inl zO)];congr 2 <;> omega
 have B:∀ X:Heap,X.get b=some (.cells a af true)->oP X 1 [.nilSl] (.own b (n-1) 1 1 1 false)=some (X.put b (.cells (a.take (n-1)++(List.replicate 1 [AV.nilSl]).flatten++a.drop (n-1+1*1)) af true)):=fun X x=>by
  simp only [oP,x];rw [if_neg zO,if_pos ⟨trivial,zO,rfl,rfl⟩]
 have D:=B (H2.up 6) q2;refine zW (ip hl j k m w G I) ?_;refine aJ ?_;simp -dsimp (maxSteps:=1000000) (disch:=(first | omega | assumption | exact aF _ | exact bi _ _ | exact bB | exact cK _ _ _ | exact bS _ _ | exact bJ _ _ _ _ _ _ | exact cQ _ _ | exact bX _)) only [↓wD,wC,↓Tc,Tb,Nat.reduceLT,Nat.reduceEqDiff,Nat.reduceAdd,reduceIte,reduceCtorEq,Nat.reduceBEq,Int.reduceEq,Int.reduceLT,Int.reduceLE,Int.reduceAdd,Int.reduceSub,hl,j,k,m,P,hy,z,Ef,K,↓E4,D];obtain ⟨d,f⟩:∃ c,c=a.take (n-1)++(List.replicate 1 [AV.nilSl]).flatten++a.drop (n-1+1):=⟨_,rfl⟩
 rw [<- f];have k2:Kp H0 H2:=(q.up 21).at_ h s A (by show b<H.next+21; omega);have Q:=k2.le;have R:b<H2.next:=by rw [s]; show _<H.next+21; omega
 have u:SubT (Vt intE aa).tys H ((H2.up 8).put b (.cells d af true)):=fun c cs t r L hc=>by
  have p:c≠b:=fun e=>by
   subst e;rw [hb] at hc; cases hc
   revert L; decide
  rw [aw p];exact (h c p).trans hc
 have M:d.take (n-1)=cells.eraseIdx i:=by
  rw [f,Yf,XU (by simp; omega),WS (by simp; omega),N]
 have E:d.length=n:=by rw [f]; simp; omega
 refine ⟨zK,⟨d,rfl,E,?_⟩,fun c hc=>?_⟩
 ·rw [M,Yj,Yj];have h1:=(hcl.mono u).take (n:=i) zO;have h2:=(hcl.mono u).drop (i+1);have h3:=h1.append h2;have es:rowsE.sz=1:=rfl;rw [es,XP,XP] at h3;exact h3
 ·rw [aw hc]; exact h c hc
end
def Sep (v w:AV):Prop:=∀ b,jZ v=some b->jZ w≠some b
def Sep.symm {v w:AV} (h:Sep v w):Sep w v:=fun b h1 h2=>h b h2 h1
def Wr (H0 H:Heap) (v:AV) (l:List (List Int)) (c:Nat):Prop :=
 (v=.nilSl/\l=[])\/∃ b cells,v=.own b 0 l.length c 1 false/\H.get b=some (.cells cells af true)/\cells.length=c/\l.length<=c/\Cells rowsE H (cells.take l.length) l/\H0.next<=b
def Wr.sl {H0 H:Heap} {v:AV} {l:List (List Int)} {c:Nat} (h:Wr H0 H v l c):d9 H v l:=by
 rcases h with ⟨rfl,rfl⟩ | ⟨b,cells,rfl,hb,hc,hl,hcl,-⟩
 ·exact SlV.nil _ _ _
 ·refine ⟨_,⟨hl,(fun s h=>by cases h),l.length,rfl,?_⟩,fun _ _ _ _ _ _ e=>by cases e; exact ⟨_,_,hb⟩,hcl⟩;simp only [aK,hb];rw [if_pos ⟨rfl,Jv _,by show 0+l.length*1<=_; omega⟩];show some ((cells.drop 0).take (l.length*1))=_;rw [List.drop_zero,XP]
def Bl.wr {H0 H:Heap} {v:AV} {l:List (List Int)} (h:Bl rowsE af H0 H v l):Wr H0 H v l l.length:=by
 rcases h with h | ⟨b,cells,h1,h2,h3,h4⟩
 ·exact .inl h
 ·have hc:cells.length=l.length:=by have:=h3.1; simpa [bz] using this
  exact .inr ⟨b,cells,h1,h2,hc,Jv _,by rw [<- hc,WZ]; exact h3,h4⟩
def Wr.bl {H0 H:Heap} {v:AV} {l:List (List Int)} (h:Wr H0 H v l l.length):Bl rowsE af H0 H v l:=by
 rcases h with h | ⟨b,cells,h1,h2,h3,h4,h5,a⟩
 ·exact .inl h
 ·rw [<- h3,WZ] at h5;exact .inr ⟨b,cells,h1,h2,h5,a⟩
def Wr.mono {H0 H H':Heap} (hs:Sub H H') {v:AV} {l:List (List Int)} {c:Nat} (h:Wr H0 H v l c):Wr H0 H' v l c:=by
 rcases h with h | ⟨b,cells,h1,h2,h3,h4,h5,a⟩
 ·exact .inl h
 ·exact .inr ⟨b,cells,h1,hs.get _ _ h2,h3,h4,h5.mono (hs.t _),a⟩
def Wr.base {H0 a H:Heap} (hs:H0.next<=a.next) {v:AV} {l:List (List Int)} {c:Nat} (h:Wr a H v l c):Wr H0 H v l c:=by
 rcases h with h | ⟨b,cells,h1,h2,h3,h4,h5,d⟩
 ·exact .inl h
 ·exact .inr ⟨b,cells,h1,h2,h3,h4,h5,WK hs d⟩
def Wr.put {H0 H:Heap} {v:AV} {l:List (List Int)} {c b:Nat} {e:Ent} (h:Wr H0 H v l c) (hb:jZ v≠some b) (f:NoTy (Vt intE aa).tys H b):Wr H0 (H.put b e) v l c:=by
 rcases h with h | ⟨b',cells,h1,h2,h3,h4,h5,d⟩
 ·exact .inl h
 ·refine .inr ⟨b',cells,h1,?_,h3,h4,h5.mono (SubT.puts (SubT.refl _ _) f),d⟩;rw [aw (fun a=>hb (by rw [h1,a]; rfl))];exact h2
def Wr.old {H0 H:Heap} {v:AV} {l:List (List Int)} {c b:Nat} (a:Wf H) (h:Wr H0 H v l c) (hb:jZ v=some b):b<H.next:=by
 rcases h with ⟨rfl,-⟩ | ⟨b',cells,rfl,h2,-⟩
 ·cases hb
 ·cases hb; exact a _ _ h2
def RowV.put_ne {H:Heap} {v:AV} {l:List Int} {b:Nat} {e:Ent} (h:RowV H v l) (hb:jZ v≠some b) (hn:NoTy [ae] H b):RowV (H.put b e) v l:=by
 obtain ⟨cells,⟨h0,h1,n,h2,h3⟩,f,hc⟩:=h;refine ⟨cells,⟨h0,h1,n,h2,?_⟩,fun b' off n' c z x e'=>?_,hc.mono (SubT.puts (SubT.refl _ _) hn)⟩
 ·unfold aK at h3 ⊢;split at h3
  ·rename_i b' off m c sz ex;rw [aw (fun a=>hb (by rw [<- a]; rfl))]; exact h3
  ·exact h3
  ·exact h3
  ·exact h3
  ·cases h3
 ·obtain ⟨cs,r,d⟩:=f b' off n' c z x e';exact ⟨cs,r,by rw [aw (fun a=>hb (by rw [e',<- a]; rfl))]; exact d⟩
def Wr.store {H0 H:Heap} {v va:AV} {l:List (List Int)} {x:List Int} {c j:Nat} (h:Wr H0 H v l c) (hj:j<l.length) (hx:RowV H va x) :
  ∃ b cells,jZ v=some b/\H0.next<=b/\H.get b=some (.cells cells af true)/\j<cells.length/\cG 1 v (.int .i64 (j:Int))=some (.ptr b j)/\Wr H0 (H.put b (.cells (cells.set j va) af true)) v (l.set j x) c:=by
 rcases h with ⟨-,rfl⟩ | ⟨b,cells,rfl,h2,h3,h4,h5,a⟩
 ·simp at hj
 ·have d:j<cells.length:=zO;refine ⟨b,cells,rfl,a,h2,d,?_,.inr ⟨b,_,by rw [jL],am _ _ _,by rw [jL]; exact h3,by rw [jL]; exact h4,?_,a⟩⟩
  ·have:=iB (b:=b) (off:=0) (c:=c) (sz:=1) (x:=false) (k:=.i64) hj
   rw [Xg,XP] at this;exact this
  ·have hn:NoTy (Vt intE aa).tys H b:=NoTy.ty h2 zU;have e:SubT (Vt intE aa).tys H (H.put b (.cells (cells.set j va) af true)):=SubT.puts (SubT.refl _ _) hn;rw [jL,List.take_set];exact Cells.mono (E:=rowsE) e (h5.set1 hj hx)
def Wr.elem {H0 H:Heap} {v:AV} {l:List (List Int)} {c j:Nat} (h:Wr H0 H v l c) (hj:j<l.length) :
  ∃ w,RowV H w l[j]/\bc H none (az v j)=some w/\cG 1 v (.int .i64 (j:Int))=some (az v j):=by
 obtain ⟨w,h1,h2⟩:=dE h.sl hj;exact ⟨w,h1,h2,SlV.idx1 h.sl .i64 j hj⟩
def UnderV (H0 H:Heap) (ub:Nat) (u:Lin.Under):Prop:=∃ a qr qd cl,H.get ub=some (.cells [a,qr,qd] aU true)/\Wr H0 H a u.lines cl/\Wr H0 H qr u.rays u.rays.length/\Wr H0 H qd u.done u.done.length/\Sep a qr/\Sep a qd/\Sep qr qd
def UnderV.mono {H0 H H':Heap} {ub:Nat} {u:Lin.Under} (hs:Sub H H') (h:UnderV H0 H ub u):UnderV H0 H' ub u:=by
 obtain ⟨a,qr,qd,cl,h1,h2,h3,h4,h5⟩:=h;exact ⟨a,qr,qd,cl,hs.get _ _ h1,h2.mono hs,h3.mono hs,h4.mono hs,h5⟩
def R6 (a u:List Int):Lin.dot a (Lin.upV a u)=if Lin.dot a u<0 then -(Lin.dot a u) else Lin.dot a u:=by
 unfold Lin.upV;split
 ·rw [Lin.dot_scl]; omega
 ·rfl
def R5 {d:Nat} {a u:List Int} (b:u.length=d):(Lin.upV a u).length=d:=by
 unfold Lin.upV;split
 ·simp [Lin.scl,b]
 ·exact b
def To {f:Nat} {a u:List Int} (b:∀ z∈u,Bt f z):∀ z∈Lin.upV a u,Bt f z:=by
 unfold Lin.upV;split
 ·exact HC b
 ·exact b
structure FoldC (Hs H0 H:Heap) (ub:Nat) (LV qr qd:AV) (D:List (List Int)) (bx:Nat) (z:Int) (vl va:AV) (up a:List Int) (sb:Nat):Prop where
 u:H.get ub=some (.cells [LV,qr,qd] aU true)
 d:Wr H0 H qd D D.length
 bx:BoxI H bx z
 vl:RowV H vl up
 va:RowV H va a
 sb:H.get sb=some (.cells [.ptr ub 0,.ptr ub 1] mR true)
 oth:∀ b e,Hs.get b=some e->b≠ub->jZ qr≠some b->H.get b=some e
def FoldC.mono {Hs H0 H H':Heap} {ub:Nat} {LV qr qd:AV} {D:List (List Int)} {bx:Nat} {z:Int} {vl va:AV} {up a:List Int} {sb:Nat} (hs:Sub H H') (h:FoldC Hs H0 H ub LV qr qd D bx z vl va up a sb):FoldC Hs H0 H' ub LV qr qd D bx z vl va up a sb :=
 ⟨hs.get _ _ h.u,h.d.mono hs,h.bx.mono hs,h.vl.mono hs,h.va.mono hs,hs.get _ _ h.sb,fun b e h1 h2 h3=>hs.get _ _ (h.oth b e h1 h2 h3)⟩
def Na {H:Heap} {b c t1 a:Nat} {x y:List AV} {r1 r2:Bool} (h1:H.get b=some (.cells x t1 r1)) (h2:H.get c=some (.cells y a r2)) (hn:t1≠a):b≠c:=fun e=>by
 subst e;rw [h1] at h2
 injection h2 with h; injection h with _ h; exact hn h
def FoldC.put {Hs H0 H:Heap} {ub:Nat} {LV qr qd:AV} {D:List (List Int)} {bx:Nat} {z:Int} {vl va:AV} {up a:List Int} {sb b:Nat} {cells cs:List AV} (h:FoldC Hs H0 H ub LV qr qd D bx z vl va up a sb) (hb:H.get b=some (.cells cells af true)) (hd:jZ qd≠some b) (i:∀ e,Hs.get b=some e->jZ qr=some b):FoldC Hs H0 (H.put b (.cells cs af true)) ub LV qr qd D bx z vl va up a sb:=by
 have d:NoTy (Vt intE aa).tys H b:=NoTy.ty hb zU;have k:NoTy [ae] H b:=NoTy.ty hb zU;obtain ⟨q,f,j⟩:=h.bx;refine ⟨?_,h.d.put hd d,⟨q,?_,SlV.monoT (E:=bz cq) (SubT.puts (SubT.refl _ _) k) j⟩,SlV.monoT (E:=intE) (SubT.puts (SubT.refl _ _) d) h.vl,SlV.monoT (E:=intE) (SubT.puts (SubT.refl _ _) d) h.va,?_,fun c e h1 h2 h3=>?_⟩
 ·rw [aw (Na h.u hb zU)]; exact h.u
 ·rw [aw (Na f hb zU)]; exact f
 ·rw [aw (Na h.sb hb zU)]; exact h.sb
 ·rw [aw (fun g=>h3 (by rw [g] at h1 ⊢; exact i e h1))]; exact h.oth c e h1 h2 h3
section
variable {tab:Nat->Option au} {H:Heap} {s:AV}
def L8 (C:Code tab) {H0:Heap} {ub i:Nat} {u:Lin.Under} {va:AV} {a:List Int} {d e f:Nat} (hk:Kp H0 H) (cB:H0.next<=ub) (hu:UnderV H0 H ub u) (ha:RowV H va a) (hi:i<u.lines.length) (hd:d<=64) (aj:a.length=d) (hL:∀ r∈u.lines,r.length=d/\∀ z∈r,Bt f z) (hR:∀ r∈u.rays,r.length=d/\∀ z∈r,Bt f z) (ah:∀ z∈a,Bt e z) (hb:2*(e+f+7)+2*f+1<=8796093022208) (aG:u.lines.length<1099511627776) (cx:u.rays.length<1099511627776) :
  Ans tab (.fn iQ [.ptr ub 0,va,.int .i64 (i:Int)]) H fun v H'=>Kp H0 H'/\RowV H' v (Lin.upV a u.lines[i])/\UnderV H0 H' ub ⟨(u.lines.eraseIdx i).map (Lin.foldV a (Lin.upV a u.lines[i])),u.rays.map (Lin.foldV a (Lin.upV a u.lines[i])),u.done⟩/\(∀ b e,H.get b=some e->b≠ub->(∀ q1 q2 q3,H.get ub=some (.cells [q1,q2,q3] aU true)->jZ q2≠some b)->H'.get b=some e)/\∀ q1 q2 q3,H.get ub=some (.cells [q1,q2,q3] aU true)->∃ cj,H'.get ub=some (.cells [cj,q2,q3] aU true):=by
 have hw:=hk.wf;obtain ⟨ql,qr,qd,cl,ab,bg,bh,bd,s1,s2,s3⟩:=hu;have cP:=hw _ _ ab;obtain ⟨vl,aP,bT,bH⟩:=bg.elem hi;have P:=hL _ (EL hi);refine B0 C.q121 rfl rfl zU fun T hl g=>?_;have hl:T.length=81:=hl;have b2:c_P_cone_under_fold.results=[(6,none)]:=rfl;have A:ad T 0=.ptr ub 0:=g 0 (by simp);have B:ad T 1=va:=g 1 (by simp);have D:ad T 2=.int .i64 (i:Int):=g 2 (by simp);refine bf ?_;refine zW (cn hl A B D @aD) ?_;refine bf ?_;refine zW (lp hl A B D @aD ab bH bT) ?_;refine bf ?_;refine zW (cn hl A B D @aD) ?_;refine AnsH.use (vT C zF (ha.mono (zG H)) (aP.mono (zG H)) (aj.trans P.1.symm) zO ah P.2 zO) ?_;rintro v H2 ⟨⟨w,rfl,aN⟩,aK⟩;obtain ⟨k2,_,w2⟩:=zT H zK aK;have ow:=aN.one;have n2:H.next+14<=H2.next:=aK.le
 have f2:H2.get (H.next+12)=none:=aK.free (show _<H.next+14 by omega) (hw.fresh (b:=H.next+12) zO);have cS:NoTy [ae] H2 (H.next+12):=NoTy.none f2;refine zW (cn hl A B D @aD) ?_;refine cZ (fun T' H'=>∃ vl,ad T' 6=vl/\RowV H' vl (Lin.upV a u.lines[i])/\BoxI H' (H.next+12) (Lin.dot a (Lin.upV a u.lines[i]))/\Kp H H') rfl ?_ ?_
 ·refine zW (cn hl A B D @aV) ?_;refine iteH.split (fun h=>?_) fun h=>?_
  ·refine zW (aZ hl A B D) ?_;refine AnsH.use (qN C (n:=-1) zF zO zO) ?_;rintro v3 o ⟨aI,R⟩;obtain ⟨M,_,t⟩:=zT H zK R;have b3:=R.get (b:=H.next+12) (e:=.cells [.bool (decide (Lin.dot a u.lines[i]<0)),w] aa true) (cY);have cN:=t _ _ b3;have cb:cm o w (Lin.dot a u.lines[i]).natAbs:=SlV.mono R.sub (SlV.monoT (E:=bz cq) zS aN);refine zW (aZ hl A B D) ?_;refine AnsH.use (uL C zF (aP.mono (zG H)) aI zO (fun z hz=>(P.2 z hz).len zO) G7) ?_;rintro v4 H4 ⟨r4,rfl,bZ,aL,bE⟩;obtain ⟨k4,_,w4⟩:=zT H zK aL;have b4:=aL.get b3;have cc:=cb.mono aL.sub;refine zW (cn hl A B D @b4) ?_;refine AnsH.use (A3 C (z:=Lin.dot a u.lines[i]) zF ⟨w,rfl,cc.mono (zG H4)⟩ ((rH ah P.2 (aj.trans P.1.symm) zO).sm zO)) ?_;rintro v5 y ⟨⟨w5,rfl,bo⟩,S⟩;obtain ⟨aR,_,_⟩:=zT H4 zK S;have k5:Kp H y:=Kp.trans k4 aR;have cJ:=k5.le;have cr:=k5.wf;have b5:=aR.get b4;have cO:=cr _ _ b5;have cT:=bo.one;have m5:NoTy [ae] y (H.next+12):=NoTy.ty b5 zU;refine zW (fy hl A B D b5 @aV) ?_;have eu:Lin.upV a u.lines[i]=Lin.scl (-1) u.lines[i]:=by unfold Lin.upV; rw [if_pos h]
   have ed:Lin.dot a (Lin.upV a u.lines[i]) = -(Lin.dot a u.lines[i]):=by rw [R6,if_pos h]
   refine ⟨r4,rfl,?_,⟨w5,by rw [ed]; exact cY,by rw [ed]; exact SlV.monoT (E:=bz cq) zS bo⟩,zK⟩;rw [eu];refine RowV.put_ne (bZ.mono aR.sub) (fun hb=>?_) m5
   have:=bE _ hb
   omega
  ·refine zW (cn hl A B D @aV) ?_;have eu:Lin.upV a u.lines[i]=u.lines[i]:=by unfold Lin.upV; rw [if_neg h]
   rw [eu];exact ⟨vl,rfl,aP.mono (zG H),⟨w,by exact cY,SlV.monoT (E:=bz cq) zS aN⟩,zK⟩
 ·rintro T1 H1 al ⟨af,t6,ca,bC,k1⟩;have w1:=k1.wf;have t0:ad T1 0=.ptr ub 0:=(al.at_ 0 zU).trans (zV (aB hl A));have t1:ad T1 1=va:=(al.at_ 1 zU).trans (zV (aB hl B));have t2:ad T1 2=.int .i64 (i:Int):=(al.at_ 2 zU).trans (zV (aB hl D));have t7:ad T1 7=.ptr (H.next+12) 0:=(al.at_ 7 zU).trans (zV hl);have s:T1.length=81:=al.len.trans (by simp only [jL]; exact hl);have b8:=k1.get ab;refine WC.wb ?_;refine zW (cn s t0 t1 t2 b8) ?_;refine AnsH.use (IZ C zF (bg.sl.mono (zG H)) zO aG) ?_;rintro v2 cv ⟨bO,b,bb⟩;have e1:IntKind.i64.wrap ((i:Int)+1)=((i+1:Nat):Int):=by rw [wrap_i64] <;> omega
  refine zW (cn s t0 t1 t2 e1) ?_;refine AnsH.use (G9 C bO bb hi aG) ?_;rintro v3 o ⟨rfl,R,⟨cells,a4,a7,aH⟩,cy⟩;have M:Kp H o:=Kp.trans k1 (Kp.trans zK R);have cI:=M.le;have t:=M.wf;have K:=M.get ab;have bm:RowV o af (Lin.upV a u.lines[i]):=ca.mono (Kp.sub (H:=H1) (Kp.trans zK R));have a5:BoxI o (H.next+12) (Lin.dot a (Lin.upV a u.lines[i])):=bC.mono (Kp.sub (H:=H1) (Kp.trans zK R));refine zW (aC s t0 K) ?_;refine aJ ?_;refine zD (aB s t0) ?_;obtain ⟨-,-,-,-,a3⟩:=bb;have a3:H.next<=b:=WK (WK k1.le (W3 _ _)) a3
  have cF:=t _ _ a4;have cR:=t _ _ K;have cC:ub≠b:=zO;obtain ⟨up,aO⟩:∃ x,x=Lin.upV a u.lines[i]:=⟨_,rfl⟩
  rw [<- aO] at bm a5 ⊢;have bl:up.length=d:=by rw [aO]; exact R5 P.1
  have bk:∀ z∈up,Bt f z:=by rw [aO]; exact To P.2
  obtain ⟨n,hn⟩:∃ n,n=u.lines.length:=⟨_,rfl⟩
  rw [<- hn] at a7 aH hi aG ⊢;obtain ⟨L,aE⟩:∃ L,L=u.lines.eraseIdx i:=⟨_,rfl⟩
  have a2:L.length=n-1:=by rw [aE,ZE zO,hn]
  have bv:∀ r∈L,r.length=d/\∀ z∈r,Bt f z:=fun r hr=>hL r (W9 (by rw [aE] at hr; exact hr));rw [<- aE] at aH ⊢;obtain ⟨LV,ag⟩:∃ v,v=AV.own b 0 (n-1) n 1 false:=⟨_,rfl⟩
  rw [<- ag];have bV:Wr H0 (((o.up 9).put ub (.cells [LV,qr,qd] aU true)).put (o.next+6) (.cells [.ptr ub 0,.ptr ub 1] mR true)) LV L n:=by
   have m1:NoTy (Vt intE aa).tys o ub:=NoTy.ty K zU;have m2:NoTy (Vt intE aa).tys o (o.next+6):=NoTy.none (t.fresh zO);refine .inr ⟨b,cells,by rw [ag,a2],by exact zV a4,a7,zO,?_,by have:=hk.le; omega⟩;rw [a2];exact Cells.mono (E:=rowsE) zS aH
  have bp:∀ {v l c},Wr H0 H v l c->Wr H0 (((o.up 9).put ub (.cells [LV,qr,qd] aU true)).put (o.next+6) (.cells [.ptr ub 0,.ptr ub 1] mR true)) v l c:=fun {v l c} h=>by
   have m1:NoTy (Vt intE aa).tys o ub:=NoTy.ty K zU;have m2:NoTy (Vt intE aa).tys (o.up 9) (o.next+6):=NoTy.none (t.fresh (b:=o.next+6) zO);have h3:Wr H0 (o.up 9) v l c:=(h.mono M.sub).mono (Sub.bump o 9);have hne:∀ x e,(o.up 9).get x=some (.cells e aU true)->jZ v≠some x:=fun x e hx hv=>by
    rcases h3 with ⟨rfl,-⟩ | ⟨b',bu,rfl,h2,-⟩
    ·cases hv
    ·cases hv;rw [hx] at h2; injection h2 with h; injection h with _ h; exact absurd h zU
   refine (h3.put (hne ub _ K) m1).put (fun hv=>?_) (by
    refine NoTy.none ?_;rw [aw zO]; exact t.fresh (b:=o.next+6) zO)
   have:=h.old hw hv
   omega
  have a0:Sep LV qr:=fun x hx hy=>by
   rw [ag] at hx; cases hx
   have:=bh.old hw hy
   omega
  have br:Sep LV qd:=fun x hx hy=>by
   rw [ag] at hx; cases hx
   have:=bd.old hw hy
   omega
  obtain ⟨F,X⟩:∃ F:Nat->AV,F=fun j=>if j=0 then LV else qr:=⟨_,rfl⟩
  obtain ⟨Ls,ar⟩:∃ Ls:Nat->List (List Int),Ls=fun j=>if j=0 then L else u.rays:=⟨_,rfl⟩
  obtain ⟨cs,a8⟩:∃ cs:Nat->Nat,cs=fun j=>if j=0 then n else u.rays.length:=⟨_,rfl⟩
  have bx:∀ j,∀ r∈Ls j,r.length=d/\∀ z∈r,Bt f z:=fun j r hr=>by
   rw [ar] at hr;by_cases h:j=0
   ·exact bv r (by simpa [h] using hr)
   ·exact hR r (by simpa [h] using hr)
  have bw:∀ j,(Ls j).length<1099511627776:=fun j=>by
   rw [ar];by_cases h:j=0
   ·simp [h]; omega
   ·simp [h]; omega
  have cW:∀ j m,j<2->m<2->m≠j->Sep (F j) (F m):=fun j m h1 h2 h3=>by
   rw [X];by_cases h:j=0
   ·have h4:m≠0:=zO
    simpa [h,h4] using a0
   ·have h4:m=0:=zO
    simpa [h,h4] using a0.symm
  have cU:∀ j,Sep (F j) qd:=fun j=>by
   rw [X];by_cases h:j=0
   ·simpa [h] using br
   ·simpa [h] using s3
  have b7:∀ j,j<2->bN [LV,qr,qd] j none=some (F j):=fun j h=>by
   rw [X]
   match j,h with
   | 0,_=>rfl
   | 1,_=>rfl
  have cV:∀ j,j<2->bN [AV.ptr ub 0,AV.ptr ub 1] j none=some (.ptr ub j):=fun j h=>by
   match j,h with
   | 0,_=>rfl
   | 1,_=>rfl
  obtain ⟨w',bn⟩:∃ w',w'=Lin.foldV a up:=⟨_,rfl⟩
  rw [<- bn];have b9:RowV o va a:=ha.mono M.sub;refine aq H0 [] (fun j _ H'=>FoldC H H0 H' ub LV qr qd u.done (H.next+12) (Lin.dot a up) af va up a (o.next+6)/\∀ m,m<2->Wr H0 H' (F m) (if m<j then (Ls m).map w' else Ls m) (cs m)) (a:=0) (N:=2) rfl (by refine zW s ?_; rfl) (zV s) (WG _) zO (by simp only [jL,s]; rfl) rfl (fun j vs H' m ⟨h1,h2⟩=>⟨h1.mono (Sub.bump H' m),fun m' bW=>(h2 m' bW).mono (Sub.bump H' m)⟩) (by
   have kk:Kp H0 o:=hk.trans M
   have:=kk.le
   exact zK) ⟨⟨by exact cY,bp bd,?_,?_,?_,by exact cY,fun c e hc hne _=>by
   have a6:=M.get hc
   have:=t _ _ a6
   rw [aw zO,aw hne]; exact a6⟩,?_⟩ ?_ ?_
  ·obtain ⟨q,bc,bY⟩:=a5;have cE:=t _ _ bc;have cz:H.next+12≠ub:=zO
   have m1:NoTy [ae] o ub:=NoTy.ty K zU;have m2:NoTy [ae] o (o.next+6):=NoTy.none (t.fresh zO);exact ⟨q,by exact zV bc,SlV.monoT (E:=bz cq) zS bY⟩
  ·have m1:NoTy (aa :: intE.tys) o ub:=NoTy.ty K zU;have m2:NoTy (aa :: intE.tys) o (o.next+6):=NoTy.none (t.fresh zO);exact SlV.monoT (E:=intE) zS bm
  ·have m1:NoTy (aa :: intE.tys) o ub:=NoTy.ty K zU;have m2:NoTy (aa :: intE.tys) o (o.next+6):=NoTy.none (t.fresh zO);exact SlV.monoT (E:=intE) zS b9
  ·intro m hm;rw [if_neg zO,X,ar,a8];by_cases h:m=0
   ·simpa [h] using bV
   ·simpa [h] using bp bh
  ·rintro j T2 y _ hj p bG Y S ⟨p1,p2⟩;have w5:=S.wf;have cg:=S.le;have t50:ad T2 50=.own (o.next+6) 0 2 2 1 true:=(Y.at_ 50 zU).trans (zV s);have cp:ad T2 7=.ptr (H.next+12) 0:=(Y.at_ 7 zU).trans (zV (aB s t7));have ck:ad T2 1=va:=(Y.at_ 1 zU).trans (zV (aB s t1));have a1:ad T2 6=af:=(Y.at_ 6 zU).trans (zV (aB s t6));have aM:=p2 j hj;rw [if_neg zO] at aM;have am:=b7 j hj;have b6:=cV j hj;have ci:=p1.u;have ch:=p1.sb;simp only [jL,s] at p;refine zW (lp p t50 bG ch b6 ci am aM.sl.lenV) ?_;refine aq H0 [] (fun k _ H'=>FoldC H H0 H' ub LV qr qd u.done (H.next+12) (Lin.dot a up) af va up a (o.next+6)/\Wr H0 H' (F j) (kg w' (Ls j) k) (cs j)/\∀ m,m<2->m≠j->Wr H0 H' (F m) (if m<j then (Ls m).map w' else Ls m) (cs m)) (a:=0) (N:=(Ls j).length) rfl (by refine zW p ?_; rfl) (zV p) (WG _) (by have:=bw j; omega) (by simp only [jL,p]; rfl) rfl (fun k vs H' m ⟨h1,h2,h3⟩=>⟨h1.mono (Sub.bump H' m),h2.mono (Sub.bump H' m),fun m' a b=>(h3 m' a b).mono (Sub.bump H' m)⟩) zK ⟨p1.mono (Sub.bump y _),by rw [zQ]; exact aM.mono (Sub.bump y _),fun m hm _=>(p2 m hm).mono (Sub.bump y _)⟩ ?_ ?_
   ·rintro k V G _ ax I aI Z ak ⟨q1,q2,q3⟩;have w6:=ak.wf;have cG:=ak.le;have co:ad V 58=F j:=(Z.at_ 58 zU).trans (zV p);have t9:ad V 9=.ptr ub j:=(Z.at_ 9 zU).trans (zV p);have aA:ad V 7=.ptr (H.next+12) 0:=(Z.at_ 7 zU).trans (zV (aB p cp));have ay:ad V 1=va:=(Z.at_ 1 zU).trans (zV (aB p ck));have az:ad V 6=af:=(Z.at_ 6 zU).trans (zV (aB p a1));have cA:=sB w' (Ls j) (Yx ax);obtain ⟨vr,aQ,bU,bK⟩:=q2.elem (j:=k) zO;have bF:(kg w' (Ls j) k)[k]'zO=(Ls j)[k]:=by
     have:=Cg w' (Ls j) ax
     rw [zh zO] at this;exact Option.some.inj this
    rw [bF] at aQ;have W:=bx j _ (EL ax);have U:=q1.u;obtain ⟨bq,Q,bA⟩:=q1.bx;simp only [jL,p] at I;refine zW (cn I co aI bK bU) ?_;refine aJ ?_;refine zD (lh I t9 aA ay az U am Q @aS) ?_;have a9:=rH ah W.2 (aj.trans W.1.symm) zO;refine AnsH.use (vT C zF (q1.va.mono (zG G)) (aQ.mono (zG G)) (aj.trans W.1.symm) zO ah W.2 zO) ?_;rintro v7 H7 ⟨b0,bP⟩;obtain ⟨aT,_,w7⟩:=zT G zK bP;have aY:=aT.get U;have aX:=aT.get Q;refine zD (mo I t9 aA ay az U am Q @aS aY aX) ?_;refine AnsH.use (A3 C zF b0 (a9.sm zO)) ?_;rintro v8 H8 ⟨b1,bQ⟩;have ao:Kp G H8:=Kp.trans aT (Kp.trans zK bQ);have cL:=ao.le;have w8:=ao.wf;have bt:=ao.get U;have bs:=ao.get Q;refine zD (E0 I t9 aA ay az U am Q @aS aY aX bt bs) ?_;have bD:=rH ah bk (aj.trans bl.symm) zO;refine AnsH.use (Gv C zF (m:=Lin.dot a up) (n:=-(Lin.dot a (Ls j)[k])) ⟨bq,rfl,bA.mono (zG G)⟩ (b1.mono (zG H8)) (aQ.mono (zG G)) (q1.vl.mono (zG G)) (W.1.trans bl.symm) zO bD a9.neg W.2 bk zO) ?_;rintro v9 H9 ⟨bj,bR⟩;have O:Kp G H9:=Kp.trans ao (Kp.trans zK bR);have cM:=O.le;have cf:Kp H0 H9:=ak.trans O;have cH:=cf.le;have w9:=O.wf;have cu:=O.get U;have ct:=O.get Q;obtain ⟨b',bu,J,cw,av,bM,bI,ce⟩:=(q2.mono O.sub).store (j:=k) zO bj;have o9:=bj.one;have cD:=w9 _ _ av;refine zD (Pz I t9 aA ay az U am Q @aS aY aX bt bs cu ct bI av bM) ?_;have cd:w' (Ls j)[k]=Lin.prime (Lin.mix (Lin.dot a up) (Ls j)[k] (-(Lin.dot a (Ls j)[k])) up):=by rw [bn]; rfl
    refine ⟨zK,(q1.mono O.sub).put av (cU j _ J) (fun e he=>by
     have hlt:=hw _ _ he;rw [X] at J;by_cases ba:j=0
     ·simp only [ba,if_true] at J;rw [ag] at J;cases J;omega
     ·simp only [ba,if_false] at J;exact J),?_,fun m hm hne=>((q3 m hm hne).mono O.sub).put (cW j m hj hm hne _ J) (NoTy.ty av zU)⟩
    rw [<- Cf w' (Ls j) ax,cd];exact ce
   ·rintro V G I Z ak ⟨q1,q2,q3⟩;simp only [jL,p] at I;rw [Ch] at q2;refine zW I ?_;refine ⟨ak,q1,fun m hm=>?_⟩;by_cases h:m=j
    ·subst h; rw [if_pos zO]; exact q2
    ·have:=q3 m hm h
     by_cases h2:m<j
     ·rw [if_pos h2] at this; rw [if_pos zO]; exact this
     ·rw [if_neg h2] at this; rw [if_neg zO]; exact this
  ·rintro T2 y p Y S ⟨p1,p2⟩;have w5:=S.wf;have cg:=S.le;have a1:ad T2 6=af:=(Y.at_ 6 zU).trans (zV (aB s t6));simp only [jL,s] at p;refine zW (aC p a1 b2) ?_;have p0:=p2 0 zO;have aW:=p2 1 zO;rw [if_pos zO,X,ar,a8] at p0 aW;simp only [if_true,Nat.one_ne_zero,if_false] at p0 aW;have e:(u.rays.map w').length=u.rays.length:=by simp
   refine ⟨zK,p1.vl.mono (Sub.bump y _),⟨LV,qr,qd,n,p1.u,p0.mono (Sub.bump y _),?_,p1.d.mono (Sub.bump y _),a0,br,s3⟩,fun c e hc hne hq=>p1.oth c e hc hne (hq ql qr qd (by first | exact ab | rfl)),fun q1 q2 q3 h=>by
    try rw [ab] at h
    cases h;exact ⟨LV,p1.u⟩⟩
   show Wr H0 _ qr (u.rays.map w') (u.rays.map w').length;rw [e];exact aW.mono (Sub.bump y _)
end
section
variable {tab:Nat->Option au} (ev:Src->AV) (H:Heap) (id:Nat) (Q:AV->Heap->Prop)
def MK:nB tab ev H id .mkmap Q=Q (.map id) (H.put id (.map [])):=by
 rw [ck,iq tab ev H id Q (o:=.mkmap) (fun f a e=>by cases e) rfl]; rfl
def oU (kd:BK) (z:AV) (x i:Src) (ok:Bool):nB tab ev H id (.lookup kd z x i ok) Q=iv (tt H kd z (ev x) (ev i) ok) (fun v=>Q v H) ():=by
 rw [ck,iq tab ev H id Q (o:=.lookup kd z x i ok) (fun f a e=>by cases e) rfl];show iK ((tt H kd z (ev x) (ev i) ok).map fun v=>(v,H)) _=_;cases tt H kd z (ev x) (ev i) ok <;> rfl
def Kl (kd:BK) (m k v:Src):nB tab ev H id (.mapUpd kd m k v) Q=iv (nO H kd (ev m) (ev k) (ev v)) (fun H'=>Q .undef H') ():=by
 rw [ck,iq tab ev H id Q (o:=.mapUpd kd m k v) (fun f a e=>by cases e) rfl];show iK ((nO H kd (ev m) (ev k) (ev v)).map fun H'=>(AV.undef,H')) _=_;cases nO H kd (ev m) (ev k) (ev v) <;> rfl
theorem He {kd:BK} {z:AV} {x i:Src} {ok:Bool}:uK (.lookup kd z x i ok)=true:=rfl
end
def qw (es:List (AV × AV)):Prop:=∀ p∈es,∃ z,p.1=.int .i64 z
def ia (es:List (AV × AV)) (z:Int):AV:=match po (.int .i64 z) es with
 | some (some v)=>v
 | _=>.nilSl
def Iy:∀ {es:List (AV × AV)},qw es->∀ z,∃ o,po (.int .i64 z) es=some o
 | [],_,z=>⟨none,rfl⟩
 | (k,v) :: es,h,z=>by
  obtain ⟨y,hy⟩:=h _ (WH ..);simp only at hy;subst hy;have a:=Iy (es:=es) (fun p hp=>h p (SO _ hp)) z;simp only [po,i8,if_true];cases z == y with
  | true=>exact ⟨_,rfl⟩
  | false=>exact a
def Eb {H:Heap} {mb:Nat} {es:List (AV × AV)} (hm:H.get mb=some (.map es)) (a:qw es) (z:Int):tt H .int .nilSl (.map mb) (.int .i64 z) false=some (ia es z):=by
 obtain ⟨o,b⟩:=Iy a z;simp only [tt,iz,Bool.true_eq_false,if_false,ya,hm,b,ia];cases o <;> rfl
def Tl {H:Heap} {mb:Nat} {es:List (AV × AV)} (hm:H.get mb=some (.map es)) (a:qw es) (z:Int) (v:AV):nO H .int (.map mb) (.int .i64 z) v=some (H.put mb (.map (s9 (.int .i64 z) v es))):=by
 obtain ⟨o,b⟩:=Iy a z;simp only [nO,iz,Bool.true_eq_false,if_false,hm,b]
def Fc:∀ {es:List (AV × AV)},qw es->∀ z v,qw (s9 (.int .i64 z) v es)
 | [],_,z,v=>fun p hp=>by simp [s9] at hp; exact ⟨z,by rw [hp]⟩
 | (k,w) :: es,h,z,v=>by
  obtain ⟨y,hy⟩:=h _ (WH ..);simp only at hy;subst hy;have a:=Fc (es:=es) (fun p hp=>h p (SO _ hp)) z v;simp only [s9,i8,if_true];cases z == y with
  | true =>
   intro p hp;rcases WV.1 hp with rfl | hp
   ·exact ⟨z,rfl⟩
   ·exact h p (SO _ hp)
  | false =>
   intro p hp;rcases WV.1 hp with rfl | hp
   ·exact ⟨y,rfl⟩
   ·exact a p hp
def sK:∀ {es:List (AV × AV)},qw es->∀ z v a,ia (s9 (.int .i64 z) v es) a=if a=z then v else ia es a
 | [],_,z,v,a=>by
  simp only [s9,ia,po,i8,if_true];by_cases h:a=z
  ·simp [h]
  ·have e:(a == z)=false:=by simpa using h
   simp [h,e]
 | (k,w) :: es,h,z,v,a=>by
  obtain ⟨y,hy⟩:=h _ (WH ..);simp only at hy;subst hy;have c:=sK (es:=es) (fun p hp=>h p (SO _ hp)) z v a;simp only [ia] at c;simp only [s9,i8,if_true,ia];by_cases b:z=y
  ·subst b;simp only [beq_self_eq_true,po,i8,if_true];by_cases h:a=z
   ·simp [h]
   ·have e:(a == z)=false:=by simpa using h
    simp [h,e]
  ·have d:(z == y)=false:=by simpa using b
   simp only [d,po,i8,if_true];by_cases h:a=y
   ·subst h;simp [Ne.symm b]
   ·have f:(a == y)=false:=by simpa using h
    simp only [f];exact c
def Mk {H H':Heap} {id sz bytes ty c m:Nat} {v f:AV} {d:List AV} {fr:Option Nat} (h:cM H id sz bytes ty v m d fr=some (f,H')) (hc:c≠id) (hn:H.get c=none):H'.get c=none:=by
 unfold cM at h;split at h
 ·split at h
  ·cases h; exact hn
  ·split at h
   ·cases h; rw [aw hc]; exact hn
   ·cases h
 ·split at h
  ·rename_i b off n g i ex x cs j rw' hb;have a:c≠b:=fun e=>by rw [<- e,hn] at hb; cases hb
   split at h
   ·split at h
    ·split at h
     ·cases h; exact hn
     ·split at h
      ·cases h; rw [aw a]; exact hn
      ·cases h
    ·split at h
     ·cases h; rw [aw hc]; exact hn
     ·split at h
      ·cases h; rw [aw hc,cH a]; exact hn
      ·cases h
   ·cases h
  ·cases h
 ·cases h
def C8 {H H':Heap} {id sz bytes ty c:Nat} {v w a:AV} (h:dq H id sz bytes ty v w=some (a,H')) (hc:c≠id) (hn:H.get c=none):H'.get c=none:=by
 unfold dq at h;split at h
 ·cases h
 ·split at h
  ·cases h
  ·exact Mk h hc hn
def Frm (v:AV) (H H':Heap):Prop:=∀ b e,H.get b=some e->jZ v≠some b->H'.get b=some e
def Frm.subT {α:Type} {E:gr α} {ty:Nat} {tys:List Nat} {H0 H H':Heap} {v:AV} {l:List α} (a:Frm v H H') (h:Bl E ty H0 H v l) (hn:ty ∉ tys):SubT tys H H':=fun c cs t r d hc=>a c _ hc fun e=>by
 rcases h with ⟨rfl,-⟩ | ⟨b,cells,rfl,hb,-⟩
 ·cases e
 ·cases e;rw [hb] at hc; cases hc;exact hn d
def Frm.other {α:Type} {E:gr α} {ty:Nat} {H0 H H':Heap} {v:AV} {l:List α} (d:Frm v H H') (h:Bl E ty H0 H v l) {b:Nat} {e:Ent} (hb:H.get b=some e) (he:∀ cs,e ≠ .cells cs ty true):H'.get b=some e:=d b e hb fun a=>by
 rcases h with ⟨rfl,-⟩ | ⟨b',cells,rfl,c,-⟩
 ·cases a
 ·cases a;rw [hb] at c; cases c;exact he _ rfl
def Frm.bl {α β:Type} {E:gr α} {E':gr β} {ty:Nat} {H0 H H':Heap} {v w:AV} {l:List α} {m:List β} (c:Frm v H H') (h:Bl E ty H0 H v l) (a:Bl E' ty H0 H w m) (hs:Sep v w) (d:ty ∉ E'.tys):Bl E' ty H0 H' w m:=by
 rcases a with a | ⟨b,cells,rfl,hb,hc,h0⟩
 ·exact .inl a
 ·exact .inr ⟨b,cells,rfl,c b _ hb fun e=>hs b e rfl,hc.mono (c.subT h d),h0⟩
def Bl.push2 {α:Type} {E:gr α} {ty ty2 bytes id id2:Nat} {H0 H:Heap} {v:AV} {l:List α} {cs:List AV} {a:α} (h:Bl E ty H0 H v l) (B:ty ∉ E.tys) (y:Kp H0 H) (hr:E.R H cs a) (t:H0.next<=id) (u:id<H.next) (s:H.get id=none) (k:H0.next<=id2) (w:id2<H.next) (j:H.get id2=none) (hne:id≠id2)
  (hb:(l.length+1)*bytes<=70368744177664) (hl:l.length+1<4611686018427387904) :
  ∃ n H',dq (H.put id2 (.cells cs ty2 true)) id E.sz bytes ty v (.own id2 0 1 1 E.sz true)=some (.own id 0 n n E.sz false,H')/\Bl E ty H0 H' (.own id 0 n n E.sz false) (l++[a])/\Kp H0 H'/\H'.next=H.next/\Frm v H H'/\(∀ c,c≠id->c≠id2->H.get c=none->H'.get c=none):=by
 have f:Sub H (H.put id2 (.cells cs ty2 true)):=aH j;have A:Kp H0 (H.put id2 (.cells cs ty2 true)):=y.put k w;have hy:SlV E ty2 (H.put id2 (.cells cs ty2 true)) (.own id2 0 1 1 E.sz true) [a] :=
  (show Own E ty2 H0 _ id2 true (.own id2 0 1 1 E.sz true) [a] from ⟨cs,rfl,am _ _ _,Cells.one (E.mono (f.t _) hr),k⟩).sl
 have C:∀ b n,v=.own b 0 n n E.sz false->b≠id2:=fun b n d e=>by
  rcases h with ⟨h,-⟩ | ⟨b',cells,h,i,-⟩
  ·rw [h] at d; cases d
  ·rw [h] at d; cases d;rw [e,j] at i; cases i
 obtain ⟨F,H',g,o,e3,e4,p,q⟩:=(h.mono f).app (id:=id) (bytes:=bytes) B A hy t u (by rw [aw hne]; exact s) (fun b n d off m c z x D=>by cases D; exact C _ _ d rfl) hb hl;obtain ⟨n,rfl⟩:=q (by simp);refine ⟨n,H',g,o,e3,e4,fun b e r he=>p b e (f.get _ _ r) fun n d=>he (by rw [d]; rfl),fun c h1 h2 h3=>C8 g h1 (by rw [aw h2]; exact h3)⟩
def Bl.push1 {α:Type} {E:gr α} {ty ty2 bytes id id2 k:Nat} {H0 H:Heap} {v:AV} {l:List α} {cs:List AV} {a:α} (h:Bl E ty H0 H v l) (j:ty ∉ E.tys) (d:Kp H0 H) (hr:E.R H cs a) (e:H.next<=id) (i:id<H.next+k) (f:H.next<=id2) (g:id2<H.next+k) (hne:id≠id2)
  (hb:(l.length+1)*bytes<=70368744177664) (hl:l.length+1<4611686018427387904) :
  ∃ n H',dq ((H.up k).put id2 (.cells cs ty2 true)) id E.sz bytes ty v (.own id2 0 1 1 E.sz true)=some (.own id 0 n n E.sz false,H')/\Bl E ty H0 H' (.own id 0 n n E.sz false) (l++[a])/\Kp H0 H'/\H'.next=H.next+k/\Frm v H H'/\(∀ c,c≠id->c≠id2->H.get c=none->H'.get c=none):=by
 have m:=d.le;exact Bl.push2 (H:=H.up k) (h.mono (Sub.bump H k)) j (d.up k) (E.mono ((Sub.bump H k).t _) hr) zO i (d.wf.fresh (b:=id) e) zO g (d.wf.fresh (b:=id2) f) hne hb hl
def Ab (a:List Int) (R:List (List Int)) (k:Nat) (s:Int):List Int:=((List.range k).filter fun i=>jx (Lin.dot a (R.getD i [])) == s).map fun i:Nat=>(i:Int)
def Hz (a:List Int) (R:List (List Int)) (k:Nat) (s:Int):Ab a R (k+1) s=Ab a R k s++if jx (Lin.dot a (R.getD k []))=s then [(k:Int)] else []:=by
 unfold Ab;rw [List.range_succ,XQ,Xd];congr 1;by_cases h:jx (Lin.dot a (R.getD k []))=s
 ·have e:List.filter (fun i=>jx (Lin.dot a (R.getD i [])) == s) [k]=[k]:=ZP (p:=fun i=>jx (Lin.dot a (R.getD i [])) == s) (beq_iff_eq.2 h);rw [if_pos h,e]; rfl
 ·have e:List.filter (fun i=>jx (Lin.dot a (R.getD i [])) == s) [k]=[]:=ZQ (p:=fun i=>jx (Lin.dot a (R.getD i [])) == s) (fun h'=>h (beq_iff_eq.1 h'));rw [if_neg h,e]; rfl
def KK (a:List Int) (R:List (List Int)) (k:Nat) (s:Int):(Ab a R k s).length<=k:=by
 unfold Ab;rw [Nj];exact WK (XO _ _) (by simp)
structure SidesV (H0 H:Heap) (mb:Nat) (a:List Int) (R:List (List Int)) (k:Nat) (es:List (AV × AV)):Prop where
 get:H.get mb=some (.map es)
 keys:qw es
 bl:∀ s,BG H0 H (ia es s) (Ab a R k s)
 sep:∀ s s',s≠s'->Sep (ia es s) (ia es s')
def SidesV.mono {H0 H H':Heap} {mb:Nat} {a:List Int} {R:List (List Int)} {k:Nat} {es:List (AV × AV)} (hs:Sub H H') (h:SidesV H0 H mb a R k es):SidesV H0 H' mb a R k es :=
 ⟨hs.get _ _ h.get,h.keys,fun s=>(h.bl s).mono hs,h.sep⟩
abbrev Sz:gr (List Nat):=bz (Vt (bz cq) ae)
structure CutV (H H':Heap) (mb:Nat) (a:List Int) (R D:List (List Int)) (k:Nat) (vm vd:AV) (es:List (AV × AV)) (Ws:List (List Nat)):Prop where
 bm:Bl Sz eQ H H' vm Ws
 wl:Ws.length=k
 wok:∀ t (h:t<R.length) (h':t<Ws.length),qv (zeros R[t] D) Ws[t]
 bd:Bl intE aa H H' vd ((R.take k).map (Lin.dot a))
 sd:SidesV H H' mb a R k es
def CutV.mono {H H' H'':Heap} {mb:Nat} {a:List Int} {R D:List (List Int)} {k:Nat} {vm vd:AV} {es:List (AV × AV)} {Ws:List (List Nat)} (hs:Sub H' H'') (h:CutV H H' mb a R D k vm vd es Ws):CutV H H'' mb a R D k vm vd es Ws :=
 ⟨h.bm.mono hs,h.wl,h.wok,h.bd.mono hs,h.sd.mono hs⟩
def NoTy.map {tys:List Nat} {H:Heap} {b:Nat} {es:List (AV × AV)} (h:H.get b=some (.map es)):NoTy tys H b:=fun cs t r _ e=>by rw [h] at e; cases e
def Bl.blk {α:Type} {E:gr α} {ty:Nat} {H0 H:Heap} {v:AV} {l:List α} (h:Bl E ty H0 H v l) {b:Nat} (hb:jZ v=some b):∃ cells,H.get b=some (.cells cells ty true):=by
 rcases h with ⟨rfl,-⟩ | ⟨b',cells,rfl,h1,-⟩
 ·cases hb
 ·cases hb; exact ⟨_,h1⟩
section
variable {tab:Nat->Option au} {H:Heap} {s:AV}
def LX (C:Code tab) {ub mb k:Nat} {ql qr qd va vm vd:AV} {a:List Int} {R D:List (List Int)} {d e f:Nat} {es:List (AV × AV)} {Ws:List (List Nat)} {T1:Tm} {i:Heap} (aK:H.get ub=some (.cells [ql,qr,qd] aU true)) (aD:d9 H qr R) (bj:d9 H qd D) (ha:RowV H va a) (bc:0<d) (hd:d<=64) (ax:a.length=d) (hR:∀ r∈R,r.length=d/\∀ z∈r,Bt f z) (hD:∀ r∈D,r.length=d/\∀ z∈r,Bt e z) (a7:D.length<=1024) (aw:∀ z∈a,Bt e z) (hb:e+f+7<=8796093022208) (bx:R.length<1099511627776) (y:Kp H i) (L:k<R.length) (m:T1.length=135)
  (t0:ad T1 0=.ptr ub 0) (t1:ad T1 1=va) (t6:ad T1 6=.map mb) (bu:ad T1 23=qr) (aA:ad T1 25=.int .i64 (k:Int)) (v7:ad T1 7=vm) (v8:ad T1 8=vd) (bC:H.next<=mb) (hc:CutV H i mb a R D k vm vd es Ws) {Q:Ex->Tm->Heap->Prop}
  (hq:∀ T2 H2 aQ aP a3 aS,T2.length=135->ad T2 7=aQ->ad T2 8=aP->Kp H H2->CutV H H2 mb a R D (k+1) aQ aP a3 aS->Q .nrm T2 H2) :
  WC tab false (.seq (.region [⟨some 27,.mv (.t 25),none⟩,⟨some 28,.indexAddr 1 (.t 23) (.t 25),none⟩,⟨some 29,.load none (.t 28),none⟩,⟨some 9,.mv (.t 27),none⟩,⟨some 10,.mv (.t 29),none⟩]) <|
   .seq (.region [⟨some 30,.mv (.t 1),none⟩,⟨some 31,.mv (.t 10),none⟩,⟨some 32,.call (.c (.fn (.func pY) [] [])) [(.t 30),(.t 31)],none⟩,⟨some 11,.alloc aa [(.bool false),.nilSl],none⟩,⟨none,.store 2 (.t 11) (.t 32),none⟩]) <|
   .seq (.region [⟨some 33,.mv (.t 8),none⟩,⟨some 34,.load (some 2) (.t 11),none⟩,⟨some 35,.buildSlice aa 2 [(.bool false),.nilSl] 1 [((0,2),(.t 34))],none⟩,⟨some 36,.append 2 32 aa [(.bool false),.nilSl] (.t 33) (.t 35),none⟩,⟨some 37,.mv (.t 7),none⟩,⟨some 38,.mv (.t 0),none⟩,⟨some 39,.mv (.t 10),none⟩,⟨some 40,.call (.c (.fn (.func fp) [] [])) [(.t 38),(.t 39)],none⟩,⟨some 41,.buildSlice eQ 1 [.nilSl] 1 [((0,1),(.t 40))],none⟩,⟨some 42,.append 1 24 eQ [.nilSl] (.t 37) (.t 41),none⟩,⟨some 8,.mv (.t 36),none⟩,⟨some 7,.mv (.t 42),none⟩]) <|
   .draw [
    ⟨(some 43),.mv (.t 6),none,[(6,none)],0,[(0,[]),(1,[]),(2,[]),(3,[])]⟩,
    ⟨(some 44),.load (some 2) (.t 11),none,[(11,none)],0,[(0,[])]⟩,
    ⟨(some 45),.call (.c (.fn (.func lB) [] [])) [(.t 44)],none,[(44,(some 1))],2,[(0,[])]⟩,
    ⟨(some 46),.mv (.t 6),none,[(6,none)],0,[(0,[]),(1,[]),(2,[])]⟩,
    ⟨(some 47),.load (some 2) (.t 11),none,[(11,none)],0,[(0,[]),(1,[])]⟩,
    ⟨(some 48),.call (.c (.fn (.func lB) [] [])) [(.t 47)],none,[(47,(some 4))],2,[(1,[])]⟩,
    ⟨(some 49),.lookup .int .nilSl (.t 46) (.t 48) false,none,[(46,(some 3)),(48,(some 5))],0,[(2,[])]⟩,
    ⟨(some 50),.mv (.t 9),none,[(9,none)],0,[(0,[]),(1,[]),(2,[])]⟩,
    ⟨(some 51),.buildSlice aL 1 [(.int .i64 0)] 1 [((0,1),(.t 50))],none,[(50,(some 7))],1,[(0,[]),(1,[]),(2,[])]⟩,
    ⟨(some 52),.append 1 8 aL [(.int .i64 0)] (.t 49) (.t 51),none,[(49,(some 6)),(51,(some 8))],2,[(2,[8])]⟩,
    ⟨none,.mapUpd .int (.t 43) (.t 45) (.t 52),none,[(43,(some 0)),(45,(some 2)),(52,(some 9))],2,[(3,[])]⟩] []) T1 i Q:=by
 have hw:=y.wf0;have w1:=y.wf;have bI:=y.le;have bF:=y.le;obtain ⟨vr,aM,bg⟩:=dE aD L;have bf:=SlV.idx1 aD .i64 k L;have bh:=bV y.sub bg;have u:=hR _ (EL L);have bQ:=hw _ _ aK;have az:=rH aw u.2 (ax.trans u.1.symm) zO;refine zW (ip m t0 t1 bu aA bf bh) ?_;refine AnsH.use (vT C zF (ha.mono (zG H)) (aM.mono (zG H)) (ax.trans u.1.symm) zO aw u.2 zO) ?_;rintro v H2 ⟨⟨w,rfl,ae⟩,Z⟩;obtain ⟨bn,_,_⟩:=zT i zK Z;have aN:Kp H H2:=y.trans bn;have bK:=aN.le;have w2:=aN.wf;have n2:i.next+10<=H2.next:=Z.le
 have f8:H2.get (i.next+8)=none:=Z.free (show _<i.next+10 by omega) (w1.fresh (b:=i.next+8) zO);have ow:=ae.one;obtain ⟨z,hz⟩:∃ z,z=Lin.dot a R[k]:=⟨_,rfl⟩
 rw [<- hz] at ae az ⊢;obtain ⟨l,q⟩:∃ X,X=(H2.put (i.next+8) (.cells [.bool false,.nilSl] aa true)).put (i.next+8) (.cells [.bool (decide (z<0)),w] aa true):=⟨_,rfl⟩
 have bs:Sub H2 l:=by rw [q]; exact (aH f8).put f8 _
 have af:Kp H l:=by rw [q]; exact zK
 have nc:l.next=H2.next:=by rw [q]; rfl
 have bb:l.get (i.next+8)=some (.cells [.bool (decide (z<0)),w] aa true):=by rw [q]; exact am _ _ _
 have bo:Kp i l:=by rw [q]; exact zK
 have cc:=hc.mono bo.sub;have aG:cm l w z.natAbs:=ae.mono bs;have wc:=af.wf;have bA:((R.take k).map (Lin.dot a)).length=k:=by simp; omega
 obtain ⟨B,G,Y,aq,T,br,p,al⟩:=Bl.push1 (ty2:=aa) (bytes:=32) (id:=l.next+3) (id2:=l.next+2) (k:=12) (cs:=[.bool (decide (z<0)),w]) (a:=z) cc.bd zU af ⟨w,rfl,aG⟩ zO zO zO zO zO zO zO;rw [nc] at Y aq br al;have aX:dq ((((H2.up 12).put (i.next+8) (.cells [.bool false,.nilSl] aa true)).put (i.next+8) (.cells [.bool (decide (z<0)),w] aa true)).put (H2.next+2) (.cells [.bool (decide (z<0)),w] aa true)) (H2.next+3) 2 32 aa vd (.own (H2.next+2) 0 1 1 2 true)=some (.own (H2.next+3) 0 B B 2 false,G):=by rw [q] at Y; exact Y
 refine zW (cn m t0 v7 v8 aX) ?_;have b0:=T.wf;have bm:l.get ub=some (.cells [ql,qr,qd] aU true):=af.get aK;have bl:=p.other cc.bd bm (fun cs h=>by injection h with _ h2; exact absurd h2 zU);have a8:∀ x,jZ vd=some x->x<i.next:=fun x hx=>by
  obtain ⟨cells,h⟩:=hc.bd.blk hx;exact w1 _ _ h
 have a9:G.get (i.next+8)=some (.cells [.bool (decide (z<0)),w] aa true):=p _ _ bb fun e=>by have:=a8 _ e; omega
 have bk:cm G w z.natAbs:=SlV.monoT (E:=bz cq) (p.subT cc.bd zU) aG;refine AnsH.use (L4 C zF bl (bj.mono T.sub) (aM.mono T.sub) a7 bc hd u.1 (fun x hx=>(hD x hx).1) u.2 (fun x hx=>(hD x hx).2) zO) ?_;rintro ao I ⟨W,hW,mW,j⟩;have ag:Kp H I:=T.trans j;have bM:=ag.le;have b1:=ag.wf;have bW:=hW.one;have bG:=j.le;have a4:I.get (H2.next+8)=none:=j.free zO (al _ zO zO (wc.fresh (b:=H2.next+8) zO));have a5:I.get (H2.next+9)=none:=j.free zO (al _ zO zO (wc.fresh (b:=H2.next+9) zO));have ar:Bl Sz eQ H G vm Ws:=cc.bm.monoT (p.subT cc.bd zU);have bt:SidesV H G mb a R k es:=by
  refine ⟨p.other cc.bd cc.sd.get (fun cs h=>by cases h),cc.sd.keys,fun s=>?_,cc.sd.sep⟩;exact (cc.sd.bl s).monoT (p.subT cc.bd zU)
 obtain ⟨U,c,aY,aT,ah,bR,K,bY⟩:=Bl.push2 (ty2:=eQ) (bytes:=24) (id:=H2.next+9) (id2:=H2.next+8) (cs:=[ao]) (a:=W) (ar.mono j.sub) zU ag ⟨ao,rfl,hW⟩ zO zO a5 zO zO a4 zO (by have:=hc.wl; omega) (by have:=hc.wl; omega);have a0:dq (I.put (H2.next+8) (.cells [ao] eQ true)) (H2.next+9) 1 24 eQ vm (.own (H2.next+8) 0 1 1 1 true)=some (.own (H2.next+9) 0 U U 1 false,c):=aY;refine zW (cn m t0 v7 v8 a0) ?_;have J:Bl Sz eQ H I vm Ws:=ar.mono j.sub;have aR:=ah.wf;have ba:=j.get a9;have P:=K.other J ba (fun cs h=>by injection h with _ h2; exact absurd h2 zU);have aE:cm c w z.natAbs:=SlV.monoT (E:=bz cq) (K.subT J zU) (bk.mono j.sub);have aW:Bl intE aa H c (.own (H2.next+3) 0 B B 2 false) ((R.take k).map (Lin.dot a)++[z]):=(aq.mono j.sub).monoT (K.subT J zU);have ak:SidesV H c mb a R k es:=by
  have O:=bt.mono j.sub;refine ⟨K.other J O.get (fun cs h=>by cases h),O.keys,fun s=>?_,O.sep⟩;exact (O.bl s).monoT (K.subT J zU)
 have aI:fm z:=az.sm zO;have lk:=Eb ak.get ak.keys (jx z);refine aJ ?_;refine zD (aC m t6 P) ?_;refine AnsH.eq (xC C (z:=z) zF ⟨w,rfl,aE.mono (zG c)⟩ aI) fun bw A=>?_;obtain ⟨aj,_,b2⟩:=zT c zK A;have ay:=aj.get P;refine zD (aZ m t6 P ay) ?_;refine AnsH.eq (xC C (z:=z) zF ⟨w,rfl,aE.mono aj.sub⟩ aI) fun o S=>?_;have n:Kp c o:=aj.trans S;have bN:=n.le;have b3:=n.wf;have g:=ak.mono n.sub;have bq:=Eb g.get g.keys (jx z);have bH:=n.le;have a6:o.get (c.next+8)=none:=S.free (by have:=A.le; simp only [bL] at this; omega) (A.free (show _<c.next+11 by omega) (aR.fresh (b:=c.next+8) zO));have av:o.get (c.next+9)=none:=S.free (by have:=A.le; simp only [bL] at this; omega) (A.free (show _<c.next+11 by omega) (aR.fresh (b:=c.next+9) zO));have bT:c.next+11<=o.next:=WK A.le S.le
 have aO:Kp H o:=ah.trans n;have bO:=aO.le;have bE:=ah.le;have bD:=KK a R k (jx z);obtain ⟨F,M,a1,aV,bp,bU,N,bZ⟩:=Bl.push2 (ty2:=aL) (bytes:=8) (id:=c.next+9) (id2:=c.next+8) (cs:=[.int .i64 (k:Int)]) (a:=(k:Int)) (g.bl (jx z)) (fun h=>by cases h) aO ⟨_,rfl,rfl⟩ zO zO av zO zO a6 zO zO zO;have a2:dq (o.put (c.next+8) (.cells [.int .i64 (k:Int)] aL true)) (c.next+9) 1 8 aL (ia es (jx z)) (.own (c.next+8) 0 1 1 1 true)=some (.own (c.next+9) 0 F F 1 false,M):=a1;have ab:M.get mb=some (.map es):=N.other (g.bl (jx z)) g.get (fun cs h=>by cases h);have bv:=Tl ab g.keys (jx z) (.own (c.next+9) 0 F F 1 false);simp -dsimp (maxSteps:=1000000) (disch:=(first | omega | assumption | exact aF _ | exact bi _ _ | exact bB | exact cK _ _ _ | exact bS _ _ | exact bJ _ _ _ _ _ _ | exact cQ _ _ | exact bX _)) only [↓wD,wC,↓Tc,Tb,Nat.reduceLT,Nat.reduceEqDiff,Nat.reduceAdd,reduceIte,reduceCtorEq,Nat.reduceBEq,Int.reduceEq,Int.reduceLT,Int.reduceLE,Int.reduceAdd,Int.reduceSub,m,t6,P,ay,↓oU,↓Kl,He,bq,aA,a2,bv];have bP:=bp.wf _ _ ab;have V:∀ tys e,SubT tys M (M.put mb e):=fun tys e=>SubT.puts (SubT.refl _ _) (NoTy.map ab);have bd:R.getD k []=R[k]:=by simp [L]
 refine hq _ _ (.own (H2.next+9) 0 U U 1 false) (.own (H2.next+3) 0 B B 2 false) _ (Ws++[W]) (by simp only [jL]; exact m) (zV m) (zV m) zK ⟨?_,?_,?_,?_,am _ _ _,Fc g.keys _ _,fun s=>?_,fun s s' hne=>?_⟩
 ·exact ((aT.mono n.sub).monoT (N.subT (g.bl (jx z)) zU)).monoT (V _ _)
 ·rw [WM,hc.wl]; rfl
 ·intro t h h';by_cases ht:t<Ws.length
  ·rw [ZN ht]; exact hc.wok t h ht
  ·have e:t=k:=by rw [WM] at h'; have:=hc.wl; simp only [W5,XZ] at h'; omega
   subst e;rw [Y8 zO]
   simpa using mW
 ·rw [TY L,Xd];have e:[R[k]].map (Lin.dot a)=[z]:=by rw [hz]; rfl
  rw [e];exact ((aW.mono n.sub).monoT (N.subT (g.bl (jx z)) zU)).monoT (V _ _)
 ·rw [sK g.keys,Hz,bd,<- hz];by_cases hs:s=jx z
  ·subst hs;rw [if_pos rfl,if_pos rfl];exact aV.monoT (V _ _)
  ·rw [if_neg hs,if_neg (fun e=>hs e.symm),Xx];exact (N.bl (g.bl (jx z)) (g.bl s) (g.sep _ _ (fun e=>hs e.symm)) (fun h=>by cases h)).monoT (V _ _)
 ·have aB:∀ s,Sep (.own (c.next+9) 0 F F 1 false) (ia es s):=fun s x hx hy=>by
   cases hx;obtain ⟨cells,hcl⟩:=(g.bl s).blk hy;rw [av] at hcl; cases hcl
  rw [sK g.keys,sK g.keys];by_cases h1:s=jx z
  ·by_cases h2:s'=jx z
   ·exact absurd (h1.trans h2.symm) hne
   ·rw [if_pos h1,if_neg h2]; exact aB s'
  ·by_cases h2:s'=jx z
   ·rw [if_neg h1,if_pos h2]; exact (aB s).symm
   ·rw [if_neg h1,if_neg h2]; exact g.sep s s' hne
end
def cu (a:List Int) (R:List (List Int)) (s:Int):List Nat:=(List.range R.length).filter fun i=>jx (Lin.dot a (R.getD i [])) == s
theorem DA (a:List Int) (R:List (List Int)) (s:Int):Ab a R R.length s=(cu a R s).map fun i:Nat=>(i:Int):=rfl
def Wx {a:List Int} {R:List (List Int)} {s:Int} {i:Nat} (h:i∈cu a R s):i<R.length:=by
 unfold cu at h;rw [WO] at h
 simpa using h.1
def Aa (a:List Int) (R:List (List Int)) (s:Int):(cu a R s).length<=R.length:=by
 unfold cu;exact WK (XO _ _) (by simp)
def BV (D:List (List Int)) (a:List Int) (eq:Bool) (R:List (List Int)) (i:Nat):List (List Int) :=
 (if eq then [] else [R.getD i []])++((cu a R (-1)).filter (Lin.nearB D R i)).map fun k=>Lin.prime (Lin.mx a (R.getD i []) (R.getD k []))
def JY (D:List (List Int)) (a:List Int) (eq:Bool) (R:List (List Int)):Lin.cutL D a eq R=(cu a R 0).map (R.getD · [])++(cu a R 1).flatMap (BV D a eq R):=by
 have h0:Lin.idxs R (fun r=>Lin.dot a r == 0)=cu a R 0:=by
  unfold Lin.idxs cu;refine ZV fun i _=>?_;rw [Xo,beq_iff_eq,beq_iff_eq,lq]
 have h1:Lin.idxs R (fun r=>decide (0<Lin.dot a r))=cu a R 1:=by
  unfold Lin.idxs cu;refine ZV fun i _=>?_;rw [Xo,decide_eq_true_eq,beq_iff_eq];unfold jx;split
  ·constructor <;> intro h <;> omega
  ·split
   ·constructor <;> intro h <;> omega
   ·constructor <;> intro h <;> omega
 have h2:Lin.idxs R (fun r=>decide (Lin.dot a r<0))=cu a R (-1):=by
  unfold Lin.idxs cu;refine ZV fun i _=>?_;rw [Xo,decide_eq_true_eq,beq_iff_eq];unfold jx;split
  ·constructor <;> intro h <;> omega
  ·split
   ·constructor <;> intro h <;> omega
   ·constructor <;> intro h <;> omega
 unfold Lin.cutL;rw [h0,h1,h2];rfl
def Qs {D R:List (List Int)} {i k:Nat} (hi:i<R.length) (d:k<R.length):Ar (R.map fun r=>zeros r D) i k=Lin.nearB D R i k:=by
 have c:∀ t,t<R.length->(R.map fun r=>zeros r D).getD t []=zeros (R.getD t []) D:=fun t h=>by simp [h]
 have hh:∀ t,t<R.length->Ek ((R.map fun r=>zeros r D).getD t []) ((R.map fun r=>zeros r D).getD i []) ((R.map fun r=>zeros r D).getD k [])=(D.all fun b=>!(Lin.dot b (R.getD i []) == 0 && Lin.dot b (R.getD k []) == 0) || Lin.dot b (R.getD t []) == 0):=fun t h=>by
  rw [c t h,c i hi,c k d];have hg:∀ r x,x<D.length->(zeros r D).getD x false=decide (Lin.dot (D.getD x []) r=0):=fun r x hx=>by
   simp [zeros,hx,Lin.dot_comm r]
  unfold Ek;rw [Xo,WT,WT,wE];constructor
  ·intro h b hb;obtain ⟨x,hx,rfl⟩:=XH hb
   have:=h x (by simpa using hx)
   rw [hg _ x hx,hg _ x hx,hg _ x hx] at this;have e:D.getD x []=D[x]:=by simp [hx]
   rw [e] at this
   simpa using this
  ·intro h x hx;have hx:x<D.length:=by simpa using hx
   rw [hg _ x hx,hg _ x hx,hg _ x hx];have e:D.getD x []=D[x]:=by simp [hx]
   rw [e]
   have:=h D[x] (EL hx)
   simpa using this
 unfold Ar Lin.nearB;rw [Nj,Xo,WT,WT];constructor
 ·intro h t a
  have:=h t a
  rw [hh t (by simpa using a)] at this;exact this
 ·intro h t a
  have:=h t a
  rw [hh t (by simpa using a)];exact this
def CutV.frm {H H' H'':Heap} {mb:Nat} {a:List Int} {R D:List (List Int)} {k:Nat} {vm vd v:AV} {es:List (AV × AV)} {Ws:List (List Nat)} {l:List (List Int)} (h:CutV H H' mb a R D k vm vd es Ws) (b:Frm v H' H'') (hb:Bl rowsE af H H' v l):CutV H H'' mb a R D k vm vd es Ws :=
 ⟨h.bm.monoT (b.subT hb zU),h.wl,h.wok,h.bd.monoT (b.subT hb zU),b.other hb h.sd.get (fun cs e=>by cases e),h.sd.keys,fun s=>(h.sd.bl s).monoT (b.subT hb zU),h.sd.sep⟩
section
variable {tab:Nat->Option au} {H:Heap} {s:AV}
def Ei {H0 H:Heap} {v:AV} {l:List Nat} (h:BG H0 H v (l.map fun i:Nat=>(i:Int))) {j:Nat} (hj:j<l.length):bc H none (az v j)=some (.int .i64 ((l[j]:Nat):Int))/\cG 1 v (.int .i64 (j:Int))=some (az v j):=by
 obtain ⟨c,hc,b⟩:=SlV.at1 h.sl (i:=j) (a:=((l[j]:Nat):Int)) (by simp [hj]);have hc:c=.int .i64 ((l[j]:Nat):Int):=hc;rw [hc] at b;exact ⟨b,SlV.idx1 h.sl .i64 j (by simpa using hj)⟩
def Bl.ge {α:Type} {E:gr α} {ty:Nat} {H0 H:Heap} {v:AV} {l:List α} (h:Bl E ty H0 H v l) {b:Nat} (hb:jZ v=some b):H0.next<=b:=by
 rcases h with ⟨rfl,-⟩ | ⟨b',cells,rfl,-,-,h0⟩
 ·cases hb
 ·cases hb; exact h0
def Wr.putT {H0 H:Heap} {v:AV} {l:List (List Int)} {c b ty:Nat} {cs:List AV} {r:Bool} {e:Ent} (h:Wr H0 H v l c) (hb:H.get b=some (.cells cs ty r)) (h1:ty≠af) (h2:ty ∉ (Vt intE aa).tys):Wr H0 (H.put b e) v l c:=by
 refine h.put (fun a=>?_) (NoTy.ty hb h2);rcases h with ⟨rfl,-⟩ | ⟨b',cells,rfl,h3,-⟩
 ·cases a
 ·cases a;rw [hb] at h3
  injection h3 with h4; injection h4 with _ h5
  exact h1 h5
def CL (C:Code tab) {ub mb i:Nat} {ql qr qd va vm vd p:AV} {a:List Int} {R D pre:List (List Int)} {d e f:Nat} {es:List (AV × AV)} {Ws:List (List Nat)} {T1:Tm} {B:Heap} (aw:H.get ub=some (.cells [ql,qr,qd] aU true)) (L:d9 H qr R) (hd:d<=64) (ab:a.length=d) (hR:∀ r∈R,r.length=d/\∀ z∈r,Bt f z) (a3:D.length<=1024) (aa:∀ z∈a,Bt e z) (hb:2*(e+f+7)+2*f+1<=8796093022208) (a4:R.length<=1099000000000) (a7:pre.length<=1100000000000) (ae:Kp H B) (hi:i<R.length) (aL:T1.length=135)
  (t0:ad T1 0=.ptr ub 0) (v7:ad T1 7=vm) (v8:ad T1 8=vd) (aY:ad T1 16=.int .i64 (i:Int)) (aX:ad T1 12=p) (aZ:ad T1 92=ia es (-1)) (a0:ad T1 93=.int .i64 ((cu a R (-1)).length:Int)) (a1:ad T1 94=.int .i64 0) (hc:CutV H B mb a R D R.length vm vd es Ws) (ho:Bl rowsE af H B p pre) {Q:Ex->Tm->Heap->Prop}
  (hq:∀ T2 H2 aC,T2.length=135->ad T2 12=aC->Kp H H2->CutV H H2 mb a R D R.length vm vd es Ws->Bl rowsE af H H2 aC (pre++((cu a R (-1)).filter (Lin.nearB D R i)).map fun k=>Lin.prime (Lin.mx a (R.getD i []) (R.getD k [])))->Q .nrm T2 H2) :
  WC tab false (QL 6 7 94 93 95 129
  (.seq (.region [
  ⟨(some 96),.indexAddr 1 (.t 92) (.t 94),none⟩,
  ⟨(some 97),.load none (.t 96),none⟩,
  ⟨(some 18),.mv (.t 97),none⟩]) <|
  .seq (.region [
  ⟨(some 98),.mv (.t 7),none⟩,
  ⟨(some 99),.mv (.t 16),none⟩,
  ⟨(some 100),.mv (.t 18),none⟩,
  ⟨(some 101),.call (.c (.fn (.func nN) [] [])) [(.t 98),(.t 99),(.t 100)],none⟩]) <|
  .cond (.t 101)
  (.draw [
   ⟨(some 102),.mv (.t 12),none,[(12,none)],0,[(0,[]),(1,[]),(2,[])]⟩,
   ⟨(some 103),.mv (.t 8),none,[(8,none)],0,[(0,[])]⟩,
   ⟨(some 104),.mv (.t 18),none,[(18,none)],0,[(0,[])]⟩,
   ⟨(some 105),.indexAddr 2 (.t 103) (.t 104),none,[(103,(some 1)),(104,(some 2))],0,[(0,[])]⟩,
   ⟨(some 106),.load (some 2) (.t 105),none,[(105,(some 3))],0,[(0,[])]⟩,
   ⟨(some 107),.call (.c (.fn (.func pW) [] [])) [(.t 106)],none,[(106,(some 4))],2,[(0,[])]⟩,
   ⟨(some 108),.mv (.t 0),none,[(0,none)],0,[(0,[]),(1,[])]⟩,
   ⟨(some 109),.nilCheck (.t 108),none,[(108,(some 6))],0,[(0,[]),(1,[])]⟩,
   ⟨(some 110),.fieldAddr 1 (.t 109),none,[(109,(some 7))],0,[(0,[]),(1,[])]⟩,
   ⟨(some 111),.load none (.t 110),none,[(110,(some 8))],0,[(0,[]),(1,[])]⟩,
   ⟨(some 112),.mv (.t 16),none,[(16,none)],0,[(0,[]),(1,[])]⟩,
   ⟨(some 113),.indexAddr 1 (.t 111) (.t 112),none,[(111,(some 9)),(112,(some 10))],0,[(0,[]),(1,[])]⟩,
   ⟨(some 114),.load none (.t 113),none,[(113,(some 11))],0,[(0,[]),(1,[])]⟩,
   ⟨(some 115),.mv (.t 8),none,[(8,none)],0,[(0,[]),(1,[])]⟩,
   ⟨(some 116),.mv (.t 16),none,[(16,none)],0,[(0,[]),(1,[])]⟩,
   ⟨(some 117),.indexAddr 2 (.t 115) (.t 116),none,[(115,(some 13)),(116,(some 14))],0,[(0,[]),(1,[])]⟩,
   ⟨(some 118),.load (some 2) (.t 117),none,[(117,(some 15))],0,[(0,[]),(1,[])]⟩,
   ⟨(some 119),.mv (.t 0),none,[(0,none)],0,[(0,[]),(1,[])]⟩,
   ⟨(some 120),.nilCheck (.t 119),none,[(119,(some 17))],0,[(0,[]),(1,[])]⟩,
   ⟨(some 121),.fieldAddr 1 (.t 120),none,[(120,(some 18))],0,[(0,[]),(1,[])]⟩,
   ⟨(some 122),.load none (.t 121),none,[(121,(some 19))],0,[(0,[]),(1,[])]⟩,
   ⟨(some 123),.mv (.t 18),none,[(18,none)],0,[(0,[]),(1,[])]⟩,
   ⟨(some 124),.indexAddr 1 (.t 122) (.t 123),none,[(122,(some 20)),(123,(some 21))],0,[(0,[]),(1,[])]⟩,
   ⟨(some 125),.load none (.t 124),none,[(124,(some 22))],0,[(0,[]),(1,[])]⟩,
   ⟨(some 126),.call (.c (.fn (.func Vj) [] [])) [(.t 107),(.t 114),(.t 118),(.t 125)],none,[(107,(some 5)),(114,(some 12)),(118,(some 16)),(125,(some 23))],2,[(1,[])]⟩,
   ⟨(some 127),.buildSlice af 1 [.nilSl] 1 [((0,1),(.t 126))],none,[(126,(some 24))],1,[(2,[])]⟩,
   ⟨(some 128),.append 1 24 af [.nilSl] (.t 102) (.t 127),none,[(102,(some 0)),(127,(some 25))],2,[(2,[25])]⟩,
   ⟨(some 12),.mv (.t 128),none,[(128,(some 26))],0,[(3,[])]⟩] [])
  (.skip))) T1 B Q:=by
 have hw:=ae.wf0;have bg:=hw _ _ aw;have a8:=Aa a R (-1);have F:=hR _ (EL hi);obtain ⟨bk,aR,aM⟩:=dE L hi;have aD:=SlV.idx1 L .i64 i hi;have gi:R.getD i []=R[i]:=by simp [hi]
 refine aq H [12] (fun m vs H'=>∃ p,vs=[p]/\CutV H H' mb a R D R.length vm vd es Ws/\Bl rowsE af H H' p (pre++(((cu a R (-1)).take m).filter (Lin.nearB D R i)).map fun k=>Lin.prime (Lin.mx a (R.getD i []) (R.getD k [])))) (a:=0) (N:=(cu a R (-1)).length) aL a1 a0 (WG _) zO rfl rfl (fun m vs H' n ⟨p,h1,h2,h3⟩=>⟨p,h1,h2.mono (Sub.bump H' n),h3.mono (Sub.bump H' n)⟩) ae ⟨p,by show [ad T1 12]=_; rw [aX],hc,by simpa using ho⟩ ?_ ?_
 ·rintro m T2 H2 _ hm l aH w s ⟨O,j,g,A⟩;have w2:=s.wf;have ba:=s.le;have a9:=s.le;simp only [SA,WF,Ud,and_true] at j;have V:ad T2 0=.ptr ub 0:=(w.at_ 0 zU).trans t0;have u7:ad T2 7=vm:=(w.at_ 7 zU).trans v7;have u8:ad T2 8=vd:=(w.at_ 8 zU).trans v8;have M:ad T2 16=.int .i64 (i:Int):=(w.at_ 16 zU).trans aY;have a2:ad T2 92=ia es (-1):=(w.at_ 92 zU).trans aZ;have aQ:BG H H2 (ia es (-1)) ((cu a R (-1)).map fun i:Nat=>(i:Int)):=g.sd.bl (-1);obtain ⟨ag,aI⟩:=Ei aQ hm;obtain ⟨k,P⟩:∃ k,k=(cu a R (-1))[m]:=⟨_,rfl⟩
  rw [<- P] at ag;have v:k<R.length:=by rw [P]; exact Wx (EL hm)
  have gk:R.getD k []=R[k]:=by simp [v]
  refine zW (ip l a2 u7 M aH aI ag) ?_;have aV:(R.map fun r=>zeros r D).length=R.length:=by simp
  refine AnsH.eq (L3 C (zs:=R.map fun r=>zeros r D) (n:=D.length) zF (g.bm.sl.mono (zG H2)) (by rw [g.wl,aV]) (fun t h h'=>?_) (fun z hz=>?_) zO zO zO zO) fun c aK=>?_
  ·rw [Zn]; exact g.wok t zO h'
  ·rw [DT] at hz;obtain ⟨r,-,rfl⟩:=hz;exact wE r D
  rw [Qs hi v];obtain ⟨k23,_,_⟩:=zT H2 zK aK;have o:Kp H c:=s.trans k23;have bb:=o.le;have w3:=o.wf;have av:(cu a R (-1)).take (m+1)=(cu a R (-1)).take m++[k]:=by rw [TY hm,<- P]
  cases al:Lin.nearB D R i k with
  | false =>
   refine zW (aB l j) ?_;refine ⟨o,O,rfl,g.mono k23.sub,?_⟩;rw [av,XQ];simp only [YI,al,Xs,if_false,Zu,Xx];exact A.mono k23.sub
  | true =>
   have G:=hR _ (EL v);have a5:((R.take R.length).map (Lin.dot a)).length=R.length:=by simp
   have Z:∀ t (h:t<R.length),((R.take R.length).map (Lin.dot a))[t]'zO=Lin.dot a R[t]:=fun t h=>by simp
   have E:=g.bd.sl;obtain ⟨wk,ao,K,-,-⟩:=jM (E.mono k23.sub) (i:=k) zO;obtain ⟨wi,am,J,-,-⟩:=jM (E.mono k23.sub) (i:=i) zO;rw [Z k v] at ao K;rw [Z i hi] at am J;have W:cG 2 vd (.int .i64 (k:Int))=some (az vd (k*2)):=SlV.idx E .i64 k zO;have xi:cG 2 vd (.int .i64 (i:Int))=some (az vd (i*2)):=SlV.idx E .i64 i zO;obtain ⟨bl,aT,aN⟩:=dE L v;have aE:=SlV.idx1 L .i64 k v;have U:=o.get aw;have S:=bV o.sub aM;have T:=bV o.sub aN;have Y:=rH aa G.2 (ab.trans G.1.symm) zO;have di:=rH aa F.2 (ab.trans F.1.symm) zO;refine zW (aB l j) ?_;refine aJ ?_;refine zD (lp l j V u8 M W K @aS) ?_;refine AnsH.use (A3 C (z:=Lin.dot a R[k]) zF ⟨wk,rfl,ao.mono (zG c)⟩ (Y.sm zO)) ?_;rintro v4 X ⟨aO,u⟩;obtain ⟨x,_,w4⟩:=zT c zK u;have aW:Kp H X:=o.trans x;have bc:=aW.le;have ax:=x.get U;have ah:=bV x.sub S;have aj:=bV x.sub T;have ak:=bV x.sub J;refine zD (RD l j V u8 M W xi aD aE K J ak U ax S ah T aj @aS) ?_;refine AnsH.use (Gv C (m:=-(Lin.dot a R[k])) (n:=Lin.dot a R[i]) zF (aO.mono (zG X)) ⟨wi,rfl,am.mono (zG c)⟩ (aR.mono (zG H)) (aT.mono (zG H)) (F.1.trans G.1.symm) zO Y.neg di F.2 G.2 zO) ?_;rintro v5 q ⟨ar,I⟩;have y:Kp c q:=Kp.trans x (Kp.trans zK I);have bf:=y.le;have w5:=y.wf;have ay:Kp H q:=o.trans y;have bd:=ay.le;have o5:=ar.one;have f25:q.get (c.next+25)=none:=I.free (by have:=u.le; simp only [bL] at this; omega) (u.free (show _<c.next+28 by omega) (w3.fresh (b:=c.next+25) zO));have f26:q.get (c.next+26)=none:=I.free (by have:=u.le; simp only [bL] at this; omega) (u.free (show _<c.next+28 by omega) (w3.fresh (b:=c.next+26) zO));have bh:c.next+28<=q.next:=WK u.le I.le
   have aA:=A.mono (k23.trans y).sub;have aP:RowV q v5 (Lin.prime (Lin.mx a (R.getD i []) (R.getD k []))):=by rw [gi,gk]; exact ar
   have a6:(pre++(((cu a R (-1)).take m).filter (Lin.nearB D R i)).map fun k=>Lin.prime (Lin.mx a (R.getD i []) (R.getD k []))).length<=pre.length+R.length:=by
    rw [WM,Nj];have h1:=XO (Lin.nearB D R i) ((cu a R (-1)).take m);rw [WU] at h1;omega
   obtain ⟨n6,H6,e6,b6,k6,bj,f6,u6⟩:=Bl.push2 (ty2:=af) (bytes:=24) (id:=c.next+26) (id2:=c.next+25) (cs:=[v5]) (a:=Lin.prime (Lin.mx a (R.getD i []) (R.getD k []))) aA zU ay ⟨v5,rfl,aP⟩ zO zO f26 zO zO f25 zO zO zO;have aG:dq (q.put (c.next+25) (.cells [v5] af true)) (c.next+26) 1 24 af O (.own (c.next+25) 0 1 1 1 true)=some (.own (c.next+26) 0 n6 n6 1 false,H6):=e6;refine zD (Uf l j V u8 M W xi aD aE K J ak U ax S ah T aj @aS aG) ?_;refine ⟨k6,_,rfl,(g.mono (k23.trans y).sub).frm f6 aA,?_⟩;rw [av,XQ,Xd,<- Yf];simp only [YI,al,if_true,Zu,SA,WF];exact b6
 ·rintro T2 H2 l w s ⟨O,j,g,A⟩;simp only [SA,WF,Ud,and_true] at j;rw [WZ] at A;exact hq T2 H2 O l j s g A
def OX (C:Code tab) {H0:Heap} {ub:Nat} {u:Lin.Under} {va:AV} {a:List Int} {eq:Bool} {d e f:Nat} (hk:Kp H0 H) (bo:H0.next<=ub) (hu:UnderV H0 H ub u) (ha:RowV H va a) (aO:0<d) (hd:d<=64) (al:a.length=d) (hR:∀ r∈u.rays,r.length=d/\∀ z∈r,Bt f z) (hD:∀ r∈u.done,r.length=d/\∀ z∈r,Bt e z) (ab:u.done.length<=1024) (ak:∀ z∈a,Bt e z) (hb:2*(e+f+7)+2*f+1<=8796093022208) (ao:u.rays.length<=1099000000000) (hcl:(Lin.cutL u.done a eq u.rays).length<=1099000000000) :
  Ans tab (.fn jh [.ptr ub 0,va,.bool eq]) H fun v H'=>v=.tup []/\Kp H0 H'/\UnderV H0 H' ub ⟨u.lines,Lin.cutL u.done a eq u.rays,u.done⟩/\∀ b e,H.get b=some e->b≠ub->H'.get b=some e:=by
 have hw:=hk.wf;obtain ⟨ql,qr,qd,cl,K,aE,F,ag,s1,s2,s3⟩:=hu;have bs:=hw _ _ K;obtain ⟨R,aM⟩:∃ R,R=u.rays:=⟨_,rfl⟩
 obtain ⟨D,aK⟩:∃ D,D=u.done:=⟨_,rfl⟩
 rw [<- aM] at hR F ao hcl ⊢;rw [<- aK] at hD ab ag hcl ⊢;refine B0 C.q120 rfl rfl zU fun T hl g=>?_;have hl:T.length=135:=hl;have aY:c_P_cone_under_cut.results=[]:=rfl;have P:ad T 0=.ptr ub 0:=g 0 (by simp);have W:ad T 1=va:=g 1 (by simp);have X:ad T 2=.bool eq:=g 2 (by simp);refine bf ?_;simp -dsimp (maxSteps:=1000000) (disch:=(first | omega | assumption | exact aF _ | exact bi _ _ | exact bB | exact cK _ _ _ | exact bS _ _ | exact bJ _ _ _ _ _ _ | exact cQ _ _ | exact bX _)) only [↓wD,wC,Nat.reduceLT,Nat.reduceEqDiff,Nat.reduceAdd,reduceIte,reduceCtorEq,Nat.reduceBEq,Int.reduceEq,Int.reduceLT,Int.reduceLE,Int.reduceAdd,Int.reduceSub,hl,P,W,X,↓MK,aD];refine bf ?_;refine zW (cn hl P W X @aD) ?_;refine bf ?_;refine zW (cn hl P W X @aD) ?_;have aL:R.length<1099511627776:=zO;refine cZ (fun T' H'=>∃ vm vd es Ws,ad T' 7=vm/\ad T' 8=vd/\Kp H H'/\CutV H H' H.next a R D R.length vm vd es Ws) rfl ?_ ?_
 ·refine zW (ip hl P W X K F.sl.lenV @aV) ?_;refine aq H [7,8] (fun k vs H'=>∃ vm vd es Ws,vs=[vm,vd]/\CutV H H' H.next a R D k vm vd es Ws) (a:=0) (N:=R.length) rfl (by refine zW hl ?_; rfl) (zV hl) (WG _) zO (by simp only [jL,hl]; rfl) rfl (fun k vs H' m ⟨vm,vd,es,Ws,h1,h2⟩=>⟨vm,vd,es,Ws,h1,h2.mono (Sub.bump H' m)⟩) zK ⟨.nilSl,.nilSl,[],[],by exact zV hl,Bl.nil,rfl,fun t h h'=>by simp at h',Bl.nil,by exact cY,(fun p hp=>by cases hp),(fun s=>Bl.nil),(fun s s' _ b hb=>by cases hb)⟩ ?_ ?_
  ·rintro k T1 H1 _ Z j aP B aS ⟨vm,vd,es,Ws,w,hc⟩;simp only [SA,WF,Ud,and_true] at w;simp only [jL,hl] at j;refine LX C K F.sl ag.sl ha aO hd al hR hD ab ak zO aL aS Z j ((B.at_ 0 zU).trans (zV (aB hl P))) ((B.at_ 1 zU).trans (zV (aB hl W))) ((B.at_ 6 zU).trans (zV hl)) ((B.at_ 23 zU).trans (zV hl)) aP w.1 w.2 (Jv _) hc ?_;intro T2 H2 bj bh aJ aI h1 h2 h3 h4 h5;refine zW (aC h1 h2 h3) ?_;exact ⟨h4,bj,bh,aJ,aI,rfl,h5⟩
  ·rintro T1 H1 j B aR ⟨vm,vd,es,Ws,w,hc⟩;simp only [SA,WF,Ud,and_true] at w;refine zW (aB j @aV) ?_;exact ⟨vm,vd,es,Ws,w.1,w.2,aR,hc⟩
 rintro T1 H1 B ⟨vm,vd,es,Ws,v7,v8,k1,hc⟩;have w1:=k1.wf;have t0:ad T1 0=.ptr ub 0:=(B.at_ 0 zU).trans (zV (aB hl P));have t2:ad T1 2=.bool eq:=(B.at_ 2 zU).trans (zV (aB hl X));have t6:ad T1 6=.map H.next:=(B.at_ 6 zU).trans (zV hl)
 have j:T1.length=135:=B.len.trans (by simp only [jL]; exact hl);have ah:∀ (H':Heap),CutV H H' H.next a R D R.length vm vd es Ws->∀ z n,tt (H'.up n) .int .nilSl (.map H.next) (.int .i64 z) false=some (ia es z):=fun H' h z n=>Eb (by exact h.sd.get) h.sd.keys z
 have a6:=ah H1 hc 0;have a5:lenV (ia es 0)=some (.int .i64 ((cu a R 0).length:Int)):=by
  rw [(hc.sd.bl 0).sl.lenV,DA,Nj]
 have bl:=Aa a R 0;have bm:=Aa a R 1;refine WC.wb ?_;simp -dsimp (maxSteps:=1000000) (disch:=(first | omega | assumption | exact aF _ | exact bi _ _ | exact bB | exact cK _ _ _ | exact bS _ _ | exact bJ _ _ _ _ _ _ | exact cQ _ _ | exact bX _)) only [↓wD,wC,Nat.reduceLT,Nat.reduceEqDiff,Nat.reduceAdd,reduceIte,reduceCtorEq,Nat.reduceBEq,Int.reduceEq,Int.reduceLT,Int.reduceLE,Int.reduceAdd,Int.reduceSub,j,t0,t6,↓oU,a6,a5];refine aq H [12] (fun m vs H'=>∃ y,vs=[y]/\CutV H H' H.next a R D R.length vm vd es Ws/\Bl rowsE af H H' y (((cu a R 0).take m).map (R.getD · []))) (a:=0) (N:=(cu a R 0).length) rfl (by refine zW j ?_; rfl) (zV j) (WG _) zO (by simp only [jL,j]; rfl) rfl (fun m vs H' n ⟨y,h1,h2,h3⟩=>⟨y,h1,h2.mono (Sub.bump H' n),h3.mono (Sub.bump H' n)⟩) zK ⟨.nilSl,by exact zV j,hc.mono (Sub.bump H1 _),Bl.nil⟩ ?_ ?_
 ·rintro m T2 H2 _ hm l aQ I A ⟨y,w,U,o2⟩;have w2:=A.wf;have a3:=A.le;have bp:=A.le;simp only [SA,WF,Ud,and_true] at w;simp only [jL,j] at l;have u0:ad T2 0=.ptr ub 0:=(I.at_ 0 zU).trans (zV (aB j t0));have bg:ad T2 55=ia es 0:=(I.at_ 55 zU).trans (zV j);obtain ⟨Q,ae⟩:=Ei (show BG H H2 (ia es 0) ((cu a R 0).map fun i:Nat=>(i:Int)) from U.sd.bl 0) hm;obtain ⟨k,Z⟩:∃ k,k=(cu a R 0)[m]:=⟨_,rfl⟩
  rw [<- Z] at Q;have av:k<R.length:=by rw [Z]; exact Wx (EL hm)
  obtain ⟨vr,aa,ax⟩:=dE F.sl av;have xr:=SlV.idx1 F.sl .i64 k av;have a1:=A.get K;have aT:=bV A.sub ax;have bc:=aa.one;have gk:R.getD k []=R[k]:=by simp [av]
  have bk:(((cu a R 0).take m).map (R.getD · [])).length<=R.length:=by simp; omega
  obtain ⟨n6,O,e6,b6,k6,ba,f6,u6⟩:=Bl.push1 (ty2:=af) (bytes:=24) (id:=H2.next+12) (id2:=H2.next+11) (k:=14) (cs:=[vr]) (a:=R.getD k []) o2 zU A ⟨vr,rfl,by rw [gk]; exact aa.mono A.sub⟩ zO zO zO zO zO zO zO;have aj:dq ((H2.up 14).put (H2.next+11) (.cells [vr] af true)) (H2.next+12) 1 24 af y (.own (H2.next+11) 0 1 1 1 true)=some (.own (H2.next+12) 0 n6 n6 1 false,O):=e6;refine zW (mo l u0 bg aQ ae Q w a1 xr aT aj) ?_;refine ⟨k6,_,rfl,U.frm f6 o2,?_⟩;rw [TY hm,Xd,<- Z];exact b6
 ·rintro T2 H2 l I A ⟨y,w,U,o2⟩;have w2:=A.wf;have a3:=A.le;simp only [SA,WF,Ud,and_true] at w;simp only [jL,j] at l;rw [WZ] at o2;have u0:ad T2 0=.ptr ub 0:=(I.at_ 0 zU).trans (zV (aB j t0));have u2:ad T2 2=.bool eq:=(I.at_ 2 zU).trans (zV (aB j t2));have u6:ad T2 6=.map H.next:=(I.at_ 6 zU).trans (zV (aB j t6))
  have u7:ad T2 7=vm:=(I.at_ 7 zU).trans (zV (aB j v7));have u8:ad T2 8=vd:=(I.at_ 8 zU).trans (zV (aB j v8));have a7:=ah H2 U 1;have TF:lenV (ia es 1)=some (.int .i64 ((cu a R 1).length:Int)):=by
   rw [(hc.sd.bl 1).sl.lenV,DA,Nj]
  simp -dsimp (maxSteps:=1000000) (disch:=(first | omega | assumption | exact aF _ | exact bi _ _ | exact bB | exact cK _ _ _ | exact bS _ _ | exact bJ _ _ _ _ _ _ | exact cQ _ _ | exact bX _)) only [↓wD,wC,Nat.reduceLT,Nat.reduceEqDiff,Nat.reduceAdd,reduceIte,reduceCtorEq,Nat.reduceBEq,Int.reduceEq,Int.reduceLT,Int.reduceLE,Int.reduceAdd,Int.reduceSub,l,u0,u6,↓oU,a7,TF];refine aq H [12] (fun m vs H'=>∃ y,vs=[y]/\CutV H H' H.next a R D R.length vm vd es Ws/\Bl rowsE af H H' y ((cu a R 0).map (R.getD · [])++((cu a R 1).take m).flatMap (BV D a eq R))) (a:=0) (N:=(cu a R 1).length) rfl (by refine zW l ?_; rfl) (zV l) (WG _) zO (by simp only [jL,l]; rfl) rfl (fun m vs H' n ⟨y,h1,h2,h3⟩=>⟨y,h1,h2.mono (Sub.bump H' n),h3.mono (Sub.bump H' n)⟩) zK ⟨y,by exact zV (aB l w),U.mono (Sub.bump H2 _),by rw [Y6,List.flatMap_nil,Xx]; exact o2.mono (Sub.bump H2 _)⟩ ?_ ?_
  ·rintro m G o _ hm c aA J q ⟨S,M,V,E⟩;have w3:=q.wf;have a4:=q.le;have bq:=q.le;simp only [SA,WF,Ud,and_true] at M;simp only [jL,l] at c;have z0:ad G 0=.ptr ub 0:=(J.at_ 0 zU).trans (zV (aB l u0));have z2:ad G 2=.bool eq:=(J.at_ 2 zU).trans (zV (aB l u2));have z6:ad G 6=.map H.next:=(J.at_ 6 zU).trans (zV (aB l u6))
   have z7:ad G 7=vm:=(J.at_ 7 zU).trans (zV (aB l u7));have z8:ad G 8=vd:=(J.at_ 8 zU).trans (zV (aB l u8));have aH:ad G 73=ia es 1:=(J.at_ 73 zU).trans (zV l);obtain ⟨Q,ae⟩:=Ei (show BG H o (ia es 1) ((cu a R 1).map fun i:Nat=>(i:Int)) from V.sd.bl 1) hm;obtain ⟨i,ar⟩:∃ i,i=(cu a R 1)[m]:=⟨_,rfl⟩
   rw [<- ar] at Q;have Y:i<R.length:=by rw [ar]; exact Wx (EL hm)
   have gi:R.getD i []=R[i]:=by simp [Y]
   obtain ⟨pre,ay⟩:∃ pre,pre=(cu a R 0).map (R.getD · [])++((cu a R 1).take m).flatMap (BV D a eq R):=⟨_,rfl⟩
   have bn:pre.length<=1099000000000:=by
    refine WK ?_ hcl;have e:(cu a R 1).flatMap (BV D a eq R)=((cu a R 1).take m).flatMap (BV D a eq R)++((cu a R 1).drop m).flatMap (BV D a eq R):=by rw [<- List.flatMap_append,Z6]
    rw [JY,e,ay];simp only [WM];omega
   have a0:(cu a R 0).map (R.getD · [])++((cu a R 1).take (m+1)).flatMap (BV D a eq R)=pre++BV D a eq R i:=by
    rw [TY hm,List.flatMap_append,<- Yf,<- ay,<- ar]
    simp
   rw [a0];rw [<- ay] at E;have a9:=ah o V (-1);have aG:lenV (ia es (-1))=some (.int .i64 ((cu a R (-1)).length:Int)):=by
    rw [(hc.sd.bl (-1)).sl.lenV,DA,Nj]
   cases heq:eq with
   | true =>
    rw [heq] at z2;simp -dsimp (maxSteps:=1000000) (disch:=(first | omega | assumption | exact aF _ | exact bi _ _ | exact bB | exact cK _ _ _ | exact bS _ _ | exact bJ _ _ _ _ _ _ | exact cQ _ _ | exact bX _)) only [↓wD,wC,Nat.reduceLT,Nat.reduceEqDiff,Nat.reduceAdd,reduceIte,reduceCtorEq,Nat.reduceBEq,Int.reduceEq,Int.reduceLT,Int.reduceLE,Int.reduceAdd,Int.reduceSub,c,z0,z2,z6,aH,aA,ae,Q,M,↓oU,a9,aG];refine CL (va:=va) C K F.sl hd al hR ab ak hb ao (pre:=pre) zO (q.up _) Y (by simp only [jL]; exact c) (zV (aB c z0)) (zV (aB c z7)) (zV (aB c z8)) (zV c) (zV (aB c M)) (zV c) (zV c) (zV c) (V.mono (Sub.bump o _)) (E.mono (Sub.bump o _)) ?_;intro T4 H4 az h1 h2 h3 h4 h5;refine zW (aB h1 h2) ?_;exact ⟨h3,az,rfl,h4,by unfold BV; simpa using h5⟩
   | false =>
    rw [heq] at z2;obtain ⟨vr,aa,ax⟩:=dE F.sl Y;have xr:=SlV.idx1 F.sl .i64 i Y;have L:=q.get K;have aW:=bV q.sub ax;have bc:=aa.one;obtain ⟨n6,O,e6,b6,k6,ba,f6,bu⟩:=Bl.push1 (ty2:=af) (bytes:=24) (id:=o.next+14) (id2:=o.next+13) (k:=16) (cs:=[vr]) (a:=R.getD i []) E zU q ⟨vr,rfl,by rw [gi]; exact aa.mono q.sub⟩ zO zO zO zO zO zO zO;have aj:dq ((o.up 16).put (o.next+13) (.cells [vr] af true)) (o.next+14) 1 24 af S (.own (o.next+13) 0 1 1 1 true)=some (.own (o.next+14) 0 n6 n6 1 false,O):=e6;have c6:=V.frm f6 E;have a8:=ah O c6 (-1);have w6:=k6.wf;simp -dsimp (maxSteps:=1000000) (disch:=(first | omega | assumption | exact aF _ | exact bi _ _ | exact bB | exact cK _ _ _ | exact bS _ _ | exact bJ _ _ _ _ _ _ | exact cQ _ _ | exact bX _)) only [↓wD,wC,Nat.reduceLT,Nat.reduceEqDiff,Nat.reduceAdd,reduceIte,reduceCtorEq,Nat.reduceBEq,Int.reduceEq,Int.reduceLT,Int.reduceLE,Int.reduceAdd,Int.reduceSub,c,z0,z2,z6,aH,aA,ae,Q,M,L,xr,aW,aj,↓oU,a8,aG];refine CL (va:=va) C K F.sl hd al hR ab ak hb ao (pre:=pre++[R.getD i []]) (by simp; omega) (k6.up _) Y (by simp only [jL]; exact c) (zV (aB c z0)) (zV (aB c z7)) (zV (aB c z8)) (zV c) (by refine zW c ?_; rfl) (zV c) (zV c) (zV c) (c6.mono (Sub.bump O _)) (b6.mono (Sub.bump O _)) ?_;intro T4 H4 az h1 h2 h3 h4 h5;refine zW (aB h1 h2) ?_;exact ⟨h3,az,rfl,h4,by unfold BV; simpa using h5⟩
  ·rintro G o c J q ⟨S,M,V,E⟩;have w3:=q.wf;have a4:=q.le;simp only [SA,WF,Ud,and_true] at M;simp only [jL,l] at c;rw [WZ,<- JY] at E;have z0:ad G 0=.ptr ub 0:=(J.at_ 0 zU).trans (zV (aB l u0));have L:=q.get K;have bt:=w3 _ _ L;have a2:Kp H0 o:=hk.trans q;have br:=a2.le;have bd:=E.sl.one;have aZ:y5 (some (.cells [ql,qr,qd] aU true)) 1 1 S=some (.cells [ql,S,qd] aU true):=fY bd.fits (by simp);refine zW (fy c z0 M L aY aZ) ?_;have aX:=hk.le;have bb:Wr H0 o S (Lin.cutL D a eq R) (Lin.cutL D a eq R).length:=E.wr.base aX;refine ⟨zK,⟨ql,S,qd,cl,am _ _ _,((aE.mono q.sub).mono (Sub.bump o 5)).putT L zU zU,(bb.mono (Sub.bump o 5)).putT L zU zU,((ag.mono q.sub).mono (Sub.bump o 5)).putT L zU zU,fun x hx hy=>?_,s2,fun x hx hy=>?_⟩,fun b e aN hne=>?_⟩
   ·have h1:=aE.old hw hx;have h2:=E.ge hy;omega
   ·have h1:=ag.old hw hy;have h2:=E.ge hx;omega
   ·rw [aw hne]; exact q.get aN
end
def SlV.ro {α:Type} {E:gr α} {ty:Nat} {H H':Heap} {v:AV} {l:List α} (j:∀ cs a,E.R H cs a->E.R H' cs a) (h:∀ b cs r,H.get b=some (.cells cs ty r)->∃ d,H'.get b=some (.cells cs ty d)) (hs:SlV E ty H v l):SlV E ty H' v l:=by
 obtain ⟨cells,⟨h0,h1,n,h2,h3⟩,g,hc⟩:=hs;refine ⟨cells,⟨h0,h1,n,h2,?_⟩,fun b off n c z x e=>?_,hc.1,fun i a hi=>j _ _ (hc.2 i a hi)⟩
 ·unfold aK at h3 ⊢;split at h3
  ·rename_i b off m c sz ex;obtain ⟨cs,r,hb⟩:=g _ _ _ _ _ _ rfl;obtain ⟨d,f⟩:=h _ _ _ hb;rw [hb] at h3;rw [f];exact h3
  ·exact h3
  ·exact h3
  ·exact h3
  ·cases h3
 ·obtain ⟨cs,r,hb⟩:=g b off n c z x e;obtain ⟨d,f⟩:=h _ _ _ hb;exact ⟨cs,d,f⟩
def RowV.ro {H H':Heap} {v:AV} {l:List Int} (h1:∀ b cs r,H.get b=some (.cells cs ae r)->∃ c,H'.get b=some (.cells cs ae c)) (h2:∀ b cs r,H.get b=some (.cells cs aa r)->∃ c,H'.get b=some (.cells cs aa c)) (h:RowV H v l):RowV H' v l :=
 SlV.ro (E:=intE) (fun cs a ⟨w,e,hn⟩=>⟨w,e,SlV.ro (E:=bz cq) (H:=H) (H':=H') (fun cs a ⟨v,e,d⟩=>⟨v,e,d⟩) h1 hn⟩) h2 h
def J5:∀ {x y:List Int},x.length=y.length->(EI x y<0 ↔ Lin.cmpV y x=false)
 | [],[],_=>by simp [EI,BX,Lin.cmpV]
 | a :: x,b :: y,h=>by
  have d:=J5 (x:=x) (y:=y) (by simpa using h);unfold EI at d ⊢;unfold BX Lin.cmpV;by_cases h1:a=b
  ·subst h1;have e:jx (a-a)=0:=by rw [lq]; omega
   simp only [e,Int.lt_irrefl,if_false,if_true,ne_eq,not_true_eq_false];exact d
  ·have e:jx (a-b)≠0:=fun h=>h1 (by rw [lq] at h; omega);rcases Int.lt_or_gt_of_ne h1 with h2 | h2
   ·have c:jx (a-b)<0:=by unfold jx; split <;> (try split) <;> omega
    have f:¬ b<a:=zO;simp [e,c,f,Ne.symm h1]
   ·have c:¬ jx (a-b)<0:=by unfold jx; split <;> (try split) <;> omega
    simp [e,c,h2]
section
variable {tab:Nat->Option au} {H:Heap} {s:AV}
def xM {f ty:Nat} {gs:List Nat} {fn:au} (a:tab f=some fn) (he:fn.ext=some (.sortF ty gs)) {args:List AV} {v:AV} {H':Heap} {Q:AV->Heap->Prop} (h:∃ N,∀ m n,N<=m->N<=n->Ci (mp tab fe m n) ty gs H args=some (v,H')) (hq:Q v H'):Ans tab (.fn f args) H Q:=by
 obtain ⟨N,h⟩:=h;refine ⟨v,H',⟨N+1,fun m n hm hn=>?_⟩,hq⟩;obtain ⟨n',rfl⟩:∃ n',n=n'+1:=⟨n-1,zO⟩
 show kh tab fe (mp tab fe m n') m (.fn f args) H=_;simp only [kh,a,he];exact h m n' zO zO
def A6 {g:Nat} {caps:List AV} {D:Heap} {x:AV}:∀ (l:List AV) (c:Nat->Int),(∀ j (h:j<l.length),Ans tab (.fn g ([x,l[j]]++caps)) D fun v _=>v=.int .i64 (c j))->∃ N,∀ m n,N<=m->N<=n->rL (mp tab fe m n) g caps D x l=some ((List.range l.length).map c)
 | [],c,_=>⟨0,fun _ _ _ _=>rfl⟩
 | y :: l,c,h=>by
  obtain ⟨N,d⟩:=A6 l (fun j=>c (j+1)) fun j hj=>h (j+1) (by simpa using hj);obtain ⟨v,e,⟨a,h0⟩,b⟩:=h 0 (by simp);simp only [Z1] at h0;subst b;refine ⟨N+a,fun m n hm hn=>?_⟩;simp only [rL,h0 m n zO zO,d m n zO zO];rw [W5,List.range_succ_eq_map,SA,Yw];rfl
def yp {g:Nat} {caps all:List AV} {D:Heap}:∀ (l:List AV) (c:Nat->Nat->Int),(∀ i (h:i<l.length) j (h':j<all.length),Ans tab (.fn g ([l[i],all[j]]++caps)) D fun v _=>v=.int .i64 (c i j)) ->
  ∃ N,∀ m n,N<=m->N<=n->sU (mp tab fe m n) g caps D all l=some ((List.range l.length).map fun i=>(List.range all.length).map (c i))
 | [],c,_=>⟨0,fun _ _ _ _=>rfl⟩
 | x :: l,c,h=>by
  obtain ⟨N,b⟩:=yp l (fun i=>c (i+1)) fun i hi j hj=>h (i+1) (by simpa using hi) j hj;obtain ⟨a,h0⟩:=A6 (tab:=tab) (g:=g) (caps:=caps) (D:=D) (x:=x) all (c 0) fun j hj=>h 0 (by simp) j hj;refine ⟨N+a,fun m n hm hn=>?_⟩;simp only [sU,h0 m n zO zO,b m n zO zO];rw [W5,List.range_succ_eq_map,SA,Yw];rfl
def B2 {f g:Nat} {fn:au} (G:tab f=some fn) (he:fn.ext=some (.sortF af [g])) {H0:Heap} (l:Kp H0 H) {v:AV} {R:List (List Int)} {d:Nat} (hb:Bl rowsE af H0 H v R) (hd:∀ r∈R,r.length=d) (hn:R.Nodup) (ad:R.length<1099511627776)
  (hc:∀ D a b,Wf D->∀ x∈R,∀ y∈R,RowV D a x->RowV D b y->Ans tab (.fn g [a,b]) D fun v _=>v=.int .i64 (EI x y)) :
  Ans tab (.fn f [v,.fn (.func g) [] []]) H fun v' H'=>v'=.tup []/\Kp H0 H'/\Bl rowsE af H0 H' v (R.mergeSort Lin.cmpV):=by
 rcases hb with ⟨rfl,rfl⟩ | ⟨b,cells,rfl,A,hcl,C⟩
 ·exact xM G he ⟨0,fun m n _ _=>rfl⟩ ⟨rfl,l,.inl ⟨rfl,by simp⟩⟩
 ·rcases YG R.length with h0 | h0
  ·have W:=XM.1 h0;subst W;exact xM G he ⟨0,fun m n _ _=>rfl⟩ ⟨rfl,l,.inr ⟨b,cells,by simp,A,by simpa using hcl,C⟩⟩
  ·have hlt:=l.wf _ _ A;have K:=l.wf;have z:cells.length=R.length:=by have:=hcl.1; simpa [bz] using this
   have X:=hcl.ones;obtain ⟨D,hD⟩:∃ D,D=(H.kill b).ro:=⟨_,rfl⟩
   have T:∀ c,c<H.next->c≠b->D.get c=Mt (H.get c):=fun c hc hne=>by
    rw [hD,Heap.get_ro,cH hne];exact if_pos (WP hc (Nat.le_max_left _ _))
   have U:Wf D:=fun c e h=>by
    rw [hD,Heap.get_ro] at h;rw [hD];show c<H.next
    split at h
    ·by_cases F:c=b
     ·omega
     ·rw [cH F] at h;cases hg:H.get c with
      | none=>rw [hg] at h; cases h
      | some e'=>exact K _ _ hg
    ·by_cases F:c=b
     ·omega
     ·rw [cH F] at h;exact K _ _ h
   have Q:∀ ty,ty≠af->∀ c cs r,H.get c=some (.cells cs ty r)->∃ r',D.get c=some (.cells cs ty r'):=fun ty ab c cs r hc=>by
    refine ⟨false,?_⟩;rw [T c (K _ _ hc) (fun e=>by rw [e,A] at hc; cases hc; exact ab rfl),hc];rfl
   have S:∀ i (h:i<R.length),RowV D (cells[i]'zO) R[i]:=fun i h=>by
    obtain ⟨w,h1,h2⟩:=hcl.at1 h;have e:w=cells[i]'zO:=by
     unfold bN at h1
     simpa [z,h] using h1.symm
    rw [<- e];exact RowV.ro (Q _ zU) (Q _ zU) h2
   obtain ⟨N,V⟩:=yp (tab:=tab) (g:=g) (caps:=[]) (all:=cells) (D:=D) cells (fun i j=>EI (R.getD i []) (R.getD j [])) fun i hi j hj=>by
    have I:i<R.length:=zO;have J:j<R.length:=zO;have o:R.getD i []=R[i]:=by simp [I]
    have u:R.getD j []=R[j]:=by simp [J]
    rw [o,u];exact hc D _ _ U _ (EL I) _ (EL J) (S i I) (S j J)
   obtain ⟨M,L⟩:∃ M,M=(List.range cells.length).map fun i=>(List.range cells.length).map fun j=>EI (R.getD i []) (R.getD j []):=⟨_,rfl⟩
   have q:∀ i j (hi:i<R.length) (hj:j<R.length),JA M i j = !Lin.cmpV R[j] R[i]:=fun i j hi hj=>by
    have o:(M.getD i []).getD j 0=EI R[i] R[j]:=by
     rw [L];simp [z,hi,hj]
    unfold JA;rw [o,Xo,decide_eq_true_eq,XA];exact J5 ((hd _ (EL hi)).trans (hd _ (EL hj)).symm)
   have Y:Re M R.length:=by
    refine ⟨fun i hi=>?_,fun i hi j hj=>?_,fun i hi j hj k l h1 h2=>?_⟩
    ·rw [q i i hi hi,Lin.cmpV_refl]; rfl
    ·by_cases P:i=j
     ·exact .inl P
     ·right
      rw [q i j hi hj,q j i hj hi];have B:=Lin.cmpV_total R[i] R[j];have ha:=Lin.cmpV_antisymm R[i] R[j];have hne:R[i]≠R[j]:=fun e=>P ((List.getElem_inj hn).1 e);cases h1:Lin.cmpV R[i] R[j] <;> cases h2:Lin.cmpV R[j] R[i]
      ·rw [h1,h2] at B; cases B
      ·rfl
      ·rfl
      ·exact absurd (ha h1 h2) hne
    ·rw [q i j hi hj] at h1;rw [q j k hj l] at h2;rw [q i k hi l];rw [XA] at h1 h2 ⊢;cases h3:Lin.cmpV R[k] R[i] with
     | false=>rfl
     | true =>
      have B:=Lin.cmpV_total R[i] R[j];rw [h1,Bool.or_false] at B
      have:=Lin.cmpV_trans _ _ _ h3 B
      rw [this] at h2; cases h2
   have aa:(lO M R.length).map (fun i=>R.getD i.val [])=R.mergeSort Lin.cmpV:=by
    unfold lO;rw [List.map_mergeSort (s:=Lin.cmpV) (fun i _ j _=>by
     have o:R.getD i.val []=R[i.val]:=by simp
     have u:R.getD j.val []=R[j.val]:=by simp
     rw [o,u,q _ _ j.isLt i.isLt,Bool.not_not])]
    congr 1
    apply X1
    ·simp
    ·intro i h1 h2;simp [h2]
   have ae:(lO M R.length).length=R.length:=by unfold lO; rw [Z5,List.length_finRange]
   refine xM (v:=.tup []) (H':=H.put b (.cells ((lO M R.length).map fun i=>cells.getD i.val .undef) af true)) G he ⟨N,fun m n hm hn=>?_⟩ ⟨rfl,l.put C hlt,.inr ⟨b,(lO M R.length).map fun i=>cells.getD i.val .undef,?_,am _ _ _,?_,C⟩⟩
   ·have O:=V m n hm hn;rw [<- L] at O;show Ci _ _ _ H [.own b 0 R.length R.length 1 false,.fn (.func g) [] []]=_;simp only [Ci,A];rw [if_neg zO,if_pos ⟨trivial,trivial,trivial,z,h0,zO,by simp,X⟩,<- hD,O];simp only;rw [if_pos Y]
   ·rw [Z5]
   ·rw [<- aa];refine ⟨by simp [bz],fun i a hi=>?_⟩;rw [Xq,WE] at hi;obtain ⟨p,hp,rfl⟩:=hi;obtain ⟨hi,Z⟩:=WI.1 hp;have o:((((lO M R.length).map fun i=>cells.getD i.val .undef).drop (i*1)).take 1)=[cells.getD p.val .undef]:=by
     apply Yg
     intro t;cases t with
     | zero=>simp [hi,Z]
     | succ t=>simp; omega
    refine ⟨cells.getD p.val .undef,o,?_⟩;have u:R.getD p.val []=R[p.val]:=by simp
    have e3:cells.getD p.val .undef=cells[p.val]'(by have:=p.isLt; omega):=by have:=p.isLt; simp [z]
    rw [u,e3];obtain ⟨w,h1,h2⟩:=hcl.at1 p.isLt;have e:w=cells[p.val]'(by have:=p.isLt; omega):=by
     unfold bN at h1
     have:=p.isLt
     simpa [z,this] using h1.symm
    rw [<- e];exact SlV.monoT (E:=intE) (SubT.puts (SubT.refl _ _) (NoTy.ty A zU)) h2
end
def Frm.wr {H0 H H':Heap} {v w:AV} {l m:List (List Int)} {c:Nat} (d:Frm v H H') (h:Bl rowsE af H0 H v l) (a:Wr H0 H w m c) (hs:Sep v w):Wr H0 H' w m c:=by
 rcases a with a | ⟨b,cells,h1,h2,h3,h4,h5,f⟩
 ·exact .inl a
 ·exact .inr ⟨b,cells,h1,d b _ h2 (fun e=>hs b e (by rw [h1]; rfl)),h3,h4,h5.mono (d.subT h zU),f⟩
def Ip {α:Type} (p:α->Bool) (l:List α):(nR p l<0/\l.findIdx? p=none)\/∃ i:Nat,nR p l=(i:Int)/\l.findIdx? p=some i:=by
 unfold nR;cases h:l.findIdx? p with
 | none=>exact .inl ⟨by simp,rfl⟩
 | some i=>exact .inr ⟨i,rfl,rfl⟩
section
variable {tab:Nat->Option au} {H:Heap} {s:AV}
def Gw (C:Code tab) (p:Wf H) {w va:AV} {r a:List Int} {bx e f:Nat} (hr:RowV H w r) (hb:H.get bx=some (.cells [va] af true)) (ha:RowV H va a) (i:a.length=r.length) (d:a.length<=64) (g:∀ z∈a,Bt e z) (j:∀ z∈r,Bt f z) (h:e+f+7<=8796093022208) :
  Ans tab (.fn gI [w,.ptr bx 0]) H fun v H'=>v=.bool (!decide (Lin.dot a r=0))/\Kp H H':=by
 refine bE C.q119 zU fun T hl b c=>?_;refine zW (aZ hl b c hb) ?_;refine AnsH.use (vT C zF (ha.mono (zG H)) (hr.mono (zG H)) i d g j h) ?_;rintro v H2 ⟨n,l⟩;obtain ⟨k2,_,w2⟩:=zT H zK l;refine zW (aC hl b c) ?_;refine AnsH.eq (xC C (z:=Lin.dot a r) zF (n.mono (zG H2)) ((rH g j i d).sm h)) fun k m=>?_;have o:Kp H k:=Kp.trans k2 (Kp.trans zK m);have q:=o.le;refine zW (aC hl b c) ?_;refine ⟨?_,zK⟩;congr 1;rw [Xo];simp [lq]
def Gx (C:Code tab) {H0:Heap} {ub:Nat} {u:Lin.Under} {va:AV} {a:List Int} {eq:Bool} {d e f:Nat} (G:Kp H0 H) (ax:H0.next<=ub) (hu:UnderV H0 H ub u) (ha:RowV H0 va a) (aI:0<d) (hd:d<=64) (X:a.length=d) (hL:∀ r∈u.lines,r.length=d/\∀ z∈r,Bt f z) (hR:∀ r∈u.rays,r.length=d/\∀ z∈r,Bt f z) (hD:∀ r∈u.done,r.length=d/\∀ z∈r,Bt e z) (aE:u.done.length<=1024) (W:∀ z∈a,Bt e z) (hb:2*(e+f+7)+2*f+1<=8796093022208) (a0:u.lines.length<=1048576) (aG:u.rays.length<=1099000000000) (ak:(Lin.addU a eq u).rays.length<=1099000000000) :
  Ans tab (.fn db [.ptr ub 0,va,.bool eq]) H fun v H'=>v=.tup []/\Kp H0 H'/\UnderV H0 H' ub (Lin.addU a eq u):=by
 have hw:=G.wf;have a1:=G.le;have oa:=ha.one;have V:=ha.mono G.sub;have aP:=hu;obtain ⟨ql,qr,qd,cl,ah,aO,al,a2,s1,s2,s3⟩:=hu;have a7:=hw _ _ ah;refine B0 C.q89 rfl rfl zU fun T hl g=>?_;have hl:T.length=48:=hl;have ao:c_P_cone_under_add.results=[]:=rfl;have o:ad T 0=.ptr ub 0:=g 0 (by simp);have s:ad T 1=va:=g 1 (by simp);have p:ad T 2=.bool eq:=g 2 (by simp);refine bf ?_;refine zW (cn hl o s p @aD) ?_;refine bf ?_;refine zW (fy hl o s p @aD ah) ?_;refine AnsH.eq (sn C (l:=u.lines) zF (aO.sl.mono (zG H)) zO (fun r=>!decide (Lin.dot a r=0)) (fun r hr H' w Z aQ=>Gw C Z.wf aQ (Z.get (cY)) (V.mono (Kp.sub (H:=H) (Kp.trans zK Z))) (by rw [X]; exact (hL r hr).1.symm) zO W (hL r hr).2 zO)) fun H2 aa=>?_;obtain ⟨k2,_,w2⟩:=zT H zK aa;have F:H2.get H.next=some (.cells [va] af true):=aa.get (cY)
 have ay:=k2.get ah;have n2:H.next+8<=H2.next:=aa.le
 have aA:Kp H0 H2:=G.trans k2;have a6:=aA.le;have av:UnderV H0 H2 ub u:=aP.mono k2.sub;refine zW (cn hl o s p @aD) ?_;refine cZ (fun T' H'=>Kp H0 H'/\UnderV H0 H' ub ⟨(Lin.addU a eq u).lines,(Lin.addU a eq u).rays,u.done⟩/\H'.get H.next=some (.cells [va] af true)) rfl ?_ ?_
 ·rcases Ip (fun r=>!decide (Lin.dot a r=0)) u.lines with ⟨aK,B⟩ | ⟨i,hi,B⟩
  ·have hcl:(Lin.cutL u.done a eq u.rays).length<=1099000000000:=by
    have e:Lin.addU a eq u=⟨u.lines,Lin.cutL u.done a eq u.rays,u.done++if eq then [] else [a]⟩:=by unfold Lin.addU; rw [B]
    rw [e] at ak;exact ak
   refine zW (fy hl o s p aK F) ?_;refine AnsH.use (OX C (u:=u) (H0:=H0) zK ax (av.mono (Sub.bump H2 _)) (V.mono (zG H)) aI hd X hR hD aE W hb aG hcl) ?_;rintro v c ⟨rfl,I,K,ae⟩;refine zW (aB hl @aV) ?_;refine ⟨zK,?_,ae _ _ F zO⟩;have e:Lin.addU a eq u=⟨u.lines,Lin.cutL u.done a eq u.rays,u.done++if eq then [] else [a]⟩:=by unfold Lin.addU; rw [B]
   rw [e];exact K
  ·obtain ⟨aj,-,-⟩:=Xn.1 B;have aL:¬ ((i:Int)<0):=zO;have gi:u.lines.getD i []=u.lines[i]:=by simp [aj]
   refine zW (ip hl o s p hi aL F) ?_;refine AnsH.use (L8 C (u:=u) (H0:=H0) (aA.up _) ax (av.mono (Sub.bump H2 _)) (V.mono (Kp.sub (k2.up _))) aj hd X hL hR W hb zO zO) ?_;rintro v c ⟨I,aq,K,ae,aN⟩;have O:=I.wf;have a5:=I.le;have a8:=aq.one;have Y:c.get H.next=some (.cells [va] af true):=ae _ _ F zO fun q1 q2 q3 h=>by
    have h':H2.get ub=some (.cells [q1,q2,q3] aU true):=h;rw [ay] at h';cases h';intro hq
    have:=al.old hw hq
    omega
   have e:Lin.addU a eq u=⟨(u.lines.eraseIdx i).map (Lin.foldV a (Lin.upV a u.lines[i])),u.rays.map (Lin.foldV a (Lin.upV a u.lines[i]))++(if eq then [] else [Lin.upV a u.lines[i]]),u.done++if eq then [] else [a]⟩:=by
    unfold Lin.addU; rw [B]; simp only [gi]
   rw [e];cases eq with
   | true =>
    refine zW (cn hl o s p @aV) ?_;refine ⟨zK,?_,Y⟩
    try simp only [if_true,Xx]
    exact K.mono (Sub.bump c 2)
   | false =>
    obtain ⟨L,aM⟩:=aN ql qr qd ay;obtain ⟨y,A,M,R,q,D,n,t,t1,N,t3⟩:=K;have az:c.get ub=some (.cells [y,A,M] aU true):=q;rw [aM] at az;cases az;have aR:=O _ _ q;have a4:=O _ _ Y;have n:Wr H0 c qr (u.rays.map (Lin.foldV a (Lin.upV a u.lines[i]))) (u.rays.map (Lin.foldV a (Lin.upV a u.lines[i]))).length:=n;have a3:(u.rays.map (Lin.foldV a (Lin.upV a u.lines[i]))).length=u.rays.length:=by simp
    obtain ⟨b,P,S,Q,E,aW,f6,u6⟩:=Bl.push1 (ty2:=af) (bytes:=24) (id:=c.next+9) (id2:=c.next+8) (k:=13) (cs:=[v]) (a:=Lin.upV a u.lines[i]) n.bl zU I ⟨v,rfl,aq⟩ zO zO zO zO zO zO zO;have U:dq ((c.up 13).put (c.next+8) (.cells [v] af true)) (c.next+9) 1 24 af qr (.own (c.next+8) 0 1 1 1 true)=some (.own (c.next+9) 0 b b 1 false,P):=S;have m:=f6.other n.bl q (fun cs h=>by injection h with _ h2; exact absurd h2 zU);have aT:=E.wf _ _ m;have w6:=E.wf;have ag:y5 (some (.cells [L,qr,qd] aU true)) 1 1 (.own (c.next+9) 0 b b 1 false)=some (.cells [L,.own (c.next+9) 0 b b 1 false,qd] aU true):=fY (bJ _ _ _ _ _ _).fits (by simp);refine zW (lh hl o s p q U m ag @aV) ?_;refine ⟨zK,⟨L,.own (c.next+9) 0 b b 1 false,qd,R,am _ _ _,(f6.wr n.bl D t1.symm).putT m zU zU,?_,(f6.wr n.bl t t3).putT m zU zU,fun x hx hy=>?_,N,fun x hx hy=>?_⟩,?_⟩
    ·simp only [Xs,if_false];exact Q.wr.putT (e:=.cells [L,.own (c.next+9) 0 b b 1 false,qd] aU true) m zU zU
    ·cases hy
     have:=D.old O hx
     omega
    ·cases hx
     have:=t.old O hy
     omega
    ·try rw [aw zO]
     refine f6 _ _ Y fun h=>?_
     have:=al.old hw h
     omega
 ·rintro T1 j J ⟨k1,ar,aH⟩;have w1:=k1.wf;have t0:ad T1 0=.ptr ub 0:=(J.at_ 0 zU).trans (zV (aB hl o));have N:ad T1 2=.bool eq:=(J.at_ 2 zU).trans (zV (aB hl p));have t4:ad T1 4=.ptr H.next 0:=(J.at_ 4 zU).trans (zV hl)
  have ab:T1.length=48:=J.len.trans (by simp only [jL]; exact hl);have e:Lin.addU a eq u=⟨(Lin.addU a eq u).lines,(Lin.addU a eq u).rays,u.done++if eq then [] else [a]⟩:=by
   unfold Lin.addU; split <;> rfl
  rw [e];refine WC.wb ?_;cases eq with
  | true =>
   refine zW (aC ab N ao) ?_;refine ⟨zK,?_⟩
   try simp only [if_true,Xx]
   exact ar.mono (Sub.bump j 2)
  | false =>
   obtain ⟨y,A,M,R,q,D,n,t,aX,aY,aZ⟩:=ar;have aR:=w1 _ _ q;obtain ⟨b,P,S,Q,E,aW,f6,u6⟩:=Bl.push1 (ty2:=af) (bytes:=24) (id:=j.next+9) (id2:=j.next+8) (k:=13) (cs:=[va]) (a:=a) t.bl zU k1 ⟨va,rfl,ha.mono k1.sub⟩ zO zO zO zO zO (by simp only; omega) (by simp only; omega);have U:dq ((j.up 13).put (j.next+8) (.cells [va] af true)) (j.next+9) 1 24 af M (.own (j.next+8) 0 1 1 1 true)=some (.own (j.next+9) 0 b b 1 false,P):=S;have m:=f6.other t.bl q (fun cs h=>by injection h with _ h2; exact absurd h2 zU);have aT:=E.wf _ _ m;have w6:=E.wf;refine zW (aB ab N) ?_;refine aJ ?_;have ag:y5 (some (.cells [y,A,M] aU true)) 1 2 (.own (j.next+9) 0 b b 1 false)=some (.cells [y,A,.own (j.next+9) 0 b b 1 false] aU true):=fY (bJ _ _ _ _ _ _).fits (Jv 3);refine zD (pD ab t0 t4 q aH U m ag @aS ao) ?_;refine ⟨zK,⟨y,A,.own (j.next+9) 0 b b 1 false,R,am _ _ _,(f6.wr t.bl D aY.symm).putT m zU zU,(f6.wr t.bl n aZ.symm).putT m zU zU,?_,aX,fun x hx hy=>?_,fun x hx hy=>?_⟩⟩
   ·simp only [Xs,if_false];exact Q.wr.putT (e:=.cells [y,A,.own (j.next+9) 0 b b 1 false] aU true) m zU zU
   ·cases hy
    have:=D.old w1 hx
    omega
   ·cases hy
    have:=n.old w1 hx
    omega
def OY (C:Code tab) (Z:Wf H) {d:Nat} (hd:d<=64):Ans tab (.fn ux [.int .i64 (d:Int)]) H fun v H'=>Bl rowsE af H H' v (Lin.startU d).lines/\Kp H H':=by
 refine cz C.q88 zU fun T hl q=>?_;refine zW (aB hl q) ?_;refine aq H [2] (fun j vs H'=>∃ o,vs=[o]/\Bl rowsE af H H' o ((List.range j).map (Lin.unitV d))) (a:=0) (N:=d) rfl (by refine zW (aB hl q) ?_; rfl) (zV (aB hl q)) (WG _) zO (by simp only [jL,hl]; rfl) rfl (fun j vs H' m ⟨o,h1,h2⟩=>⟨o,h1,h2.mono (Sub.bump H' m)⟩) zK ⟨.nilSl,by exact zV (aB hl q),Bl.nil⟩ ?_ ?_
 ·rintro j T1 f _ hj l Q I h ⟨o,s,x⟩;have w1:=h.wf;have W:=h.le;have ab:=h.le;simp only [SA,WF,Ud,and_true] at s;have t0:ad T1 0=.int .i64 (d:Int):=(I.at_ 0 zU).trans (zV (aB hl q));simp only [jL,hl] at l;obtain ⟨cells,u⟩:∃ cells,cells=(List.replicate d [AV.bool false,AV.nilSl]).flatten:=⟨_,rfl⟩
  have R:∀ H':Heap,Hb H' (f.next+3) aa 2 32 [.bool false,.nilSl] (.int .i64 (d:Int)) (.int .i64 (d:Int))=some (.own (f.next+3) 0 d d 2 true,H'.put (f.next+3) (.cells cells aa true)):=fun H'=>by rw [u]; exact iy _ _ _ _ _ _ _ _ _ zO zO rfl
  refine zW (aZ l t0 Q R) ?_;refine AnsH.use (qN C (n:=1) zF zO zO) ?_;rintro v H2 ⟨⟨w,rfl,hn⟩,F⟩;obtain ⟨k2,_,w2⟩:=zT f zK F;have X:=hn.one;have t:=F.get (b:=f.next+3) (e:=.cells cells aa true) (cY);have ag:=w2 _ _ t;have Y:cells.length=d*2:=by rw [u]; simp
  have y:y5 (some (.cells cells aa true)) 2 (0+j*2) (.agg [.bool false,w])=some (.cells (cells.take (0+j*2)++[.bool false,w]++cells.drop (0+j*2+2)) aa true):=fY (yg (aF _) X) zO;have D:cG 2 (.own (f.next+3) 0 d d 2 true) (.int .i64 (j:Int))=some (.ptr (f.next+3) (0+j*2)):=iB hj;rw [Xg] at y D;obtain ⟨p,B⟩:∃ c,c=cells.take (j*2)++[.bool false,w]++cells.drop (j*2+2):=⟨_,rfl⟩
  rw [<- B] at y;have S:intE.R H2 [.bool false,.nilSl] 0:=⟨.nilSl,by simp,eM H2⟩
  have hcl:Cells intE H2 cells (List.replicate d 0):=by rw [u]; exact mH S _
  have O:Cells intE H2 p ((List.replicate d 0).set j 1):=by rw [B]; exact hcl.set (i:=j) (by simpa using hj) ⟨w,rfl,hn⟩
  have m3:NoTy [ae] H2 (f.next+3):=NoTy.ty t zU;obtain ⟨g,r⟩:∃ g,g=H2.put (f.next+3) (.cells p aa true):=⟨_,rfl⟩
  have J:Kp f g:=by rw [r]; exact zK
  have U:Kp H g:=h.trans J;have nx:g.next=H2.next:=by rw [r]; rfl
  have P:Cells intE g p ((List.replicate d 0).set j 1):=by rw [r]; exact Cells.mono (E:=intE) zS O
  have G:RowV g (.own (f.next+3) 0 d d 2 true) (Lin.unitV d j):=by
   have:Own intE aa f g (f.next+3) true (.own (f.next+3) 0 d d 2 true) ((List.replicate d 0).set j 1):=⟨p,by simp [intE],by rw [r]; exact am _ _ _,P,zO⟩
   exact this.sl
  have aj:=G.one;obtain ⟨K,L,A,z,V,ah,f6,u6⟩:=Bl.push1 (ty2:=af) (bytes:=24) (id:=g.next+3) (id2:=g.next+2) (k:=5) (cs:=[.own (f.next+3) 0 d d 2 true]) (a:=Lin.unitV d j) (x.mono J.sub) zU U ⟨_,rfl,G⟩ zO zO zO zO zO (by simp; omega) (by simp; omega);have M:dq ((((H2.up 5).put (f.next+3) (.cells p aa true))).put (H2.next+2) (.cells [.own (f.next+3) 0 d d 2 true] af true)) (H2.next+3) 1 24 af o (.own (H2.next+2) 0 1 1 1 true)=some (.own (H2.next+3) 0 K K 1 false,L):=by rw [r] at A; exact A
  rw [nx] at z;refine zW (fy l D t y s M) ?_;refine ⟨V,_,rfl,?_⟩;rw [List.range_succ,Xd];exact z
 ·rintro T1 f l I h ⟨o,s,x⟩;have w1:=h.wf;have W:=h.le;simp only [SA,WF,Ud,and_true] at s;simp only [jL,hl] at l;refine zW (aB l s) ?_;exact ⟨x,h⟩
abbrev UY (H:Heap) (v:AV) (Ls:List (List (List Int))):Prop:=pC (Vt rowsE af) Du H v Ls
def L7 (C:Code tab) (D:Wf H) {Ls:List (List (List Int))} {d:Nat} (hs:UY H s Ls) (B:Ls.length<1099511627776) (hd:∀ L∈Ls,∀ r∈L,r.length=d):Ans tab (.fn rz [s]) H fun v H'=>v=.int .i64 (if Ls.any (fun L=>!L.isEmpty) then (d:Int) else -1)/\Kp H H':=by
 refine cz C.q87 zU fun T hl c=>?_;refine zW (aC hl c hs.lenV) ?_;refine aq H [] (fun j _ _=>∀ k (h:k<Ls.length),k<j->Ls[k]=[]) (a:=0) (N:=Ls.length) rfl (by refine zW (aB hl c) ?_; rfl) (zV (aB hl c)) (WG _) zO (by simp only [jL,hl]; rfl) rfl (fun _ _ _ _ h=>h) zK (fun k _ h=>by omega) ?_ ?_
 ·intro j T1 m _ hj b n q f g;have w1:=f.wf;have E:=f.le;have t5:ad T1 5=s:=(q.at_ 5 zU).trans (zV (aB hl c));obtain ⟨w,hr,p⟩:=SlV.at1 (hs.mono f.sub) (zh hj);have hr:d9 m w Ls[j]:=hr;have o:=SlV.idx1 hs .i64 j hj;simp only [jL,hl] at b;rcases YG (Ls[j]).length with h0 | h0
  ·have he:=XM.1 h0;have x:lenV w=some (.int .i64 0):=by rw [hr.lenV,h0]; rfl
   refine zW (fy b t5 n o p x) ?_;refine ⟨zK,fun k h i=>?_⟩;by_cases e:k=j
   ·subst e; exact he
   ·exact g k h zO
  ·obtain ⟨w0,z,u⟩:=dE hr h0;have t:cG 1 w (.int .i64 0)=some (az w 0):=SlV.idx1 hr .i64 0 h0;have A:lenV w0=some (.int .i64 (d:Int)):=by rw [z.lenV,hd _ (EL hj) _ (EL h0)]
   have y:(0:Int)<((Ls[j]).length:Int):=zO;refine zW (mo b t5 n o p hr.lenV y h0 t u A) ?_;refine ⟨?_,zK⟩;rw [if_pos];rw [W7];exact ⟨_,EL hj,by cases h:Ls[j] with | nil=>rw [h] at h0; simp at h0 | cons a l=>rfl⟩
 ·intro T1 m b q f g;simp only [jL,hl] at b;refine zW b ?_;refine ⟨?_,zK⟩;rw [if_neg];rw [Bool.not_eq_true,XV];intro L hL;obtain ⟨k,i,rfl⟩:=XH hL;rw [g k i i]; simp
def ic (A B:List (List (Bool × List Nat))):Int :=
 if cF A≠0 then cF A else if cF B≠0 then cF B else if A≠[]/\B≠[]/\(A.getD 0 []).length≠(B.getD 0 []).length then 70 else 0
def EF (C:Code tab) (X:Wf H) {va c:AV} {A B:List (List (Bool × List Nat))} (ha:Pj H va A) (hb:Pj H c B) (hA:A.length<1099511627776) (V:B.length<1099511627776) (J:∀ r∈A,xI r) (bb:∀ r∈B,xI r) :
  Ans tab (.fn nj [va,c]) H fun v H'=>v=.int .i64 (ic A B)/\Kp H H':=by
 have Z:=ha.one;have ob:=hb.one;refine B0 C.q86 rfl rfl zU fun T hl g=>?_;have hl:T.length=39:=hl;have d:c_cone_checked.results=[(4,none)]:=rfl;have j:ad T 0=va:=g 0 (by simp);have l:ad T 1=c:=g 1 (by simp);refine bf ?_;refine zW (aZ hl j l @aD) ?_;refine cZ (fun T' H'=>cF A=0/\cF B=0/\Kp H H') rfl ?_ ?_
 ·refine zW (aC hl j l) ?_;refine bk H [11] (fun k vs H'=>∃ i:Nat,vs=[.int .i64 (i:Int)]/\i+k=2/\(1<=i->cF A=0)/\(2<=i->cF B=0)) 2 (by simp only [jL]; exact hl) rfl zK ⟨0,by refine zW hl ?_; rfl,rfl,zO,zO⟩ ?_;rintro k T1 I b f w ⟨i,a,W,u,P⟩;have w1:=w.wf;have Y:=w.le;simp only [SA,WF,Ud,and_true] at a;have q:ad T1 10=.agg [va,c]:=(f.at_ 10 zU).trans (zV (aC hl j l))
  have:i=0\/i=1\/i=2:=zO
  rcases this with rfl | rfl | rfl
  ·have a:ad T1 11=.int .i64 0:=a;refine zW (aC b a q) ?_;refine AnsH.eq (ui C zF (ha.mono (zG H)) zO J) fun H2 o=>?_;obtain ⟨k2,_,w2⟩:=zT H zK o;by_cases h:cF A=0
   ·refine zW (aC b a h) ?_;exact ⟨zK,1,zO,1,rfl,rfl,(by first | exact fun _=>h | exact fun _=>trivial),zO⟩
   ·refine zW (cn b a h @pt d) ?_;exact ⟨by unfold ic; rw [if_pos h],zK⟩
  ·have a:ad T1 11=.int .i64 1:=a;refine zW (aC b a q) ?_;refine AnsH.eq (ui C zF (hb.mono (zG H)) zO bb) fun H2 o=>?_;obtain ⟨k2,_,w2⟩:=zT H zK o;have hA0:=u zO;by_cases h:cF B=0
   ·refine zW (aC b a h) ?_;exact ⟨zK,0,zO,2,rfl,rfl,(by first | exact fun _=>hA0 | exact fun _=>trivial),(by first | exact fun _=>h | exact fun _=>trivial)⟩
   ·refine zW (cn b a h @pt d) ?_;refine ⟨?_,zK⟩;unfold ic;rw [if_neg (by simpa using hA0),if_pos h]
  ·have a:ad T1 11=.int .i64 2:=a;refine zW (aZ b a q @aV) ?_;exact ⟨u zO,P zO,zK⟩
 ·rintro T1 I f ⟨K,L,k1⟩;have w1:=k1.wf;have t0:ad T1 0=va:=(f.at_ 0 zU).trans (zV (aB hl j));have t1:ad T1 1=c:=(f.at_ 1 zU).trans (zV (aB hl l));have b:T1.length=39:=f.len.trans (by simp only [jL]; exact hl);have m:ic A B=if A≠[]/\B≠[]/\(A.getD 0 []).length≠(B.getD 0 []).length then 70 else 0:=by
   unfold ic;rw [if_neg (by simpa using K),if_neg (by simpa using L)]
  refine WC.wb ?_;refine zW (aC b t0 t1) ?_;rcases YG A.length with a0 | a0
  ·have Q:lenV va=some (.int .i64 0):=by rw [ha.lenV,a0]; rfl
   have hA0:=XM.1 a0;refine aJ ?_;refine zD (fy b t0 t1 Q d @aS) ?_;exact ⟨by rw [m,if_neg (fun h=>h.1 hA0)],zK⟩
  ·have p:(0:Int)<(A.length:Int):=zO;have M:A≠[]:=fun e=>by rw [e] at a0; simp at a0
   rcases YG B.length with b0 | b0
   ·have R:lenV c=some (.int .i64 0):=by rw [hb.lenV,b0]; rfl
    have N:=XM.1 b0;refine aJ ?_;refine zD (lh b t0 t1 ha.lenV p a0 R d @aS) ?_;exact ⟨by rw [m,if_neg (fun h=>h.2.1 N)],zK⟩
   ·have E:(0:Int)<(B.length:Int):=zO;have O:B≠[]:=fun e=>by rw [e] at b0; simp at b0
    obtain ⟨wa,S,x⟩:=Al (ha.mono k1.sub) a0;obtain ⟨wb,U,y⟩:=Al (hb.mono k1.sub) b0;have F:cG 1 va (.int .i64 0)=some (az va 0):=SlV.idx1 ha .i64 0 a0;have G:cG 1 c (.int .i64 0)=some (az c 0):=SlV.idx1 hb .i64 0 b0;have z:=S.lenV;have D:=U.lenV;have s:A.getD 0 []=A[0]:=by simp [a0]
    have t:B.getD 0 []=B[0]:=by simp [b0]
    by_cases he:A[0].length=B[0].length
    ·have n:((A[0].length:Nat):Int)=((B[0].length:Nat):Int):=zO;refine aJ ?_;refine zD (RD b t0 t1 ha.lenV hb.lenV p a0 E @b0 F G x y z D n he d @aS) ?_;exact ⟨by rw [m,s,t,if_neg (fun h=>h.2.2 he)],zK⟩
    ·have n:¬ ((A[0].length:Nat):Int)=((B[0].length:Nat):Int):=zO;refine aJ ?_;refine zD (RD b t0 t1 ha.lenV hb.lenV p a0 E @b0 F G x y z D n he d @aS) ?_;exact ⟨by rw [m,s,t,if_pos ⟨M,O,he⟩],zK⟩
end
end Go.Proofs.YtiigaeehghcjiaaGreat.Ev
namespace Go.Proofs.YtiigaeehghcjiaaGreat.Lin
def C5:∀ (n:Nat) (l:List (List Bool)),l.Nodup->(∀ b∈l,b.length=n)->l.length<=2^n
 | 0,[],_,_=>by simp
 | 0,[a],_,_=>by simp
 | 0,a :: b :: l,hn,h=>by
  have ha:=XM.1 (h a (by simp));have hb:=XM.1 (h b (by simp));subst ha; subst hb;simp at hn
 | n+1,l,hn,h=>by
  have part:∀ v:Bool,((l.filter fun b=>b.head? == some v).map List.tail).length<=2^n:=fun v=>by
   refine C5 n _ ?_ fun b hb=>?_
   ·refine Xu.2 (YX (fun {x y} hx hy hne e=>hne ?_) (YY _ hn));have hx:=(WO.1 hx).2;have hy:=(WO.1 hy).2;cases x with
    | nil=>simp at hx
    | cons a x =>
     cases y with
     | nil=>simp at hy
     | cons b y =>
      simp at hx hy e;rw [hx,hy,e]
   ·obtain ⟨c,hc,rfl⟩:=DT.1 hb
    have:=h c (WO.1 hc).1
    simp [this]
  have h1:=part true;have h2:=part false;rw [Nj] at h1 h2;have h3:l.length=(l.filter fun b=>b.head? == some true).length+(l.filter fun b=>b.head? == some false).length:=by
   rw [<- Yr,<- Yr,Zg (p:=fun b:List Bool=>b.head? == some true)];congr 1;refine List.countP_congr fun b hb=>?_
   have:=h b hb
   cases b with
   | nil=>simp at this
   | cons a b=>cases a <;> simp
  rw [Xc]; omega
def DD.count {d:Nat} {E L:V->Prop} {a R:List V} (h:DD d E (· ∈ a) L R):R.length<=2^a.length:=by
 have hn:(R.map fun r=>a.map fun i=>decide (dot i r=0)).Nodup:=by
  refine Xu.2 (h.apart.imp fun hne e=>hne fun i hi=>?_)
  have:=List.map_inj_left.1 e i hi
  simpa using this
 have:=C5 a.length _ hn fun b hb=>by obtain ⟨r,-,rfl⟩:=DT.1 hb; simp
 simpa using this
def gensU_done {d:Nat} {c b:List V} (h1:∀ a∈c,a.length=d) (h2:∀ a∈b,a.length=d):(gensU d c b).done=b:=by
 obtain ⟨e,f⟩:=zl c (startU d) _ oX h1;obtain ⟨h,g⟩:=xN b _ e h2;exact g.trans (by rw [f]; simp [startU])
def AX {d:Nat} (eq:Bool):∀ (l:List V) (u:Under) (E:V->Prop) (ps:List (Nat × V)),DD d E (· ∈ u.done) (· ∈ u.lines) u.rays->Ry d ps u->(∀ a∈l,a.length=d)->∃ c,Ry d c (l.foldl (fun u a=>addU a eq u) u)
 | [],u,E,ps,_,h,_=>⟨ps,h⟩
 | a :: l,u,E,ps,e,h,hl=>by
  obtain ⟨c,h'⟩:=QV (a:=a) e h eq;exact AX eq l (addU a eq u) _ c (IU e (hl a (WH ..)) eq) h' fun b hb=>hl b (SO _ hb)
def LD {d:Nat} {b c:List V} (h1:∀ a∈b,a.length=d) (h2:∀ a∈c,a.length=d):∃ ps,Ry d ps (gensU d b c):=by
 obtain ⟨e,-⟩:=zl b (startU d) _ oX h1;obtain ⟨ps,hp⟩:=AX true b (startU d) _ _ oX (LY d) h1;exact AX false c _ _ ps e hp h2
def Mn (a:V) (eq:Bool) (u:Under):(addU a eq u).lines.length<=u.lines.length:=by
 unfold addU;split
 ·exact Jv _
 ·simp only [Nj];exact List.length_eraseIdx_le ..
def uG (eq:Bool):∀ (l:List V) (u:Under),(l.foldl (fun u a=>addU a eq u) u).lines.length<=u.lines.length
 | [],u=>Jv _
 | a :: l,u=>WK (uG eq l (addU a eq u)) (Mn a eq u)
def gensU_lines (d:Nat) (a b:List V):(gensU d a b).lines.length<=d:=by
 refine WK (uG false b _) (WK (uG true a _) ?_);simp [startU]
def gens_mid {d M:Nat} (hd:0<d) (k:0<M) {b c:List V} (h1:∀ a∈b,a.length=d/\Bd M a) (h2:∀ a∈c,a.length=d/\Bd M a) :
  (∀ l∈(gensU d b c).lines,l.length=d/\Bd ((2*d*M)^2^d) l)/\(∀ r∈(gensU d b c).rays,r.length=d/\Bd ((2*d*M)^2^d) r)/\(gensU d b c).rays.length<=2^c.length:=by
 have f:∀ a∈b,a.length=d:=fun a ha=>(h1 a ha).1;have g:∀ a∈c,a.length=d:=fun a ha=>(h2 a ha).1;have e:=gensU_dd f g;obtain ⟨ps,hp⟩:=LD f g;have h:=gensU_done f g;obtain ⟨i,j⟩:=OS (Es:=b) hd k (by rw [h]; exact e) hp h1 (by rw [h]; exact h2);exact ⟨fun l hl=>⟨e.lenL l hl,i l hl⟩,fun r hr=>⟨e.lenR r hr,j r hr⟩,e.count⟩
def Nl {d:Nat} {E I:V->Prop} {L R a:List V} (h:yV d E I L R):Ry d (L.map fun l=>(pv l,l)) ⟨L,R,a⟩:=by
 refine ⟨by simp [Yw,Function.comp_def],fun q hq=>?_,fun q hq=>?_,?_,fun r hr q hq=>?_,h.form.cont,h.cont⟩
 ·obtain ⟨l,hl,rfl⟩:=DT.1 hq;exact (h.form.pos hl).2.2
 ·obtain ⟨l,hl,rfl⟩:=DT.1 hq
  have:=(h.form.pos hl).2.1
  simp only;omega
 ·exact Xu.2 h.form.clear
 ·obtain ⟨l,hl,rfl⟩:=DT.1 hq;exact h.rest r hr l hl
def told_bd {d M:Nat} (hd:0<d) (e:0<M) {c b L R:List V} (h:yV d (· ∈ c) (· ∈ b) L R) (h1:∀ a∈c,a.length=d/\Bd M a) (h2:∀ a∈b,a.length=d/\Bd M a) :
  (∀ l∈L,Bd ((2*d*M)^2^d) l)/\(∀ r∈R,Bd ((2*d*M)^2^d) r) :=
 OS (u:=⟨L,R,b⟩) hd e h.dd (Nl h) h1 h2
def pow_bd {d m:Nat} (hd:d<=6):(2*d*2^m)^2^d<=2^(64*(m+4)):=by
 have h1:2*d*2^m<=2^(m+4):=by
  rw [Xw,WR (2^m)];exact WJ _ zO
 have h2:2^d<=2^6:=W8 (by decide) hd;have h3:2^d*(m+4)<=64*(m+4):=WJ _ h2
 calc (2*d*2^m)^2^d<=(2^(m+4))^2^d:=YC h1 _
  _=2^((m+4)*2^d):=(ZC ..).symm
  _<=2^(64*(m+4)):=W8 (by decide) (by rw [WR]; exact h3)
def CF {d:Nat} {E I:V->Prop} {L R A B:List V} (c:∀ e,E e->e.length=d) (f:∀ i,I i->i.length=d) (h:DD d E I (· ∈ L) R) (h':DD d (· ∈ L) (· ∈ R) (· ∈ A) B):∀ x,Keep d E I x ↔ Keep d (· ∈ A) (· ∈ B) x:=by
 intro x;constructor
 ·intro hx;have hc:=h.all x hx;refine ⟨hx.len,fun a ha=>hc.dot_zero h.lenL h.lenR (fun l hl=>?_) (fun r hr=>?_),fun b hb=>hc.dot_nonneg h.lenL h.lenR (fun l hl=>?_) (fun r hr=>?_)⟩
  ·rw [dot_comm]; exact h'.lineE a ha l hl
  ·rw [dot_comm]; exact h'.lineI a ha r hr
  ·rw [dot_comm]; exact (h'.keep b hb).eq l hl
  ·rw [dot_comm]; exact (h'.keep b hb).ge r hr
 ·intro hx;have key:∀ y,Keep d (· ∈ L) (· ∈ R) y->0<=dot x y:=fun y hy=>(h'.all y hy).dot_nonneg h'.lenL h'.lenR (fun l hl=>by rw [dot_comm]; exact hx.eq l hl) (fun r hr=>by rw [dot_comm]; exact hx.ge r hr);refine ⟨hx.len,fun e he=>?_,fun i hi=>?_⟩
  ·have k1:=key e ⟨c e he,fun l hl=>by rw [dot_comm]; exact h.lineE l hl e he,fun r hr=>by rw [dot_comm,(h.keep r hr).eq e he]; exact Yy _⟩;have k2:=key (scl (-1) e) ⟨ag (c e he),fun l hl=>by rw [dot_scl,dot_comm,h.lineE l hl e he]; rfl,fun r hr=>by rw [dot_scl,dot_comm,(h.keep r hr).eq e he]; exact Yy _⟩;rw [dot_scl] at k2;rw [dot_comm]; omega
  ·rw [dot_comm];exact key i ⟨f i hi,fun l hl=>by rw [dot_comm]; exact h.lineI l hl i hi,fun r hr=>by rw [dot_comm]; exact (h.keep r hr).ge i hi⟩
def LF {d:Nat} {b c:List V} (h1:∀ a∈b,a.length=d) (h2:∀ a∈c,a.length=d):∀ l∈gensL d b c,l.length=d:=(gens_told h1 h2).dd.lenL
def LE {d:Nat} {b c:List V} (h1:∀ a∈b,a.length=d) (h2:∀ a∈c,a.length=d):∀ r∈gensR d b c,r.length=d:=(gens_told h1 h2).dd.lenR
def told_nodup {d:Nat} {E I:V->Prop} {L R:List V} (h:yV d E I L R):R.Nodup:=h.dd.apart.imp fun hne e=>hne fun i hi=>by rw [e]
def fz:List V->List V->List V
 | _,[]=>[]
 | F,a :: l=>match pivot (restF F a) with
  | none=>fz F l
  | some _=>a :: fz (putF F a) l
def insP_len (x:V) (p:Nat):∀ F:List V,(insP x p F).length=F.length+1
 | []=>rfl
 | r :: F=>by
  unfold insP;split
  ·rw [W5,insP_len x p F,W5]
  ·rfl
def wy:∀ (l F:List V),(fz F l).foldl putF F=l.foldl putF F/\(l.foldl putF F).length=F.length+(fz F l).length
 | [],F=>⟨rfl,rfl⟩
 | a :: l,F=>by
  unfold fz;cases h:pivot (restF F a) with
  | none =>
   have e:putF F a=F:=by unfold putF; rw [h]
   simp only [Ym,e];exact wy l F
  | some p =>
   have e:(putF F a).length=F.length+1:=by unfold putF; rw [h]; simp only; rw [insP_len,Nj]
   obtain ⟨h1,h2⟩:=wy l (putF F a);simp only [Ym,W5];exact ⟨h1,by rw [h2,e]; omega⟩
def mE:∀ (l F:List V),∀ x∈fz F l,x∈l
 | [],F,x,h=>by cases h
 | a :: l,F,x,h=>by
  unfold fz at h;split at h
  ·exact SO _ (mE l F x h)
  ·rcases WV.1 h with rfl | h
   ·exact WH ..
   ·exact SO _ (mE l _ x h)
def ES {d:Nat} {l:List V} (hl:∀ a∈l,a.length=d):(fz [] l).length<=d/\∀ x,Spn d (· ∈ fz [] l) x ↔ Spn d (· ∈ l) x:=by
 obtain ⟨h1,h2⟩:=wy l [];obtain ⟨h3,h4⟩:=form_ech hl;obtain ⟨-,h5⟩:=form_ech (d:=d) (l:=fz [] l) fun a ha=>hl a (mE l [] a ha);have e:formF (fz [] l)=formF l:=h1;have c:=Ev.ech_len h3;have b:(formF l).length=([]:List V).length+(fz [] l).length:=h2;refine ⟨by simp at b; omega,fun x=>?_⟩;rw [<- h5 x,e,h4 x]
def CA {α:Type} [DecidableEq α] (M:Nat):∀ (A:List α) (l:List (List α)),(∀ b∈l,∃ a∈A,b.head? = some a)->(∀ a∈A,(l.filter fun b=>b.head? == some a).length<=M)->l.length<=A.length*M
 | [],l,h,_=>by
  cases l with
  | nil=>simp
  | cons b l=>obtain ⟨a,ha,_⟩:=h b (WH ..); cases ha
 | a :: A,l,h,d=>by
  have h1:=d a (WH ..);have h2:=CA M A (l.filter fun b=>!(b.head? == some a)) (fun b hb=>by
   obtain ⟨hb,hn⟩:=WO.1 hb;obtain ⟨c,hc,e⟩:=h b hb;rcases WV.1 hc with rfl | hc
   ·simp [e] at hn
   ·exact ⟨c,hc,e⟩) fun c hc=>by
    refine WK ?_ (d c (SO _ hc));exact (List.Sublist.filter _ List.filter_sublist).length_le
  have h3:l.length=(l.filter fun b=>b.head? == some a).length+(l.filter fun b=>!(b.head? == some a)).length:=by
   rw [<- Yr,<- Yr,Zg (p:=fun b:List α=>b.head? == some a)];congr 1;refine List.countP_congr fun b _=>?_
   simp
  rw [W5,Yk];omega
def Cr {α:Type} [DecidableEq α] (A:List α):∀ (k:Nat) (l:List (List α)),l.Nodup->(∀ b∈l,b.length=k/\∀ x∈b,x∈A)->l.length<=A.length^k
 | 0,[],_,_=>by simp
 | 0,[a],_,_=>by simp
 | 0,a :: b :: l,hn,h=>by
  have ha:=XM.1 (h a (by simp)).1;have hb:=XM.1 (h b (by simp)).1;subst ha; subst hb;simp at hn
 | k+1,l,hn,h=>by
  have:=CA (A.length^k) A l (fun b hb=>by
   obtain ⟨h1,h2⟩:=h b hb;cases b with
   | nil=>simp at h1
   | cons x b=>exact ⟨x,h2 x (WH ..),rfl⟩) fun v _=>by
    have:=Cr A k ((l.filter fun b=>b.head? == some v).map List.tail) (by
     refine Xu.2 (YX (fun {x y} hx hy hne e=>hne ?_) (YY _ hn));have hx:=(WO.1 hx).2;have hy:=(WO.1 hy).2;cases x with
     | nil=>simp at hx
     | cons a x =>
      cases y with
      | nil=>simp at hy
      | cons b y =>
       simp at hx hy e;rw [hx,hy,e]) fun b hb=>by
     obtain ⟨c,hc,rfl⟩:=DT.1 hb;obtain ⟨h1,h2⟩:=h c (WO.1 hc).1;refine ⟨by simp [h1],fun x hx=>h2 x (List.mem_of_mem_tail hx)⟩
    rwa [Nj] at this
  rw [Xc,WR]; exact this
def OI:∀ x:V,0<=dot x x/\(dot x x=0->∀ y:V,dot y x=0)
 | []=>⟨by simp [dot],fun _ y=>by cases y <;> simp [dot]⟩
 | a :: x=>by
  obtain ⟨h1,h2⟩:=OI x;have h3:0<=a*a:=by
   rcases Int.le_total 0 a with h | h
   ·exact Xi h h
   ·exact Int.mul_nonneg_of_nonpos_of_nonpos h h
  have e:dot (a :: x) (a :: x)=a*a+dot x x:=by simp [dot]
  rw [e];refine ⟨zO,fun h0 y=>?_⟩;have ha:a=0:=by
   have:a*a=0:=zO
   rcases W2.1 this with h | h <;> exact h
  cases y with
  | nil=>simp [dot]
  | cons b y =>
   have:=h2 zO y
   simp [dot,ha] at this ⊢;exact this
def GQ {d:Nat} {l:List V} (hl:∀ a∈l,a.length=d) {r i:V} (hr:r.length=d) (f:∀ a∈l,dot a r=0) (hn:dot i r≠0):(fz [] l).length+1<=d:=by
 obtain ⟨h1,h2⟩:=form_ech hl;obtain ⟨h3,h4⟩:=put_ech h1 hr;have b:(formF l).length=([]:List V).length+(fz [] l).length:=(wy l []).2;cases hp:pivot (restF (formF l) r) with
 | some p =>
  have e:(putF (formF l) r).length=(formF l).length+1:=by unfold putF; rw [hp]; simp only; rw [insP_len,Nj]
  have:=Ev.ech_len h3
  simp at b;omega
 | none =>
  exfalso
  have e:putF (formF l) r=formF l:=by unfold putF; rw [hp]
  have h5:Spn d (· ∈ l) r:=(h2 r).1 (by
   have:=(h4 r).2 (dK hr (.inr rfl))
   rw [e] at this;exact this)
  have c:=Con.dot_zero (a:=r) hl (fun r h=>h.elim) (fun a ha=>by rw [dot_comm]; exact f a ha) (fun r h=>h.elim) h5;exact hn ((OI r).2 c i)
def DD.count3 {d:Nat} {E L:V->Prop} {f R:List V} (h:DD d E (· ∈ f) L R) (n:∀ i∈f,i.length=d):R.length<=1\/R.length<=f.length^(d-1):=by
 obtain ⟨T,hT⟩:∃ T:V->List V,T=fun r=>f.filter fun i=>decide (dot i r=0):=⟨_,rfl⟩
 have g:∀ r i,i∈T r ↔ i∈f/\dot i r=0:=fun r i=>by rw [hT,WO]; simp
 have j:∀ r,∀ i∈T r,i.length=d:=fun r i hi=>n i ((g r i).1 hi).1;by_cases he:∃ r∈R,fz [] (T r)=[]
 ·left
  obtain ⟨r,hr,hb⟩:=he;have o:∀ i,i∈f->dot i r=0->∀ y,dot i y=0:=fun i hi h0 y=>by
   have h1:Spn d (· ∈ fz [] (T r)) i:=((ES (j r)).2 i).2 (dK (n i hi) ((g r i).2 ⟨hi,h0⟩));rw [dot_comm];exact Con.dot_zero (fun l hl=>j r l (mE _ _ l hl)) (fun r h=>h.elim) (fun l hl=>by rw [hb] at hl; cases hl) (fun r h=>h.elim) h1
  have m:∀ s∈R,∀ i,i∈f->(dot i s=0 ↔ dot i r=0):=fun s hs=>by
   obtain ⟨k,c,B,hc,A⟩:=h.ext r hr s (h.keep s hs) fun i hi h0=>o i hi h0 s;have w:=h.lenR s hs;have v:=h.lenR r hr;have q:∀ i,i∈f->k*dot i s=c*dot i r:=fun i hi=>by
    have:=Con.dot_zero (a:=i) h.lenL (fun r h=>h.elim) (fun l hl=>h.lineI l hl i hi) (fun r h=>h.elim) A
    rw [aW _ _ _ (w.trans v.symm),Int.neg_mul] at this;omega
   have u:c≠0:=fun e=>by
    obtain ⟨i,hi,hn⟩:=h.off s hs
    have:=q i hi
    rw [e,Int.zero_mul] at this;rcases W2.1 this with h1 | h1
    ·omega
    ·exact hn h1
   intro i hi
   have:=q i hi
   constructor
   ·intro e;rw [e,ZI] at this;rcases W2.1 this.symm with h1 | h1
    ·exact absurd h1 u
    ·exact h1
   ·intro e;rw [e,ZI] at this;rcases W2.1 this with h1 | h1
    ·omega
    ·exact h1
  have ha:=h.apart
  match R,ha,m with
  | [],_,_=>simp
  | [x],_,_=>simp
  | x :: y :: R',ha,m =>
   exfalso
   have h1:=List.rel_of_pairwise_cons ha (WH (a:=y) (l:=R'));exact h1 fun i hi=>(m x (by simp) i hi).trans (m y (by simp) i hi).symm
 ·right
  have hne:∀ r∈R,fz [] (T r)≠[]:=fun r hr e=>he ⟨r,hr,e⟩;have hd:∀ b:List V,b≠[]->b.headD []∈b:=fun b hb=>by
   cases b with
   | nil=>exact absurd rfl hb
   | cons a b=>exact WH ..
  have hn:(R.map fun r=>fz [] (T r)++List.replicate (d-1-(fz [] (T r)).length) ((fz [] (T r)).headD [])).Nodup:=by
   have p:∀ r s:V,fz [] (T s)≠[]->fz [] (T r)++List.replicate (d-1-(fz [] (T r)).length) ((fz [] (T r)).headD [])=fz [] (T s)++List.replicate (d-1-(fz [] (T s)).length) ((fz [] (T s)).headD [])->∀ i,i∈f->dot i r=0->dot i s=0:=fun r s hs e i hi o=>by
    have h1:Spn d (· ∈ fz [] (T r)) i:=((ES (j r)).2 i).2 (dK (n i hi) ((g r i).2 ⟨hi,o⟩));rw [dot_comm];refine Con.dot_zero (fun l hl=>j r l (mE _ _ l hl)) (fun r h=>h.elim) (fun l hl=>?_) (fun r h=>h.elim) h1;have h2:l∈fz [] (T s)++List.replicate (d-1-(fz [] (T s)).length) ((fz [] (T s)).headD []):=by rw [<- e]; exact XK _ hl
    have h3:l∈fz [] (T s):=by
     rcases WQ.1 h2 with h2 | h2
     ·exact h2
     ·rw [ZL h2]; exact hd _ hs
    rw [dot_comm]; exact ((g s l).1 (mE _ _ l h3)).2
   exact Xu.2 (h.apart.imp_of_mem fun {r s} hr hs t e=>t fun i hi=>⟨p _ _ (hne s hs) e i hi,p _ _ (hne r hr) e.symm i hi⟩)
  have:=Cr f (d-1) _ hn fun b hb=>by
   obtain ⟨r,hr,rfl⟩:=DT.1 hb;obtain ⟨i,hi,z⟩:=h.off r hr;have h1:=GQ (j r) (h.lenR r hr) (fun a ha=>((g r a).1 ha).2) z;refine ⟨by rw [WM,Yu]; omega,fun x hx=>?_⟩;have hm:x∈fz [] (T r):=by
    rcases WQ.1 hx with hx | hx
    ·exact hx
    ·rw [ZL hx]; exact hd _ (hne r hr)
   exact ((g r x).1 (mE _ _ x hm)).1
  simpa using this
end Go.Proofs.YtiigaeehghcjiaaGreat.Lin
namespace Go.Proofs.YtiigaeehghcjiaaGreat.Ev
open Go Nn
def Gc (d:Nat) (E:List (List Int)) {j:Nat} (h:j<E.length):Lin.gensU d (E.take (j+1)) []=Lin.addU E[j] true (Lin.gensU d (E.take j) []):=by
 unfold Lin.gensU;rw [TY h,Zx]; rfl
def Gb (d:Nat) (E I:List (List Int)) {j:Nat} (h:j<I.length):Lin.gensU d E (I.take (j+1))=Lin.addU I[j] false (Lin.gensU d E (I.take j)):=by
 unfold Lin.gensU;rw [TY h,Zx]; rfl
def ml {m:Nat} {x:List Int} (h:Lin.Bd (2^m) x):∀ z∈x,Bt (m+1) z:=fun z a=>by
 have h1:=h.mem z a;have h2:0<2^m:=Xh zU;unfold Bt;rw [Xc];omega
def LG {d:Nat} {l:List (List Int)} (hl:∀ r∈l,r.length=d):Lin.formF (Lin.formF l)=Lin.formF l:=by
 have h:=Lin.form_ech hl;have h2:=Lin.form_ech h.1.len;exact h2.1.unique h.1 h2.2
structure Rv (d f:Nat) (u:Lin.Under) (I:List (List Int)):Prop where
 lines:∀ l∈u.lines,l.length=d/\∀ z∈l,Bt f z
 rays:∀ r∈u.rays,r.length=d/\∀ z∈r,Bt f z
 few:u.rays.length<=I.length^(d-1)+1
 some:u.lines.length<=d
 done:u.done=I
def SC {d m:Nat} (e:0<d) (hd:d<=6) {E I:List (List Int)} (h1:∀ a∈E,a.length=d/\Lin.Bd (2^m) a) (h2:∀ a∈I,a.length=d/\Lin.Bd (2^m) a):Rv d (64*(m+4)+1) (Lin.gensU d E I) I:=by
 obtain ⟨b,c,f⟩:=Lin.gens_mid e (Xh (n:=m) (show 0<2 by decide)) h1 h2;exact ⟨fun l hl=>⟨(b l hl).1,ml ((b l hl).2.mono (Lin.pow_bd hd))⟩,fun l hl=>⟨(c l hl).1,ml ((c l hl).2.mono (Lin.pow_bd hd))⟩,by rcases (Lin.gensU_dd (fun a ha=>(h1 a ha).1) (fun a ha=>(h2 a ha).1)).count3 (fun a ha=>(h2 a ha).1) with h | h <;> omega,Lin.gensU_lines d E I,Lin.gensU_done (fun a ha=>(h1 a ha).1) (fun a ha=>(h2 a ha).1)⟩
def uN {d m:Nat} (e:0<d) (hd:d<=6) {E I:List (List Int)} (h1:∀ a∈E,a.length=d/\Lin.Bd (2^m) a) (h2:∀ a∈I,a.length=d/\Lin.Bd (2^m) a) :
  (∀ l∈Lin.gensL d E I,l.length=d/\Lin.Bd (2^(64*(m+4))) l)/\∀ r∈Lin.gensR d E I,r.length=d/\Lin.Bd (2^(64*(m+4))) r:=by
 have t:=Lin.gens_told (fun a ha=>(h1 a ha).1) (fun a ha=>(h2 a ha).1);obtain ⟨b,c⟩:=Lin.told_bd e (Xh (n:=m) (show 0<2 by decide)) t h1 h2;exact ⟨fun l hl=>⟨t.dd.lenL l hl,(b l hl).mono (Lin.pow_bd hd)⟩,fun l hl=>⟨t.dd.lenR l hl,(c l hl).mono (Lin.pow_bd hd)⟩⟩
def SP {e d:Nat} (hd:d<=6):kj e d<=1237*e+1957:=by
 refine WK (uC e hd) ?_;simp only [kj];omega
def IM {d:Nat} {A B:List (List Int)} (h1:xP d A) (h2:xP d B) (hA:A.length<=1024) (f:B.length<=1024):ic (A.map fun r=>r.map fd) (B.map fun r=>r.map fd)=0:=by
 have code:∀ {L:List (List Int)},xP d L->L.length<=1024->cF (L.map fun r=>r.map fd)=0:=fun {L} c hL=>by
  refine wO (by rw [Nj]; exact hL) (fun k e=>?_) fun k e=>?_
  ·rw [Nj] at e;have hm:=EL e;simp only [Zn];unfold xK;rw [DK (by rw [c.len _ hm]; exact c.le),decide_eq_false (by rw [Nj,c.len _ hm]; have:=c.pos; omega)];rfl
  ·rw [Nj] at e;simp only [Zn,Nj];rw [c.len _ (EL e),c.len _ (EL zO)]
 unfold ic;rw [code h1 hA,code h2 f];simp only [ne_eq,not_true_eq_false,if_false];rw [if_neg];rintro ⟨ha,hb,hne⟩
 apply hne
 cases A with
 | nil=>simp at ha
 | cons a A =>
  cases B with
  | nil=>simp at hb
  | cons b B=>simp [h1.len a (by simp),h2.len b (by simp)]
def QW {a:AV} (ha:One a):im [.nilSl,.nilSl,.nilSl] [((0,1),a)]=some (.agg [a,.nilSl,.nilSl]):=by
 simp [im,cP,ha.1,ha.2]
section
variable {tab:Nat->Option au} {H:Heap} {s:AV}
def EG (C:Code tab) (h:Wf H) {a b:AV} {x y:List Int} (ha:RowV H a x) (hb:RowV H b y) (g:x.length=y.length) (e:x.length<=64) (hx:∀ z∈x,fm z) (hy:∀ z∈y,fm z) :
  Ans tab (.fn jK [a,b]) H fun v H'=>v=.int .i64 (EI x y)/\Kp H H':=by
 have i:=ha.one;have j:=hb.one;refine bE C.q93 zU fun T hl c d=>?_;refine zW (aC hl c d) ?_;refine AnsH.eq (P3 C zF (ha.mono (zG H)) (hb.mono (zG H)) g e hx hy) fun H2 f=>?_;obtain ⟨k2,_,_⟩:=zT H zK f;refine zW (aC hl c d) ?_;exact zK
def A4 (C:Code tab) (hw:Wf H) {va S:AV} {E I:List (List Int)} {d m:Nat} (ha:d9 H va E) (hb:d9 H S I) (O:0<d) (hd:d<=6) (he:E.length<=1024) (hi:I.length<=1024) (bI:I.length^(d-1)<1099000000000) (h1:∀ a∈E,a.length=d/\Lin.Bd (2^m) a) (h2:∀ a∈I,a.length=d/\Lin.Bd (2^m) a) (hm:m<=300000) :
  Ans tab (.fn rA [.int .i64 (d:Int),va,S]) H fun v H'=>∃ p q,v=.tup [p,q,.int .i64 0]/\d9 H' p (Lin.gensL d E I)/\d9 H' q (Lin.gensR d E I)/\Kp H H':=by
 have oa:=ha.one;have ob:=hb.one;obtain ⟨f,hf⟩:∃ f,f=64*(m+4)+1:=⟨_,rfl⟩
 have ok1:xP d E:=⟨O,zO,fun r hr=>(h1 r hr).1,fun r hr z n=>(ml (h1 r hr).2 z n).sm zO⟩
 have ok2:xP d I:=⟨O,zO,fun r hr=>(h2 r hr).1,fun r hr z n=>(ml (h2 r hr).2 z n).sm zO⟩
 have mid:∀ {A B:List (List Int)},(∀ a∈A,a.length=d/\Lin.Bd (2^m) a)->(∀ a∈B,a.length=d/\Lin.Bd (2^m) a)->Rv d f (Lin.gensU d A B) B:=fun hA hB=>by rw [hf]; exact SC O hd hA hB
 have bK:=SP (e:=f) hd;refine B0 C.q62 rfl rfl zU fun T hl g=>?_;have hl:T.length=100:=hl;have bn:c_cone_Gens.results=[(6,none),(7,none),(8,none)]:=rfl;have g0:ad T 0=.int .i64 (d:Int):=g 0 (by simp);have g1:ad T 1=va:=g 1 (by simp);have g2:ad T 2=S:=g 2 (by simp);refine bf ?_;refine zW (cn hl g0 g1 g2 @aD) ?_;refine cZ (fun T' H'=>Kp H H') rfl ?_ ?_
 ·refine zW (aZ hl g0 g1 g2) ?_;refine AnsH.eq (EF C zF ((Ag ha).mono (zG H)) ((Ag hb).mono (zG H)) (by rw [Nj]; omega) (by rw [Nj]; omega) (fun r hr=>?_) (fun r hr=>?_)) fun H2 aE=>?_
  ·obtain ⟨x,hx,rfl⟩:=DT.1 hr;exact uX (by rw [ok1.len x hx]; omega) (ok1.sm x hx)
  ·obtain ⟨x,hx,rfl⟩:=DT.1 hr;exact uX (by rw [ok2.len x hx]; omega) (ok2.sm x hx)
  rw [IM ok1 ok2 he hi];obtain ⟨k2,_,_⟩:=zT H zK aE;refine zW (aB hl @aV) ?_;exact zK
 intro T1 H1 ak k1;have w1:=k1.wf;have bO:=k1.le;have t0:ad T1 0=.int .i64 (d:Int):=(ak.at_ 0 zU).trans (zV (aB hl g0));have t1:ad T1 1=va:=(ak.at_ 1 zU).trans (zV (aB hl g1));have t2:ad T1 2=S:=(ak.at_ 2 zU).trans (zV (aB hl g2));have t7:ad T1 7=.nilSl:=(ak.at_ 7 zU).trans (zV hl);have ar:T1.length=100:=ak.len.trans (by simp only [jL]; exact hl);refine cZ (fun T' H'=>Kp H H'/\ad T' 7=.nilSl) rfl ?_ ?_
 ·refine zW (aZ ar t0 t1 t2) ?_;refine AnsH.use (L7 C (Ls:=[E,I]) (d:=d) zF (BR (E:=rowsE) (t1:=af) ha hb (zG H) (cY)) (by simp) (fun L hL r hr=>?_)) ?_
  ·rcases WV.1 hL with rfl | hL
   ·exact ok1.len r hr
   ·rcases WV.1 hL with rfl | hL
    ·exact ok2.len r hr
    ·cases hL
  rintro v H2 ⟨rfl,aE⟩;obtain ⟨k2,_,_⟩:=zT H zK aE;have q1:¬ ((d:Int)<1):=zO;have q2:¬ ((64:Int)<(d:Int)):=zO;have q3:(0:Int)<=(d:Int):=zO;cases bH:[E,I].any (fun L=>!L.isEmpty) with
  | true =>
   refine zW (ip ar t0 t7 q1 q2 q3 @aV) ?_;exact zK
  | false =>
   refine zW (ip ar t0 t7 q1 q2 q3 @aV) ?_;exact zK
 rintro T2 H2 aw ⟨k2,u7⟩;have w2:=k2.wf;have bP:=k2.le;have u0:ad T2 0=.int .i64 (d:Int):=(aw.at_ 0 zU).trans t0;have u1:ad T2 1=va:=(aw.at_ 1 zU).trans t1;have u2:ad T2 2=S:=(aw.at_ 2 zU).trans t2;have aI:T2.length=100:=aw.len.trans ar;refine cZ (fun T' H'=>ad T' 10=.ptr (H2.next+3) 0/\Kp H H'/\UnderV H H' (H2.next+3) (Lin.gensU d [] [])) rfl ?_ ?_
 ·refine zW (aB aI u0) ?_;refine AnsH.use (OY C (d:=d) zF zO) ?_;rintro v Y ⟨ay,aG⟩;obtain ⟨k23,_,_⟩:=zT H2 zK aG;have k3:Kp H Y:=k2.trans k23;have b0:=k3.le;have w3:=k3.wf;have ov:=ay.sl.one;have h0:AV.one .nilSl=true:=rfl;have bb:io (.agg [v,.nilSl,.nilSl])=some [v,.nilSl,.nilSl]:=by simp [io,AV.cells,ov.2,h0]
  have n3:H2.next+5<=Y.next:=aG.le
  have f3:Y.get (H2.next+3)=none:=aG.free (show _<H2.next+5 by omega) (w2.fresh (b:=H2.next+3) zO);refine zW (aZ aI (QW ov) bb @aV) ?_;have ba:Wr H Y v (Lin.startU d).lines (Lin.startU d).lines.length:=ay.wr.base (show H.next<=H2.next+5 by omega);have bk:jZ v≠some (H2.next+3):=fun hx=>by
   have h2:H2.next+5<=H2.next+3:=ay.ge hx
   omega
  exact ⟨zK,v,.nilSl,.nilSl,_,am _ _ _,ba.put bk (NoTy.none f3),.inl ⟨rfl,rfl⟩,.inl ⟨rfl,rfl⟩,(fun x _ hy=>by cases hy),(fun x _ hy=>by cases hy),(fun x _ hy=>by cases hy)⟩
 obtain ⟨ub,bq⟩:∃ ub,ub=H2.next+3:=⟨_,rfl⟩
 rw [<- bq];have a1:H.next<=ub:=zO
 rintro T3 Y ax ⟨a4,k3,bo⟩;have w3:=k3.wf;have bQ:=k3.le;have v1:ad T3 1=va:=(ax.at_ 1 zU).trans u1;have v2:ad T3 2=S:=(ax.at_ 2 zU).trans u2;have v7:ad T3 7=.nilSl:=(ax.at_ 7 zU).trans u7;have l:T3.length=100:=ax.len.trans aI;refine bf ?_;refine zW (aC l a4 @aD) ?_;refine cZ (fun T' H'=>Kp H H'/\UnderV H H' ub (Lin.gensU d E [])) rfl ?_ ?_
 ·refine zW (aC l v1 ha.lenV) ?_;refine aq H [] (fun j _ H'=>UnderV H H' ub (Lin.gensU d (E.take j) [])) (a:=0) (N:=E.length) rfl (by refine zW l ?_; rfl) (zV l) (WG _) zO (by simp only [jL,l]; rfl) rfl (fun j vs H' m h=>h.mono (Sub.bump H' m)) zK (by exact bo.mono (Sub.bump Y _)) ?_ ?_
  ·rintro j F H4 _ hj c bc M W ae;have w4:=W.wf;have bU:=W.le;have bu:=W.le;have bw:ad F 48=va:=(M.at_ 48 zU).trans (zV (aB l v1));have aP:ad F 11=.fn (.func db) [.ptr ub 0] []:=(M.at_ 11 zU).trans (zV l);obtain ⟨w,hr,ah⟩:=dE ha hj;have bh:=bV W.sub ah;have ag:=SlV.idx1 ha .i64 j hj;have mk:=mid (A:=E.take j) (B:=[]) (fun a h=>h1 a (YJ h)) (fun a h=>by cases h);have aR:=h1 _ (EL hj);have a0:=mk.some;have aA:=mk.few;have bE:0^(d-1)<=1:=WK (YC (WG 1) _) (by rw [Nat.one_pow]; exact Jv _);simp only [XZ] at aA;have aJ:(Lin.addU E[j] true (Lin.gensU d (E.take j) [])).rays.length<=1099000000000:=by
    rw [<- Gc d E hj]
    have:=(mid (A:=E.take (j+1)) (B:=[]) (fun a h=>h1 a (YJ h)) (fun a h=>by cases h)).few
    simp only [XZ] at this;omega
   simp only [jL,l] at c;refine zW (fy c bw aP bc ag bh) ?_;refine AnsH.use (Gx C (H0:=H) (u:=Lin.gensU d (E.take j) []) (e:=f) (f:=f) (W.up _) a1 (ae.mono (Sub.bump H4 _)) hr O zO aR.1 mk.lines mk.rays (fun r hr=>by rw [mk.done] at hr; cases hr) (by rw [mk.done]; simp) (fun z n=>(ml aR.2 z n).mono zO) zO zO zO aJ) ?_;rintro v U ⟨rfl,G,Q⟩;refine zW c ?_;exact ⟨G,by rw [Gc d E hj]; exact Q⟩
  ·rintro F H4 c M W ae;rw [WZ] at ae;refine zW (aB c @aV) ?_;exact ⟨W,ae⟩
 rintro F H4 M ⟨k4,ae⟩;have w4:=k4.wf;have bu:=k4.le;have x2:ad F 2=S:=(M.at_ 2 zU).trans (zV (aB l v2));have x7:ad F 7=.nilSl:=(M.at_ 7 zU).trans (zV (aB l v7));have bA:ad F 10=.ptr ub 0:=(M.at_ 10 zU).trans (zV (aB l a4));have bC:ad F 11=.fn (.func db) [.ptr ub 0] []:=(M.at_ 11 zU).trans (zV l);have c:F.length=100:=M.len.trans (by simp only [jL]; exact l);refine cZ (fun T' H'=>Kp H H'/\UnderV H H' ub (Lin.gensU d E I)) rfl ?_ ?_
 ·refine zW (aC c x2 hb.lenV) ?_;refine aq H [] (fun j _ H'=>UnderV H H' ub (Lin.gensU d E (I.take j))) (a:=0) (N:=I.length) rfl (by refine zW c ?_; rfl) (zV c) (WG _) zO (by simp only [jL,c]; rfl) rfl (fun j vs H' m h=>h.mono (Sub.bump H' m)) zK (by exact ae.mono (Sub.bump H4 _)) ?_ ?_
  ·rintro j V U _ hj J bd X G Q;have w5:=G.wf;have bW:=G.le;have bv:=G.le;have bx:ad V 58=S:=(X.at_ 58 zU).trans (zV (aB c x2));have aP:ad V 11=.fn (.func db) [.ptr ub 0] []:=(X.at_ 11 zU).trans (zV (aB c bC));obtain ⟨w,hr,ah⟩:=dE hb hj;have bj:=bV G.sub ah;have ag:=SlV.idx1 hb .i64 j hj;have az:∀ a∈I.take j,a.length=d/\Lin.Bd (2^m) a:=fun a h=>h2 a (YJ h);have mk:=mid (A:=E) (B:=I.take j) h1 az;have aT:=h2 _ (EL hj);have a0:=mk.some;have aA:=mk.few;have hp:(I.take j).length^(d-1)<=I.length^(d-1):=YC (by rw [WU]; omega) _;have aJ:(Lin.addU I[j] false (Lin.gensU d E (I.take j))).rays.length<=1099000000000:=by
    rw [<- Gb d E I hj];have h3:=(mid (A:=E) (B:=I.take (j+1)) h1 (fun a h=>h2 a (YJ h))).few;have h4:(I.take (j+1)).length^(d-1)<=I.length^(d-1):=YC (by rw [WU]; omega) _;omega
   simp only [jL,c] at J;refine zW (fy J bx aP bd ag bj) ?_;refine AnsH.use (Gx C (H0:=H) (u:=Lin.gensU d E (I.take j)) (e:=f) (f:=f) (G.up _) a1 (Q.mono (Sub.bump U _)) hr O zO aT.1 mk.lines mk.rays (fun r hr=>by rw [mk.done] at hr; exact ⟨(az r hr).1,fun z n=>(ml (az r hr).2 z n).mono zO⟩) (by rw [mk.done,WU]; omega) (fun z n=>(ml aT.2 z n).mono zO) zO zO zO aJ) ?_;rintro v s ⟨rfl,aH,bp⟩;refine zW J ?_;exact ⟨aH,by rw [Gb d E I hj]; exact bp⟩
  ·rintro V U J X G Q;rw [WZ] at Q;refine zW (aB J @aV) ?_;exact ⟨G,Q⟩
 rintro V U X ⟨k5,Q⟩;have w5:=k5.wf;have bv:=k5.le;have y7:ad V 7=.nilSl:=(X.at_ 7 zU).trans x7;have a5:ad V 10=.ptr ub 0:=(X.at_ 10 zU).trans bA;have J:V.length=100:=X.len.trans c;have mk:=mid h1 h2;have a0:=mk.some;have aA:=mk.few;obtain ⟨ql,qr,qd,cl,aM,bl,bm,bN,-,-,-⟩:=Q;have b4:=w5 _ _ aM;obtain ⟨tL,tR⟩:=uN O hd h1 h2;have hT:=Lin.gens_told (fun a ha=>(h1 a ha).1) (fun a ha=>(h2 a ha).1);obtain ⟨L,hL⟩:∃ L,L=Lin.gensL d E I:=⟨_,rfl⟩
 have aU:Lin.formF (Lin.gensU d E I).lines=L:=by rw [hL]; rfl
 have a8:Lin.formF L=L:=by rw [<- aU]; exact LG (fun r hr=>(mk.lines r hr).1)
 have bF:L.length<=d:=by rw [hL]; exact ech_len hT.form
 have aW:∀ r∈L,r.length=d/\∀ z∈r,Bt f z:=fun r hr=>by
  rw [hL] at hr;exact ⟨(tL r hr).1,fun z n=>by rw [hf]; exact ml (tL r hr).2 z n⟩
 refine cZ (fun T' H'=>∃ q6,ad T' 6=q6/\Kp U H'/\d9 H' q6 L) rfl ?_ ?_
 ·refine zW (aC J a5 aM) ?_;refine AnsH.use (DC C (d:=d) (e:=f) zF (bl.sl.mono (Sub.bump U _)) zO O zO (fun r hr=>(mk.lines r hr).1) (fun r hr=>(mk.lines r hr).2) zO) ?_;rintro v s ⟨q6,rfl,aj,aH⟩;have k6:Kp U s:=Kp.trans (Kp.up (Kp.refl w5) _) aH;have b1:=k6.le;rw [aU] at aj;refine zW (aB J @aV) ?_;exact ⟨q6,rfl,k6,aj⟩
 rintro T6 s aL ⟨q6,z6,al,aj⟩;have w6:=al.wf;have bR:=al.le;have z7:ad T6 7=.nilSl:=(aL.at_ 7 zU).trans y7;have bD:ad T6 10=.ptr ub 0:=(aL.at_ 10 zU).trans a5;have K:T6.length=100:=aL.len.trans J;have br:=al.get aM;have av:d9 s qr (Lin.gensU d E I).rays:=bm.sl.mono al.sub;obtain ⟨R,hR⟩:∃ R,R=(Lin.gensU d E I).rays:=⟨_,rfl⟩
 have a9:∀ r∈R,r.length=d/\∀ z∈r,Bt f z:=fun r hr=>mk.rays r (by rw [<- hR]; exact hr);have bG:R.length<=1099000000000:=by rw [hR]; omega
 rw [<- hR] at av;refine cZ (fun T' H'=>∃ o,ad T' 7=o/\Kp s H'/\Bl rowsE af s H' o (R.map (Lin.restF L))) rfl ?_ ?_
 ·refine zW (aZ K bD br av.lenV) ?_;refine aq s [7] (fun j vs H'=>∃ o,vs=[o]/\Bl rowsE af s H' o ((R.take j).map (Lin.restF L))) (a:=0) (N:=R.length) rfl (by refine zW K ?_; rfl) (zV K) (WG _) zO (by simp only [jL,K]; rfl) rfl (fun j vs H' m ⟨o,q1,q2⟩=>⟨o,q1,q2.mono (Sub.bump H' m)⟩) (Kp.up (Kp.refl w6) _) ⟨.nilSl,by exact zV (aB K z7),Bl.nil⟩ ?_ ?_
  ·rintro j T7 Z _ hj t bg ab P ⟨o,hv,ho⟩;have w7:=P.wf;have bY:=P.le;have bT:=P.le;simp only [SA,WF,Ud,and_true] at hv;have bz:ad T7 79=qr:=(ab.at_ 79 zU).trans (zV K);have t6:ad T7 6=q6:=(ab.at_ 6 zU).trans (zV (aB K z6));obtain ⟨w,hr,ah⟩:=dE (av.mono P.sub) hj;have ag:=SlV.idx1 av .i64 j hj;have aX:=a9 _ (EL hj);simp only [jL,K] at t;refine zW (fy t bz t6 bg ag ah) ?_;refine AnsH.use (Fz C (d:=d) (e:=f) zF (hr.mono (Sub.bump Z _)) ((aj.mono P.sub).mono (Sub.bump Z _)) zO O zO aX.1 (fun r hr=>(aW r hr).1) aX.2 (fun r hr=>(aW r hr).2) zO) ?_;rintro v i ⟨q,rfl,aK,ao⟩;have aO:Kp Z i:=Kp.trans (Kp.up (Kp.refl w7) _) ao;have b3:=aO.le;have aN:Kp s i:=P.trans aO;have b2:=aN.le;have w8:=aN.wf;rw [a8] at aK;have oq:=aK.one;have bM:((R.take j).map (Lin.restF L)).length<=R.length:=by simp; omega
   obtain ⟨n6,H9,e6,b6,k6,b5,f6,u6⟩:=Bl.push1 (ty2:=af) (bytes:=24) (id:=i.next+3) (id2:=i.next+2) (k:=5) (cs:=[q]) (a:=Lin.restF L R[j]) (ho.mono aO.sub) zU aN ⟨q,rfl,aK⟩ zO zO zO zO zO zO zO;have b7:dq ((i.up 5).put (i.next+2) (.cells [q] af true)) (i.next+3) 1 24 af o (.own (i.next+2) 0 1 1 1 true)=some (.own (i.next+3) 0 n6 n6 1 false,H9):=e6;refine zW (aC t hv b7) ?_;refine ⟨k6,_,rfl,?_⟩;rw [TY hj,Xd];exact b6
  ·rintro T7 Z t ab P ⟨o,hv,ho⟩;simp only [SA,WF,Ud,and_true] at hv;rw [WZ] at ho;refine zW (aB t @aV) ?_;exact ⟨o,hv,P,ho⟩
 rintro T7 Z ab ⟨o,a7,a3,b8⟩;have w7:=a3.wf;have a6:ad T7 6=q6:=(ab.at_ 6 zU).trans z6;have t:T7.length=100:=ab.len.trans K;have aS:(R.map (Lin.restF L)).mergeSort Lin.cmpV=Lin.gensR d E I:=by rw [hR,hL]; rfl
 have aY:(Lin.gensR d E I).Perm (R.map (Lin.restF L)):=by rw [<- aS]; exact List.mergeSort_perm _ _
 have aa:∀ r∈R.map (Lin.restF L),r.length=d/\∀ z∈r,fm z:=fun r hr=>by
  have h:=tR r (aY.mem_iff.2 hr);exact ⟨h.1,fun z n=>(ml h.2 z n).sm zO⟩
 refine bf ?_;refine zW (aC t @a7 @aD) ?_;refine AnsH.use (B2 C.q92 rfl (H0:=s) (d:=d) (a3.up _) (b8.mono (Sub.bump Z _)) (fun r hr=>(aa r hr).1) (aY.nodup_iff.1 (Lin.told_nodup hT)) (by rw [Nj]; omega) fun D a b hD x hx y hy bs bt=>(EG C hD bs bt ((aa x hx).1.trans (aa y hy).1.symm) (by rw [(aa x hx).1]; omega) (aa x hx).2 (aa y hy).2).mono fun _ _ h=>h.1) ?_;rintro v i ⟨rfl,ao,aQ⟩;rw [aS] at aQ;refine zW (aB t @aD) ?_;refine bf ?_;refine zW (aZ t @a6 @a7 @aD) ?_;refine WC.wb ?_;refine zW (aB t bn) ?_;have a2:Kp H i:=(k5.trans al).trans ao;have bZ:=a2.le;rw [<- hL];exact ⟨_,_,rfl,(aj.mono ao.sub).mono (Sub.bump i _),aQ.sl.mono (Sub.bump i _),a2.up _⟩
end
end Go.Proofs.YtiigaeehghcjiaaGreat.Ev
