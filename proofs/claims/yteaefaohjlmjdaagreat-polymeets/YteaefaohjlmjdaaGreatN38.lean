/- A part. -/
import Derived.Test.YteaefaohjlmjdaaGreatA0
import Derived.Test.YteaefaohjlmjdaaGreatGens
set_option linter.all false
namespace Go.Proofs.YteaefaohjlmjdaaGreat.Ev
open Go Nn
def MX {tab:Nat->Option az} (ev:Src->AV) (H:Heap) (id:Nat) (Q:AV->Heap->Prop) (size:Nat) (z:List AV) (x:Src) :
  mF tab ev H id (.clear size z x) Q=gV (rP H size z (ev x)) (fun H'=>Q (.tup []) H') ():=by
 rw [ck,iv tab ev H id Q (o:=.clear size z x) (fun f a e=>by cases e) rfl];show iM ((rP H size z (ev x)).map fun H'=>(AV.tup [],H')) _=_;cases rP H size z (ev x) <;> rfl
def Kp.at_ {H0 H H':Heap} {b:Nat} (a:Kp H0 H) (hg:∀ c,c≠b->H'.get c=H.get c) (hn:H'.next=H.next) (d:H0.next<=b) (hlt:b<H.next):Kp H0 H' :=
 ⟨a.wf0,fun c e hc=>by
  by_cases h:c=b
  ·rw [h,hn]; exact hlt
  ·rw [hn]; exact a.wf c e (by rw [<- hg c h]; exact hc),by rw [hn]; exact a.le,fun c hc=>by rw [hg c zO]; exact a.same c hc⟩
section
variable {tab:Nat->Option az} {H:Heap} {s:AV}
def sj (C:Code tab) (z:Wf H) {fi:Nat} {first caps:List AV} {l:List (List Int)} (hs:eF H s l) (x:l.length<4611686018427387904) (p:List Int->Bool)
  (n:∀ r∈l,∀ H' w,Kp H H'->RowV H' w r->Ans tab (.fn fi (first++[w]++caps)) H' fun v H2=>v=.bool (p r)/\Kp H' H2) :
  Ans tab (.fn cp [s,.fn (.func fi) first caps]) H fun v H'=>v=.int .i64 (nL p l)/\Kp H H':=by
 refine bk C.q88 zU fun T hl c d=>?_;refine zW (aW hl c d hs.lenV) ?_;refine aq H [] (fun j _ _=>∀ k (h:k<l.length),k<j->p l[k]=false) (a:=0) (N:=l.length) rfl (by refine zW (aE hl c d) ?_; rfl) (zV (aE hl c d)) (Vk _) zO (by simp only [U4,hl]; rfl) rfl (fun _ _ _ _ h=>h) zK (fun k _ h=>by omega) ?_ ?_
 ·intro j T1 m _ hj b o i g f;have w1:=g.wf;have A:=g.le;have t0:ad T1 0=s:=(i.at_ 0 zU).trans (zV (aE hl c d));have t1:ad T1 1=.fn (.func fi) first caps:=(i.at_ 1 zU).trans (zV (aE hl c d))
  obtain ⟨w,hr,u⟩:=dI (hs.mono g.sub) hj;have q:=SlV.idx1 hs .i64 j hj;simp only [U4,hl] at b;refine zW (dx b t0 t1 o q u) ?_;refine AnsH.eq (n _ (U9 hj) _ w zK (hr.mono (zG m))) fun H2 t=>?_;obtain ⟨k2,_,_⟩:=zT H zK t;cases hp:p l[j] with
  | true =>
   refine zW b ?_;exact ⟨by rw [sM hj f hp],zK⟩
  | false =>
   refine zW b ?_;refine ⟨zK,fun k h y=>?_⟩;by_cases e:k=j
   ·subst e; exact hp
   ·exact f k h zO
 ·intro T1 m b i g f;simp only [U4,hl] at b;refine zW b ?_;exact ⟨by rw [pU fun k h=>f k h h],zK⟩
def Jh (C:Code tab) (h:Wf H) {l:List (List Int)} (hs:eF H s l) (h0:0<l.length) (k:l.length<1099511627776):Ans tab (.fn cS [s]) H fun v H'=>Kp H H'/\∃ b,Own rowsE af H H' b false v l:=by
 refine cY C.q130 zU fun T hl a=>?_;rcases hs.nilcase with ⟨rfl,rfl⟩ | hne
 ·simp at h0
 ·have e:cZ ([]:List AV) []=some []:=rfl;refine zW (aW hl a hne e) ?_;have k1:Kp H ((H.up 7).put (H.next+3) (.cells [] af true)):=zK;have o:=k1.le;have i:SlV rowsE af ((H.up 7).put (H.next+3) (.cells [] af true)) (.own (H.next+3) 0 0 0 1 true) ([]:List (List Int)) :=
   (show Own rowsE af H _ (H.next+3) true _ [] from ⟨_,rfl,ap _ _ _,Cells.nil _ _,zO⟩).sl
  obtain ⟨j,H2,c,h2,f,m,n,g⟩:=SlV.app (l:=[]) (id:=H.next+5) (bytes:=24) i k1 (hs.mono k1.sub) zO (by show _<H.next+7; omega) (by rw [aB zO]; exact h.fresh (b:=H.next+5) zO) (by simp; omega) (by simp; omega);have d:cC ((H.up 7).put (H.next+3) (.cells [] af true)) (H.next+5) 1 24 af (.own (H.next+3) 0 0 0 1 true) s=some (j,H2):=c;refine zW (aE hl a d) ?_;exact ⟨f,_,g h0⟩
def QT {H':Heap} {b n i:Nat} {cells:List AV} (hb:H'.get b=some (.cells cells af true)) (hn:cells.length=n) (hi:i<n) (j:n<1099511627776) (d:cells.all AV.one=true) :
  ∃ y H2 a,bQ 1 (.own b 0 n n 1 false) (some (.int .i64 ((i+1:Nat):Int))) none none=some y/\(∀ id,cC H' id 1 24 af (.own b 0 i n 1 false) y=some (.own b 0 (n-1) n 1 false,H2))/\H2.get b=some (.cells a af true)/\a.take (n-1)=cells.eraseIdx i/\a.length=n/\(∀ c,c≠b->H2.get c=H'.get c)/\H2.next=H'.next:=by
 have he:cells.eraseIdx i=cells.take i++cells.drop (i+1):=Xw ..;by_cases h:i+1<n
 ·refine ⟨.own b (0+(i+1)*1) (n-(i+1)) (n-(i+1)) 1 false,H'.put b (.cells (cells.take (0+i*1)++cells.drop (i+1)++cells.drop (0+i*1+(n-(i+1))*1)) af true),_,?_,fun id=>?_,ap _ _ _,?_,?_,fun c hc=>aB hc,rfl⟩
  ·show bS 1 (.own b 0 n n 1 false) (some (.int .i64 ((i+1:Nat):Int))) none none=_;simp only [bS,gq,ne_eq,not_true_eq_false,if_false,U8,Wy,Xa,WZ,W0,WK];rw [if_pos ⟨Vc _,zO⟩,if_pos (.inl h)]
  ·have f:aQ H' 1 (n-(i+1)) (.own b (0+(i+1)*1) (n-(i+1)) (n-(i+1)) 1 false)=some (cells.drop (i+1)):=by
    simp only [aQ,hb];rw [if_pos ⟨trivial,Vc _,zO⟩];rw [Vt (by simp; omega)]
    simp
   have g:(cells.drop (i+1)).all AV.one=true:=by
    rw [VA] at d ⊢;exact fun x hx=>d x (XP hx)
   unfold cC;simp only [iC];rw [f];simp only [cQ,hb];rw [if_pos ⟨trivial,zO,zO,trivial,zO⟩,if_pos zO,if_neg zO,if_pos ⟨trivial,g⟩];congr 3;omega
  ·rw [he,XB (by simp; omega),Vt (by simp; omega)]
   simp
  ·simp; omega
 ·have k:n=i+1:=zO;refine ⟨.sl [] 0,H',cells,?_,fun id=>?_,hb,?_,hn,fun _ _=>rfl,rfl⟩
  ·show bS 1 (.own b 0 n n 1 false) (some (.int .i64 ((i+1:Nat):Int))) none none=_;simp only [bS,gq,ne_eq,not_true_eq_false,if_false,U8,Wy,Xa,WZ,W0,WK];rw [if_pos ⟨Vc _,zO⟩,if_neg zO]
   simp
  ·unfold cC;simp only [iC,aQ];simp only [cQ,hb]
   simp
   refine ⟨zO,?_⟩;have e:n-1=i:=zO;rw [if_pos zO,e]
  ·rw [he,Yc zO,WH];congr 1;omega
def Hl (C:Code tab) {H0:Heap} {v:AV} {l:List (List Int)} {i b:Nat} (q:Kp H0 H) (hs:Own rowsE af H0 H b false v l) (hi:i<l.length) (o:l.length<1099511627776) :
  Ans tab (.fn cK [v,.int .i64 (i:Int),.int .i64 ((i+1:Nat):Int)]) H fun O H'=>O=.own b 0 (l.length-1) l.length 1 false/\Kp H0 H'/\(∃ cells,H'.get b=some (.cells cells af true)/\cells.length=l.length/\Cells rowsE H' (cells.take (l.length-1)) (l.eraseIdx i))/\∀ c,c≠b->H'.get c=H.get c:=by
 obtain ⟨cells,g,hb,hcl,A⟩:=hs;have g:v=.own b 0 l.length l.length 1 false:=g;subst g;have hn:cells.length=l.length:=by have:=hcl.1; simpa [bz] using this
 have hlt:=q.wf _ _ hb;have J:=hcl.ones;obtain ⟨n,F⟩:∃ n,l.length=n:=⟨_,rfl⟩
 rw [F] at hn hi o ⊢;refine ni C.q131 zU fun T hl j k m=>?_;have w:bQ 1 (.own b 0 n n 1 false) (some (.int .i64 (i:Int))) (some (.int .i64 ((i+1:Nat):Int))) (some (.int .i64 (n:Int)))=some (.own b (0+i*1) (i+1-i) (n-i) 1 true):=by
  simp only [bQ,bS,gq,ne_eq,not_true_eq_false,if_false,U8,Wy,Xa,WZ,W0,WK];rw [if_pos ⟨Vc _,zO,zO⟩,if_neg zO]
 have G:¬ (i:Int)=((i+1:Nat):Int):=zO;have I:¬ i=i+1:=zO;have P:=Ie b 0 n n 1 i false .i64 (Xd hi);obtain ⟨y,H2,a,hy,z,q2,N,S,h,s⟩:=QT (H':=H.up 21) (b:=b) (i:=i) hb hn hi o J;have K:bQ 1 (.own b 0 (n-1) n 1 false) (some (.int .i64 ((n-1:Nat):Int))) (some (.int .i64 (n:Int))) none=some (.own b (n-1) 1 1 1 false):=by
  simp only [bQ,bS,gq,ne_eq,not_true_eq_false,if_false,U8,Wy,Xa,WZ,W0,WK];rw [if_pos ⟨Vc _,zO⟩,if_pos (.inl zO)];congr 2 <;> omega
 have B:∀ X:Heap,X.get b=some (.cells a af true)->rP X 1 [.nilSl] (.own b (n-1) 1 1 1 false)=some (X.put b (.cells (a.take (n-1)++(List.replicate 1 [AV.nilSl]).flatten++a.drop (n-1+1*1)) af true)):=fun X x=>by
  simp only [rP,x];rw [if_neg zO,if_pos ⟨trivial,zO,rfl,rfl⟩]
 have D:=B (H2.up 6) q2;refine zW (fE hl j k m w G I) ?_;refine aF ?_;simp -dsimp (maxSteps:=1000000) (disch:=(first | omega | assumption | exact aI _ | exact aZ _ _ | exact bD | exact cH _ _ _ | exact bN _ _ | exact bC _ _ _ _ _ _ | exact cR _ _ | exact bR _)) only [↓uV,uU,↓Tq,To,Nat.reduceLT,Nat.reduceEqDiff,Nat.reduceAdd,reduceIte,reduceCtorEq,Nat.reduceBEq,Int.reduceEq,Int.reduceLT,Int.reduceLE,Int.reduceAdd,Int.reduceSub,hl,j,k,m,P,hy,z,JM,K,↓MX,D];obtain ⟨d,f⟩:∃ c,c=a.take (n-1)++(List.replicate 1 [AV.nilSl]).flatten++a.drop (n-1+1):=⟨_,rfl⟩
 rw [<- f];have k2:Kp H0 H2:=(q.up 21).at_ h s A (by show b<H.next+21; omega);have Q:=k2.le;have R:b<H2.next:=by rw [s]; show _<H.next+21; omega
 have u:SubT (tx intE aa).tys H ((H2.up 8).put b (.cells d af true)):=fun c cs t r L hc=>by
  have p:c≠b:=fun e=>by
   subst e;rw [hb] at hc; cases hc
   revert L; decide
  rw [aB p];exact (h c p).trans hc
 have M:d.take (n-1)=cells.eraseIdx i:=by
  rw [f,Xg,XB (by simp; omega),Vt (by simp; omega),N]
 have E:d.length=n:=by rw [f]; simp; omega
 refine ⟨zK,⟨d,rfl,E,?_⟩,fun c hc=>?_⟩
 ·rw [M,Xw,Xw];have h1:=(hcl.mono u).take (n:=i) zO;have h2:=(hcl.mono u).drop (i+1);have h3:=h1.append h2;have es:rowsE.sz=1:=rfl;rw [es,WF,WF] at h3;exact h3
 ·rw [aB hc]; exact h c hc
end
def Sep (v w:AV):Prop:=∀ b,kb v=some b->kb w≠some b
def Sep.symm {v w:AV} (h:Sep v w):Sep w v:=fun b h1 h2=>h b h2 h1
def Wr (H0 H:Heap) (v:AV) (l:List (List Int)) (c:Nat):Prop :=
 (v=.nilSl/\l=[])\/∃ b cells,v=.own b 0 l.length c 1 false/\H.get b=some (.cells cells af true)/\cells.length=c/\l.length<=c/\Cells rowsE H (cells.take l.length) l/\H0.next<=b
def Wr.sl {H0 H:Heap} {v:AV} {l:List (List Int)} {c:Nat} (h:Wr H0 H v l c):eF H v l:=by
 rcases h with ⟨rfl,rfl⟩ | ⟨b,cells,rfl,hb,hc,hl,hcl,-⟩
 ·exact SlV.nil _ _ _
 ·refine ⟨_,⟨hl,(fun s h=>by cases h),l.length,rfl,?_⟩,fun _ _ _ _ _ _ e=>by cases e; exact ⟨_,_,hb⟩,hcl⟩;simp only [aQ,hb];rw [if_pos ⟨rfl,Vc _,by show 0+l.length*1<=_; omega⟩];show some ((cells.drop 0).take (l.length*1))=_;rw [List.drop_zero,WF]
def Bl.wr {H0 H:Heap} {v:AV} {l:List (List Int)} (h:Bl rowsE af H0 H v l):Wr H0 H v l l.length:=by
 rcases h with h | ⟨b,cells,h1,h2,h3,a⟩
 ·exact .inl h
 ·have hc:cells.length=l.length:=by have:=h3.1; simpa [bz] using this
  exact .inr ⟨b,cells,h1,h2,hc,Vc _,by rw [<- hc,VC]; exact h3,a⟩
def Wr.bl {H0 H:Heap} {v:AV} {l:List (List Int)} (h:Wr H0 H v l l.length):Bl rowsE af H0 H v l:=by
 rcases h with h | ⟨b,cells,h1,h2,h3,c,h5,a⟩
 ·exact .inl h
 ·rw [<- h3,VC] at h5;exact .inr ⟨b,cells,h1,h2,h5,a⟩
def Wr.mono {H0 H H':Heap} (hs:Sub H H') {v:AV} {l:List (List Int)} {c:Nat} (h:Wr H0 H v l c):Wr H0 H' v l c:=by
 rcases h with h | ⟨b,cells,h1,h2,h3,a,h5,d⟩
 ·exact .inl h
 ·exact .inr ⟨b,cells,h1,hs.get _ _ h2,h3,a,h5.mono (hs.t _),d⟩
def Wr.base {H0 a H:Heap} (hs:H0.next<=a.next) {v:AV} {l:List (List Int)} {c:Nat} (h:Wr a H v l c):Wr H0 H v l c:=by
 rcases h with h | ⟨b,cells,h1,h2,h3,d,h5,e⟩
 ·exact .inl h
 ·exact .inr ⟨b,cells,h1,h2,h3,d,h5,Vn hs e⟩
def Wr.put {H0 H:Heap} {v:AV} {l:List (List Int)} {c b:Nat} {e:Ent} (h:Wr H0 H v l c) (hb:kb v≠some b) (g:NoTy (tx intE aa).tys H b):Wr H0 (H.put b e) v l c:=by
 rcases h with h | ⟨b',cells,h1,h2,h3,d,h5,f⟩
 ·exact .inl h
 ·refine .inr ⟨b',cells,h1,?_,h3,d,h5.mono (SubT.puts (SubT.refl _ _) g),f⟩;rw [aB (fun a=>hb (by rw [h1,a]; rfl))];exact h2
def Wr.old {H0 H:Heap} {v:AV} {l:List (List Int)} {c b:Nat} (a:Wf H) (h:Wr H0 H v l c) (hb:kb v=some b):b<H.next:=by
 rcases h with ⟨rfl,-⟩ | ⟨b',cells,rfl,h2,-⟩
 ·cases hb
 ·cases hb; exact a _ _ h2
def RowV.put_ne {H:Heap} {v:AV} {l:List Int} {b:Nat} {e:Ent} (h:RowV H v l) (hb:kb v≠some b) (hn:NoTy [ae] H b):RowV (H.put b e) v l:=by
 obtain ⟨cells,⟨h0,h1,n,h2,h3⟩,f,hc⟩:=h;refine ⟨cells,⟨h0,h1,n,h2,?_⟩,fun b' off n' c z x e'=>?_,hc.mono (SubT.puts (SubT.refl _ _) hn)⟩
 ·unfold aQ at h3 ⊢;split at h3
  ·rename_i b' off m c sz ex;rw [aB (fun a=>hb (by rw [<- a]; rfl))]; exact h3
  ·exact h3
  ·exact h3
  ·exact h3
  ·cases h3
 ·obtain ⟨cs,r,d⟩:=f b' off n' c z x e';exact ⟨cs,r,by rw [aB (fun a=>hb (by rw [e',<- a]; rfl))]; exact d⟩
def Wr.store {H0 H:Heap} {v va:AV} {l:List (List Int)} {x:List Int} {c j:Nat} (h:Wr H0 H v l c) (hj:j<l.length) (hx:RowV H va x) :
  ∃ b cells,kb v=some b/\H0.next<=b/\H.get b=some (.cells cells af true)/\j<cells.length/\cd 1 v (.int .i64 (j:Int))=some (.ptr b j)/\Wr H0 (H.put b (.cells (cells.set j va) af true)) v (l.set j x) c:=by
 rcases h with ⟨-,rfl⟩ | ⟨b,cells,rfl,h2,h3,d,h5,a⟩
 ·simp at hj
 ·have e:j<cells.length:=zO;refine ⟨b,cells,rfl,a,h2,e,?_,.inr ⟨b,_,by rw [U4],ap _ _ _,by rw [U4]; exact h3,by rw [U4]; exact d,?_,a⟩⟩
  ·have:=nK (b:=b) (off:=0) (c:=c) (sz:=1) (x:=false) (k:=.i64) hj
   rw [VN,WF] at this;exact this
  ·have hn:NoTy (tx intE aa).tys H b:=NoTy.ty h2 zU;have f:SubT (tx intE aa).tys H (H.put b (.cells (cells.set j va) af true)):=SubT.puts (SubT.refl _ _) hn;rw [U4,List.take_set];exact Cells.mono (E:=rowsE) f (h5.set1 hj hx)
def Wr.elem {H0 H:Heap} {v:AV} {l:List (List Int)} {c j:Nat} (h:Wr H0 H v l c) (hj:j<l.length) :
  ∃ w,RowV H w l[j]/\bc H none (aA v j)=some w/\cd 1 v (.int .i64 (j:Int))=some (aA v j):=by
 obtain ⟨w,h1,h2⟩:=dI h.sl hj;exact ⟨w,h1,h2,SlV.idx1 h.sl .i64 j hj⟩
def UnderV (H0 H:Heap) (ub:Nat) (u:Lin.Under):Prop:=∃ a qr qd cl,H.get ub=some (.cells [a,qr,qd] aU true)/\Wr H0 H a u.lines cl/\Wr H0 H qr u.rays u.rays.length/\Wr H0 H qd u.done u.done.length/\Sep a qr/\Sep a qd/\Sep qr qd
def UnderV.mono {H0 H H':Heap} {ub:Nat} {u:Lin.Under} (hs:Sub H H') (h:UnderV H0 H ub u):UnderV H0 H' ub u:=by
 obtain ⟨b,qr,qd,cl,h1,h2,h3,a,h5⟩:=h;exact ⟨b,qr,qd,cl,hs.get _ _ h1,h2.mono hs,h3.mono hs,a.mono hs,h5⟩
def R5 (a u:List Int):Lin.dot a (Lin.upV a u)=if Lin.dot a u<0 then -(Lin.dot a u) else Lin.dot a u:=by
 unfold Lin.upV;split
 ·rw [Lin.dot_scl]; omega
 ·rfl
def R4 {d:Nat} {a u:List Int} (b:u.length=d):(Lin.upV a u).length=d:=by
 unfold Lin.upV;split
 ·simp [Lin.scl,b]
 ·exact b
def Tu {f:Nat} {a u:List Int} (b:∀ z∈u,Bt f z):∀ z∈Lin.upV a u,Bt f z:=by
 unfold Lin.upV;split
 ·exact HN b
 ·exact b
structure FoldC (Hs H0 H:Heap) (ub:Nat) (LV qr qd:AV) (D:List (List Int)) (bx:Nat) (z:Int) (vl va:AV) (up a:List Int) (sb:Nat):Prop where
 u:H.get ub=some (.cells [LV,qr,qd] aU true)
 d:Wr H0 H qd D D.length
 bx:BoxI H bx z
 vl:RowV H vl up
 va:RowV H va a
 sb:H.get sb=some (.cells [.ptr ub 0,.ptr ub 1] mJ true)
 oth:∀ b e,Hs.get b=some e->b≠ub->kb qr≠some b->H.get b=some e
def FoldC.mono {Hs H0 H H':Heap} {ub:Nat} {LV qr qd:AV} {D:List (List Int)} {bx:Nat} {z:Int} {vl va:AV} {up a:List Int} {sb:Nat} (hs:Sub H H') (h:FoldC Hs H0 H ub LV qr qd D bx z vl va up a sb):FoldC Hs H0 H' ub LV qr qd D bx z vl va up a sb :=
 ⟨hs.get _ _ h.u,h.d.mono hs,h.bx.mono hs,h.vl.mono hs,h.va.mono hs,hs.get _ _ h.sb,fun b e h1 h2 h3=>hs.get _ _ (h.oth b e h1 h2 h3)⟩
def Nr {H:Heap} {b c t1 a:Nat} {x y:List AV} {r1 r2:Bool} (h1:H.get b=some (.cells x t1 r1)) (h2:H.get c=some (.cells y a r2)) (hn:t1≠a):b≠c:=fun e=>by
 subst e;rw [h1] at h2
 injection h2 with h; injection h with _ h; exact hn h
def FoldC.put {Hs H0 H:Heap} {ub:Nat} {LV qr qd:AV} {D:List (List Int)} {bx:Nat} {z:Int} {vl va:AV} {up a:List Int} {sb b:Nat} {cells cs:List AV} (h:FoldC Hs H0 H ub LV qr qd D bx z vl va up a sb) (hb:H.get b=some (.cells cells af true)) (hd:kb qd≠some b) (i:∀ e,Hs.get b=some e->kb qr=some b):FoldC Hs H0 (H.put b (.cells cs af true)) ub LV qr qd D bx z vl va up a sb:=by
 have d:NoTy (tx intE aa).tys H b:=NoTy.ty hb zU;have k:NoTy [ae] H b:=NoTy.ty hb zU;obtain ⟨q,f,j⟩:=h.bx;refine ⟨?_,h.d.put hd d,⟨q,?_,SlV.monoT (E:=bz bp) (SubT.puts (SubT.refl _ _) k) j⟩,SlV.monoT (E:=intE) (SubT.puts (SubT.refl _ _) d) h.vl,SlV.monoT (E:=intE) (SubT.puts (SubT.refl _ _) d) h.va,?_,fun c e h1 h2 h3=>?_⟩
 ·rw [aB (Nr h.u hb zU)]; exact h.u
 ·rw [aB (Nr f hb zU)]; exact f
 ·rw [aB (Nr h.sb hb zU)]; exact h.sb
 ·rw [aB (fun g=>h3 (by rw [g] at h1 ⊢; exact i e h1))]; exact h.oth c e h1 h2 h3
section
variable {tab:Nat->Option az} {H:Heap} {s:AV}
def Ml (C:Code tab) {H0:Heap} {ub i:Nat} {u:Lin.Under} {va:AV} {a:List Int} {d e f:Nat} (hk:Kp H0 H) (cC:H0.next<=ub) (hu:UnderV H0 H ub u) (ha:RowV H va a) (hi:i<u.lines.length) (hd:d<=64) (ai:a.length=d) (hL:∀ r∈u.lines,r.length=d/\∀ z∈r,Bt f z) (hR:∀ r∈u.rays,r.length=d/\∀ z∈r,Bt f z) (ah:∀ z∈a,Bt e z) (hb:2*(e+f+7)+2*f+1<=8796093022208) (aJ:u.lines.length<1099511627776) (cx:u.rays.length<1099511627776) :
  Ans tab (.fn iR [.ptr ub 0,va,.int .i64 (i:Int)]) H fun v H'=>Kp H0 H'/\RowV H' v (Lin.upV a u.lines[i])/\UnderV H0 H' ub ⟨(u.lines.eraseIdx i).map (Lin.foldV a (Lin.upV a u.lines[i])),u.rays.map (Lin.foldV a (Lin.upV a u.lines[i])),u.done⟩/\(∀ b e,H.get b=some e->b≠ub->(∀ q1 q2 q3,H.get ub=some (.cells [q1,q2,q3] aU true)->kb q2≠some b)->H'.get b=some e)/\∀ q1 q2 q3,H.get ub=some (.cells [q1,q2,q3] aU true)->∃ cn,H'.get ub=some (.cells [cn,q2,q3] aU true):=by
 have hw:=hk.wf;obtain ⟨ql,qr,qd,cl,ab,bh,bi,bg,s1,s2,s3⟩:=hu;have cQ:=hw _ _ ab;obtain ⟨vl,aS,bX,bK⟩:=bh.elem hi;have P:=hL _ (U9 hi);refine ts C.q112 rfl rfl zU fun T hl g=>?_;have hl:T.length=81:=hl;have cX:c_P_cone_under_fold.results=[(6,none)]:=rfl;have A:ad T 0=.ptr ub 0:=g 0 (by simp);have B:ad T 1=va:=g 1 (by simp);have D:ad T 2=.int .i64 (i:Int):=g 2 (by simp);refine aG ?_;refine zW (bO hl A B D @am) ?_;refine aG ?_;refine zW (jC hl A B D @am ab bK bX) ?_;refine aG ?_;refine zW (bO hl A B D @am) ?_;refine AnsH.use (wh C zF (ha.mono (zG H)) (aS.mono (zG H)) (ai.trans P.1.symm) zO ah P.2 zO) ?_;rintro v H2 ⟨⟨w,rfl,aP⟩,aM⟩;obtain ⟨k2,_,w2⟩:=zT H zK aM;have ow:=aP.one;have n2:H.next+14<=H2.next:=aM.le
 have f2:H2.get (H.next+12)=none:=aM.free (show _<H.next+14 by omega) (hw.fresh (b:=H.next+12) zO);have cT:NoTy [ae] H2 (H.next+12):=NoTy.none f2;refine zW (bO hl A B D @am) ?_;refine bP (fun T' H'=>∃ vl,ad T' 6=vl/\RowV H' vl (Lin.upV a u.lines[i])/\BoxI H' (H.next+12) (Lin.dot a (Lin.upV a u.lines[i]))/\Kp H H') rfl ?_ ?_
 ·refine zW (bO hl A B D @aC) ?_;refine iteH.split (fun h=>?_) fun h=>?_
  ·refine zW (aW hl A B D) ?_;refine AnsH.use (oN C (n:=-1) zF zO zO) ?_;rintro v3 o ⟨aL,R⟩;obtain ⟨M,_,t⟩:=zT H zK R;have b3:=R.get (b:=H.next+12) (e:=.cells [.bool (decide (Lin.dot a u.lines[i]<0)),w] aa true) (cy);have cO:=t _ _ b3;have ce:bA o w (Lin.dot a u.lines[i]).natAbs:=SlV.mono R.sub (SlV.monoT (E:=bz bp) zS aP);refine zW (aW hl A B D) ?_;refine AnsH.use (uX C zF (aS.mono (zG H)) aL zO (fun z hz=>(P.2 z hz).len zO) Hj) ?_;rintro v4 H4 ⟨r4,rfl,b2,aN,bH⟩;obtain ⟨k4,_,w4⟩:=zT H zK aN;have b4:=aN.get b3;have cf:=ce.mono aN.sub;refine zW (bO hl A B D @b4) ?_;refine AnsH.use (Bm C (z:=Lin.dot a u.lines[i]) zF ⟨w,rfl,cf.mono (zG H4)⟩ ((oK ah P.2 (ai.trans P.1.symm) zO).sm zO)) ?_;rintro v5 y ⟨⟨w5,rfl,bo⟩,S⟩;obtain ⟨aV,_,_⟩:=zT H4 zK S;have k5:Kp H y:=Kp.trans k4 aV;have cL:=k5.le;have cr:=k5.wf;have b5:=aV.get b4;have cP:=cr _ _ b5;have cU:=bo.one;have m5:NoTy [ae] y (H.next+12):=NoTy.ty b5 zU;refine zW (dx hl A B D b5 @aC) ?_;have eu:Lin.upV a u.lines[i]=Lin.scl (-1) u.lines[i]:=by unfold Lin.upV; rw [if_pos h]
   have ed:Lin.dot a (Lin.upV a u.lines[i]) = -(Lin.dot a u.lines[i]):=by rw [R5,if_pos h]
   refine ⟨r4,rfl,?_,⟨w5,by rw [ed]; exact cy,by rw [ed]; exact SlV.monoT (E:=bz bp) zS bo⟩,zK⟩;rw [eu];refine RowV.put_ne (b2.mono aV.sub) (fun hb=>?_) m5
   have:=bH _ hb
   omega
  ·refine zW (bO hl A B D @aC) ?_;have eu:Lin.upV a u.lines[i]=u.lines[i]:=by unfold Lin.upV; rw [if_neg h]
   rw [eu];exact ⟨vl,rfl,aS.mono (zG H),⟨w,by exact cy,SlV.monoT (E:=bz bp) zS aP⟩,zK⟩
 ·rintro T1 H1 al ⟨af,t6,cd,bF,k1⟩;have w1:=k1.wf;have t0:ad T1 0=.ptr ub 0:=(al.at_ 0 zU).trans (zV (aw hl A));have t1:ad T1 1=va:=(al.at_ 1 zU).trans (zV (aw hl B));have t2:ad T1 2=.int .i64 (i:Int):=(al.at_ 2 zU).trans (zV (aw hl D));have t7:ad T1 7=.ptr (H.next+12) 0:=(al.at_ 7 zU).trans (zV hl);have s:T1.length=81:=al.len.trans (by simp only [U4]; exact hl);have cb:=k1.get ab;refine WC.wb ?_;refine zW (bO s t0 t1 t2 cb) ?_;refine AnsH.use (Jh C zF (bh.sl.mono (zG H)) zO aJ) ?_;rintro v2 cv ⟨bT,b,bd⟩;have e1:IntKind.i64.wrap ((i:Int)+1)=((i+1:Nat):Int):=by rw [wrap_i64] <;> omega
  refine zW (bO s t0 t1 t2 e1) ?_;refine AnsH.use (Hl C bT bd hi aJ) ?_;rintro v3 o ⟨rfl,R,⟨cells,a6,a9,aK⟩,cz⟩;have M:Kp H o:=Kp.trans k1 (Kp.trans zK R);have cK:=M.le;have t:=M.wf;have K:=M.get ab;have bm:RowV o af (Lin.upV a u.lines[i]):=cd.mono (Kp.sub (H:=H1) (Kp.trans zK R));have a7:BoxI o (H.next+12) (Lin.dot a (Lin.upV a u.lines[i])):=bF.mono (Kp.sub (H:=H1) (Kp.trans zK R));refine zW (aE s t0 K) ?_;refine aF ?_;refine zD (aw s t0) ?_;obtain ⟨-,-,-,-,a5⟩:=bd;have a5:H.next<=b:=Vn (Vn k1.le (VL _ _)) a5
  have cG:=t _ _ a6;have cS:=t _ _ K;have cD:ub≠b:=zO;obtain ⟨up,aQ⟩:∃ x,x=Lin.upV a u.lines[i]:=⟨_,rfl⟩
  rw [<- aQ] at bm a7 ⊢;have bl:up.length=d:=by rw [aQ]; exact R4 P.1
  have bk:∀ z∈up,Bt f z:=by rw [aQ]; exact Tu P.2
  obtain ⟨n,hn⟩:∃ n,n=u.lines.length:=⟨_,rfl⟩
  rw [<- hn] at a9 aK hi aJ ⊢;obtain ⟨L,aH⟩:∃ L,L=u.lines.eraseIdx i:=⟨_,rfl⟩
  have a4:L.length=n-1:=by rw [aH,Zk zO,hn]
  have bw:∀ r∈L,r.length=d/\∀ z∈r,Bt f z:=fun r hr=>hL r (VU (by rw [aH] at hr; exact hr));rw [<- aH] at aK ⊢;obtain ⟨LV,ag⟩:∃ v,v=AV.own b 0 (n-1) n 1 false:=⟨_,rfl⟩
  rw [<- ag];have bZ:Wr H0 (((o.up 9).put ub (.cells [LV,qr,qd] aU true)).put (o.next+6) (.cells [.ptr ub 0,.ptr ub 1] mJ true)) LV L n:=by
   have m1:NoTy (tx intE aa).tys o ub:=NoTy.ty K zU;have m2:NoTy (tx intE aa).tys o (o.next+6):=NoTy.none (t.fresh zO);refine .inr ⟨b,cells,by rw [ag,a4],by exact zV a6,a9,zO,?_,by have:=hk.le; omega⟩;rw [a4];exact Cells.mono (E:=rowsE) zS aK
  have br:∀ {v l c},Wr H0 H v l c->Wr H0 (((o.up 9).put ub (.cells [LV,qr,qd] aU true)).put (o.next+6) (.cells [.ptr ub 0,.ptr ub 1] mJ true)) v l c:=fun {v l c} h=>by
   have m1:NoTy (tx intE aa).tys o ub:=NoTy.ty K zU;have m2:NoTy (tx intE aa).tys (o.up 9) (o.next+6):=NoTy.none (t.fresh (b:=o.next+6) zO);have h3:Wr H0 (o.up 9) v l c:=(h.mono M.sub).mono (Sub.bump o 9);have hne:∀ x e,(o.up 9).get x=some (.cells e aU true)->kb v≠some x:=fun x e hx hv=>by
    rcases h3 with ⟨rfl,-⟩ | ⟨b',bv,rfl,h2,-⟩
    ·cases hv
    ·cases hv;rw [hx] at h2; injection h2 with h; injection h with _ h; exact absurd h zU
   refine (h3.put (hne ub _ K) m1).put (fun hv=>?_) (by
    refine NoTy.none ?_;rw [aB zO]; exact t.fresh (b:=o.next+6) zO)
   have:=h.old hw hv
   omega
  have a2:Sep LV qr:=fun x hx hy=>by
   rw [ag] at hx; cases hx
   have:=bi.old hw hy
   omega
  have bs:Sep LV qd:=fun x hx hy=>by
   rw [ag] at hx; cases hx
   have:=bg.old hw hy
   omega
  obtain ⟨F,X⟩:∃ F:Nat->AV,F=fun j=>if j=0 then LV else qr:=⟨_,rfl⟩
  obtain ⟨Ls,ar⟩:∃ Ls:Nat->List (List Int),Ls=fun j=>if j=0 then L else u.rays:=⟨_,rfl⟩
  obtain ⟨cs,ba⟩:∃ cs:Nat->Nat,cs=fun j=>if j=0 then n else u.rays.length:=⟨_,rfl⟩
  have bB:∀ j,∀ r∈Ls j,r.length=d/\∀ z∈r,Bt f z:=fun j r hr=>by
   rw [ar] at hr;by_cases h:j=0
   ·exact bw r (by simpa [h] using hr)
   ·exact hR r (by simpa [h] using hr)
  have bx:∀ j,(Ls j).length<1099511627776:=fun j=>by
   rw [ar];by_cases h:j=0
   ·simp [h]; omega
   ·simp [h]; omega
  have b6:∀ j m,j<2->m<2->m≠j->Sep (F j) (F m):=fun j m h1 h2 h3=>by
   rw [X];by_cases h:j=0
   ·have h4:m≠0:=zO
    simpa [h,h4] using a2
   ·have h4:m=0:=zO
    simpa [h,h4] using a2.symm
  have b7:∀ j,Sep (F j) qd:=fun j=>by
   rw [X];by_cases h:j=0
   ·simpa [h] using bs
   ·simpa [h] using s3
  have ca:∀ j,j<2->bM [LV,qr,qd] j none=some (F j):=fun j h=>by
   rw [X]
   match j,h with
   | 0,_=>rfl
   | 1,_=>rfl
  have b8:∀ j,j<2->bM [AV.ptr ub 0,AV.ptr ub 1] j none=some (.ptr ub j):=fun j h=>by
   match j,h with
   | 0,_=>rfl
   | 1,_=>rfl
  obtain ⟨w',bn⟩:∃ w',w'=Lin.foldV a up:=⟨_,rfl⟩
  rw [<- bn];have cc:RowV o va a:=ha.mono M.sub;refine aq H0 [] (fun j _ H'=>FoldC H H0 H' ub LV qr qd u.done (H.next+12) (Lin.dot a up) af va up a (o.next+6)/\∀ m,m<2->Wr H0 H' (F m) (if m<j then (Ls m).map w' else Ls m) (cs m)) (a:=0) (N:=2) rfl (by refine zW s ?_; rfl) (zV s) (Vk _) zO (by simp only [U4,s]; rfl) rfl (fun j vs H' m ⟨h1,h2⟩=>⟨h1.mono (Sub.bump H' m),fun m' b0=>(h2 m' b0).mono (Sub.bump H' m)⟩) (by
   have kk:Kp H0 o:=hk.trans M
   have:=kk.le
   exact zK) ⟨⟨by exact cy,br bg,?_,?_,?_,by exact cy,fun c e hc hne _=>by
   have a8:=M.get hc
   have:=t _ _ a8
   rw [aB zO,aB hne]; exact a8⟩,?_⟩ ?_ ?_
  ·obtain ⟨q,bf,b1⟩:=a7;have cF:=t _ _ bf;have cA:H.next+12≠ub:=zO
   have m1:NoTy [ae] o ub:=NoTy.ty K zU;have m2:NoTy [ae] o (o.next+6):=NoTy.none (t.fresh zO);exact ⟨q,by exact zV bf,SlV.monoT (E:=bz bp) zS b1⟩
  ·have m1:NoTy (aa :: intE.tys) o ub:=NoTy.ty K zU;have m2:NoTy (aa :: intE.tys) o (o.next+6):=NoTy.none (t.fresh zO);exact SlV.monoT (E:=intE) zS bm
  ·have m1:NoTy (aa :: intE.tys) o ub:=NoTy.ty K zU;have m2:NoTy (aa :: intE.tys) o (o.next+6):=NoTy.none (t.fresh zO);exact SlV.monoT (E:=intE) zS cc
  ·intro m hm;rw [if_neg zO,X,ar,ba];by_cases h:m=0
   ·simpa [h] using bZ
   ·simpa [h] using br bi
  ·rintro j T2 y _ hj p bJ Y S ⟨p1,p2⟩;have w5:=S.wf;have cj:=S.le;have t50:ad T2 50=.own (o.next+6) 0 2 2 1 true:=(Y.at_ 50 zU).trans (zV s);have cq:ad T2 7=.ptr (H.next+12) 0:=(Y.at_ 7 zU).trans (zV (aw s t7));have co:ad T2 1=va:=(Y.at_ 1 zU).trans (zV (aw s t1));have a3:ad T2 6=af:=(Y.at_ 6 zU).trans (zV (aw s t6));have aO:=p2 j hj;rw [if_neg zO] at aO;have ao:=ca j hj;have b9:=b8 j hj;have cm:=p1.u;have ck:=p1.sb;simp only [U4,s] at p;refine zW (jC p t50 bJ ck b9 cm ao aO.sl.lenV) ?_;refine aq H0 [] (fun k _ H'=>FoldC H H0 H' ub LV qr qd u.done (H.next+12) (Lin.dot a up) af va up a (o.next+6)/\Wr H0 H' (F j) (km w' (Ls j) k) (cs j)/\∀ m,m<2->m≠j->Wr H0 H' (F m) (if m<j then (Ls m).map w' else Ls m) (cs m)) (a:=0) (N:=(Ls j).length) rfl (by refine zW p ?_; rfl) (zV p) (Vk _) (by have:=bx j; omega) (by simp only [U4,p]; rfl) rfl (fun k vs H' m ⟨h1,h2,h3⟩=>⟨h1.mono (Sub.bump H' m),h2.mono (Sub.bump H' m),fun m' a b=>(h3 m' a b).mono (Sub.bump H' m)⟩) zK ⟨p1.mono (Sub.bump y _),by rw [Ad]; exact aO.mono (Sub.bump y _),fun m hm _=>(p2 m hm).mono (Sub.bump y _)⟩ ?_ ?_
   ·rintro k V G _ ax I aL Z aj ⟨q1,q2,q3⟩;have w6:=aj.wf;have cI:=aj.le;have cp:ad V 58=F j:=(Z.at_ 58 zU).trans (zV p);have t9:ad V 9=.ptr ub j:=(Z.at_ 9 zU).trans (zV p);have aD:ad V 7=.ptr (H.next+12) 0:=(Z.at_ 7 zU).trans (zV (aw p cq));have ay:ad V 1=va:=(Z.at_ 1 zU).trans (zV (aw p co));have aA:ad V 6=af:=(Z.at_ 6 zU).trans (zV (aw p a3));have cB:=sA w' (Ls j) (Xd ax);obtain ⟨vr,aT,bY,bQ⟩:=q2.elem (j:=k) zO;have bI:(km w' (Ls j) k)[k]'zO=(Ls j)[k]:=by
     have:=Cw w' (Ls j) ax
     rw [U7 zO] at this;exact ZM this
    rw [bI] at aT;have W:=bB j _ (U9 ax);have U:=q1.u;obtain ⟨bq,Q,bE⟩:=q1.bx;simp only [U4,p] at I;refine zW (bO I cp aL bQ bY) ?_;refine aF ?_;refine zD (jB I t9 aD ay aA U ao Q @aR) ?_;have bb:=oK ah W.2 (ai.trans W.1.symm) zO;refine AnsH.use (wh C zF (q1.va.mono (zG G)) (aT.mono (zG G)) (ai.trans W.1.symm) zO ah W.2 zO) ?_;rintro v7 H7 ⟨cW,bU⟩;obtain ⟨aX,_,w7⟩:=zT G zK bU;have a1:=aX.get U;have a0:=aX.get Q;refine zD (lP I t9 aD ay aA U ao Q @aR a1 a0) ?_;refine AnsH.use (Bm C zF cW (bb.sm zO)) ?_;rintro v8 H8 ⟨cV,bV⟩;have ap:Kp G H8:=Kp.trans aX (Kp.trans zK bV);have cM:=ap.le;have w8:=ap.wf;have bu:=ap.get U;have bt:=ap.get Q;refine zD (yZ I t9 aD ay aA U ao Q @aR a1 a0 bu bt) ?_;have bG:=oK ah bk (ai.trans bl.symm) zO;refine AnsH.use (GD C zF (m:=Lin.dot a up) (n:=-(Lin.dot a (Ls j)[k])) ⟨bq,rfl,bE.mono (zG G)⟩ (cV.mono (zG H8)) (aT.mono (zG G)) (q1.vl.mono (zG G)) (W.1.trans bl.symm) zO bG bb.neg W.2 bk zO) ?_;rintro v9 H9 ⟨bj,bW⟩;have O:Kp G H9:=Kp.trans ap (Kp.trans zK bW);have cN:=O.le;have ci:Kp H0 H9:=aj.trans O;have cJ:=ci.le;have w9:=O.wf;have cu:=O.get U;have ct:=O.get Q;obtain ⟨b',bv,J,cw,av,bS,bL,ch⟩:=(q2.mono O.sub).store (j:=k) zO bj;have o9:=bj.one;have cE:=w9 _ _ av;refine zD (Ho I t9 aD ay aA U ao Q @aR a1 a0 bu bt cu ct bL av bS) ?_;have cg:w' (Ls j)[k]=Lin.prime (Lin.mix (Lin.dot a up) (Ls j)[k] (-(Lin.dot a (Ls j)[k])) up):=by rw [bn]; rfl
    refine ⟨zK,(q1.mono O.sub).put av (b7 j _ J) (fun e he=>by
     have hlt:=hw _ _ he;rw [X] at J;by_cases bc:j=0
     ·simp only [bc,if_true] at J;rw [ag] at J;cases J;omega
     ·simp only [bc,if_false] at J;exact J),?_,fun m hm hne=>((q3 m hm hne).mono O.sub).put (b6 j m hj hm hne _ J) (NoTy.ty av zU)⟩
    rw [<- Cv w' (Ls j) ax,cg];exact ch
   ·rintro V G I Z aj ⟨q1,q2,q3⟩;simp only [U4,p] at I;rw [Cx] at q2;refine zW I ?_;refine ⟨aj,q1,fun m hm=>?_⟩;by_cases h:m=j
    ·subst h; rw [if_pos zO]; exact q2
    ·have:=q3 m hm h
     by_cases h2:m<j
     ·rw [if_pos h2] at this; rw [if_pos zO]; exact this
     ·rw [if_neg h2] at this; rw [if_neg zO]; exact this
  ·rintro T2 y p Y S ⟨p1,p2⟩;have w5:=S.wf;have cj:=S.le;have a3:ad T2 6=af:=(Y.at_ 6 zU).trans (zV (aw s t6));simp only [U4,s] at p;refine zW (aE p a3 cX) ?_;have p0:=p2 0 zO;have aY:=p2 1 zO;rw [if_pos zO,X,ar,ba] at p0 aY;simp only [if_true,Nat.one_ne_zero,if_false] at p0 aY;have e:(u.rays.map w').length=u.rays.length:=by simp
   refine ⟨zK,p1.vl.mono (Sub.bump y _),⟨LV,qr,qd,n,p1.u,p0.mono (Sub.bump y _),?_,p1.d.mono (Sub.bump y _),a2,bs,s3⟩,fun c e hc hne hq=>p1.oth c e hc hne (hq ql qr qd (by first | exact ab | rfl)),fun q1 q2 q3 h=>by
    try rw [ab] at h
    cases h;exact ⟨LV,p1.u⟩⟩
   show Wr H0 _ qr (u.rays.map w') (u.rays.map w').length;rw [e];exact aY.mono (Sub.bump y _)
end
section
variable {tab:Nat->Option az} (ev:Src->AV) (H:Heap) (id:Nat) (Q:AV->Heap->Prop)
def MU:mF tab ev H id .mkmap Q=Q (.map id) (H.put id (.map [])):=by
 rw [ck,iv tab ev H id Q (o:=.mkmap) (fun f a e=>by cases e) rfl]; rfl
def oM (kd:BK) (z:AV) (x i:Src) (ok:Bool):mF tab ev H id (.lookup kd z x i ok) Q=gV (tD H kd z (ev x) (ev i) ok) (fun v=>Q v H) ():=by
 rw [ck,iv tab ev H id Q (o:=.lookup kd z x i ok) (fun f a e=>by cases e) rfl];show iM ((tD H kd z (ev x) (ev i) ok).map fun v=>(v,H)) _=_;cases tD H kd z (ev x) (ev i) ok <;> rfl
def Kw (kd:BK) (m k v:Src):mF tab ev H id (.mapUpd kd m k v) Q=gV (nH H kd (ev m) (ev k) (ev v)) (fun H'=>Q .undef H') ():=by
 rw [ck,iv tab ev H id Q (o:=.mapUpd kd m k v) (fun f a e=>by cases e) rfl];show iM ((nH H kd (ev m) (ev k) (ev v)).map fun H'=>(AV.undef,H')) _=_;cases nH H kd (ev m) (ev k) (ev v) <;> rfl
theorem Hn {kd:BK} {z:AV} {x i:Src} {ok:Bool}:uW (.lookup kd z x i ok)=true:=rfl
end
def qp (es:List (AV × AV)):Prop:=∀ p∈es,∃ z,p.1=.int .i64 z
def ig (es:List (AV × AV)) (z:Int):AV:=match pf (.int .i64 z) es with
 | some (some v)=>v
 | _=>.nilSl
def IM:∀ {es:List (AV × AV)},qp es->∀ z,∃ o,pf (.int .i64 z) es=some o
 | [],_,z=>⟨none,rfl⟩
 | (k,v) :: es,h,z=>by
  obtain ⟨y,hy⟩:=h _ (Vm ..);simp only at hy;subst hy;have a:=IM (es:=es) (fun p hp=>h p (Vi _ hp)) z;simp only [pf,je,if_true];cases z == y with
  | true=>exact ⟨_,rfl⟩
  | false=>exact a
def Eo {H:Heap} {mb:Nat} {es:List (AV × AV)} (hm:H.get mb=some (.map es)) (a:qp es) (z:Int):tD H .int .nilSl (.map mb) (.int .i64 z) false=some (ig es z):=by
 obtain ⟨o,b⟩:=IM a z;simp only [tD,iD,Bool.true_eq_false,if_false,ye,hm,b,ig];cases o <;> rfl
def Ts {H:Heap} {mb:Nat} {es:List (AV × AV)} (hm:H.get mb=some (.map es)) (a:qp es) (z:Int) (v:AV):nH H .int (.map mb) (.int .i64 z) v=some (H.put mb (.map (td (.int .i64 z) v es))):=by
 obtain ⟨o,b⟩:=IM a z;simp only [nH,iD,Bool.true_eq_false,if_false,hm,b]
def Fg:∀ {es:List (AV × AV)},qp es->∀ z v,qp (td (.int .i64 z) v es)
 | [],_,z,v=>fun p hp=>by simp [td] at hp; exact ⟨z,by rw [hp]⟩
 | (k,w) :: es,h,z,v=>by
  obtain ⟨y,hy⟩:=h _ (Vm ..);simp only at hy;subst hy;have a:=Fg (es:=es) (fun p hp=>h p (Vi _ hp)) z v;simp only [td,je,if_true];cases z == y with
  | true =>
   intro p hp;rcases VF.1 hp with rfl | hp
   ·exact ⟨z,rfl⟩
   ·exact h p (Vi _ hp)
  | false =>
   intro p hp;rcases VF.1 hp with rfl | hp
   ·exact ⟨y,rfl⟩
   ·exact a p hp
def sJ:∀ {es:List (AV × AV)},qp es->∀ z v a,ig (td (.int .i64 z) v es) a=if a=z then v else ig es a
 | [],_,z,v,a=>by
  simp only [td,ig,pf,je,if_true];by_cases h:a=z
  ·simp [h]
  ·have e:(a == z)=false:=by simpa using h
   simp [h,e]
 | (k,w) :: es,h,z,v,a=>by
  obtain ⟨y,hy⟩:=h _ (Vm ..);simp only at hy;subst hy;have c:=sJ (es:=es) (fun p hp=>h p (Vi _ hp)) z v a;simp only [ig] at c;simp only [td,je,if_true,ig];by_cases b:z=y
  ·subst b;simp only [beq_self_eq_true,pf,je,if_true];by_cases h:a=z
   ·simp [h]
   ·have e:(a == z)=false:=by simpa using h
    simp [h,e]
  ·have d:(z == y)=false:=by simpa using b
   simp only [d,pf,je,if_true];by_cases h:a=y
   ·subst h;simp [Ne.symm b]
   ·have f:(a == y)=false:=by simpa using h
    simp only [f];exact c
def Mx {H H':Heap} {id sz bytes ty c m:Nat} {v f:AV} {d:List AV} {fr:Option Nat} (h:cQ H id sz bytes ty v m d fr=some (f,H')) (hc:c≠id) (hn:H.get c=none):H'.get c=none:=by
 unfold cQ at h;split at h
 ·split at h
  ·cases h; exact hn
  ·split at h
   ·cases h; rw [aB hc]; exact hn
   ·cases h
 ·split at h
  ·rename_i b off n c' g ex x cs i rw' hb;have a:c≠b:=fun e=>by rw [<- e,hn] at hb; cases hb
   split at h
   ·split at h
    ·split at h
     ·cases h; exact hn
     ·split at h
      ·cases h; rw [aB a]; exact hn
      ·cases h
    ·split at h
     ·cases h; rw [aB hc]; exact hn
     ·split at h
      ·cases h; rw [aB hc,cP a]; exact hn
      ·cases h
   ·cases h
  ·cases h
 ·cases h
def Dl {H H':Heap} {id sz bytes ty c:Nat} {v w a:AV} (h:cC H id sz bytes ty v w=some (a,H')) (hc:c≠id) (hn:H.get c=none):H'.get c=none:=by
 unfold cC at h;split at h
 ·cases h
 ·split at h
  ·cases h
  ·exact Mx h hc hn
def Frm (v:AV) (H H':Heap):Prop:=∀ b e,H.get b=some e->kb v≠some b->H'.get b=some e
def Frm.subT {α:Type} {E:fF α} {ty:Nat} {tys:List Nat} {H0 H H':Heap} {v:AV} {l:List α} (a:Frm v H H') (h:Bl E ty H0 H v l) (hn:ty ∉ tys):SubT tys H H':=fun c cs t r d hc=>a c _ hc fun e=>by
 rcases h with ⟨rfl,-⟩ | ⟨b,cells,rfl,hb,-⟩
 ·cases e
 ·cases e;rw [hb] at hc; cases hc;exact hn d
def Frm.other {α:Type} {E:fF α} {ty:Nat} {H0 H H':Heap} {v:AV} {l:List α} (d:Frm v H H') (h:Bl E ty H0 H v l) {b:Nat} {e:Ent} (hb:H.get b=some e) (he:∀ cs,e ≠ .cells cs ty true):H'.get b=some e:=d b e hb fun a=>by
 rcases h with ⟨rfl,-⟩ | ⟨b',cells,rfl,c,-⟩
 ·cases a
 ·cases a;rw [hb] at c; cases c;exact he _ rfl
def Frm.bl {α β:Type} {E:fF α} {E':fF β} {ty:Nat} {H0 H H':Heap} {v w:AV} {l:List α} {m:List β} (c:Frm v H H') (h:Bl E ty H0 H v l) (a:Bl E' ty H0 H w m) (hs:Sep v w) (d:ty ∉ E'.tys):Bl E' ty H0 H' w m:=by
 rcases a with a | ⟨b,cells,rfl,hb,hc,h0⟩
 ·exact .inl a
 ·exact .inr ⟨b,cells,rfl,c b _ hb fun e=>hs b e rfl,hc.mono (c.subT h d),h0⟩
def Bl.push2 {α:Type} {E:fF α} {ty ty2 bytes id id2:Nat} {H0 H:Heap} {v:AV} {l:List α} {cs:List AV} {a:α} (h:Bl E ty H0 H v l) (C:ty ∉ E.tys) (A:Kp H0 H) (hr:E.R H cs a) (u:H0.next<=id) (w:id<H.next) (t:H.get id=none) (k:H0.next<=id2) (y:id2<H.next) (j:H.get id2=none) (hne:id≠id2)
  (hb:(l.length+1)*bytes<=70368744177664) (hl:l.length+1<4611686018427387904) :
  ∃ n H',cC (H.put id2 (.cells cs ty2 true)) id E.sz bytes ty v (.own id2 0 1 1 E.sz true)=some (.own id 0 n n E.sz false,H')/\Bl E ty H0 H' (.own id 0 n n E.sz false) (l++[a])/\Kp H0 H'/\H'.next=H.next/\Frm v H H'/\(∀ c,c≠id->c≠id2->H.get c=none->H'.get c=none):=by
 have f:Sub H (H.put id2 (.cells cs ty2 true)):=aV j;have B:Kp H0 (H.put id2 (.cells cs ty2 true)):=A.put k y;have hy:SlV E ty2 (H.put id2 (.cells cs ty2 true)) (.own id2 0 1 1 E.sz true) [a] :=
  (show Own E ty2 H0 _ id2 true (.own id2 0 1 1 E.sz true) [a] from ⟨cs,rfl,ap _ _ _,Cells.one (E.mono (f.t _) hr),k⟩).sl
 have D:∀ b n,v=.own b 0 n n E.sz false->b≠id2:=fun b n d e=>by
  rcases h with ⟨h,-⟩ | ⟨b',cells,h,i,-⟩
  ·rw [h] at d; cases d
  ·rw [h] at d; cases d;rw [e,j] at i; cases i
 obtain ⟨G,H',g,o,e3,p,q,r⟩:=(h.mono f).app (id:=id) (bytes:=bytes) C B hy u w (by rw [aB hne]; exact t) (fun b n d off m c z x F=>by cases F; exact D _ _ d rfl) hb hl;obtain ⟨n,rfl⟩:=r (by simp);refine ⟨n,H',g,o,e3,p,fun b e s he=>q b e (f.get _ _ s) fun n d=>he (by rw [d]; rfl),fun c h1 h2 h3=>Dl g h1 (by rw [aB h2]; exact h3)⟩
def Bl.push1 {α:Type} {E:fF α} {ty ty2 bytes id id2 k:Nat} {H0 H:Heap} {v:AV} {l:List α} {cs:List AV} {a:α} (h:Bl E ty H0 H v l) (j:ty ∉ E.tys) (d:Kp H0 H) (hr:E.R H cs a) (e:H.next<=id) (i:id<H.next+k) (f:H.next<=id2) (g:id2<H.next+k) (hne:id≠id2)
  (hb:(l.length+1)*bytes<=70368744177664) (hl:l.length+1<4611686018427387904) :
  ∃ n H',cC ((H.up k).put id2 (.cells cs ty2 true)) id E.sz bytes ty v (.own id2 0 1 1 E.sz true)=some (.own id 0 n n E.sz false,H')/\Bl E ty H0 H' (.own id 0 n n E.sz false) (l++[a])/\Kp H0 H'/\H'.next=H.next+k/\Frm v H H'/\(∀ c,c≠id->c≠id2->H.get c=none->H'.get c=none):=by
 have m:=d.le;exact Bl.push2 (H:=H.up k) (h.mono (Sub.bump H k)) j (d.up k) (E.mono ((Sub.bump H k).t _) hr) zO i (d.wf.fresh (b:=id) e) zO g (d.wf.fresh (b:=id2) f) hne hb hl
def Aj (a:List Int) (R:List (List Int)) (k:Nat) (s:Int):List Int:=((List.range k).filter fun i=>iu (Lin.dot a (R.getD i [])) == s).map fun i:Nat=>(i:Int)
def HK (a:List Int) (R:List (List Int)) (k:Nat) (s:Int):Aj a R (k+1) s=Aj a R k s++if iu (Lin.dot a (R.getD k []))=s then [(k:Int)] else []:=by
 unfold Aj;rw [Y2,Wt,V9];congr 1;by_cases h:iu (Lin.dot a (R.getD k []))=s
 ·have e:List.filter (fun i=>iu (Lin.dot a (R.getD i [])) == s) [k]=[k]:=Yw (p:=fun i=>iu (Lin.dot a (R.getD i [])) == s) (beq_iff_eq.2 h);rw [if_pos h,e]; rfl
 ·have e:List.filter (fun i=>iu (Lin.dot a (R.getD i [])) == s) [k]=[]:=Yx (p:=fun i=>iu (Lin.dot a (R.getD i [])) == s) (fun h'=>h (beq_iff_eq.1 h'));rw [if_neg h,e]; rfl
def KY (a:List Int) (R:List (List Int)) (k:Nat) (s:Int):(Aj a R k s).length<=k:=by
 unfold Aj;rw [Vh];exact Vn (W7 _ _) (by simp)
structure SidesV (H0 H:Heap) (mb:Nat) (a:List Int) (R:List (List Int)) (k:Nat) (es:List (AV × AV)):Prop where
 get:H.get mb=some (.map es)
 keys:qp es
 bl:∀ s,BY H0 H (ig es s) (Aj a R k s)
 sep:∀ s s',s≠s'->Sep (ig es s) (ig es s')
def SidesV.mono {H0 H H':Heap} {mb:Nat} {a:List Int} {R:List (List Int)} {k:Nat} {es:List (AV × AV)} (hs:Sub H H') (h:SidesV H0 H mb a R k es):SidesV H0 H' mb a R k es :=
 ⟨hs.get _ _ h.get,h.keys,fun s=>(h.bl s).mono hs,h.sep⟩
abbrev SA:fF (List Nat):=bz (tx (bz bp) ae)
structure CutV (H H':Heap) (mb:Nat) (a:List Int) (R D:List (List Int)) (k:Nat) (vm vd:AV) (es:List (AV × AV)) (Ws:List (List Nat)):Prop where
 bm:Bl SA e9 H H' vm Ws
 wl:Ws.length=k
 wok:∀ t (h:t<R.length) (h':t<Ws.length),qm (zeros R[t] D) Ws[t]
 bd:Bl intE aa H H' vd ((R.take k).map (Lin.dot a))
 sd:SidesV H H' mb a R k es
def CutV.mono {H H' H'':Heap} {mb:Nat} {a:List Int} {R D:List (List Int)} {k:Nat} {vm vd:AV} {es:List (AV × AV)} {Ws:List (List Nat)} (hs:Sub H' H'') (h:CutV H H' mb a R D k vm vd es Ws):CutV H H'' mb a R D k vm vd es Ws :=
 ⟨h.bm.mono hs,h.wl,h.wok,h.bd.mono hs,h.sd.mono hs⟩
def NoTy.map {tys:List Nat} {H:Heap} {b:Nat} {es:List (AV × AV)} (h:H.get b=some (.map es)):NoTy tys H b:=fun cs t r _ e=>by rw [h] at e; cases e
def Bl.blk {α:Type} {E:fF α} {ty:Nat} {H0 H:Heap} {v:AV} {l:List α} (h:Bl E ty H0 H v l) {b:Nat} (hb:kb v=some b):∃ cells,H.get b=some (.cells cells ty true):=by
 rcases h with ⟨rfl,-⟩ | ⟨b',cells,rfl,h1,-⟩
 ·cases hb
 ·cases hb; exact ⟨_,h1⟩
section
variable {tab:Nat->Option az} {H:Heap} {s:AV}
def Me (C:Code tab) {ub mb k:Nat} {ql qr qd va vm vd:AV} {a:List Int} {R D:List (List Int)} {d e f:Nat} {es:List (AV × AV)} {Ws:List (List Nat)} {T1:Tm} {i:Heap} (aJ:H.get ub=some (.cells [ql,qr,qd] aU true)) (aC:eF H qr R) (bi:eF H qd D) (ha:RowV H va a) (bc:0<d) (hd:d<=64) (aw:a.length=d) (hR:∀ r∈R,r.length=d/\∀ z∈r,Bt f z) (hD:∀ r∈D,r.length=d/\∀ z∈r,Bt e z) (a7:D.length<=1024) (av:∀ z∈a,Bt e z) (hb:e+f+7<=8796093022208) (bx:R.length<1099511627776) (y:Kp H i) (L:k<R.length) (m:T1.length=135)
  (t0:ad T1 0=.ptr ub 0) (t1:ad T1 1=va) (t6:ad T1 6=.map mb) (bu:ad T1 23=qr) (aA:ad T1 25=.int .i64 (k:Int)) (v7:ad T1 7=vm) (v8:ad T1 8=vd) (bE:H.next<=mb) (hc:CutV H i mb a R D k vm vd es Ws) {Q:Ex->Tm->Heap->Prop}
  (hq:∀ T2 H2 aO aN a3 aQ,T2.length=135->ad T2 7=aO->ad T2 8=aN->Kp H H2->CutV H H2 mb a R D (k+1) aO aN a3 aQ->Q .nrm T2 H2) :
  WC tab false (.seq (.region [⟨some 27,.mv (.t 25),none⟩,⟨some 28,.indexAddr 1 (.t 23) (.t 25),none⟩,⟨some 29,.load none (.t 28),none⟩,⟨some 9,.mv (.t 27),none⟩,⟨some 10,.mv (.t 29),none⟩]) <|
   .seq (.region [⟨some 30,.mv (.t 1),none⟩,⟨some 31,.mv (.t 10),none⟩,⟨some 32,.call (.c (.fn (.func pS) [] [])) [(.t 30),(.t 31)],none⟩,⟨some 11,.alloc aa [(.bool false),.nilSl],none⟩,⟨none,.store 2 (.t 11) (.t 32),none⟩]) <|
   .seq (.region [⟨some 33,.mv (.t 8),none⟩,⟨some 34,.load (some 2) (.t 11),none⟩,⟨some 35,.buildSlice aa 2 [(.bool false),.nilSl] 1 [((0,2),(.t 34))],none⟩,⟨some 36,.append 2 32 aa [(.bool false),.nilSl] (.t 33) (.t 35),none⟩,⟨some 37,.mv (.t 7),none⟩,⟨some 38,.mv (.t 0),none⟩,⟨some 39,.mv (.t 10),none⟩,⟨some 40,.call (.c (.fn (.func ft) [] [])) [(.t 38),(.t 39)],none⟩,⟨some 41,.buildSlice e9 1 [.nilSl] 1 [((0,1),(.t 40))],none⟩,⟨some 42,.append 1 24 e9 [.nilSl] (.t 37) (.t 41),none⟩,⟨some 8,.mv (.t 36),none⟩,⟨some 7,.mv (.t 42),none⟩]) <|
   .draw [
    ⟨(some 43),.mv (.t 6),none,[(6,none)],0,[(0,[]),(1,[]),(2,[]),(3,[])]⟩,
    ⟨(some 44),.load (some 2) (.t 11),none,[(11,none)],0,[(0,[])]⟩,
    ⟨(some 45),.call (.c (.fn (.func lA) [] [])) [(.t 44)],none,[(44,(some 1))],2,[(0,[])]⟩,
    ⟨(some 46),.mv (.t 6),none,[(6,none)],0,[(0,[]),(1,[]),(2,[])]⟩,
    ⟨(some 47),.load (some 2) (.t 11),none,[(11,none)],0,[(0,[]),(1,[])]⟩,
    ⟨(some 48),.call (.c (.fn (.func lA) [] [])) [(.t 47)],none,[(47,(some 4))],2,[(1,[])]⟩,
    ⟨(some 49),.lookup .int .nilSl (.t 46) (.t 48) false,none,[(46,(some 3)),(48,(some 5))],0,[(2,[])]⟩,
    ⟨(some 50),.mv (.t 9),none,[(9,none)],0,[(0,[]),(1,[]),(2,[])]⟩,
    ⟨(some 51),.buildSlice dj 1 [(.int .i64 0)] 1 [((0,1),(.t 50))],none,[(50,(some 7))],1,[(0,[]),(1,[]),(2,[])]⟩,
    ⟨(some 52),.append 1 8 dj [(.int .i64 0)] (.t 49) (.t 51),none,[(49,(some 6)),(51,(some 8))],2,[(2,[8])]⟩,
    ⟨none,.mapUpd .int (.t 43) (.t 45) (.t 52),none,[(43,(some 0)),(45,(some 2)),(52,(some 9))],2,[(3,[])]⟩] []) T1 i Q:=by
 have hw:=y.wf0;have w1:=y.wf;have bK:=y.le;have bH:=y.le;obtain ⟨vr,aK,bg⟩:=dI aC L;have bf:=SlV.idx1 aC .i64 k L;have bh:=b7 y.sub bg;have u:=hR _ (U9 L);have bT:=hw _ _ aJ;have ay:=oK av u.2 (aw.trans u.1.symm) zO;refine zW (fE m t0 t1 bu aA bf bh) ?_;refine AnsH.use (wh C zF (ha.mono (zG H)) (aK.mono (zG H)) (aw.trans u.1.symm) zO av u.2 zO) ?_;rintro v H2 ⟨⟨w,rfl,ae⟩,Z⟩;obtain ⟨bm,_,_⟩:=zT i zK Z;have aL:Kp H H2:=y.trans bm;have bL:=aL.le;have w2:=aL.wf;have n2:i.next+10<=H2.next:=Z.le
 have f8:H2.get (i.next+8)=none:=Z.free (show _<i.next+10 by omega) (w1.fresh (b:=i.next+8) zO);have ow:=ae.one;obtain ⟨z,hz⟩:∃ z,z=Lin.dot a R[k]:=⟨_,rfl⟩
 rw [<- hz] at ae ay ⊢;obtain ⟨l,q⟩:∃ X,X=(H2.put (i.next+8) (.cells [.bool false,.nilSl] aa true)).put (i.next+8) (.cells [.bool (decide (z<0)),w] aa true):=⟨_,rfl⟩
 have bs:Sub H2 l:=by rw [q]; exact (aV f8).put f8 _
 have af:Kp H l:=by rw [q]; exact zK
 have nc:l.next=H2.next:=by rw [q]; rfl
 have bb:l.get (i.next+8)=some (.cells [.bool (decide (z<0)),w] aa true):=by rw [q]; exact ap _ _ _
 have bn:Kp i l:=by rw [q]; exact zK
 have cc:=hc.mono bn.sub;have aG:bA l w z.natAbs:=ae.mono bs;have wc:=af.wf;have bB:((R.take k).map (Lin.dot a)).length=k:=by simp; omega
 obtain ⟨B,G,Y,ao,T,br,p,al⟩:=Bl.push1 (ty2:=aa) (bytes:=32) (id:=l.next+3) (id2:=l.next+2) (k:=12) (cs:=[.bool (decide (z<0)),w]) (a:=z) cc.bd zU af ⟨w,rfl,aG⟩ zO zO zO zO zO zO zO;rw [nc] at Y ao br al;have aX:cC ((((H2.up 12).put (i.next+8) (.cells [.bool false,.nilSl] aa true)).put (i.next+8) (.cells [.bool (decide (z<0)),w] aa true)).put (H2.next+2) (.cells [.bool (decide (z<0)),w] aa true)) (H2.next+3) 2 32 aa vd (.own (H2.next+2) 0 1 1 2 true)=some (.own (H2.next+3) 0 B B 2 false,G):=by rw [q] at Y; exact Y
 refine zW (bO m t0 v7 v8 aX) ?_;have b0:=T.wf;have bl:l.get ub=some (.cells [ql,qr,qd] aU true):=af.get aJ;have bk:=p.other cc.bd bl (fun cs h=>by injection h with _ h2; exact absurd h2 zU);have a8:∀ x,kb vd=some x->x<i.next:=fun x hx=>by
  obtain ⟨cells,h⟩:=hc.bd.blk hx;exact w1 _ _ h
 have a9:G.get (i.next+8)=some (.cells [.bool (decide (z<0)),w] aa true):=p _ _ bb fun e=>by have:=a8 _ e; omega
 have bj:bA G w z.natAbs:=SlV.monoT (E:=bz bp) (p.subT cc.bd zU) aG;refine AnsH.use (Mj C zF bk (bi.mono T.sub) (aK.mono T.sub) a7 bc hd u.1 (fun x hx=>(hD x hx).1) u.2 (fun x hx=>(hD x hx).2) zO) ?_;rintro am I ⟨W,hW,mW,j⟩;have ag:Kp H I:=T.trans j;have bM:=ag.le;have b1:=ag.wf;have bX:=hW.one;have bI:=j.le;have a4:I.get (H2.next+8)=none:=j.free zO (al _ zO zO (wc.fresh (b:=H2.next+8) zO));have a5:I.get (H2.next+9)=none:=j.free zO (al _ zO zO (wc.fresh (b:=H2.next+9) zO));have aq:Bl SA e9 H G vm Ws:=cc.bm.monoT (p.subT cc.bd zU);have bt:SidesV H G mb a R k es:=by
  refine ⟨p.other cc.bd cc.sd.get (fun cs h=>by cases h),cc.sd.keys,fun s=>?_,cc.sd.sep⟩;exact (cc.sd.bl s).monoT (p.subT cc.bd zU)
 obtain ⟨U,c,aY,aR,ah,bU,K,bY⟩:=Bl.push2 (ty2:=e9) (bytes:=24) (id:=H2.next+9) (id2:=H2.next+8) (cs:=[am]) (a:=W) (aq.mono j.sub) zU ag ⟨am,rfl,hW⟩ zO zO a5 zO zO a4 zO (by have:=hc.wl; omega) (by have:=hc.wl; omega);have a0:cC (I.put (H2.next+8) (.cells [am] e9 true)) (H2.next+9) 1 24 e9 vm (.own (H2.next+8) 0 1 1 1 true)=some (.own (H2.next+9) 0 U U 1 false,c):=aY;refine zW (bO m t0 v7 v8 a0) ?_;have J:Bl SA e9 H I vm Ws:=aq.mono j.sub;have aP:=ah.wf;have ba:=j.get a9;have P:=K.other J ba (fun cs h=>by injection h with _ h2; exact absurd h2 zU);have aD:bA c w z.natAbs:=SlV.monoT (E:=bz bp) (K.subT J zU) (bj.mono j.sub);have aT:Bl intE aa H c (.own (H2.next+3) 0 B B 2 false) ((R.take k).map (Lin.dot a)++[z]):=(ao.mono j.sub).monoT (K.subT J zU);have aj:SidesV H c mb a R k es:=by
  have O:=bt.mono j.sub;refine ⟨K.other J O.get (fun cs h=>by cases h),O.keys,fun s=>?_,O.sep⟩;exact (O.bl s).monoT (K.subT J zU)
 have aH:fq z:=ay.sm zO;have lk:=Eo aj.get aj.keys (iu z);refine aF ?_;refine zD (aE m t6 P) ?_;refine AnsH.eq (xI C (z:=z) zF ⟨w,rfl,aD.mono (zG c)⟩ aH) fun bw A=>?_;obtain ⟨ai,_,b2⟩:=zT c zK A;have ax:=ai.get P;refine zD (aW m t6 P ax) ?_;refine AnsH.eq (xI C (z:=z) zF ⟨w,rfl,aD.mono ai.sub⟩ aH) fun o S=>?_;have n:Kp c o:=ai.trans S;have bP:=n.le;have b3:=n.wf;have g:=aj.mono n.sub;have bq:=Eo g.get g.keys (iu z);have bJ:=n.le;have a6:o.get (c.next+8)=none:=S.free (by have:=A.le; simp only [dr] at this; omega) (A.free (show _<c.next+11 by omega) (aP.fresh (b:=c.next+8) zO));have ar:o.get (c.next+9)=none:=S.free (by have:=A.le; simp only [dr] at this; omega) (A.free (show _<c.next+11 by omega) (aP.fresh (b:=c.next+9) zO));have bV:c.next+11<=o.next:=Vn A.le S.le
 have aM:Kp H o:=ah.trans n;have bQ:=aM.le;have bG:=ah.le;have bF:=KY a R k (iu z);obtain ⟨F,M,a1,aS,bo,bW,N,bZ⟩:=Bl.push2 (ty2:=dj) (bytes:=8) (id:=c.next+9) (id2:=c.next+8) (cs:=[.int .i64 (k:Int)]) (a:=(k:Int)) (g.bl (iu z)) (fun h=>by cases h) aM ⟨_,rfl,rfl⟩ zO zO ar zO zO a6 zO zO zO;have a2:cC (o.put (c.next+8) (.cells [.int .i64 (k:Int)] dj true)) (c.next+9) 1 8 dj (ig es (iu z)) (.own (c.next+8) 0 1 1 1 true)=some (.own (c.next+9) 0 F F 1 false,M):=a1;have ab:M.get mb=some (.map es):=N.other (g.bl (iu z)) g.get (fun cs h=>by cases h);have bv:=Ts ab g.keys (iu z) (.own (c.next+9) 0 F F 1 false);simp -dsimp (maxSteps:=1000000) (disch:=(first | omega | assumption | exact aI _ | exact aZ _ _ | exact bD | exact cH _ _ _ | exact bN _ _ | exact bC _ _ _ _ _ _ | exact cR _ _ | exact bR _)) only [↓uV,uU,↓Tq,To,Nat.reduceLT,Nat.reduceEqDiff,Nat.reduceAdd,reduceIte,reduceCtorEq,Nat.reduceBEq,Int.reduceEq,Int.reduceLT,Int.reduceLE,Int.reduceAdd,Int.reduceSub,m,t6,P,ax,↓oM,↓Kw,Hn,bq,aA,a2,bv];have bS:=bo.wf _ _ ab;have V:∀ tys e,SubT tys M (M.put mb e):=fun tys e=>SubT.puts (SubT.refl _ _) (NoTy.map ab);have bd:R.getD k []=R[k]:=by simp [L]
 refine hq _ _ (.own (H2.next+9) 0 U U 1 false) (.own (H2.next+3) 0 B B 2 false) _ (Ws++[W]) (by simp only [U4]; exact m) (zV m) (zV m) zK ⟨?_,?_,?_,?_,ap _ _ _,Fg g.keys _ _,fun s=>?_,fun s s' hne=>?_⟩
 ·exact ((aR.mono n.sub).monoT (N.subT (g.bl (iu z)) zU)).monoT (V _ _)
 ·rw [Vr,hc.wl]; rfl
 ·intro t h h';by_cases ht:t<Ws.length
  ·rw [ZC ht]; exact hc.wok t h ht
  ·have e:t=k:=by rw [Vr] at h'; have:=hc.wl; simp only [VP,Xs] at h'; omega
   subst e;rw [Zr zO]
   simpa using mW
 ·rw [Ve L,V9];have e:[R[k]].map (Lin.dot a)=[z]:=by rw [hz]; rfl
  rw [e];exact ((aT.mono n.sub).monoT (N.subT (g.bl (iu z)) zU)).monoT (V _ _)
 ·rw [sJ g.keys,HK,bd,<- hz];by_cases hs:s=iu z
  ·subst hs;rw [if_pos rfl,if_pos rfl];exact aS.monoT (V _ _)
  ·rw [if_neg hs,if_neg (fun e=>hs e.symm),WH];exact (N.bl (g.bl (iu z)) (g.bl s) (g.sep _ _ (fun e=>hs e.symm)) (fun h=>by cases h)).monoT (V _ _)
 ·have aB:∀ s,Sep (.own (c.next+9) 0 F F 1 false) (ig es s):=fun s x hx hy=>by
   cases hx;obtain ⟨cells,hcl⟩:=(g.bl s).blk hy;rw [ar] at hcl; cases hcl
  rw [sJ g.keys,sJ g.keys];by_cases h1:s=iu z
  ·by_cases h2:s'=iu z
   ·exact absurd (h1.trans h2.symm) hne
   ·rw [if_pos h1,if_neg h2]; exact aB s'
  ·by_cases h2:s'=iu z
   ·rw [if_neg h1,if_pos h2]; exact (aB s).symm
   ·rw [if_neg h1,if_neg h2]; exact g.sep s s' hne
end
def cD (a:List Int) (R:List (List Int)) (s:Int):List Nat:=(List.range R.length).filter fun i=>iu (Lin.dot a (R.getD i [])) == s
theorem DR (a:List Int) (R:List (List Int)) (s:Int):Aj a R R.length s=(cD a R s).map fun i:Nat=>(i:Int):=rfl
def Ah {a:List Int} {R:List (List Int)} {s:Int} {i:Nat} (h:i∈cD a R s):i<R.length:=by
 unfold cD at h;rw [Vv] at h
 simpa using h.1
def Ai (a:List Int) (R:List (List Int)) (s:Int):(cD a R s).length<=R.length:=by
 unfold cD;exact Vn (W7 _ _) (by simp)
def Ce (D:List (List Int)) (a:List Int) (eq:Bool) (R:List (List Int)) (i:Nat):List (List Int) :=
 (if eq then [] else [R.getD i []])++((cD a R (-1)).filter (Lin.nearB D R i)).map fun k=>Lin.prime (Lin.mx a (R.getD i []) (R.getD k []))
def J7 (D:List (List Int)) (a:List Int) (eq:Bool) (R:List (List Int)):Lin.cutL D a eq R=(cD a R 0).map (R.getD · [])++(cD a R 1).flatMap (Ce D a eq R):=by
 have h0:Lin.idxs R (fun r=>Lin.dot a r == 0)=cD a R 0:=by
  unfold Lin.idxs cD;refine YD fun i _=>?_;rw [Wi,beq_iff_eq,beq_iff_eq,iW]
 have h1:Lin.idxs R (fun r=>decide (0<Lin.dot a r))=cD a R 1:=by
  unfold Lin.idxs cD;refine YD fun i _=>?_;rw [Wi,decide_eq_true_eq,beq_iff_eq];unfold iu;split
  ·constructor <;> intro h <;> omega
  ·split
   ·constructor <;> intro h <;> omega
   ·constructor <;> intro h <;> omega
 have h2:Lin.idxs R (fun r=>decide (Lin.dot a r<0))=cD a R (-1):=by
  unfold Lin.idxs cD;refine YD fun i _=>?_;rw [Wi,decide_eq_true_eq,beq_iff_eq];unfold iu;split
  ·constructor <;> intro h <;> omega
  ·split
   ·constructor <;> intro h <;> omega
   ·constructor <;> intro h <;> omega
 unfold Lin.cutL;rw [h0,h1,h2];rfl
def Qw {D R:List (List Int)} {i k:Nat} (hi:i<R.length) (d:k<R.length):AI (R.map fun r=>zeros r D) i k=Lin.nearB D R i k:=by
 have c:∀ t,t<R.length->(R.map fun r=>zeros r D).getD t []=zeros (R.getD t []) D:=fun t h=>by simp [h]
 have hh:∀ t,t<R.length->EA ((R.map fun r=>zeros r D).getD t []) ((R.map fun r=>zeros r D).getD i []) ((R.map fun r=>zeros r D).getD k [])=(D.all fun b=>!(Lin.dot b (R.getD i []) == 0 && Lin.dot b (R.getD k []) == 0) || Lin.dot b (R.getD t []) == 0):=fun t h=>by
  rw [c t h,c i hi,c k d];have hg:∀ r x,x<D.length->(zeros r D).getD x false=decide (Lin.dot (D.getD x []) r=0):=fun r x hx=>by
   simp [zeros,hx,Lin.dot_comm r]
  unfold EA;rw [Wi,VA,VA,wP];constructor
  ·intro h b hb;obtain ⟨x,hx,rfl⟩:=Wm hb
   have:=h x (by simpa using hx)
   rw [hg _ x hx,hg _ x hx,hg _ x hx] at this;have e:D.getD x []=D[x]:=by simp [hx]
   rw [e] at this
   simpa using this
  ·intro h x hx;have hx:x<D.length:=by simpa using hx
   rw [hg _ x hx,hg _ x hx,hg _ x hx];have e:D.getD x []=D[x]:=by simp [hx]
   rw [e]
   have:=h D[x] (U9 hx)
   simpa using this
 unfold AI Lin.nearB;rw [Vh,Wi,VA,VA];constructor
 ·intro h t a
  have:=h t a
  rw [hh t (by simpa using a)] at this;exact this
 ·intro h t a
  have:=h t a
  rw [hh t (by simpa using a)];exact this
def CutV.frm {H H' H'':Heap} {mb:Nat} {a:List Int} {R D:List (List Int)} {k:Nat} {vm vd v:AV} {es:List (AV × AV)} {Ws:List (List Nat)} {l:List (List Int)} (h:CutV H H' mb a R D k vm vd es Ws) (b:Frm v H' H'') (hb:Bl rowsE af H H' v l):CutV H H'' mb a R D k vm vd es Ws :=
 ⟨h.bm.monoT (b.subT hb zU),h.wl,h.wok,h.bd.monoT (b.subT hb zU),b.other hb h.sd.get (fun cs e=>by cases e),h.sd.keys,fun s=>(h.sd.bl s).monoT (b.subT hb zU),h.sd.sep⟩
section
variable {tab:Nat->Option az} {H:Heap} {s:AV}
def Ey {H0 H:Heap} {v:AV} {l:List Nat} (h:BY H0 H v (l.map fun i:Nat=>(i:Int))) {j:Nat} (hj:j<l.length):bc H none (aA v j)=some (.int .i64 ((l[j]:Nat):Int))/\cd 1 v (.int .i64 (j:Int))=some (aA v j):=by
 obtain ⟨c,hc,b⟩:=SlV.at1 h.sl (i:=j) (a:=((l[j]:Nat):Int)) (by simp [hj]);have hc:c=.int .i64 ((l[j]:Nat):Int):=hc;rw [hc] at b;exact ⟨b,SlV.idx1 h.sl .i64 j (by simpa using hj)⟩
def Bl.ge {α:Type} {E:fF α} {ty:Nat} {H0 H:Heap} {v:AV} {l:List α} (h:Bl E ty H0 H v l) {b:Nat} (hb:kb v=some b):H0.next<=b:=by
 rcases h with ⟨rfl,-⟩ | ⟨b',cells,rfl,-,-,h0⟩
 ·cases hb
 ·cases hb; exact h0
def Wr.putT {H0 H:Heap} {v:AV} {l:List (List Int)} {c b ty:Nat} {cs:List AV} {r:Bool} {e:Ent} (h:Wr H0 H v l c) (hb:H.get b=some (.cells cs ty r)) (h1:ty≠af) (h2:ty ∉ (tx intE aa).tys):Wr H0 (H.put b e) v l c:=by
 refine h.put (fun a=>?_) (NoTy.ty hb h2);rcases h with ⟨rfl,-⟩ | ⟨b',cells,rfl,h3,-⟩
 ·cases a
 ·cases a;rw [hb] at h3
  injection h3 with d; injection d with _ h5
  exact h1 h5
def CZ (C:Code tab) {ub mb i:Nat} {ql qr qd va vm vd p:AV} {a:List Int} {R D pre:List (List Int)} {d e f:Nat} {es:List (AV × AV)} {Ws:List (List Nat)} {T1:Tm} {B:Heap} (av:H.get ub=some (.cells [ql,qr,qd] aU true)) (L:eF H qr R) (hd:d<=64) (ab:a.length=d) (hR:∀ r∈R,r.length=d/\∀ z∈r,Bt f z) (a4:D.length<=1024) (aa:∀ z∈a,Bt e z) (hb:2*(e+f+7)+2*f+1<=8796093022208) (a5:R.length<=1099000000000) (a8:pre.length<=1100000000000) (ae:Kp H B) (hi:i<R.length) (aL:T1.length=135)
  (t0:ad T1 0=.ptr ub 0) (v7:ad T1 7=vm) (v8:ad T1 8=vd) (aY:ad T1 16=.int .i64 (i:Int)) (aX:ad T1 12=p) (a0:ad T1 92=ig es (-1)) (a1:ad T1 93=.int .i64 ((cD a R (-1)).length:Int)) (a2:ad T1 94=.int .i64 0) (hc:CutV H B mb a R D R.length vm vd es Ws) (ho:Bl rowsE af H B p pre) {Q:Ex->Tm->Heap->Prop}
  (hq:∀ T2 H2 aC,T2.length=135->ad T2 12=aC->Kp H H2->CutV H H2 mb a R D R.length vm vd es Ws->Bl rowsE af H H2 aC (pre++((cD a R (-1)).filter (Lin.nearB D R i)).map fun k=>Lin.prime (Lin.mx a (R.getD i []) (R.getD k [])))->Q .nrm T2 H2) :
  WC tab false (QP 6 7 94 93 95 129
  (.seq (.region [
  ⟨(some 96),.indexAddr 1 (.t 92) (.t 94),none⟩,
  ⟨(some 97),.load none (.t 96),none⟩,
  ⟨(some 18),.mv (.t 97),none⟩]) <|
  .seq (.region [
  ⟨(some 98),.mv (.t 7),none⟩,
  ⟨(some 99),.mv (.t 16),none⟩,
  ⟨(some 100),.mv (.t 18),none⟩,
  ⟨(some 101),.call (.c (.fn (.func nF) [] [])) [(.t 98),(.t 99),(.t 100)],none⟩]) <|
  .cond (.t 101)
  (.draw [
   ⟨(some 102),.mv (.t 12),none,[(12,none)],0,[(0,[]),(1,[]),(2,[])]⟩,
   ⟨(some 103),.mv (.t 8),none,[(8,none)],0,[(0,[])]⟩,
   ⟨(some 104),.mv (.t 18),none,[(18,none)],0,[(0,[])]⟩,
   ⟨(some 105),.indexAddr 2 (.t 103) (.t 104),none,[(103,(some 1)),(104,(some 2))],0,[(0,[])]⟩,
   ⟨(some 106),.load (some 2) (.t 105),none,[(105,(some 3))],0,[(0,[])]⟩,
   ⟨(some 107),.call (.c (.fn (.func pQ) [] [])) [(.t 106)],none,[(106,(some 4))],2,[(0,[])]⟩,
   ⟨(some 108),.mv (.t 0),none,[(0,none)],0,[(0,[]),(1,[])]⟩,
   ⟨(some 109),.nilCheck (.t 108),none,[(108,(some 6))],0,[(0,[]),(1,[])]⟩,
   ⟨(some 110),.fieldAddr 1 (.t 109),none,[(109,(some 7))],0,[(0,[]),(1,[])]⟩,
   ⟨(some 111),.load none (.t 110),none,[(110,(some 8))],0,[(0,[]),(1,[])]⟩,
   ⟨(some 112),.mv (.t 16),none,[(16,none)],0,[(0,[]),(1,[])]⟩,
   ⟨(some 113),.indexAddr 1 (.t 111) (.t 112),none,[(111,(some 9)),(112,(some 10))],0,[(0,[]),(1,[])]⟩,
   ⟨(some 114),.load none (.t 113),none,[(113,(some 11))],0,[(0,[]),(1,[])]⟩,
   ⟨(some 115),.mv (.t 8),none,[(8,none)],0,[(0,[]),(1,[])]⟩,
   ⟨(some 116),.mv (.t 16),none,[(16,none)],0,[(0,[]),(1,[])]⟩,
   ⟨(some 117),.indexAddr 2 (.t 115) (.t 116),none,[(115,(some 13)),(116,(some 14))],0,[(0,[]),(1,[])]⟩,
   ⟨(some 118),.load (some 2) (.t 117),none,[(117,(some 15))],0,[(0,[]),(1,[])]⟩,
   ⟨(some 119),.mv (.t 0),none,[(0,none)],0,[(0,[]),(1,[])]⟩,
   ⟨(some 120),.nilCheck (.t 119),none,[(119,(some 17))],0,[(0,[]),(1,[])]⟩,
   ⟨(some 121),.fieldAddr 1 (.t 120),none,[(120,(some 18))],0,[(0,[]),(1,[])]⟩,
   ⟨(some 122),.load none (.t 121),none,[(121,(some 19))],0,[(0,[]),(1,[])]⟩,
   ⟨(some 123),.mv (.t 18),none,[(18,none)],0,[(0,[]),(1,[])]⟩,
   ⟨(some 124),.indexAddr 1 (.t 122) (.t 123),none,[(122,(some 20)),(123,(some 21))],0,[(0,[]),(1,[])]⟩,
   ⟨(some 125),.load none (.t 124),none,[(124,(some 22))],0,[(0,[]),(1,[])]⟩,
   ⟨(some 126),.call (.c (.fn (.func pR) [] [])) [(.t 107),(.t 114),(.t 118),(.t 125)],none,[(107,(some 5)),(114,(some 12)),(118,(some 16)),(125,(some 23))],2,[(1,[])]⟩,
   ⟨(some 127),.buildSlice af 1 [.nilSl] 1 [((0,1),(.t 126))],none,[(126,(some 24))],1,[(2,[])]⟩,
   ⟨(some 128),.append 1 24 af [.nilSl] (.t 102) (.t 127),none,[(102,(some 0)),(127,(some 25))],2,[(2,[25])]⟩,
   ⟨(some 12),.mv (.t 128),none,[(128,(some 26))],0,[(3,[])]⟩] [])
  (.skip))) T1 B Q:=by
 have hw:=ae.wf0;have bh:=hw _ _ av;have a9:=Ai a R (-1);have F:=hR _ (U9 hi);obtain ⟨bk,aS,aM⟩:=dI L hi;have aD:=SlV.idx1 L .i64 i hi;have gi:R.getD i []=R[i]:=by simp [hi]
 refine aq H [12] (fun m vs H'=>∃ p,vs=[p]/\CutV H H' mb a R D R.length vm vd es Ws/\Bl rowsE af H H' p (pre++(((cD a R (-1)).take m).filter (Lin.nearB D R i)).map fun k=>Lin.prime (Lin.mx a (R.getD i []) (R.getD k [])))) (a:=0) (N:=(cD a R (-1)).length) aL a2 a1 (Vk _) zO rfl rfl (fun m vs H' n ⟨p,h1,h2,h3⟩=>⟨p,h1,h2.mono (Sub.bump H' n),h3.mono (Sub.bump H' n)⟩) ae ⟨p,by show [ad T1 12]=_; rw [aX],hc,by simpa using ho⟩ ?_ ?_
 ·rintro m T2 H2 _ hm l aH w s ⟨O,j,g,A⟩;have w2:=s.wf;have bb:=s.le;have ba:=s.le;simp only [Vb,Vf,Vd,and_true] at j;have V:ad T2 0=.ptr ub 0:=(w.at_ 0 zU).trans t0;have u7:ad T2 7=vm:=(w.at_ 7 zU).trans v7;have u8:ad T2 8=vd:=(w.at_ 8 zU).trans v8;have M:ad T2 16=.int .i64 (i:Int):=(w.at_ 16 zU).trans aY;have a3:ad T2 92=ig es (-1):=(w.at_ 92 zU).trans a0;have aQ:BY H H2 (ig es (-1)) ((cD a R (-1)).map fun i:Nat=>(i:Int)):=g.sd.bl (-1);obtain ⟨ag,aJ⟩:=Ey aQ hm;obtain ⟨k,P⟩:∃ k,k=(cD a R (-1))[m]:=⟨_,rfl⟩
  rw [<- P] at ag;have v:k<R.length:=by rw [P]; exact Ah (U9 hm)
  have gk:R.getD k []=R[k]:=by simp [v]
  refine zW (fE l a3 u7 M aH aJ ag) ?_;have aV:(R.map fun r=>zeros r D).length=R.length:=by simp
  refine AnsH.eq (Mi C (zs:=R.map fun r=>zeros r D) (n:=D.length) zF (g.bm.sl.mono (zG H2)) (by rw [g.wl,aV]) (fun t h h'=>?_) (fun z hz=>?_) zO zO zO zO) fun c aK=>?_
  ·rw [X8]; exact g.wok t zO h'
  ·rw [Va] at hz;obtain ⟨r,-,rfl⟩:=hz;exact wP r D
  rw [Qw hi v];obtain ⟨k23,_,_⟩:=zT H2 zK aK;have o:Kp H c:=s.trans k23;have bc:=o.le;have w3:=o.wf;have ar:(cD a R (-1)).take (m+1)=(cD a R (-1)).take m++[k]:=by rw [Ve hm,<- P]
  cases al:Lin.nearB D R i k with
  | false =>
   refine zW (aw l j) ?_;refine ⟨o,O,rfl,g.mono k23.sub,?_⟩;rw [ar,Wt];simp only [Xk,al,Wb,if_false,Yf,WH];exact A.mono k23.sub
  | true =>
   have G:=hR _ (U9 v);have a6:((R.take R.length).map (Lin.dot a)).length=R.length:=by simp
   have Z:∀ t (h:t<R.length),((R.take R.length).map (Lin.dot a))[t]'zO=Lin.dot a R[t]:=fun t h=>by simp
   have E:=g.bd.sl;obtain ⟨wk,ao,K,-,-⟩:=jO (E.mono k23.sub) (i:=k) zO;obtain ⟨wi,am,J,-,-⟩:=jO (E.mono k23.sub) (i:=i) zO;rw [Z k v] at ao K;rw [Z i hi] at am J;have W:cd 2 vd (.int .i64 (k:Int))=some (aA vd (k*2)):=SlV.idx E .i64 k zO;have xi:cd 2 vd (.int .i64 (i:Int))=some (aA vd (i*2)):=SlV.idx E .i64 i zO;obtain ⟨bl,aT,aN⟩:=dI L v;have aE:=SlV.idx1 L .i64 k v;have U:=o.get av;have S:=b7 o.sub aM;have T:=b7 o.sub aN;have Y:=oK aa G.2 (ab.trans G.1.symm) zO;have di:=oK aa F.2 (ab.trans F.1.symm) zO;refine zW (aw l j) ?_;refine aF ?_;refine zD (jC l j V u8 M W K @aR) ?_;refine AnsH.use (Bm C (z:=Lin.dot a R[k]) zF ⟨wk,rfl,ao.mono (zG c)⟩ (Y.sm zO)) ?_;rintro v4 X ⟨aO,u⟩;obtain ⟨x,_,w4⟩:=zT c zK u;have aW:Kp H X:=o.trans x;have bd:=aW.le;have ax:=x.get U;have ah:=b7 x.sub S;have ai:=b7 x.sub T;have aj:=b7 x.sub J;refine zD (RD l j V u8 M W xi aD aE K J aj U ax S ah T ai @aR) ?_;refine AnsH.use (GD C (m:=-(Lin.dot a R[k])) (n:=Lin.dot a R[i]) zF (aO.mono (zG X)) ⟨wi,rfl,am.mono (zG c)⟩ (aS.mono (zG H)) (aT.mono (zG H)) (F.1.trans G.1.symm) zO Y.neg di F.2 G.2 zO) ?_;rintro v5 q ⟨ap,I⟩;have y:Kp c q:=Kp.trans x (Kp.trans zK I);have bg:=y.le;have w5:=y.wf;have ay:Kp H q:=o.trans y;have bf:=ay.le;have o5:=ap.one;have f25:q.get (c.next+25)=none:=I.free (by have:=u.le; simp only [dr] at this; omega) (u.free (show _<c.next+28 by omega) (w3.fresh (b:=c.next+25) zO));have f26:q.get (c.next+26)=none:=I.free (by have:=u.le; simp only [dr] at this; omega) (u.free (show _<c.next+28 by omega) (w3.fresh (b:=c.next+26) zO));have bi:c.next+28<=q.next:=Vn u.le I.le
   have aB:=A.mono (k23.trans y).sub;have aP:RowV q v5 (Lin.prime (Lin.mx a (R.getD i []) (R.getD k []))):=by rw [gi,gk]; exact ap
   have a7:(pre++(((cD a R (-1)).take m).filter (Lin.nearB D R i)).map fun k=>Lin.prime (Lin.mx a (R.getD i []) (R.getD k []))).length<=pre.length+R.length:=by
    rw [Vr,Vh];have h1:=W7 (Lin.nearB D R i) ((cD a R (-1)).take m);rw [Vx] at h1;omega
   obtain ⟨n6,H6,e6,b6,k6,bj,f6,u6⟩:=Bl.push2 (ty2:=af) (bytes:=24) (id:=c.next+26) (id2:=c.next+25) (cs:=[v5]) (a:=Lin.prime (Lin.mx a (R.getD i []) (R.getD k []))) aB zU ay ⟨v5,rfl,aP⟩ zO zO f26 zO zO f25 zO zO zO;have aG:cC (q.put (c.next+25) (.cells [v5] af true)) (c.next+26) 1 24 af O (.own (c.next+25) 0 1 1 1 true)=some (.own (c.next+26) 0 n6 n6 1 false,H6):=e6;refine zD (Tf l j V u8 M W xi aD aE K J aj U ax S ah T ai @aR aG) ?_;refine ⟨k6,_,rfl,(g.mono (k23.trans y).sub).frm f6 aB,?_⟩;rw [ar,Wt,V9,<- Xg];simp only [Xk,al,if_true,Yf,Vb,Vf];exact b6
 ·rintro T2 H2 l w s ⟨O,j,g,A⟩;simp only [Vb,Vf,Vd,and_true] at j;rw [VC] at A;exact hq T2 H2 O l j s g A
def OT (C:Code tab) {H0:Heap} {ub:Nat} {u:Lin.Under} {va:AV} {a:List Int} {eq:Bool} {d e f:Nat} (hk:Kp H0 H) (bp:H0.next<=ub) (hu:UnderV H0 H ub u) (ha:RowV H va a) (aR:0<d) (hd:d<=64) (ao:a.length=d) (hR:∀ r∈u.rays,r.length=d/\∀ z∈r,Bt f z) (hD:∀ r∈u.done,r.length=d/\∀ z∈r,Bt e z) (ae:u.done.length<=1024) (al:∀ z∈a,Bt e z) (hb:2*(e+f+7)+2*f+1<=8796093022208) (ar:u.rays.length<=1099000000000) (hcl:(Lin.cutL u.done a eq u.rays).length<=1099000000000) :
  Ans tab (.fn jm [.ptr ub 0,va,.bool eq]) H fun v H'=>v=.tup []/\Kp H0 H'/\UnderV H0 H' ub ⟨u.lines,Lin.cutL u.done a eq u.rays,u.done⟩/\∀ b e,H.get b=some e->b≠ub->H'.get b=some e:=by
 have hw:=hk.wf;obtain ⟨ql,qr,qd,cl,K,aH,F,ah,s1,s2,s3⟩:=hu;have bt:=hw _ _ K;obtain ⟨R,aP⟩:∃ R,R=u.rays:=⟨_,rfl⟩
 obtain ⟨D,aN⟩:∃ D,D=u.done:=⟨_,rfl⟩
 rw [<- aP] at hR F ar hcl ⊢;rw [<- aN] at hD ae ah hcl ⊢;refine ts C.q111 rfl rfl zU fun T hl g=>?_;have hl:T.length=135:=hl;have a1:c_P_cone_under_cut.results=[]:=rfl;have P:ad T 0=.ptr ub 0:=g 0 (by simp);have W:ad T 1=va:=g 1 (by simp);have X:ad T 2=.bool eq:=g 2 (by simp);refine aG ?_;simp -dsimp (maxSteps:=1000000) (disch:=(first | omega | assumption | exact aI _ | exact aZ _ _ | exact bD | exact cH _ _ _ | exact bN _ _ | exact bC _ _ _ _ _ _ | exact cR _ _ | exact bR _)) only [↓uV,uU,Nat.reduceLT,Nat.reduceEqDiff,Nat.reduceAdd,reduceIte,reduceCtorEq,Nat.reduceBEq,Int.reduceEq,Int.reduceLT,Int.reduceLE,Int.reduceAdd,Int.reduceSub,hl,P,W,X,↓MU,am];refine aG ?_;refine zW (bO hl P W X @am) ?_;refine aG ?_;refine zW (bO hl P W X @am) ?_;have aO:R.length<1099511627776:=zO;refine bP (fun T' H'=>∃ vm vd es Ws,ad T' 7=vm/\ad T' 8=vd/\Kp H H'/\CutV H H' H.next a R D R.length vm vd es Ws) rfl ?_ ?_
 ·refine zW (fE hl P W X K F.sl.lenV @aC) ?_;refine aq H [7,8] (fun k vs H'=>∃ vm vd es Ws,vs=[vm,vd]/\CutV H H' H.next a R D k vm vd es Ws) (a:=0) (N:=R.length) rfl (by refine zW hl ?_; rfl) (zV hl) (Vk _) zO (by simp only [U4,hl]; rfl) rfl (fun k vs H' m ⟨vm,vd,es,Ws,h1,h2⟩=>⟨vm,vd,es,Ws,h1,h2.mono (Sub.bump H' m)⟩) zK ⟨.nilSl,.nilSl,[],[],by exact zV hl,Bl.nil,rfl,fun t h h'=>by simp at h',Bl.nil,by exact cy,(fun p hp=>by cases hp),(fun s=>Bl.nil),(fun s s' _ b hb=>by cases hb)⟩ ?_ ?_
  ·rintro k T1 H1 _ aa j aS B aW ⟨vm,vd,es,Ws,w,hc⟩;simp only [Vb,Vf,Vd,and_true] at w;simp only [U4,hl] at j;refine Me C K F.sl ah.sl ha aR hd ao hR hD ae al zO aO aW aa j ((B.at_ 0 zU).trans (zV (aw hl P))) ((B.at_ 1 zU).trans (zV (aw hl W))) ((B.at_ 6 zU).trans (zV hl)) ((B.at_ 23 zU).trans (zV hl)) aS w.1 w.2 (Vc _) hc ?_;intro T2 H2 bk bj aM aL h1 h2 h3 Y h5;refine zW (aE h1 h2 h3) ?_;exact ⟨Y,bk,bj,aM,aL,rfl,h5⟩
  ·rintro T1 H1 j B aV ⟨vm,vd,es,Ws,w,hc⟩;simp only [Vb,Vf,Vd,and_true] at w;refine zW (aw j @aC) ?_;exact ⟨vm,vd,es,Ws,w.1,w.2,aV,hc⟩
 rintro T1 H1 B ⟨vm,vd,es,Ws,v7,v8,k1,hc⟩;have w1:=k1.wf;have t0:ad T1 0=.ptr ub 0:=(B.at_ 0 zU).trans (zV (aw hl P));have t2:ad T1 2=.bool eq:=(B.at_ 2 zU).trans (zV (aw hl X));have t6:ad T1 6=.map H.next:=(B.at_ 6 zU).trans (zV hl)
 have j:T1.length=135:=B.len.trans (by simp only [U4]; exact hl);have ai:∀ (H':Heap),CutV H H' H.next a R D R.length vm vd es Ws->∀ z n,tD (H'.up n) .int .nilSl (.map H.next) (.int .i64 z) false=some (ig es z):=fun H' h z n=>Eo (by exact h.sd.get) h.sd.keys z
 have a9:=ai H1 hc 0;have a8:lenV (ig es 0)=some (.int .i64 ((cD a R 0).length:Int)):=by
  rw [(hc.sd.bl 0).sl.lenV,DR,Vh]
 have bm:=Ai a R 0;have bn:=Ai a R 1;refine WC.wb ?_;simp -dsimp (maxSteps:=1000000) (disch:=(first | omega | assumption | exact aI _ | exact aZ _ _ | exact bD | exact cH _ _ _ | exact bN _ _ | exact bC _ _ _ _ _ _ | exact cR _ _ | exact bR _)) only [↓uV,uU,Nat.reduceLT,Nat.reduceEqDiff,Nat.reduceAdd,reduceIte,reduceCtorEq,Nat.reduceBEq,Int.reduceEq,Int.reduceLT,Int.reduceLE,Int.reduceAdd,Int.reduceSub,j,t0,t6,↓oM,a9,a8];refine aq H [12] (fun m vs H'=>∃ y,vs=[y]/\CutV H H' H.next a R D R.length vm vd es Ws/\Bl rowsE af H H' y (((cD a R 0).take m).map (R.getD · []))) (a:=0) (N:=(cD a R 0).length) rfl (by refine zW j ?_; rfl) (zV j) (Vk _) zO (by simp only [U4,j]; rfl) rfl (fun m vs H' n ⟨y,h1,h2,h3⟩=>⟨y,h1,h2.mono (Sub.bump H' n),h3.mono (Sub.bump H' n)⟩) zK ⟨.nilSl,by exact zV j,hc.mono (Sub.bump H1 _),Bl.nil⟩ ?_ ?_
 ·rintro m T2 H2 _ hm l aT I A ⟨y,w,U,o2⟩;have w2:=A.wf;have a6:=A.le;have bq:=A.le;simp only [Vb,Vf,Vd,and_true] at w;simp only [U4,j] at l;have u0:ad T2 0=.ptr ub 0:=(I.at_ 0 zU).trans (zV (aw j t0));have bi:ad T2 55=ig es 0:=(I.at_ 55 zU).trans (zV j);obtain ⟨Q,ag⟩:=Ey (show BY H H2 (ig es 0) ((cD a R 0).map fun i:Nat=>(i:Int)) from U.sd.bl 0) hm;obtain ⟨k,aa⟩:∃ k,k=(cD a R 0)[m]:=⟨_,rfl⟩
  rw [<- aa] at Q;have ax:k<R.length:=by rw [aa]; exact Ah (U9 hm)
  obtain ⟨vr,ab,ay⟩:=dI F.sl ax;have xr:=SlV.idx1 F.sl .i64 k ax;have a4:=A.get K;have aX:=b7 A.sub ay;have bg:=ab.one;have gk:R.getD k []=R[k]:=by simp [ax]
  have bl:(((cD a R 0).take m).map (R.getD · [])).length<=R.length:=by simp; omega
  obtain ⟨n6,O,e6,b6,k6,bd,f6,u6⟩:=Bl.push1 (ty2:=af) (bytes:=24) (id:=H2.next+12) (id2:=H2.next+11) (k:=14) (cs:=[vr]) (a:=R.getD k []) o2 zU A ⟨vr,rfl,by rw [gk]; exact ab.mono A.sub⟩ zO zO zO zO zO zO zO;have aj:cC ((H2.up 14).put (H2.next+11) (.cells [vr] af true)) (H2.next+12) 1 24 af y (.own (H2.next+11) 0 1 1 1 true)=some (.own (H2.next+12) 0 n6 n6 1 false,O):=e6;refine zW (lP l u0 bi aT ag Q w a4 xr aX aj) ?_;refine ⟨k6,_,rfl,U.frm f6 o2,?_⟩;rw [Ve hm,V9,<- aa];exact b6
 ·rintro T2 H2 l I A ⟨y,w,U,o2⟩;have w2:=A.wf;have a6:=A.le;simp only [Vb,Vf,Vd,and_true] at w;simp only [U4,j] at l;rw [VC] at o2;have u0:ad T2 0=.ptr ub 0:=(I.at_ 0 zU).trans (zV (aw j t0));have u2:ad T2 2=.bool eq:=(I.at_ 2 zU).trans (zV (aw j t2));have u6:ad T2 6=.map H.next:=(I.at_ 6 zU).trans (zV (aw j t6))
  have u7:ad T2 7=vm:=(I.at_ 7 zU).trans (zV (aw j v7));have u8:ad T2 8=vd:=(I.at_ 8 zU).trans (zV (aw j v8));have ba:=ai H2 U 1;have TH:lenV (ig es 1)=some (.int .i64 ((cD a R 1).length:Int)):=by
   rw [(hc.sd.bl 1).sl.lenV,DR,Vh]
  simp -dsimp (maxSteps:=1000000) (disch:=(first | omega | assumption | exact aI _ | exact aZ _ _ | exact bD | exact cH _ _ _ | exact bN _ _ | exact bC _ _ _ _ _ _ | exact cR _ _ | exact bR _)) only [↓uV,uU,Nat.reduceLT,Nat.reduceEqDiff,Nat.reduceAdd,reduceIte,reduceCtorEq,Nat.reduceBEq,Int.reduceEq,Int.reduceLT,Int.reduceLE,Int.reduceAdd,Int.reduceSub,l,u0,u6,↓oM,ba,TH];refine aq H [12] (fun m vs H'=>∃ y,vs=[y]/\CutV H H' H.next a R D R.length vm vd es Ws/\Bl rowsE af H H' y ((cD a R 0).map (R.getD · [])++((cD a R 1).take m).flatMap (Ce D a eq R))) (a:=0) (N:=(cD a R 1).length) rfl (by refine zW l ?_; rfl) (zV l) (Vk _) zO (by simp only [U4,l]; rfl) rfl (fun m vs H' n ⟨y,h1,h2,h3⟩=>⟨y,h1,h2.mono (Sub.bump H' n),h3.mono (Sub.bump H' n)⟩) zK ⟨y,by exact zV (aw l w),U.mono (Sub.bump H2 _),by rw [Y9,List.flatMap_nil,WH]; exact o2.mono (Sub.bump H2 _)⟩ ?_ ?_
  ·rintro m G o _ hm c aF J q ⟨S,M,V,E⟩;have w3:=q.wf;have a7:=q.le;have br:=q.le;simp only [Vb,Vf,Vd,and_true] at M;simp only [U4,l] at c;have z0:ad G 0=.ptr ub 0:=(J.at_ 0 zU).trans (zV (aw l u0));have z2:ad G 2=.bool eq:=(J.at_ 2 zU).trans (zV (aw l u2));have z6:ad G 6=.map H.next:=(J.at_ 6 zU).trans (zV (aw l u6))
   have z7:ad G 7=vm:=(J.at_ 7 zU).trans (zV (aw l u7));have z8:ad G 8=vd:=(J.at_ 8 zU).trans (zV (aw l u8));have aK:ad G 73=ig es 1:=(J.at_ 73 zU).trans (zV l);obtain ⟨Q,ag⟩:=Ey (show BY H o (ig es 1) ((cD a R 1).map fun i:Nat=>(i:Int)) from V.sd.bl 1) hm;obtain ⟨i,av⟩:∃ i,i=(cD a R 1)[m]:=⟨_,rfl⟩
   rw [<- av] at Q;have Z:i<R.length:=by rw [av]; exact Ah (U9 hm)
   have gi:R.getD i []=R[i]:=by simp [Z]
   obtain ⟨pre,aA⟩:∃ pre,pre=(cD a R 0).map (R.getD · [])++((cD a R 1).take m).flatMap (Ce D a eq R):=⟨_,rfl⟩
   have bo:pre.length<=1099000000000:=by
    refine Vn ?_ hcl;have e:(cD a R 1).flatMap (Ce D a eq R)=((cD a R 1).take m).flatMap (Ce D a eq R)++((cD a R 1).drop m).flatMap (Ce D a eq R):=by rw [<- Z8,ZN]
    rw [J7,e,aA];simp only [Vr];omega
   have a3:(cD a R 0).map (R.getD · [])++((cD a R 1).take (m+1)).flatMap (Ce D a eq R)=pre++Ce D a eq R i:=by
    rw [Ve hm,Z8,<- Xg,<- aA,<- av]
    simp
   rw [a3];rw [<- aA] at E;have bc:=ai o V (-1);have aJ:lenV (ig es (-1))=some (.int .i64 ((cD a R (-1)).length:Int)):=by
    rw [(hc.sd.bl (-1)).sl.lenV,DR,Vh]
   cases heq:eq with
   | true =>
    rw [heq] at z2;simp -dsimp (maxSteps:=1000000) (disch:=(first | omega | assumption | exact aI _ | exact aZ _ _ | exact bD | exact cH _ _ _ | exact bN _ _ | exact bC _ _ _ _ _ _ | exact cR _ _ | exact bR _)) only [↓uV,uU,Nat.reduceLT,Nat.reduceEqDiff,Nat.reduceAdd,reduceIte,reduceCtorEq,Nat.reduceBEq,Int.reduceEq,Int.reduceLT,Int.reduceLE,Int.reduceAdd,Int.reduceSub,c,z0,z2,z6,aK,aF,ag,Q,M,↓oM,bc,aJ];refine CZ (va:=va) C K F.sl hd ao hR ae al hb ar (pre:=pre) zO (q.up _) Z (by simp only [U4]; exact c) (zV (aw c z0)) (zV (aw c z7)) (zV (aw c z8)) (zV c) (zV (aw c M)) (zV c) (zV c) (zV c) (V.mono (Sub.bump o _)) (E.mono (Sub.bump o _)) ?_;intro T4 H4 aD h1 h2 h3 Y h5;refine zW (aw h1 h2) ?_;exact ⟨h3,aD,rfl,Y,by unfold Ce; simpa using h5⟩
   | false =>
    rw [heq] at z2;obtain ⟨vr,ab,ay⟩:=dI F.sl Z;have xr:=SlV.idx1 F.sl .i64 i Z;have L:=q.get K;have aY:=b7 q.sub ay;have bg:=ab.one;obtain ⟨n6,O,e6,b6,k6,bd,f6,bv⟩:=Bl.push1 (ty2:=af) (bytes:=24) (id:=o.next+14) (id2:=o.next+13) (k:=16) (cs:=[vr]) (a:=R.getD i []) E zU q ⟨vr,rfl,by rw [gi]; exact ab.mono q.sub⟩ zO zO zO zO zO zO zO;have aj:cC ((o.up 16).put (o.next+13) (.cells [vr] af true)) (o.next+14) 1 24 af S (.own (o.next+13) 0 1 1 1 true)=some (.own (o.next+14) 0 n6 n6 1 false,O):=e6;have c6:=V.frm f6 E;have bb:=ai O c6 (-1);have w6:=k6.wf;simp -dsimp (maxSteps:=1000000) (disch:=(first | omega | assumption | exact aI _ | exact aZ _ _ | exact bD | exact cH _ _ _ | exact bN _ _ | exact bC _ _ _ _ _ _ | exact cR _ _ | exact bR _)) only [↓uV,uU,Nat.reduceLT,Nat.reduceEqDiff,Nat.reduceAdd,reduceIte,reduceCtorEq,Nat.reduceBEq,Int.reduceEq,Int.reduceLT,Int.reduceLE,Int.reduceAdd,Int.reduceSub,c,z0,z2,z6,aK,aF,ag,Q,M,L,xr,aY,aj,↓oM,bb,aJ];refine CZ (va:=va) C K F.sl hd ao hR ae al hb ar (pre:=pre++[R.getD i []]) (by simp; omega) (k6.up _) Z (by simp only [U4]; exact c) (zV (aw c z0)) (zV (aw c z7)) (zV (aw c z8)) (zV c) (by refine zW c ?_; rfl) (zV c) (zV c) (zV c) (c6.mono (Sub.bump O _)) (b6.mono (Sub.bump O _)) ?_;intro T4 H4 aD h1 h2 h3 Y h5;refine zW (aw h1 h2) ?_;exact ⟨h3,aD,rfl,Y,by unfold Ce; simpa using h5⟩
  ·rintro G o c J q ⟨S,M,V,E⟩;have w3:=q.wf;have a7:=q.le;simp only [Vb,Vf,Vd,and_true] at M;simp only [U4,l] at c;rw [VC,<- J7] at E;have z0:ad G 0=.ptr ub 0:=(J.at_ 0 zU).trans (zV (aw l u0));have L:=q.get K;have bu:=w3 _ _ L;have a5:Kp H0 o:=hk.trans q;have bs:=a5.le;have bh:=E.sl.one;have a2:Fs (some (.cells [ql,qr,qd] aU true)) 1 1 S=some (.cells [ql,S,qd] aU true):=jF bh.fits (by simp);refine zW (dx c z0 M L a1 a2) ?_;have a0:=hk.le;have bf:Wr H0 o S (Lin.cutL D a eq R) (Lin.cutL D a eq R).length:=E.wr.base a0;refine ⟨zK,⟨ql,S,qd,cl,ap _ _ _,((aH.mono q.sub).mono (Sub.bump o 5)).putT L zU zU,(bf.mono (Sub.bump o 5)).putT L zU zU,((ah.mono q.sub).mono (Sub.bump o 5)).putT L zU zU,fun x hx hy=>?_,s2,fun x hx hy=>?_⟩,fun b e aQ hne=>?_⟩
   ·have h1:=aH.old hw hx;have h2:=E.ge hy;omega
   ·have h1:=ah.old hw hy;have h2:=E.ge hx;omega
   ·rw [aB hne]; exact q.get aQ
end
def SlV.ro {α:Type} {E:fF α} {ty:Nat} {H H':Heap} {v:AV} {l:List α} (j:∀ cs a,E.R H cs a->E.R H' cs a) (h:∀ b cs r,H.get b=some (.cells cs ty r)->∃ d,H'.get b=some (.cells cs ty d)) (hs:SlV E ty H v l):SlV E ty H' v l:=by
 obtain ⟨cells,⟨h0,h1,n,h2,h3⟩,g,hc⟩:=hs;refine ⟨cells,⟨h0,h1,n,h2,?_⟩,fun b off n c z x e=>?_,hc.1,fun i a hi=>j _ _ (hc.2 i a hi)⟩
 ·unfold aQ at h3 ⊢;split at h3
  ·rename_i b off m c sz ex;obtain ⟨cs,r,hb⟩:=g _ _ _ _ _ _ rfl;obtain ⟨d,f⟩:=h _ _ _ hb;rw [hb] at h3;rw [f];exact h3
  ·exact h3
  ·exact h3
  ·exact h3
  ·cases h3
 ·obtain ⟨cs,r,hb⟩:=g b off n c z x e;obtain ⟨d,f⟩:=h _ _ _ hb;exact ⟨cs,d,f⟩
def RowV.ro {H H':Heap} {v:AV} {l:List Int} (h1:∀ b cs r,H.get b=some (.cells cs ae r)->∃ c,H'.get b=some (.cells cs ae c)) (h2:∀ b cs r,H.get b=some (.cells cs aa r)->∃ c,H'.get b=some (.cells cs aa c)) (h:RowV H v l):RowV H' v l :=
 SlV.ro (E:=intE) (fun cs a ⟨w,e,hn⟩=>⟨w,e,SlV.ro (E:=bz bp) (H:=H) (H':=H') (fun cs a ⟨v,e,d⟩=>⟨v,e,d⟩) h1 hn⟩) h2 h
def Kc:∀ {x y:List Int},x.length=y.length->(EO x y<0 ↔ Lin.cmpV y x=false)
 | [],[],_=>by simp [EO,Cf,Lin.cmpV]
 | a :: x,b :: y,h=>by
  have d:=Kc (x:=x) (y:=y) (by simpa using h);unfold EO at d ⊢;unfold Cf Lin.cmpV;by_cases h1:a=b
  ·subst h1;have e:iu (a-a)=0:=by rw [iW]; omega
   simp only [e,Int.lt_irrefl,if_false,if_true,ne_eq,not_true_eq_false];exact d
  ·have e:iu (a-b)≠0:=fun h=>h1 (by rw [iW] at h; omega);rcases Int.lt_or_gt_of_ne h1 with h2 | h2
   ·have c:iu (a-b)<0:=by unfold iu; split <;> (try split) <;> omega
    have f:¬ b<a:=zO;simp [e,c,f,Ne.symm h1]
   ·have c:¬ iu (a-b)<0:=by unfold iu; split <;> (try split) <;> omega
    simp [e,c,h2]
section
variable {tab:Nat->Option az} {H:Heap} {s:AV}
def xQ {f ty:Nat} {gs:List Nat} {fn:az} (a:tab f=some fn) (he:fn.ext=some (.sortF ty gs)) {args:List AV} {v:AV} {H':Heap} {Q:AV->Heap->Prop} (h:∃ N,∀ m n,N<=m->N<=n->Cy (mg tab fo m n) ty gs H args=some (v,H')) (b:Q v H'):Ans tab (.fn f args) H Q:=by
 obtain ⟨N,h⟩:=h;refine ⟨v,H',⟨N+1,fun m n hm hn=>?_⟩,b⟩;obtain ⟨n',rfl⟩:∃ n',n=n'+1:=⟨n-1,zO⟩
 show kn tab fo (mg tab fo m n') m (.fn f args) H=_;simp only [kn,a,he];exact h m n' zO zO
def Bp {g:Nat} {caps:List AV} {D:Heap} {x:AV}:∀ (l:List AV) (c:Nat->Int),(∀ j (h:j<l.length),Ans tab (.fn g ([x,l[j]]++caps)) D fun v _=>v=.int .i64 (c j))->∃ N,∀ m n,N<=m->N<=n->rO (mg tab fo m n) g caps D x l=some ((List.range l.length).map c)
 | [],c,_=>⟨0,fun _ _ _ _=>rfl⟩
 | y :: l,c,h=>by
  obtain ⟨N,d⟩:=Bp l (fun j=>c (j+1)) fun j hj=>h (j+1) (by simpa using hj);obtain ⟨v,e,⟨a,h0⟩,b⟩:=h 0 (by simp);simp only [YH] at h0;subst b;refine ⟨N+a,fun m n hm hn=>?_⟩;simp only [rO,h0 m n zO zO,d m n zO zO];rw [VP,ZJ,Vb,Xo];rfl
def yv {g:Nat} {caps all:List AV} {D:Heap}:∀ (l:List AV) (c:Nat->Nat->Int),(∀ i (h:i<l.length) j (h':j<all.length),Ans tab (.fn g ([l[i],all[j]]++caps)) D fun v _=>v=.int .i64 (c i j)) ->
  ∃ N,∀ m n,N<=m->N<=n->sS (mg tab fo m n) g caps D all l=some ((List.range l.length).map fun i=>(List.range all.length).map (c i))
 | [],c,_=>⟨0,fun _ _ _ _=>rfl⟩
 | x :: l,c,h=>by
  obtain ⟨N,b⟩:=yv l (fun i=>c (i+1)) fun i hi j hj=>h (i+1) (by simpa using hi) j hj;obtain ⟨a,h0⟩:=Bp (tab:=tab) (g:=g) (caps:=caps) (D:=D) (x:=x) all (c 0) fun j hj=>h 0 (by simp) j hj;refine ⟨N+a,fun m n hm hn=>?_⟩;simp only [sS,h0 m n zO zO,b m n zO zO];rw [VP,ZJ,Vb,Xo];rfl
def Cj {f g:Nat} {fn:az} (G:tab f=some fn) (he:fn.ext=some (.sortF af [g])) {H0:Heap} (l:Kp H0 H) {v:AV} {R:List (List Int)} {d:Nat} (hb:Bl rowsE af H0 H v R) (hd:∀ r∈R,r.length=d) (hn:R.Nodup) (ad:R.length<1099511627776)
  (hc:∀ D a b,Wf D->∀ x∈R,∀ y∈R,RowV D a x->RowV D b y->Ans tab (.fn g [a,b]) D fun v _=>v=.int .i64 (EO x y)) :
  Ans tab (.fn f [v,.fn (.func g) [] []]) H fun v' H'=>v'=.tup []/\Kp H0 H'/\Bl rowsE af H0 H' v (R.mergeSort Lin.cmpV):=by
 rcases hb with ⟨rfl,rfl⟩ | ⟨b,cells,rfl,A,hcl,C⟩
 ·exact xQ G he ⟨0,fun m n _ _=>rfl⟩ ⟨rfl,l,.inl ⟨rfl,by simp⟩⟩
 ·rcases WY R.length with h0 | h0
  ·have W:=Wd.1 h0;subst W;exact xQ G he ⟨0,fun m n _ _=>rfl⟩ ⟨rfl,l,.inr ⟨b,cells,by simp,A,by simpa using hcl,C⟩⟩
  ·have hlt:=l.wf _ _ A;have K:=l.wf;have z:cells.length=R.length:=by have:=hcl.1; simpa [bz] using this
   have X:=hcl.ones;obtain ⟨D,hD⟩:∃ D,D=(H.kill b).ro:=⟨_,rfl⟩
   have T:∀ c,c<H.next->c≠b->D.get c=MG (H.get c):=fun c hc hne=>by
    rw [hD,Heap.get_ro,cP hne];exact if_pos (Vu hc (Nat.le_max_left _ _))
   have U:Wf D:=fun c e h=>by
    rw [hD,Heap.get_ro] at h;rw [hD];show c<H.next
    split at h
    ·by_cases F:c=b
     ·omega
     ·rw [cP F] at h;cases hg:H.get c with
      | none=>rw [hg] at h; cases h
      | some e'=>exact K _ _ hg
    ·by_cases F:c=b
     ·omega
     ·rw [cP F] at h;exact K _ _ h
   have Q:∀ ty,ty≠af->∀ c cs r,H.get c=some (.cells cs ty r)->∃ r',D.get c=some (.cells cs ty r'):=fun ty ab c cs r hc=>by
    refine ⟨false,?_⟩;rw [T c (K _ _ hc) (fun e=>by rw [e,A] at hc; cases hc; exact ab rfl),hc];rfl
   have S:∀ i (h:i<R.length),RowV D (cells[i]'zO) R[i]:=fun i h=>by
    obtain ⟨w,h1,h2⟩:=hcl.at1 h;have e:w=cells[i]'zO:=by
     unfold bM at h1
     simpa [z,h] using h1.symm
    rw [<- e];exact RowV.ro (Q _ zU) (Q _ zU) h2
   obtain ⟨N,V⟩:=yv (tab:=tab) (g:=g) (caps:=[]) (all:=cells) (D:=D) cells (fun i j=>EO (R.getD i []) (R.getD j [])) fun i hi j hj=>by
    have I:i<R.length:=zO;have J:j<R.length:=zO;have o:R.getD i []=R[i]:=by simp [I]
    have u:R.getD j []=R[j]:=by simp [J]
    rw [o,u];exact hc D _ _ U _ (U9 I) _ (U9 J) (S i I) (S j J)
   obtain ⟨M,L⟩:∃ M,M=(List.range cells.length).map fun i=>(List.range cells.length).map fun j=>EO (R.getD i []) (R.getD j []):=⟨_,rfl⟩
   have q:∀ i j (hi:i<R.length) (hj:j<R.length),MH M i j = !Lin.cmpV R[j] R[i]:=fun i j hi hj=>by
    have o:(M.getD i []).getD j 0=EO R[i] R[j]:=by
     rw [L];simp [z,hi,hj]
    unfold MH;rw [o,Wi,decide_eq_true_eq,Wk];exact Kc ((hd _ (U9 hi)).trans (hd _ (U9 hj)).symm)
   have Y:Re M R.length:=by
    refine ⟨fun i hi=>?_,fun i hi j hj=>?_,fun i hi j hj k l h1 h2=>?_⟩
    ·rw [q i i hi hi,Lin.cmpV_refl]; rfl
    ·by_cases P:i=j
     ·exact .inl P
     ·right
      rw [q i j hi hj,q j i hj hi];have B:=Lin.cmpV_total R[i] R[j];have ha:=Lin.cmpV_antisymm R[i] R[j];have hne:R[i]≠R[j]:=fun e=>P ((List.getElem_inj hn).1 e);cases h1:Lin.cmpV R[i] R[j] <;> cases h2:Lin.cmpV R[j] R[i]
      ·rw [h1,h2] at B; cases B
      ·rfl
      ·rfl
      ·exact absurd (ha h1 h2) hne
    ·rw [q i j hi hj] at h1;rw [q j k hj l] at h2;rw [q i k hi l];rw [Wk] at h1 h2 ⊢;cases h3:Lin.cmpV R[k] R[i] with
     | false=>rfl
     | true =>
      have B:=Lin.cmpV_total R[i] R[j];rw [h1,ZB] at B
      have:=Lin.cmpV_trans _ _ _ h3 B
      rw [this] at h2; cases h2
   have aa:(lS M R.length).map (fun i=>R.getD i.val [])=R.mergeSort Lin.cmpV:=by
    unfold lS;rw [List.map_mergeSort (s:=Lin.cmpV) (fun i _ j _=>by
     have o:R.getD i.val []=R[i.val]:=by simp
     have u:R.getD j.val []=R[j.val]:=by simp
     rw [o,u,q _ _ j.isLt i.isLt,Bool.not_not])]
    congr 1
    apply Xb
    ·simp
    ·intro i h1 h2;simp [h2]
   have ae:(lS M R.length).length=R.length:=by unfold lS; rw [YL,ZR]
   refine xQ (v:=.tup []) (H':=H.put b (.cells ((lS M R.length).map fun i=>cells.getD i.val .undef) af true)) G he ⟨N,fun m n hm hn=>?_⟩ ⟨rfl,l.put C hlt,.inr ⟨b,(lS M R.length).map fun i=>cells.getD i.val .undef,?_,ap _ _ _,?_,C⟩⟩
   ·have O:=V m n hm hn;rw [<- L] at O;show Cy _ _ _ H [.own b 0 R.length R.length 1 false,.fn (.func g) [] []]=_;simp only [Cy,A];rw [if_neg zO,if_pos ⟨trivial,trivial,trivial,z,h0,zO,by simp,X⟩,<- hD,O];simp only;rw [if_pos Y]
   ·rw [YL]
   ·rw [<- aa];refine ⟨by simp [bz],fun i a hi=>?_⟩;rw [V6,Vg] at hi;obtain ⟨p,hp,rfl⟩:=hi;obtain ⟨hi,Z⟩:=Vl.1 hp;have o:((((lS M R.length).map fun i=>cells.getD i.val .undef).drop (i*1)).take 1)=[cells.getD p.val .undef]:=by
     apply WO
     intro t;cases t with
     | zero=>simp [hi,Z]
     | succ t=>simp; omega
    refine ⟨cells.getD p.val .undef,o,?_⟩;have u:R.getD p.val []=R[p.val]:=by simp
    have e3:cells.getD p.val .undef=cells[p.val]'(by have:=p.isLt; omega):=by have:=p.isLt; simp [z]
    rw [u,e3];obtain ⟨w,h1,h2⟩:=hcl.at1 p.isLt;have e:w=cells[p.val]'(by have:=p.isLt; omega):=by
     unfold bM at h1
     have:=p.isLt
     simpa [z,this] using h1.symm
    rw [<- e];exact SlV.monoT (E:=intE) (SubT.puts (SubT.refl _ _) (NoTy.ty A zU)) h2
end
def Frm.wr {H0 H H':Heap} {v w:AV} {l m:List (List Int)} {c:Nat} (d:Frm v H H') (h:Bl rowsE af H0 H v l) (a:Wr H0 H w m c) (hs:Sep v w):Wr H0 H' w m c:=by
 rcases a with a | ⟨b,cells,h1,h2,h3,f,h5,g⟩
 ·exact .inl a
 ·exact .inr ⟨b,cells,h1,d b _ h2 (fun e=>hs b e (by rw [h1]; rfl)),h3,f,h5.mono (d.subT h zU),g⟩
def IB {α:Type} (p:α->Bool) (l:List α):(nL p l<0/\l.findIdx? p=none)\/∃ i:Nat,nL p l=(i:Int)/\l.findIdx? p=some i:=by
 unfold nL;cases h:l.findIdx? p with
 | none=>exact .inl ⟨by simp,rfl⟩
 | some i=>exact .inr ⟨i,rfl,rfl⟩
section
variable {tab:Nat->Option az} {H:Heap} {s:AV}
def GE (C:Code tab) (p:Wf H) {w va:AV} {r a:List Int} {bx e f:Nat} (hr:RowV H w r) (hb:H.get bx=some (.cells [va] af true)) (ha:RowV H va a) (i:a.length=r.length) (d:a.length<=64) (g:∀ z∈a,Bt e z) (j:∀ z∈r,Bt f z) (h:e+f+7<=8796093022208) :
  Ans tab (.fn gN [w,.ptr bx 0]) H fun v H'=>v=.bool (!decide (Lin.dot a r=0))/\Kp H H':=by
 refine bk C.q110 zU fun T hl b c=>?_;refine zW (aW hl b c hb) ?_;refine AnsH.use (wh C zF (ha.mono (zG H)) (hr.mono (zG H)) i d g j h) ?_;rintro v H2 ⟨n,l⟩;obtain ⟨k2,_,s⟩:=zT H zK l;refine zW (aE hl b c) ?_;refine AnsH.eq (xI C (z:=Lin.dot a r) zF (n.mono (zG H2)) ((oK g j i d).sm h)) fun k m=>?_;have o:Kp H k:=Kp.trans k2 (Kp.trans zK m);have q:=o.le;refine zW (aE hl b c) ?_;refine ⟨?_,zK⟩;congr 1;rw [Wi];simp [iW]
def GF (C:Code tab) {H0:Heap} {ub:Nat} {u:Lin.Under} {va:AV} {a:List Int} {eq:Bool} {d e f:Nat} (G:Kp H0 H) (ax:H0.next<=ub) (hu:UnderV H0 H ub u) (ha:RowV H0 va a) (aL:0<d) (hd:d<=64) (X:a.length=d) (hL:∀ r∈u.lines,r.length=d/\∀ z∈r,Bt f z) (hR:∀ r∈u.rays,r.length=d/\∀ z∈r,Bt f z) (hD:∀ r∈u.done,r.length=d/\∀ z∈r,Bt e z) (aH:u.done.length<=1024) (W:∀ z∈a,Bt e z) (hb:2*(e+f+7)+2*f+1<=8796093022208) (a2:u.lines.length<=1048576) (aJ:u.rays.length<=1099000000000) (aj:(Lin.addU a eq u).rays.length<=1099000000000) :
  Ans tab (.fn dg [.ptr ub 0,va,.bool eq]) H fun v H'=>v=.tup []/\Kp H0 H'/\UnderV H0 H' ub (Lin.addU a eq u):=by
 have hw:=G.wf;have a3:=G.le;have oa:=ha.one;have V:=ha.mono G.sub;have aS:=hu;obtain ⟨ql,qr,qd,cl,ah,aQ,al,a4,s1,s2,s3⟩:=hu;have a9:=hw _ _ ah;refine ts C.q83 rfl rfl zU fun T hl g=>?_;have hl:T.length=48:=hl;have ao:c_P_cone_under_add.results=[]:=rfl;have o:ad T 0=.ptr ub 0:=g 0 (by simp);have s:ad T 1=va:=g 1 (by simp);have p:ad T 2=.bool eq:=g 2 (by simp);refine aG ?_;refine zW (bO hl o s p @am) ?_;refine aG ?_;refine zW (dx hl o s p @am ah) ?_;refine AnsH.eq (sj C (l:=u.lines) zF (aQ.sl.mono (zG H)) zO (fun r=>!decide (Lin.dot a r=0)) (fun r hr H' w Z aT=>GE C Z.wf aT (Z.get (cy)) (V.mono (Kp.sub (H:=H) (Kp.trans zK Z))) (by rw [X]; exact (hL r hr).1.symm) zO W (hL r hr).2 zO)) fun H2 aa=>?_;obtain ⟨k2,_,w2⟩:=zT H zK aa;have F:H2.get H.next=some (.cells [va] af true):=aa.get (cy)
 have ay:=k2.get ah;have n2:H.next+8<=H2.next:=aa.le
 have aD:Kp H0 H2:=G.trans k2;have a8:=aD.le;have av:UnderV H0 H2 ub u:=aS.mono k2.sub;refine zW (bO hl o s p @am) ?_;refine bP (fun T' H'=>Kp H0 H'/\UnderV H0 H' ub ⟨(Lin.addU a eq u).lines,(Lin.addU a eq u).rays,u.done⟩/\H'.get H.next=some (.cells [va] af true)) rfl ?_ ?_
 ·rcases IB (fun r=>!decide (Lin.dot a r=0)) u.lines with ⟨aM,B⟩ | ⟨i,hi,B⟩
  ·have hcl:(Lin.cutL u.done a eq u.rays).length<=1099000000000:=by
    have e:Lin.addU a eq u=⟨u.lines,Lin.cutL u.done a eq u.rays,u.done++if eq then [] else [a]⟩:=by unfold Lin.addU; rw [B]
    rw [e] at aj;exact aj
   refine zW (dx hl o s p aM F) ?_;refine AnsH.use (OT C (u:=u) (H0:=H0) zK ax (av.mono (Sub.bump H2 _)) (V.mono (zG H)) aL hd X hR hD aH W hb aJ hcl) ?_;rintro v c ⟨rfl,I,K,ae⟩;refine zW (aw hl @aC) ?_;refine ⟨zK,?_,ae _ _ F zO⟩;have e:Lin.addU a eq u=⟨u.lines,Lin.cutL u.done a eq u.rays,u.done++if eq then [] else [a]⟩:=by unfold Lin.addU; rw [B]
   rw [e];exact K
  ·obtain ⟨ai,-,-⟩:=V7.1 B;have aN:¬ ((i:Int)<0):=zO;have gi:u.lines.getD i []=u.lines[i]:=by simp [ai]
   refine zW (fE hl o s p hi aN F) ?_;refine AnsH.use (Ml C (u:=u) (H0:=H0) (aD.up _) ax (av.mono (Sub.bump H2 _)) (V.mono (Kp.sub (k2.up _))) ai hd X hL hR W hb zO zO) ?_;rintro v c ⟨I,aq,K,ae,aP⟩;have O:=I.wf;have a7:=I.le;have ba:=aq.one;have Y:c.get H.next=some (.cells [va] af true):=ae _ _ F zO fun q1 q2 q3 h=>by
    have h':H2.get ub=some (.cells [q1,q2,q3] aU true):=h;rw [ay] at h';cases h';intro hq
    have:=al.old hw hq
    omega
   have e:Lin.addU a eq u=⟨(u.lines.eraseIdx i).map (Lin.foldV a (Lin.upV a u.lines[i])),u.rays.map (Lin.foldV a (Lin.upV a u.lines[i]))++(if eq then [] else [Lin.upV a u.lines[i]]),u.done++if eq then [] else [a]⟩:=by
    unfold Lin.addU; rw [B]; simp only [gi]
   rw [e];cases eq with
   | true =>
    refine zW (bO hl o s p @aC) ?_;refine ⟨zK,?_,Y⟩
    try simp only [if_true,WH]
    exact K.mono (Sub.bump c 2)
   | false =>
    obtain ⟨L,aO⟩:=aP ql qr qd ay;obtain ⟨y,A,M,R,q,D,n,t,t1,N,t3⟩:=K;have aA:c.get ub=some (.cells [y,A,M] aU true):=q;rw [aO] at aA;cases aA;have aV:=O _ _ q;have a6:=O _ _ Y;have n:Wr H0 c qr (u.rays.map (Lin.foldV a (Lin.upV a u.lines[i]))) (u.rays.map (Lin.foldV a (Lin.upV a u.lines[i]))).length:=n;have a5:(u.rays.map (Lin.foldV a (Lin.upV a u.lines[i]))).length=u.rays.length:=by simp
    obtain ⟨b,P,S,Q,E,aX,f6,u6⟩:=Bl.push1 (ty2:=af) (bytes:=24) (id:=c.next+9) (id2:=c.next+8) (k:=13) (cs:=[v]) (a:=Lin.upV a u.lines[i]) n.bl zU I ⟨v,rfl,aq⟩ zO zO zO zO zO zO zO;have U:cC ((c.up 13).put (c.next+8) (.cells [v] af true)) (c.next+9) 1 24 af qr (.own (c.next+8) 0 1 1 1 true)=some (.own (c.next+9) 0 b b 1 false,P):=S;have m:=f6.other n.bl q (fun cs h=>by injection h with _ h2; exact absurd h2 zU);have aW:=E.wf _ _ m;have w6:=E.wf;have ag:Fs (some (.cells [L,qr,qd] aU true)) 1 1 (.own (c.next+9) 0 b b 1 false)=some (.cells [L,.own (c.next+9) 0 b b 1 false,qd] aU true):=jF (bC _ _ _ _ _ _).fits (by simp);refine zW (jB hl o s p q U m ag @aC) ?_;refine ⟨zK,⟨L,.own (c.next+9) 0 b b 1 false,qd,R,ap _ _ _,(f6.wr n.bl D t1.symm).putT m zU zU,?_,(f6.wr n.bl t t3).putT m zU zU,fun x hx hy=>?_,N,fun x hx hy=>?_⟩,?_⟩
    ·simp only [Wb,if_false];exact Q.wr.putT (e:=.cells [L,.own (c.next+9) 0 b b 1 false,qd] aU true) m zU zU
    ·cases hy
     have:=D.old O hx
     omega
    ·cases hx
     have:=t.old O hy
     omega
    ·try rw [aB zO]
     refine f6 _ _ Y fun h=>?_
     have:=al.old hw h
     omega
 ·rintro T1 j J ⟨k1,ar,aK⟩;have w1:=k1.wf;have t0:ad T1 0=.ptr ub 0:=(J.at_ 0 zU).trans (zV (aw hl o));have N:ad T1 2=.bool eq:=(J.at_ 2 zU).trans (zV (aw hl p));have t4:ad T1 4=.ptr H.next 0:=(J.at_ 4 zU).trans (zV hl)
  have ab:T1.length=48:=J.len.trans (by simp only [U4]; exact hl);have e:Lin.addU a eq u=⟨(Lin.addU a eq u).lines,(Lin.addU a eq u).rays,u.done++if eq then [] else [a]⟩:=by
   unfold Lin.addU; split <;> rfl
  rw [e];refine WC.wb ?_;cases eq with
  | true =>
   refine zW (aE ab N ao) ?_;refine ⟨zK,?_⟩
   try simp only [if_true,WH]
   exact ar.mono (Sub.bump j 2)
  | false =>
   obtain ⟨y,A,M,R,q,D,n,t,aY,a0,a1⟩:=ar;have aV:=w1 _ _ q;obtain ⟨b,P,S,Q,E,aX,f6,u6⟩:=Bl.push1 (ty2:=af) (bytes:=24) (id:=j.next+9) (id2:=j.next+8) (k:=13) (cs:=[va]) (a:=a) t.bl zU k1 ⟨va,rfl,ha.mono k1.sub⟩ zO zO zO zO zO (by simp only; omega) (by simp only; omega);have U:cC ((j.up 13).put (j.next+8) (.cells [va] af true)) (j.next+9) 1 24 af M (.own (j.next+8) 0 1 1 1 true)=some (.own (j.next+9) 0 b b 1 false,P):=S;have m:=f6.other t.bl q (fun cs h=>by injection h with _ h2; exact absurd h2 zU);have aW:=E.wf _ _ m;have w6:=E.wf;refine zW (aw ab N) ?_;refine aF ?_;have ag:Fs (some (.cells [y,A,M] aU true)) 1 2 (.own (j.next+9) 0 b b 1 false)=some (.cells [y,A,.own (j.next+9) 0 b b 1 false] aU true):=jF (bC _ _ _ _ _ _).fits (Vc 3);refine zD (np ab t0 t4 q aK U m ag @aR ao) ?_;refine ⟨zK,⟨y,A,.own (j.next+9) 0 b b 1 false,R,ap _ _ _,(f6.wr t.bl D a0.symm).putT m zU zU,(f6.wr t.bl n a1.symm).putT m zU zU,?_,aY,fun x hx hy=>?_,fun x hx hy=>?_⟩⟩
   ·simp only [Wb,if_false];exact Q.wr.putT (e:=.cells [y,A,.own (j.next+9) 0 b b 1 false] aU true) m zU zU
   ·cases hy
    have:=D.old w1 hx
    omega
   ·cases hy
    have:=n.old w1 hx
    omega
def OU (C:Code tab) (hw:Wf H) {d:Nat} (hd:d<=64):Ans tab (.fn uE [.int .i64 (d:Int)]) H fun v H'=>Bl rowsE af H H' v (Lin.startU d).lines/\Kp H H':=by
 refine cY C.q82 zU fun T hl q=>?_;refine zW (aw hl q) ?_;refine aq H [2] (fun j vs H'=>∃ o,vs=[o]/\Bl rowsE af H H' o ((List.range j).map (Lin.unitV d))) (a:=0) (N:=d) rfl (by refine zW (aw hl q) ?_; rfl) (zV (aw hl q)) (Vk _) zO (by simp only [U4,hl]; rfl) rfl (fun j vs H' m ⟨o,h1,h2⟩=>⟨o,h1,h2.mono (Sub.bump H' m)⟩) zK ⟨.nilSl,by exact zV (aw hl q),Bl.nil⟩ ?_ ?_
 ·rintro j T1 f _ hj l Q I h ⟨o,s,x⟩;have w1:=h.wf;have W:=h.le;have ab:=h.le;simp only [Vb,Vf,Vd,and_true] at s;have t0:ad T1 0=.int .i64 (d:Int):=(I.at_ 0 zU).trans (zV (aw hl q));simp only [U4,hl] at l;obtain ⟨cells,u⟩:∃ cells,cells=(List.replicate d [AV.bool false,AV.nilSl]).flatten:=⟨_,rfl⟩
  have R:∀ H':Heap,Io H' (f.next+3) aa 2 32 [.bool false,.nilSl] (.int .i64 (d:Int)) (.int .i64 (d:Int))=some (.own (f.next+3) 0 d d 2 true,H'.put (f.next+3) (.cells cells aa true)):=fun H'=>by rw [u]; exact jg _ _ _ _ _ _ _ _ _ zO zO rfl
  refine zW (aW l t0 Q R) ?_;refine AnsH.use (oN C (n:=1) zF zO zO) ?_;rintro v H2 ⟨⟨w,rfl,hn⟩,F⟩;obtain ⟨k2,_,Y⟩:=zT f zK F;have X:=hn.one;have t:=F.get (b:=f.next+3) (e:=.cells cells aa true) (cy);have ag:=Y _ _ t;have Z:cells.length=d*2:=by rw [u]; simp
  have y:Fs (some (.cells cells aa true)) 2 (0+j*2) (.agg [.bool false,w])=some (.cells (cells.take (0+j*2)++[.bool false,w]++cells.drop (0+j*2+2)) aa true):=jF (Gn (aI _) X) zO;have D:cd 2 (.own (f.next+3) 0 d d 2 true) (.int .i64 (j:Int))=some (.ptr (f.next+3) (0+j*2)):=nK hj;rw [VN] at y D;obtain ⟨p,B⟩:∃ c,c=cells.take (j*2)++[.bool false,w]++cells.drop (j*2+2):=⟨_,rfl⟩
  rw [<- B] at y;have S:intE.R H2 [.bool false,.nilSl] 0:=⟨.nilSl,by simp,dM H2⟩
  have hcl:Cells intE H2 cells (List.replicate d 0):=by rw [u]; exact sC S _
  have O:Cells intE H2 p ((List.replicate d 0).set j 1):=by rw [B]; exact hcl.set (i:=j) (by simpa using hj) ⟨w,rfl,hn⟩
  have m3:NoTy [ae] H2 (f.next+3):=NoTy.ty t zU;obtain ⟨g,r⟩:∃ g,g=H2.put (f.next+3) (.cells p aa true):=⟨_,rfl⟩
  have J:Kp f g:=by rw [r]; exact zK
  have U:Kp H g:=h.trans J;have nx:g.next=H2.next:=by rw [r]; rfl
  have P:Cells intE g p ((List.replicate d 0).set j 1):=by rw [r]; exact Cells.mono (E:=intE) zS O
  have G:RowV g (.own (f.next+3) 0 d d 2 true) (Lin.unitV d j):=by
   have:Own intE aa f g (f.next+3) true (.own (f.next+3) 0 d d 2 true) ((List.replicate d 0).set j 1):=⟨p,by simp [intE],by rw [r]; exact ap _ _ _,P,zO⟩
   exact this.sl
  have ai:=G.one;obtain ⟨K,L,A,z,V,ah,f6,u6⟩:=Bl.push1 (ty2:=af) (bytes:=24) (id:=g.next+3) (id2:=g.next+2) (k:=5) (cs:=[.own (f.next+3) 0 d d 2 true]) (a:=Lin.unitV d j) (x.mono J.sub) zU U ⟨_,rfl,G⟩ zO zO zO zO zO (by simp; omega) (by simp; omega);have M:cC ((((H2.up 5).put (f.next+3) (.cells p aa true))).put (H2.next+2) (.cells [.own (f.next+3) 0 d d 2 true] af true)) (H2.next+3) 1 24 af o (.own (H2.next+2) 0 1 1 1 true)=some (.own (H2.next+3) 0 K K 1 false,L):=by rw [r] at A; exact A
  rw [nx] at z;refine zW (dx l D t y s M) ?_;refine ⟨V,_,rfl,?_⟩;rw [Y2,V9];exact z
 ·rintro T1 f l I h ⟨o,s,x⟩;have w1:=h.wf;have W:=h.le;simp only [Vb,Vf,Vd,and_true] at s;simp only [U4,hl] at l;refine zW (aw l s) ?_;exact ⟨x,h⟩
abbrev U0 (H:Heap) (v:AV) (Ls:List (List (List Int))):Prop:=y8 (tx rowsE af) DL H v Ls
def Mk (C:Code tab) (D:Wf H) {Ls:List (List (List Int))} {d:Nat} (hs:U0 H s Ls) (B:Ls.length<1099511627776) (hd:∀ L∈Ls,∀ r∈L,r.length=d):Ans tab (.fn rz [s]) H fun v H'=>v=.int .i64 (if Ls.any (fun L=>!L.isEmpty) then (d:Int) else -1)/\Kp H H':=by
 refine cY C.q81 zU fun T hl c=>?_;refine zW (aE hl c hs.lenV) ?_;refine aq H [] (fun j _ _=>∀ k (h:k<Ls.length),k<j->Ls[k]=[]) (a:=0) (N:=Ls.length) rfl (by refine zW (aw hl c) ?_; rfl) (zV (aw hl c)) (Vk _) zO (by simp only [U4,hl]; rfl) rfl (fun _ _ _ _ h=>h) zK (fun k _ h=>by omega) ?_ ?_
 ·intro j T1 m _ hj b n q f g;have w1:=f.wf;have E:=f.le;have t5:ad T1 5=s:=(q.at_ 5 zU).trans (zV (aw hl c));obtain ⟨w,hr,p⟩:=SlV.at1 (hs.mono f.sub) (U7 hj);have hr:eF m w Ls[j]:=hr;have o:=SlV.idx1 hs .i64 j hj;simp only [U4,hl] at b;rcases WY (Ls[j]).length with h0 | h0
  ·have he:=Wd.1 h0;have x:lenV w=some (.int .i64 0):=by rw [hr.lenV,h0]; rfl
   refine zW (dx b t5 n o p x) ?_;refine ⟨zK,fun k h i=>?_⟩;by_cases e:k=j
   ·subst e; exact he
   ·exact g k h zO
  ·obtain ⟨w0,z,u⟩:=dI hr h0;have t:cd 1 w (.int .i64 0)=some (aA w 0):=SlV.idx1 hr .i64 0 h0;have A:lenV w0=some (.int .i64 (d:Int)):=by rw [z.lenV,hd _ (U9 hj) _ (U9 h0)]
   have y:(0:Int)<((Ls[j]).length:Int):=zO;refine zW (lP b t5 n o p hr.lenV y h0 t u A) ?_;refine ⟨?_,zK⟩;rw [if_pos];rw [VQ];exact ⟨_,U9 hj,by cases h:Ls[j] with | nil=>rw [h] at h0; simp at h0 | cons a l=>rfl⟩
 ·intro T1 m b q f g;simp only [U4,hl] at b;refine zW b ?_;refine ⟨?_,zK⟩;rw [if_neg];rw [YS,Ww];intro L hL;obtain ⟨k,i,rfl⟩:=Wm hL;rw [g k i i]; simp
def il (A B:List (List (Bool × List Nat))):Int :=
 if cO A≠0 then cO A else if cO B≠0 then cO B else if A≠[]/\B≠[]/\(A.getD 0 []).length≠(B.getD 0 []).length then 70 else 0
def EM (C:Code tab) (Y:Wf H) {va c:AV} {A B:List (List (Bool × List Nat))} (ha:Pk H va A) (hb:Pk H c B) (hA:A.length<1099511627776) (W:B.length<1099511627776) (J:∀ r∈A,qG r) (bb:∀ r∈B,qG r) :
  Ans tab (.fn nd [va,c]) H fun v H'=>v=.int .i64 (il A B)/\Kp H H':=by
 have oa:=ha.one;have ob:=hb.one;refine ts C.q80 rfl rfl zU fun T hl g=>?_;have hl:T.length=39:=hl;have d:c_cone_checked.results=[(4,none)]:=rfl;have j:ad T 0=va:=g 0 (by simp);have l:ad T 1=c:=g 1 (by simp);refine aG ?_;refine zW (aW hl j l @am) ?_;refine bP (fun T' H'=>cO A=0/\cO B=0/\Kp H H') rfl ?_ ?_
 ·refine zW (aE hl j l) ?_;refine aP H [11] (fun k vs H'=>∃ i:Nat,vs=[.int .i64 (i:Int)]/\i+k=2/\(1<=i->cO A=0)/\(2<=i->cO B=0)) 2 (by simp only [U4]; exact hl) rfl zK ⟨0,by refine zW hl ?_; rfl,rfl,zO,zO⟩ ?_;rintro k T1 I b f w ⟨i,a,X,u,P⟩;have w1:=w.wf;have Z:=w.le;simp only [Vb,Vf,Vd,and_true] at a;have q:ad T1 10=.agg [va,c]:=(f.at_ 10 zU).trans (zV (aE hl j l))
  have:i=0\/i=1\/i=2:=zO
  rcases this with rfl | rfl | rfl
  ·have a:ad T1 11=.int .i64 0:=a;refine zW (aE b a q) ?_;refine AnsH.eq (uq C zF (ha.mono (zG H)) zO J) fun H2 o=>?_;obtain ⟨k2,_,V⟩:=zT H zK o;by_cases h:cO A=0
   ·refine zW (aE b a h) ?_;exact ⟨zK,1,zO,1,rfl,rfl,(by first | exact fun _=>h | exact fun _=>trivial),zO⟩
   ·refine zW (bO b a h @bF d) ?_;exact ⟨by unfold il; rw [if_pos h],zK⟩
  ·have a:ad T1 11=.int .i64 1:=a;refine zW (aE b a q) ?_;refine AnsH.eq (uq C zF (hb.mono (zG H)) zO bb) fun H2 o=>?_;obtain ⟨k2,_,V⟩:=zT H zK o;have hA0:=u zO;by_cases h:cO B=0
   ·refine zW (aE b a h) ?_;exact ⟨zK,0,zO,2,rfl,rfl,(by first | exact fun _=>hA0 | exact fun _=>trivial),(by first | exact fun _=>h | exact fun _=>trivial)⟩
   ·refine zW (bO b a h @bF d) ?_;refine ⟨?_,zK⟩;unfold il;rw [if_neg (by simpa using hA0),if_pos h]
  ·have a:ad T1 11=.int .i64 2:=a;refine zW (aW b a q @aC) ?_;exact ⟨u zO,P zO,zK⟩
 ·rintro T1 I f ⟨K,L,k1⟩;have w1:=k1.wf;have t0:ad T1 0=va:=(f.at_ 0 zU).trans (zV (aw hl j));have t1:ad T1 1=c:=(f.at_ 1 zU).trans (zV (aw hl l));have b:T1.length=39:=f.len.trans (by simp only [U4]; exact hl);have m:il A B=if A≠[]/\B≠[]/\(A.getD 0 []).length≠(B.getD 0 []).length then 70 else 0:=by
   unfold il;rw [if_neg (by simpa using K),if_neg (by simpa using L)]
  refine WC.wb ?_;refine zW (aE b t0 t1) ?_;rcases WY A.length with a0 | a0
  ·have Q:lenV va=some (.int .i64 0):=by rw [ha.lenV,a0]; rfl
   have hA0:=Wd.1 a0;refine aF ?_;refine zD (dx b t0 t1 Q d @aR) ?_;exact ⟨by rw [m,if_neg (fun h=>h.1 hA0)],zK⟩
  ·have p:(0:Int)<(A.length:Int):=zO;have M:A≠[]:=fun e=>by rw [e] at a0; simp at a0
   rcases WY B.length with b0 | b0
   ·have R:lenV c=some (.int .i64 0):=by rw [hb.lenV,b0]; rfl
    have N:=Wd.1 b0;refine aF ?_;refine zD (jB b t0 t1 ha.lenV p a0 R d @aR) ?_;exact ⟨by rw [m,if_neg (fun h=>h.2.1 N)],zK⟩
   ·have E:(0:Int)<(B.length:Int):=zO;have O:B≠[]:=fun e=>by rw [e] at b0; simp at b0
    obtain ⟨wa,S,x⟩:=Az (ha.mono k1.sub) a0;obtain ⟨wb,U,y⟩:=Az (hb.mono k1.sub) b0;have F:cd 1 va (.int .i64 0)=some (aA va 0):=SlV.idx1 ha .i64 0 a0;have G:cd 1 c (.int .i64 0)=some (aA c 0):=SlV.idx1 hb .i64 0 b0;have z:=S.lenV;have D:=U.lenV;have s:A.getD 0 []=A[0]:=by simp [a0]
    have t:B.getD 0 []=B[0]:=by simp [b0]
    by_cases he:A[0].length=B[0].length
    ·have n:((A[0].length:Nat):Int)=((B[0].length:Nat):Int):=zO;refine aF ?_;refine zD (RD b t0 t1 ha.lenV hb.lenV p a0 E @b0 F G x y z D n he d @aR) ?_;exact ⟨by rw [m,s,t,if_neg (fun h=>h.2.2 he)],zK⟩
    ·have n:¬ ((A[0].length:Nat):Int)=((B[0].length:Nat):Int):=zO;refine aF ?_;refine zD (RD b t0 t1 ha.lenV hb.lenV p a0 E @b0 F G x y z D n he d @aR) ?_;exact ⟨by rw [m,s,t,if_pos ⟨M,O,he⟩],zK⟩
end
end Go.Proofs.YteaefaohjlmjdaaGreat.Ev
namespace Go.Proofs.YteaefaohjlmjdaaGreat.Lin
def Dh:∀ (n:Nat) (l:List (List Bool)),l.Nodup->(∀ b∈l,b.length=n)->l.length<=2^n
 | 0,[],_,_=>by simp
 | 0,[a],_,_=>by simp
 | 0,a :: b :: l,hn,h=>by
  have ha:=Wd.1 (h a (by simp));have hb:=Wd.1 (h b (by simp));subst ha; subst hb;simp at hn
 | n+1,l,hn,h=>by
  have part:∀ v:Bool,((l.filter fun b=>b.head? == some v).map List.tail).length<=2^n:=fun v=>by
   refine Dh n _ ?_ fun b hb=>?_
   ·refine Wz.2 (XV (fun {x y} hx hy hne e=>hne ?_) (Yl _ hn));have hx:=(Vv.1 hx).2;have hy:=(Vv.1 hy).2;cases x with
    | nil=>simp at hx
    | cons a x =>
     cases y with
     | nil=>simp at hy
     | cons b y =>
      simp at hx hy e;rw [hx,hy,e]
   ·obtain ⟨c,hc,rfl⟩:=Va.1 hb
    have:=h c (Vv.1 hc).1
    simp [this]
  have h1:=part true;have h2:=part false;rw [Vh] at h1 h2;have h3:l.length=(l.filter fun b=>b.head? == some true).length+(l.filter fun b=>b.head? == some false).length:=by
   rw [<- XF,<- XF,YI (p:=fun b:List Bool=>b.head? == some true)];congr 1;refine List.countP_congr fun b hb=>?_
   have:=h b hb
   cases b with
   | nil=>simp at this
   | cons a b=>cases a <;> simp
  rw [VG]; omega
def DD.count {d:Nat} {E L:V->Prop} {a R:List V} (h:DD d E (· ∈ a) L R):R.length<=2^a.length:=by
 have hn:(R.map fun r=>a.map fun i=>decide (dot i r=0)).Nodup:=by
  refine Wz.2 (h.apart.imp fun hne e=>hne fun i hi=>?_)
  have:=List.map_inj_left.1 e i hi
  simpa using this
 have:=Dh a.length _ hn fun b hb=>by obtain ⟨r,-,rfl⟩:=Va.1 hb; simp
 simpa using this
def gensU_done {d:Nat} {c b:List V} (h1:∀ a∈c,a.length=d) (h2:∀ a∈b,a.length=d):(gensU d c b).done=b:=by
 obtain ⟨e,f⟩:=zu c (startU d) _ oR h1;obtain ⟨h,g⟩:=xR b _ e h2;exact g.trans (by rw [f]; simp [startU])
def Bi {d:Nat} (eq:Bool):∀ (l:List V) (u:Under) (E:V->Prop) (ps:List (Nat × V)),DD d E (· ∈ u.done) (· ∈ u.lines) u.rays->Ry d ps u->(∀ a∈l,a.length=d)->∃ c,Ry d c (l.foldl (fun u a=>addU a eq u) u)
 | [],u,E,ps,_,h,_=>⟨ps,h⟩
 | a :: l,u,E,ps,e,h,hl=>by
  obtain ⟨c,h'⟩:=QV (a:=a) e h eq;exact Bi eq l (addU a eq u) _ c (Jb e (hl a (Vm ..)) eq) h' fun b hb=>hl b (Vi _ hb)
def LQ {d:Nat} {b c:List V} (h1:∀ a∈b,a.length=d) (h2:∀ a∈c,a.length=d):∃ ps,Ry d ps (gensU d b c):=by
 obtain ⟨e,-⟩:=zu b (startU d) _ oR h1;obtain ⟨ps,hp⟩:=Bi true b (startU d) _ _ oR (Mf d) h1;exact Bi false c _ _ ps e hp h2
def MA (a:V) (eq:Bool) (u:Under):(addU a eq u).lines.length<=u.lines.length:=by
 unfold addU;split
 ·exact Vc _
 ·simp only [Vh];exact List.length_eraseIdx_le ..
def uQ (eq:Bool):∀ (l:List V) (u:Under),(l.foldl (fun u a=>addU a eq u) u).lines.length<=u.lines.length
 | [],u=>Vc _
 | a :: l,u=>Vn (uQ eq l (addU a eq u)) (MA a eq u)
def gensU_lines (d:Nat) (a b:List V):(gensU d a b).lines.length<=d:=by
 refine Vn (uQ false b _) (Vn (uQ true a _) ?_);simp [startU]
def gens_mid {d M:Nat} (hd:0<d) (k:0<M) {b c:List V} (h1:∀ a∈b,a.length=d/\Bd M a) (h2:∀ a∈c,a.length=d/\Bd M a) :
  (∀ l∈(gensU d b c).lines,l.length=d/\Bd ((2*d*M)^2^d) l)/\(∀ r∈(gensU d b c).rays,r.length=d/\Bd ((2*d*M)^2^d) r)/\(gensU d b c).rays.length<=2^c.length:=by
 have f:∀ a∈b,a.length=d:=fun a ha=>(h1 a ha).1;have g:∀ a∈c,a.length=d:=fun a ha=>(h2 a ha).1;have e:=gensU_dd f g;obtain ⟨ps,hp⟩:=LQ f g;have h:=gensU_done f g;obtain ⟨i,j⟩:=OM (Es:=b) hd k (by rw [h]; exact e) hp h1 (by rw [h]; exact h2);exact ⟨fun l hl=>⟨e.lenL l hl,i l hl⟩,fun r hr=>⟨e.lenR r hr,j r hr⟩,e.count⟩
def Ny {d:Nat} {E I:V->Prop} {L R b:List V} (h:Ci d E I L R):Ry d (L.map fun l=>(pv l,l)) ⟨L,R,b⟩:=by
 refine ⟨by simp [Xo,Function.comp_def],fun q a=>?_,fun q a=>?_,?_,fun r hr q a=>?_,h.form.cont,h.cont⟩
 ·obtain ⟨l,hl,rfl⟩:=Va.1 a;exact (h.form.pos hl).2.2
 ·obtain ⟨l,hl,rfl⟩:=Va.1 a
  have:=(h.form.pos hl).2.1
  simp only;omega
 ·exact Wz.2 h.form.clear
 ·obtain ⟨l,hl,rfl⟩:=Va.1 a;exact h.rest r hr l hl
def told_bd {d M:Nat} (hd:0<d) (e:0<M) {c b L R:List V} (h:Ci d (· ∈ c) (· ∈ b) L R) (h1:∀ a∈c,a.length=d/\Bd M a) (h2:∀ a∈b,a.length=d/\Bd M a) :
  (∀ l∈L,Bd ((2*d*M)^2^d) l)/\(∀ r∈R,Bd ((2*d*M)^2^d) r) :=
 OM (u:=⟨L,R,b⟩) hd e h.dd (Ny h) h1 h2
def pow_bd {d m:Nat} (hd:d<=6):(2*d*2^m)^2^d<=2^(64*(m+4)):=by
 have h1:2*d*2^m<=2^(m+4):=by
  rw [V4,Vw (2^m)];exact Vj _ zO
 have h2:2^d<=2^6:=VI (by decide) hd;have h3:2^d*(m+4)<=64*(m+4):=Vj _ h2
 calc (2*d*2^m)^2^d<=(2^(m+4))^2^d:=Xf h1 _
  _=2^((m+4)*2^d):=(Xl ..).symm
  _<=2^(64*(m+4)):=VI (by decide) (by rw [Vw]; exact h3)
def L9 {d:Nat} {E I:V->Prop} {L R A B:List V} (c:∀ e,E e->e.length=d) (f:∀ i,I i->i.length=d) (h:DD d E I (· ∈ L) R) (h':DD d (· ∈ L) (· ∈ R) (· ∈ A) B):∀ x,Keep d E I x ↔ Keep d (· ∈ A) (· ∈ B) x:=by
 intro x;constructor
 ·intro hx;have hc:=h.all x hx;refine ⟨hx.len,fun a ha=>hc.dot_zero h.lenL h.lenR (fun l hl=>?_) (fun r hr=>?_),fun b hb=>hc.dot_nonneg h.lenL h.lenR (fun l hl=>?_) (fun r hr=>?_)⟩
  ·rw [dot_comm]; exact h'.lineE a ha l hl
  ·rw [dot_comm]; exact h'.lineI a ha r hr
  ·rw [dot_comm]; exact (h'.keep b hb).eq l hl
  ·rw [dot_comm]; exact (h'.keep b hb).ge r hr
 ·intro hx;have key:∀ y,Keep d (· ∈ L) (· ∈ R) y->0<=dot x y:=fun y hy=>(h'.all y hy).dot_nonneg h'.lenL h'.lenR (fun l hl=>by rw [dot_comm]; exact hx.eq l hl) (fun r hr=>by rw [dot_comm]; exact hx.ge r hr);refine ⟨hx.len,fun e he=>?_,fun i hi=>?_⟩
  ·have k1:=key e ⟨c e he,fun l hl=>by rw [dot_comm]; exact h.lineE l hl e he,fun r hr=>by rw [dot_comm,(h.keep r hr).eq e he]; exact Yy _⟩;have k2:=key (scl (-1) e) ⟨ah (c e he),fun l hl=>by rw [dot_scl,dot_comm,h.lineE l hl e he]; rfl,fun r hr=>by rw [dot_scl,dot_comm,(h.keep r hr).eq e he]; exact Yy _⟩;rw [dot_scl] at k2;rw [dot_comm]; omega
  ·rw [dot_comm];exact key i ⟨f i hi,fun l hl=>by rw [dot_comm]; exact h.lineI l hl i hi,fun r hr=>by rw [dot_comm]; exact (h.keep r hr).ge i hi⟩
def LU {d:Nat} {b c:List V} (h1:∀ a∈b,a.length=d) (h2:∀ a∈c,a.length=d):∀ l∈gensL d b c,l.length=d:=(gens_told h1 h2).dd.lenL
def LS {d:Nat} {b c:List V} (h1:∀ a∈b,a.length=d) (h2:∀ a∈c,a.length=d):∀ r∈gensR d b c,r.length=d:=(gens_told h1 h2).dd.lenR
def told_nodup {d:Nat} {E I:V->Prop} {L R:List V} (h:Ci d E I L R):R.Nodup:=h.dd.apart.imp fun hne e=>hne fun i hi=>by rw [e]
def iT:List V->List V->List V
 | _,[]=>[]
 | F,a :: l=>match pivot (restF F a) with
  | none=>iT F l
  | some _=>a :: iT (putF F a) l
def insP_len (x:V) (p:Nat):∀ F:List V,(insP x p F).length=F.length+1
 | []=>rfl
 | r :: F=>by
  unfold insP;split
  ·rw [VP,insP_len x p F,VP]
  ·rfl
def wL:∀ (l F:List V),(iT F l).foldl putF F=l.foldl putF F/\(l.foldl putF F).length=F.length+(iT F l).length
 | [],F=>⟨rfl,rfl⟩
 | a :: l,F=>by
  unfold iT;cases h:pivot (restF F a) with
  | none =>
   have e:putF F a=F:=by unfold putF; rw [h]
   simp only [WT,e];exact wL l F
  | some p =>
   have e:(putF F a).length=F.length+1:=by unfold putF; rw [h]; simp only; rw [insP_len,Vh]
   obtain ⟨h1,h2⟩:=wL l (putF F a);simp only [WT,VP];exact ⟨h1,by rw [h2,e]; omega⟩
def qh:∀ (l F:List V),∀ x∈iT F l,x∈l
 | [],F,x,h=>by cases h
 | a :: l,F,x,h=>by
  unfold iT at h;split at h
  ·exact Vi _ (qh l F x h)
  ·rcases VF.1 h with rfl | h
   ·exact Vm ..
   ·exact Vi _ (qh l _ x h)
def Kj {d:Nat} {l:List V} (hl:∀ a∈l,a.length=d):(iT [] l).length<=d/\∀ x,Spn d (· ∈ iT [] l) x ↔ Spn d (· ∈ l) x:=by
 obtain ⟨h1,h2⟩:=wL l [];obtain ⟨h3,c⟩:=form_ech hl;obtain ⟨-,h5⟩:=form_ech (d:=d) (l:=iT [] l) fun a ha=>hl a (qh l [] a ha);have e:formF (iT [] l)=formF l:=h1;have f:=Ev.ech_len h3;have b:(formF l).length=([]:List V).length+(iT [] l).length:=h2;refine ⟨by simp at b; omega,fun x=>?_⟩;rw [<- h5 x,e,c x]
def CR {α:Type} [DecidableEq α] (M:Nat):∀ (A:List α) (l:List (List α)),(∀ b∈l,∃ a∈A,b.head? = some a)->(∀ a∈A,(l.filter fun b=>b.head? == some a).length<=M)->l.length<=A.length*M
 | [],l,h,_=>by
  cases l with
  | nil=>simp
  | cons b l=>obtain ⟨a,ha,_⟩:=h b (Vm ..); cases ha
 | a :: A,l,h,d=>by
  have h1:=d a (Vm ..);have h2:=CR M A (l.filter fun b=>!(b.head? == some a)) (fun b hb=>by
   obtain ⟨hb,hn⟩:=Vv.1 hb;obtain ⟨c,hc,e⟩:=h b hb;rcases VF.1 hc with rfl | hc
   ·simp [e] at hn
   ·exact ⟨c,hc,e⟩) fun c hc=>by
    refine Vn ?_ (d c (Vi _ hc));exact (List.Sublist.filter _ List.filter_sublist).length_le
  have h3:l.length=(l.filter fun b=>b.head? == some a).length+(l.filter fun b=>!(b.head? == some a)).length:=by
   rw [<- XF,<- XF,YI (p:=fun b:List α=>b.head? == some a)];congr 1;refine List.countP_congr fun b _=>?_
   simp
  rw [VP,WR];omega
def CM {α:Type} [DecidableEq α] (A:List α):∀ (k:Nat) (l:List (List α)),l.Nodup->(∀ b∈l,b.length=k/\∀ x∈b,x∈A)->l.length<=A.length^k
 | 0,[],_,_=>by simp
 | 0,[a],_,_=>by simp
 | 0,a :: b :: l,hn,h=>by
  have ha:=Wd.1 (h a (by simp)).1;have hb:=Wd.1 (h b (by simp)).1;subst ha; subst hb;simp at hn
 | k+1,l,hn,h=>by
  have:=CR (A.length^k) A l (fun b hb=>by
   obtain ⟨h1,h2⟩:=h b hb;cases b with
   | nil=>simp at h1
   | cons x b=>exact ⟨x,h2 x (Vm ..),rfl⟩) fun v _=>by
    have:=CM A k ((l.filter fun b=>b.head? == some v).map List.tail) (by
     refine Wz.2 (XV (fun {x y} hx hy hne e=>hne ?_) (Yl _ hn));have hx:=(Vv.1 hx).2;have hy:=(Vv.1 hy).2;cases x with
     | nil=>simp at hx
     | cons a x =>
      cases y with
      | nil=>simp at hy
      | cons b y =>
       simp at hx hy e;rw [hx,hy,e]) fun b hb=>by
     obtain ⟨c,hc,rfl⟩:=Va.1 hb;obtain ⟨h1,h2⟩:=h c (Vv.1 hc).1;refine ⟨by simp [h1],fun x hx=>h2 x (List.mem_of_mem_tail hx)⟩
    rwa [Vh] at this
  rw [VG,Vw]; exact this
def OG:∀ x:V,0<=dot x x/\(dot x x=0->∀ y:V,dot y x=0)
 | []=>⟨by simp [dot],fun _ y=>by cases y <;> simp [dot]⟩
 | a :: x=>by
  obtain ⟨h1,h2⟩:=OG x;have h3:0<=a*a:=by
   rcases Int.le_total 0 a with h | h
   ·exact VW h h
   ·exact Int.mul_nonneg_of_nonpos_of_nonpos h h
  have e:dot (a :: x) (a :: x)=a*a+dot x x:=by simp [dot]
  rw [e];refine ⟨zO,fun h0 y=>?_⟩;have ha:a=0:=by
   have:a*a=0:=zO
   rcases VJ.1 this with h | h <;> exact h
  cases y with
  | nil=>simp [dot]
  | cons b y =>
   have:=h2 zO y
   simp [dot,ha] at this ⊢;exact this
def Pa {d:Nat} {l:List V} (hl:∀ a∈l,a.length=d) {r i:V} (hr:r.length=d) (g:∀ a∈l,dot a r=0) (hn:dot i r≠0):(iT [] l).length+1<=d:=by
 obtain ⟨h1,h2⟩:=form_ech hl;obtain ⟨h3,c⟩:=put_ech h1 hr;have b:(formF l).length=([]:List V).length+(iT [] l).length:=(wL l []).2;cases hp:pivot (restF (formF l) r) with
 | some p =>
  have e:(putF (formF l) r).length=(formF l).length+1:=by unfold putF; rw [hp]; simp only; rw [insP_len,Vh]
  have:=Ev.ech_len h3
  simp at b;omega
 | none =>
  exfalso
  have e:putF (formF l) r=formF l:=by unfold putF; rw [hp]
  have h5:Spn d (· ∈ l) r:=(h2 r).1 (by
   have:=(c r).2 (eO hr (.inr rfl))
   rw [e] at this;exact this)
  have f:=Con.dot_zero (a:=r) hl (fun r h=>h.elim) (fun a ha=>by rw [dot_comm]; exact g a ha) (fun r h=>h.elim) h5;exact hn ((OG r).2 f i)
def DD.count3 {d:Nat} {E L:V->Prop} {f R:List V} (h:DD d E (· ∈ f) L R) (n:∀ i∈f,i.length=d):R.length<=1\/R.length<=f.length^(d-1):=by
 obtain ⟨T,hT⟩:∃ T:V->List V,T=fun r=>f.filter fun i=>decide (dot i r=0):=⟨_,rfl⟩
 have g:∀ r i,i∈T r ↔ i∈f/\dot i r=0:=fun r i=>by rw [hT,Vv]; simp
 have j:∀ r,∀ i∈T r,i.length=d:=fun r i hi=>n i ((g r i).1 hi).1;by_cases he:∃ r∈R,iT [] (T r)=[]
 ·left
  obtain ⟨r,hr,hb⟩:=he;have o:∀ i,i∈f->dot i r=0->∀ y,dot i y=0:=fun i hi h0 y=>by
   have h1:Spn d (· ∈ iT [] (T r)) i:=((Kj (j r)).2 i).2 (eO (n i hi) ((g r i).2 ⟨hi,h0⟩));rw [dot_comm];exact Con.dot_zero (fun l hl=>j r l (qh _ _ l hl)) (fun r h=>h.elim) (fun l hl=>by rw [hb] at hl; cases hl) (fun r h=>h.elim) h1
  have m:∀ s∈R,∀ i,i∈f->(dot i s=0 ↔ dot i r=0):=fun s hs=>by
   obtain ⟨k,c,B,hc,A⟩:=h.ext r hr s (h.keep s hs) fun i hi h0=>o i hi h0 s;have w:=h.lenR s hs;have v:=h.lenR r hr;have q:∀ i,i∈f->k*dot i s=c*dot i r:=fun i hi=>by
    have:=Con.dot_zero (a:=i) h.lenL (fun r h=>h.elim) (fun l hl=>h.lineI l hl i hi) (fun r h=>h.elim) A
    rw [bo _ _ _ (w.trans v.symm),Zt] at this;omega
   have u:c≠0:=fun e=>by
    obtain ⟨i,hi,hn⟩:=h.off s hs
    have:=q i hi
    rw [e,ZH] at this;rcases VJ.1 this with h1 | h1
    ·omega
    ·exact hn h1
   intro i hi
   have:=q i hi
   constructor
   ·intro e;rw [e,ZI] at this;rcases VJ.1 this.symm with h1 | h1
    ·exact absurd h1 u
    ·exact h1
   ·intro e;rw [e,ZI] at this;rcases VJ.1 this with h1 | h1
    ·omega
    ·exact h1
  have ha:=h.apart
  match R,ha,m with
  | [],_,_=>simp
  | [x],_,_=>simp
  | x :: y :: R',ha,m =>
   exfalso
   have h1:=List.rel_of_pairwise_cons ha (Vm (a:=y) (l:=R'));exact h1 fun i hi=>(m x (by simp) i hi).trans (m y (by simp) i hi).symm
 ·right
  have hne:∀ r∈R,iT [] (T r)≠[]:=fun r hr e=>he ⟨r,hr,e⟩;have hd:∀ b:List V,b≠[]->b.headD []∈b:=fun b hb=>by
   cases b with
   | nil=>exact absurd rfl hb
   | cons a b=>exact Vm ..
  have hn:(R.map fun r=>iT [] (T r)++List.replicate (d-1-(iT [] (T r)).length) ((iT [] (T r)).headD [])).Nodup:=by
   have p:∀ r s:V,iT [] (T s)≠[]->iT [] (T r)++List.replicate (d-1-(iT [] (T r)).length) ((iT [] (T r)).headD [])=iT [] (T s)++List.replicate (d-1-(iT [] (T s)).length) ((iT [] (T s)).headD [])->∀ i,i∈f->dot i r=0->dot i s=0:=fun r s hs e i hi o=>by
    have h1:Spn d (· ∈ iT [] (T r)) i:=((Kj (j r)).2 i).2 (eO (n i hi) ((g r i).2 ⟨hi,o⟩));rw [dot_comm];refine Con.dot_zero (fun l hl=>j r l (qh _ _ l hl)) (fun r h=>h.elim) (fun l hl=>?_) (fun r h=>h.elim) h1;have h2:l∈iT [] (T s)++List.replicate (d-1-(iT [] (T s)).length) ((iT [] (T s)).headD []):=by rw [<- e]; exact Wg _ hl
    have h3:l∈iT [] (T s):=by
     rcases Vq.1 h2 with h2 | h2
     ·exact h2
     ·rw [XU h2]; exact hd _ hs
    rw [dot_comm]; exact ((g s l).1 (qh _ _ l h3)).2
   exact Wz.2 (h.apart.imp_of_mem fun {r s} hr hs t e=>t fun i hi=>⟨p _ _ (hne s hs) e i hi,p _ _ (hne r hr) e.symm i hi⟩)
  have:=CM f (d-1) _ hn fun b hb=>by
   obtain ⟨r,hr,rfl⟩:=Va.1 hb;obtain ⟨i,hi,z⟩:=h.off r hr;have h1:=Pa (j r) (h.lenR r hr) (fun a ha=>((g r a).1 ha).2) z;refine ⟨by rw [Vr,Xy]; omega,fun x hx=>?_⟩;have hm:x∈iT [] (T r):=by
    rcases Vq.1 hx with hx | hx
    ·exact hx
    ·rw [XU hx]; exact hd _ (hne r hr)
   exact ((g r x).1 (qh _ _ x hm)).1
  simpa using this
end Go.Proofs.YteaefaohjlmjdaaGreat.Lin
namespace Go.Proofs.YteaefaohjlmjdaaGreat.Ev
open Go Nn
def Gl (d:Nat) (E:List (List Int)) {j:Nat} (h:j<E.length):Lin.gensU d (E.take (j+1)) []=Lin.addU E[j] true (Lin.gensU d (E.take j) []):=by
 unfold Lin.gensU;rw [Ve h,Yj]; rfl
def Gk (d:Nat) (E I:List (List Int)) {j:Nat} (h:j<I.length):Lin.gensU d E (I.take (j+1))=Lin.addU I[j] false (Lin.gensU d E (I.take j)):=by
 unfold Lin.gensU;rw [Ve h,Yj]; rfl
def ir {m:Nat} {x:List Int} (h:Lin.Bd (2^m) x):∀ z∈x,Bt (m+1) z:=fun z a=>by
 have h1:=h.mem z a;have h2:0<2^m:=VY zU;unfold Bt;rw [VG];omega
def LW {d:Nat} {l:List (List Int)} (hl:∀ r∈l,r.length=d):Lin.formF (Lin.formF l)=Lin.formF l:=by
 have h:=Lin.form_ech hl;have h2:=Lin.form_ech h.1.len;exact h2.1.unique h.1 h2.2
structure Rv (d f:Nat) (u:Lin.Under) (I:List (List Int)):Prop where
 lines:∀ l∈u.lines,l.length=d/\∀ z∈l,Bt f z
 rays:∀ r∈u.rays,r.length=d/\∀ z∈r,Bt f z
 few:u.rays.length<=I.length^(d-1)+1
 some:u.lines.length<=d
 done:u.done=I
def SC {d m:Nat} (e:0<d) (hd:d<=6) {E I:List (List Int)} (h1:∀ a∈E,a.length=d/\Lin.Bd (2^m) a) (h2:∀ a∈I,a.length=d/\Lin.Bd (2^m) a):Rv d (64*(m+4)+1) (Lin.gensU d E I) I:=by
 obtain ⟨b,c,f⟩:=Lin.gens_mid e (VY (n:=m) (show 0<2 by decide)) h1 h2;exact ⟨fun l hl=>⟨(b l hl).1,ir ((b l hl).2.mono (Lin.pow_bd hd))⟩,fun l hl=>⟨(c l hl).1,ir ((c l hl).2.mono (Lin.pow_bd hd))⟩,by rcases (Lin.gensU_dd (fun a ha=>(h1 a ha).1) (fun a ha=>(h2 a ha).1)).count3 (fun a ha=>(h2 a ha).1) with h | h <;> omega,Lin.gensU_lines d E I,Lin.gensU_done (fun a ha=>(h1 a ha).1) (fun a ha=>(h2 a ha).1)⟩
def uZ {d m:Nat} (e:0<d) (hd:d<=6) {E I:List (List Int)} (h1:∀ a∈E,a.length=d/\Lin.Bd (2^m) a) (h2:∀ a∈I,a.length=d/\Lin.Bd (2^m) a) :
  (∀ l∈Lin.gensL d E I,l.length=d/\Lin.Bd (2^(64*(m+4))) l)/\∀ r∈Lin.gensR d E I,r.length=d/\Lin.Bd (2^(64*(m+4))) r:=by
 have t:=Lin.gens_told (fun a ha=>(h1 a ha).1) (fun a ha=>(h2 a ha).1);obtain ⟨b,c⟩:=Lin.told_bd e (VY (n:=m) (show 0<2 by decide)) t h1 h2;exact ⟨fun l hl=>⟨t.dd.lenL l hl,(b l hl).mono (Lin.pow_bd hd)⟩,fun l hl=>⟨t.dd.lenR l hl,(c l hl).mono (Lin.pow_bd hd)⟩⟩
def SO {e d:Nat} (hd:d<=6):ko e d<=1237*e+1957:=by
 refine Vn (uJ e hd) ?_;simp only [ko];omega
def I3 {d:Nat} {A B:List (List Int)} (h1:xT d A) (h2:xT d B) (hA:A.length<=1024) (f:B.length<=1024):il (A.map fun r=>r.map dU) (B.map fun r=>r.map dU)=0:=by
 have code:∀ {L:List (List Int)},xT d L->L.length<=1024->cO (L.map fun r=>r.map dU)=0:=fun {L} c hL=>by
  refine wV (by rw [Vh]; exact hL) (fun k e=>?_) fun k e=>?_
  ·rw [Vh] at e;have hm:=U9 e;simp only [X8];unfold xN;rw [D6 (by rw [c.len _ hm]; exact c.le),decide_eq_false (by rw [Vh,c.len _ hm]; have:=c.pos; omega)];rfl
  ·rw [Vh] at e;simp only [X8,Vh];rw [c.len _ (U9 e),c.len _ (U9 zO)]
 unfold il;rw [code h1 hA,code h2 f];simp only [ne_eq,not_true_eq_false,if_false];rw [if_neg];rintro ⟨ha,hb,hne⟩
 apply hne
 cases A with
 | nil=>simp at ha
 | cons a A =>
  cases B with
  | nil=>simp at hb
  | cons b B=>simp [h1.len a (by simp),h2.len b (by simp)]
def QX {a:AV} (ha:One a):fm [.nilSl,.nilSl,.nilSl] [((0,1),a)]=some (.agg [a,.nilSl,.nilSl]):=by
 simp [fm,cZ,ha.1,ha.2]
section
variable {tab:Nat->Option az} {H:Heap} {s:AV}
def EN (C:Code tab) (h:Wf H) {a b:AV} {x y:List Int} (ha:RowV H a x) (hb:RowV H b y) (g:x.length=y.length) (e:x.length<=64) (hx:∀ z∈x,fq z) (hy:∀ z∈y,fq z) :
  Ans tab (.fn jN [a,b]) H fun v H'=>v=.int .i64 (EO x y)/\Kp H H':=by
 have i:=ha.one;have j:=hb.one;refine bk C.q87 zU fun T hl c d=>?_;refine zW (aE hl c d) ?_;refine AnsH.eq (P3 C zF (ha.mono (zG H)) (hb.mono (zG H)) g e hx hy) fun H2 f=>?_;obtain ⟨k2,_,_⟩:=zT H zK f;refine zW (aE hl c d) ?_;exact zK
def Bn (C:Code tab) (hw:Wf H) {va S:AV} {E I:List (List Int)} {d m:Nat} (ha:eF H va E) (hb:eF H S I) (O:0<d) (hd:d<=6) (he:E.length<=1024) (hi:I.length<=1024) (bK:I.length^(d-1)<1099000000000) (h1:∀ a∈E,a.length=d/\Lin.Bd (2^m) a) (h2:∀ a∈I,a.length=d/\Lin.Bd (2^m) a) (hm:m<=300000) :
  Ans tab (.fn rA [.int .i64 (d:Int),va,S]) H fun v H'=>∃ p q,v=.tup [p,q,.int .i64 0]/\eF H' p (Lin.gensL d E I)/\eF H' q (Lin.gensR d E I)/\Kp H H':=by
 have oa:=ha.one;have ob:=hb.one;obtain ⟨f,hf⟩:∃ f,f=64*(m+4)+1:=⟨_,rfl⟩
 have ok1:xT d E:=⟨O,zO,fun r hr=>(h1 r hr).1,fun r hr z n=>(ir (h1 r hr).2 z n).sm zO⟩
 have aA:xT d I:=⟨O,zO,fun r hr=>(h2 r hr).1,fun r hr z n=>(ir (h2 r hr).2 z n).sm zO⟩
 have mid:∀ {A B:List (List Int)},(∀ a∈A,a.length=d/\Lin.Bd (2^m) a)->(∀ a∈B,a.length=d/\Lin.Bd (2^m) a)->Rv d f (Lin.gensU d A B) B:=fun hA hB=>by rw [hf]; exact SC O hd hA hB
 have bL:=SO (e:=f) hd;refine ts C.q58 rfl rfl zU fun T hl g=>?_;have hl:T.length=100:=hl;have bo:c_cone_Gens.results=[(6,none),(7,none),(8,none)]:=rfl;have g0:ad T 0=.int .i64 (d:Int):=g 0 (by simp);have g1:ad T 1=va:=g 1 (by simp);have g2:ad T 2=S:=g 2 (by simp);refine aG ?_;refine zW (bO hl g0 g1 g2 @am) ?_;refine bP (fun T' H'=>Kp H H') rfl ?_ ?_
 ·refine zW (aW hl g0 g1 g2) ?_;refine AnsH.eq (EM C zF ((Ap ha).mono (zG H)) ((Ap hb).mono (zG H)) (by rw [Vh]; omega) (by rw [Vh]; omega) (fun r hr=>?_) (fun r hr=>?_)) fun H2 aH=>?_
  ·obtain ⟨x,hx,rfl⟩:=Va.1 hr;exact vC (by rw [ok1.len x hx]; omega) (ok1.sm x hx)
  ·obtain ⟨x,hx,rfl⟩:=Va.1 hr;exact vC (by rw [aA.len x hx]; omega) (aA.sm x hx)
  rw [I3 ok1 aA he hi];obtain ⟨k2,_,_⟩:=zT H zK aH;refine zW (aw hl @aC) ?_;exact zK
 intro T1 H1 aj k1;have w1:=k1.wf;have bS:=k1.le;have t0:ad T1 0=.int .i64 (d:Int):=(aj.at_ 0 zU).trans (zV (aw hl g0));have t1:ad T1 1=va:=(aj.at_ 1 zU).trans (zV (aw hl g1));have t2:ad T1 2=S:=(aj.at_ 2 zU).trans (zV (aw hl g2));have t7:ad T1 7=.nilSl:=(aj.at_ 7 zU).trans (zV hl);have ar:T1.length=100:=aj.len.trans (by simp only [U4]; exact hl);refine bP (fun T' H'=>Kp H H'/\ad T' 7=.nilSl) rfl ?_ ?_
 ·refine zW (aW ar t0 t1 t2) ?_;refine AnsH.use (Mk C (Ls:=[E,I]) (d:=d) zF (Cc (E:=rowsE) (t1:=af) ha hb (zG H) (cy)) (by simp) (fun L hL r hr=>?_)) ?_
  ·rcases VF.1 hL with rfl | hL
   ·exact ok1.len r hr
   ·rcases VF.1 hL with rfl | hL
    ·exact aA.len r hr
    ·cases hL
  rintro v H2 ⟨rfl,aH⟩;obtain ⟨k2,_,_⟩:=zT H zK aH;have q1:¬ ((d:Int)<1):=zO;have q2:¬ ((64:Int)<(d:Int)):=zO;have q3:(0:Int)<=(d:Int):=zO;cases bJ:[E,I].any (fun L=>!L.isEmpty) with
  | true =>
   refine zW (fE ar t0 t7 q1 q2 q3 @aC) ?_;exact zK
  | false =>
   refine zW (fE ar t0 t7 q1 q2 q3 @aC) ?_;exact zK
 rintro T2 H2 ax ⟨k2,u7⟩;have w2:=k2.wf;have bT:=k2.le;have u0:ad T2 0=.int .i64 (d:Int):=(ax.at_ 0 zU).trans t0;have u1:ad T2 1=va:=(ax.at_ 1 zU).trans t1;have u2:ad T2 2=S:=(ax.at_ 2 zU).trans t2;have aL:T2.length=100:=ax.len.trans ar;refine bP (fun T' H'=>ad T' 10=.ptr (H2.next+3) 0/\Kp H H'/\UnderV H H' (H2.next+3) (Lin.gensU d [] [])) rfl ?_ ?_
 ·refine zW (aw aL u0) ?_;refine AnsH.use (OU C (d:=d) zF zO) ?_;rintro v Y ⟨aB,aJ⟩;obtain ⟨k23,_,_⟩:=zT H2 zK aJ;have k3:Kp H Y:=k2.trans k23;have b1:=k3.le;have w3:=k3.wf;have ov:=aB.sl.one;have h0:AV.one .nilSl=true:=rfl;have bf:iq (.agg [v,.nilSl,.nilSl])=some [v,.nilSl,.nilSl]:=by simp [iq,AV.cells,ov.2,h0]
  have n3:H2.next+5<=Y.next:=aJ.le
  have f3:Y.get (H2.next+3)=none:=aJ.free (show _<H2.next+5 by omega) (w2.fresh (b:=H2.next+3) zO);refine zW (aW aL (QX ov) bf @aC) ?_;have bd:Wr H Y v (Lin.startU d).lines (Lin.startU d).lines.length:=aB.wr.base (show H.next<=H2.next+5 by omega);have bl:kb v≠some (H2.next+3):=fun hx=>by
   have h2:H2.next+5<=H2.next+3:=aB.ge hx
   omega
  exact ⟨zK,v,.nilSl,.nilSl,_,ap _ _ _,bd.put bl (NoTy.none f3),.inl ⟨rfl,rfl⟩,.inl ⟨rfl,rfl⟩,(fun x _ hy=>by cases hy),(fun x _ hy=>by cases hy),(fun x _ hy=>by cases hy)⟩
 obtain ⟨ub,br⟩:∃ ub,ub=H2.next+3:=⟨_,rfl⟩
 rw [<- br];have a4:H.next<=ub:=zO
 rintro T3 Y ay ⟨b9,k3,bp⟩;have w3:=k3.wf;have bU:=k3.le;have v1:ad T3 1=va:=(ay.at_ 1 zU).trans u1;have v2:ad T3 2=S:=(ay.at_ 2 zU).trans u2;have v7:ad T3 7=.nilSl:=(ay.at_ 7 zU).trans u7;have l:T3.length=100:=ay.len.trans aL;refine aG ?_;refine zW (aE l b9 @am) ?_;refine bP (fun T' H'=>Kp H H'/\UnderV H H' ub (Lin.gensU d E [])) rfl ?_ ?_
 ·refine zW (aE l v1 ha.lenV) ?_;refine aq H [] (fun j _ H'=>UnderV H H' ub (Lin.gensU d (E.take j) [])) (a:=0) (N:=E.length) rfl (by refine zW l ?_; rfl) (zV l) (Vk _) zO (by simp only [U4,l]; rfl) rfl (fun j vs H' m h=>h.mono (Sub.bump H' m)) zK (by exact bp.mono (Sub.bump Y _)) ?_ ?_
  ·rintro j F H4 _ hj c bg M W ae;have w4:=W.wf;have bX:=W.le;have bv:=W.le;have bx:ad F 48=va:=(M.at_ 48 zU).trans (zV (aw l v1));have aS:ad F 11=.fn (.func dg) [.ptr ub 0] []:=(M.at_ 11 zU).trans (zV l);obtain ⟨w,hr,ah⟩:=dI ha hj;have bj:=b7 W.sub ah;have ag:=SlV.idx1 ha .i64 j hj;have mk:=mid (A:=E.take j) (B:=[]) (fun a h=>h1 a (WP h)) (fun a h=>by cases h);have aU:=h1 _ (U9 hj);have a3:=mk.some;have aF:=mk.few;have bG:0^(d-1)<=1:=Vn (Xf (Vk 1) _) (by rw [Nat.one_pow]; exact Vc _);simp only [Xs] at aF;have aM:(Lin.addU E[j] true (Lin.gensU d (E.take j) [])).rays.length<=1099000000000:=by
    rw [<- Gl d E hj]
    have:=(mid (A:=E.take (j+1)) (B:=[]) (fun a h=>h1 a (WP h)) (fun a h=>by cases h)).few
    simp only [Xs] at this;omega
   simp only [U4,l] at c;refine zW (dx c bx aS bg ag bj) ?_;refine AnsH.use (GF C (H0:=H) (u:=Lin.gensU d (E.take j) []) (e:=f) (f:=f) (W.up _) a4 (ae.mono (Sub.bump H4 _)) hr O zO aU.1 mk.lines mk.rays (fun r hr=>by rw [mk.done] at hr; cases hr) (by rw [mk.done]; simp) (fun z n=>(ir aU.2 z n).mono zO) zO zO zO aM) ?_;rintro v U ⟨rfl,G,Q⟩;refine zW c ?_;exact ⟨G,by rw [Gl d E hj]; exact Q⟩
  ·rintro F H4 c M W ae;rw [VC] at ae;refine zW (aw c @aC) ?_;exact ⟨W,ae⟩
 rintro F H4 M ⟨k4,ae⟩;have w4:=k4.wf;have bv:=k4.le;have x2:ad F 2=S:=(M.at_ 2 zU).trans (zV (aw l v2));have x7:ad F 7=.nilSl:=(M.at_ 7 zU).trans (zV (aw l v7));have bB:ad F 10=.ptr ub 0:=(M.at_ 10 zU).trans (zV (aw l b9));have bE:ad F 11=.fn (.func dg) [.ptr ub 0] []:=(M.at_ 11 zU).trans (zV l);have c:F.length=100:=M.len.trans (by simp only [U4]; exact l);refine bP (fun T' H'=>Kp H H'/\UnderV H H' ub (Lin.gensU d E I)) rfl ?_ ?_
 ·refine zW (aE c x2 hb.lenV) ?_;refine aq H [] (fun j _ H'=>UnderV H H' ub (Lin.gensU d E (I.take j))) (a:=0) (N:=I.length) rfl (by refine zW c ?_; rfl) (zV c) (Vk _) zO (by simp only [U4,c]; rfl) rfl (fun j vs H' m h=>h.mono (Sub.bump H' m)) zK (by exact ae.mono (Sub.bump H4 _)) ?_ ?_
  ·rintro j V U _ hj J bh X G Q;have w5:=G.wf;have bY:=G.le;have bw:=G.le;have bz:ad V 58=S:=(X.at_ 58 zU).trans (zV (aw c x2));have aS:ad V 11=.fn (.func dg) [.ptr ub 0] []:=(X.at_ 11 zU).trans (zV (aw c bE));obtain ⟨w,hr,ah⟩:=dI hb hj;have bk:=b7 G.sub ah;have ag:=SlV.idx1 hb .i64 j hj;have aD:∀ a∈I.take j,a.length=d/\Lin.Bd (2^m) a:=fun a h=>h2 a (WP h);have mk:=mid (A:=E) (B:=I.take j) h1 aD;have aX:=h2 _ (U9 hj);have a3:=mk.some;have aF:=mk.few;have hp:(I.take j).length^(d-1)<=I.length^(d-1):=Xf (by rw [Vx]; omega) _;have aM:(Lin.addU I[j] false (Lin.gensU d E (I.take j))).rays.length<=1099000000000:=by
    rw [<- Gk d E I hj];have h3:=(mid (A:=E) (B:=I.take (j+1)) h1 (fun a h=>h2 a (WP h))).few;have h4:(I.take (j+1)).length^(d-1)<=I.length^(d-1):=Xf (by rw [Vx]; omega) _;omega
   simp only [U4,c] at J;refine zW (dx J bz aS bh ag bk) ?_;refine AnsH.use (GF C (H0:=H) (u:=Lin.gensU d E (I.take j)) (e:=f) (f:=f) (G.up _) a4 (Q.mono (Sub.bump U _)) hr O zO aX.1 mk.lines mk.rays (fun r hr=>by rw [mk.done] at hr; exact ⟨(aD r hr).1,fun z n=>(ir (aD r hr).2 z n).mono zO⟩) (by rw [mk.done,Vx]; omega) (fun z n=>(ir aX.2 z n).mono zO) zO zO zO aM) ?_;rintro v s ⟨rfl,aK,bq⟩;refine zW J ?_;exact ⟨aK,by rw [Gk d E I hj]; exact bq⟩
  ·rintro V U J X G Q;rw [VC] at Q;refine zW (aw J @aC) ?_;exact ⟨G,Q⟩
 rintro V U X ⟨k5,Q⟩;have w5:=k5.wf;have bw:=k5.le;have y7:ad V 7=.nilSl:=(X.at_ 7 zU).trans x7;have a8:ad V 10=.ptr ub 0:=(X.at_ 10 zU).trans bB;have J:V.length=100:=X.len.trans c;have mk:=mid h1 h2;have a3:=mk.some;have aF:=mk.few;obtain ⟨ql,qr,qd,cl,aP,bm,bn,bQ,-,-,-⟩:=Q;have b5:=w5 _ _ aP;obtain ⟨tL,tR⟩:=uZ O hd h1 h2;have hT:=Lin.gens_told (fun a ha=>(h1 a ha).1) (fun a ha=>(h2 a ha).1);obtain ⟨L,hL⟩:∃ L,L=Lin.gensL d E I:=⟨_,rfl⟩
 have aY:Lin.formF (Lin.gensU d E I).lines=L:=by rw [hL]; rfl
 have bb:Lin.formF L=L:=by rw [<- aY]; exact LW (fun r hr=>(mk.lines r hr).1)
 have bH:L.length<=d:=by rw [hL]; exact ech_len hT.form
 have a0:∀ r∈L,r.length=d/\∀ z∈r,Bt f z:=fun r hr=>by
  rw [hL] at hr;exact ⟨(tL r hr).1,fun z n=>by rw [hf]; exact ir (tL r hr).2 z n⟩
 refine bP (fun T' H'=>∃ q6,ad T' 6=q6/\Kp U H'/\eF H' q6 L) rfl ?_ ?_
 ·refine zW (aE J a8 aP) ?_;refine AnsH.use (DU C (d:=d) (e:=f) zF (bm.sl.mono (Sub.bump U _)) zO O zO (fun r hr=>(mk.lines r hr).1) (fun r hr=>(mk.lines r hr).2) zO) ?_;rintro v s ⟨q6,rfl,ai,aK⟩;have k6:Kp U s:=Kp.trans (Kp.up (Kp.refl w5) _) aK;have b2:=k6.le;rw [aY] at ai;refine zW (aw J @aC) ?_;exact ⟨q6,rfl,k6,ai⟩
 rintro T6 s aO ⟨q6,z6,al,ai⟩;have w6:=al.wf;have bV:=al.le;have z7:ad T6 7=.nilSl:=(aO.at_ 7 zU).trans y7;have bF:ad T6 10=.ptr ub 0:=(aO.at_ 10 zU).trans a8;have K:T6.length=100:=aO.len.trans J;have bs:=al.get aP;have av:eF s qr (Lin.gensU d E I).rays:=bn.sl.mono al.sub;obtain ⟨R,hR⟩:∃ R,R=(Lin.gensU d E I).rays:=⟨_,rfl⟩
 have bc:∀ r∈R,r.length=d/\∀ z∈r,Bt f z:=fun r hr=>mk.rays r (by rw [<- hR]; exact hr);have bI:R.length<=1099000000000:=by rw [hR]; omega
 rw [<- hR] at av;refine bP (fun T' H'=>∃ o,ad T' 7=o/\Kp s H'/\Bl rowsE af s H' o (R.map (Lin.restF L))) rfl ?_ ?_
 ·refine zW (aW K bF bs av.lenV) ?_;refine aq s [7] (fun j vs H'=>∃ o,vs=[o]/\Bl rowsE af s H' o ((R.take j).map (Lin.restF L))) (a:=0) (N:=R.length) rfl (by refine zW K ?_; rfl) (zV K) (Vk _) zO (by simp only [U4,K]; rfl) rfl (fun j vs H' m ⟨o,q1,q2⟩=>⟨o,q1,q2.mono (Sub.bump H' m)⟩) (Kp.up (Kp.refl w6) _) ⟨.nilSl,by exact zV (aw K z7),Bl.nil⟩ ?_ ?_
  ·rintro j T7 Z _ hj t bi ab P ⟨o,hv,ho⟩;have w7:=P.wf;have bZ:=P.le;have bW:=P.le;simp only [Vb,Vf,Vd,and_true] at hv;have bA:ad T7 79=qr:=(ab.at_ 79 zU).trans (zV K);have t6:ad T7 6=q6:=(ab.at_ 6 zU).trans (zV (aw K z6));obtain ⟨w,hr,ah⟩:=dI (av.mono P.sub) hj;have ag:=SlV.idx1 av .i64 j hj;have a1:=bc _ (U9 hj);simp only [U4,K] at t;refine zW (dx t bA t6 bi ag ah) ?_;refine AnsH.use (FD C (d:=d) (e:=f) zF (hr.mono (Sub.bump Z _)) ((ai.mono P.sub).mono (Sub.bump Z _)) zO O zO a1.1 (fun r hr=>(a0 r hr).1) a1.2 (fun r hr=>(a0 r hr).2) zO) ?_;rintro v i ⟨q,rfl,aN,ao⟩;have aR:Kp Z i:=Kp.trans (Kp.up (Kp.refl w7) _) ao;have b4:=aR.le;have aQ:Kp s i:=P.trans aR;have b3:=aQ.le;have w8:=aQ.wf;rw [bb] at aN;have oq:=aN.one;have bM:((R.take j).map (Lin.restF L)).length<=R.length:=by simp; omega
   obtain ⟨n6,H9,e6,b6,k6,ca,f6,u6⟩:=Bl.push1 (ty2:=af) (bytes:=24) (id:=i.next+3) (id2:=i.next+2) (k:=5) (cs:=[q]) (a:=Lin.restF L R[j]) (ho.mono aR.sub) zU aQ ⟨q,rfl,aN⟩ zO zO zO zO zO zO zO;have ba:cC ((i.up 5).put (i.next+2) (.cells [q] af true)) (i.next+3) 1 24 af o (.own (i.next+2) 0 1 1 1 true)=some (.own (i.next+3) 0 n6 n6 1 false,H9):=e6;refine zW (aE t hv ba) ?_;refine ⟨k6,_,rfl,?_⟩;rw [Ve hj,V9];exact b6
  ·rintro T7 Z t ab P ⟨o,hv,ho⟩;simp only [Vb,Vf,Vd,and_true] at hv;rw [VC] at ho;refine zW (aw t @aC) ?_;exact ⟨o,hv,P,ho⟩
 rintro T7 Z ab ⟨o,a7,b8,a9⟩;have w7:=b8.wf;have a6:ad T7 6=q6:=(ab.at_ 6 zU).trans z6;have t:T7.length=100:=ab.len.trans K;have aV:(R.map (Lin.restF L)).mergeSort Lin.cmpV=Lin.gensR d E I:=by rw [hR,hL]; rfl
 have a2:(Lin.gensR d E I).Perm (R.map (Lin.restF L)):=by rw [<- aV]; exact Z7 _ _
 have aa:∀ r∈R.map (Lin.restF L),r.length=d/\∀ z∈r,fq z:=fun r hr=>by
  have h:=tR r (a2.mem_iff.2 hr);exact ⟨h.1,fun z n=>(ir h.2 z n).sm zO⟩
 refine aG ?_;refine zW (aE t @a7 @am) ?_;refine AnsH.use (Cj C.q86 rfl (H0:=s) (d:=d) (b8.up _) (a9.mono (Sub.bump Z _)) (fun r hr=>(aa r hr).1) (a2.nodup_iff.1 (Lin.told_nodup hT)) (by rw [Vh]; omega) fun D a b hD x hx y hy bt bu=>(EN C hD bt bu ((aa x hx).1.trans (aa y hy).1.symm) (by rw [(aa x hx).1]; omega) (aa x hx).2 (aa y hy).2).mono fun _ _ h=>h.1) ?_;rintro v i ⟨rfl,ao,aT⟩;rw [aV] at aT;refine zW (aw t @am) ?_;refine aG ?_;refine zW (aW t @a6 @a7 @am) ?_;refine WC.wb ?_;refine zW (aw t bo) ?_;have a5:Kp H i:=(k5.trans al).trans ao;have b0:=a5.le;rw [<- hL];exact ⟨_,_,rfl,(ai.mono ao.sub).mono (Sub.bump i _),aT.sl.mono (Sub.bump i _),a5.up _⟩
end
end Go.Proofs.YteaefaohjlmjdaaGreat.Ev
