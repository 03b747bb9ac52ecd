/- A part. -/
import Derived.Test.YtkmepoeklibegaaGreatA0
import Derived.Test.YtkmepoeklibegaaGreatGens
set_option linter.all false
namespace Go.Proofs.YtkmepoeklibegaaGreat.Ev
open Go Nn
def Mw {tab:Nat->Option au} (ev:Src->AV) (H:Heap) (id:Nat) (Q:AV->Heap->Prop) (size:Nat) (z:List AV) (x:Src) :
  lJ tab ev H id (.clear size z x) Q=gu (ru H size z (ev x)) (fun H'=>Q (.tup []) H') ():=by
 rw [bT,gn tab ev H id Q (o:=.clear size z x) (fun f a e=>by cases e) rfl];show gY ((ru H size z (ev x)).map fun H'=>(AV.tup [],H')) _=_;cases ru H size z (ev x) <;> rfl
def Kp.at_ {H0 H H':Heap} {b:Nat} (a:Kp H0 H) (hg:∀ c,c≠b->H'.get c=H.get c) (hn:H'.next=H.next) (d:H0.next<=b) (hlt:b<H.next):Kp H0 H' :=
 ⟨a.wf0,fun c e hc=>by
  by_cases h:c=b
  ·rw [h,hn]; exact hlt
  ·rw [hn]; exact a.wf c e (by rw [<- hg c h]; exact hc),by rw [hn]; exact a.le,fun c hc=>by rw [hg c zO]; exact a.same c hc⟩
section
variable {tab:Nat->Option au} {H:Heap} {s:AV}
def rN (C:Code tab) (z:Wf H) {fi:Nat} {first caps:List AV} {l:List (List Int)} (hs:dS H s l) (x:l.length<4611686018427387904) (p:List Int->Bool)
  (n:∀ r∈l,∀ H' w,Kp H H'->RowV H' w r->Ans tab (.fn fi (first++[w]++caps)) H' fun v H2=>v=.bool (p r)/\Kp H' H2) :
  Ans tab (.fn cj [s,.fn (.func fi) first caps]) H fun v H'=>v=.int .i64 (np p l)/\Kp H H':=by
 refine bC C.q83 zU fun T hl c d=>?_;refine zW (aV hl c d hs.lenV) ?_;refine am H [] (fun j _ _=>∀ k (h:k<l.length),k<j->p l[k]=false) (a:=0) (N:=l.length) rfl (by refine zW (aB hl c d) ?_; rfl) (zV (aB hl c d)) (Vz _) zO (by simp only [Vg,hl]; rfl) rfl (fun _ _ _ _ h=>h) zK (fun k _ h=>by omega) ?_ ?_
 ·intro j T1 m _ hj b o i g f;have w1:=g.wf;have A:=g.le;have t0:aa T1 0=s:=(i.at_ 0 zU).trans (zV (aB hl c d));have t1:aa T1 1=.fn (.func fi) first caps:=(i.at_ 1 zU).trans (zV (aB hl c d))
  obtain ⟨w,hr,u⟩:=dD (hs.mono g.sub) hj;have q:=SlV.idx1 hs .i64 j hj;simp only [Vg,hl] at b;refine zW (eF b t0 t1 o q u) ?_;refine AnsH.eq (n _ (Vm hj) _ w zK (hr.mono (zG m))) fun H2 t=>?_;obtain ⟨k2,_,_⟩:=zT H zK t;cases hp:p l[j] with
  | true =>
   refine zW b ?_;exact ⟨by rw [se hj f hp],zK⟩
  | false =>
   refine zW b ?_;refine ⟨zK,fun k h y=>?_⟩;by_cases e:k=j
   ·subst e; exact hp
   ·exact f k h zO
 ·intro T1 m b i g f;simp only [Vg,hl] at b;refine zW b ?_;exact ⟨by rw [pH fun k h=>f k h h],zK⟩
def IC (C:Code tab) (g:Wf H) {l:List (List Int)} (hs:dS H s l) (h0:0<l.length) (j:l.length<1099511627776):Ans tab (.fn cM [s]) H fun v H'=>Kp H H'/\∃ b,Own rowsE af H H' b false v l:=by
 refine dg C.q116 zU fun T hl a=>?_;rcases hs.nilcase with ⟨rfl,rfl⟩ | hne
 ·simp at h0
 ·have d:dj ([]:List AV) []=some []:=rfl;refine zW (aV hl a hne d) ?_;have k1:Kp H ((H.up 7).put (H.next+3) (.cells [] af true)):=zK;have n:=k1.le;have h:SlV rowsE af ((H.up 7).put (H.next+3) (.cells [] af true)) (.own (H.next+3) 0 0 0 1 true) ([]:List (List Int)) :=
   (show Own rowsE af H _ (H.next+3) true _ [] from ⟨_,rfl,ap _ _ _,Cells.nil _ _,zO⟩).sl
  obtain ⟨i,H2,e1,h2,e,k,m,f⟩:=SlV.app (l:=[]) (id:=H.next+5) (bytes:=24) h k1 (hs.mono k1.sub) zO (by show _<H.next+7; omega) (by rw [al zO]; exact g.fresh (b:=H.next+5) zO) (by simp; omega) (by simp; omega);have c:dr ((H.up 7).put (H.next+3) (.cells [] af true)) (H.next+5) 1 24 af (.own (H.next+3) 0 0 0 1 true) s=some (i,H2):=e1;refine zW (aB hl a c) ?_;exact ⟨e,_,f h0⟩
def QA {H':Heap} {b n i:Nat} {cells:List AV} (hb:H'.get b=some (.cells cells af true)) (hn:cells.length=n) (hi:i<n) (j:n<1099511627776) (d:cells.all AV.one=true) :
  ∃ y H2 a,bW 1 (.own b 0 n n 1 false) (some (.int .i64 ((i+1:Nat):Int))) none none=some y/\(∀ id,dr H' id 1 24 af (.own b 0 i n 1 false) y=some (.own b 0 (n-1) n 1 false,H2))/\H2.get b=some (.cells a af true)/\a.take (n-1)=cells.eraseIdx i/\a.length=n/\(∀ c,c≠b->H2.get c=H'.get c)/\H2.next=H'.next:=by
 have he:cells.eraseIdx i=cells.take i++cells.drop (i+1):=XK ..;by_cases h:i+1<n
 ·refine ⟨.own b (0+(i+1)*1) (n-(i+1)) (n-(i+1)) 1 false,H'.put b (.cells (cells.take (0+i*1)++cells.drop (i+1)++cells.drop (0+i*1+(n-(i+1))*1)) af true),_,?_,fun id=>?_,ap _ _ _,?_,?_,fun c hc=>al hc,rfl⟩
  ·show bL 1 (.own b 0 n n 1 false) (some (.int .i64 ((i+1:Nat):Int))) none none=_;simp only [bL,fN,ne_eq,not_true_eq_false,if_false,Vj,WR,Xj,W8,Xa,WX];rw [if_pos ⟨Vo _,zO⟩,if_pos (.inl h)]
  ·have f:aG H' 1 (n-(i+1)) (.own b (0+(i+1)*1) (n-(i+1)) (n-(i+1)) 1 false)=some (cells.drop (i+1)):=by
    simp only [aG,hb];rw [if_pos ⟨trivial,Vo _,zO⟩];rw [VP (by simp; omega)]
    simp
   have g:(cells.drop (i+1)).all AV.one=true:=by
    rw [VJ] at d ⊢;exact fun x hx=>d x (X8 hx)
   unfold dr;simp only [gL];rw [f];simp only [cS,hb];rw [if_pos ⟨trivial,zO,zO,trivial,zO⟩,if_pos zO,if_neg zO,if_pos ⟨trivial,g⟩];congr 3;omega
  ·rw [he,XP (by simp; omega),VP (by simp; omega)]
   simp
  ·simp; omega
 ·have k:n=i+1:=zO;refine ⟨.sl [] 0,H',cells,?_,fun id=>?_,hb,?_,hn,fun _ _=>rfl,rfl⟩
  ·show bL 1 (.own b 0 n n 1 false) (some (.int .i64 ((i+1:Nat):Int))) none none=_;simp only [bL,fN,ne_eq,not_true_eq_false,if_false,Vj,WR,Xj,W8,Xa,WX];rw [if_pos ⟨Vo _,zO⟩,if_neg zO]
   simp
  ·unfold dr;simp only [gL,aG];simp only [cS,hb]
   simp
   refine ⟨zO,?_⟩;have e:n-1=i:=zO;rw [if_pos zO,e]
  ·rw [he,Yr zO,Wv];congr 1;omega
def Gz (C:Code tab) {H0:Heap} {v:AV} {l:List (List Int)} {i b:Nat} (q:Kp H0 H) (hs:Own rowsE af H0 H b false v l) (hi:i<l.length) (o:l.length<1099511627776) :
  Ans tab (.fn cH [v,.int .i64 (i:Int),.int .i64 ((i+1:Nat):Int)]) H fun O H'=>O=.own b 0 (l.length-1) l.length 1 false/\Kp H0 H'/\(∃ cells,H'.get b=some (.cells cells af true)/\cells.length=l.length/\Cells rowsE H' (cells.take (l.length-1)) (l.eraseIdx i))/\∀ c,c≠b->H'.get c=H.get c:=by
 obtain ⟨cells,g,hb,hcl,A⟩:=hs;have g:v=.own b 0 l.length l.length 1 false:=g;subst g;have hn:cells.length=l.length:=by have:=hcl.1; simpa [bY] using this
 have hlt:=q.wf _ _ hb;have J:=hcl.ones;obtain ⟨n,F⟩:∃ n,l.length=n:=⟨_,rfl⟩
 rw [F] at hn hi o ⊢;refine mN C.q117 zU fun T hl j k m=>?_;have w:bW 1 (.own b 0 n n 1 false) (some (.int .i64 (i:Int))) (some (.int .i64 ((i+1:Nat):Int))) (some (.int .i64 (n:Int)))=some (.own b (0+i*1) (i+1-i) (n-i) 1 true):=by
  simp only [bW,bL,fN,ne_eq,not_true_eq_false,if_false,Vj,WR,Xj,W8,Xa,WX];rw [if_pos ⟨Vo _,zO,zO⟩,if_neg zO]
 have G:¬ (i:Int)=((i+1:Nat):Int):=zO;have I:¬ i=i+1:=zO;have P:=Hq b 0 n n 1 i false .i64 (Xe hi);obtain ⟨y,H2,a,hy,z,q2,N,S,h,s⟩:=QA (H':=H.up 21) (b:=b) (i:=i) hb hn hi o J;have K:bW 1 (.own b 0 (n-1) n 1 false) (some (.int .i64 ((n-1:Nat):Int))) (some (.int .i64 (n:Int))) none=some (.own b (n-1) 1 1 1 false):=by
  simp only [bW,bL,fN,ne_eq,not_true_eq_false,if_false,Vj,WR,Xj,W8,Xa,WX];rw [if_pos ⟨Vo _,zO⟩,if_pos (.inl zO)];congr 2 <;> omega
 have B:∀ X:Heap,X.get b=some (.cells a af true)->ru X 1 [.nilSl] (.own b (n-1) 1 1 1 false)=some (X.put b (.cells (a.take (n-1)++(List.replicate 1 [AV.nilSl]).flatten++a.drop (n-1+1*1)) af true)):=fun X x=>by
  simp only [ru,x];rw [if_neg zO,if_pos ⟨trivial,zO,rfl,rfl⟩]
 have D:=B (H2.up 6) q2;refine zW (gS hl j k m w G I) ?_;refine aM ?_;simp -dsimp (maxSteps:=1000000) (disch:=(first | omega | assumption | exact aH _ | exact aT _ _ | exact bf | exact bS _ _ _ | exact bk _ _ | exact bj _ _ _ _ _ _ | exact bX _ _ | exact bp _)) only [↓qh,qg,↓Pc,Pb,Nat.reduceLT,Nat.reduceEqDiff,Nat.reduceAdd,reduceIte,reduceCtorEq,Nat.reduceBEq,Int.reduceEq,Int.reduceLT,Int.reduceLE,Int.reduceAdd,Int.reduceSub,hl,j,k,m,P,hy,z,Je,K,↓Mw,D];obtain ⟨d,f⟩:∃ c,c=a.take (n-1)++(List.replicate 1 [AV.nilSl]).flatten++a.drop (n-1+1):=⟨_,rfl⟩
 rw [<- f];have k2:Kp H0 H2:=(q.up 21).at_ h s A (by show b<H.next+21; omega);have Q:=k2.le;have R:b<H2.next:=by rw [s]; show _<H.next+21; omega
 have u:SubT (sO intE ad).tys H ((H2.up 8).put b (.cells d af true)):=fun c cs t r L hc=>by
  have p:c≠b:=fun e=>by
   subst e;rw [hb] at hc; cases hc
   revert L; decide
  rw [al p];exact (h c p).trans hc
 have M:d.take (n-1)=cells.eraseIdx i:=by
  rw [f,W7,XP (by simp; omega),VP (by simp; omega),N]
 have E:d.length=n:=by rw [f]; simp; omega
 refine ⟨zK,⟨d,rfl,E,?_⟩,fun c hc=>?_⟩
 ·rw [M,XK,XK];have h1:=(hcl.mono u).take (n:=i) zO;have h2:=(hcl.mono u).drop (i+1);have h3:=h1.append h2;have es:rowsE.sz=1:=rfl;rw [es,WT,WT] at h3;exact h3
 ·rw [al hc]; exact h c hc
end
def Sep (v w:AV):Prop:=∀ b,js v=some b->js w≠some b
def Sep.symm {v w:AV} (h:Sep v w):Sep w v:=fun b h1 h2=>h b h2 h1
def Wr (H0 H:Heap) (v:AV) (l:List (List Int)) (c:Nat):Prop :=
 (v=.nilSl/\l=[])\/∃ b cells,v=.own b 0 l.length c 1 false/\H.get b=some (.cells cells af true)/\cells.length=c/\l.length<=c/\Cells rowsE H (cells.take l.length) l/\H0.next<=b
def Wr.sl {H0 H:Heap} {v:AV} {l:List (List Int)} {c:Nat} (h:Wr H0 H v l c):dS H v l:=by
 rcases h with ⟨rfl,rfl⟩ | ⟨b,cells,rfl,hb,hc,hl,hcl,-⟩
 ·exact SlV.nil _ _ _
 ·refine ⟨_,⟨hl,(fun s h=>by cases h),l.length,rfl,?_⟩,fun _ _ _ _ _ _ e=>by cases e; exact ⟨_,_,hb⟩,hcl⟩;simp only [aG,hb];rw [if_pos ⟨rfl,Vo _,by show 0+l.length*1<=_; omega⟩];show some ((cells.drop 0).take (l.length*1))=_;rw [Z7,WT]
def Bl.wr {H0 H:Heap} {v:AV} {l:List (List Int)} (h:Bl rowsE af H0 H v l):Wr H0 H v l l.length:=by
 rcases h with h | ⟨b,cells,h1,h2,h3,a⟩
 ·exact .inl h
 ·have hc:cells.length=l.length:=by have:=h3.1; simpa [bY] using this
  exact .inr ⟨b,cells,h1,h2,hc,Vo _,by rw [<- hc,VO]; exact h3,a⟩
def Wr.bl {H0 H:Heap} {v:AV} {l:List (List Int)} (h:Wr H0 H v l l.length):Bl rowsE af H0 H v l:=by
 rcases h with h | ⟨b,cells,h1,h2,h3,c,h5,a⟩
 ·exact .inl h
 ·rw [<- h3,VO] at h5;exact .inr ⟨b,cells,h1,h2,h5,a⟩
def Wr.mono {H0 H H':Heap} (hs:Sub H H') {v:AV} {l:List (List Int)} {c:Nat} (h:Wr H0 H v l c):Wr H0 H' v l c:=by
 rcases h with h | ⟨b,cells,h1,h2,h3,a,h5,d⟩
 ·exact .inl h
 ·exact .inr ⟨b,cells,h1,hs.get _ _ h2,h3,a,h5.mono (hs.t _),d⟩
def Wr.base {H0 a H:Heap} (hs:H0.next<=a.next) {v:AV} {l:List (List Int)} {c:Nat} (h:Wr a H v l c):Wr H0 H v l c:=by
 rcases h with h | ⟨b,cells,h1,h2,h3,d,h5,e⟩
 ·exact .inl h
 ·exact .inr ⟨b,cells,h1,h2,h3,d,h5,VB hs e⟩
def Wr.put {H0 H:Heap} {v:AV} {l:List (List Int)} {c b:Nat} {e:Ent} (h:Wr H0 H v l c) (hb:js v≠some b) (f:NoTy (sO intE ad).tys H b):Wr H0 (H.put b e) v l c:=by
 rcases h with h | ⟨b',cells,h1,h2,h3,a,h5,d⟩
 ·exact .inl h
 ·refine .inr ⟨b',cells,h1,?_,h3,a,h5.mono (SubT.puts (SubT.refl _ _) f),d⟩;rw [al (fun e1=>hb (by rw [h1,e1]; rfl))];exact h2
def Wr.old {H0 H:Heap} {v:AV} {l:List (List Int)} {c b:Nat} (a:Wf H) (h:Wr H0 H v l c) (hb:js v=some b):b<H.next:=by
 rcases h with ⟨rfl,-⟩ | ⟨b',cells,rfl,h2,-⟩
 ·cases hb
 ·cases hb; exact a _ _ h2
def RowV.put_ne {H:Heap} {v:AV} {l:List Int} {b:Nat} {e:Ent} (h:RowV H v l) (hb:js v≠some b) (hn:NoTy [ae] H b):RowV (H.put b e) v l:=by
 obtain ⟨cells,⟨h0,h1,n,h2,h3⟩,d,hc⟩:=h;refine ⟨cells,⟨h0,h1,n,h2,?_⟩,fun b' off n' c z x e'=>?_,hc.mono (SubT.puts (SubT.refl _ _) hn)⟩
 ·unfold aG at h3 ⊢;split at h3
  ·rename_i b' off m c sz ex;rw [al (fun e1=>hb (by rw [<- e1]; rfl))]; exact h3
  ·exact h3
  ·exact h3
  ·exact h3
  ·cases h3
 ·obtain ⟨cs,r,a⟩:=d b' off n' c z x e';exact ⟨cs,r,by rw [al (fun e1=>hb (by rw [e',<- e1]; rfl))]; exact a⟩
def Wr.store {H0 H:Heap} {v va:AV} {l:List (List Int)} {x:List Int} {c j:Nat} (h:Wr H0 H v l c) (hj:j<l.length) (hx:RowV H va x) :
  ∃ b cells,js v=some b/\H0.next<=b/\H.get b=some (.cells cells af true)/\j<cells.length/\cL 1 v (.int .i64 (j:Int))=some (.ptr b j)/\Wr H0 (H.put b (.cells (cells.set j va) af true)) v (l.set j x) c:=by
 rcases h with ⟨-,rfl⟩ | ⟨b,cells,rfl,h2,h3,d,h5,a⟩
 ·simp at hj
 ·have e:j<cells.length:=zO;refine ⟨b,cells,rfl,a,h2,e,?_,.inr ⟨b,_,by rw [Vg],ap _ _ _,by rw [Vg]; exact h3,by rw [Vg]; exact d,?_,a⟩⟩
  ·have:=nl (b:=b) (off:=0) (c:=c) (sz:=1) (x:=false) (k:=.i64) hj
   rw [V3,WT] at this;exact this
  ·have hn:NoTy (sO intE ad).tys H b:=NoTy.ty h2 zU;have f:SubT (sO intE ad).tys H (H.put b (.cells (cells.set j va) af true)):=SubT.puts (SubT.refl _ _) hn;rw [Vg,List.take_set];exact Cells.mono (E:=rowsE) f (h5.set1 hj hx)
def Wr.elem {H0 H:Heap} {v:AV} {l:List (List Int)} {c j:Nat} (h:Wr H0 H v l c) (hj:j<l.length) :
  ∃ w,RowV H w l[j]/\aW H none (aq v j)=some w/\cL 1 v (.int .i64 (j:Int))=some (aq v j):=by
 obtain ⟨w,h1,h2⟩:=dD h.sl hj;exact ⟨w,h1,h2,SlV.idx1 h.sl .i64 j hj⟩
def UnderV (H0 H:Heap) (ub:Nat) (u:Lin.Under):Prop:=∃ a qr qd cl,H.get ub=some (.cells [a,qr,qd] aP true)/\Wr H0 H a u.lines cl/\Wr H0 H qr u.rays u.rays.length/\Wr H0 H qd u.done u.done.length/\Sep a qr/\Sep a qd/\Sep qr qd
def UnderV.mono {H0 H H':Heap} {ub:Nat} {u:Lin.Under} (hs:Sub H H') (h:UnderV H0 H ub u):UnderV H0 H' ub u:=by
 obtain ⟨b,qr,qd,cl,h1,h2,h3,a,h5⟩:=h;exact ⟨b,qr,qd,cl,hs.get _ _ h1,h2.mono hs,h3.mono hs,a.mono hs,h5⟩
def RL (a u:List Int):Lin.dot a (Lin.upV a u)=if Lin.dot a u<0 then -(Lin.dot a u) else Lin.dot a u:=by
 unfold Lin.upV;split
 ·rw [Lin.dot_scl]; omega
 ·rfl
def RK {d:Nat} {a u:List Int} (b:u.length=d):(Lin.upV a u).length=d:=by
 unfold Lin.upV;split
 ·simp [Lin.scl,b]
 ·exact b
def S8 {f:Nat} {a u:List Int} (b:∀ z∈u,Bt f z):∀ z∈Lin.upV a u,Bt f z:=by
 unfold Lin.upV;split
 ·exact GY b
 ·exact b
structure FoldC (Hs H0 H:Heap) (ub:Nat) (LV qr qd:AV) (D:List (List Int)) (bx:Nat) (z:Int) (vl va:AV) (up a:List Int) (sb:Nat):Prop where
 u:H.get ub=some (.cells [LV,qr,qd] aP true)
 d:Wr H0 H qd D D.length
 bx:BoxI H bx z
 vl:RowV H vl up
 va:RowV H va a
 sb:H.get sb=some (.cells [.ptr ub 0,.ptr ub 1] mf true)
 oth:∀ b e,Hs.get b=some e->b≠ub->js qr≠some b->H.get b=some e
def FoldC.mono {Hs H0 H H':Heap} {ub:Nat} {LV qr qd:AV} {D:List (List Int)} {bx:Nat} {z:Int} {vl va:AV} {up a:List Int} {sb:Nat} (hs:Sub H H') (h:FoldC Hs H0 H ub LV qr qd D bx z vl va up a sb):FoldC Hs H0 H' ub LV qr qd D bx z vl va up a sb :=
 ⟨hs.get _ _ h.u,h.d.mono hs,h.bx.mono hs,h.vl.mono hs,h.va.mono hs,hs.get _ _ h.sb,fun b e h1 h2 h3=>hs.get _ _ (h.oth b e h1 h2 h3)⟩
def MZ {H:Heap} {b c t1 a:Nat} {x y:List AV} {r1 r2:Bool} (h1:H.get b=some (.cells x t1 r1)) (h2:H.get c=some (.cells y a r2)) (hn:t1≠a):b≠c:=fun e=>by
 subst e;rw [h1] at h2
 injection h2 with h; injection h with _ h; exact hn h
def FoldC.put {Hs H0 H:Heap} {ub:Nat} {LV qr qd:AV} {D:List (List Int)} {bx:Nat} {z:Int} {vl va:AV} {up a:List Int} {sb b:Nat} {cells cs:List AV} (h:FoldC Hs H0 H ub LV qr qd D bx z vl va up a sb) (hb:H.get b=some (.cells cells af true)) (hd:js qd≠some b) (g:∀ e,Hs.get b=some e->js qr=some b):FoldC Hs H0 (H.put b (.cells cs af true)) ub LV qr qd D bx z vl va up a sb:=by
 have d:NoTy (sO intE ad).tys H b:=NoTy.ty hb zU;have j:NoTy [ae] H b:=NoTy.ty hb zU;obtain ⟨q,f,i⟩:=h.bx;refine ⟨?_,h.d.put hd d,⟨q,?_,SlV.monoT (E:=bY cB) (SubT.puts (SubT.refl _ _) j) i⟩,SlV.monoT (E:=intE) (SubT.puts (SubT.refl _ _) d) h.vl,SlV.monoT (E:=intE) (SubT.puts (SubT.refl _ _) d) h.va,?_,fun c e h1 h2 h3=>?_⟩
 ·rw [al (MZ h.u hb zU)]; exact h.u
 ·rw [al (MZ f hb zU)]; exact f
 ·rw [al (MZ h.sb hb zU)]; exact h.sb
 ·rw [al (fun e1=>h3 (by rw [e1] at h1 ⊢; exact g e h1))]; exact h.oth c e h1 h2 h3
section
variable {tab:Nat->Option au} {H:Heap} {s:AV}
def LN (C:Code tab) {H0:Heap} {ub i:Nat} {u:Lin.Under} {va:AV} {a:List Int} {d e f:Nat} (hk:Kp H0 H) (cC:H0.next<=ub) (hu:UnderV H0 H ub u) (ha:RowV H va a) (hi:i<u.lines.length) (hd:d<=64) (ai:a.length=d) (hL:∀ r∈u.lines,r.length=d/\∀ z∈r,Bt f z) (hR:∀ r∈u.rays,r.length=d/\∀ z∈r,Bt f z) (ah:∀ z∈a,Bt e z) (hb:2*(e+f+7)+2*f+1<=8796093022208) (aF:u.lines.length<1099511627776) (cx:u.rays.length<1099511627776) :
  Ans tab (.fn iq [.ptr ub 0,va,.int .i64 (i:Int)]) H fun v H'=>Kp H0 H'/\RowV H' v (Lin.upV a u.lines[i])/\UnderV H0 H' ub ⟨(u.lines.eraseIdx i).map (Lin.foldV a (Lin.upV a u.lines[i])),u.rays.map (Lin.foldV a (Lin.upV a u.lines[i])),u.done⟩/\(∀ b e,H.get b=some e->b≠ub->(∀ q1 q2 q3,H.get ub=some (.cells [q1,q2,q3] aP true)->js q2≠some b)->H'.get b=some e)/\∀ q1 q2 q3,H.get ub=some (.cells [q1,q2,q3] aP true)->∃ cm,H'.get ub=some (.cells [cm,q2,q3] aP true):=by
 have hw:=hk.wf;obtain ⟨ql,qr,qd,cl,ab,bh,bl,bg,s1,s2,s3⟩:=hu;have cQ:=hw _ _ ab;obtain ⟨vl,aR,bT,bK⟩:=bh.elem hi;have P:=hL _ (Vm hi);refine BM C.q99 rfl rfl zU fun T hl g=>?_;have hl:T.length=81:=hl;have cU:c_P_cone_under_fold.results=[(6,none)]:=rfl;have A:aa T 0=.ptr ub 0:=g 0 (by simp);have B:aa T 1=va:=g 1 (by simp);have D:aa T 2=.int .i64 (i:Int):=g 2 (by simp);refine bi ?_;refine zW (cp hl A B D @aC) ?_;refine bi ?_;refine zW (jY hl A B D @aC ab bK bT) ?_;refine bi ?_;refine zW (cp hl A B D @aC) ?_;refine AnsH.use (vz C zF (ha.mono (zG H)) (aR.mono (zG H)) (ai.trans P.1.symm) zO ah P.2 zO) ?_;rintro v H2 ⟨⟨w,rfl,aN⟩,aJ⟩;obtain ⟨k2,_,w2⟩:=zT H zK aJ;have ow:=aN.one;have n2:H.next+14<=H2.next:=aJ.le
 have f2:H2.get (H.next+12)=none:=aJ.free (show _<H.next+14 by omega) (hw.fresh (b:=H.next+12) zO);have cS:NoTy [ae] H2 (H.next+12):=NoTy.none f2;refine zW (cp hl A B D @aC) ?_;refine dy (fun T' H'=>∃ vl,aa T' 6=vl/\RowV H' vl (Lin.upV a u.lines[i])/\BoxI H' (H.next+12) (Lin.dot a (Lin.upV a u.lines[i]))/\Kp H H') rfl ?_ ?_
 ·refine zW (cp hl A B D @aU) ?_;refine iteH.split (fun h=>?_) fun h=>?_
  ·refine zW (aV hl A B D) ?_;refine AnsH.use (oz C (n:=-1) zF zO zO) ?_;rintro v3 o ⟨aI,R⟩;obtain ⟨M,_,t⟩:=zT H zK R;have b3:=R.get (b:=H.next+12) (e:=.cells [.bool (decide (Lin.dot a u.lines[i]<0)),w] ad true) (da);have cN:=t _ _ b3;have cc:cd o w (Lin.dot a u.lines[i]).natAbs:=SlV.mono R.sub (SlV.monoT (E:=bY cB) zS aN);refine zW (aV hl A B D) ?_;refine AnsH.use (uv C zF (aR.mono (zG H)) aI zO (fun z hz=>(P.2 z hz).len zO) Gx) ?_;rintro v4 H4 ⟨r4,rfl,b0,aK,bH⟩;obtain ⟨k4,_,w4⟩:=zT H zK aK;have b4:=aK.get b3;have ce:=cc.mono aK.sub;refine zW (cp hl A B D @b4) ?_;refine AnsH.use (AN C (z:=Lin.dot a u.lines[i]) zF ⟨w,rfl,ce.mono (zG H4)⟩ ((ol ah P.2 (ai.trans P.1.symm) zO).sm zO)) ?_;rintro v5 y ⟨⟨w5,rfl,bt⟩,S⟩;obtain ⟨aW,_,_⟩:=zT H4 zK S;have k5:Kp H y:=Kp.trans k4 aW;have cK:=k5.le;have cr:=k5.wf;have b5:=aW.get b4;have cP:=cr _ _ b5;have cT:=bt.one;have m5:NoTy [ae] y (H.next+12):=NoTy.ty b5 zU;refine zW (eF hl A B D b5 @aU) ?_;have eu:Lin.upV a u.lines[i]=Lin.scl (-1) u.lines[i]:=by unfold Lin.upV; rw [if_pos h]
   have ed:Lin.dot a (Lin.upV a u.lines[i]) = -(Lin.dot a u.lines[i]):=by rw [RL,if_pos h]
   refine ⟨r4,rfl,?_,⟨w5,by rw [ed]; exact da,by rw [ed]; exact SlV.monoT (E:=bY cB) zS bt⟩,zK⟩;rw [eu];refine RowV.put_ne (b0.mono aW.sub) (fun hb=>?_) m5
   have:=bH _ hb
   omega
  ·refine zW (cp hl A B D @aU) ?_;have eu:Lin.upV a u.lines[i]=u.lines[i]:=by unfold Lin.upV; rw [if_neg h]
   rw [eu];exact ⟨vl,rfl,aR.mono (zG H),⟨w,by exact da,SlV.monoT (E:=bY cB) zS aN⟩,zK⟩
 ·rintro T1 H1 ao ⟨af,t6,cb,bF,k1⟩;have w1:=k1.wf;have t0:aa T1 0=.ptr ub 0:=(ao.at_ 0 zU).trans (zV (aA hl A));have t1:aa T1 1=va:=(ao.at_ 1 zU).trans (zV (aA hl B));have t2:aa T1 2=.int .i64 (i:Int):=(ao.at_ 2 zU).trans (zV (aA hl D));have t7:aa T1 7=.ptr (H.next+12) 0:=(ao.at_ 7 zU).trans (zV hl);have s:T1.length=81:=ao.len.trans (by simp only [Vg]; exact hl);have b9:=k1.get ab;refine WC.wb ?_;refine zW (cp s t0 t1 t2 b9) ?_;refine AnsH.use (IC C zF (bh.sl.mono (zG H)) zO aF) ?_;rintro v2 cv ⟨bO,b,bc⟩;have e1:IntKind.i64.wrap ((i:Int)+1)=((i+1:Nat):Int):=by rw [wrap_i64] <;> omega
  refine zW (cp s t0 t1 t2 e1) ?_;refine AnsH.use (Gz C bO bc hi aF) ?_;rintro v3 o ⟨rfl,R,⟨cells,a5,a8,aG⟩,cy⟩;have M:Kp H o:=Kp.trans k1 (Kp.trans zK R);have cJ:=M.le;have t:=M.wf;have K:=M.get ab;have br:RowV o af (Lin.upV a u.lines[i]):=cb.mono (Kp.sub (H:=H1) (Kp.trans zK R));have a6:BoxI o (H.next+12) (Lin.dot a (Lin.upV a u.lines[i])):=bF.mono (Kp.sub (H:=H1) (Kp.trans zK R));refine zW (aB s t0 K) ?_;refine aM ?_;refine zD (aA s t0) ?_;obtain ⟨-,-,-,-,a4⟩:=bc;have a4:H.next<=b:=VB (VB k1.le (VV _ _)) a4
  have cG:=t _ _ a5;have cR:=t _ _ K;have cD:ub≠b:=zO;obtain ⟨up,aO⟩:∃ x,x=Lin.upV a u.lines[i]:=⟨_,rfl⟩
  rw [<- aO] at br a6 ⊢;have bo:up.length=d:=by rw [aO]; exact RK P.1
  have bn:∀ z∈up,Bt f z:=by rw [aO]; exact S8 P.2
  obtain ⟨n,hn⟩:∃ n,n=u.lines.length:=⟨_,rfl⟩
  rw [<- hn] at a8 aG hi aF ⊢;obtain ⟨L,aE⟩:∃ L,L=u.lines.eraseIdx i:=⟨_,rfl⟩
  have a3:L.length=n-1:=by rw [aE,ZC zO,hn]
  have bB:∀ r∈L,r.length=d/\∀ z∈r,Bt f z:=fun r hr=>hL r (V6 (by rw [aE] at hr; exact hr));rw [<- aE] at aG ⊢;obtain ⟨LV,ag⟩:∃ v,v=AV.own b 0 (n-1) n 1 false:=⟨_,rfl⟩
  rw [<- ag];have bV:Wr H0 (((o.up 9).put ub (.cells [LV,qr,qd] aP true)).put (o.next+6) (.cells [.ptr ub 0,.ptr ub 1] mf true)) LV L n:=by
   have m1:NoTy (sO intE ad).tys o ub:=NoTy.ty K zU;have m2:NoTy (sO intE ad).tys o (o.next+6):=NoTy.none (t.fresh zO);refine .inr ⟨b,cells,by rw [ag,a3],by exact zV a5,a8,zO,?_,by have:=hk.le; omega⟩;rw [a3];exact Cells.mono (E:=rowsE) zS aG
  have bu:∀ {v l c},Wr H0 H v l c->Wr H0 (((o.up 9).put ub (.cells [LV,qr,qd] aP true)).put (o.next+6) (.cells [.ptr ub 0,.ptr ub 1] mf true)) v l c:=fun {v l c} h=>by
   have m1:NoTy (sO intE ad).tys o ub:=NoTy.ty K zU;have m2:NoTy (sO intE ad).tys (o.up 9) (o.next+6):=NoTy.none (t.fresh (b:=o.next+6) zO);have h3:Wr H0 (o.up 9) v l c:=(h.mono M.sub).mono (Sub.bump o 9);have hne:∀ x e,(o.up 9).get x=some (.cells e aP true)->js v≠some x:=fun x e hx hv=>by
    rcases h3 with ⟨rfl,-⟩ | ⟨b',bA,rfl,h2,-⟩
    ·cases hv
    ·cases hv;rw [hx] at h2; injection h2 with h; injection h with _ h; exact absurd h zU
   refine (h3.put (hne ub _ K) m1).put (fun hv=>?_) (by
    refine NoTy.none ?_;rw [al zO]; exact t.fresh (b:=o.next+6) zO)
   have:=h.old hw hv
   omega
  have a1:Sep LV qr:=fun x hx hy=>by
   rw [ag] at hx; cases hx
   have:=bl.old hw hy
   omega
  have bv:Sep LV qd:=fun x hx hy=>by
   rw [ag] at hx; cases hx
   have:=bg.old hw hy
   omega
  obtain ⟨F,X⟩:∃ F:Nat->AV,F=fun j=>if j=0 then LV else qr:=⟨_,rfl⟩
  obtain ⟨Ls,ar⟩:∃ Ls:Nat->List (List Int),Ls=fun j=>if j=0 then L else u.rays:=⟨_,rfl⟩
  obtain ⟨cs,a9⟩:∃ cs:Nat->Nat,cs=fun j=>if j=0 then n else u.rays.length:=⟨_,rfl⟩
  have bD:∀ j,∀ r∈Ls j,r.length=d/\∀ z∈r,Bt f z:=fun j r hr=>by
   rw [ar] at hr;by_cases h:j=0
   ·exact bB r (by simpa [h] using hr)
   ·exact hR r (by simpa [h] using hr)
  have bC:∀ j,(Ls j).length<1099511627776:=fun j=>by
   rw [ar];by_cases h:j=0
   ·simp [h]; omega
   ·simp [h]; omega
  have cW:∀ j m,j<2->m<2->m≠j->Sep (F j) (F m):=fun j m h1 h2 h3=>by
   rw [X];by_cases h:j=0
   ·have h4:m≠0:=zO
    simpa [h,h4] using a1
   ·have h4:m=0:=zO
    simpa [h,h4] using a1.symm
  have cV:∀ j,Sep (F j) qd:=fun j=>by
   rw [X];by_cases h:j=0
   ·simpa [h] using bv
   ·simpa [h] using s3
  have b8:∀ j,j<2->bz [LV,qr,qd] j none=some (F j):=fun j h=>by
   rw [X]
   match j,h with
   | 0,_=>rfl
   | 1,_=>rfl
  have b6:∀ j,j<2->bz [AV.ptr ub 0,AV.ptr ub 1] j none=some (.ptr ub j):=fun j h=>by
   match j,h with
   | 0,_=>rfl
   | 1,_=>rfl
  obtain ⟨w',bs⟩:∃ w',w'=Lin.foldV a up:=⟨_,rfl⟩
  rw [<- bs];have ca:RowV o va a:=ha.mono M.sub;refine am H0 [] (fun j _ H'=>FoldC H H0 H' ub LV qr qd u.done (H.next+12) (Lin.dot a up) af va up a (o.next+6)/\∀ m,m<2->Wr H0 H' (F m) (if m<j then (Ls m).map w' else Ls m) (cs m)) (a:=0) (N:=2) rfl (by refine zW s ?_; rfl) (zV s) (Vz _) zO (by simp only [Vg,s]; rfl) rfl (fun j vs H' m ⟨h1,h2⟩=>⟨h1.mono (Sub.bump H' m),fun m' bW=>(h2 m' bW).mono (Sub.bump H' m)⟩) (by
   have kk:Kp H0 o:=hk.trans M
   have:=kk.le
   exact zK) ⟨⟨by exact da,bu bg,?_,?_,?_,by exact da,fun c e hc hne _=>by
   have a7:=M.get hc
   have:=t _ _ a7
   rw [al zO,al hne]; exact a7⟩,?_⟩ ?_ ?_
  ·obtain ⟨q,bd,bZ⟩:=a6;have cF:=t _ _ bd;have cz:H.next+12≠ub:=zO
   have m1:NoTy [ae] o ub:=NoTy.ty K zU;have m2:NoTy [ae] o (o.next+6):=NoTy.none (t.fresh zO);exact ⟨q,by exact zV bd,SlV.monoT (E:=bY cB) zS bZ⟩
  ·have m1:NoTy (ad :: intE.tys) o ub:=NoTy.ty K zU;have m2:NoTy (ad :: intE.tys) o (o.next+6):=NoTy.none (t.fresh zO);exact SlV.monoT (E:=intE) zS br
  ·have m1:NoTy (ad :: intE.tys) o ub:=NoTy.ty K zU;have m2:NoTy (ad :: intE.tys) o (o.next+6):=NoTy.none (t.fresh zO);exact SlV.monoT (E:=intE) zS ca
  ·intro m hm;rw [if_neg zO,X,ar,a9];by_cases h:m=0
   ·simpa [h] using bV
   ·simpa [h] using bu bl
  ·rintro j T2 y _ hj p bJ Y S ⟨p1,p2⟩;have w5:=S.wf;have ci:=S.le;have t50:aa T2 50=.own (o.next+6) 0 2 2 1 true:=(Y.at_ 50 zU).trans (zV s);have cq:aa T2 7=.ptr (H.next+12) 0:=(Y.at_ 7 zU).trans (zV (aA s t7));have cn:aa T2 1=va:=(Y.at_ 1 zU).trans (zV (aA s t1));have a2:aa T2 6=af:=(Y.at_ 6 zU).trans (zV (aA s t6));have aL:=p2 j hj;rw [if_neg zO] at aL;have ap:=b8 j hj;have b7:=b6 j hj;have ck:=p1.u;have cj:=p1.sb;simp only [Vg,s] at p;refine zW (jY p t50 bJ cj b7 ck ap aL.sl.lenV) ?_;refine am H0 [] (fun k _ H'=>FoldC H H0 H' ub LV qr qd u.done (H.next+12) (Lin.dot a up) af va up a (o.next+6)/\Wr H0 H' (F j) (jw w' (Ls j) k) (cs j)/\∀ m,m<2->m≠j->Wr H0 H' (F m) (if m<j then (Ls m).map w' else Ls m) (cs m)) (a:=0) (N:=(Ls j).length) rfl (by refine zW p ?_; rfl) (zV p) (Vz _) (by have:=bC j; omega) (by simp only [Vg,p]; rfl) rfl (fun k vs H' m ⟨h1,h2,h3⟩=>⟨h1.mono (Sub.bump H' m),h2.mono (Sub.bump H' m),fun m' a b=>(h3 m' a b).mono (Sub.bump H' m)⟩) zK ⟨p1.mono (Sub.bump y _),by rw [zt]; exact aL.mono (Sub.bump y _),fun m hm _=>(p2 m hm).mono (Sub.bump y _)⟩ ?_ ?_
   ·rintro k V G _ ax I aI Z ak ⟨q1,q2,q3⟩;have w6:=ak.wf;have cH:=ak.le;have co:aa V 58=F j:=(Z.at_ 58 zU).trans (zV p);have t9:aa V 9=.ptr ub j:=(Z.at_ 9 zU).trans (zV p);have aD:aa V 7=.ptr (H.next+12) 0:=(Z.at_ 7 zU).trans (zV (aA p cq));have ay:aa V 1=va:=(Z.at_ 1 zU).trans (zV (aA p cn));have az:aa V 6=af:=(Z.at_ 6 zU).trans (zV (aA p a2));have cA:=rS w' (Ls j) (Xe ax);obtain ⟨vr,aS,bU,bM⟩:=q2.elem (j:=k) zO;have bI:(jw w' (Ls j) k)[k]'zO=(Ls j)[k]:=by
     have:=B2 w' (Ls j) ax
     rw [Vk zO] at this;exact Option.some.inj this
    rw [bI] at aS;have W:=bD j _ (Vm ax);have U:=q1.u;obtain ⟨bq,Q,bE⟩:=q1.bx;simp only [Vg,p] at I;refine zW (cp I co aI bM bU) ?_;refine aM ?_;refine zD (lh I t9 aD ay az U ap Q @aQ) ?_;have ba:=ol ah W.2 (ai.trans W.1.symm) zO;refine AnsH.use (vz C zF (q1.va.mono (zG G)) (aS.mono (zG G)) (ai.trans W.1.symm) zO ah W.2 zO) ?_;rintro v7 H7 ⟨b1,bP⟩;obtain ⟨aX,_,w7⟩:=zT G zK bP;have a0:=aX.get U;have aZ:=aX.get Q;refine zD (sG I t9 aD ay az U ap Q @aQ a0 aZ) ?_;refine AnsH.use (AN C zF b1 (ba.sm zO)) ?_;rintro v8 H8 ⟨b2,bQ⟩;have aq:Kp G H8:=Kp.trans aX (Kp.trans zK bQ);have cL:=aq.le;have w8:=aq.wf;have bx:=aq.get U;have bw:=aq.get Q;refine zD (Mm I t9 aD ay az U ap Q @aQ a0 aZ bx bw) ?_;have bG:=ol ah bn (ai.trans bo.symm) zO;refine AnsH.use (FX C zF (m:=Lin.dot a up) (n:=-(Lin.dot a (Ls j)[k])) ⟨bq,rfl,bE.mono (zG G)⟩ (b2.mono (zG H8)) (aS.mono (zG G)) (q1.vl.mono (zG G)) (W.1.trans bo.symm) zO bG ba.neg W.2 bn zO) ?_;rintro v9 H9 ⟨bm,bR⟩;have O:Kp G H9:=Kp.trans aq (Kp.trans zK bR);have cM:=O.le;have ch:Kp H0 H9:=ak.trans O;have cI:=ch.le;have w9:=O.wf;have cu:=O.get U;have ct:=O.get Q;obtain ⟨b',bA,J,cw,av,bN,bL,cg⟩:=(q2.mono O.sub).store (j:=k) zO bm;have o9:=bm.one;have cE:=w9 _ _ av;refine zD (JV I t9 aD ay az U ap Q @aQ a0 aZ bx bw cu ct bL av bN) ?_;have cf:w' (Ls j)[k]=Lin.prime (Lin.mix (Lin.dot a up) (Ls j)[k] (-(Lin.dot a (Ls j)[k])) up):=by rw [bs]; rfl
    refine ⟨zK,(q1.mono O.sub).put av (cV j _ J) (fun e he=>by
     have hlt:=hw _ _ he;rw [X] at J;by_cases bb:j=0
     ·simp only [bb,if_true] at J;rw [ag] at J;cases J;omega
     ·simp only [bb,if_false] at J;exact J),?_,fun m hm hne=>((q3 m hm hne).mono O.sub).put (cW j m hj hm hne _ J) (NoTy.ty av zU)⟩
    rw [<- B0 w' (Ls j) ax,cf];exact cg
   ·rintro V G I Z ak ⟨q1,q2,q3⟩;simp only [Vg,p] at I;rw [B3] at q2;refine zW I ?_;refine ⟨ak,q1,fun m hm=>?_⟩;by_cases h:m=j
    ·subst h; rw [if_pos zO]; exact q2
    ·have:=q3 m hm h
     by_cases h2:m<j
     ·rw [if_pos h2] at this; rw [if_pos zO]; exact this
     ·rw [if_neg h2] at this; rw [if_neg zO]; exact this
  ·rintro T2 y p Y S ⟨p1,p2⟩;have w5:=S.wf;have ci:=S.le;have a2:aa T2 6=af:=(Y.at_ 6 zU).trans (zV (aA s t6));simp only [Vg,s] at p;refine zW (aB p a2 cU) ?_;have p0:=p2 0 zO;have aY:=p2 1 zO;rw [if_pos zO,X,ar,a9] at p0 aY;simp only [if_true,Nat.one_ne_zero,if_false] at p0 aY;have e:(u.rays.map w').length=u.rays.length:=by simp
   refine ⟨zK,p1.vl.mono (Sub.bump y _),⟨LV,qr,qd,n,p1.u,p0.mono (Sub.bump y _),?_,p1.d.mono (Sub.bump y _),a1,bv,s3⟩,fun c e hc hne hq=>p1.oth c e hc hne (hq ql qr qd (by first | exact ab | rfl)),fun q1 q2 q3 h=>by
    try rw [ab] at h
    cases h;exact ⟨LV,p1.u⟩⟩
   show Wr H0 _ qr (u.rays.map w') (u.rays.map w').length;rw [e];exact aY.mono (Sub.bump y _)
end
section
variable {tab:Nat->Option au} (ev:Src->AV) (H:Heap) (id:Nat) (Q:AV->Heap->Prop)
def Ep:lJ tab ev H id .mkmap Q=Q (.map id) (H.put id (.map [])):=by
 rw [bT,gn tab ev H id Q (o:=.mkmap) (fun f a e=>by cases e) rfl]; rfl
def gT (kd:BK) (z:AV) (x i:Src) (ok:Bool):lJ tab ev H id (.lookup kd z x i ok) Q=gu (pX H kd z (ev x) (ev i) ok) (fun v=>Q v H) ():=by
 rw [bT,gn tab ev H id Q (o:=.lookup kd z x i ok) (fun f a e=>by cases e) rfl];show gY ((pX H kd z (ev x) (ev i) ok).map fun v=>(v,H)) _=_;cases pX H kd z (ev x) (ev i) ok <;> rfl
def BU (kd:BK) (m k v:Src):lJ tab ev H id (.mapUpd kd m k v) Q=gu (iB H kd (ev m) (ev k) (ev v)) (fun H'=>Q .undef H') ():=by
 rw [bT,gn tab ev H id Q (o:=.mapUpd kd m k v) (fun f a e=>by cases e) rfl];show gY ((iB H kd (ev m) (ev k) (ev v)).map fun H'=>(AV.undef,H')) _=_;cases iB H kd (ev m) (ev k) (ev v) <;> rfl
theorem l7 {kd:BK} {z:AV} {x i:Src} {ok:Bool}:uq (.lookup kd z x i ok)=true:=rfl
end
def pS (es:List (AV × AV)):Prop:=∀ p∈es,∃ z,p.1=.int .i64 z
def gK (es:List (AV × AV)) (z:Int):AV:=match ic (.int .i64 z) es with
 | some (some v)=>v
 | _=>.nilSl
def Ic:∀ {es:List (AV × AV)},pS es->∀ z,∃ o,ic (.int .i64 z) es=some o
 | [],_,z=>⟨none,rfl⟩
 | (k,v) :: es,h,z=>by
  obtain ⟨y,hy⟩:=h _ (Vt ..);simp only at hy;subst hy;have a:=Ic (es:=es) (fun p hp=>h p (Vn _ hp)) z;simp only [ic,dV,if_true];cases z == y with
  | true=>exact ⟨_,rfl⟩
  | false=>exact a
def DG {H:Heap} {mb:Nat} {es:List (AV × AV)} (hm:H.get mb=some (.map es)) (a:pS es) (z:Int):pX H .int .nilSl (.map mb) (.int .i64 z) false=some (gK es z):=by
 obtain ⟨o,b⟩:=Ic a z;simp only [pX,fJ,YQ,if_false,uP,hm,b,gK];cases o <;> rfl
def S2 {H:Heap} {mb:Nat} {es:List (AV × AV)} (hm:H.get mb=some (.map es)) (a:pS es) (z:Int) (v:AV):iB H .int (.map mb) (.int .i64 z) v=some (H.put mb (.map (mc (.int .i64 z) v es))):=by
 obtain ⟨o,b⟩:=Ic a z;simp only [iB,fJ,YQ,if_false,hm,b]
def EF:∀ {es:List (AV × AV)},pS es->∀ z v,pS (mc (.int .i64 z) v es)
 | [],_,z,v=>fun p hp=>by simp [mc] at hp; exact ⟨z,by rw [hp]⟩
 | (k,w) :: es,h,z,v=>by
  obtain ⟨y,hy⟩:=h _ (Vt ..);simp only at hy;subst hy;have a:=EF (es:=es) (fun p hp=>h p (Vn _ hp)) z v;simp only [mc,dV,if_true];cases z == y with
  | true =>
   intro p hp;rcases VK.1 hp with rfl | hp
   ·exact ⟨z,rfl⟩
   ·exact h p (Vn _ hp)
  | false =>
   intro p hp;rcases VK.1 hp with rfl | hp
   ·exact ⟨y,rfl⟩
   ·exact a p hp
def r8:∀ {es:List (AV × AV)},pS es->∀ z v a,gK (mc (.int .i64 z) v es) a=if a=z then v else gK es a
 | [],_,z,v,a=>by
  simp only [mc,gK,ic,dV,if_true];by_cases h:a=z
  ·simp [h]
  ·have e:(a == z)=false:=by simpa using h
   simp [h,e]
 | (k,w) :: es,h,z,v,a=>by
  obtain ⟨y,hy⟩:=h _ (Vt ..);simp only at hy;subst hy;have c:=r8 (es:=es) (fun p hp=>h p (Vn _ hp)) z v a;simp only [gK] at c;simp only [mc,dV,if_true,gK];by_cases b:z=y
  ·subst b;simp only [beq_self_eq_true,ic,dV,if_true];by_cases h:a=z
   ·simp [h]
   ·have e:(a == z)=false:=by simpa using h
    simp [h,e]
  ·have e1:(z == y)=false:=by simpa using b
   simp only [e1,ic,dV,if_true];by_cases h:a=y
   ·subst h;simp [Ne.symm b]
   ·have e2:(a == y)=false:=by simpa using h
    simp only [e2];exact c
def L4 {H H':Heap} {id sz bytes ty c m:Nat} {v f:AV} {d:List AV} {fr:Option Nat} (h:cS H id sz bytes ty v m d fr=some (f,H')) (hc:c≠id) (hn:H.get c=none):H'.get c=none:=by
 unfold cS at h;split at h
 ·split at h
  ·cases h; exact hn
  ·split at h
   ·cases h; rw [al hc]; exact hn
   ·cases h
 ·split at h
  ·rename_i b off n g i ex x cs j rw' hb;have a:c≠b:=fun e=>by rw [<- e,hn] at hb; cases hb
   split at h
   ·split at h
    ·split at h
     ·cases h; exact hn
     ·split at h
      ·cases h; rw [al a]; exact hn
      ·cases h
    ·split at h
     ·cases h; rw [al hc]; exact hn
     ·split at h
      ·cases h; rw [al hc,cC a]; exact hn
      ·cases h
   ·cases h
  ·cases h
 ·cases h
def CS {H H':Heap} {id sz bytes ty c:Nat} {v w a:AV} (h:dr H id sz bytes ty v w=some (a,H')) (hc:c≠id) (hn:H.get c=none):H'.get c=none:=by
 unfold dr at h;split at h
 ·cases h
 ·split at h
  ·cases h
  ·exact L4 h hc hn
def Frm (v:AV) (H H':Heap):Prop:=∀ b e,H.get b=some e->js v≠some b->H'.get b=some e
def Frm.subT {α:Type} {E:fO α} {ty:Nat} {tys:List Nat} {H0 H H':Heap} {v:AV} {l:List α} (a:Frm v H H') (h:Bl E ty H0 H v l) (hn:ty ∉ tys):SubT tys H H':=fun c cs t r d hc=>a c _ hc fun e=>by
 rcases h with ⟨rfl,-⟩ | ⟨b,cells,rfl,hb,-⟩
 ·cases e
 ·cases e;rw [hb] at hc; cases hc;exact hn d
def Frm.other {α:Type} {E:fO α} {ty:Nat} {H0 H H':Heap} {v:AV} {l:List α} (c:Frm v H H') (h:Bl E ty H0 H v l) {b:Nat} {e:Ent} (hb:H.get b=some e) (he:∀ cs,e ≠ .cells cs ty true):H'.get b=some e:=c b e hb fun e1=>by
 rcases h with ⟨rfl,-⟩ | ⟨b',cells,rfl,a,-⟩
 ·cases e1
 ·cases e1;rw [hb] at a; cases a;exact he _ rfl
def Frm.bl {α β:Type} {E:fO α} {E':fO β} {ty:Nat} {H0 H H':Heap} {v w:AV} {l:List α} {m:List β} (c:Frm v H H') (h:Bl E ty H0 H v l) (a:Bl E' ty H0 H w m) (hs:Sep v w) (d:ty ∉ E'.tys):Bl E' ty H0 H' w m:=by
 rcases a with a | ⟨b,cells,rfl,hb,hc,h0⟩
 ·exact .inl a
 ·exact .inr ⟨b,cells,rfl,c b _ hb fun e=>hs b e rfl,hc.mono (c.subT h d),h0⟩
def Bl.push2 {α:Type} {E:fO α} {ty ty2 bytes id id2:Nat} {H0 H:Heap} {v:AV} {l:List α} {cs:List AV} {a:α} (h:Bl E ty H0 H v l) (A:ty ∉ E.tys) (w:Kp H0 H) (hr:E.R H cs a) (s:H0.next<=id) (t:id<H.next) (r:H.get id=none) (j:H0.next<=id2) (u:id2<H.next) (i:H.get id2=none) (hne:id≠id2)
  (hb:(l.length+1)*bytes<=70368744177664) (hl:l.length+1<4611686018427387904) :
  ∃ n H',dr (H.put id2 (.cells cs ty2 true)) id E.sz bytes ty v (.own id2 0 1 1 E.sz true)=some (.own id 0 n n E.sz false,H')/\Bl E ty H0 H' (.own id 0 n n E.sz false) (l++[a])/\Kp H0 H'/\H'.next=H.next/\Frm v H H'/\(∀ c,c≠id->c≠id2->H.get c=none->H'.get c=none):=by
 have f:Sub H (H.put id2 (.cells cs ty2 true)):=aX i;have y:Kp H0 (H.put id2 (.cells cs ty2 true)):=w.put j u;have hy:SlV E ty2 (H.put id2 (.cells cs ty2 true)) (.own id2 0 1 1 E.sz true) [a] :=
  (show Own E ty2 H0 _ id2 true (.own id2 0 1 1 E.sz true) [a] from ⟨cs,rfl,ap _ _ _,Cells.one (E.mono (f.t _) hr),j⟩).sl
 have B:∀ b n,v=.own b 0 n n E.sz false->b≠id2:=fun b n d e=>by
  rcases h with ⟨h,-⟩ | ⟨b',cells,h,g,-⟩
  ·rw [h] at d; cases d
  ·rw [h] at d; cases d;rw [e,i] at g; cases g
 obtain ⟨D,H',e1,e2,e3,k,o,p⟩:=(h.mono f).app (id:=id) (bytes:=bytes) A y hy s t (by rw [al hne]; exact r) (fun b n d off m c z x C=>by cases C; exact B _ _ d rfl) hb hl;obtain ⟨n,rfl⟩:=p (by simp);refine ⟨n,H',e1,e2,e3,k,fun b e q he=>o b e (f.get _ _ q) fun n d=>he (by rw [d]; rfl),fun c h1 h2 h3=>CS e1 h1 (by rw [al h2]; exact h3)⟩
def Bl.push1 {α:Type} {E:fO α} {ty ty2 bytes id id2 k:Nat} {H0 H:Heap} {v:AV} {l:List α} {cs:List AV} {a:α} (h:Bl E ty H0 H v l) (j:ty ∉ E.tys) (d:Kp H0 H) (hr:E.R H cs a) (e:H.next<=id) (i:id<H.next+k) (f:H.next<=id2) (g:id2<H.next+k) (hne:id≠id2)
  (hb:(l.length+1)*bytes<=70368744177664) (hl:l.length+1<4611686018427387904) :
  ∃ n H',dr ((H.up k).put id2 (.cells cs ty2 true)) id E.sz bytes ty v (.own id2 0 1 1 E.sz true)=some (.own id 0 n n E.sz false,H')/\Bl E ty H0 H' (.own id 0 n n E.sz false) (l++[a])/\Kp H0 H'/\H'.next=H.next+k/\Frm v H H'/\(∀ c,c≠id->c≠id2->H.get c=none->H'.get c=none):=by
 have m:=d.le;exact Bl.push2 (H:=H.up k) (h.mono (Sub.bump H k)) j (d.up k) (E.mono ((Sub.bump H k).t _) hr) zO i (d.wf.fresh (b:=id) e) zO g (d.wf.fresh (b:=id2) f) hne hb hl
def zA (a:List Int) (R:List (List Int)) (k:Nat) (s:Int):List Int:=((List.range k).filter fun i=>gw (Lin.dot a (R.getD i [])) == s).map fun i:Nat=>(i:Int)
def GV (a:List Int) (R:List (List Int)) (k:Nat) (s:Int):zA a R (k+1) s=zA a R k s++if gw (Lin.dot a (R.getD k []))=s then [(k:Int)] else []:=by
 unfold zA;rw [Z2,Wa,V7];congr 1;by_cases h:gw (Lin.dot a (R.getD k []))=s
 ·have e:List.filter (fun i=>gw (Lin.dot a (R.getD i [])) == s) [k]=[k]:=Yg (p:=fun i=>gw (Lin.dot a (R.getD i [])) == s) (beq_iff_eq.2 h);rw [if_pos h,e]; rfl
 ·have e:List.filter (fun i=>gw (Lin.dot a (R.getD i [])) == s) [k]=[]:=Yh (p:=fun i=>gw (Lin.dot a (R.getD i [])) == s) (fun h'=>h (beq_iff_eq.1 h'));rw [if_neg h,e]; rfl
def KA (a:List Int) (R:List (List Int)) (k:Nat) (s:Int):(zA a R k s).length<=k:=by
 unfold zA;rw [Vp];exact VB (Wh _ _) (by simp)
structure SidesV (H0 H:Heap) (mb:Nat) (a:List Int) (R:List (List Int)) (k:Nat) (es:List (AV × AV)):Prop where
 get:H.get mb=some (.map es)
 keys:pS es
 bl:∀ s,Bu H0 H (gK es s) (zA a R k s)
 sep:∀ s s',s≠s'->Sep (gK es s) (gK es s')
def SidesV.mono {H0 H H':Heap} {mb:Nat} {a:List Int} {R:List (List Int)} {k:Nat} {es:List (AV × AV)} (hs:Sub H H') (h:SidesV H0 H mb a R k es):SidesV H0 H' mb a R k es :=
 ⟨hs.get _ _ h.get,h.keys,fun s=>(h.bl s).mono hs,h.sep⟩
abbrev Sg:fO (List Nat):=bY (sO (bY cB) ae)
structure CutV (H H':Heap) (mb:Nat) (a:List Int) (R D:List (List Int)) (k:Nat) (vm vd:AV) (es:List (AV × AV)) (Ws:List (List Nat)):Prop where
 bm:Bl Sg eN H H' vm Ws
 wl:Ws.length=k
 wok:∀ t (h:t<R.length) (h':t<Ws.length),pR (zeros R[t] D) Ws[t]
 bd:Bl intE ad H H' vd ((R.take k).map (Lin.dot a))
 sd:SidesV H H' mb a R k es
def CutV.mono {H H' H'':Heap} {mb:Nat} {a:List Int} {R D:List (List Int)} {k:Nat} {vm vd:AV} {es:List (AV × AV)} {Ws:List (List Nat)} (hs:Sub H' H'') (h:CutV H H' mb a R D k vm vd es Ws):CutV H H'' mb a R D k vm vd es Ws :=
 ⟨h.bm.mono hs,h.wl,h.wok,h.bd.mono hs,h.sd.mono hs⟩
def NoTy.map {tys:List Nat} {H:Heap} {b:Nat} {es:List (AV × AV)} (h:H.get b=some (.map es)):NoTy tys H b:=fun cs t r _ e=>by rw [h] at e; cases e
def Bl.blk {α:Type} {E:fO α} {ty:Nat} {H0 H:Heap} {v:AV} {l:List α} (h:Bl E ty H0 H v l) {b:Nat} (hb:js v=some b):∃ cells,H.get b=some (.cells cells ty true):=by
 rcases h with ⟨rfl,-⟩ | ⟨b',cells,rfl,h1,-⟩
 ·cases hb
 ·cases hb; exact ⟨_,h1⟩
section
variable {tab:Nat->Option au} {H:Heap} {s:AV}
def LH (C:Code tab) {ub mb k:Nat} {ql qr qd va vm vd:AV} {a:List Int} {R D:List (List Int)} {d e f:Nat} {es:List (AV × AV)} {Ws:List (List Nat)} {T1:Tm} {i:Heap} (aI:H.get ub=some (.cells [ql,qr,qd] aP true)) (aD:dS H qr R) (bl:dS H qd D) (ha:RowV H va a) (bc:0<d) (hd:d<=64) (ax:a.length=d) (hR:∀ r∈R,r.length=d/\∀ z∈r,Bt f z) (hD:∀ r∈D,r.length=d/\∀ z∈r,Bt e z) (a7:D.length<=1024) (av:∀ z∈a,Bt e z) (hb:e+f+7<=8796093022208) (bB:R.length<1099511627776) (y:Kp H i) (L:k<R.length) (m:T1.length=135)
  (t0:aa T1 0=.ptr ub 0) (t1:aa T1 1=va) (t6:aa T1 6=.map mb) (bx:aa T1 23=qr) (aA:aa T1 25=.int .i64 (k:Int)) (v7:aa T1 7=vm) (v8:aa T1 8=vd) (bD:H.next<=mb) (hc:CutV H i mb a R D k vm vd es Ws) {Q:Ex->Tm->Heap->Prop}
  (hq:∀ T2 H2 aO aN a3 aR,T2.length=135->aa T2 7=aO->aa T2 8=aN->Kp H H2->CutV H H2 mb a R D (k+1) aO aN a3 aR->Q .nrm T2 H2) :
  WC tab false (.seq (.region [⟨some 27,.mv (.t 25),none⟩,⟨some 28,.indexAddr 1 (.t 23) (.t 25),none⟩,⟨some 29,.load none (.t 28),none⟩,⟨some 9,.mv (.t 27),none⟩,⟨some 10,.mv (.t 29),none⟩]) <|
   .seq (.region [⟨some 30,.mv (.t 1),none⟩,⟨some 31,.mv (.t 10),none⟩,⟨some 32,.call (.c (.fn (.func pF) [] [])) [(.t 30),(.t 31)],none⟩,⟨some 11,.alloc ad [(.bool false),.nilSl],none⟩,⟨none,.store 2 (.t 11) (.t 32),none⟩]) <|
   .seq (.region [⟨some 33,.mv (.t 8),none⟩,⟨some 34,.load (some 2) (.t 11),none⟩,⟨some 35,.buildSlice ad 2 [(.bool false),.nilSl] 1 [((0,2),(.t 34))],none⟩,⟨some 36,.append 2 32 ad [(.bool false),.nilSl] (.t 33) (.t 35),none⟩,⟨some 37,.mv (.t 7),none⟩,⟨some 38,.mv (.t 0),none⟩,⟨some 39,.mv (.t 10),none⟩,⟨some 40,.call (.c (.fn (.func fc) [] [])) [(.t 38),(.t 39)],none⟩,⟨some 41,.buildSlice eN 1 [.nilSl] 1 [((0,1),(.t 40))],none⟩,⟨some 42,.append 1 24 eN [.nilSl] (.t 37) (.t 41),none⟩,⟨some 8,.mv (.t 36),none⟩,⟨some 7,.mv (.t 42),none⟩]) <|
   .draw [
    ⟨(some 43),.mv (.t 6),none,[(6,none)],0,[(0,[]),(1,[]),(2,[]),(3,[])]⟩,
    ⟨(some 44),.load (some 2) (.t 11),none,[(11,none)],0,[(0,[])]⟩,
    ⟨(some 45),.call (.c (.fn (.func ky) [] [])) [(.t 44)],none,[(44,(some 1))],2,[(0,[])]⟩,
    ⟨(some 46),.mv (.t 6),none,[(6,none)],0,[(0,[]),(1,[]),(2,[])]⟩,
    ⟨(some 47),.load (some 2) (.t 11),none,[(11,none)],0,[(0,[]),(1,[])]⟩,
    ⟨(some 48),.call (.c (.fn (.func ky) [] [])) [(.t 47)],none,[(47,(some 4))],2,[(1,[])]⟩,
    ⟨(some 49),.lookup .int .nilSl (.t 46) (.t 48) false,none,[(46,(some 3)),(48,(some 5))],0,[(2,[])]⟩,
    ⟨(some 50),.mv (.t 9),none,[(9,none)],0,[(0,[]),(1,[]),(2,[])]⟩,
    ⟨(some 51),.buildSlice gq 1 [(.int .i64 0)] 1 [((0,1),(.t 50))],none,[(50,(some 7))],1,[(0,[]),(1,[]),(2,[])]⟩,
    ⟨(some 52),.append 1 8 gq [(.int .i64 0)] (.t 49) (.t 51),none,[(49,(some 6)),(51,(some 8))],2,[(2,[8])]⟩,
    ⟨none,.mapUpd .int (.t 43) (.t 45) (.t 52),none,[(43,(some 0)),(45,(some 2)),(52,(some 9))],2,[(3,[])]⟩] []) T1 i Q:=by
 have hw:=y.wf0;have w1:=y.wf;have bJ:=y.le;have bG:=y.le;obtain ⟨vr,aJ,bh⟩:=dD aD L;have bg:=SlV.idx1 aD .i64 k L;have bi:=bU y.sub bh;have u:=hR _ (Vm L);have bP:=hw _ _ aI;have az:=ol av u.2 (ax.trans u.1.symm) zO;refine zW (gS m t0 t1 bx aA bg bi) ?_;refine AnsH.use (vz C zF (ha.mono (zG H)) (aJ.mono (zG H)) (ax.trans u.1.symm) zO av u.2 zO) ?_;rintro v H2 ⟨⟨w,rfl,ae⟩,Z⟩;obtain ⟨bq,_,_⟩:=zT i zK Z;have aK:Kp H H2:=y.trans bq;have bK:=aK.le;have w2:=aK.wf;have n2:i.next+10<=H2.next:=Z.le
 have f8:H2.get (i.next+8)=none:=Z.free (show _<i.next+10 by omega) (w1.fresh (b:=i.next+8) zO);have ow:=ae.one;obtain ⟨z,hz⟩:∃ z,z=Lin.dot a R[k]:=⟨_,rfl⟩
 rw [<- hz] at ae az ⊢;obtain ⟨l,q⟩:∃ X,X=(H2.put (i.next+8) (.cells [.bool false,.nilSl] ad true)).put (i.next+8) (.cells [.bool (decide (z<0)),w] ad true):=⟨_,rfl⟩
 have bv:Sub H2 l:=by rw [q]; exact (aX f8).put f8 _
 have af:Kp H l:=by rw [q]; exact zK
 have nc:l.next=H2.next:=by rw [q]; rfl
 have bb:l.get (i.next+8)=some (.cells [.bool (decide (z<0)),w] ad true):=by rw [q]; exact ap _ _ _
 have br:Kp i l:=by rw [q]; exact zK
 have cc:=hc.mono br.sub;have aF:cd l w z.natAbs:=ae.mono bv;have wc:=af.wf;have bC:((R.take k).map (Lin.dot a)).length=k:=by simp; omega
 obtain ⟨B,G,Y,ao,T,bu,p,al⟩:=Bl.push1 (ty2:=ad) (bytes:=32) (id:=l.next+3) (id2:=l.next+2) (k:=12) (cs:=[.bool (decide (z<0)),w]) (a:=z) cc.bd zU af ⟨w,rfl,aF⟩ zO zO zO zO zO zO zO;rw [nc] at Y ao bu al;have aY:dr ((((H2.up 12).put (i.next+8) (.cells [.bool false,.nilSl] ad true)).put (i.next+8) (.cells [.bool (decide (z<0)),w] ad true)).put (H2.next+2) (.cells [.bool (decide (z<0)),w] ad true)) (H2.next+3) 2 32 ad vd (.own (H2.next+2) 0 1 1 2 true)=some (.own (H2.next+3) 0 B B 2 false,G):=by rw [q] at Y; exact Y
 refine zW (cp m t0 v7 v8 aY) ?_;have b0:=T.wf;have bo:l.get ub=some (.cells [ql,qr,qd] aP true):=af.get aI;have bn:=p.other cc.bd bo (fun cs h=>by injection h with _ h2; exact absurd h2 zU);have a8:∀ x,js vd=some x->x<i.next:=fun x hx=>by
  obtain ⟨cells,h⟩:=hc.bd.blk hx;exact w1 _ _ h
 have a9:G.get (i.next+8)=some (.cells [.bool (decide (z<0)),w] ad true):=p _ _ bb fun e=>by have:=a8 _ e; omega
 have bm:cd G w z.natAbs:=SlV.monoT (E:=bY cB) (p.subT cc.bd zU) aF;refine AnsH.use (LL C zF bn (bl.mono T.sub) (aJ.mono T.sub) a7 bc hd u.1 (fun x hx=>(hD x hx).1) u.2 (fun x hx=>(hD x hx).2) zO) ?_;rintro am I ⟨W,hW,mW,j⟩;have ag:Kp H I:=T.trans j;have bL:=ag.le;have b1:=ag.wf;have bV:=hW.one;have bH:=j.le;have a4:I.get (H2.next+8)=none:=j.free zO (al _ zO zO (wc.fresh (b:=H2.next+8) zO));have a5:I.get (H2.next+9)=none:=j.free zO (al _ zO zO (wc.fresh (b:=H2.next+9) zO));have aq:Bl Sg eN H G vm Ws:=cc.bm.monoT (p.subT cc.bd zU);have bw:SidesV H G mb a R k es:=by
  refine ⟨p.other cc.bd cc.sd.get (fun cs h=>by cases h),cc.sd.keys,fun s=>?_,cc.sd.sep⟩;exact (cc.sd.bl s).monoT (p.subT cc.bd zU)
 obtain ⟨U,c,aZ,aS,ah,bQ,K,bW⟩:=Bl.push2 (ty2:=eN) (bytes:=24) (id:=H2.next+9) (id2:=H2.next+8) (cs:=[am]) (a:=W) (aq.mono j.sub) zU ag ⟨am,rfl,hW⟩ zO zO a5 zO zO a4 zO (by have:=hc.wl; omega) (by have:=hc.wl; omega);have a0:dr (I.put (H2.next+8) (.cells [am] eN true)) (H2.next+9) 1 24 eN vm (.own (H2.next+8) 0 1 1 1 true)=some (.own (H2.next+9) 0 U U 1 false,c):=aZ;refine zW (cp m t0 v7 v8 a0) ?_;have J:Bl Sg eN H I vm Ws:=aq.mono j.sub;have aQ:=ah.wf;have ba:=j.get a9;have P:=K.other J ba (fun cs h=>by injection h with _ h2; exact absurd h2 zU);have aE:cd c w z.natAbs:=SlV.monoT (E:=bY cB) (K.subT J zU) (bm.mono j.sub);have aW:Bl intE ad H c (.own (H2.next+3) 0 B B 2 false) ((R.take k).map (Lin.dot a)++[z]):=(ao.mono j.sub).monoT (K.subT J zU);have ak:SidesV H c mb a R k es:=by
  have O:=bw.mono j.sub;refine ⟨K.other J O.get (fun cs h=>by cases h),O.keys,fun s=>?_,O.sep⟩;exact (O.bl s).monoT (K.subT J zU)
 have aG:eR z:=az.sm zO;have lk:=DG ak.get ak.keys (gw z);refine aM ?_;refine zD (aB m t6 P) ?_;refine AnsH.eq (xo C (z:=z) zF ⟨w,rfl,aE.mono (zG c)⟩ aG) fun bA A=>?_;obtain ⟨ai,_,b2⟩:=zT c zK A;have ay:=ai.get P;refine zD (aV m t6 P ay) ?_;refine AnsH.eq (xo C (z:=z) zF ⟨w,rfl,aE.mono ai.sub⟩ aG) fun o S=>?_;have n:Kp c o:=ai.trans S;have bM:=n.le;have b3:=n.wf;have g:=ak.mono n.sub;have bt:=DG g.get g.keys (gw z);have bI:=n.le;have a6:o.get (c.next+8)=none:=S.free (by have:=A.le; simp only [cO] at this; omega) (A.free (show _<c.next+11 by omega) (aQ.fresh (b:=c.next+8) zO));have ar:o.get (c.next+9)=none:=S.free (by have:=A.le; simp only [cO] at this; omega) (A.free (show _<c.next+11 by omega) (aQ.fresh (b:=c.next+9) zO));have bR:c.next+11<=o.next:=VB A.le S.le
 have aL:Kp H o:=ah.trans n;have bN:=aL.le;have bF:=ah.le;have bE:=KA a R k (gw z);obtain ⟨F,M,a1,aU,bs,bT,N,bZ⟩:=Bl.push2 (ty2:=gq) (bytes:=8) (id:=c.next+9) (id2:=c.next+8) (cs:=[.int .i64 (k:Int)]) (a:=(k:Int)) (g.bl (gw z)) (fun h=>by cases h) aL ⟨_,rfl,rfl⟩ zO zO ar zO zO a6 zO zO zO;have a2:dr (o.put (c.next+8) (.cells [.int .i64 (k:Int)] gq true)) (c.next+9) 1 8 gq (gK es (gw z)) (.own (c.next+8) 0 1 1 1 true)=some (.own (c.next+9) 0 F F 1 false,M):=a1;have ab:M.get mb=some (.map es):=N.other (g.bl (gw z)) g.get (fun cs h=>by cases h);have bz:=S2 ab g.keys (gw z) (.own (c.next+9) 0 F F 1 false);simp -dsimp (maxSteps:=1000000) (disch:=(first | omega | assumption | exact aH _ | exact aT _ _ | exact bf | exact bS _ _ _ | exact bk _ _ | exact bj _ _ _ _ _ _ | exact bX _ _ | exact bp _)) only [↓qh,qg,↓Pc,Pb,Nat.reduceLT,Nat.reduceEqDiff,Nat.reduceAdd,reduceIte,reduceCtorEq,Nat.reduceBEq,Int.reduceEq,Int.reduceLT,Int.reduceLE,Int.reduceAdd,Int.reduceSub,m,t6,P,ay,↓gT,↓BU,l7,bt,aA,a2,bz];have bO:=bs.wf _ _ ab;have V:∀ tys e,SubT tys M (M.put mb e):=fun tys e=>SubT.puts (SubT.refl _ _) (NoTy.map ab);have bd:R.getD k []=R[k]:=by simp [L]
 refine hq _ _ (.own (H2.next+9) 0 U U 1 false) (.own (H2.next+3) 0 B B 2 false) _ (Ws++[W]) (by simp only [Vg]; exact m) (zV m) (zV m) zK ⟨?_,?_,?_,?_,ap _ _ _,EF g.keys _ _,fun s=>?_,fun s s' hne=>?_⟩
 ·exact ((aS.mono n.sub).monoT (N.subT (g.bl (gw z)) zU)).monoT (V _ _)
 ·rw [VC,hc.wl]; rfl
 ·intro t h h';by_cases ht:t<Ws.length
  ·rw [ZW ht]; exact hc.wok t h ht
  ·have e:t=k:=by rw [VC] at h'; have:=hc.wl; simp only [VX,Xi] at h'; omega
   subst e;rw [ZL zO]
   simpa using mW
 ·rw [Vr L,V7];have e:[R[k]].map (Lin.dot a)=[z]:=by rw [hz]; rfl
  rw [e];exact ((aW.mono n.sub).monoT (N.subT (g.bl (gw z)) zU)).monoT (V _ _)
 ·rw [r8 g.keys,GV,bd,<- hz];by_cases hs:s=gw z
  ·subst hs;rw [if_pos rfl,if_pos rfl];exact aU.monoT (V _ _)
  ·rw [if_neg hs,if_neg (fun e=>hs e.symm),Wv];exact (N.bl (g.bl (gw z)) (g.bl s) (g.sep _ _ (fun e=>hs e.symm)) (fun h=>by cases h)).monoT (V _ _)
 ·have aC:∀ s,Sep (.own (c.next+9) 0 F F 1 false) (gK es s):=fun s x hx hy=>by
   cases hx;obtain ⟨cells,hcl⟩:=(g.bl s).blk hy;rw [ar] at hcl; cases hcl
  rw [r8 g.keys,r8 g.keys];by_cases h1:s=gw z
  ·by_cases h2:s'=gw z
   ·exact absurd (h1.trans h2.symm) hne
   ·rw [if_pos h1,if_neg h2]; exact aC s'
  ·by_cases h2:s'=gw z
   ·rw [if_neg h1,if_pos h2]; exact (aC s).symm
   ·rw [if_neg h1,if_neg h2]; exact g.sep s s' hne
end
def cx (a:List Int) (R:List (List Int)) (s:Int):List Nat:=(List.range R.length).filter fun i=>gw (Lin.dot a (R.getD i [])) == s
theorem Dg (a:List Int) (R:List (List Int)) (s:Int):zA a R R.length s=(cx a R s).map fun i:Nat=>(i:Int):=rfl
def zy {a:List Int} {R:List (List Int)} {s:Int} {i:Nat} (h:i∈cx a R s):i<R.length:=by
 unfold cx at h;rw [Vx] at h
 simpa using h.1
def zz (a:List Int) (R:List (List Int)) (s:Int):(cx a R s).length<=R.length:=by
 unfold cx;exact VB (Wh _ _) (by simp)
def BG (D:List (List Int)) (a:List Int) (eq:Bool) (R:List (List Int)) (i:Nat):List (List Int) :=
 (if eq then [] else [R.getD i []])++((cx a R (-1)).filter (Lin.nearB D R i)).map fun k=>Lin.prime (Lin.mx a (R.getD i []) (R.getD k []))
def Jz (D:List (List Int)) (a:List Int) (eq:Bool) (R:List (List Int)):Lin.cutL D a eq R=(cx a R 0).map (R.getD · [])++(cx a R 1).flatMap (BG D a eq R):=by
 have h0:Lin.idxs R (fun r=>Lin.dot a r == 0)=cx a R 0:=by
  unfold Lin.idxs cx;refine Yy fun i _=>?_;rw [WK,beq_iff_eq,beq_iff_eq,fP]
 have h1:Lin.idxs R (fun r=>decide (0<Lin.dot a r))=cx a R 1:=by
  unfold Lin.idxs cx;refine Yy fun i _=>?_;rw [WK,decide_eq_true_eq,beq_iff_eq];unfold gw;split
  ·constructor <;> intro h <;> omega
  ·split
   ·constructor <;> intro h <;> omega
   ·constructor <;> intro h <;> omega
 have h2:Lin.idxs R (fun r=>decide (Lin.dot a r<0))=cx a R (-1):=by
  unfold Lin.idxs cx;refine Yy fun i _=>?_;rw [WK,decide_eq_true_eq,beq_iff_eq];unfold gw;split
  ·constructor <;> intro h <;> omega
  ·split
   ·constructor <;> intro h <;> omega
   ·constructor <;> intro h <;> omega
 unfold Lin.cutL;rw [h0,h1,h2];rfl
def Qc {D R:List (List Int)} {i k:Nat} (hi:i<R.length) (d:k<R.length):Ae (R.map fun r=>zeros r D) i k=Lin.nearB D R i k:=by
 have c:∀ t,t<R.length->(R.map fun r=>zeros r D).getD t []=zeros (R.getD t []) D:=fun t h=>by simp [h]
 have hh:∀ t,t<R.length->DR ((R.map fun r=>zeros r D).getD t []) ((R.map fun r=>zeros r D).getD i []) ((R.map fun r=>zeros r D).getD k [])=(D.all fun b=>!(Lin.dot b (R.getD i []) == 0 && Lin.dot b (R.getD k []) == 0) || Lin.dot b (R.getD t []) == 0):=fun t h=>by
  rw [c t h,c i hi,c k d];have hg:∀ r x,x<D.length->(zeros r D).getD x false=decide (Lin.dot (D.getD x []) r=0):=fun r x hx=>by
   simp [zeros,hx,Lin.dot_comm r]
  unfold DR;rw [WK,VJ,VJ,wg];constructor
  ·intro h b hb;obtain ⟨x,hx,rfl⟩:=WF hb
   have:=h x (by simpa using hx)
   rw [hg _ x hx,hg _ x hx,hg _ x hx] at this;have e:D.getD x []=D[x]:=by simp [hx]
   rw [e] at this
   simpa using this
  ·intro h x hx;have hx:x<D.length:=by simpa using hx
   rw [hg _ x hx,hg _ x hx,hg _ x hx];have e:D.getD x []=D[x]:=by simp [hx]
   rw [e]
   have:=h D[x] (Vm hx)
   simpa using this
 unfold Ae Lin.nearB;rw [Vp,WK,VJ,VJ];constructor
 ·intro h t a
  have:=h t a
  rw [hh t (by simpa using a)] at this;exact this
 ·intro h t a
  have:=h t a
  rw [hh t (by simpa using a)];exact this
def CutV.frm {H H' H'':Heap} {mb:Nat} {a:List Int} {R D:List (List Int)} {k:Nat} {vm vd v:AV} {es:List (AV × AV)} {Ws:List (List Nat)} {l:List (List Int)} (h:CutV H H' mb a R D k vm vd es Ws) (b:Frm v H' H'') (hb:Bl rowsE af H H' v l):CutV H H'' mb a R D k vm vd es Ws :=
 ⟨h.bm.monoT (b.subT hb zU),h.wl,h.wok,h.bd.monoT (b.subT hb zU),b.other hb h.sd.get (fun cs e=>by cases e),h.sd.keys,fun s=>(h.sd.bl s).monoT (b.subT hb zU),h.sd.sep⟩
section
variable {tab:Nat->Option au} {H:Heap} {s:AV}
def DO {H0 H:Heap} {v:AV} {l:List Nat} (h:Bu H0 H v (l.map fun i:Nat=>(i:Int))) {j:Nat} (hj:j<l.length):aW H none (aq v j)=some (.int .i64 ((l[j]:Nat):Int))/\cL 1 v (.int .i64 (j:Int))=some (aq v j):=by
 obtain ⟨c,hc,b⟩:=SlV.at1 h.sl (i:=j) (a:=((l[j]:Nat):Int)) (by simp [hj]);have hc:c=.int .i64 ((l[j]:Nat):Int):=hc;rw [hc] at b;exact ⟨b,SlV.idx1 h.sl .i64 j (by simpa using hj)⟩
def Bl.ge {α:Type} {E:fO α} {ty:Nat} {H0 H:Heap} {v:AV} {l:List α} (h:Bl E ty H0 H v l) {b:Nat} (hb:js v=some b):H0.next<=b:=by
 rcases h with ⟨rfl,-⟩ | ⟨b',cells,rfl,-,-,h0⟩
 ·cases hb
 ·cases hb; exact h0
def Wr.putT {H0 H:Heap} {v:AV} {l:List (List Int)} {c b ty:Nat} {cs:List AV} {r:Bool} {e:Ent} (h:Wr H0 H v l c) (hb:H.get b=some (.cells cs ty r)) (h1:ty≠af) (h2:ty ∉ (sO intE ad).tys):Wr H0 (H.put b e) v l c:=by
 refine h.put (fun a=>?_) (NoTy.ty hb h2);rcases h with ⟨rfl,-⟩ | ⟨b',cells,rfl,h3,-⟩
 ·cases a
 ·cases a;rw [hb] at h3
  injection h3 with d; injection d with _ h5
  exact h1 h5
def Cv (C:Code tab) {ub mb i:Nat} {ql qr qd va vm vd p:AV} {a:List Int} {R D pre:List (List Int)} {d e f:Nat} {es:List (AV × AV)} {Ws:List (List Nat)} {T1:Tm} {B:Heap} (ax:H.get ub=some (.cells [ql,qr,qd] aP true)) (L:dS H qr R) (hd:d<=64) (ad:a.length=d) (hR:∀ r∈R,r.length=d/\∀ z∈r,Bt f z) (a4:D.length<=1024) (ab:∀ z∈a,Bt e z) (hb:2*(e+f+7)+2*f+1<=8796093022208) (a5:R.length<=1099000000000) (a8:pre.length<=1100000000000) (ae:Kp H B) (hi:i<R.length) (aK:T1.length=135)
  (t0:aa T1 0=.ptr ub 0) (v7:aa T1 7=vm) (v8:aa T1 8=vd) (aZ:aa T1 16=.int .i64 (i:Int)) (aY:aa T1 12=p) (a0:aa T1 92=gK es (-1)) (a1:aa T1 93=.int .i64 ((cx a R (-1)).length:Int)) (a2:aa T1 94=.int .i64 0) (hc:CutV H B mb a R D R.length vm vd es Ws) (ho:Bl rowsE af H B p pre) {Q:Ex->Tm->Heap->Prop}
  (hq:∀ T2 H2 aC,T2.length=135->aa T2 12=aC->Kp H H2->CutV H H2 mb a R D R.length vm vd es Ws->Bl rowsE af H H2 aC (pre++((cx a R (-1)).filter (Lin.nearB D R i)).map fun k=>Lin.prime (Lin.mx a (R.getD i []) (R.getD k [])))->Q .nrm T2 H2) :
  WC tab false (Og 6 7 94 93 95 129
  (.seq (.region [
  ⟨(some 96),.indexAddr 1 (.t 92) (.t 94),none⟩,
  ⟨(some 97),.load none (.t 96),none⟩,
  ⟨(some 18),.mv (.t 97),none⟩]) <|
  .seq (.region [
  ⟨(some 98),.mv (.t 7),none⟩,
  ⟨(some 99),.mv (.t 16),none⟩,
  ⟨(some 100),.mv (.t 18),none⟩,
  ⟨(some 101),.call (.c (.fn (.func nj) [] [])) [(.t 98),(.t 99),(.t 100)],none⟩]) <|
  .cond (.t 101)
  (.draw [
   ⟨(some 102),.mv (.t 12),none,[(12,none)],0,[(0,[]),(1,[]),(2,[])]⟩,
   ⟨(some 103),.mv (.t 8),none,[(8,none)],0,[(0,[])]⟩,
   ⟨(some 104),.mv (.t 18),none,[(18,none)],0,[(0,[])]⟩,
   ⟨(some 105),.indexAddr 2 (.t 103) (.t 104),none,[(103,(some 1)),(104,(some 2))],0,[(0,[])]⟩,
   ⟨(some 106),.load (some 2) (.t 105),none,[(105,(some 3))],0,[(0,[])]⟩,
   ⟨(some 107),.call (.c (.fn (.func pD) [] [])) [(.t 106)],none,[(106,(some 4))],2,[(0,[])]⟩,
   ⟨(some 108),.mv (.t 0),none,[(0,none)],0,[(0,[]),(1,[])]⟩,
   ⟨(some 109),.nilCheck (.t 108),none,[(108,(some 6))],0,[(0,[]),(1,[])]⟩,
   ⟨(some 110),.fieldAddr 1 (.t 109),none,[(109,(some 7))],0,[(0,[]),(1,[])]⟩,
   ⟨(some 111),.load none (.t 110),none,[(110,(some 8))],0,[(0,[]),(1,[])]⟩,
   ⟨(some 112),.mv (.t 16),none,[(16,none)],0,[(0,[]),(1,[])]⟩,
   ⟨(some 113),.indexAddr 1 (.t 111) (.t 112),none,[(111,(some 9)),(112,(some 10))],0,[(0,[]),(1,[])]⟩,
   ⟨(some 114),.load none (.t 113),none,[(113,(some 11))],0,[(0,[]),(1,[])]⟩,
   ⟨(some 115),.mv (.t 8),none,[(8,none)],0,[(0,[]),(1,[])]⟩,
   ⟨(some 116),.mv (.t 16),none,[(16,none)],0,[(0,[]),(1,[])]⟩,
   ⟨(some 117),.indexAddr 2 (.t 115) (.t 116),none,[(115,(some 13)),(116,(some 14))],0,[(0,[]),(1,[])]⟩,
   ⟨(some 118),.load (some 2) (.t 117),none,[(117,(some 15))],0,[(0,[]),(1,[])]⟩,
   ⟨(some 119),.mv (.t 0),none,[(0,none)],0,[(0,[]),(1,[])]⟩,
   ⟨(some 120),.nilCheck (.t 119),none,[(119,(some 17))],0,[(0,[]),(1,[])]⟩,
   ⟨(some 121),.fieldAddr 1 (.t 120),none,[(120,(some 18))],0,[(0,[]),(1,[])]⟩,
   ⟨(some 122),.load none (.t 121),none,[(121,(some 19))],0,[(0,[]),(1,[])]⟩,
   ⟨(some 123),.mv (.t 18),none,[(18,none)],0,[(0,[]),(1,[])]⟩,
   ⟨(some 124),.indexAddr 1 (.t 122) (.t 123),none,[(122,(some 20)),(123,(some 21))],0,[(0,[]),(1,[])]⟩,
   ⟨(some 125),.load none (.t 124),none,[(124,(some 22))],0,[(0,[]),(1,[])]⟩,
   ⟨(some 126),.call (.c (.fn (.func pE) [] [])) [(.t 107),(.t 114),(.t 118),(.t 125)],none,[(107,(some 5)),(114,(some 12)),(118,(some 16)),(125,(some 23))],2,[(1,[])]⟩,
   ⟨(some 127),.buildSlice af 1 [.nilSl] 1 [((0,1),(.t 126))],none,[(126,(some 24))],1,[(2,[])]⟩,
   ⟨(some 128),.append 1 24 af [.nilSl] (.t 102) (.t 127),none,[(102,(some 0)),(127,(some 25))],2,[(2,[25])]⟩,
   ⟨(some 12),.mv (.t 128),none,[(128,(some 26))],0,[(3,[])]⟩] [])
  (.skip))) T1 B Q:=by
 have hw:=ae.wf0;have bi:=hw _ _ ax;have a9:=zz a R (-1);have F:=hR _ (Vm hi);obtain ⟨bn,aU,aL⟩:=dD L hi;have aD:=SlV.idx1 L .i64 i hi;have gi:R.getD i []=R[i]:=by simp [hi]
 refine am H [12] (fun m vs H'=>∃ p,vs=[p]/\CutV H H' mb a R D R.length vm vd es Ws/\Bl rowsE af H H' p (pre++(((cx a R (-1)).take m).filter (Lin.nearB D R i)).map fun k=>Lin.prime (Lin.mx a (R.getD i []) (R.getD k [])))) (a:=0) (N:=(cx a R (-1)).length) aK a2 a1 (Vz _) zO rfl rfl (fun m vs H' n ⟨p,h1,h2,h3⟩=>⟨p,h1,h2.mono (Sub.bump H' n),h3.mono (Sub.bump H' n)⟩) ae ⟨p,by show [aa T1 12]=_; rw [aY],hc,by simpa using ho⟩ ?_ ?_
 ·rintro m T2 H2 _ hm l aG w s ⟨O,j,g,A⟩;have w2:=s.wf;have bb:=s.le;have ba:=s.le;simp only [Vq,Vw,Vv,and_true] at j;have V:aa T2 0=.ptr ub 0:=(w.at_ 0 zU).trans t0;have u7:aa T2 7=vm:=(w.at_ 7 zU).trans v7;have W:aa T2 8=vd:=(w.at_ 8 zU).trans v8;have M:aa T2 16=.int .i64 (i:Int):=(w.at_ 16 zU).trans aZ;have a3:aa T2 92=gK es (-1):=(w.at_ 92 zU).trans a0;have aS:Bu H H2 (gK es (-1)) ((cx a R (-1)).map fun i:Nat=>(i:Int)):=g.sd.bl (-1);obtain ⟨ag,aI⟩:=DO aS hm;obtain ⟨k,P⟩:∃ k,k=(cx a R (-1))[m]:=⟨_,rfl⟩
  rw [<- P] at ag;have v:k<R.length:=by rw [P]; exact zy (Vm hm)
  have gk:R.getD k []=R[k]:=by simp [v]
  refine zW (gS l a3 u7 M aG aI ag) ?_;have aW:(R.map fun r=>zeros r D).length=R.length:=by simp
  refine AnsH.eq (LK C (zs:=R.map fun r=>zeros r D) (n:=D.length) zF (g.bm.sl.mono (zG H2)) (by rw [g.wl,aW]) (fun t h h'=>?_) (fun z hz=>?_) zO zO zO zO) fun c aJ=>?_
  ·rw [Ym]; exact g.wok t zO h'
  ·rw [Vl] at hz;obtain ⟨r,-,rfl⟩:=hz;exact wg r D
  rw [Qc hi v];obtain ⟨k23,_,_⟩:=zT H2 zK aJ;have o:Kp H c:=s.trans k23;have bc:=o.le;have w3:=o.wf;have av:(cx a R (-1)).take (m+1)=(cx a R (-1)).take m++[k]:=by rw [Vr hm,<- P]
  cases al:Lin.nearB D R i k with
  | false =>
   refine zW (aA l j) ?_;refine ⟨o,O,rfl,g.mono k23.sub,?_⟩;rw [av,Wa];simp only [Xz,al,Wo,if_false,XW,Wv];exact A.mono k23.sub
  | true =>
   have G:=hR _ (Vm v);have a6:((R.take R.length).map (Lin.dot a)).length=R.length:=by simp
   have gd:∀ t (h:t<R.length),((R.take R.length).map (Lin.dot a))[t]'zO=Lin.dot a R[t]:=fun t h=>by simp
   have E:=g.bd.sl;obtain ⟨wk,ap,K,-,-⟩:=kP (E.mono k23.sub) (i:=k) zO;obtain ⟨wi,ao,J,-,-⟩:=kP (E.mono k23.sub) (i:=i) zO;rw [gd k v] at ap K;rw [gd i hi] at ao J;have X:cL 2 vd (.int .i64 (k:Int))=some (aq vd (k*2)):=SlV.idx E .i64 k zO;have xi:cL 2 vd (.int .i64 (i:Int))=some (aq vd (i*2)):=SlV.idx E .i64 i zO;obtain ⟨bo,aV,aN⟩:=dD L v;have aE:=SlV.idx1 L .i64 k v;have U:=o.get ax;have S:=bU o.sub aL;have T:=bU o.sub aN;have Z:=ol ab G.2 (ad.trans G.1.symm) zO;have di:=ol ab F.2 (ad.trans F.1.symm) zO;refine zW (aA l j) ?_;refine aM ?_;refine zD (jY l j V W M X K @aQ) ?_;refine AnsH.use (AN C (z:=Lin.dot a R[k]) zF ⟨wk,rfl,ap.mono (zG c)⟩ (Z.sm zO)) ?_;rintro v4 Y ⟨aO,u⟩;obtain ⟨x,_,w4⟩:=zT c zK u;have aX:Kp H Y:=o.trans x;have bd:=aX.le;have ay:=x.get U;have ah:=bU x.sub S;have ai:=bU x.sub T;have ak:=bU x.sub J;refine zD (Rj l j V W M X xi aD aE K J ak U ay S ah T ai @aQ) ?_;refine AnsH.use (FX C (m:=-(Lin.dot a R[k])) (n:=Lin.dot a R[i]) zF (aO.mono (zG Y)) ⟨wi,rfl,ao.mono (zG c)⟩ (aU.mono (zG H)) (aV.mono (zG H)) (F.1.trans G.1.symm) zO Z.neg di F.2 G.2 zO) ?_;rintro v5 q ⟨ar,I⟩;have y:Kp c q:=Kp.trans x (Kp.trans zK I);have bh:=y.le;have w5:=y.wf;have az:Kp H q:=o.trans y;have bg:=az.le;have o5:=ar.one;have f25:q.get (c.next+25)=none:=I.free (by have:=u.le; simp only [cO] at this; omega) (u.free (show _<c.next+28 by omega) (w3.fresh (b:=c.next+25) zO));have f26:q.get (c.next+26)=none:=I.free (by have:=u.le; simp only [cO] at this; omega) (u.free (show _<c.next+28 by omega) (w3.fresh (b:=c.next+26) zO));have bl:c.next+28<=q.next:=VB u.le I.le
   have aB:=A.mono (k23.trans y).sub;have aR:RowV q v5 (Lin.prime (Lin.mx a (R.getD i []) (R.getD k []))):=by rw [gi,gk]; exact ar
   have a7:(pre++(((cx a R (-1)).take m).filter (Lin.nearB D R i)).map fun k=>Lin.prime (Lin.mx a (R.getD i []) (R.getD k []))).length<=pre.length+R.length:=by
    rw [VC,Vp];have h1:=Wh (Lin.nearB D R i) ((cx a R (-1)).take m);rw [VN] at h1;omega
   obtain ⟨n6,H6,e6,b6,k6,bm,f6,u6⟩:=Bl.push2 (ty2:=af) (bytes:=24) (id:=c.next+26) (id2:=c.next+25) (cs:=[v5]) (a:=Lin.prime (Lin.mx a (R.getD i []) (R.getD k []))) aB zU az ⟨v5,rfl,aR⟩ zO zO f26 zO zO f25 zO zO zO;have aF:dr (q.put (c.next+25) (.cells [v5] af true)) (c.next+26) 1 24 af O (.own (c.next+25) 0 1 1 1 true)=some (.own (c.next+26) 0 n6 n6 1 false,H6):=e6;refine zD (SS l j V W M X xi aD aE K J ak U ay S ah T ai @aQ aF) ?_;refine ⟨k6,_,rfl,(g.mono (k23.trans y).sub).frm f6 aB,?_⟩;rw [av,Wa,V7,<- W7];simp only [Xz,al,if_true,XW,Vq,Vw];exact b6
 ·rintro T2 H2 l w s ⟨O,j,g,A⟩;simp only [Vq,Vw,Vv,and_true] at j;rw [VO] at A;exact hq T2 H2 O l j s g A
def OE (C:Code tab) {H0:Heap} {ub:Nat} {u:Lin.Under} {va:AV} {a:List Int} {eq:Bool} {d e f:Nat} (hk:Kp H0 H) (bt:H0.next<=ub) (hu:UnderV H0 H ub u) (ha:RowV H va a) (aQ:0<d) (hd:d<=64) (aq:a.length=d) (hR:∀ r∈u.rays,r.length=d/\∀ z∈r,Bt f z) (hD:∀ r∈u.done,r.length=d/\∀ z∈r,Bt e z) (ae:u.done.length<=1024) (ao:∀ z∈a,Bt e z) (hb:2*(e+f+7)+2*f+1<=8796093022208) (ar:u.rays.length<=1099000000000) (hcl:(Lin.cutL u.done a eq u.rays).length<=1099000000000) :
  Ans tab (.fn iI [.ptr ub 0,va,.bool eq]) H fun v H'=>v=.tup []/\Kp H0 H'/\UnderV H0 H' ub ⟨u.lines,Lin.cutL u.done a eq u.rays,u.done⟩/\∀ b e,H.get b=some e->b≠ub->H'.get b=some e:=by
 have hw:=hk.wf;obtain ⟨ql,qr,qd,cl,K,aF,F,ah,s1,s2,s3⟩:=hu;have bx:=hw _ _ K;obtain ⟨R,aN⟩:∃ R,R=u.rays:=⟨_,rfl⟩
 obtain ⟨D,aL⟩:∃ D,D=u.done:=⟨_,rfl⟩
 rw [<- aN] at hR F ar hcl ⊢;rw [<- aL] at hD ae ah hcl ⊢;refine BM C.q98 rfl rfl zU fun T hl g=>?_;have hl:T.length=135:=hl;have a0:c_P_cone_under_cut.results=[]:=rfl;have P:aa T 0=.ptr ub 0:=g 0 (by simp);have W:aa T 1=va:=g 1 (by simp);have X:aa T 2=.bool eq:=g 2 (by simp);refine bi ?_;simp -dsimp (maxSteps:=1000000) (disch:=(first | omega | assumption | exact aH _ | exact aT _ _ | exact bf | exact bS _ _ _ | exact bk _ _ | exact bj _ _ _ _ _ _ | exact bX _ _ | exact bp _)) only [↓qh,qg,Nat.reduceLT,Nat.reduceEqDiff,Nat.reduceAdd,reduceIte,reduceCtorEq,Nat.reduceBEq,Int.reduceEq,Int.reduceLT,Int.reduceLE,Int.reduceAdd,Int.reduceSub,hl,P,W,X,↓Ep,aC];refine bi ?_;refine zW (cp hl P W X @aC) ?_;refine bi ?_;refine zW (cp hl P W X @aC) ?_;have aM:R.length<1099511627776:=zO;refine dy (fun T' H'=>∃ vm vd es Ws,aa T' 7=vm/\aa T' 8=vd/\Kp H H'/\CutV H H' H.next a R D R.length vm vd es Ws) rfl ?_ ?_
 ·refine zW (gS hl P W X K F.sl.lenV @aU) ?_;refine am H [7,8] (fun k vs H'=>∃ vm vd es Ws,vs=[vm,vd]/\CutV H H' H.next a R D k vm vd es Ws) (a:=0) (N:=R.length) rfl (by refine zW hl ?_; rfl) (zV hl) (Vz _) zO (by simp only [Vg,hl]; rfl) rfl (fun k vs H' m ⟨vm,vd,es,Ws,h1,h2⟩=>⟨vm,vd,es,Ws,h1,h2.mono (Sub.bump H' m)⟩) zK ⟨.nilSl,.nilSl,[],[],by exact zV hl,Bl.nil,rfl,fun t h h'=>by simp at h',Bl.nil,by exact da,(fun p hp=>by cases hp),(fun s=>Bl.nil),(fun s s' _ b hb=>by cases hb)⟩ ?_ ?_
  ·rintro k T1 H1 _ ab j aR B aW ⟨vm,vd,es,Ws,w,hc⟩;simp only [Vq,Vw,Vv,and_true] at w;simp only [Vg,hl] at j;refine LH C K F.sl ah.sl ha aQ hd aq hR hD ae ao zO aM aW ab j ((B.at_ 0 zU).trans (zV (aA hl P))) ((B.at_ 1 zU).trans (zV (aA hl W))) ((B.at_ 6 zU).trans (zV hl)) ((B.at_ 23 zU).trans (zV hl)) aR w.1 w.2 (Vo _) hc ?_;intro T2 H2 bn bm aK aJ h1 h2 h3 Y h5;refine zW (aB h1 h2 h3) ?_;exact ⟨Y,bn,bm,aK,aJ,rfl,h5⟩
  ·rintro T1 H1 j B aV ⟨vm,vd,es,Ws,w,hc⟩;simp only [Vq,Vw,Vv,and_true] at w;refine zW (aA j @aU) ?_;exact ⟨vm,vd,es,Ws,w.1,w.2,aV,hc⟩
 rintro T1 H1 B ⟨vm,vd,es,Ws,v7,v8,k1,hc⟩;have w1:=k1.wf;have t0:aa T1 0=.ptr ub 0:=(B.at_ 0 zU).trans (zV (aA hl P));have t2:aa T1 2=.bool eq:=(B.at_ 2 zU).trans (zV (aA hl X));have t6:aa T1 6=.map H.next:=(B.at_ 6 zU).trans (zV hl)
 have j:T1.length=135:=B.len.trans (by simp only [Vg]; exact hl);have ai:∀ (H':Heap),CutV H H' H.next a R D R.length vm vd es Ws->∀ z n,pX (H'.up n) .int .nilSl (.map H.next) (.int .i64 z) false=some (gK es z):=fun H' h z n=>DG (by exact h.sd.get) h.sd.keys z
 have a8:=ai H1 hc 0;have a7:lenV (gK es 0)=some (.int .i64 ((cx a R 0).length:Int)):=by
  rw [(hc.sd.bl 0).sl.lenV,Dg,Vp]
 have bq:=zz a R 0;have br:=zz a R 1;refine WC.wb ?_;simp -dsimp (maxSteps:=1000000) (disch:=(first | omega | assumption | exact aH _ | exact aT _ _ | exact bf | exact bS _ _ _ | exact bk _ _ | exact bj _ _ _ _ _ _ | exact bX _ _ | exact bp _)) only [↓qh,qg,Nat.reduceLT,Nat.reduceEqDiff,Nat.reduceAdd,reduceIte,reduceCtorEq,Nat.reduceBEq,Int.reduceEq,Int.reduceLT,Int.reduceLE,Int.reduceAdd,Int.reduceSub,j,t0,t6,↓gT,a8,a7];refine am H [12] (fun m vs H'=>∃ y,vs=[y]/\CutV H H' H.next a R D R.length vm vd es Ws/\Bl rowsE af H H' y (((cx a R 0).take m).map (R.getD · []))) (a:=0) (N:=(cx a R 0).length) rfl (by refine zW j ?_; rfl) (zV j) (Vz _) zO (by simp only [Vg,j]; rfl) rfl (fun m vs H' n ⟨y,h1,h2,h3⟩=>⟨y,h1,h2.mono (Sub.bump H' n),h3.mono (Sub.bump H' n)⟩) zK ⟨.nilSl,by exact zV j,hc.mono (Sub.bump H1 _),Bl.nil⟩ ?_ ?_
 ·rintro m T2 H2 _ hm l aS I A ⟨y,w,U,o2⟩;have w2:=A.wf;have a5:=A.le;have bu:=A.le;simp only [Vq,Vw,Vv,and_true] at w;simp only [Vg,j] at l;have u0:aa T2 0=.ptr ub 0:=(I.at_ 0 zU).trans (zV (aA j t0));have bl:aa T2 55=gK es 0:=(I.at_ 55 zU).trans (zV j);obtain ⟨Q,ag⟩:=DO (show Bu H H2 (gK es 0) ((cx a R 0).map fun i:Nat=>(i:Int)) from U.sd.bl 0) hm;obtain ⟨k,ab⟩:∃ k,k=(cx a R 0)[m]:=⟨_,rfl⟩
  rw [<- ab] at Q;have ax:k<R.length:=by rw [ab]; exact zy (Vm hm)
  obtain ⟨vr,ad,ay⟩:=dD F.sl ax;have xr:=SlV.idx1 F.sl .i64 k ax;have a3:=A.get K;have aX:=bU A.sub ay;have bg:=ad.one;have gk:R.getD k []=R[k]:=by simp [ax]
  have bo:(((cx a R 0).take m).map (R.getD · [])).length<=R.length:=by simp; omega
  obtain ⟨n6,O,e6,b6,k6,bc,f6,u6⟩:=Bl.push1 (ty2:=af) (bytes:=24) (id:=H2.next+12) (id2:=H2.next+11) (k:=14) (cs:=[vr]) (a:=R.getD k []) o2 zU A ⟨vr,rfl,by rw [gk]; exact ad.mono A.sub⟩ zO zO zO zO zO zO zO;have ak:dr ((H2.up 14).put (H2.next+11) (.cells [vr] af true)) (H2.next+12) 1 24 af y (.own (H2.next+11) 0 1 1 1 true)=some (.own (H2.next+12) 0 n6 n6 1 false,O):=e6;refine zW (sG l u0 bl aS ag Q w a3 xr aX ak) ?_;refine ⟨k6,_,rfl,U.frm f6 o2,?_⟩;rw [Vr hm,V7,<- ab];exact b6
 ·rintro T2 H2 l I A ⟨y,w,U,o2⟩;have w2:=A.wf;have a5:=A.le;simp only [Vq,Vw,Vv,and_true] at w;simp only [Vg,j] at l;rw [VO] at o2;have u0:aa T2 0=.ptr ub 0:=(I.at_ 0 zU).trans (zV (aA j t0));have u2:aa T2 2=.bool eq:=(I.at_ 2 zU).trans (zV (aA j t2));have u6:aa T2 6=.map H.next:=(I.at_ 6 zU).trans (zV (aA j t6))
  have u7:aa T2 7=vm:=(I.at_ 7 zU).trans (zV (aA j v7));have u8:aa T2 8=vd:=(I.at_ 8 zU).trans (zV (aA j v8));have a9:=ai H2 U 1;have Tq:lenV (gK es 1)=some (.int .i64 ((cx a R 1).length:Int)):=by
   rw [(hc.sd.bl 1).sl.lenV,Dg,Vp]
  simp -dsimp (maxSteps:=1000000) (disch:=(first | omega | assumption | exact aH _ | exact aT _ _ | exact bf | exact bS _ _ _ | exact bk _ _ | exact bj _ _ _ _ _ _ | exact bX _ _ | exact bp _)) only [↓qh,qg,Nat.reduceLT,Nat.reduceEqDiff,Nat.reduceAdd,reduceIte,reduceCtorEq,Nat.reduceBEq,Int.reduceEq,Int.reduceLT,Int.reduceLE,Int.reduceAdd,Int.reduceSub,l,u0,u6,↓gT,a9,Tq];refine am H [12] (fun m vs H'=>∃ y,vs=[y]/\CutV H H' H.next a R D R.length vm vd es Ws/\Bl rowsE af H H' y ((cx a R 0).map (R.getD · [])++((cx a R 1).take m).flatMap (BG D a eq R))) (a:=0) (N:=(cx a R 1).length) rfl (by refine zW l ?_; rfl) (zV l) (Vz _) zO (by simp only [Vg,l]; rfl) rfl (fun m vs H' n ⟨y,h1,h2,h3⟩=>⟨y,h1,h2.mono (Sub.bump H' n),h3.mono (Sub.bump H' n)⟩) zK ⟨y,by exact zV (aA l w),U.mono (Sub.bump H2 _),by rw [YT,List.flatMap_nil,Wv]; exact o2.mono (Sub.bump H2 _)⟩ ?_ ?_
  ·rintro m G o _ hm c aE J q ⟨S,M,V,E⟩;have w3:=q.wf;have a6:=q.le;have bv:=q.le;simp only [Vq,Vw,Vv,and_true] at M;simp only [Vg,l] at c;have z0:aa G 0=.ptr ub 0:=(J.at_ 0 zU).trans (zV (aA l u0));have z2:aa G 2=.bool eq:=(J.at_ 2 zU).trans (zV (aA l u2));have z6:aa G 6=.map H.next:=(J.at_ 6 zU).trans (zV (aA l u6))
   have z7:aa G 7=vm:=(J.at_ 7 zU).trans (zV (aA l u7));have z8:aa G 8=vd:=(J.at_ 8 zU).trans (zV (aA l u8));have aI:aa G 73=gK es 1:=(J.at_ 73 zU).trans (zV l);obtain ⟨Q,ag⟩:=DO (show Bu H o (gK es 1) ((cx a R 1).map fun i:Nat=>(i:Int)) from V.sd.bl 1) hm;obtain ⟨i,av⟩:∃ i,i=(cx a R 1)[m]:=⟨_,rfl⟩
   rw [<- av] at Q;have Z:i<R.length:=by rw [av]; exact zy (Vm hm)
   have gi:R.getD i []=R[i]:=by simp [Z]
   obtain ⟨pre,az⟩:∃ pre,pre=(cx a R 0).map (R.getD · [])++((cx a R 1).take m).flatMap (BG D a eq R):=⟨_,rfl⟩
   have bs:pre.length<=1099000000000:=by
    refine VB ?_ hcl;have e:(cx a R 1).flatMap (BG D a eq R)=((cx a R 1).take m).flatMap (BG D a eq R)++((cx a R 1).drop m).flatMap (BG D a eq R):=by rw [<- YJ,Y5]
    rw [Jz,e,az];simp only [VC];omega
   have a2:(cx a R 0).map (R.getD · [])++((cx a R 1).take (m+1)).flatMap (BG D a eq R)=pre++BG D a eq R i:=by
    rw [Vr hm,YJ,<- W7,<- az,<- av]
    simp
   rw [a2];rw [<- az] at E;have bb:=ai o V (-1);have aG:lenV (gK es (-1))=some (.int .i64 ((cx a R (-1)).length:Int)):=by
    rw [(hc.sd.bl (-1)).sl.lenV,Dg,Vp]
   cases heq:eq with
   | true =>
    rw [heq] at z2;simp -dsimp (maxSteps:=1000000) (disch:=(first | omega | assumption | exact aH _ | exact aT _ _ | exact bf | exact bS _ _ _ | exact bk _ _ | exact bj _ _ _ _ _ _ | exact bX _ _ | exact bp _)) only [↓qh,qg,Nat.reduceLT,Nat.reduceEqDiff,Nat.reduceAdd,reduceIte,reduceCtorEq,Nat.reduceBEq,Int.reduceEq,Int.reduceLT,Int.reduceLE,Int.reduceAdd,Int.reduceSub,c,z0,z2,z6,aI,aE,ag,Q,M,↓gT,bb,aG];refine Cv (va:=va) C K F.sl hd aq hR ae ao hb ar (pre:=pre) zO (q.up _) Z (by simp only [Vg]; exact c) (zV (aA c z0)) (zV (aA c z7)) (zV (aA c z8)) (zV c) (zV (aA c M)) (zV c) (zV c) (zV c) (V.mono (Sub.bump o _)) (E.mono (Sub.bump o _)) ?_;intro T4 H4 aD h1 h2 h3 Y h5;refine zW (aA h1 h2) ?_;exact ⟨h3,aD,rfl,Y,by unfold BG; simpa using h5⟩
   | false =>
    rw [heq] at z2;obtain ⟨vr,ad,ay⟩:=dD F.sl Z;have xr:=SlV.idx1 F.sl .i64 i Z;have L:=q.get K;have aY:=bU q.sub ay;have bg:=ad.one;obtain ⟨n6,O,e6,b6,k6,bc,f6,bA⟩:=Bl.push1 (ty2:=af) (bytes:=24) (id:=o.next+14) (id2:=o.next+13) (k:=16) (cs:=[vr]) (a:=R.getD i []) E zU q ⟨vr,rfl,by rw [gi]; exact ad.mono q.sub⟩ zO zO zO zO zO zO zO;have ak:dr ((o.up 16).put (o.next+13) (.cells [vr] af true)) (o.next+14) 1 24 af S (.own (o.next+13) 0 1 1 1 true)=some (.own (o.next+14) 0 n6 n6 1 false,O):=e6;have c6:=V.frm f6 E;have ba:=ai O c6 (-1);have w6:=k6.wf;simp -dsimp (maxSteps:=1000000) (disch:=(first | omega | assumption | exact aH _ | exact aT _ _ | exact bf | exact bS _ _ _ | exact bk _ _ | exact bj _ _ _ _ _ _ | exact bX _ _ | exact bp _)) only [↓qh,qg,Nat.reduceLT,Nat.reduceEqDiff,Nat.reduceAdd,reduceIte,reduceCtorEq,Nat.reduceBEq,Int.reduceEq,Int.reduceLT,Int.reduceLE,Int.reduceAdd,Int.reduceSub,c,z0,z2,z6,aI,aE,ag,Q,M,L,xr,aY,ak,↓gT,ba,aG];refine Cv (va:=va) C K F.sl hd aq hR ae ao hb ar (pre:=pre++[R.getD i []]) (by simp; omega) (k6.up _) Z (by simp only [Vg]; exact c) (zV (aA c z0)) (zV (aA c z7)) (zV (aA c z8)) (zV c) (by refine zW c ?_; rfl) (zV c) (zV c) (zV c) (c6.mono (Sub.bump O _)) (b6.mono (Sub.bump O _)) ?_;intro T4 H4 aD h1 h2 h3 Y h5;refine zW (aA h1 h2) ?_;exact ⟨h3,aD,rfl,Y,by unfold BG; simpa using h5⟩
  ·rintro G o c J q ⟨S,M,V,E⟩;have w3:=q.wf;have a6:=q.le;simp only [Vq,Vw,Vv,and_true] at M;simp only [Vg,l] at c;rw [VO,<- Jz] at E;have z0:aa G 0=.ptr ub 0:=(J.at_ 0 zU).trans (zV (aA l u0));have L:=q.get K;have bz:=w3 _ _ L;have a4:Kp H0 o:=hk.trans q;have bw:=a4.le;have bh:=E.sl.one;have a1:En (some (.cells [ql,qr,qd] aP true)) 1 1 S=some (.cells [ql,S,qd] aP true):=km bh.fits (by simp);refine zW (eF c z0 M L a0 a1) ?_;have aZ:=hk.le;have bd:Wr H0 o S (Lin.cutL D a eq R) (Lin.cutL D a eq R).length:=E.wr.base aZ;refine ⟨zK,⟨ql,S,qd,cl,ap _ _ _,((aF.mono q.sub).mono (Sub.bump o 5)).putT L zU zU,(bd.mono (Sub.bump o 5)).putT L zU zU,((ah.mono q.sub).mono (Sub.bump o 5)).putT L zU zU,fun x hx hy=>?_,s2,fun x hx hy=>?_⟩,fun b e aO hne=>?_⟩
   ·have h1:=aF.old hw hx;have h2:=E.ge hy;omega
   ·have h1:=ah.old hw hy;have h2:=E.ge hx;omega
   ·rw [al hne]; exact q.get aO
end
def SlV.ro {α:Type} {E:fO α} {ty:Nat} {H H':Heap} {v:AV} {l:List α} (j:∀ cs a,E.R H cs a->E.R H' cs a) (h:∀ b cs r,H.get b=some (.cells cs ty r)->∃ d,H'.get b=some (.cells cs ty d)) (hs:SlV E ty H v l):SlV E ty H' v l:=by
 obtain ⟨cells,⟨h0,h1,n,h2,h3⟩,g,hc⟩:=hs;refine ⟨cells,⟨h0,h1,n,h2,?_⟩,fun b off n c z x e=>?_,hc.1,fun i a hi=>j _ _ (hc.2 i a hi)⟩
 ·unfold aG at h3 ⊢;split at h3
  ·rename_i b off m c sz ex;obtain ⟨cs,r,hb⟩:=g _ _ _ _ _ _ rfl;obtain ⟨d,f⟩:=h _ _ _ hb;rw [hb] at h3;rw [f];exact h3
  ·exact h3
  ·exact h3
  ·exact h3
  ·cases h3
 ·obtain ⟨cs,r,hb⟩:=g b off n c z x e;obtain ⟨d,f⟩:=h _ _ _ hb;exact ⟨cs,d,f⟩
def RowV.ro {H H':Heap} {v:AV} {l:List Int} (h1:∀ b cs r,H.get b=some (.cells cs ae r)->∃ c,H'.get b=some (.cells cs ae c)) (h2:∀ b cs r,H.get b=some (.cells cs ad r)->∃ c,H'.get b=some (.cells cs ad c)) (h:RowV H v l):RowV H' v l :=
 SlV.ro (E:=intE) (fun cs a ⟨w,e,hn⟩=>⟨w,e,SlV.ro (E:=bY cB) (H:=H) (H':=H') (fun cs a ⟨v,e,d⟩=>⟨v,e,d⟩) h1 hn⟩) h2 h
def JF:∀ {x y:List Int},x.length=y.length->(Ec x y<0 ↔ Lin.cmpV y x=false)
 | [],[],_=>by simp [Ec,BI,Lin.cmpV]
 | a :: x,b :: y,h=>by
  have c:=JF (x:=x) (y:=y) (by simpa using h);unfold Ec at c ⊢;unfold BI Lin.cmpV;by_cases h1:a=b
  ·subst h1;have e:gw (a-a)=0:=by rw [fP]; omega
   simp only [e,Int.lt_irrefl,if_false,if_true,ne_eq,not_true_eq_false];exact c
  ·have e:gw (a-b)≠0:=fun h=>h1 (by rw [fP] at h; omega);rcases Int.lt_or_gt_of_ne h1 with h2 | h2
   ·have e2:gw (a-b)<0:=by unfold gw; split <;> (try split) <;> omega
    have d:¬ b<a:=zO;simp [e,e2,d,Ne.symm h1]
   ·have e2:¬ gw (a-b)<0:=by unfold gw; split <;> (try split) <;> omega
    simp [e,e2,h2]
section
variable {tab:Nat->Option au} {H:Heap} {s:AV}
def xA {f ty:Nat} {gs:List Nat} {fn:au} (a:tab f=some fn) (he:fn.ext=some (.sortF ty gs)) {args:List AV} {v:AV} {H':Heap} {Q:AV->Heap->Prop} (h:∃ N,∀ m n,N<=m->N<=n->B4 (lu tab eZ m n) ty gs H args=some (v,H')) (b:Q v H'):Ans tab (.fn f args) H Q:=by
 obtain ⟨N,h⟩:=h;refine ⟨v,H',⟨N+1,fun m n hm hn=>?_⟩,b⟩;obtain ⟨n',rfl⟩:∃ n',n=n'+1:=⟨n-1,zO⟩
 show jx tab eZ (lu tab eZ m n') m (.fn f args) H=_;simp only [jx,a,he];exact h m n' zO zO
def AR {g:Nat} {caps:List AV} {D:Heap} {x:AV}:∀ (l:List AV) (c:Nat->Int),(∀ j (h:j<l.length),Ans tab (.fn g ([x,l[j]]++caps)) D fun v _=>v=.int .i64 (c j))->∃ N,∀ m n,N<=m->N<=n->rt (lu tab eZ m n) g caps D x l=some ((List.range l.length).map c)
 | [],c,_=>⟨0,fun _ _ _ _=>rfl⟩
 | y :: l,c,h=>by
  obtain ⟨N,d⟩:=AR l (fun j=>c (j+1)) fun j hj=>h (j+1) (by simpa using hj);obtain ⟨v,e,⟨a,h0⟩,b⟩:=h 0 (by simp);simp only [Y0] at h0;subst b;refine ⟨N+a,fun m n hm hn=>?_⟩;simp only [rt,h0 m n zO zO,d m n zO zO];rw [VX,Z1,Vq,Xu];rfl
def yb {g:Nat} {caps all:List AV} {D:Heap}:∀ (l:List AV) (c:Nat->Nat->Int),(∀ i (h:i<l.length) j (h':j<all.length),Ans tab (.fn g ([l[i],all[j]]++caps)) D fun v _=>v=.int .i64 (c i j)) ->
  ∃ N,∀ m n,N<=m->N<=n->sv (lu tab eZ m n) g caps D all l=some ((List.range l.length).map fun i=>(List.range all.length).map (c i))
 | [],c,_=>⟨0,fun _ _ _ _=>rfl⟩
 | x :: l,c,h=>by
  obtain ⟨N,b⟩:=yb l (fun i=>c (i+1)) fun i hi j hj=>h (i+1) (by simpa using hi) j hj;obtain ⟨a,h0⟩:=AR (tab:=tab) (g:=g) (caps:=caps) (D:=D) (x:=x) all (c 0) fun j hj=>h 0 (by simp) j hj;refine ⟨N+a,fun m n hm hn=>?_⟩;simp only [sv,h0 m n zO zO,b m n zO zO];rw [VX,Z1,Vq,Xu];rfl
def BN {f g:Nat} {fn:au} (C:tab f=some fn) (he:fn.ext=some (.sortF af [g])) {H0:Heap} (l:Kp H0 H) {v:AV} {R:List (List Int)} {d:Nat} (hb:Bl rowsE af H0 H v R) (hd:∀ r∈R,r.length=d) (hn:R.Nodup) (aa:R.length<1099511627776)
  (hc:∀ D a b,Wf D->∀ x∈R,∀ y∈R,RowV D a x->RowV D b y->Ans tab (.fn g [a,b]) D fun v _=>v=.int .i64 (Ec x y)) :
  Ans tab (.fn f [v,.fn (.func g) [] []]) H fun v' H'=>v'=.tup []/\Kp H0 H'/\Bl rowsE af H0 H' v (R.mergeSort Lin.cmpV):=by
 rcases hb with ⟨rfl,rfl⟩ | ⟨b,cells,rfl,u,hcl,A⟩
 ·exact xA C he ⟨0,fun m n _ _=>rfl⟩ ⟨rfl,l,.inl ⟨rfl,by simp⟩⟩
 ·rcases Xw R.length with h0 | h0
  ·have U:=WL.1 h0;subst U;exact xA C he ⟨0,fun m n _ _=>rfl⟩ ⟨rfl,l,.inr ⟨b,cells,by simp,u,by simpa using hcl,A⟩⟩
  ·have hlt:=l.wf _ _ u;have I:=l.wf;have q:cells.length=R.length:=by have:=hcl.1; simpa [bY] using this
   have V:=hcl.ones;obtain ⟨D,hD⟩:∃ D,D=(H.kill b).ro:=⟨_,rfl⟩
   have Q:∀ c,c<H.next->c≠b->D.get c=Mb (H.get c):=fun c hc hne=>by
    rw [hD,Heap.get_ro,cC hne];exact if_pos (VF hc (Nat.le_max_left _ _))
   have S:Wf D:=fun c e h=>by
    rw [hD,Heap.get_ro] at h;rw [hD];show c<H.next
    split at h
    ·by_cases B:c=b
     ·omega
     ·rw [cC B] at h;cases hg:H.get c with
      | none=>rw [hg] at h; cases h
      | some e'=>exact I _ _ hg
    ·by_cases B:c=b
     ·omega
     ·rw [cC B] at h;exact I _ _ h
   have O:∀ ty,ty≠af->∀ c cs r,H.get c=some (.cells cs ty r)->∃ r',D.get c=some (.cells cs ty r'):=fun ty Z c cs r hc=>by
    refine ⟨false,?_⟩;rw [Q c (I _ _ hc) (fun e=>by rw [e,u] at hc; cases hc; exact Z rfl),hc];rfl
   have P:∀ i (h:i<R.length),RowV D (cells[i]'zO) R[i]:=fun i h=>by
    obtain ⟨w,h1,h2⟩:=hcl.at1 h;have e:w=cells[i]'zO:=by
     unfold bz at h1
     simpa [q,h] using h1.symm
    rw [<- e];exact RowV.ro (O _ zU) (O _ zU) h2
   obtain ⟨N,T⟩:=yb (tab:=tab) (g:=g) (caps:=[]) (all:=cells) (D:=D) cells (fun i j=>Ec (R.getD i []) (R.getD j [])) fun i hi j hj=>by
    have F:i<R.length:=zO;have G:j<R.length:=zO;have e1:R.getD i []=R[i]:=by simp [F]
    have e2:R.getD j []=R[j]:=by simp [G]
    rw [e1,e2];exact hc D _ _ S _ (Vm F) _ (Vm G) (P i F) (P j G)
   obtain ⟨M,J⟩:∃ M,M=(List.range cells.length).map fun i=>(List.range cells.length).map fun j=>Ec (R.getD i []) (R.getD j []):=⟨_,rfl⟩
   have o:∀ i j (hi:i<R.length) (hj:j<R.length),Mc M i j = !Lin.cmpV R[j] R[i]:=fun i j hi hj=>by
    have e1:(M.getD i []).getD j 0=Ec R[i] R[j]:=by
     rw [J];simp [q,hi,hj]
    unfold Mc;rw [e1,WK,decide_eq_true_eq,Wy];exact JF ((hd _ (Vm hi)).trans (hd _ (Vm hj)).symm)
   have W:QS M R.length:=by
    refine ⟨fun i hi=>?_,fun i hi j hj=>?_,fun i hi j hj k l h1 h2=>?_⟩
    ·rw [o i i hi hi,Lin.cmpV_refl]; rfl
    ·by_cases L:i=j
     ·exact .inl L
     ·right
      rw [o i j hi hj,o j i hj hi];have z:=Lin.cmpV_total R[i] R[j];have ha:=Lin.cmpV_antisymm R[i] R[j];have hne:R[i]≠R[j]:=fun e=>L ((List.getElem_inj hn).1 e);cases h1:Lin.cmpV R[i] R[j] <;> cases h2:Lin.cmpV R[j] R[i]
      ·rw [h1,h2] at z; cases z
      ·rfl
      ·rfl
      ·exact absurd (ha h1 h2) hne
    ·rw [o i j hi hj] at h1;rw [o j k hj l] at h2;rw [o i k hi l];rw [Wy] at h1 h2 ⊢;cases h3:Lin.cmpV R[k] R[i] with
     | false=>rfl
     | true =>
      have z:=Lin.cmpV_total R[i] R[j];rw [h1,ZV] at z
      have:=Lin.cmpV_trans _ _ _ h3 z
      rw [this] at h2; cases h2
   have Y:(kJ M R.length).map (fun i=>R.getD i.val [])=R.mergeSort Lin.cmpV:=by
    unfold kJ;rw [List.map_mergeSort (s:=Lin.cmpV) (fun i _ j _=>by
     have e1:R.getD i.val []=R[i.val]:=by simp
     have e2:R.getD j.val []=R[j.val]:=by simp
     rw [e1,e2,o _ _ j.isLt i.isLt,Bool.not_not])]
    congr 1
    apply Xk
    ·simp
    ·intro i h1 h2;simp [h2]
   have ab:(kJ M R.length).length=R.length:=by unfold kJ; rw [Y4,Z8]
   refine xA (v:=.tup []) (H':=H.put b (.cells ((kJ M R.length).map fun i=>cells.getD i.val .undef) af true)) C he ⟨N,fun m n hm hn=>?_⟩ ⟨rfl,l.put A hlt,.inr ⟨b,(kJ M R.length).map fun i=>cells.getD i.val .undef,?_,ap _ _ _,?_,A⟩⟩
   ·have K:=T m n hm hn;rw [<- J] at K;show B4 _ _ _ H [.own b 0 R.length R.length 1 false,.fn (.func g) [] []]=_;simp only [B4,u];rw [if_neg zO,if_pos ⟨trivial,trivial,trivial,q,h0,zO,by simp,V⟩,<- hD,K];simp only;rw [if_pos W]
   ·rw [Y4]
   ·rw [<- Y];refine ⟨by simp [bY],fun i a hi=>?_⟩;rw [Wg,Vu] at hi;obtain ⟨p,hp,rfl⟩:=hi;obtain ⟨hi,X⟩:=VA.1 hp;have e1:((((kJ M R.length).map fun i=>cells.getD i.val .undef).drop (i*1)).take 1)=[cells.getD p.val .undef]:=by
     apply W0
     intro t;cases t with
     | zero=>simp [hi,X]
     | succ t=>simp; omega
    refine ⟨cells.getD p.val .undef,e1,?_⟩;have e2:R.getD p.val []=R[p.val]:=by simp
    have e3:cells.getD p.val .undef=cells[p.val]'(by have:=p.isLt; omega):=by have:=p.isLt; simp [q]
    rw [e2,e3];obtain ⟨w,h1,h2⟩:=hcl.at1 p.isLt;have e:w=cells[p.val]'(by have:=p.isLt; omega):=by
     unfold bz at h1
     have:=p.isLt
     simpa [q,this] using h1.symm
    rw [<- e];exact SlV.monoT (E:=intE) (SubT.puts (SubT.refl _ _) (NoTy.ty u zU)) h2
end
def Frm.wr {H0 H H':Heap} {v w:AV} {l m:List (List Int)} {c:Nat} (d:Frm v H H') (h:Bl rowsE af H0 H v l) (a:Wr H0 H w m c) (hs:Sep v w):Wr H0 H' w m c:=by
 rcases a with a | ⟨b,cells,h1,h2,h3,f,h5,g⟩
 ·exact .inl a
 ·exact .inr ⟨b,cells,h1,d b _ h2 (fun e=>hs b e (by rw [h1]; rfl)),h3,f,h5.mono (d.subT h zU),g⟩
def HS {α:Type} (p:α->Bool) (l:List α):(np p l<0/\l.findIdx? p=none)\/∃ i:Nat,np p l=(i:Int)/\l.findIdx? p=some i:=by
 unfold np;cases h:l.findIdx? p with
 | none=>exact .inl ⟨by simp,rfl⟩
 | some i=>exact .inr ⟨i,rfl,rfl⟩
section
variable {tab:Nat->Option au} {H:Heap} {s:AV}
def FY (C:Code tab) (p:Wf H) {w va:AV} {r a:List Int} {bx e f:Nat} (hr:RowV H w r) (hb:H.get bx=some (.cells [va] af true)) (ha:RowV H va a) (i:a.length=r.length) (d:a.length<=64) (g:∀ z∈a,Bt e z) (j:∀ z∈r,Bt f z) (h:e+f+7<=8796093022208) :
  Ans tab (.fn gh [w,.ptr bx 0]) H fun v H'=>v=.bool (!decide (Lin.dot a r=0))/\Kp H H':=by
 refine bC C.q97 zU fun T hl b c=>?_;refine zW (aV hl b c hb) ?_;refine AnsH.use (vz C zF (ha.mono (zG H)) (hr.mono (zG H)) i d g j h) ?_;rintro v H2 ⟨n,l⟩;obtain ⟨k2,_,s⟩:=zT H zK l;refine zW (aB hl b c) ?_;refine AnsH.eq (xo C (z:=Lin.dot a r) zF (n.mono (zG H2)) ((ol g j i d).sm h)) fun k m=>?_;have o:Kp H k:=Kp.trans k2 (Kp.trans zK m);have q:=o.le;refine zW (aB hl b c) ?_;refine ⟨?_,zK⟩;congr 1;rw [WK];simp [fP]
def FZ (C:Code tab) {H0:Heap} {ub:Nat} {u:Lin.Under} {va:AV} {a:List Int} {eq:Bool} {d e f:Nat} (G:Kp H0 H) (ax:H0.next<=ub) (hu:UnderV H0 H ub u) (ha:RowV H0 va a) (aI:0<d) (hd:d<=64) (X:a.length=d) (hL:∀ r∈u.lines,r.length=d/\∀ z∈r,Bt f z) (hR:∀ r∈u.rays,r.length=d/\∀ z∈r,Bt f z) (hD:∀ r∈u.done,r.length=d/\∀ z∈r,Bt e z) (aE:u.done.length<=1024) (W:∀ z∈a,Bt e z) (hb:2*(e+f+7)+2*f+1<=8796093022208) (a1:u.lines.length<=1048576) (aF:u.rays.length<=1099000000000) (ak:(Lin.addU a eq u).rays.length<=1099000000000) :
  Ans tab (.fn cW [.ptr ub 0,va,.bool eq]) H fun v H'=>v=.tup []/\Kp H0 H'/\UnderV H0 H' ub (Lin.addU a eq u):=by
 have hw:=G.wf;have a2:=G.le;have oa:=ha.one;have V:=ha.mono G.sub;have aR:=hu;obtain ⟨ql,qr,qd,cl,ah,aO,am,a3,s1,s2,s3⟩:=hu;have a8:=hw _ _ ah;refine BM C.q78 rfl rfl zU fun T hl g=>?_;have hl:T.length=48:=hl;have ao:c_P_cone_under_add.results=[]:=rfl;have o:aa T 0=.ptr ub 0:=g 0 (by simp);have s:aa T 1=va:=g 1 (by simp);have p:aa T 2=.bool eq:=g 2 (by simp);refine bi ?_;refine zW (cp hl o s p @aC) ?_;refine bi ?_;refine zW (eF hl o s p @aC ah) ?_;refine AnsH.eq (rN C (l:=u.lines) zF (aO.sl.mono (zG H)) zO (fun r=>!decide (Lin.dot a r=0)) (fun r hr H' w Z aS=>FY C Z.wf aS (Z.get (da)) (V.mono (Kp.sub (H:=H) (Kp.trans zK Z))) (by rw [X]; exact (hL r hr).1.symm) zO W (hL r hr).2 zO)) fun H2 ab=>?_;obtain ⟨k2,_,w2⟩:=zT H zK ab;have F:H2.get H.next=some (.cells [va] af true):=ab.get (da)
 have ay:=k2.get ah;have n2:H.next+8<=H2.next:=ab.le
 have aD:Kp H0 H2:=G.trans k2;have a7:=aD.le;have av:UnderV H0 H2 ub u:=aR.mono k2.sub;refine zW (cp hl o s p @aC) ?_;refine dy (fun T' H'=>Kp H0 H'/\UnderV H0 H' ub ⟨(Lin.addU a eq u).lines,(Lin.addU a eq u).rays,u.done⟩/\H'.get H.next=some (.cells [va] af true)) rfl ?_ ?_
 ·rcases HS (fun r=>!decide (Lin.dot a r=0)) u.lines with ⟨aJ,B⟩ | ⟨i,hi,B⟩
  ·have hcl:(Lin.cutL u.done a eq u.rays).length<=1099000000000:=by
    have e:Lin.addU a eq u=⟨u.lines,Lin.cutL u.done a eq u.rays,u.done++if eq then [] else [a]⟩:=by unfold Lin.addU; rw [B]
    rw [e] at ak;exact ak
   refine zW (eF hl o s p aJ F) ?_;refine AnsH.use (OE C (u:=u) (H0:=H0) zK ax (av.mono (Sub.bump H2 _)) (V.mono (zG H)) aI hd X hR hD aE W hb aF hcl) ?_;rintro v c ⟨rfl,I,K,ae⟩;refine zW (aA hl @aU) ?_;refine ⟨zK,?_,ae _ _ F zO⟩;have e:Lin.addU a eq u=⟨u.lines,Lin.cutL u.done a eq u.rays,u.done++if eq then [] else [a]⟩:=by unfold Lin.addU; rw [B]
   rw [e];exact K
  ·obtain ⟨ai,-,-⟩:=Wi.1 B;have aK:¬ ((i:Int)<0):=zO;have gi:u.lines.getD i []=u.lines[i]:=by simp [ai]
   refine zW (gS hl o s p hi aK F) ?_;refine AnsH.use (LN C (u:=u) (H0:=H0) (aD.up _) ax (av.mono (Sub.bump H2 _)) (V.mono (Kp.sub (k2.up _))) ai hd X hL hR W hb zO zO) ?_;rintro v c ⟨I,aq,K,ae,aN⟩;have O:=I.wf;have a6:=I.le;have a9:=aq.one;have Y:c.get H.next=some (.cells [va] af true):=ae _ _ F zO fun q1 q2 q3 h=>by
    have h':H2.get ub=some (.cells [q1,q2,q3] aP true):=h;rw [ay] at h';cases h';intro hq
    have:=am.old hw hq
    omega
   have e:Lin.addU a eq u=⟨(u.lines.eraseIdx i).map (Lin.foldV a (Lin.upV a u.lines[i])),u.rays.map (Lin.foldV a (Lin.upV a u.lines[i]))++(if eq then [] else [Lin.upV a u.lines[i]]),u.done++if eq then [] else [a]⟩:=by
    unfold Lin.addU; rw [B]; simp only [gi]
   rw [e];cases eq with
   | true =>
    refine zW (cp hl o s p @aU) ?_;refine ⟨zK,?_,Y⟩
    try simp only [if_true,Wv]
    exact K.mono (Sub.bump c 2)
   | false =>
    obtain ⟨L,aL⟩:=aN ql qr qd ay;obtain ⟨y,A,M,R,q,D,n,t,t1,N,t3⟩:=K;have az:c.get ub=some (.cells [y,A,M] aP true):=q;rw [aL] at az;cases az;have aV:=O _ _ q;have a5:=O _ _ Y;have n:Wr H0 c qr (u.rays.map (Lin.foldV a (Lin.upV a u.lines[i]))) (u.rays.map (Lin.foldV a (Lin.upV a u.lines[i]))).length:=n;have a4:(u.rays.map (Lin.foldV a (Lin.upV a u.lines[i]))).length=u.rays.length:=by simp
    obtain ⟨b,P,S,Q,E,aX,f6,u6⟩:=Bl.push1 (ty2:=af) (bytes:=24) (id:=c.next+9) (id2:=c.next+8) (k:=13) (cs:=[v]) (a:=Lin.upV a u.lines[i]) n.bl zU I ⟨v,rfl,aq⟩ zO zO zO zO zO zO zO;have U:dr ((c.up 13).put (c.next+8) (.cells [v] af true)) (c.next+9) 1 24 af qr (.own (c.next+8) 0 1 1 1 true)=some (.own (c.next+9) 0 b b 1 false,P):=S;have m:=f6.other n.bl q (fun cs h=>by injection h with _ h2; exact absurd h2 zU);have aW:=E.wf _ _ m;have w6:=E.wf;have ag:En (some (.cells [L,qr,qd] aP true)) 1 1 (.own (c.next+9) 0 b b 1 false)=some (.cells [L,.own (c.next+9) 0 b b 1 false,qd] aP true):=km (bj _ _ _ _ _ _).fits (by simp);refine zW (lh hl o s p q U m ag @aU) ?_;refine ⟨zK,⟨L,.own (c.next+9) 0 b b 1 false,qd,R,ap _ _ _,(f6.wr n.bl D t1.symm).putT m zU zU,?_,(f6.wr n.bl t t3).putT m zU zU,fun x hx hy=>?_,N,fun x hx hy=>?_⟩,?_⟩
    ·simp only [Wo,if_false];exact Q.wr.putT (e:=.cells [L,.own (c.next+9) 0 b b 1 false,qd] aP true) m zU zU
    ·cases hy
     have:=D.old O hx
     omega
    ·cases hx
     have:=t.old O hy
     omega
    ·try rw [al zO]
     refine f6 _ _ Y fun h=>?_
     have:=am.old hw h
     omega
 ·rintro T1 j J ⟨k1,ar,aG⟩;have w1:=k1.wf;have t0:aa T1 0=.ptr ub 0:=(J.at_ 0 zU).trans (zV (aA hl o));have N:aa T1 2=.bool eq:=(J.at_ 2 zU).trans (zV (aA hl p));have t4:aa T1 4=.ptr H.next 0:=(J.at_ 4 zU).trans (zV hl)
  have ad:T1.length=48:=J.len.trans (by simp only [Vg]; exact hl);have e:Lin.addU a eq u=⟨(Lin.addU a eq u).lines,(Lin.addU a eq u).rays,u.done++if eq then [] else [a]⟩:=by
   unfold Lin.addU; split <;> rfl
  rw [e];refine WC.wb ?_;cases eq with
  | true =>
   refine zW (aB ad N ao) ?_;refine ⟨zK,?_⟩
   try simp only [if_true,Wv]
   exact ar.mono (Sub.bump j 2)
  | false =>
   obtain ⟨y,A,M,R,q,D,n,t,aY,aZ,a0⟩:=ar;have aV:=w1 _ _ q;obtain ⟨b,P,S,Q,E,aX,f6,u6⟩:=Bl.push1 (ty2:=af) (bytes:=24) (id:=j.next+9) (id2:=j.next+8) (k:=13) (cs:=[va]) (a:=a) t.bl zU k1 ⟨va,rfl,ha.mono k1.sub⟩ zO zO zO zO zO (by simp only; omega) (by simp only; omega);have U:dr ((j.up 13).put (j.next+8) (.cells [va] af true)) (j.next+9) 1 24 af M (.own (j.next+8) 0 1 1 1 true)=some (.own (j.next+9) 0 b b 1 false,P):=S;have m:=f6.other t.bl q (fun cs h=>by injection h with _ h2; exact absurd h2 zU);have aW:=E.wf _ _ m;have w6:=E.wf;refine zW (aA ad N) ?_;refine aM ?_;have ag:En (some (.cells [y,A,M] aP true)) 1 2 (.own (j.next+9) 0 b b 1 false)=some (.cells [y,A,.own (j.next+9) 0 b b 1 false] aP true):=km (bj _ _ _ _ _ _).fits (Vo 3);refine zD (ur ad t0 t4 q aG U m ag @aQ ao) ?_;refine ⟨zK,⟨y,A,.own (j.next+9) 0 b b 1 false,R,ap _ _ _,(f6.wr t.bl D aZ.symm).putT m zU zU,(f6.wr t.bl n a0.symm).putT m zU zU,?_,aY,fun x hx hy=>?_,fun x hx hy=>?_⟩⟩
   ·simp only [Wo,if_false];exact Q.wr.putT (e:=.cells [y,A,.own (j.next+9) 0 b b 1 false] aP true) m zU zU
   ·cases hy
    have:=D.old w1 hx
    omega
   ·cases hy
    have:=n.old w1 hx
    omega
def OF (C:Code tab) (hw:Wf H) {d:Nat} (hd:d<=64):Ans tab (.fn tQ [.int .i64 (d:Int)]) H fun v H'=>Bl rowsE af H H' v (Lin.startU d).lines/\Kp H H':=by
 refine dg C.q77 zU fun T hl q=>?_;refine zW (aA hl q) ?_;refine am H [2] (fun j vs H'=>∃ o,vs=[o]/\Bl rowsE af H H' o ((List.range j).map (Lin.unitV d))) (a:=0) (N:=d) rfl (by refine zW (aA hl q) ?_; rfl) (zV (aA hl q)) (Vz _) zO (by simp only [Vg,hl]; rfl) rfl (fun j vs H' m ⟨o,h1,h2⟩=>⟨o,h1,h2.mono (Sub.bump H' m)⟩) zK ⟨.nilSl,by exact zV (aA hl q),Bl.nil⟩ ?_ ?_
 ·rintro j T1 f _ hj l Q I h ⟨o,s,x⟩;have w1:=h.wf;have W:=h.le;have ab:=h.le;simp only [Vq,Vw,Vv,and_true] at s;have t0:aa T1 0=.int .i64 (d:Int):=(I.at_ 0 zU).trans (zV (aA hl q));simp only [Vg,hl] at l;obtain ⟨cells,u⟩:∃ cells,cells=(List.replicate d [AV.bool false,AV.nilSl]).flatten:=⟨_,rfl⟩
  have R:∀ H':Heap,I8 H' (f.next+3) ad 2 32 [.bool false,.nilSl] (.int .i64 (d:Int)) (.int .i64 (d:Int))=some (.own (f.next+3) 0 d d 2 true,H'.put (f.next+3) (.cells cells ad true)):=fun H'=>by rw [u]; exact jd _ _ _ _ _ _ _ _ _ zO zO rfl
  refine zW (aV l t0 Q R) ?_;refine AnsH.use (oz C (n:=1) zF zO zO) ?_;rintro v H2 ⟨⟨w,rfl,hn⟩,F⟩;obtain ⟨k2,_,Y⟩:=zT f zK F;have X:=hn.one;have t:=F.get (b:=f.next+3) (e:=.cells cells ad true) (da);have ag:=Y _ _ t;have Z:cells.length=d*2:=by rw [u]; simp
  have y:En (some (.cells cells ad true)) 2 (0+j*2) (.agg [.bool false,w])=some (.cells (cells.take (0+j*2)++[.bool false,w]++cells.drop (0+j*2+2)) ad true):=km (Jr (aH _) X) zO;have D:cL 2 (.own (f.next+3) 0 d d 2 true) (.int .i64 (j:Int))=some (.ptr (f.next+3) (0+j*2)):=nl hj;rw [V3] at y D;obtain ⟨p,B⟩:∃ c,c=cells.take (j*2)++[.bool false,w]++cells.drop (j*2+2):=⟨_,rfl⟩
  rw [<- B] at y;have S:intE.R H2 [.bool false,.nilSl] 0:=⟨.nilSl,by simp,gZ H2⟩
  have hcl:Cells intE H2 cells (List.replicate d 0):=by rw [u]; exact rV S _
  have O:Cells intE H2 p ((List.replicate d 0).set j 1):=by rw [B]; exact hcl.set (i:=j) (by simpa using hj) ⟨w,rfl,hn⟩
  have m3:NoTy [ae] H2 (f.next+3):=NoTy.ty t zU;obtain ⟨g,r⟩:∃ g,g=H2.put (f.next+3) (.cells p ad true):=⟨_,rfl⟩
  have J:Kp f g:=by rw [r]; exact zK
  have U:Kp H g:=h.trans J;have nx:g.next=H2.next:=by rw [r]; rfl
  have P:Cells intE g p ((List.replicate d 0).set j 1):=by rw [r]; exact Cells.mono (E:=intE) zS O
  have G:RowV g (.own (f.next+3) 0 d d 2 true) (Lin.unitV d j):=by
   have:Own intE ad f g (f.next+3) true (.own (f.next+3) 0 d d 2 true) ((List.replicate d 0).set j 1):=⟨p,by simp [intE],by rw [r]; exact ap _ _ _,P,zO⟩
   exact this.sl
  have ai:=G.one;obtain ⟨K,L,A,z,V,ah,f6,u6⟩:=Bl.push1 (ty2:=af) (bytes:=24) (id:=g.next+3) (id2:=g.next+2) (k:=5) (cs:=[.own (f.next+3) 0 d d 2 true]) (a:=Lin.unitV d j) (x.mono J.sub) zU U ⟨_,rfl,G⟩ zO zO zO zO zO (by simp; omega) (by simp; omega);have M:dr ((((H2.up 5).put (f.next+3) (.cells p ad true))).put (H2.next+2) (.cells [.own (f.next+3) 0 d d 2 true] af true)) (H2.next+3) 1 24 af o (.own (H2.next+2) 0 1 1 1 true)=some (.own (H2.next+3) 0 K K 1 false,L):=by rw [r] at A; exact A
  rw [nx] at z;refine zW (eF l D t y s M) ?_;refine ⟨V,_,rfl,?_⟩;rw [Z2,V7];exact z
 ·rintro T1 f l I h ⟨o,s,x⟩;have w1:=h.wf;have W:=h.le;simp only [Vq,Vw,Vv,and_true] at s;simp only [Vg,hl] at l;refine zW (aA l s) ?_;exact ⟨x,h⟩
abbrev UI (H:Heap) (v:AV) (Ls:List (List (List Int))):Prop:=yY (sO rowsE af) Da H v Ls
def LM (C:Code tab) (D:Wf H) {Ls:List (List (List Int))} {d:Nat} (hs:UI H s Ls) (B:Ls.length<1099511627776) (hd:∀ L∈Ls,∀ r∈L,r.length=d):Ans tab (.fn re [s]) H fun v H'=>v=.int .i64 (if Ls.any (fun L=>!L.isEmpty) then (d:Int) else -1)/\Kp H H':=by
 refine dg C.q76 zU fun T hl c=>?_;refine zW (aB hl c hs.lenV) ?_;refine am H [] (fun j _ _=>∀ k (h:k<Ls.length),k<j->Ls[k]=[]) (a:=0) (N:=Ls.length) rfl (by refine zW (aA hl c) ?_; rfl) (zV (aA hl c)) (Vz _) zO (by simp only [Vg,hl]; rfl) rfl (fun _ _ _ _ h=>h) zK (fun k _ h=>by omega) ?_ ?_
 ·intro j T1 m _ hj b n q f g;have w1:=f.wf;have E:=f.le;have t5:aa T1 5=s:=(q.at_ 5 zU).trans (zV (aA hl c));obtain ⟨w,hr,p⟩:=SlV.at1 (hs.mono f.sub) (Vk hj);have hr:dS m w Ls[j]:=hr;have o:=SlV.idx1 hs .i64 j hj;simp only [Vg,hl] at b;rcases Xw (Ls[j]).length with h0 | h0
  ·have he:=WL.1 h0;have x:lenV w=some (.int .i64 0):=by rw [hr.lenV,h0]; rfl
   refine zW (eF b t5 n o p x) ?_;refine ⟨zK,fun k h i=>?_⟩;by_cases e:k=j
   ·subst e; exact he
   ·exact g k h zO
  ·obtain ⟨w0,z,u⟩:=dD hr h0;have t:cL 1 w (.int .i64 0)=some (aq w 0):=SlV.idx1 hr .i64 0 h0;have A:lenV w0=some (.int .i64 (d:Int)):=by rw [z.lenV,hd _ (Vm hj) _ (Vm h0)]
   have y:(0:Int)<((Ls[j]).length:Int):=zO;refine zW (sG b t5 n o p hr.lenV y h0 t u A) ?_;refine ⟨?_,zK⟩;rw [if_pos];rw [VY];exact ⟨_,Vm hj,by cases h:Ls[j] with | nil=>rw [h] at h0; simp at h0 | cons a l=>rfl⟩
 ·intro T1 m b q f g;simp only [Vg,hl] at b;refine zW b ?_;refine ⟨?_,zK⟩;rw [if_neg];rw [XA,WU];intro L hL;obtain ⟨k,i,rfl⟩:=WF hL;rw [g k i i]; simp
def gN (A B:List (List (Bool × List Nat))):Int :=
 if cK A≠0 then cK A else if cK B≠0 then cK B else if A≠[]/\B≠[]/\(A.getD 0 []).length≠(B.getD 0 []).length then 70 else 0
def Ea (C:Code tab) (X:Wf H) {va c:AV} {A B:List (List (Bool × List Nat))} (ha:O3 H va A) (hb:O3 H c B) (hA:A.length<1099511627776) (V:B.length<1099511627776) (I:∀ r∈A,xx r) (bb:∀ r∈B,xx r) :
  Ans tab (.fn mD [va,c]) H fun v H'=>v=.int .i64 (gN A B)/\Kp H H':=by
 have Z:=ha.one;have ob:=hb.one;refine BM C.q75 rfl rfl zU fun T hl g=>?_;have hl:T.length=39:=hl;have d:c_cone_checked.results=[(4,none)]:=rfl;have j:aa T 0=va:=g 0 (by simp);have l:aa T 1=c:=g 1 (by simp);refine bi ?_;refine zW (aV hl j l @aC) ?_;refine dy (fun T' H'=>cK A=0/\cK B=0/\Kp H H') rfl ?_ ?_
 ·refine zW (aB hl j l) ?_;refine cu H [11] (fun k vs H'=>∃ i:Nat,vs=[.int .i64 (i:Int)]/\i+k=2/\(1<=i->cK A=0)/\(2<=i->cK B=0)) 2 (by simp only [Vg]; exact hl) rfl zK ⟨0,by refine zW hl ?_; rfl,rfl,zO,zO⟩ ?_;rintro k T1 G b f w ⟨i,a,W,u,O⟩;have w1:=w.wf;have Y:=w.le;simp only [Vq,Vw,Vv,and_true] at a;have q:aa T1 10=.agg [va,c]:=(f.at_ 10 zU).trans (zV (aB hl j l))
  have:i=0\/i=1\/i=2:=zO
  rcases this with rfl | rfl | rfl
  ·have a:aa T1 11=.int .i64 0:=a;refine zW (aB b a q) ?_;refine AnsH.eq (tD C zF (ha.mono (zG H)) zO I) fun H2 o=>?_;obtain ⟨k2,_,U⟩:=zT H zK o;by_cases h:cK A=0
   ·refine zW (aB b a h) ?_;exact ⟨zK,1,zO,1,rfl,rfl,(by first | exact fun _=>h | exact fun _=>trivial),zO⟩
   ·refine zW (cp b a h @vw d) ?_;exact ⟨by unfold gN; rw [if_pos h],zK⟩
  ·have a:aa T1 11=.int .i64 1:=a;refine zW (aB b a q) ?_;refine AnsH.eq (tD C zF (hb.mono (zG H)) zO bb) fun H2 o=>?_;obtain ⟨k2,_,U⟩:=zT H zK o;have hA0:=u zO;by_cases h:cK B=0
   ·refine zW (aB b a h) ?_;exact ⟨zK,0,zO,2,rfl,rfl,(by first | exact fun _=>hA0 | exact fun _=>trivial),(by first | exact fun _=>h | exact fun _=>trivial)⟩
   ·refine zW (cp b a h @vw d) ?_;refine ⟨?_,zK⟩;unfold gN;rw [if_neg (by simpa using hA0),if_pos h]
  ·have a:aa T1 11=.int .i64 2:=a;refine zW (aV b a q @aU) ?_;exact ⟨u zO,O zO,zK⟩
 ·rintro T1 G f ⟨J,K,k1⟩;have w1:=k1.wf;have t0:aa T1 0=va:=(f.at_ 0 zU).trans (zV (aA hl j));have t1:aa T1 1=c:=(f.at_ 1 zU).trans (zV (aA hl l));have b:T1.length=39:=f.len.trans (by simp only [Vg]; exact hl);have m:gN A B=if A≠[]/\B≠[]/\(A.getD 0 []).length≠(B.getD 0 []).length then 70 else 0:=by
   unfold gN;rw [if_neg (by simpa using J),if_neg (by simpa using K)]
  refine WC.wb ?_;refine zW (aB b t0 t1) ?_;rcases Xw A.length with a0 | a0
  ·have P:lenV va=some (.int .i64 0):=by rw [ha.lenV,a0]; rfl
   have hA0:=WL.1 a0;refine aM ?_;refine zD (eF b t0 t1 P d @aQ) ?_;exact ⟨by rw [m,if_neg (fun h=>h.1 hA0)],zK⟩
  ·have p:(0:Int)<(A.length:Int):=zO;have L:A≠[]:=fun e=>by rw [e] at a0; simp at a0
   rcases Xw B.length with b0 | b0
   ·have Q:lenV c=some (.int .i64 0):=by rw [hb.lenV,b0]; rfl
    have M:=WL.1 b0;refine aM ?_;refine zD (lh b t0 t1 ha.lenV p a0 Q d @aQ) ?_;exact ⟨by rw [m,if_neg (fun h=>h.2.1 M)],zK⟩
   ·have D:(0:Int)<(B.length:Int):=zO;have N:B≠[]:=fun e=>by rw [e] at b0; simp at b0
    obtain ⟨wa,R,x⟩:=zY (ha.mono k1.sub) a0;obtain ⟨wb,S,y⟩:=zY (hb.mono k1.sub) b0;have E:cL 1 va (.int .i64 0)=some (aq va 0):=SlV.idx1 ha .i64 0 a0;have F:cL 1 c (.int .i64 0)=some (aq c 0):=SlV.idx1 hb .i64 0 b0;have z:=R.lenV;have lb:=S.lenV;have s:A.getD 0 []=A[0]:=by simp [a0]
    have t:B.getD 0 []=B[0]:=by simp [b0]
    by_cases he:A[0].length=B[0].length
    ·have n:((A[0].length:Nat):Int)=((B[0].length:Nat):Int):=zO;refine aM ?_;refine zD (Rj b t0 t1 ha.lenV hb.lenV p a0 D @b0 E F x y z lb n he d @aQ) ?_;exact ⟨by rw [m,s,t,if_neg (fun h=>h.2.2 he)],zK⟩
    ·have n:¬ ((A[0].length:Nat):Int)=((B[0].length:Nat):Int):=zO;refine aM ?_;refine zD (Rj b t0 t1 ha.lenV hb.lenV p a0 D @b0 E F x y z lb n he d @aQ) ?_;exact ⟨by rw [m,s,t,if_pos ⟨L,N,he⟩],zK⟩
end
end Go.Proofs.YtkmepoeklibegaaGreat.Ev
namespace Go.Proofs.YtkmepoeklibegaaGreat.Lin
def CM:∀ (n:Nat) (l:List (List Bool)),l.Nodup->(∀ b∈l,b.length=n)->l.length<=2^n
 | 0,[],_,_=>by simp
 | 0,[a],_,_=>by simp
 | 0,a :: b :: l,hn,h=>by
  have ha:=WL.1 (h a (by simp));have hb:=WL.1 (h b (by simp));subst ha; subst hb;simp at hn
 | n+1,l,hn,h=>by
  have part:∀ v:Bool,((l.filter fun b=>b.head? == some v).map List.tail).length<=2^n:=fun v=>by
   refine CM n _ ?_ fun b hb=>?_
   ·refine WE.2 (XO (fun {x y} hx hy hne e=>hne ?_) (XQ _ hn));have hx:=(Vx.1 hx).2;have hy:=(Vx.1 hy).2;cases x with
    | nil=>simp at hx
    | cons a x =>
     cases y with
     | nil=>simp at hy
     | cons b y =>
      simp at hx hy e;rw [hx,hy,e]
   ·obtain ⟨c,hc,rfl⟩:=Vl.1 hb
    have:=h c (Vx.1 hc).1
    simp [this]
  have h1:=part true;have h2:=part false;rw [Vp] at h1 h2;have h3:l.length=(l.filter fun b=>b.head? == some true).length+(l.filter fun b=>b.head? == some false).length:=by
   rw [<- WS,<- WS,XG (p:=fun b:List Bool=>b.head? == some true)];congr 1;refine ZQ fun b hb=>?_
   have:=h b hb
   cases b with
   | nil=>simp at this
   | cons a b=>cases a <;> simp
  rw [V5]; omega
def DD.count {d:Nat} {E L:V->Prop} {a R:List V} (h:DD d E (· ∈ a) L R):R.length<=2^a.length:=by
 have hn:(R.map fun r=>a.map fun i=>decide (dot i r=0)).Nodup:=by
  refine WE.2 (h.apart.imp fun hne e=>hne fun i hi=>?_)
  have:=List.map_inj_left.1 e i hi
  simpa using this
 have:=CM a.length _ hn fun b hb=>by obtain ⟨r,-,rfl⟩:=Vl.1 hb; simp
 simpa using this
def gensU_done {d:Nat} {c b:List V} (h1:∀ a∈c,a.length=d) (h2:∀ a∈b,a.length=d):(gensU d c b).done=b:=by
 obtain ⟨e,f⟩:=yW c (startU d) _ oC h1;obtain ⟨h,g⟩:=xB b _ e h2;exact g.trans (by rw [f]; simp [startU])
def AJ {d:Nat} (eq:Bool):∀ (l:List V) (u:Under) (E:V->Prop) (ps:List (Nat × V)),DD d E (· ∈ u.done) (· ∈ u.lines) u.rays->Re d ps u->(∀ a∈l,a.length=d)->∃ c,Re d c (l.foldl (fun u a=>addU a eq u) u)
 | [],u,E,ps,_,h,_=>⟨ps,h⟩
 | a :: l,u,E,ps,e,h,hl=>by
  obtain ⟨c,h'⟩:=QC (a:=a) e h eq;exact AJ eq l (addU a eq u) _ c (Iw e (hl a (Vt ..)) eq) h' fun b hb=>hl b (Vn _ hb)
def Ln {d:Nat} {b c:List V} (h1:∀ a∈b,a.length=d) (h2:∀ a∈c,a.length=d):∃ ps,Re d ps (gensU d b c):=by
 obtain ⟨e,-⟩:=yW b (startU d) _ oC h1;obtain ⟨ps,hp⟩:=AJ true b (startU d) _ _ oC (LI d) h1;exact AJ false c _ _ ps e hp h2
def L7 (a:V) (eq:Bool) (u:Under):(addU a eq u).lines.length<=u.lines.length:=by
 unfold addU;split
 ·exact Vo _
 ·simp only [Vp];exact List.length_eraseIdx_le ..
def uj (eq:Bool):∀ (l:List V) (u:Under),(l.foldl (fun u a=>addU a eq u) u).lines.length<=u.lines.length
 | [],u=>Vo _
 | a :: l,u=>VB (uj eq l (addU a eq u)) (L7 a eq u)
def gensU_lines (d:Nat) (a b:List V):(gensU d a b).lines.length<=d:=by
 refine VB (uj false b _) (VB (uj true a _) ?_);simp [startU]
def gens_mid {d M:Nat} (hd:0<d) (i:0<M) {b c:List V} (h1:∀ a∈b,a.length=d/\Bd M a) (h2:∀ a∈c,a.length=d/\Bd M a) :
  (∀ l∈(gensU d b c).lines,l.length=d/\Bd ((2*d*M)^2^d) l)/\(∀ r∈(gensU d b c).rays,r.length=d/\Bd ((2*d*M)^2^d) r)/\(gensU d b c).rays.length<=2^c.length:=by
 have e1:∀ a∈b,a.length=d:=fun a ha=>(h1 a ha).1;have e2:∀ a∈c,a.length=d:=fun a ha=>(h2 a ha).1;have e:=gensU_dd e1 e2;obtain ⟨ps,hp⟩:=Ln e1 e2;have f:=gensU_done e1 e2;obtain ⟨g,h⟩:=Oz (Es:=b) hd i (by rw [f]; exact e) hp h1 (by rw [f]; exact h2);exact ⟨fun l hl=>⟨e.lenL l hl,g l hl⟩,fun r hr=>⟨e.lenR r hr,h r hr⟩,e.count⟩
def M9 {d:Nat} {E I:V->Prop} {L R b:List V} (h:yG d E I L R):Re d (L.map fun l=>(pv l,l)) ⟨L,R,b⟩:=by
 refine ⟨by simp [Xu,Function.comp_def],fun q a=>?_,fun q a=>?_,?_,fun r hr q a=>?_,h.form.cont,h.cont⟩
 ·obtain ⟨l,hl,rfl⟩:=Vl.1 a;exact (h.form.pos hl).2.2
 ·obtain ⟨l,hl,rfl⟩:=Vl.1 a
  have:=(h.form.pos hl).2.1
  simp only;omega
 ·exact WE.2 h.form.clear
 ·obtain ⟨l,hl,rfl⟩:=Vl.1 a;exact h.rest r hr l hl
def told_bd {d M:Nat} (hd:0<d) (e:0<M) {c b L R:List V} (h:yG d (· ∈ c) (· ∈ b) L R) (h1:∀ a∈c,a.length=d/\Bd M a) (h2:∀ a∈b,a.length=d/\Bd M a) :
  (∀ l∈L,Bd ((2*d*M)^2^d) l)/\(∀ r∈R,Bd ((2*d*M)^2^d) r) :=
 Oz (u:=⟨L,R,b⟩) hd e h.dd (M9 h) h1 h2
def pow_bd {d m:Nat} (hd:d<=6):(2*d*2^m)^2^d<=2^(64*(m+4)):=by
 have h1:2*d*2^m<=2^(m+4):=by
  rw [Wu,VG (2^m)];exact Vy _ zO
 have h2:2^d<=2^6:=VW (by decide) hd;have h3:2^d*(m+4)<=64*(m+4):=Vy _ h2
 calc (2*d*2^m)^2^d<=(2^(m+4))^2^d:=Xo h1 _
  _=2^((m+4)*2^d):=(YC ..).symm
  _<=2^(64*(m+4)):=VW (by decide) (by rw [VG]; exact h3)
def Cq {d:Nat} {E I:V->Prop} {L R A B:List V} (c:∀ e,E e->e.length=d) (f:∀ i,I i->i.length=d) (h:DD d E I (· ∈ L) R) (h':DD d (· ∈ L) (· ∈ R) (· ∈ A) B):∀ x,Keep d E I x ↔ Keep d (· ∈ A) (· ∈ B) x:=by
 intro x;constructor
 ·intro hx;have hc:=h.all x hx;refine ⟨hx.len,fun a ha=>hc.dot_zero h.lenL h.lenR (fun l hl=>?_) (fun r hr=>?_),fun b hb=>hc.dot_nonneg h.lenL h.lenR (fun l hl=>?_) (fun r hr=>?_)⟩
  ·rw [dot_comm]; exact h'.lineE a ha l hl
  ·rw [dot_comm]; exact h'.lineI a ha r hr
  ·rw [dot_comm]; exact (h'.keep b hb).eq l hl
  ·rw [dot_comm]; exact (h'.keep b hb).ge r hr
 ·intro hx;have key:∀ y,Keep d (· ∈ L) (· ∈ R) y->0<=dot x y:=fun y hy=>(h'.all y hy).dot_nonneg h'.lenL h'.lenR (fun l hl=>by rw [dot_comm]; exact hx.eq l hl) (fun r hr=>by rw [dot_comm]; exact hx.ge r hr);refine ⟨hx.len,fun e he=>?_,fun i hi=>?_⟩
  ·have k1:=key e ⟨c e he,fun l hl=>by rw [dot_comm]; exact h.lineE l hl e he,fun r hr=>by rw [dot_comm,(h.keep r hr).eq e he]; exact XB _⟩;have k2:=key (scl (-1) e) ⟨scl_length (c e he),fun l hl=>by rw [dot_scl,dot_comm,h.lineE l hl e he]; rfl,fun r hr=>by rw [dot_scl,dot_comm,(h.keep r hr).eq e he]; exact XB _⟩;rw [dot_scl] at k2;rw [dot_comm]; omega
  ·rw [dot_comm];exact key i ⟨f i hi,fun l hl=>by rw [dot_comm]; exact h.lineI l hl i hi,fun r hr=>by rw [dot_comm]; exact (h.keep r hr).ge i hi⟩
def Lq {d:Nat} {b c:List V} (h1:∀ a∈b,a.length=d) (h2:∀ a∈c,a.length=d):∀ l∈gensL d b c,l.length=d:=(gens_told h1 h2).dd.lenL
def Lo {d:Nat} {b c:List V} (h1:∀ a∈b,a.length=d) (h2:∀ a∈c,a.length=d):∀ r∈gensR d b c,r.length=d:=(gens_told h1 h2).dd.lenR
def told_nodup {d:Nat} {E I:V->Prop} {L R:List V} (h:yG d E I L R):R.Nodup:=h.dd.apart.imp fun hne e=>hne fun i hi=>by rw [e]
def fl:List V->List V->List V
 | _,[]=>[]
 | F,a :: l=>match pivot (restF F a) with
  | none=>fl F l
  | some _=>a :: fl (putF F a) l
def insP_len (x:V) (p:Nat):∀ F:List V,(insP x p F).length=F.length+1
 | []=>rfl
 | r :: F=>by
  unfold insP;split
  ·rw [VX,insP_len x p F,VX]
  ·rfl
def vV:∀ (l F:List V),(fl F l).foldl putF F=l.foldl putF F/\(l.foldl putF F).length=F.length+(fl F l).length
 | [],F=>⟨rfl,rfl⟩
 | a :: l,F=>by
  unfold fl;cases h:pivot (restF F a) with
  | none =>
   have e:putF F a=F:=by unfold putF; rw [h]
   simp only [Wn,e];exact vV l F
  | some p =>
   have e:(putF F a).length=F.length+1:=by unfold putF; rw [h]; simp only; rw [insP_len,Vp]
   obtain ⟨h1,h2⟩:=vV l (putF F a);simp only [Wn,VX];exact ⟨h1,by rw [h2,e]; omega⟩
def lH:∀ (l F:List V),∀ x∈fl F l,x∈l
 | [],F,x,h=>by cases h
 | a :: l,F,x,h=>by
  unfold fl at h;split at h
  ·exact Vn _ (lH l F x h)
  ·rcases VK.1 h with rfl | h
   ·exact Vt ..
   ·exact Vn _ (lH l _ x h)
def Eh {d:Nat} {l:List V} (hl:∀ a∈l,a.length=d):(fl [] l).length<=d/\∀ x,Spn d (· ∈ fl [] l) x ↔ Spn d (· ∈ l) x:=by
 obtain ⟨h1,h2⟩:=vV l [];obtain ⟨h3,b⟩:=form_ech hl;obtain ⟨-,h5⟩:=form_ech (d:=d) (l:=fl [] l) fun a ha=>hl a (lH l [] a ha);have e:formF (fl [] l)=formF l:=h1;have c:=Ev.ech_len h3;have e2:(formF l).length=([]:List V).length+(fl [] l).length:=h2;refine ⟨by simp at e2; omega,fun x=>?_⟩;rw [<- h5 x,e,b x]
def Cl {α:Type} [DecidableEq α] (M:Nat):∀ (A:List α) (l:List (List α)),(∀ b∈l,∃ a∈A,b.head? = some a)->(∀ a∈A,(l.filter fun b=>b.head? == some a).length<=M)->l.length<=A.length*M
 | [],l,h,_=>by
  cases l with
  | nil=>simp
  | cons b l=>obtain ⟨a,ha,_⟩:=h b (Vt ..); cases ha
 | a :: A,l,h,d=>by
  have h1:=d a (Vt ..);have h2:=Cl M A (l.filter fun b=>!(b.head? == some a)) (fun b hb=>by
   obtain ⟨hb,hn⟩:=Vx.1 hb;obtain ⟨c,hc,e⟩:=h b hb;rcases VK.1 hc with rfl | hc
   ·simp [e] at hn
   ·exact ⟨c,hc,e⟩) fun c hc=>by
    refine VB ?_ (d c (Vn _ hc));exact (List.Sublist.filter _ Zm).length_le
  have h3:l.length=(l.filter fun b=>b.head? == some a).length+(l.filter fun b=>!(b.head? == some a)).length:=by
   rw [<- WS,<- WS,XG (p:=fun b:List α=>b.head? == some a)];congr 1;refine ZQ fun b _=>?_
   simp
  rw [VX,W4];omega
def Cg {α:Type} [DecidableEq α] (A:List α):∀ (k:Nat) (l:List (List α)),l.Nodup->(∀ b∈l,b.length=k/\∀ x∈b,x∈A)->l.length<=A.length^k
 | 0,[],_,_=>by simp
 | 0,[a],_,_=>by simp
 | 0,a :: b :: l,hn,h=>by
  have ha:=WL.1 (h a (by simp)).1;have hb:=WL.1 (h b (by simp)).1;subst ha; subst hb;simp at hn
 | k+1,l,hn,h=>by
  have:=Cl (A.length^k) A l (fun b hb=>by
   obtain ⟨h1,h2⟩:=h b hb;cases b with
   | nil=>simp at h1
   | cons x b=>exact ⟨x,h2 x (Vt ..),rfl⟩) fun v _=>by
    have:=Cg A k ((l.filter fun b=>b.head? == some v).map List.tail) (by
     refine WE.2 (XO (fun {x y} hx hy hne e=>hne ?_) (XQ _ hn));have hx:=(Vx.1 hx).2;have hy:=(Vx.1 hy).2;cases x with
     | nil=>simp at hx
     | cons a x =>
      cases y with
      | nil=>simp at hy
      | cons b y =>
       simp at hx hy e;rw [hx,hy,e]) fun b hb=>by
     obtain ⟨c,hc,rfl⟩:=Vl.1 hb;obtain ⟨h1,h2⟩:=h c (Vx.1 hc).1;refine ⟨by simp [h1],fun x hx=>h2 x (List.mem_of_mem_tail hx)⟩
    rwa [Vp] at this
  rw [V5,VG]; exact this
def Or:∀ x:V,0<=dot x x/\(dot x x=0->∀ y:V,dot y x=0)
 | []=>⟨by simp [dot],fun _ y=>by cases y <;> simp [dot]⟩
 | a :: x=>by
  obtain ⟨h1,h2⟩:=Or x;have h3:0<=a*a:=by
   rcases Int.le_total 0 a with h | h
   ·exact V8 h h
   ·exact Int.mul_nonneg_of_nonpos_of_nonpos h h
  have e:dot (a :: x) (a :: x)=a*a+dot x x:=by simp [dot]
  rw [e];refine ⟨zO,fun h0 y=>?_⟩;have ha:a=0:=by
   have:a*a=0:=zO
   rcases VH.1 this with h | h <;> exact h
  cases y with
  | nil=>simp [dot]
  | cons b y =>
   have:=h2 zO y
   simp [dot,ha] at this ⊢;exact this
def Gj {d:Nat} {l:List V} (hl:∀ a∈l,a.length=d) {r i:V} (hr:r.length=d) (f:∀ a∈l,dot a r=0) (hn:dot i r≠0):(fl [] l).length+1<=d:=by
 obtain ⟨h1,h2⟩:=form_ech hl;obtain ⟨h3,b⟩:=put_ech h1 hr;have e2:(formF l).length=([]:List V).length+(fl [] l).length:=(vV l []).2;cases hp:pivot (restF (formF l) r) with
 | some p =>
  have e:(putF (formF l) r).length=(formF l).length+1:=by unfold putF; rw [hp]; simp only; rw [insP_len,Vp]
  have:=Ev.ech_len h3
  simp at e2;omega
 | none =>
  exfalso
  have e:putF (formF l) r=formF l:=by unfold putF; rw [hp]
  have h5:Spn d (· ∈ l) r:=(h2 r).1 (by
   have:=(b r).2 (dI hr (.inr rfl))
   rw [e] at this;exact this)
  have c:=Con.dot_zero (a:=r) hl (fun r h=>h.elim) (fun a ha=>by rw [dot_comm]; exact f a ha) (fun r h=>h.elim) h5;exact hn ((Or r).2 c i)
def DD.count3 {d:Nat} {E L:V->Prop} {f R:List V} (h:DD d E (· ∈ f) L R) (n:∀ i∈f,i.length=d):R.length<=1\/R.length<=f.length^(d-1):=by
 obtain ⟨T,hT⟩:∃ T:V->List V,T=fun r=>f.filter fun i=>decide (dot i r=0):=⟨_,rfl⟩
 have g:∀ r i,i∈T r ↔ i∈f/\dot i r=0:=fun r i=>by rw [hT,Vx]; simp
 have j:∀ r,∀ i∈T r,i.length=d:=fun r i hi=>n i ((g r i).1 hi).1;by_cases he:∃ r∈R,fl [] (T r)=[]
 ·left
  obtain ⟨r,hr,hb⟩:=he;have o:∀ i,i∈f->dot i r=0->∀ y,dot i y=0:=fun i hi h0 y=>by
   have h1:Spn d (· ∈ fl [] (T r)) i:=((Eh (j r)).2 i).2 (dI (n i hi) ((g r i).2 ⟨hi,h0⟩));rw [dot_comm];exact Con.dot_zero (fun l hl=>j r l (lH _ _ l hl)) (fun r h=>h.elim) (fun l hl=>by rw [hb] at hl; cases hl) (fun r h=>h.elim) h1
  have m:∀ s∈R,∀ i,i∈f->(dot i s=0 ↔ dot i r=0):=fun s hs=>by
   obtain ⟨k,c,B,hc,A⟩:=h.ext r hr s (h.keep s hs) fun i hi h0=>o i hi h0 s;have w:=h.lenR s hs;have v:=h.lenR r hr;have q:∀ i,i∈f->k*dot i s=c*dot i r:=fun i hi=>by
    have:=Con.dot_zero (a:=i) h.lenL (fun r h=>h.elim) (fun l hl=>h.lineI l hl i hi) (fun r h=>h.elim) A
    rw [aJ _ _ _ (w.trans v.symm),X9] at this;omega
   have u:c≠0:=fun e=>by
    obtain ⟨i,hi,hn⟩:=h.off s hs
    have:=q i hi
    rw [e,Yu] at this;rcases VH.1 this with h1 | h1
    ·omega
    ·exact hn h1
   intro i hi
   have:=q i hi
   constructor
   ·intro e;rw [e,YI] at this;rcases VH.1 this.symm with h1 | h1
    ·exact absurd h1 u
    ·exact h1
   ·intro e;rw [e,YI] at this;rcases VH.1 this with h1 | h1
    ·omega
    ·exact h1
  have ha:=h.apart
  match R,ha,m with
  | [],_,_=>simp
  | [x],_,_=>simp
  | x :: y :: R',ha,m =>
   exfalso
   have h1:=List.rel_of_pairwise_cons ha (Vt (a:=y) (l:=R'));exact h1 fun i hi=>(m x (by simp) i hi).trans (m y (by simp) i hi).symm
 ·right
  have hne:∀ r∈R,fl [] (T r)≠[]:=fun r hr e=>he ⟨r,hr,e⟩;have hd:∀ b:List V,b≠[]->b.headD []∈b:=fun b hb=>by
   cases b with
   | nil=>exact absurd rfl hb
   | cons a b=>exact Vt ..
  have hn:(R.map fun r=>fl [] (T r)++List.replicate (d-1-(fl [] (T r)).length) ((fl [] (T r)).headD [])).Nodup:=by
   have p:∀ r s:V,fl [] (T s)≠[]->fl [] (T r)++List.replicate (d-1-(fl [] (T r)).length) ((fl [] (T r)).headD [])=fl [] (T s)++List.replicate (d-1-(fl [] (T s)).length) ((fl [] (T s)).headD [])->∀ i,i∈f->dot i r=0->dot i s=0:=fun r s hs e i hi o=>by
    have h1:Spn d (· ∈ fl [] (T r)) i:=((Eh (j r)).2 i).2 (dI (n i hi) ((g r i).2 ⟨hi,o⟩));rw [dot_comm];refine Con.dot_zero (fun l hl=>j r l (lH _ _ l hl)) (fun r h=>h.elim) (fun l hl=>?_) (fun r h=>h.elim) h1;have h2:l∈fl [] (T s)++List.replicate (d-1-(fl [] (T s)).length) ((fl [] (T s)).headD []):=by rw [<- e]; exact WH _ hl
    have h3:l∈fl [] (T s):=by
     rcases VE.1 h2 with h2 | h2
     ·exact h2
     ·rw [YM h2]; exact hd _ hs
    rw [dot_comm]; exact ((g s l).1 (lH _ _ l h3)).2
   exact WE.2 (h.apart.imp_of_mem fun {r s} hr hs t e=>t fun i hi=>⟨p _ _ (hne s hs) e i hi,p _ _ (hne r hr) e.symm i hi⟩)
  have:=Cg f (d-1) _ hn fun b hb=>by
   obtain ⟨r,hr,rfl⟩:=Vl.1 hb;obtain ⟨i,hi,z⟩:=h.off r hr;have h1:=Gj (j r) (h.lenR r hr) (fun a ha=>((g r a).1 ha).2) z;refine ⟨by rw [VC,XM]; omega,fun x hx=>?_⟩;have hm:x∈fl [] (T r):=by
    rcases VE.1 hx with hx | hx
    ·exact hx
    ·rw [YM hx]; exact hd _ (hne r hr)
   exact ((g r x).1 (lH _ _ x hm)).1
  simpa using this
end Go.Proofs.YtkmepoeklibegaaGreat.Lin
namespace Go.Proofs.YtkmepoeklibegaaGreat.Ev
open Go Nn
def FG (d:Nat) (E:List (List Int)) {j:Nat} (h:j<E.length):Lin.gensU d (E.take (j+1)) []=Lin.addU E[j] true (Lin.gensU d (E.take j) []):=by
 unfold Lin.gensU;rw [Vr h,Yc]; rfl
def FF (d:Nat) (E I:List (List Int)) {j:Nat} (h:j<I.length):Lin.gensU d E (I.take (j+1))=Lin.addU I[j] false (Lin.gensU d E (I.take j)):=by
 unfold Lin.gensU;rw [Vr h,Yc]; rfl
def ft {m:Nat} {x:List Int} (h:Lin.Bd (2^m) x):∀ z∈x,Bt (m+1) z:=fun z a=>by
 have h1:=h.mem z a;have h2:0<2^m:=Wb zU;unfold Bt;rw [V5];omega
def Lr {d:Nat} {l:List (List Int)} (hl:∀ r∈l,r.length=d):Lin.formF (Lin.formF l)=Lin.formF l:=by
 have h:=Lin.form_ech hl;have h2:=Lin.form_ech h.1.len;exact h2.1.unique h.1 h2.2
structure Rb (d f:Nat) (u:Lin.Under) (I:List (List Int)):Prop where
 lines:∀ l∈u.lines,l.length=d/\∀ z∈l,Bt f z
 rays:∀ r∈u.rays,r.length=d/\∀ z∈r,Bt f z
 few:u.rays.length<=I.length^(d-1)+1
 some:u.lines.length<=d
 done:u.done=I
def Si {d m:Nat} (e:0<d) (hd:d<=6) {E I:List (List Int)} (h1:∀ a∈E,a.length=d/\Lin.Bd (2^m) a) (h2:∀ a∈I,a.length=d/\Lin.Bd (2^m) a):Rb d (64*(m+4)+1) (Lin.gensU d E I) I:=by
 obtain ⟨b,c,f⟩:=Lin.gens_mid e (Wb (n:=m) (show 0<2 by decide)) h1 h2;exact ⟨fun l hl=>⟨(b l hl).1,ft ((b l hl).2.mono (Lin.pow_bd hd))⟩,fun l hl=>⟨(c l hl).1,ft ((c l hl).2.mono (Lin.pow_bd hd))⟩,by rcases (Lin.gensU_dd (fun a ha=>(h1 a ha).1) (fun a ha=>(h2 a ha).1)).count3 (fun a ha=>(h2 a ha).1) with h | h <;> omega,Lin.gensU_lines d E I,Lin.gensU_done (fun a ha=>(h1 a ha).1) (fun a ha=>(h2 a ha).1)⟩
def uy {d m:Nat} (e:0<d) (hd:d<=6) {E I:List (List Int)} (h1:∀ a∈E,a.length=d/\Lin.Bd (2^m) a) (h2:∀ a∈I,a.length=d/\Lin.Bd (2^m) a) :
  (∀ l∈Lin.gensL d E I,l.length=d/\Lin.Bd (2^(64*(m+4))) l)/\∀ r∈Lin.gensR d E I,r.length=d/\Lin.Bd (2^(64*(m+4))) r:=by
 have t:=Lin.gens_told (fun a ha=>(h1 a ha).1) (fun a ha=>(h2 a ha).1);obtain ⟨b,c⟩:=Lin.told_bd e (Wb (n:=m) (show 0<2 by decide)) t h1 h2;exact ⟨fun l hl=>⟨t.dd.lenL l hl,(b l hl).mono (Lin.pow_bd hd)⟩,fun l hl=>⟨t.dd.lenR l hl,(c l hl).mono (Lin.pow_bd hd)⟩⟩
def Sv {e d:Nat} (hd:d<=6):jy e d<=1237*e+1957:=by
 refine VB (tW e hd) ?_;simp only [jy];omega
def Io {d:Nat} {A B:List (List Int)} (h1:xD d A) (h2:xD d B) (hA:A.length<=1024) (f:B.length<=1024):gN (A.map fun r=>r.map eO) (B.map fun r=>r.map eO)=0:=by
 have code:∀ {L:List (List Int)},xD d L->L.length<=1024->cK (L.map fun r=>r.map eO)=0:=fun {L} c hL=>by
  refine wz (by rw [Vp]; exact hL) (fun k e=>?_) fun k e=>?_
  ·rw [Vp] at e;have hm:=Vm e;simp only [Ym];unfold xy;rw [Do (by rw [c.len _ hm]; exact c.le),decide_eq_false (by rw [Vp,c.len _ hm]; have:=c.pos; omega)];rfl
  ·rw [Vp] at e;simp only [Ym,Vp];rw [c.len _ (Vm e),c.len _ (Vm zO)]
 unfold gN;rw [code h1 hA,code h2 f];simp only [ne_eq,not_true_eq_false,if_false];rw [if_neg];rintro ⟨ha,hb,hne⟩
 apply hne
 cases A with
 | nil=>simp at ha
 | cons a A =>
  cases B with
  | nil=>simp at hb
  | cons b B=>simp [h1.len a (by simp),h2.len b (by simp)]
def QD {a:AV} (ha:One a):iJ [.nilSl,.nilSl,.nilSl] [((0,1),a)]=some (.agg [a,.nilSl,.nilSl]):=by
 simp [iJ,dj,ha.1,ha.2]
section
variable {tab:Nat->Option au} {H:Heap} {s:AV}
def Eb (C:Code tab) (h:Wf H) {a b:AV} {x y:List Int} (ha:RowV H a x) (hb:RowV H b y) (g:x.length=y.length) (e:x.length<=64) (hx:∀ z∈x,eR z) (hy:∀ z∈y,eR z) :
  Ans tab (.fn jc [a,b]) H fun v H'=>v=.int .i64 (Ec x y)/\Kp H H':=by
 have i:=ha.one;have j:=hb.one;refine bC C.q82 zU fun T hl c d=>?_;refine zW (aB hl c d) ?_;refine AnsH.eq (PN C zF (ha.mono (zG H)) (hb.mono (zG H)) g e hx hy) fun H2 f=>?_;obtain ⟨k2,_,_⟩:=zT H zK f;refine zW (aB hl c d) ?_;exact zK
def AO (C:Code tab) (hw:Wf H) {va S:AV} {E I:List (List Int)} {d m:Nat} (ha:dS H va E) (hb:dS H S I) (O:0<d) (hd:d<=6) (he:E.length<=1024) (hi:I.length<=1024) (bM:I.length^(d-1)<1099000000000) (h1:∀ a∈E,a.length=d/\Lin.Bd (2^m) a) (h2:∀ a∈I,a.length=d/\Lin.Bd (2^m) a) (hm:m<=300000) :
  Ans tab (.fn rf [.int .i64 (d:Int),va,S]) H fun v H'=>∃ p q,v=.tup [p,q,.int .i64 0]/\dS H' p (Lin.gensL d E I)/\dS H' q (Lin.gensR d E I)/\Kp H H':=by
 have oa:=ha.one;have ob:=hb.one;obtain ⟨f,hf⟩:∃ f,f=64*(m+4)+1:=⟨_,rfl⟩
 have ok1:xD d E:=⟨O,zO,fun r hr=>(h1 r hr).1,fun r hr z n=>(ft (h1 r hr).2 z n).sm zO⟩
 have ay:xD d I:=⟨O,zO,fun r hr=>(h2 r hr).1,fun r hr z n=>(ft (h2 r hr).2 z n).sm zO⟩
 have mid:∀ {A B:List (List Int)},(∀ a∈A,a.length=d/\Lin.Bd (2^m) a)->(∀ a∈B,a.length=d/\Lin.Bd (2^m) a)->Rb d f (Lin.gensU d A B) B:=fun hA hB=>by rw [hf]; exact Si O hd hA hB
 have bN:=Sv (e:=f) hd;refine BM C.q54 rfl rfl zU fun T hl g=>?_;have hl:T.length=100:=hl;have bs:c_cone_Gens.results=[(6,none),(7,none),(8,none)]:=rfl;have g0:aa T 0=.int .i64 (d:Int):=g 0 (by simp);have g1:aa T 1=va:=g 1 (by simp);have g2:aa T 2=S:=g 2 (by simp);refine bi ?_;refine zW (cp hl g0 g1 g2 @aC) ?_;refine dy (fun T' H'=>Kp H H') rfl ?_ ?_
 ·refine zW (aV hl g0 g1 g2) ?_;refine AnsH.eq (Ea C zF ((zL ha).mono (zG H)) ((zL hb).mono (zG H)) (by rw [Vp]; omega) (by rw [Vp]; omega) (fun r hr=>?_) (fun r hr=>?_)) fun H2 aF=>?_
  ·obtain ⟨x,hx,rfl⟩:=Vl.1 hr;exact uG (by rw [ok1.len x hx]; omega) (ok1.sm x hx)
  ·obtain ⟨x,hx,rfl⟩:=Vl.1 hr;exact uG (by rw [ay.len x hx]; omega) (ay.sm x hx)
  rw [Io ok1 ay he hi];obtain ⟨k2,_,_⟩:=zT H zK aF;refine zW (aA hl @aU) ?_;exact zK
 intro T1 H1 ak k1;have w1:=k1.wf;have bQ:=k1.le;have t0:aa T1 0=.int .i64 (d:Int):=(ak.at_ 0 zU).trans (zV (aA hl g0));have t1:aa T1 1=va:=(ak.at_ 1 zU).trans (zV (aA hl g1));have t2:aa T1 2=S:=(ak.at_ 2 zU).trans (zV (aA hl g2));have t7:aa T1 7=.nilSl:=(ak.at_ 7 zU).trans (zV hl);have aq:T1.length=100:=ak.len.trans (by simp only [Vg]; exact hl);refine dy (fun T' H'=>Kp H H'/\aa T' 7=.nilSl) rfl ?_ ?_
 ·refine zW (aV aq t0 t1 t2) ?_;refine AnsH.use (LM C (Ls:=[E,I]) (d:=d) zF (BF (E:=rowsE) (t1:=af) ha hb (zG H) (da)) (by simp) (fun L hL r hr=>?_)) ?_
  ·rcases VK.1 hL with rfl | hL
   ·exact ok1.len r hr
   ·rcases VK.1 hL with rfl | hL
    ·exact ay.len r hr
    ·cases hL
  rintro v H2 ⟨rfl,aF⟩;obtain ⟨k2,_,_⟩:=zT H zK aF;have q1:¬ ((d:Int)<1):=zO;have q2:¬ ((64:Int)<(d:Int)):=zO;have q3:(0:Int)<=(d:Int):=zO;cases bL:[E,I].any (fun L=>!L.isEmpty) with
  | true =>
   refine zW (gS aq t0 t7 q1 q2 q3 @aU) ?_;exact zK
  | false =>
   refine zW (gS aq t0 t7 q1 q2 q3 @aU) ?_;exact zK
 rintro T2 H2 av ⟨k2,u7⟩;have w2:=k2.wf;have bR:=k2.le;have u0:aa T2 0=.int .i64 (d:Int):=(av.at_ 0 zU).trans t0;have u1:aa T2 1=va:=(av.at_ 1 zU).trans t1;have u2:aa T2 2=S:=(av.at_ 2 zU).trans t2;have aJ:T2.length=100:=av.len.trans aq;refine dy (fun T' H'=>aa T' 10=.ptr (H2.next+3) 0/\Kp H H'/\UnderV H H' (H2.next+3) (Lin.gensU d [] [])) rfl ?_ ?_
 ·refine zW (aA aJ u0) ?_;refine AnsH.use (OF C (d:=d) zF zO) ?_;rintro v Y ⟨az,aG⟩;obtain ⟨k23,_,_⟩:=zT H2 zK aG;have k3:Kp H Y:=k2.trans k23;have b2:=k3.le;have w3:=k3.wf;have ov:=az.sl.one;have h0:AV.one .nilSl=true:=rfl;have bd:gR (.agg [v,.nilSl,.nilSl])=some [v,.nilSl,.nilSl]:=by simp [gR,AV.cells,ov.2,h0]
  have n3:H2.next+5<=Y.next:=aG.le
  have f3:Y.get (H2.next+3)=none:=aG.free (show _<H2.next+5 by omega) (w2.fresh (b:=H2.next+3) zO);refine zW (aV aJ (QD ov) bd @aU) ?_;have bc:Wr H Y v (Lin.startU d).lines (Lin.startU d).lines.length:=az.wr.base (show H.next<=H2.next+5 by omega);have bo:js v≠some (H2.next+3):=fun hx=>by
   have h2:H2.next+5<=H2.next+3:=az.ge hx
   omega
  exact ⟨zK,v,.nilSl,.nilSl,_,ap _ _ _,bc.put bo (NoTy.none f3),.inl ⟨rfl,rfl⟩,.inl ⟨rfl,rfl⟩,(fun x _ hy=>by cases hy),(fun x _ hy=>by cases hy),(fun x _ hy=>by cases hy)⟩
 obtain ⟨ub,bv⟩:∃ ub,ub=H2.next+3:=⟨_,rfl⟩
 rw [<- bv];have a3:H.next<=ub:=zO
 rintro T3 Y ax ⟨b9,k3,bt⟩;have w3:=k3.wf;have bT:=k3.le;have v1:aa T3 1=va:=(ax.at_ 1 zU).trans u1;have v2:aa T3 2=S:=(ax.at_ 2 zU).trans u2;have v7:aa T3 7=.nilSl:=(ax.at_ 7 zU).trans u7;have l:T3.length=100:=ax.len.trans aJ;refine bi ?_;refine zW (aB l b9 @aC) ?_;refine dy (fun T' H'=>Kp H H'/\UnderV H H' ub (Lin.gensU d E [])) rfl ?_ ?_
 ·refine zW (aB l v1 ha.lenV) ?_;refine am H [] (fun j _ H'=>UnderV H H' ub (Lin.gensU d (E.take j) [])) (a:=0) (N:=E.length) rfl (by refine zW l ?_; rfl) (zV l) (Vz _) zO (by simp only [Vg,l]; rfl) rfl (fun j vs H' m h=>h.mono (Sub.bump H' m)) zK (by exact bt.mono (Sub.bump Y _)) ?_ ?_
  ·rintro j F H4 _ hj c bg M W ae;have w4:=W.wf;have bY:=W.le;have bA:=W.le;have bC:aa F 48=va:=(M.at_ 48 zU).trans (zV (aA l v1));have aQ:aa F 11=.fn (.func cW) [.ptr ub 0] []:=(M.at_ 11 zU).trans (zV l);obtain ⟨w,hr,ah⟩:=dD ha hj;have bm:=bU W.sub ah;have ag:=SlV.idx1 ha .i64 j hj;have mk:=mid (A:=E.take j) (B:=[]) (fun a h=>h1 a (Xg h)) (fun a h=>by cases h);have aS:=h1 _ (Vm hj);have a2:=mk.some;have aE:=mk.few;have bI:0^(d-1)<=1:=VB (Xo (Vz 1) _) (by rw [Nat.one_pow]; exact Vo _);simp only [Xi] at aE;have aK:(Lin.addU E[j] true (Lin.gensU d (E.take j) [])).rays.length<=1099000000000:=by
    rw [<- FG d E hj]
    have:=(mid (A:=E.take (j+1)) (B:=[]) (fun a h=>h1 a (Xg h)) (fun a h=>by cases h)).few
    simp only [Xi] at this;omega
   simp only [Vg,l] at c;refine zW (eF c bC aQ bg ag bm) ?_;refine AnsH.use (FZ C (H0:=H) (u:=Lin.gensU d (E.take j) []) (e:=f) (f:=f) (W.up _) a3 (ae.mono (Sub.bump H4 _)) hr O zO aS.1 mk.lines mk.rays (fun r hr=>by rw [mk.done] at hr; cases hr) (by rw [mk.done]; simp) (fun z n=>(ft aS.2 z n).mono zO) zO zO zO aK) ?_;rintro v U ⟨rfl,G,Q⟩;refine zW c ?_;exact ⟨G,by rw [FG d E hj]; exact Q⟩
  ·rintro F H4 c M W ae;rw [VO] at ae;refine zW (aA c @aU) ?_;exact ⟨W,ae⟩
 rintro F H4 M ⟨k4,ae⟩;have w4:=k4.wf;have bA:=k4.le;have x2:aa F 2=S:=(M.at_ 2 zU).trans (zV (aA l v2));have x7:aa F 7=.nilSl:=(M.at_ 7 zU).trans (zV (aA l v7));have bF:aa F 10=.ptr ub 0:=(M.at_ 10 zU).trans (zV (aA l b9));have bG:aa F 11=.fn (.func cW) [.ptr ub 0] []:=(M.at_ 11 zU).trans (zV l);have c:F.length=100:=M.len.trans (by simp only [Vg]; exact l);refine dy (fun T' H'=>Kp H H'/\UnderV H H' ub (Lin.gensU d E I)) rfl ?_ ?_
 ·refine zW (aB c x2 hb.lenV) ?_;refine am H [] (fun j _ H'=>UnderV H H' ub (Lin.gensU d E (I.take j))) (a:=0) (N:=I.length) rfl (by refine zW c ?_; rfl) (zV c) (Vz _) zO (by simp only [Vg,c]; rfl) rfl (fun j vs H' m h=>h.mono (Sub.bump H' m)) zK (by exact ae.mono (Sub.bump H4 _)) ?_ ?_
  ·rintro j V U _ hj J bh X G Q;have w5:=G.wf;have bZ:=G.le;have bB:=G.le;have bD:aa V 58=S:=(X.at_ 58 zU).trans (zV (aA c x2));have aQ:aa V 11=.fn (.func cW) [.ptr ub 0] []:=(X.at_ 11 zU).trans (zV (aA c bG));obtain ⟨w,hr,ah⟩:=dD hb hj;have bn:=bU G.sub ah;have ag:=SlV.idx1 hb .i64 j hj;have aD:∀ a∈I.take j,a.length=d/\Lin.Bd (2^m) a:=fun a h=>h2 a (Xg h);have mk:=mid (A:=E) (B:=I.take j) h1 aD;have aX:=h2 _ (Vm hj);have a2:=mk.some;have aE:=mk.few;have hp:(I.take j).length^(d-1)<=I.length^(d-1):=Xo (by rw [VN]; omega) _;have aK:(Lin.addU I[j] false (Lin.gensU d E (I.take j))).rays.length<=1099000000000:=by
    rw [<- FF d E I hj];have h3:=(mid (A:=E) (B:=I.take (j+1)) h1 (fun a h=>h2 a (Xg h))).few;have h4:(I.take (j+1)).length^(d-1)<=I.length^(d-1):=Xo (by rw [VN]; omega) _;omega
   simp only [Vg,c] at J;refine zW (eF J bD aQ bh ag bn) ?_;refine AnsH.use (FZ C (H0:=H) (u:=Lin.gensU d E (I.take j)) (e:=f) (f:=f) (G.up _) a3 (Q.mono (Sub.bump U _)) hr O zO aX.1 mk.lines mk.rays (fun r hr=>by rw [mk.done] at hr; exact ⟨(aD r hr).1,fun z n=>(ft (aD r hr).2 z n).mono zO⟩) (by rw [mk.done,VN]; omega) (fun z n=>(ft aX.2 z n).mono zO) zO zO zO aK) ?_;rintro v s ⟨rfl,aI,bu⟩;refine zW J ?_;exact ⟨aI,by rw [FF d E I hj]; exact bu⟩
  ·rintro V U J X G Q;rw [VO] at Q;refine zW (aA J @aU) ?_;exact ⟨G,Q⟩
 rintro V U X ⟨k5,Q⟩;have w5:=k5.wf;have bB:=k5.le;have y7:aa V 7=.nilSl:=(X.at_ 7 zU).trans x7;have b8:aa V 10=.ptr ub 0:=(X.at_ 10 zU).trans bF;have J:V.length=100:=X.len.trans c;have mk:=mid h1 h2;have a2:=mk.some;have aE:=mk.few;obtain ⟨ql,qr,qd,cl,aN,bq,br,bP,-,-,-⟩:=Q;have ca:=w5 _ _ aN;obtain ⟨tL,tR⟩:=uy O hd h1 h2;have hT:=Lin.gens_told (fun a ha=>(h1 a ha).1) (fun a ha=>(h2 a ha).1);obtain ⟨L,hL⟩:∃ L,L=Lin.gensL d E I:=⟨_,rfl⟩
 have aY:Lin.formF (Lin.gensU d E I).lines=L:=by rw [hL]; rfl
 have ba:Lin.formF L=L:=by rw [<- aY]; exact Lr (fun r hr=>(mk.lines r hr).1)
 have bJ:L.length<=d:=by rw [hL]; exact ech_len hT.form
 have aZ:∀ r∈L,r.length=d/\∀ z∈r,Bt f z:=fun r hr=>by
  rw [hL] at hr;exact ⟨(tL r hr).1,fun z n=>by rw [hf]; exact ft (tL r hr).2 z n⟩
 refine dy (fun T' H'=>∃ q6,aa T' 6=q6/\Kp U H'/\dS H' q6 L) rfl ?_ ?_
 ·refine zW (aB J b8 aN) ?_;refine AnsH.use (Di C (d:=d) (e:=f) zF (bq.sl.mono (Sub.bump U _)) zO O zO (fun r hr=>(mk.lines r hr).1) (fun r hr=>(mk.lines r hr).2) zO) ?_;rintro v s ⟨q6,rfl,ai,aI⟩;have k6:Kp U s:=Kp.trans (Kp.up (Kp.refl w5) _) aI;have b3:=k6.le;rw [aY] at ai;refine zW (aA J @aU) ?_;exact ⟨q6,rfl,k6,ai⟩
 rintro T6 s aM ⟨q6,z6,al,ai⟩;have w6:=al.wf;have bV:=al.le;have z7:aa T6 7=.nilSl:=(aM.at_ 7 zU).trans y7;have bH:aa T6 10=.ptr ub 0:=(aM.at_ 10 zU).trans b8;have K:T6.length=100:=aM.len.trans J;have bw:=al.get aN;have ar:dS s qr (Lin.gensU d E I).rays:=br.sl.mono al.sub;obtain ⟨R,hR⟩:∃ R,R=(Lin.gensU d E I).rays:=⟨_,rfl⟩
 have bb:∀ r∈R,r.length=d/\∀ z∈r,Bt f z:=fun r hr=>mk.rays r (by rw [<- hR]; exact hr);have bK:R.length<=1099000000000:=by rw [hR]; omega
 rw [<- hR] at ar;refine dy (fun T' H'=>∃ o,aa T' 7=o/\Kp s H'/\Bl rowsE af s H' o (R.map (Lin.restF L))) rfl ?_ ?_
 ·refine zW (aV K bH bw ar.lenV) ?_;refine am s [7] (fun j vs H'=>∃ o,vs=[o]/\Bl rowsE af s H' o ((R.take j).map (Lin.restF L))) (a:=0) (N:=R.length) rfl (by refine zW K ?_; rfl) (zV K) (Vz _) zO (by simp only [Vg,K]; rfl) rfl (fun j vs H' m ⟨o,q1,q2⟩=>⟨o,q1,q2.mono (Sub.bump H' m)⟩) (Kp.up (Kp.refl w6) _) ⟨.nilSl,by exact zV (aA K z7),Bl.nil⟩ ?_ ?_
  ·rintro j T7 Z _ hj t bl ad P ⟨o,hv,ho⟩;have w7:=P.wf;have b0:=P.le;have bW:=P.le;simp only [Vq,Vw,Vv,and_true] at hv;have bE:aa T7 79=qr:=(ad.at_ 79 zU).trans (zV K);have t6:aa T7 6=q6:=(ad.at_ 6 zU).trans (zV (aA K z6));obtain ⟨w,hr,ah⟩:=dD (ar.mono P.sub) hj;have ag:=SlV.idx1 ar .i64 j hj;have a0:=bb _ (Vm hj);simp only [Vg,K] at t;refine zW (eF t bE t6 bl ag ah) ?_;refine AnsH.use (E4 C (d:=d) (e:=f) zF (hr.mono (Sub.bump Z _)) ((ai.mono P.sub).mono (Sub.bump Z _)) zO O zO a0.1 (fun r hr=>(aZ r hr).1) a0.2 (fun r hr=>(aZ r hr).2) zO) ?_;rintro v i ⟨q,rfl,aL,ao⟩;have aP:Kp Z i:=Kp.trans (Kp.up (Kp.refl w7) _) ao;have b5:=aP.le;have aO:Kp s i:=P.trans aP;have b4:=aO.le;have w8:=aO.wf;rw [ba] at aL;have oq:=aL.one;have bO:((R.take j).map (Lin.restF L)).length<=R.length:=by simp; omega
   obtain ⟨n6,H9,e6,b6,k6,b7,f6,u6⟩:=Bl.push1 (ty2:=af) (bytes:=24) (id:=i.next+3) (id2:=i.next+2) (k:=5) (cs:=[q]) (a:=Lin.restF L R[j]) (ho.mono aP.sub) zU aO ⟨q,rfl,aL⟩ zO zO zO zO zO zO zO;have a9:dr ((i.up 5).put (i.next+2) (.cells [q] af true)) (i.next+3) 1 24 af o (.own (i.next+2) 0 1 1 1 true)=some (.own (i.next+3) 0 n6 n6 1 false,H9):=e6;refine zW (aB t hv a9) ?_;refine ⟨k6,_,rfl,?_⟩;rw [Vr hj,V7];exact b6
  ·rintro T7 Z t ad P ⟨o,hv,ho⟩;simp only [Vq,Vw,Vv,and_true] at hv;rw [VO] at ho;refine zW (aA t @aU) ?_;exact ⟨o,hv,P,ho⟩
 rintro T7 Z ad ⟨o,a7,a5,a8⟩;have w7:=a5.wf;have a6:aa T7 6=q6:=(ad.at_ 6 zU).trans z6;have t:T7.length=100:=ad.len.trans K;have aW:(R.map (Lin.restF L)).mergeSort Lin.cmpV=Lin.gensR d E I:=by rw [hR,hL]; rfl
 have a1:(Lin.gensR d E I).Perm (R.map (Lin.restF L)):=by rw [<- aW]; exact List.mergeSort_perm _ _
 have ab:∀ r∈R.map (Lin.restF L),r.length=d/\∀ z∈r,eR z:=fun r hr=>by
  have h:=tR r (a1.mem_iff.2 hr);exact ⟨h.1,fun z n=>(ft h.2 z n).sm zO⟩
 refine bi ?_;refine zW (aB t @a7 @aC) ?_;refine AnsH.use (BN C.q81 rfl (H0:=s) (d:=d) (a5.up _) (a8.mono (Sub.bump Z _)) (fun r hr=>(ab r hr).1) (a1.nodup_iff.1 (Lin.told_nodup hT)) (by rw [Vp]; omega) fun D a b hD x hx y hy bx bz=>(Eb C hD bx bz ((ab x hx).1.trans (ab y hy).1.symm) (by rw [(ab x hx).1]; omega) (ab x hx).2 (ab y hy).2).mono fun _ _ h=>h.1) ?_;rintro v i ⟨rfl,ao,aR⟩;rw [aW] at aR;refine zW (aA t @aC) ?_;refine bi ?_;refine zW (aV t @a6 @a7 @aC) ?_;refine WC.wb ?_;refine zW (aA t bs) ?_;have a4:Kp H i:=(k5.trans al).trans ao;have b1:=a4.le;rw [<- hL];exact ⟨_,_,rfl,(ai.mono ao.sub).mono (Sub.bump i _),aR.sl.mono (Sub.bump i _),a4.up _⟩
end
end Go.Proofs.YtkmepoeklibegaaGreat.Ev
