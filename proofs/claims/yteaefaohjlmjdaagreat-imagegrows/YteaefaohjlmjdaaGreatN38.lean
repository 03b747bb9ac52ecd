/- A part. -/
import Derived.Test.YteaefaohjlmjdaaGreatA0
import Derived.Test.YteaefaohjlmjdaaGreatGens
set_option linter.all false
namespace Go.Proofs.YteaefaohjlmjdaaGreat.Ev
open Go Nn
def NH {tab:Nat->Option aA} (ev:Src->AV) (H:Heap) (id:Nat) (Q:AV->Heap->Prop) (size:Nat) (z:List AV) (x:Src) :
  nj tab ev H id (.clear size z x) Q=ii (r9 H size z (ev x)) (fun H'=>Q (.tup []) H') ():=by
 rw [co,ib tab ev H id Q (o:=.clear size z x) (fun f a e=>by cases e) rfl];show iA ((r9 H size z (ev x)).map fun H'=>(AV.tup [],H')) _=_;cases r9 H size z (ev x) <;> rfl
def Kp.at_ {H0 H H':Heap} {b:Nat} (a:Kp H0 H) (hg:∀ c,c≠b->H'.get c=H.get c) (hn:H'.next=H.next) (d:H0.next<=b) (hlt:b<H.next):Kp H0 H' :=
 ⟨a.wf0,fun c e hc=>by
  by_cases h:c=b
  ·rw [h,hn]; exact hlt
  ·rw [hn]; exact a.wf c e (by rw [<- hg c h]; exact hc),by rw [hn]; exact a.le,fun c hc=>by rw [hg c zO]; exact a.same c hc⟩
section
variable {tab:Nat->Option aA} {H:Heap} {s:AV}
def sI (C:Code tab) (z:Wf H) {fi:Nat} {first caps:List AV} {l:List (List Int)} (hs:pb H s l) (x:l.length<4611686018427387904) (p:List Int->Bool)
  (n:∀ r∈l,∀ H' w,Kp H H'->RowV H' w r->Ans tab (.fn fi (first++[w]++caps)) H' fun v H2=>v=.bool (p r)/\Kp H' H2) :
  Ans tab (.fn cd [s,.fn (.func fi) first caps]) H fun v H'=>v=.int .i64 (nI p l)/\Kp H H':=by
 refine bA C.q112 zU fun T hl c d=>?_;refine zW (aO hl c d hs.lenV) ?_;refine aq H [] (fun j _ _=>∀ k (h:k<l.length),k<j->p l[k]=false) (a:=0) (N:=l.length) rfl (by refine zW (aD hl c d) ?_; rfl) (zV (aD hl c d)) (xq _) zO (by simp only [dz,hl]; rfl) rfl (fun _ _ _ _ h=>h) zK (fun k _ h=>by omega) ?_ ?_
 ·intro j T1 m _ hj b o i g f;have w1:=g.wf;have A:=g.le;have t0:ad T1 0=s:=(i.at_ 0 zU).trans (zV (aD hl c d));have t1:ad T1 1=.fn (.func fi) first caps:=(i.at_ 1 zU).trans (zV (aD hl c d))
  obtain ⟨w,hr,u⟩:=dH (hs.mono g.sub) hj;have q:=SlV.idx1 hs .i64 j hj;simp only [dz,hl] at b;refine zW (dj b t0 t1 o q u) ?_;refine AnsH.eq (n _ (mQ hj) _ w zK (hr.mono (zG m))) fun H2 t=>?_;obtain ⟨k2,_,_⟩:=zT H zK t;cases hp:p l[j] with
  | true =>
   refine zW b ?_;exact ⟨by rw [tp hj f hp],zK⟩
  | false =>
   refine zW b ?_;refine ⟨zK,fun k h y=>?_⟩;by_cases e:k=j
   ·subst e; exact hp
   ·exact f k h zO
 ·intro T1 m b i g f;simp only [dz,hl] at b;refine zW b ?_;exact ⟨by rw [qg fun k h=>f k h h],zK⟩
def JX (C:Code tab) (h:Wf H) {l:List (List Int)} (hs:pb H s l) (h0:0<l.length) (j:l.length<1099511627776):Ans tab (.fn cN [s]) H fun v H'=>Kp H H'/\∃ b,Own rowsE af H H' b false v l:=by
 refine cT C.q148 zU fun T hl a=>?_;rcases hs.nilcase with ⟨rfl,rfl⟩ | hne
 ·simp at h0
 ·have e:cB ([]:List AV) []=some []:=rfl;refine zW (aO hl a hne e) ?_;have k1:Kp H ((H.up 7).put (H.next+3) (.cells [] af true)):=zK;have n:=k1.le;have hz:SlV rowsE af ((H.up 7).put (H.next+3) (.cells [] af true)) (.own (H.next+3) 0 0 0 1 true) ([]:List (List Int)) :=
   (show Own rowsE af H _ (H.next+3) true _ [] from ⟨_,rfl,al _ _ _,Cells.nil _ _,zO⟩).sl
  obtain ⟨i,H2,c,h2,f,k,m,g⟩:=SlV.app (l:=[]) (id:=H.next+5) (bytes:=24) hz k1 (hs.mono k1.sub) zO (by show _<H.next+7; omega) (by rw [au zO]; exact h.fresh (b:=H.next+5) zO) (by simp; omega) (by simp; omega);have d:dr ((H.up 7).put (H.next+3) (.cells [] af true)) (H.next+5) 1 24 af (.own (H.next+3) 0 0 0 1 true) s=some (i,H2):=c;refine zW (aD hl a d) ?_;exact ⟨f,_,g h0⟩
def RI {H':Heap} {b n i:Nat} {cells:List AV} (hb:H'.get b=some (.cells cells af true)) (hn:cells.length=n) (hi:i<n) (j:n<1099511627776) (d:cells.all AV.one=true) :
  ∃ y H2 a,cG 1 (.own b 0 n n 1 false) (some (.int .i64 ((i+1:Nat):Int))) none none=some y/\(∀ id,dr H' id 1 24 af (.own b 0 i n 1 false) y=some (.own b 0 (n-1) n 1 false,H2))/\H2.get b=some (.cells a af true)/\a.take (n-1)=cells.eraseIdx i/\a.length=n/\(∀ c,c≠b->H2.get c=H'.get c)/\H2.next=H'.next:=by
 have he:cells.eraseIdx i=cells.take i++cells.drop (i+1):=Y4 ..;by_cases h:i+1<n
 ·refine ⟨.own b (0+(i+1)*1) (n-(i+1)) (n-(i+1)) 1 false,H'.put b (.cells (cells.take (0+i*1)++cells.drop (i+1)++cells.drop (0+i*1+(n-(i+1))*1)) af true),_,?_,fun id=>?_,al _ _ _,?_,?_,fun c hc=>au hc,rfl⟩
  ·show bW 1 (.own b 0 n n 1 false) (some (.int .i64 ((i+1:Nat):Int))) none none=_;simp only [bW,gE,ne_eq,not_true_eq_false,if_false,kS,X4,YD,Yt,Yv,Yc];rw [if_pos ⟨o0 _,zO⟩,if_pos (.inl h)]
  ·have f:aP H' 1 (n-(i+1)) (.own b (0+(i+1)*1) (n-(i+1)) (n-(i+1)) 1 false)=some (cells.drop (i+1)):=by
    simp only [aP,hb];rw [if_pos ⟨trivial,o0 _,zO⟩];rw [MU (by simp; omega)]
    simp
   have g:(cells.drop (i+1)).all AV.one=true:=by
    rw [GR] at d ⊢;exact fun x hx=>d x (Zo hx)
   unfold dr;simp only [im];rw [f];simp only [cU,hb];rw [if_pos ⟨trivial,zO,zO,trivial,zO⟩,if_pos zO,if_neg zO,if_pos ⟨trivial,g⟩];congr 3;omega
  ·rw [he,Y9 (by simp; omega),MU (by simp; omega)]
   simp
  ·simp; omega
 ·have k:n=i+1:=zO;refine ⟨.sl [] 0,H',cells,?_,fun id=>?_,hb,?_,hn,fun _ _=>rfl,rfl⟩
  ·show bW 1 (.own b 0 n n 1 false) (some (.int .i64 ((i+1:Nat):Int))) none none=_;simp only [bW,gE,ne_eq,not_true_eq_false,if_false,kS,X4,YD,Yt,Yv,Yc];rw [if_pos ⟨o0 _,zO⟩,if_neg zO]
   simp
  ·unfold dr;simp only [im,aP];simp only [cU,hb]
   simp
   refine ⟨zO,?_⟩;have e:n-1=i:=zO;rw [if_pos zO,e]
  ·rw [he,ZE zO,X5];congr 1;omega
def Ie (C:Code tab) {H0:Heap} {v:AV} {l:List (List Int)} {i b:Nat} (q:Kp H0 H) (hs:Own rowsE af H0 H b false v l) (hi:i<l.length) (o:l.length<1099511627776) :
  Ans tab (.fn cJ [v,.int .i64 (i:Int),.int .i64 ((i+1:Nat):Int)]) H fun O H'=>O=.own b 0 (l.length-1) l.length 1 false/\Kp H0 H'/\(∃ cells,H'.get b=some (.cells cells af true)/\cells.length=l.length/\Cells rowsE H' (cells.take (l.length-1)) (l.eraseIdx i))/\∀ c,c≠b->H'.get c=H.get c:=by
 obtain ⟨cells,g,hb,hcl,A⟩:=hs;have g:v=.own b 0 l.length l.length 1 false:=g;subst g;have hn:cells.length=l.length:=by have:=hcl.1; simpa [bU] using this
 have hlt:=q.wf _ _ hb;have J:=hcl.ones;obtain ⟨n,F⟩:∃ n,l.length=n:=⟨_,rfl⟩
 rw [F] at hn hi o ⊢;refine lC C.q149 zU fun T hl j k m=>?_;have w:cG 1 (.own b 0 n n 1 false) (some (.int .i64 (i:Int))) (some (.int .i64 ((i+1:Nat):Int))) (some (.int .i64 (n:Int)))=some (.own b (0+i*1) (i+1-i) (n-i) 1 true):=by
  simp only [cG,bW,gE,ne_eq,not_true_eq_false,if_false,kS,X4,YD,Yt,Yv,Yc];rw [if_pos ⟨o0 _,zO,zO⟩,if_neg zO]
 have G:¬ (i:Int)=((i+1:Nat):Int):=zO;have I:¬ i=i+1:=zO;have P:=IX b 0 n n 1 i false .i64 (Ys hi);obtain ⟨y,H2,a,hy,z,q2,N,S,h,s⟩:=RI (H':=H.up 21) (b:=b) (i:=i) hb hn hi o J;have K:cG 1 (.own b 0 (n-1) n 1 false) (some (.int .i64 ((n-1:Nat):Int))) (some (.int .i64 (n:Int))) none=some (.own b (n-1) 1 1 1 false):=by
  simp only [cG,bW,gE,ne_eq,not_true_eq_false,if_false,kS,X4,YD,Yt,Yv,Yc];rw [if_pos ⟨o0 _,zO⟩,if_pos (.inl zO)];congr 2 <;> omega
 have B:∀ X:Heap,X.get b=some (.cells a af true)->r9 X 1 [.nilSl] (.own b (n-1) 1 1 1 false)=some (X.put b (.cells (a.take (n-1)++(List.replicate 1 [AV.nilSl]).flatten++a.drop (n-1+1*1)) af true)):=fun X x=>by
  simp only [r9,x];rw [if_neg zO,if_pos ⟨trivial,zO,rfl,rfl⟩]
 have D:=B (H2.up 6) q2;refine zW (fo hl j k m w G I) ?_;refine aF ?_;simp -dsimp (maxSteps:=1000000) (disch:=(first | omega | assumption | exact ai _ | exact bo _ _ | exact bH | exact cY _ _ _ | exact b9 _ _ | exact bT _ _ _ _ _ _ | exact dm _ _ | exact cz _)) only [↓yM,yL,↓Uk,Uj,Nat.reduceLT,Nat.reduceEqDiff,Nat.reduceAdd,reduceIte,reduceCtorEq,Nat.reduceBEq,Int.reduceEq,Int.reduceLT,Int.reduceLE,Int.reduceAdd,Int.reduceSub,hl,j,k,m,P,hy,z,KB,K,↓NH,D];obtain ⟨d,f⟩:∃ c,c=a.take (n-1)++(List.replicate 1 [AV.nilSl]).flatten++a.drop (n-1+1):=⟨_,rfl⟩
 rw [<- f];have k2:Kp H0 H2:=(q.up 21).at_ h s A (by show b<H.next+21; omega);have Q:=k2.le;have R:b<H2.next:=by rw [s]; show _<H.next+21; omega
 have u:SubT (tT intE aa).tys H ((H2.up 8).put b (.cells d af true)):=fun c cs t r L hc=>by
  have p:c≠b:=fun e=>by
   subst e;rw [hb] at hc; cases hc
   revert L; decide
  rw [au p];exact (h c p).trans hc
 have M:d.take (n-1)=cells.eraseIdx i:=by
  rw [f,YA,Y9 (by simp; omega),MU (by simp; omega),N]
 have E:d.length=n:=by rw [f]; simp; omega
 refine ⟨zK,⟨d,rfl,E,?_⟩,fun c hc=>?_⟩
 ·rw [M,Y4,Y4];have h1:=(hcl.mono u).take (n:=i) zO;have h2:=(hcl.mono u).drop (i+1);have h3:=h1.append h2;have es:rowsE.sz=1:=rfl;rw [es,Yb,Yb] at h3;exact h3
 ·rw [au hc]; exact h c hc
end
def Sep (v w:AV):Prop:=∀ b,iz v=some b->iz w≠some b
def Sep.symm {v w:AV} (h:Sep v w):Sep w v:=fun b h1 h2=>h b h2 h1
def Wr (H0 H:Heap) (v:AV) (l:List (List Int)) (c:Nat):Prop :=
 (v=.nilSl/\l=[])\/∃ b cells,v=.own b 0 l.length c 1 false/\H.get b=some (.cells cells af true)/\cells.length=c/\l.length<=c/\Cells rowsE H (cells.take l.length) l/\H0.next<=b
def Wr.sl {H0 H:Heap} {v:AV} {l:List (List Int)} {c:Nat} (h:Wr H0 H v l c):pb H v l:=by
 rcases h with ⟨rfl,rfl⟩ | ⟨b,cells,rfl,hb,hc,hl,hcl,-⟩
 ·exact SlV.nil _ _ _
 ·refine ⟨_,⟨hl,(fun s h=>by cases h),l.length,rfl,?_⟩,fun _ _ _ _ _ _ e=>by cases e; exact ⟨_,_,hb⟩,hcl⟩;simp only [aP,hb];rw [if_pos ⟨rfl,o0 _,by show 0+l.length*1<=_; omega⟩];show some ((cells.drop 0).take (l.length*1))=_;rw [List.drop_zero,Yb]
def Bl.wr {H0 H:Heap} {v:AV} {l:List (List Int)} (h:Bl rowsE af H0 H v l):Wr H0 H v l l.length:=by
 rcases h with h | ⟨b,cells,h1,h2,h3,h4⟩
 ·exact .inl h
 ·have hc:cells.length=l.length:=by have:=h3.1; simpa [bU] using this
  exact .inr ⟨b,cells,h1,h2,hc,o0 _,by rw [<- hc,KO]; exact h3,h4⟩
def Wr.bl {H0 H:Heap} {v:AV} {l:List (List Int)} (h:Wr H0 H v l l.length):Bl rowsE af H0 H v l:=by
 rcases h with h | ⟨b,cells,h1,h2,h3,h4,h5,h6⟩
 ·exact .inl h
 ·rw [<- h3,KO] at h5;exact .inr ⟨b,cells,h1,h2,h5,h6⟩
def Wr.mono {H0 H H':Heap} (hs:Sub H H') {v:AV} {l:List (List Int)} {c:Nat} (h:Wr H0 H v l c):Wr H0 H' v l c:=by
 rcases h with h | ⟨b,cells,h1,h2,h3,h4,h5,h6⟩
 ·exact .inl h
 ·exact .inr ⟨b,cells,h1,hs.get _ _ h2,h3,h4,h5.mono (hs.t _),h6⟩
def Wr.base {H0 a H:Heap} (hs:H0.next<=a.next) {v:AV} {l:List (List Int)} {c:Nat} (h:Wr a H v l c):Wr H0 H v l c:=by
 rcases h with h | ⟨b,cells,h1,h2,h3,h4,h5,h6⟩
 ·exact .inl h
 ·exact .inr ⟨b,cells,h1,h2,h3,h4,h5,B5 hs h6⟩
def Wr.put {H0 H:Heap} {v:AV} {l:List (List Int)} {c b:Nat} {e:Ent} (h:Wr H0 H v l c) (hb:iz v≠some b) (d:NoTy (tT intE aa).tys H b):Wr H0 (H.put b e) v l c:=by
 rcases h with h | ⟨b',cells,h1,h2,h3,h4,h5,h6⟩
 ·exact .inl h
 ·refine .inr ⟨b',cells,h1,?_,h3,h4,h5.mono (SubT.puts (SubT.refl _ _) d),h6⟩;rw [au (fun a=>hb (by rw [h1,a]; rfl))];exact h2
def Wr.old {H0 H:Heap} {v:AV} {l:List (List Int)} {c b:Nat} (a:Wf H) (h:Wr H0 H v l c) (hb:iz v=some b):b<H.next:=by
 rcases h with ⟨rfl,-⟩ | ⟨b',cells,rfl,h2,-⟩
 ·cases hb
 ·cases hb; exact a _ _ h2
def RowV.put_ne {H:Heap} {v:AV} {l:List Int} {b:Nat} {e:Ent} (h:RowV H v l) (hb:iz v≠some b) (hn:NoTy [ae] H b):RowV (H.put b e) v l:=by
 obtain ⟨cells,⟨h0,h1,n,h2,h3⟩,f,hc⟩:=h;refine ⟨cells,⟨h0,h1,n,h2,?_⟩,fun b' off n' c z x e'=>?_,hc.mono (SubT.puts (SubT.refl _ _) hn)⟩
 ·unfold aP at h3 ⊢;split at h3
  ·rename_i b' off m c sz ex;rw [au (fun a=>hb (by rw [<- a]; rfl))]; exact h3
  ·exact h3
  ·exact h3
  ·exact h3
  ·cases h3
 ·obtain ⟨cs,r,d⟩:=f b' off n' c z x e';exact ⟨cs,r,by rw [au (fun a=>hb (by rw [e',<- a]; rfl))]; exact d⟩
def Wr.store {H0 H:Heap} {v va:AV} {l:List (List Int)} {x:List Int} {c j:Nat} (h:Wr H0 H v l c) (hj:j<l.length) (hx:RowV H va x) :
  ∃ b cells,iz v=some b/\H0.next<=b/\H.get b=some (.cells cells af true)/\j<cells.length/\cS 1 v (.int .i64 (j:Int))=some (.ptr b j)/\Wr H0 (H.put b (.cells (cells.set j va) af true)) v (l.set j x) c:=by
 rcases h with ⟨-,rfl⟩ | ⟨b,cells,rfl,h2,h3,h4,h5,h6⟩
 ·simp at hj
 ·have a:j<cells.length:=zO;refine ⟨b,cells,rfl,h6,h2,a,?_,.inr ⟨b,_,by rw [dz],al _ _ _,by rw [dz]; exact h3,by rw [dz]; exact h4,?_,h6⟩⟩
  ·have:=jB (b:=b) (off:=0) (c:=c) (sz:=1) (x:=false) (k:=.i64) hj
   rw [RO,Yb] at this;exact this
  ·have hn:NoTy (tT intE aa).tys H b:=NoTy.ty h2 zU;have d:SubT (tT intE aa).tys H (H.put b (.cells (cells.set j va) af true)):=SubT.puts (SubT.refl _ _) hn;rw [dz,List.take_set];exact Cells.mono (E:=rowsE) d (h5.set1 hj hx)
def Wr.elem {H0 H:Heap} {v:AV} {l:List (List Int)} {c j:Nat} (h:Wr H0 H v l c) (hj:j<l.length) :
  ∃ w,RowV H w l[j]/\bk H none (aB v j)=some w/\cS 1 v (.int .i64 (j:Int))=some (aB v j):=by
 obtain ⟨w,h1,h2⟩:=dH h.sl hj;exact ⟨w,h1,h2,SlV.idx1 h.sl .i64 j hj⟩
def UnderV (H0 H:Heap) (ub:Nat) (u:Lin.Under):Prop:=∃ a qr qd cl,H.get ub=some (.cells [a,qr,qd] aT true)/\Wr H0 H a u.lines cl/\Wr H0 H qr u.rays u.rays.length/\Wr H0 H qd u.done u.done.length/\Sep a qr/\Sep a qd/\Sep qr qd
def UnderV.mono {H0 H H':Heap} {ub:Nat} {u:Lin.Under} (hs:Sub H H') (h:UnderV H0 H ub u):UnderV H0 H' ub u:=by
 obtain ⟨a,qr,qd,cl,h1,h2,h3,h4,h5⟩:=h;exact ⟨a,qr,qd,cl,hs.get _ _ h1,h2.mono hs,h3.mono hs,h4.mono hs,h5⟩
def SS (a u:List Int):Lin.dot a (Lin.upV a u)=if Lin.dot a u<0 then -(Lin.dot a u) else Lin.dot a u:=by
 unfold Lin.upV;split
 ·rw [Lin.dot_scl]; omega
 ·rfl
def SR {d:Nat} {a u:List Int} (b:u.length=d):(Lin.upV a u).length=d:=by
 unfold Lin.upV;split
 ·simp [Lin.scl,b]
 ·exact b
def Un {f:Nat} {a u:List Int} (b:∀ z∈u,Bt f z):∀ z∈Lin.upV a u,Bt f z:=by
 unfold Lin.upV;split
 ·exact ID b
 ·exact b
structure FoldC (Hs H0 H:Heap) (ub:Nat) (LV qr qd:AV) (D:List (List Int)) (bx:Nat) (z:Int) (vl va:AV) (up a:List Int) (sb:Nat):Prop where
 u:H.get ub=some (.cells [LV,qr,qd] aT true)
 d:Wr H0 H qd D D.length
 bx:BoxI H bx z
 vl:RowV H vl up
 va:RowV H va a
 sb:H.get sb=some (.cells [.ptr ub 0,.ptr ub 1] mD true)
 oth:∀ b e,Hs.get b=some e->b≠ub->iz qr≠some b->H.get b=some e
def FoldC.mono {Hs H0 H H':Heap} {ub:Nat} {LV qr qd:AV} {D:List (List Int)} {bx:Nat} {z:Int} {vl va:AV} {up a:List Int} {sb:Nat} (hs:Sub H H') (h:FoldC Hs H0 H ub LV qr qd D bx z vl va up a sb):FoldC Hs H0 H' ub LV qr qd D bx z vl va up a sb :=
 ⟨hs.get _ _ h.u,h.d.mono hs,h.bx.mono hs,h.vl.mono hs,h.va.mono hs,hs.get _ _ h.sb,fun b e h1 h2 h3=>hs.get _ _ (h.oth b e h1 h2 h3)⟩
def N6 {H:Heap} {b c t1 a:Nat} {x y:List AV} {r1 r2:Bool} (h1:H.get b=some (.cells x t1 r1)) (h2:H.get c=some (.cells y a r2)) (hn:t1≠a):b≠c:=fun e=>by
 subst e;rw [h1] at h2
 injection h2 with h; injection h with _ h; exact hn h
def FoldC.put {Hs H0 H:Heap} {ub:Nat} {LV qr qd:AV} {D:List (List Int)} {bx:Nat} {z:Int} {vl va:AV} {up a:List Int} {sb b:Nat} {cells cs:List AV} (h:FoldC Hs H0 H ub LV qr qd D bx z vl va up a sb) (hb:H.get b=some (.cells cells af true)) (hd:iz qd≠some b) (i:∀ e,Hs.get b=some e->iz qr=some b):FoldC Hs H0 (H.put b (.cells cs af true)) ub LV qr qd D bx z vl va up a sb:=by
 have d:NoTy (tT intE aa).tys H b:=NoTy.ty hb zU;have k:NoTy [ae] H b:=NoTy.ty hb zU;obtain ⟨q,f,j⟩:=h.bx;refine ⟨?_,h.d.put hd d,⟨q,?_,SlV.monoT (E:=bU gg) (SubT.puts (SubT.refl _ _) k) j⟩,SlV.monoT (E:=intE) (SubT.puts (SubT.refl _ _) d) h.vl,SlV.monoT (E:=intE) (SubT.puts (SubT.refl _ _) d) h.va,?_,fun c e h1 h2 h3=>?_⟩
 ·rw [au (N6 h.u hb zU)]; exact h.u
 ·rw [au (N6 f hb zU)]; exact f
 ·rw [au (N6 h.sb hb zU)]; exact h.sb
 ·rw [au (fun g=>h3 (by rw [g] at h1 ⊢; exact i e h1))]; exact h.oth c e h1 h2 h3
section
variable {tab:Nat->Option aA} {H:Heap} {s:AV}
def MY (C:Code tab) {H0:Heap} {ub i:Nat} {u:Lin.Under} {va:AV} {a:List Int} {d e f:Nat} (hk:Kp H0 H) (cy:H0.next<=ub) (hu:UnderV H0 H ub u) (ha:RowV H va a) (hi:i<u.lines.length) (hd:d<=64) (ah:a.length=d) (hL:∀ r∈u.lines,r.length=d/\∀ z∈r,Bt f z) (hR:∀ r∈u.rays,r.length=d/\∀ z∈r,Bt f z) (ag:∀ z∈a,Bt e z) (hb:2*(e+f+7)+2*f+1<=8796093022208) (aH:u.lines.length<1099511627776) (cu:u.rays.length<1099511627776) :
  Ans tab (.fn iG [.ptr ub 0,va,.int .i64 (i:Int)]) H fun v H'=>Kp H0 H'/\RowV H' v (Lin.upV a u.lines[i])/\UnderV H0 H' ub ⟨(u.lines.eraseIdx i).map (Lin.foldV a (Lin.upV a u.lines[i])),u.rays.map (Lin.foldV a (Lin.upV a u.lines[i])),u.done⟩/\(∀ b e,H.get b=some e->b≠ub->(∀ q1 q2 q3,H.get ub=some (.cells [q1,q2,q3] aT true)->iz q2≠some b)->H'.get b=some e)/\∀ q1 q2 q3,H.get ub=some (.cells [q1,q2,q3] aT true)->∃ cj,H'.get ub=some (.cells [cj,q2,q3] aT true):=by
 have hw:=hk.wf;obtain ⟨ql,qr,qd,cl,Z,bg,bh,bd,s1,s2,s3⟩:=hu;have cN:=hw _ _ Z;obtain ⟨vl,aR,bQ,bG⟩:=bg.elem hi;have O:=hL _ (mQ hi);refine Am C.q126 rfl rfl zU fun T hl g=>?_;have hl:T.length=81:=hl;have b0:c_P_cone_under_fold.results=[(6,none)]:=rfl;have y:ad T 0=.ptr ub 0:=g 0 (by simp);have A:ad T 1=va:=g 1 (by simp);have B:ad T 2=.int .i64 (i:Int):=g 2 (by simp);refine aI ?_;refine zW (bB hl y A B @aw) ?_;refine aI ?_;refine zW (fX hl y A B @aw Z bG bQ) ?_;refine aI ?_;refine zW (bB hl y A B @aw) ?_;refine AnsH.use (wQ C zF (ha.mono (zG H)) (aR.mono (zG H)) (ah.trans O.1.symm) zO ag O.2 zO) ?_;rintro v H2 ⟨⟨w,rfl,aP⟩,aL⟩;obtain ⟨k2,_,w2⟩:=zT H zK aL;have ow:=aP.one;have n2:H.next+14<=H2.next:=aL.le
 have f2:H2.get (H.next+12)=none:=aL.free (show _<H.next+14 by omega) (hw.fresh (b:=H.next+12) zO);have cP:NoTy [ae] H2 (H.next+12):=NoTy.none f2;refine zW (bB hl y A B @aw) ?_;refine dy (fun T' H'=>∃ vl,ad T' 6=vl/\RowV H' vl (Lin.upV a u.lines[i])/\BoxI H' (H.next+12) (Lin.dot a (Lin.upV a u.lines[i]))/\Kp H H') rfl ?_ ?_
 ·refine zW (bB hl y A B @aZ) ?_;refine iteH.split (fun h=>?_) fun h=>?_
  ·refine zW (aO hl y A B) ?_;refine AnsH.use (jk C (n:=-1) zF zO zO) ?_;rintro v3 o ⟨aK,Q⟩;obtain ⟨K,_,w3⟩:=zT H zK Q;have b3:=Q.get (b:=H.next+12) (e:=.cells [.bool (decide (Lin.dot a u.lines[i]<0)),w] aa true) (cC);have cL:=w3 _ _ b3;have cb:bO o w (Lin.dot a u.lines[i]).natAbs:=SlV.mono Q.sub (SlV.monoT (E:=bU gg) zS aP);refine zW (aO hl y A B) ?_;refine AnsH.use (vK C zF (aR.mono (zG H)) aK zO (fun z hz=>(O.2 z hz).len zO) Ic) ?_;rintro v4 H4 ⟨r4,rfl,bX,aM,bD⟩;obtain ⟨k4,_,w4⟩:=zT H zK aM;have b4:=aM.get b3;have cc:=cb.mono aM.sub;refine zW (bB hl y A B @b4) ?_;refine AnsH.use (Cg C (z:=Lin.dot a u.lines[i]) zF ⟨w,rfl,cc.mono (zG H4)⟩ ((nf ag O.2 (ah.trans O.1.symm) zO).sm zO)) ?_;rintro v5 t ⟨⟨w5,rfl,bn⟩,R⟩;obtain ⟨aU,_,_⟩:=zT H4 zK R;have k5:Kp H t:=Kp.trans k4 aU;have cI:=k5.le;have co:=k5.wf;have b5:=aU.get b4;have cM:=co _ _ b5;have cQ:=bn.one;have m5:NoTy [ae] t (H.next+12):=NoTy.ty b5 zU;refine zW (dj hl y A B b5 @aZ) ?_;have eu:Lin.upV a u.lines[i]=Lin.scl (-1) u.lines[i]:=by unfold Lin.upV; rw [if_pos h]
   have ed:Lin.dot a (Lin.upV a u.lines[i]) = -(Lin.dot a u.lines[i]):=by rw [SS,if_pos h]
   refine ⟨r4,rfl,?_,⟨w5,by rw [ed]; exact cC,by rw [ed]; exact SlV.monoT (E:=bU gg) zS bn⟩,zK⟩;rw [eu];refine RowV.put_ne (bX.mono aU.sub) (fun hb=>?_) m5
   have:=bD _ hb
   omega
  ·refine zW (bB hl y A B @aZ) ?_;have eu:Lin.upV a u.lines[i]=u.lines[i]:=by unfold Lin.upV; rw [if_neg h]
   rw [eu];exact ⟨vl,rfl,aR.mono (zG H),⟨w,by exact cC,SlV.monoT (E:=bU gg) zS aP⟩,zK⟩
 ·rintro T1 H1 al ⟨ab,t6,ca,bA,k1⟩;have w1:=k1.wf;have t0:ad T1 0=.ptr ub 0:=(al.at_ 0 zU).trans (zV (aE hl y));have t1:ad T1 1=va:=(al.at_ 1 zU).trans (zV (aE hl A));have t2:ad T1 2=.int .i64 (i:Int):=(al.at_ 2 zU).trans (zV (aE hl B));have t7:ad T1 7=.ptr (H.next+12) 0:=(al.at_ 7 zU).trans (zV hl);have s:T1.length=81:=al.len.trans (by simp only [dz]; exact hl);have b7:=k1.get Z;refine WC.wb ?_;refine zW (bB s t0 t1 t2 b7) ?_;refine AnsH.use (JX C zF (bg.sl.mono (zG H)) zO aH) ?_;rintro v2 cr ⟨bL,b,bb⟩;have e1:IntKind.i64.wrap ((i:Int)+1)=((i+1:Nat):Int):=by rw [wrap_i64] <;> omega
  refine zW (bB s t0 t1 t2 e1) ?_;refine AnsH.use (Ie C bL bb hi aH) ?_;rintro v3 o ⟨rfl,Q,⟨cells,a4,a7,aJ⟩,cv⟩;have K:Kp H o:=Kp.trans k1 (Kp.trans zK Q);have cH:=K.le;have w3:=K.wf;have J:=K.get Z;have bl:RowV o ab (Lin.upV a u.lines[i]):=ca.mono (Kp.sub (H:=H1) (Kp.trans zK Q));have a5:BoxI o (H.next+12) (Lin.dot a (Lin.upV a u.lines[i])):=bA.mono (Kp.sub (H:=H1) (Kp.trans zK Q));refine zW (aD s t0 J) ?_;refine aF ?_;refine zD (aE s t0) ?_;obtain ⟨-,-,-,-,a3⟩:=bb;have a3:H.next<=b:=B5 (B5 k1.le (Ob _ _)) a3
  have cE:=w3 _ _ a4;have cO:=w3 _ _ J;have cA:ub≠b:=zO;obtain ⟨up,aQ⟩:∃ x,x=Lin.upV a u.lines[i]:=⟨_,rfl⟩
  rw [<- aQ] at bl a5 ⊢;have bk:up.length=d:=by rw [aQ]; exact SR O.1
  have bj:∀ z∈up,Bt f z:=by rw [aQ]; exact Un O.2
  obtain ⟨n,hn⟩:∃ n,n=u.lines.length:=⟨_,rfl⟩
  rw [<- hn] at a7 aJ hi aH ⊢;obtain ⟨L,aG⟩:∃ L,L=u.lines.eraseIdx i:=⟨_,rfl⟩
  have a2:L.length=n-1:=by rw [aG,List.length_eraseIdx_of_lt zO,hn]
  have bv:∀ r∈L,r.length=d/\∀ z∈r,Bt f z:=fun r hr=>hL r (Rx (by rw [aG] at hr; exact hr));rw [<- aG] at aJ ⊢;obtain ⟨LV,af⟩:∃ v,v=AV.own b 0 (n-1) n 1 false:=⟨_,rfl⟩
  rw [<- af];have bS:Wr H0 (((o.up 9).put ub (.cells [LV,qr,qd] aT true)).put (o.next+6) (.cells [.ptr ub 0,.ptr ub 1] mD true)) LV L n:=by
   have m1:NoTy (tT intE aa).tys o ub:=NoTy.ty J zU;have m2:NoTy (tT intE aa).tys o (o.next+6):=NoTy.none (w3.fresh zO);refine .inr ⟨b,cells,by rw [af,a2],by exact zV a4,a7,zO,?_,by have:=hk.le; omega⟩;rw [a2];exact Cells.mono (E:=rowsE) zS aJ
  have bp:∀ {v l c},Wr H0 H v l c->Wr H0 (((o.up 9).put ub (.cells [LV,qr,qd] aT true)).put (o.next+6) (.cells [.ptr ub 0,.ptr ub 1] mD true)) v l c:=fun {v l c} h=>by
   have m1:NoTy (tT intE aa).tys o ub:=NoTy.ty J zU;have m2:NoTy (tT intE aa).tys (o.up 9) (o.next+6):=NoTy.none (w3.fresh (b:=o.next+6) zO);have h3:Wr H0 (o.up 9) v l c:=(h.mono K.sub).mono (Sub.bump o 9);have hne:∀ x e,(o.up 9).get x=some (.cells e aT true)->iz v≠some x:=fun x e hx hv=>by
    rcases h3 with ⟨rfl,-⟩ | ⟨b',bu,rfl,h2,-⟩
    ·cases hv
    ·cases hv;rw [hx] at h2; injection h2 with h; injection h with _ h; exact absurd h zU
   refine (h3.put (hne ub _ J) m1).put (fun hv=>?_) (by
    refine NoTy.none ?_;rw [au zO]; exact w3.fresh (b:=o.next+6) zO)
   have:=h.old hw hv
   omega
  have a0:Sep LV qr:=fun x hx hy=>by
   rw [af] at hx; cases hx
   have:=bh.old hw hy
   omega
  have br:Sep LV qd:=fun x hx hy=>by
   rw [af] at hx; cases hx
   have:=bd.old hw hy
   omega
  obtain ⟨D,W⟩:∃ D:Nat->AV,D=fun j=>if j=0 then LV else qr:=⟨_,rfl⟩
  obtain ⟨Ls,ar⟩:∃ Ls:Nat->List (List Int),Ls=fun j=>if j=0 then L else u.rays:=⟨_,rfl⟩
  obtain ⟨cs,a8⟩:∃ cs:Nat->Nat,cs=fun j=>if j=0 then n else u.rays.length:=⟨_,rfl⟩
  have bx:∀ j,∀ r∈Ls j,r.length=d/\∀ z∈r,Bt f z:=fun j r hr=>by
   rw [ar] at hr;by_cases h:j=0
   ·exact bv r (by simpa [h] using hr)
   ·exact hR r (by simpa [h] using hr)
  have bw:∀ j,(Ls j).length<1099511627776:=fun j=>by
   rw [ar];by_cases h:j=0
   ·simp [h]; omega
   ·simp [h]; omega
  have b1:∀ j m,j<2->m<2->m≠j->Sep (D j) (D m):=fun j m h1 h2 h3=>by
   rw [W];by_cases h:j=0
   ·have h4:m≠0:=zO
    simpa [h,h4] using a0
   ·have h4:m=0:=zO
    simpa [h,h4] using a0.symm
  have b2:∀ j,Sep (D j) qd:=fun j=>by
   rw [W];by_cases h:j=0
   ·simpa [h] using br
   ·simpa [h] using s3
  have b6:∀ j,j<2->bf [LV,qr,qd] j none=some (D j):=fun j h=>by
   rw [W]
   match j,h with
   | 0,_=>rfl
   | 1,_=>rfl
  have cS:∀ j,j<2->bf [AV.ptr ub 0,AV.ptr ub 1] j none=some (.ptr ub j):=fun j h=>by
   match j,h with
   | 0,_=>rfl
   | 1,_=>rfl
  obtain ⟨w',bm⟩:∃ w',w'=Lin.foldV a up:=⟨_,rfl⟩
  rw [<- bm];have b8:RowV o va a:=ha.mono K.sub;refine aq H0 [] (fun j _ H'=>FoldC H H0 H' ub LV qr qd u.done (H.next+12) (Lin.dot a up) ab va up a (o.next+6)/\∀ m,m<2->Wr H0 H' (D m) (if m<j then (Ls m).map w' else Ls m) (cs m)) (a:=0) (N:=2) rfl (by refine zW s ?_; rfl) (zV s) (xq _) zO (by simp only [dz,s]; rfl) rfl (fun j vs H' m ⟨h1,h2⟩=>⟨h1.mono (Sub.bump H' m),fun m' bV=>(h2 m' bV).mono (Sub.bump H' m)⟩) (by
   have kk:Kp H0 o:=hk.trans K
   have:=kk.le
   exact zK) ⟨⟨by exact cC,bp bd,?_,?_,?_,by exact cC,fun c e hc hne _=>by
   have a6:=K.get hc
   have:=w3 _ _ a6
   rw [au zO,au hne]; exact a6⟩,?_⟩ ?_ ?_
  ·obtain ⟨q,bc,bW⟩:=a5;have cD:=w3 _ _ bc;have cw:H.next+12≠ub:=zO
   have m1:NoTy [ae] o ub:=NoTy.ty J zU;have m2:NoTy [ae] o (o.next+6):=NoTy.none (w3.fresh zO);exact ⟨q,by exact zV bc,SlV.monoT (E:=bU gg) zS bW⟩
  ·have m1:NoTy (aa :: intE.tys) o ub:=NoTy.ty J zU;have m2:NoTy (aa :: intE.tys) o (o.next+6):=NoTy.none (w3.fresh zO);exact SlV.monoT (E:=intE) zS bl
  ·have m1:NoTy (aa :: intE.tys) o ub:=NoTy.ty J zU;have m2:NoTy (aa :: intE.tys) o (o.next+6):=NoTy.none (w3.fresh zO);exact SlV.monoT (E:=intE) zS b8
  ·intro m hm;rw [if_neg zO,W,ar,a8];by_cases h:m=0
   ·simpa [h] using bS
   ·simpa [h] using bp bh
  ·rintro j T2 t _ hj p bF X R ⟨p1,p2⟩;have w5:=R.wf;have cg:=R.le;have t50:ad T2 50=.own (o.next+6) 0 2 2 1 true:=(X.at_ 50 zU).trans (zV s);have cn:ad T2 7=.ptr (H.next+12) 0:=(X.at_ 7 zU).trans (zV (aE s t7));have ck:ad T2 1=va:=(X.at_ 1 zU).trans (zV (aE s t1));have a1:ad T2 6=ab:=(X.at_ 6 zU).trans (zV (aE s t6));have aN:=p2 j hj;rw [if_neg zO] at aN;have am:=b6 j hj;have cR:=cS j hj;have ci:=p1.u;have ch:=p1.sb;simp only [dz,s] at p;refine zW (fX p t50 bF ch cR ci am aN.sl.lenV) ?_;refine aq H0 [] (fun k _ H'=>FoldC H H0 H' ub LV qr qd u.done (H.next+12) (Lin.dot a up) ab va up a (o.next+6)/\Wr H0 H' (D j) (jV w' (Ls j) k) (cs j)/\∀ m,m<2->m≠j->Wr H0 H' (D m) (if m<j then (Ls m).map w' else Ls m) (cs m)) (a:=0) (N:=(Ls j).length) rfl (by refine zW p ?_; rfl) (zV p) (xq _) (by have:=bw j; omega) (by simp only [dz,p]; rfl) rfl (fun k vs H' m ⟨h1,h2,h3⟩=>⟨h1.mono (Sub.bump H' m),h2.mono (Sub.bump H' m),fun m' a b=>(h3 m' a b).mono (Sub.bump H' m)⟩) zK ⟨p1.mono (Sub.bump t _),by rw [A9]; exact aN.mono (Sub.bump t _),fun m hm _=>(p2 m hm).mono (Sub.bump t _)⟩ ?_ ?_
   ·rintro k U F _ ax G aK Y aj ⟨q1,q2,q3⟩;have w6:=aj.wf;have cF:=aj.le;have cm:ad U 58=D j:=(Y.at_ 58 zU).trans (zV p);have t9:ad U 9=.ptr ub j:=(Y.at_ 9 zU).trans (zV p);have aC:ad U 7=.ptr (H.next+12) 0:=(Y.at_ 7 zU).trans (zV (aE p cn));have ay:ad U 1=va:=(Y.at_ 1 zU).trans (zV (aE p ck));have aB:ad U 6=ab:=(Y.at_ 6 zU).trans (zV (aE p a1));have cx:=sQ w' (Ls j) (Ys ax);obtain ⟨vr,aS,bR,bJ⟩:=q2.elem (j:=k) zO;have bE:(jV w' (Ls j) k)[k]'zO=(Ls j)[k]:=by
     have:=Dl w' (Ls j) ax
     rw [eA zO] at this;exact Option.some.inj this
    rw [bE] at aS;have V:=bx j _ (mQ ax);have S:=q1.u;obtain ⟨bq,P,bz⟩:=q1.bx;simp only [dz,p] at G;refine zW (bB G cm aK bJ bR) ?_;refine aF ?_;refine zD (jU G t9 aC ay aB S am P @ap) ?_;have a9:=nf ag V.2 (ah.trans V.1.symm) zO;refine AnsH.use (wQ C zF (q1.va.mono (zG F)) (aS.mono (zG F)) (ah.trans V.1.symm) zO ag V.2 zO) ?_;rintro v7 H7 ⟨bY,bM⟩;obtain ⟨aV,_,w7⟩:=zT F zK bM;have aY:=aV.get S;have aX:=aV.get P;refine zD (ia G t9 aC ay aB S am P @ap aY aX) ?_;refine AnsH.use (Cg C zF bY (a9.sm zO)) ?_;rintro v8 H8 ⟨bZ,bN⟩;have ao:Kp F H8:=Kp.trans aV (Kp.trans zK bN);have cJ:=ao.le;have w8:=ao.wf;have bt:=ao.get S;have bs:=ao.get P;refine zD (Ih G t9 aC ay aB S am P @ap aY aX bt bs) ?_;have bC:=nf ag bj (ah.trans bk.symm) zO;refine AnsH.use (Hq C zF (m:=Lin.dot a up) (n:=-(Lin.dot a (Ls j)[k])) ⟨bq,rfl,bz.mono (zG F)⟩ (bZ.mono (zG H8)) (aS.mono (zG F)) (q1.vl.mono (zG F)) (V.1.trans bk.symm) zO bC a9.neg V.2 bj zO) ?_;rintro v9 H9 ⟨bi,bP⟩;have M:Kp F H9:=Kp.trans ao (Kp.trans zK bP);have cK:=M.le;have cf:Kp H0 H9:=aj.trans M;have cG:=cf.le;have w9:=M.wf;have cq:=M.get S;have cp:=M.get P;obtain ⟨b',bu,I,ct,av,bK,bI,ce⟩:=(q2.mono M.sub).store (j:=k) zO bi;have o9:=bi.one;have cB:=w9 _ _ av;refine zD (Nx G t9 aC ay aB S am P @ap aY aX bt bs cq cp bI av bK) ?_;have cd:w' (Ls j)[k]=Lin.prime (Lin.mix (Lin.dot a up) (Ls j)[k] (-(Lin.dot a (Ls j)[k])) up):=by rw [bm]; rfl
    refine ⟨zK,(q1.mono M.sub).put av (b2 j _ I) (fun e he=>by
     have hlt:=hw _ _ he;rw [W] at I;by_cases ba:j=0
     ·simp only [ba,if_true] at I;rw [af] at I;cases I;omega
     ·simp only [ba,if_false] at I;exact I),?_,fun m hm hne=>((q3 m hm hne).mono M.sub).put (b1 j m hj hm hne _ I) (NoTy.ty av zU)⟩
    rw [<- Dk w' (Ls j) ax,cd];exact ce
   ·rintro U F G Y aj ⟨q1,q2,q3⟩;simp only [dz,p] at G;rw [Dm] at q2;refine zW G ?_;refine ⟨aj,q1,fun m hm=>?_⟩;by_cases h:m=j
    ·subst h; rw [if_pos zO]; exact q2
    ·have:=q3 m hm h
     by_cases h2:m<j
     ·rw [if_pos h2] at this; rw [if_pos zO]; exact this
     ·rw [if_neg h2] at this; rw [if_neg zO]; exact this
  ·rintro T2 t p X R ⟨p1,p2⟩;have w5:=R.wf;have cg:=R.le;have a1:ad T2 6=ab:=(X.at_ 6 zU).trans (zV (aE s t6));simp only [dz,s] at p;refine zW (aD p a1 b0) ?_;have p0:=p2 0 zO;have aW:=p2 1 zO;rw [if_pos zO,W,ar,a8] at p0 aW;simp only [if_true,Nat.one_ne_zero,if_false] at p0 aW;have e:(u.rays.map w').length=u.rays.length:=by simp
   refine ⟨zK,p1.vl.mono (Sub.bump t _),⟨LV,qr,qd,n,p1.u,p0.mono (Sub.bump t _),?_,p1.d.mono (Sub.bump t _),a0,br,s3⟩,fun c e hc hne hq=>p1.oth c e hc hne (hq ql qr qd (by first | exact Z | rfl)),fun q1 q2 q3 h=>by
    try rw [Z] at h
    cases h;exact ⟨LV,p1.u⟩⟩
   show Wr H0 _ qr (u.rays.map w') (u.rays.map w').length;rw [e];exact aW.mono (Sub.bump t _)
end
section
variable {tab:Nat->Option aA} (ev:Src->AV) (H:Heap) (id:Nat) (Q:AV->Heap->Prop)
def NE:nj tab ev H id .mkmap Q=Q (.map id) (H.put id (.map [])):=by
 rw [co,ib tab ev H id Q (o:=.mkmap) (fun f a e=>by cases e) rfl]; rfl
def oL (kd:BK) (z:AV) (x i:Src) (ok:Bool):nj tab ev H id (.lookup kd z x i ok) Q=ii (tX H kd z (ev x) (ev i) ok) (fun v=>Q v H) ():=by
 rw [co,ib tab ev H id Q (o:=.lookup kd z x i ok) (fun f a e=>by cases e) rfl];show iA ((tX H kd z (ev x) (ev i) ok).map fun v=>(v,H)) _=_;cases tX H kd z (ev x) (ev i) ok <;> rfl
def Lr (kd:BK) (m k v:Src):nj tab ev H id (.mapUpd kd m k v) Q=ii (nF H kd (ev m) (ev k) (ev v)) (fun H'=>Q .undef H') ():=by
 rw [co,ib tab ev H id Q (o:=.mapUpd kd m k v) (fun f a e=>by cases e) rfl];show iA ((nF H kd (ev m) (ev k) (ev v)).map fun H'=>(AV.undef,H')) _=_;cases nF H kd (ev m) (ev k) (ev v) <;> rfl
theorem Ig {kd:BK} {z:AV} {x i:Src} {ok:Bool}:vI (.lookup kd z x i ok)=true:=rfl
end
def qE (es:List (AV × AV)):Prop:=∀ p∈es,∃ z,p.1=.int .i64 z
def gT (es:List (AV × AV)) (z:Int):AV:=match pg (.int .i64 z) es with
 | some (some v)=>v
 | _=>.nilSl
def Jz:∀ {es:List (AV × AV)},qE es->∀ z,∃ o,pg (.int .i64 z) es=some o
 | [],_,z=>⟨none,rfl⟩
 | (k,v) :: es,h,z=>by
  obtain ⟨y,hy⟩:=h _ (Al ..);simp only at hy;subst hy;have a:=Jz (es:=es) (fun p hp=>h p (tZ _ hp)) z;simp only [pg,iR,if_true];cases z == y with
  | true=>exact ⟨_,rfl⟩
  | false=>exact a
def Ff {H:Heap} {mb:Nat} {es:List (AV × AV)} (hm:H.get mb=some (.map es)) (a:qE es) (z:Int):tX H .int .nilSl (.map mb) (.int .i64 z) false=some (gT es z):=by
 obtain ⟨o,b⟩:=Jz a z;simp only [tX,io,Bool.true_eq_false,if_false,yX,hm,b,gT];cases o <;> rfl
def Ul {H:Heap} {mb:Nat} {es:List (AV × AV)} (hm:H.get mb=some (.map es)) (a:qE es) (z:Int) (v:AV):nF H .int (.map mb) (.int .i64 z) v=some (H.put mb (.map (tH (.int .i64 z) v es))):=by
 obtain ⟨o,b⟩:=Jz a z;simp only [nF,io,Bool.true_eq_false,if_false,hm,b]
def FY:∀ {es:List (AV × AV)},qE es->∀ z v,qE (tH (.int .i64 z) v es)
 | [],_,z,v=>fun p hp=>by simp [tH] at hp; exact ⟨z,by rw [hp]⟩
 | (k,w) :: es,h,z,v=>by
  obtain ⟨y,hy⟩:=h _ (Al ..);simp only at hy;subst hy;have a:=FY (es:=es) (fun p hp=>h p (tZ _ hp)) z v;simp only [tH,iR,if_true];cases z == y with
  | true =>
   intro p hp;rcases FC.1 hp with rfl | hp
   ·exact ⟨z,rfl⟩
   ·exact h p (tZ _ hp)
  | false =>
   intro p hp;rcases FC.1 hp with rfl | hp
   ·exact ⟨y,rfl⟩
   ·exact a p hp
def V4:∀ {es:List (AV × AV)},qE es->∀ z v z',gT (tH (.int .i64 z) v es) z'=if z'=z then v else gT es z'
 | [],_,z,v,z'=>by
  simp only [tH,gT,pg,iR,if_true];by_cases h:z'=z
  ·simp [h]
  ·have e:(z' == z)=false:=by simpa using h
   simp [h,e]
 | (k,w) :: es,h,z,v,z'=>by
  obtain ⟨y,hy⟩:=h _ (Al ..);simp only at hy;subst hy;have b:=V4 (es:=es) (fun p hp=>h p (tZ _ hp)) z v z';simp only [gT] at b;simp only [tH,iR,if_true,gT];by_cases a:z=y
  ·subst a;simp only [beq_self_eq_true,pg,iR,if_true];by_cases h:z'=z
   ·simp [h]
   ·have e:(z' == z)=false:=by simpa using h
    simp [h,e]
  ·have c:(z == y)=false:=by simpa using a
   simp only [c,pg,iR,if_true];by_cases h:z'=y
   ·subst h;simp [Ne.symm a]
   ·have d:(z' == y)=false:=by simpa using h
    simp only [d];exact b
def Nb {H H':Heap} {id sz bytes ty c m:Nat} {v f:AV} {d:List AV} {fr:Option Nat} (h:cU H id sz bytes ty v m d fr=some (f,H')) (hc:c≠id) (hn:H.get c=none):H'.get c=none:=by
 unfold cU at h;split at h
 ·split at h
  ·cases h; exact hn
  ·split at h
   ·cases h; rw [au hc]; exact hn
   ·cases h
 ·split at h
  ·rename_i b off n g i ex x cs j rw' hb;have a:c≠b:=fun e=>by rw [<- e,hn] at hb; cases hb
   split at h
   ·split at h
    ·split at h
     ·cases h; exact hn
     ·split at h
      ·cases h; rw [au a]; exact hn
      ·cases h
    ·split at h
     ·cases h; rw [au hc]; exact hn
     ·split at h
      ·cases h; rw [au hc,cM a]; exact hn
      ·cases h
   ·cases h
  ·cases h
 ·cases h
def Eh {H H':Heap} {id sz bytes ty c:Nat} {v w a:AV} (h:dr H id sz bytes ty v w=some (a,H')) (hc:c≠id) (hn:H.get c=none):H'.get c=none:=by
 unfold dr at h;split at h
 ·cases h
 ·split at h
  ·cases h
  ·exact Nb h hc hn
def Frm (v:AV) (H H':Heap):Prop:=∀ b e,H.get b=some e->iz v≠some b->H'.get b=some e
def Frm.subT {α:Type} {E:fQ α} {ty:Nat} {tys:List Nat} {H0 H H':Heap} {v:AV} {l:List α} (a:Frm v H H') (h:Bl E ty H0 H v l) (hn:ty ∉ tys):SubT tys H H':=fun c cs t r d hc=>a c _ hc fun e=>by
 rcases h with ⟨rfl,-⟩ | ⟨b,cells,rfl,hb,-⟩
 ·cases e
 ·cases e;rw [hb] at hc; cases hc;exact hn d
def Frm.other {α:Type} {E:fQ α} {ty:Nat} {H0 H H':Heap} {v:AV} {l:List α} (d:Frm v H H') (h:Bl E ty H0 H v l) {b:Nat} {e:Ent} (hb:H.get b=some e) (he:∀ cs,e ≠ .cells cs ty true):H'.get b=some e:=d b e hb fun a=>by
 rcases h with ⟨rfl,-⟩ | ⟨b',cells,rfl,c,-⟩
 ·cases a
 ·cases a;rw [hb] at c; cases c;exact he _ rfl
def Frm.bl {α β:Type} {E:fQ α} {E':fQ β} {ty:Nat} {H0 H H':Heap} {v w:AV} {l:List α} {m:List β} (c:Frm v H H') (h:Bl E ty H0 H v l) (a:Bl E' ty H0 H w m) (hs:Sep v w) (d:ty ∉ E'.tys):Bl E' ty H0 H' w m:=by
 rcases a with a | ⟨b,cells,rfl,hb,hc,h0⟩
 ·exact .inl a
 ·exact .inr ⟨b,cells,rfl,c b _ hb fun e=>hs b e rfl,hc.mono (c.subT h d),h0⟩
def Bl.push2 {α:Type} {E:fQ α} {ty ty2 bytes id id2:Nat} {H0 H:Heap} {v:AV} {l:List α} {cs:List AV} {a:α} (h:Bl E ty H0 H v l) (A:ty ∉ E.tys) (w:Kp H0 H) (hr:E.R H cs a) (s:H0.next<=id) (t:id<H.next) (r:H.get id=none) (k:H0.next<=id2) (u:id2<H.next) (j:H.get id2=none) (hne:id≠id2)
  (hb:(l.length+1)*bytes<=70368744177664) (hl:l.length+1<4611686018427387904) :
  ∃ n H',dr (H.put id2 (.cells cs ty2 true)) id E.sz bytes ty v (.own id2 0 1 1 E.sz true)=some (.own id 0 n n E.sz false,H')/\Bl E ty H0 H' (.own id 0 n n E.sz false) (l++[a])/\Kp H0 H'/\H'.next=H.next/\Frm v H H'/\(∀ c,c≠id->c≠id2->H.get c=none->H'.get c=none):=by
 have f:Sub H (H.put id2 (.cells cs ty2 true)):=aG j;have y:Kp H0 (H.put id2 (.cells cs ty2 true)):=w.put k u;have hy:SlV E ty2 (H.put id2 (.cells cs ty2 true)) (.own id2 0 1 1 E.sz true) [a] :=
  (show Own E ty2 H0 _ id2 true (.own id2 0 1 1 E.sz true) [a] from ⟨cs,rfl,al _ _ _,Cells.one (E.mono (f.t _) hr),k⟩).sl
 have B:∀ b n,v=.own b 0 n n E.sz false->b≠id2:=fun b n d e=>by
  rcases h with ⟨h,-⟩ | ⟨b',cells,h,i,-⟩
  ·rw [h] at d; cases d
  ·rw [h] at d; cases d;rw [e,j] at i; cases i
 obtain ⟨D,H',g,o,e3,p,e5,e6⟩:=(h.mono f).app (id:=id) (bytes:=bytes) A y hy s t (by rw [au hne]; exact r) (fun b n d off m c z x C=>by cases C; exact B _ _ d rfl) hb hl;obtain ⟨n,rfl⟩:=e6 (by simp);refine ⟨n,H',g,o,e3,p,fun b e q he=>e5 b e (f.get _ _ q) fun n d=>he (by rw [d]; rfl),fun c h1 h2 h3=>Eh g h1 (by rw [au h2]; exact h3)⟩
def Bl.push1 {α:Type} {E:fQ α} {ty ty2 bytes id id2 k:Nat} {H0 H:Heap} {v:AV} {l:List α} {cs:List AV} {a:α} (h:Bl E ty H0 H v l) (j:ty ∉ E.tys) (d:Kp H0 H) (hr:E.R H cs a) (e:H.next<=id) (i:id<H.next+k) (f:H.next<=id2) (g:id2<H.next+k) (hne:id≠id2)
  (hb:(l.length+1)*bytes<=70368744177664) (hl:l.length+1<4611686018427387904) :
  ∃ n H',dr ((H.up k).put id2 (.cells cs ty2 true)) id E.sz bytes ty v (.own id2 0 1 1 E.sz true)=some (.own id 0 n n E.sz false,H')/\Bl E ty H0 H' (.own id 0 n n E.sz false) (l++[a])/\Kp H0 H'/\H'.next=H.next+k/\Frm v H H'/\(∀ c,c≠id->c≠id2->H.get c=none->H'.get c=none):=by
 have m:=d.le;exact Bl.push2 (H:=H.up k) (h.mono (Sub.bump H k)) j (d.up k) (E.mono ((Sub.bump H k).t _) hr) zO i (d.wf.fresh (b:=id) e) zO g (d.wf.fresh (b:=id2) f) hne hb hl
def Bg (a:List Int) (R:List (List Int)) (k:Nat) (s:Int):List Int:=((List.range k).filter fun i=>gJ (Lin.dot a (R.getD i [])) == s).map fun i:Nat=>(i:Int)
def Iy (a:List Int) (R:List (List Int)) (k:Nat) (s:Int):Bg a R (k+1) s=Bg a R k s++if gJ (Lin.dot a (R.getD k []))=s then [(k:Int)] else []:=by
 unfold Bg;rw [List.range_succ,XY,Xz];congr 1;by_cases h:gJ (Lin.dot a (R.getD k []))=s
 ·have e:List.filter (fun i=>gJ (Lin.dot a (R.getD i [])) == s) [k]=[k]:=ZX (p:=fun i=>gJ (Lin.dot a (R.getD i [])) == s) (beq_iff_eq.2 h);rw [if_pos h,e]; rfl
 ·have e:List.filter (fun i=>gJ (Lin.dot a (R.getD i [])) == s) [k]=[]:=ZY (p:=fun i=>gJ (Lin.dot a (R.getD i [])) == s) (fun h'=>h (beq_iff_eq.1 h'));rw [if_neg h,e]; rfl
def LM (a:List Int) (R:List (List Int)) (k:Nat) (s:Int):(Bg a R k s).length<=k:=by
 unfold Bg;rw [rR];exact B5 (Yf _ _) (by simp)
structure SidesV (H0 H:Heap) (mb:Nat) (a:List Int) (R:List (List Int)) (k:Nat) (es:List (AV × AV)):Prop where
 get:H.get mb=some (.map es)
 keys:qE es
 bl:∀ s,CR H0 H (gT es s) (Bg a R k s)
 sep:∀ s s',s≠s'->Sep (gT es s) (gT es s')
def SidesV.mono {H0 H H':Heap} {mb:Nat} {a:List Int} {R:List (List Int)} {k:Nat} {es:List (AV × AV)} (hs:Sub H H') (h:SidesV H0 H mb a R k es):SidesV H0 H' mb a R k es :=
 ⟨hs.get _ _ h.get,h.keys,fun s=>(h.bl s).mono hs,h.sep⟩
abbrev Tn:fQ (List Nat):=bU (tT (bU gg) ae)
structure CutV (H H':Heap) (mb:Nat) (a:List Int) (R D:List (List Int)) (k:Nat) (vm vd:AV) (es:List (AV × AV)) (Ws:List (List Nat)):Prop where
 bm:Bl Tn sG H H' vm Ws
 wl:Ws.length=k
 wok:∀ t (h:t<R.length) (h':t<Ws.length),qD (zeros R[t] D) Ws[t]
 bd:Bl intE aa H H' vd ((R.take k).map (Lin.dot a))
 sd:SidesV H H' mb a R k es
def CutV.mono {H H' H'':Heap} {mb:Nat} {a:List Int} {R D:List (List Int)} {k:Nat} {vm vd:AV} {es:List (AV × AV)} {Ws:List (List Nat)} (hs:Sub H' H'') (h:CutV H H' mb a R D k vm vd es Ws):CutV H H'' mb a R D k vm vd es Ws :=
 ⟨h.bm.mono hs,h.wl,h.wok,h.bd.mono hs,h.sd.mono hs⟩
def NoTy.map {tys:List Nat} {H:Heap} {b:Nat} {es:List (AV × AV)} (h:H.get b=some (.map es)):NoTy tys H b:=fun cs t r _ e=>by rw [h] at e; cases e
def Bl.blk {α:Type} {E:fQ α} {ty:Nat} {H0 H:Heap} {v:AV} {l:List α} (h:Bl E ty H0 H v l) {b:Nat} (hb:iz v=some b):∃ cells,H.get b=some (.cells cells ty true):=by
 rcases h with ⟨rfl,-⟩ | ⟨b',cells,rfl,h1,-⟩
 ·cases hb
 ·cases hb; exact ⟨_,h1⟩
section
variable {tab:Nat->Option aA} {H:Heap} {s:AV}
def MR (C:Code tab) {ub mb k:Nat} {ql qr qd va vm vd:AV} {a:List Int} {R D:List (List Int)} {d e f:Nat} {es:List (AV × AV)} {Ws:List (List Nat)} {T1:Tm} {i:Heap} (aK:H.get ub=some (.cells [ql,qr,qd] aT true)) (aE:pb H qr R) (bh:pb H qd D) (ha:RowV H va a) (bb:0<d) (hd:d<=64) (aw:a.length=d) (hR:∀ r∈R,r.length=d/\∀ z∈r,Bt f z) (hD:∀ r∈D,r.length=d/\∀ z∈r,Bt e z) (a6:D.length<=1024) (av:∀ z∈a,Bt e z) (hb:e+f+7<=8796093022208) (bw:R.length<1099511627776) (y:Kp H i) (L:k<R.length) (m:T1.length=135)
  (t0:ad T1 0=.ptr ub 0) (t1:ad T1 1=va) (t6:ad T1 6=.map mb) (bt:ad T1 23=qr) (aB:ad T1 25=.int .i64 (k:Int)) (v7:ad T1 7=vm) (v8:ad T1 8=vd) (bz:H.next<=mb) (hc:CutV H i mb a R D k vm vd es Ws) {Q:Ex->Tm->Heap->Prop}
  (hq:∀ T2 H2 aQ aP a2 aS,T2.length=135->ad T2 7=aQ->ad T2 8=aP->Kp H H2->CutV H H2 mb a R D (k+1) aQ aP a2 aS->Q .nrm T2 H2) :
  WC tab false (.seq (.region [⟨some 27,.mv (.t 25),none⟩,⟨some 28,.indexAddr 1 (.t 23) (.t 25),none⟩,⟨some 29,.load none (.t 28),none⟩,⟨some 9,.mv (.t 27),none⟩,⟨some 10,.mv (.t 29),none⟩]) <|
   .seq (.region [⟨some 30,.mv (.t 1),none⟩,⟨some 31,.mv (.t 10),none⟩,⟨some 32,.call (.c (.fn (.func p8) [] [])) [(.t 30),(.t 31)],none⟩,⟨some 11,.alloc aa [(.bool false),.nilSl],none⟩,⟨none,.store 2 (.t 11) (.t 32),none⟩]) <|
   .seq (.region [⟨some 33,.mv (.t 8),none⟩,⟨some 34,.load (some 2) (.t 11),none⟩,⟨some 35,.buildSlice aa 2 [(.bool false),.nilSl] 1 [((0,2),(.t 34))],none⟩,⟨some 36,.append 2 32 aa [(.bool false),.nilSl] (.t 33) (.t 35),none⟩,⟨some 37,.mv (.t 7),none⟩,⟨some 38,.mv (.t 0),none⟩,⟨some 39,.mv (.t 10),none⟩,⟨some 40,.call (.c (.fn (.func fg) [] [])) [(.t 38),(.t 39)],none⟩,⟨some 41,.buildSlice sG 1 [.nilSl] 1 [((0,1),(.t 40))],none⟩,⟨some 42,.append 1 24 sG [.nilSl] (.t 37) (.t 41),none⟩,⟨some 8,.mv (.t 36),none⟩,⟨some 7,.mv (.t 42),none⟩]) <|
   .draw [
    ⟨(some 43),.mv (.t 6),none,[(6,none)],0,[(0,[]),(1,[]),(2,[]),(3,[])]⟩,
    ⟨(some 44),.load (some 2) (.t 11),none,[(11,none)],0,[(0,[])]⟩,
    ⟨(some 45),.call (.c (.fn (.func wy) [] [])) [(.t 44)],none,[(44,(some 1))],2,[(0,[])]⟩,
    ⟨(some 46),.mv (.t 6),none,[(6,none)],0,[(0,[]),(1,[]),(2,[])]⟩,
    ⟨(some 47),.load (some 2) (.t 11),none,[(11,none)],0,[(0,[]),(1,[])]⟩,
    ⟨(some 48),.call (.c (.fn (.func wy) [] [])) [(.t 47)],none,[(47,(some 4))],2,[(1,[])]⟩,
    ⟨(some 49),.lookup .int .nilSl (.t 46) (.t 48) false,none,[(46,(some 3)),(48,(some 5))],0,[(2,[])]⟩,
    ⟨(some 50),.mv (.t 9),none,[(9,none)],0,[(0,[]),(1,[]),(2,[])]⟩,
    ⟨(some 51),.buildSlice d9 1 [(.int .i64 0)] 1 [((0,1),(.t 50))],none,[(50,(some 7))],1,[(0,[]),(1,[]),(2,[])]⟩,
    ⟨(some 52),.append 1 8 d9 [(.int .i64 0)] (.t 49) (.t 51),none,[(49,(some 6)),(51,(some 8))],2,[(2,[8])]⟩,
    ⟨none,.mapUpd .int (.t 43) (.t 45) (.t 52),none,[(43,(some 0)),(45,(some 2)),(52,(some 9))],2,[(3,[])]⟩] []) T1 i Q:=by
 have hw:=y.wf0;have w1:=y.wf;have bI:=y.le;have bE:=y.le;obtain ⟨vr,aL,bf⟩:=dH aE L;have bd:=SlV.idx1 aE .i64 k L;have bg:=bD y.sub bf;have u:=hR _ (mQ L);have bP:=hw _ _ aK;have ay:=nf av u.2 (aw.trans u.1.symm) zO;refine zW (fo m t0 t1 bt aB bd bg) ?_;refine AnsH.use (wQ C zF (ha.mono (zG H)) (aL.mono (zG H)) (aw.trans u.1.symm) zO av u.2 zO) ?_;rintro v H2 ⟨⟨w,rfl,ae⟩,Z⟩;obtain ⟨bl,_,_⟩:=zT i zK Z;have aM:Kp H H2:=y.trans bl;have bJ:=aM.le;have w2:=aM.wf;have n2:i.next+10<=H2.next:=Z.le
 have f8:H2.get (i.next+8)=none:=Z.free (show _<i.next+10 by omega) (w1.fresh (b:=i.next+8) zO);have ow:=ae.one;obtain ⟨z,hz⟩:∃ z,z=Lin.dot a R[k]:=⟨_,rfl⟩
 rw [<- hz] at ae ay ⊢;obtain ⟨l,q⟩:∃ X,X=(H2.put (i.next+8) (.cells [.bool false,.nilSl] aa true)).put (i.next+8) (.cells [.bool (decide (z<0)),w] aa true):=⟨_,rfl⟩
 have br:Sub H2 l:=by rw [q]; exact (aG f8).put f8 _
 have af:Kp H l:=by rw [q]; exact zK
 have nc:l.next=H2.next:=by rw [q]; rfl
 have ba:l.get (i.next+8)=some (.cells [.bool (decide (z<0)),w] aa true):=by rw [q]; exact al _ _ _
 have bm:Kp i l:=by rw [q]; exact zK
 have cc:=hc.mono bm.sub;have aI:bO l w z.natAbs:=ae.mono br;have wc:=af.wf;have bx:((R.take k).map (Lin.dot a)).length=k:=by simp; omega
 obtain ⟨B,G,Y,aq,T,bq,p,ao⟩:=Bl.push1 (ty2:=aa) (bytes:=32) (id:=l.next+3) (id2:=l.next+2) (k:=12) (cs:=[.bool (decide (z<0)),w]) (a:=z) cc.bd zU af ⟨w,rfl,aI⟩ zO zO zO zO zO zO zO;rw [nc] at Y aq bq ao;have aX:dr ((((H2.up 12).put (i.next+8) (.cells [.bool false,.nilSl] aa true)).put (i.next+8) (.cells [.bool (decide (z<0)),w] aa true)).put (H2.next+2) (.cells [.bool (decide (z<0)),w] aa true)) (H2.next+3) 2 32 aa vd (.own (H2.next+2) 0 1 1 2 true)=some (.own (H2.next+3) 0 B B 2 false,G):=by rw [q] at Y; exact Y
 refine zW (bB m t0 v7 v8 aX) ?_;have bY:=T.wf;have bk:l.get ub=some (.cells [ql,qr,qd] aT true):=af.get aK;have bj:=p.other cc.bd bk (fun cs h=>by injection h with _ h2; exact absurd h2 zU);have a7:∀ x,iz vd=some x->x<i.next:=fun x hx=>by
  obtain ⟨cells,h⟩:=hc.bd.blk hx;exact w1 _ _ h
 have a8:G.get (i.next+8)=some (.cells [.bool (decide (z<0)),w] aa true):=p _ _ ba fun e=>by have:=a7 _ e; omega
 have bi:bO G w z.natAbs:=SlV.monoT (E:=bU gg) (p.subT cc.bd zU) aI;refine AnsH.use (MW C zF bj (bh.mono T.sub) (aL.mono T.sub) a6 bb hd u.1 (fun x hx=>(hD x hx).1) u.2 (fun x hx=>(hD x hx).2) zO) ?_;rintro ap I ⟨W,hW,mW,j⟩;have ag:Kp H I:=T.trans j;have bK:=ag.le;have bZ:=ag.wf;have bV:=hW.one;have bF:=j.le;have a3:I.get (H2.next+8)=none:=j.free zO (ao _ zO zO (wc.fresh (b:=H2.next+8) zO));have a4:I.get (H2.next+9)=none:=j.free zO (ao _ zO zO (wc.fresh (b:=H2.next+9) zO));have ar:Bl Tn sG H G vm Ws:=cc.bm.monoT (p.subT cc.bd zU);have bs:SidesV H G mb a R k es:=by
  refine ⟨p.other cc.bd cc.sd.get (fun cs h=>by cases h),cc.sd.keys,fun s=>?_,cc.sd.sep⟩;exact (cc.sd.bl s).monoT (p.subT cc.bd zU)
 obtain ⟨U,c,aY,aU,ah,bQ,K,bW⟩:=Bl.push2 (ty2:=sG) (bytes:=24) (id:=H2.next+9) (id2:=H2.next+8) (cs:=[ap]) (a:=W) (ar.mono j.sub) zU ag ⟨ap,rfl,hW⟩ zO zO a4 zO zO a3 zO (by have:=hc.wl; omega) (by have:=hc.wl; omega);have aZ:dr (I.put (H2.next+8) (.cells [ap] sG true)) (H2.next+9) 1 24 sG vm (.own (H2.next+8) 0 1 1 1 true)=some (.own (H2.next+9) 0 U U 1 false,c):=aY;refine zW (bB m t0 v7 v8 aZ) ?_;have J:Bl Tn sG H I vm Ws:=ar.mono j.sub;have aR:=ah.wf;have a9:=j.get a8;have P:=K.other J a9 (fun cs h=>by injection h with _ h2; exact absurd h2 zU);have aH:bO c w z.natAbs:=SlV.monoT (E:=bU gg) (K.subT J zU) (bi.mono j.sub);have aW:Bl intE aa H c (.own (H2.next+3) 0 B B 2 false) ((R.take k).map (Lin.dot a)++[z]):=(aq.mono j.sub).monoT (K.subT J zU);have am:SidesV H c mb a R k es:=by
  have O:=bs.mono j.sub;refine ⟨K.other J O.get (fun cs h=>by cases h),O.keys,fun s=>?_,O.sep⟩;exact (O.bl s).monoT (K.subT J zU)
 have aJ:dD z:=ay.sm zO;have lk:=Ff am.get am.keys (gJ z);refine aF ?_;refine zD (aD m t6 P) ?_;refine AnsH.eq (yy C (z:=z) zF ⟨w,rfl,aH.mono (zG c)⟩ aJ) fun bv A=>?_;obtain ⟨aj,_,b0⟩:=zT c zK A;have ax:=aj.get P;refine zD (aO m t6 P ax) ?_;refine AnsH.eq (yy C (z:=z) zF ⟨w,rfl,aH.mono aj.sub⟩ aJ) fun o S=>?_;have n:Kp c o:=aj.trans S;have bL:=n.le;have b1:=n.wf;have g:=am.mono n.sub;have bp:=Ff g.get g.keys (gJ z);have bG:=n.le;have a5:o.get (c.next+8)=none:=S.free (by have:=A.le; simp only [dg] at this; omega) (A.free (show _<c.next+11 by omega) (aR.fresh (b:=c.next+8) zO));have au:o.get (c.next+9)=none:=S.free (by have:=A.le; simp only [dg] at this; omega) (A.free (show _<c.next+11 by omega) (aR.fresh (b:=c.next+9) zO));have bR:c.next+11<=o.next:=B5 A.le S.le
 have aN:Kp H o:=ah.trans n;have bM:=aN.le;have bC:=ah.le;have bA:=LM a R k (gJ z);obtain ⟨F,M,a0,aV,bn,bS,N,bX⟩:=Bl.push2 (ty2:=d9) (bytes:=8) (id:=c.next+9) (id2:=c.next+8) (cs:=[.int .i64 (k:Int)]) (a:=(k:Int)) (g.bl (gJ z)) (fun h=>by cases h) aN ⟨_,rfl,rfl⟩ zO zO au zO zO a5 zO zO zO;have a1:dr (o.put (c.next+8) (.cells [.int .i64 (k:Int)] d9 true)) (c.next+9) 1 8 d9 (gT es (gJ z)) (.own (c.next+8) 0 1 1 1 true)=some (.own (c.next+9) 0 F F 1 false,M):=a0;have ab:M.get mb=some (.map es):=N.other (g.bl (gJ z)) g.get (fun cs h=>by cases h);have bu:=Ul ab g.keys (gJ z) (.own (c.next+9) 0 F F 1 false);simp -dsimp (maxSteps:=1000000) (disch:=(first | omega | assumption | exact ai _ | exact bo _ _ | exact bH | exact cY _ _ _ | exact b9 _ _ | exact bT _ _ _ _ _ _ | exact dm _ _ | exact cz _)) only [↓yM,yL,↓Uk,Uj,Nat.reduceLT,Nat.reduceEqDiff,Nat.reduceAdd,reduceIte,reduceCtorEq,Nat.reduceBEq,Int.reduceEq,Int.reduceLT,Int.reduceLE,Int.reduceAdd,Int.reduceSub,m,t6,P,ax,↓oL,↓Lr,Ig,bp,aB,a1,bu];have bN:=bn.wf _ _ ab;have V:∀ tys e,SubT tys M (M.put mb e):=fun tys e=>SubT.puts (SubT.refl _ _) (NoTy.map ab);have bc:R.getD k []=R[k]:=by simp [L]
 refine hq _ _ (.own (H2.next+9) 0 U U 1 false) (.own (H2.next+3) 0 B B 2 false) _ (Ws++[W]) (by simp only [dz]; exact m) (zV m) (zV m) zK ⟨?_,?_,?_,?_,al _ _ _,FY g.keys _ _,fun s=>?_,fun s s' hne=>?_⟩
 ·exact ((aU.mono n.sub).monoT (N.subT (g.bl (gJ z)) zU)).monoT (V _ _)
 ·rw [C5,hc.wl]; rfl
 ·intro t h h';by_cases ht:t<Ws.length
  ·rw [List.getElem_append_left ht]; exact hc.wok t h ht
  ·have e:t=k:=by rw [C5] at h'; have:=hc.wl; simp only [Sb,YN] at h'; omega
   subst e;rw [List.getElem_append_right zO]
   simpa using mW
 ·rw [BU L,Xz];have e:[R[k]].map (Lin.dot a)=[z]:=by rw [hz]; rfl
  rw [e];exact ((aW.mono n.sub).monoT (N.subT (g.bl (gJ z)) zU)).monoT (V _ _)
 ·rw [V4 g.keys,Iy,bc,<- hz];by_cases hs:s=gJ z
  ·subst hs;rw [if_pos rfl,if_pos rfl];exact aV.monoT (V _ _)
  ·rw [if_neg hs,if_neg (fun e=>hs e.symm),X5];exact (N.bl (g.bl (gJ z)) (g.bl s) (g.sep _ _ (fun e=>hs e.symm)) (fun h=>by cases h)).monoT (V _ _)
 ·have aC:∀ s,Sep (.own (c.next+9) 0 F F 1 false) (gT es s):=fun s x hx hy=>by
   cases hx;obtain ⟨cells,hcl⟩:=(g.bl s).blk hy;rw [au] at hcl; cases hcl
  rw [V4 g.keys,V4 g.keys];by_cases h1:s=gJ z
  ·by_cases h2:s'=gJ z
   ·exact absurd (h1.trans h2.symm) hne
   ·rw [if_pos h1,if_neg h2]; exact aC s'
  ·by_cases h2:s'=gJ z
   ·rw [if_neg h1,if_pos h2]; exact (aC s).symm
   ·rw [if_neg h1,if_neg h2]; exact g.sep s s' hne
end
def cy (a:List Int) (R:List (List Int)) (s:Int):List Nat:=(List.range R.length).filter fun i=>gJ (Lin.dot a (R.getD i [])) == s
theorem EJ (a:List Int) (R:List (List Int)) (s:Int):Bg a R R.length s=(cy a R s).map fun i:Nat=>(i:Int):=rfl
def Be {a:List Int} {R:List (List Int)} {s:Int} {i:Nat} (h:i∈cy a R s):i<R.length:=by
 unfold cy at h;rw [C4] at h
 simpa using h.1
def Bf (a:List Int) (R:List (List Int)) (s:Int):(cy a R s).length<=R.length:=by
 unfold cy;exact B5 (Yf _ _) (by simp)
def C6 (D:List (List Int)) (a:List Int) (eq:Bool) (R:List (List Int)) (i:Nat):List (List Int) :=
 (if eq then [] else [R.getD i []])++((cy a R (-1)).filter (Lin.nearB D R i)).map fun k=>Lin.prime (Lin.mx a (R.getD i []) (R.getD k []))
def KX (D:List (List Int)) (a:List Int) (eq:Bool) (R:List (List Int)):Lin.cutL D a eq R=(cy a R 0).map (R.getD · [])++(cy a R 1).flatMap (C6 D a eq R):=by
 have h0:Lin.idxs R (fun r=>Lin.dot a r == 0)=cy a R 0:=by
  unfold Lin.idxs cy;refine Z5 fun i _=>?_;rw [XQ,beq_iff_eq,beq_iff_eq,iK]
 have h1:Lin.idxs R (fun r=>decide (0<Lin.dot a r))=cy a R 1:=by
  unfold Lin.idxs cy;refine Z5 fun i _=>?_;rw [XQ,decide_eq_true_eq,beq_iff_eq];unfold gJ;split
  ·constructor <;> intro h <;> omega
  ·split
   ·constructor <;> intro h <;> omega
   ·constructor <;> intro h <;> omega
 have h2:Lin.idxs R (fun r=>decide (Lin.dot a r<0))=cy a R (-1):=by
  unfold Lin.idxs cy;refine Z5 fun i _=>?_;rw [XQ,decide_eq_true_eq,beq_iff_eq];unfold gJ;split
  ·constructor <;> intro h <;> omega
  ·split
   ·constructor <;> intro h <;> omega
   ·constructor <;> intro h <;> omega
 unfold Lin.cutL;rw [h0,h1,h2];rfl
def Re {D R:List (List Int)} {i k:Nat} (hi:i<R.length) (c:k<R.length):BE (R.map fun r=>zeros r D) i k=Lin.nearB D R i k:=by
 have hz:∀ t,t<R.length->(R.map fun r=>zeros r D).getD t []=zeros (R.getD t []) D:=fun t h=>by simp [h]
 have hh:∀ t,t<R.length->Fs ((R.map fun r=>zeros r D).getD t []) ((R.map fun r=>zeros r D).getD i []) ((R.map fun r=>zeros r D).getD k [])=(D.all fun b=>!(Lin.dot b (R.getD i []) == 0 && Lin.dot b (R.getD k []) == 0) || Lin.dot b (R.getD t []) == 0):=fun t h=>by
  rw [hz t h,hz i hi,hz k c];have hg:∀ r x,x<D.length->(zeros r D).getD x false=decide (Lin.dot (D.getD x []) r=0):=fun r x hx=>by
   simp [zeros,hx,Lin.dot_comm r]
  unfold Fs;rw [XQ,GR,GR,xC];constructor
  ·intro h b hb;obtain ⟨x,hx,rfl⟩:=U0 hb
   have:=h x (by simpa using hx)
   rw [hg _ x hx,hg _ x hx,hg _ x hx] at this;have e:D.getD x []=D[x]:=by simp [hx]
   rw [e] at this
   simpa using this
  ·intro h x hx;have hx:x<D.length:=by simpa using hx
   rw [hg _ x hx,hg _ x hx,hg _ x hx];have e:D.getD x []=D[x]:=by simp [hx]
   rw [e]
   have:=h D[x] (mQ hx)
   simpa using this
 unfold BE Lin.nearB;rw [rR,XQ,GR,GR];constructor
 ·intro h t a
  have:=h t a
  rw [hh t (by simpa using a)] at this;exact this
 ·intro h t a
  have:=h t a
  rw [hh t (by simpa using a)];exact this
def CutV.frm {H H' H'':Heap} {mb:Nat} {a:List Int} {R D:List (List Int)} {k:Nat} {vm vd v:AV} {es:List (AV × AV)} {Ws:List (List Nat)} {l:List (List Int)} (h:CutV H H' mb a R D k vm vd es Ws) (b:Frm v H' H'') (hb:Bl rowsE af H H' v l):CutV H H'' mb a R D k vm vd es Ws :=
 ⟨h.bm.monoT (b.subT hb zU),h.wl,h.wok,h.bd.monoT (b.subT hb zU),b.other hb h.sd.get (fun cs e=>by cases e),h.sd.keys,fun s=>(h.sd.bl s).monoT (b.subT hb zU),h.sd.sep⟩
section
variable {tab:Nat->Option aA} {H:Heap} {s:AV}
def Fm {H0 H:Heap} {v:AV} {l:List Nat} (h:CR H0 H v (l.map fun i:Nat=>(i:Int))) {j:Nat} (hj:j<l.length):bk H none (aB v j)=some (.int .i64 ((l[j]:Nat):Int))/\cS 1 v (.int .i64 (j:Int))=some (aB v j):=by
 obtain ⟨c,hc,b⟩:=SlV.at1 h.sl (i:=j) (a:=((l[j]:Nat):Int)) (by simp [hj]);have hc:c=.int .i64 ((l[j]:Nat):Int):=hc;rw [hc] at b;exact ⟨b,SlV.idx1 h.sl .i64 j (by simpa using hj)⟩
def Bl.ge {α:Type} {E:fQ α} {ty:Nat} {H0 H:Heap} {v:AV} {l:List α} (h:Bl E ty H0 H v l) {b:Nat} (hb:iz v=some b):H0.next<=b:=by
 rcases h with ⟨rfl,-⟩ | ⟨b',cells,rfl,-,-,h0⟩
 ·cases hb
 ·cases hb; exact h0
def Wr.putT {H0 H:Heap} {v:AV} {l:List (List Int)} {c b ty:Nat} {cs:List AV} {r:Bool} {e:Ent} (h:Wr H0 H v l c) (hb:H.get b=some (.cells cs ty r)) (h1:ty≠af) (h2:ty ∉ (tT intE aa).tys):Wr H0 (H.put b e) v l c:=by
 refine h.put (fun a=>?_) (NoTy.ty hb h2);rcases h with ⟨rfl,-⟩ | ⟨b',cells,rfl,h3,-⟩
 ·cases a
 ·cases a;rw [hb] at h3
  injection h3 with h4; injection h4 with _ h5
  exact h1 h5
def DP (C:Code tab) {ub mb i:Nat} {ql qr qd va vm vd p:AV} {a:List Int} {R D pre:List (List Int)} {d e f:Nat} {es:List (AV × AV)} {Ws:List (List Nat)} {T1:Tm} {B:Heap} (aw:H.get ub=some (.cells [ql,qr,qd] aT true)) (L:pb H qr R) (hd:d<=64) (ab:a.length=d) (hR:∀ r∈R,r.length=d/\∀ z∈r,Bt f z) (a3:D.length<=1024) (aa:∀ z∈a,Bt e z) (hb:2*(e+f+7)+2*f+1<=8796093022208) (a4:R.length<=1099000000000) (a7:pre.length<=1100000000000) (ae:Kp H B) (hi:i<R.length) (aM:T1.length=135)
  (t0:ad T1 0=.ptr ub 0) (v7:ad T1 7=vm) (v8:ad T1 8=vd) (aY:ad T1 16=.int .i64 (i:Int)) (aX:ad T1 12=p) (aZ:ad T1 92=gT es (-1)) (a0:ad T1 93=.int .i64 ((cy a R (-1)).length:Int)) (a1:ad T1 94=.int .i64 0) (hc:CutV H B mb a R D R.length vm vd es Ws) (ho:Bl rowsE af H B p pre) {Q:Ex->Tm->Heap->Prop}
  (hq:∀ T2 H2 aD,T2.length=135->ad T2 12=aD->Kp H H2->CutV H H2 mb a R D R.length vm vd es Ws->Bl rowsE af H H2 aD (pre++((cy a R (-1)).filter (Lin.nearB D R i)).map fun k=>Lin.prime (Lin.mx a (R.getD i []) (R.getD k [])))->Q .nrm T2 H2) :
  WC tab false (RD 6 7 94 93 95 129
  (.seq (.region [
  ⟨(some 96),.indexAddr 1 (.t 92) (.t 94),none⟩,
  ⟨(some 97),.load none (.t 96),none⟩,
  ⟨(some 18),.mv (.t 97),none⟩]) <|
  .seq (.region [
  ⟨(some 98),.mv (.t 7),none⟩,
  ⟨(some 99),.mv (.t 16),none⟩,
  ⟨(some 100),.mv (.t 18),none⟩,
  ⟨(some 101),.call (.c (.fn (.func nE) [] [])) [(.t 98),(.t 99),(.t 100)],none⟩]) <|
  .cond (.t 101)
  (.draw [
   ⟨(some 102),.mv (.t 12),none,[(12,none)],0,[(0,[]),(1,[]),(2,[])]⟩,
   ⟨(some 103),.mv (.t 8),none,[(8,none)],0,[(0,[])]⟩,
   ⟨(some 104),.mv (.t 18),none,[(18,none)],0,[(0,[])]⟩,
   ⟨(some 105),.indexAddr 2 (.t 103) (.t 104),none,[(103,(some 1)),(104,(some 2))],0,[(0,[])]⟩,
   ⟨(some 106),.load (some 2) (.t 105),none,[(105,(some 3))],0,[(0,[])]⟩,
   ⟨(some 107),.call (.c (.fn (.func pY) [] [])) [(.t 106)],none,[(106,(some 4))],2,[(0,[])]⟩,
   ⟨(some 108),.mv (.t 0),none,[(0,none)],0,[(0,[]),(1,[])]⟩,
   ⟨(some 109),.nilCheck (.t 108),none,[(108,(some 6))],0,[(0,[]),(1,[])]⟩,
   ⟨(some 110),.fieldAddr 1 (.t 109),none,[(109,(some 7))],0,[(0,[]),(1,[])]⟩,
   ⟨(some 111),.load none (.t 110),none,[(110,(some 8))],0,[(0,[]),(1,[])]⟩,
   ⟨(some 112),.mv (.t 16),none,[(16,none)],0,[(0,[]),(1,[])]⟩,
   ⟨(some 113),.indexAddr 1 (.t 111) (.t 112),none,[(111,(some 9)),(112,(some 10))],0,[(0,[]),(1,[])]⟩,
   ⟨(some 114),.load none (.t 113),none,[(113,(some 11))],0,[(0,[]),(1,[])]⟩,
   ⟨(some 115),.mv (.t 8),none,[(8,none)],0,[(0,[]),(1,[])]⟩,
   ⟨(some 116),.mv (.t 16),none,[(16,none)],0,[(0,[]),(1,[])]⟩,
   ⟨(some 117),.indexAddr 2 (.t 115) (.t 116),none,[(115,(some 13)),(116,(some 14))],0,[(0,[]),(1,[])]⟩,
   ⟨(some 118),.load (some 2) (.t 117),none,[(117,(some 15))],0,[(0,[]),(1,[])]⟩,
   ⟨(some 119),.mv (.t 0),none,[(0,none)],0,[(0,[]),(1,[])]⟩,
   ⟨(some 120),.nilCheck (.t 119),none,[(119,(some 17))],0,[(0,[]),(1,[])]⟩,
   ⟨(some 121),.fieldAddr 1 (.t 120),none,[(120,(some 18))],0,[(0,[]),(1,[])]⟩,
   ⟨(some 122),.load none (.t 121),none,[(121,(some 19))],0,[(0,[]),(1,[])]⟩,
   ⟨(some 123),.mv (.t 18),none,[(18,none)],0,[(0,[]),(1,[])]⟩,
   ⟨(some 124),.indexAddr 1 (.t 122) (.t 123),none,[(122,(some 20)),(123,(some 21))],0,[(0,[]),(1,[])]⟩,
   ⟨(some 125),.load none (.t 124),none,[(124,(some 22))],0,[(0,[]),(1,[])]⟩,
   ⟨(some 126),.call (.c (.fn (.func A5) [] [])) [(.t 107),(.t 114),(.t 118),(.t 125)],none,[(107,(some 5)),(114,(some 12)),(118,(some 16)),(125,(some 23))],2,[(1,[])]⟩,
   ⟨(some 127),.buildSlice af 1 [.nilSl] 1 [((0,1),(.t 126))],none,[(126,(some 24))],1,[(2,[])]⟩,
   ⟨(some 128),.append 1 24 af [.nilSl] (.t 102) (.t 127),none,[(102,(some 0)),(127,(some 25))],2,[(2,[25])]⟩,
   ⟨(some 12),.mv (.t 128),none,[(128,(some 26))],0,[(3,[])]⟩] [])
  (.skip))) T1 B Q:=by
 have hw:=ae.wf0;have bg:=hw _ _ aw;have a8:=Bf a R (-1);have F:=hR _ (mQ hi);obtain ⟨bj,aS,aN⟩:=dH L hi;have aG:=SlV.idx1 L .i64 i hi;have gi:R.getD i []=R[i]:=by simp [hi]
 refine aq H [12] (fun m vs H'=>∃ p,vs=[p]/\CutV H H' mb a R D R.length vm vd es Ws/\Bl rowsE af H H' p (pre++(((cy a R (-1)).take m).filter (Lin.nearB D R i)).map fun k=>Lin.prime (Lin.mx a (R.getD i []) (R.getD k [])))) (a:=0) (N:=(cy a R (-1)).length) aM a1 a0 (xq _) zO rfl rfl (fun m vs H' n ⟨p,h1,h2,h3⟩=>⟨p,h1,h2.mono (Sub.bump H' n),h3.mono (Sub.bump H' n)⟩) ae ⟨p,by show [ad T1 12]=_; rw [aX],hc,by simpa using ho⟩ ?_ ?_
 ·rintro m T2 H2 _ hm l aJ w s ⟨O,j,g,A⟩;have w2:=s.wf;have ba:=s.le;have a9:=s.le;simp only [uz,B3,Ae,and_true] at j;have V:ad T2 0=.ptr ub 0:=(w.at_ 0 zU).trans t0;have u7:ad T2 7=vm:=(w.at_ 7 zU).trans v7;have W:ad T2 8=vd:=(w.at_ 8 zU).trans v8;have M:ad T2 16=.int .i64 (i:Int):=(w.at_ 16 zU).trans aY;have a2:ad T2 92=gT es (-1):=(w.at_ 92 zU).trans aZ;have aR:CR H H2 (gT es (-1)) ((cy a R (-1)).map fun i:Nat=>(i:Int)):=g.sd.bl (-1);obtain ⟨ag,aK⟩:=Fm aR hm;obtain ⟨k,P⟩:∃ k,k=(cy a R (-1))[m]:=⟨_,rfl⟩
  rw [<- P] at ag;have v:k<R.length:=by rw [P]; exact Be (mQ hm)
  have gk:R.getD k []=R[k]:=by simp [v]
  refine zW (fo l a2 u7 M aJ aK ag) ?_;have aV:(R.map fun r=>zeros r D).length=R.length:=by simp
  refine AnsH.eq (MV C (zs:=R.map fun r=>zeros r D) (n:=D.length) zF (g.bm.sl.mono (zG H2)) (by rw [g.wl,aV]) (fun t h h'=>?_) (fun z hz=>?_) zO zO zO zO) fun c aL=>?_
  ·rw [ZA]; exact g.wok t zO h'
  ·rw [nC] at hz;obtain ⟨r,-,rfl⟩:=hz;exact xC r D
  rw [Re hi v];obtain ⟨k23,_,_⟩:=zT H2 zK aL;have o:Kp H c:=s.trans k23;have bb:=o.le;have w3:=o.wf;have av:(cy a R (-1)).take (m+1)=(cy a R (-1)).take m++[k]:=by rw [BU hm,<- P]
  cases am:Lin.nearB D R i k with
  | false =>
   refine zW (aE l j) ?_;refine ⟨o,O,rfl,g.mono k23.sub,?_⟩;rw [av,XY];simp only [YR,am,XC,if_false,ZH,X5];exact A.mono k23.sub
  | true =>
   have G:=hR _ (mQ v);have a5:((R.take R.length).map (Lin.dot a)).length=R.length:=by simp
   have gd:∀ t (h:t<R.length),((R.take R.length).map (Lin.dot a))[t]'zO=Lin.dot a R[t]:=fun t h=>by simp
   have E:=g.bd.sl;obtain ⟨wk,ar,K,-,-⟩:=iZ (E.mono k23.sub) (i:=k) zO;obtain ⟨wi,ao,J,-,-⟩:=iZ (E.mono k23.sub) (i:=i) zO;rw [gd k v] at ar K;rw [gd i hi] at ao J;have X:cS 2 vd (.int .i64 (k:Int))=some (aB vd (k*2)):=SlV.idx E .i64 k zO;have xi:cS 2 vd (.int .i64 (i:Int))=some (aB vd (i*2)):=SlV.idx E .i64 i zO;obtain ⟨bk,aU,aO⟩:=dH L v;have aH:=SlV.idx1 L .i64 k v;have U:=o.get aw;have S:=bD o.sub aN;have T:=bD o.sub aO;have Z:=nf aa G.2 (ab.trans G.1.symm) zO;have di:=nf aa F.2 (ab.trans F.1.symm) zO;refine zW (aE l j) ?_;refine aF ?_;refine zD (fX l j V W M X K @ap) ?_;refine AnsH.use (Cg C (z:=Lin.dot a R[k]) zF ⟨wk,rfl,ar.mono (zG c)⟩ (Z.sm zO)) ?_;rintro v4 Y ⟨aP,u⟩;obtain ⟨x,_,w4⟩:=zT c zK u;have aW:Kp H Y:=o.trans x;have bc:=aW.le;have ax:=x.get U;have ah:=bD x.sub S;have aj:=bD x.sub T;have al:=bD x.sub J;refine zD (Qj l j V W M X xi aG aH K J al U ax S ah T aj @ap) ?_;refine AnsH.use (Hq C (m:=-(Lin.dot a R[k])) (n:=Lin.dot a R[i]) zF (aP.mono (zG Y)) ⟨wi,rfl,ao.mono (zG c)⟩ (aS.mono (zG H)) (aU.mono (zG H)) (F.1.trans G.1.symm) zO Z.neg di F.2 G.2 zO) ?_;rintro v5 q ⟨au,I⟩;have y:Kp c q:=Kp.trans x (Kp.trans zK I);have bf:=y.le;have w5:=y.wf;have ay:Kp H q:=o.trans y;have bd:=ay.le;have o5:=au.one;have f25:q.get (c.next+25)=none:=I.free (by have:=u.le; simp only [dg] at this; omega) (u.free (show _<c.next+28 by omega) (w3.fresh (b:=c.next+25) zO));have f26:q.get (c.next+26)=none:=I.free (by have:=u.le; simp only [dg] at this; omega) (u.free (show _<c.next+28 by omega) (w3.fresh (b:=c.next+26) zO));have bh:c.next+28<=q.next:=B5 u.le I.le
   have aC:=A.mono (k23.trans y).sub;have aQ:RowV q v5 (Lin.prime (Lin.mx a (R.getD i []) (R.getD k []))):=by rw [gi,gk]; exact au
   have a6:(pre++(((cy a R (-1)).take m).filter (Lin.nearB D R i)).map fun k=>Lin.prime (Lin.mx a (R.getD i []) (R.getD k []))).length<=pre.length+R.length:=by
    rw [C5,rR];have h1:=Yf (Lin.nearB D R i) ((cy a R (-1)).take m);rw [L9] at h1;omega
   obtain ⟨n6,H6,e6,b6,k6,bi,f6,u6⟩:=Bl.push2 (ty2:=af) (bytes:=24) (id:=c.next+26) (id2:=c.next+25) (cs:=[v5]) (a:=Lin.prime (Lin.mx a (R.getD i []) (R.getD k []))) aC zU ay ⟨v5,rfl,aQ⟩ zO zO f26 zO zO f25 zO zO zO;have aI:dr (q.put (c.next+25) (.cells [v5] af true)) (c.next+26) 1 24 af O (.own (c.next+25) 0 1 1 1 true)=some (.own (c.next+26) 0 n6 n6 1 false,H6):=e6;refine zD (U5 l j V W M X xi aG aH K J al U ax S ah T aj @ap aI) ?_;refine ⟨k6,_,rfl,(g.mono (k23.trans y).sub).frm f6 aC,?_⟩;rw [av,XY,Xz,<- YA];simp only [YR,am,if_true,ZH,uz,B3];exact b6
 ·rintro T2 H2 l w s ⟨O,j,g,A⟩;simp only [uz,B3,Ae,and_true] at j;rw [KO] at A;exact hq T2 H2 O l j s g A
def PI (C:Code tab) {H0:Heap} {ub:Nat} {u:Lin.Under} {va:AV} {a:List Int} {eq:Bool} {d e f:Nat} (hk:Kp H0 H) (bn:H0.next<=ub) (hu:UnderV H0 H ub u) (ha:RowV H va a) (aP:0<d) (hd:d<=64) (ao:a.length=d) (hR:∀ r∈u.rays,r.length=d/\∀ z∈r,Bt f z) (hD:∀ r∈u.done,r.length=d/\∀ z∈r,Bt e z) (ab:u.done.length<=1024) (am:∀ z∈a,Bt e z) (hb:2*(e+f+7)+2*f+1<=8796093022208) (ap:u.rays.length<=1099000000000) (hcl:(Lin.cutL u.done a eq u.rays).length<=1099000000000) :
  Ans tab (.fn iY [.ptr ub 0,va,.bool eq]) H fun v H'=>v=.tup []/\Kp H0 H'/\UnderV H0 H' ub ⟨u.lines,Lin.cutL u.done a eq u.rays,u.done⟩/\∀ b e,H.get b=some e->b≠ub->H'.get b=some e:=by
 have hw:=hk.wf;obtain ⟨ql,qr,qd,cl,K,aF,F,ag,s1,s2,s3⟩:=hu;have bs:=hw _ _ K;obtain ⟨R,aN⟩:∃ R,R=u.rays:=⟨_,rfl⟩
 obtain ⟨D,aL⟩:∃ D,D=u.done:=⟨_,rfl⟩
 rw [<- aN] at hR F ap hcl ⊢;rw [<- aL] at hD ab ag hcl ⊢;refine Am C.q125 rfl rfl zU fun T hl g=>?_;have hl:T.length=135:=hl;have aY:c_P_cone_under_cut.results=[]:=rfl;have P:ad T 0=.ptr ub 0:=g 0 (by simp);have W:ad T 1=va:=g 1 (by simp);have X:ad T 2=.bool eq:=g 2 (by simp);refine aI ?_;simp -dsimp (maxSteps:=1000000) (disch:=(first | omega | assumption | exact ai _ | exact bo _ _ | exact bH | exact cY _ _ _ | exact b9 _ _ | exact bT _ _ _ _ _ _ | exact dm _ _ | exact cz _)) only [↓yM,yL,Nat.reduceLT,Nat.reduceEqDiff,Nat.reduceAdd,reduceIte,reduceCtorEq,Nat.reduceBEq,Int.reduceEq,Int.reduceLT,Int.reduceLE,Int.reduceAdd,Int.reduceSub,hl,P,W,X,↓NE,aw];refine aI ?_;refine zW (bB hl P W X @aw) ?_;refine aI ?_;refine zW (bB hl P W X @aw) ?_;have aM:R.length<1099511627776:=zO;refine dy (fun T' H'=>∃ vm vd es Ws,ad T' 7=vm/\ad T' 8=vd/\Kp H H'/\CutV H H' H.next a R D R.length vm vd es Ws) rfl ?_ ?_
 ·refine zW (fo hl P W X K F.sl.lenV @aZ) ?_;refine aq H [7,8] (fun k vs H'=>∃ vm vd es Ws,vs=[vm,vd]/\CutV H H' H.next a R D k vm vd es Ws) (a:=0) (N:=R.length) rfl (by refine zW hl ?_; rfl) (zV hl) (xq _) zO (by simp only [dz,hl]; rfl) rfl (fun k vs H' m ⟨vm,vd,es,Ws,h1,h2⟩=>⟨vm,vd,es,Ws,h1,h2.mono (Sub.bump H' m)⟩) zK ⟨.nilSl,.nilSl,[],[],by exact zV hl,Bl.nil,rfl,fun t h h'=>by simp at h',Bl.nil,by exact cC,(fun p hp=>by cases hp),(fun s=>Bl.nil),(fun s s' _ b hb=>by cases hb)⟩ ?_ ?_
  ·rintro k T1 H1 _ Z j aQ B aU ⟨vm,vd,es,Ws,w,hc⟩;simp only [uz,B3,Ae,and_true] at w;simp only [dz,hl] at j;refine MR C K F.sl ag.sl ha aP hd ao hR hD ab am zO aM aU Z j ((B.at_ 0 zU).trans (zV (aE hl P))) ((B.at_ 1 zU).trans (zV (aE hl W))) ((B.at_ 6 zU).trans (zV hl)) ((B.at_ 23 zU).trans (zV hl)) aQ w.1 w.2 (o0 _) hc ?_;intro T2 H2 bi bh aK aJ h1 h2 h3 h4 h5;refine zW (aD h1 h2 h3) ?_;exact ⟨h4,bi,bh,aK,aJ,rfl,h5⟩
  ·rintro T1 H1 j B aS ⟨vm,vd,es,Ws,w,hc⟩;simp only [uz,B3,Ae,and_true] at w;refine zW (aE j @aZ) ?_;exact ⟨vm,vd,es,Ws,w.1,w.2,aS,hc⟩
 rintro T1 H1 B ⟨vm,vd,es,Ws,v7,v8,k1,hc⟩;have w1:=k1.wf;have t0:ad T1 0=.ptr ub 0:=(B.at_ 0 zU).trans (zV (aE hl P));have t2:ad T1 2=.bool eq:=(B.at_ 2 zU).trans (zV (aE hl X));have t6:ad T1 6=.map H.next:=(B.at_ 6 zU).trans (zV hl)
 have j:T1.length=135:=B.len.trans (by simp only [dz]; exact hl);have ah:∀ (H':Heap),CutV H H' H.next a R D R.length vm vd es Ws->∀ z n,tX (H'.up n) .int .nilSl (.map H.next) (.int .i64 z) false=some (gT es z):=fun H' h z n=>Ff (by exact h.sd.get) h.sd.keys z
 have a7:=ah H1 hc 0;have a6:lenV (gT es 0)=some (.int .i64 ((cy a R 0).length:Int)):=by
  rw [(hc.sd.bl 0).sl.lenV,EJ,rR]
 have bk:=Bf a R 0;have bl:=Bf a R 1;refine WC.wb ?_;simp -dsimp (maxSteps:=1000000) (disch:=(first | omega | assumption | exact ai _ | exact bo _ _ | exact bH | exact cY _ _ _ | exact b9 _ _ | exact bT _ _ _ _ _ _ | exact dm _ _ | exact cz _)) only [↓yM,yL,Nat.reduceLT,Nat.reduceEqDiff,Nat.reduceAdd,reduceIte,reduceCtorEq,Nat.reduceBEq,Int.reduceEq,Int.reduceLT,Int.reduceLE,Int.reduceAdd,Int.reduceSub,j,t0,t6,↓oL,a7,a6];refine aq H [12] (fun m vs H'=>∃ y,vs=[y]/\CutV H H' H.next a R D R.length vm vd es Ws/\Bl rowsE af H H' y (((cy a R 0).take m).map (R.getD · []))) (a:=0) (N:=(cy a R 0).length) rfl (by refine zW j ?_; rfl) (zV j) (xq _) zO (by simp only [dz,j]; rfl) rfl (fun m vs H' n ⟨y,h1,h2,h3⟩=>⟨y,h1,h2.mono (Sub.bump H' n),h3.mono (Sub.bump H' n)⟩) zK ⟨.nilSl,by exact zV j,hc.mono (Sub.bump H1 _),Bl.nil⟩ ?_ ?_
 ·rintro m T2 H2 _ hm l aR I A ⟨y,w,U,o2⟩;have w2:=A.wf;have a4:=A.le;have bp:=A.le;simp only [uz,B3,Ae,and_true] at w;simp only [dz,j] at l;have u0:ad T2 0=.ptr ub 0:=(I.at_ 0 zU).trans (zV (aE j t0));have bg:ad T2 55=gT es 0:=(I.at_ 55 zU).trans (zV j);obtain ⟨Q,ae⟩:=Fm (show CR H H2 (gT es 0) ((cy a R 0).map fun i:Nat=>(i:Int)) from U.sd.bl 0) hm;obtain ⟨k,Z⟩:∃ k,k=(cy a R 0)[m]:=⟨_,rfl⟩
  rw [<- Z] at Q;have av:k<R.length:=by rw [Z]; exact Be (mQ hm)
  obtain ⟨vr,aa,ax⟩:=dH F.sl av;have xr:=SlV.idx1 F.sl .i64 k av;have a2:=A.get K;have aV:=bD A.sub ax;have bd:=aa.one;have gk:R.getD k []=R[k]:=by simp [av]
  have bj:(((cy a R 0).take m).map (R.getD · [])).length<=R.length:=by simp; omega
  obtain ⟨n6,O,e6,b6,k6,bb,f6,u6⟩:=Bl.push1 (ty2:=af) (bytes:=24) (id:=H2.next+12) (id2:=H2.next+11) (k:=14) (cs:=[vr]) (a:=R.getD k []) o2 zU A ⟨vr,rfl,by rw [gk]; exact aa.mono A.sub⟩ zO zO zO zO zO zO zO;have aj:dr ((H2.up 14).put (H2.next+11) (.cells [vr] af true)) (H2.next+12) 1 24 af y (.own (H2.next+11) 0 1 1 1 true)=some (.own (H2.next+12) 0 n6 n6 1 false,O):=e6;refine zW (ia l u0 bg aR ae Q w a2 xr aV aj) ?_;refine ⟨k6,_,rfl,U.frm f6 o2,?_⟩;rw [BU hm,Xz,<- Z];exact b6
 ·rintro T2 H2 l I A ⟨y,w,U,o2⟩;have w2:=A.wf;have a4:=A.le;simp only [uz,B3,Ae,and_true] at w;simp only [dz,j] at l;rw [KO] at o2;have u0:ad T2 0=.ptr ub 0:=(I.at_ 0 zU).trans (zV (aE j t0));have u2:ad T2 2=.bool eq:=(I.at_ 2 zU).trans (zV (aE j t2));have u6:ad T2 6=.map H.next:=(I.at_ 6 zU).trans (zV (aE j t6))
  have u7:ad T2 7=vm:=(I.at_ 7 zU).trans (zV (aE j v7));have u8:ad T2 8=vd:=(I.at_ 8 zU).trans (zV (aE j v8));have a8:=ah H2 U 1;have UE:lenV (gT es 1)=some (.int .i64 ((cy a R 1).length:Int)):=by
   rw [(hc.sd.bl 1).sl.lenV,EJ,rR]
  simp -dsimp (maxSteps:=1000000) (disch:=(first | omega | assumption | exact ai _ | exact bo _ _ | exact bH | exact cY _ _ _ | exact b9 _ _ | exact bT _ _ _ _ _ _ | exact dm _ _ | exact cz _)) only [↓yM,yL,Nat.reduceLT,Nat.reduceEqDiff,Nat.reduceAdd,reduceIte,reduceCtorEq,Nat.reduceBEq,Int.reduceEq,Int.reduceLT,Int.reduceLE,Int.reduceAdd,Int.reduceSub,l,u0,u6,↓oL,a8,UE];refine aq H [12] (fun m vs H'=>∃ y,vs=[y]/\CutV H H' H.next a R D R.length vm vd es Ws/\Bl rowsE af H H' y ((cy a R 0).map (R.getD · [])++((cy a R 1).take m).flatMap (C6 D a eq R))) (a:=0) (N:=(cy a R 1).length) rfl (by refine zW l ?_; rfl) (zV l) (xq _) zO (by simp only [dz,l]; rfl) rfl (fun m vs H' n ⟨y,h1,h2,h3⟩=>⟨y,h1,h2.mono (Sub.bump H' n),h3.mono (Sub.bump H' n)⟩) zK ⟨y,by exact zV (aE l w),U.mono (Sub.bump H2 _),by rw [List.take_zero,List.flatMap_nil,X5]; exact o2.mono (Sub.bump H2 _)⟩ ?_ ?_
  ·rintro m G o _ hm c aC J q ⟨S,M,V,E⟩;have w3:=q.wf;have a5:=q.le;have bq:=q.le;simp only [uz,B3,Ae,and_true] at M;simp only [dz,l] at c;have z0:ad G 0=.ptr ub 0:=(J.at_ 0 zU).trans (zV (aE l u0));have z2:ad G 2=.bool eq:=(J.at_ 2 zU).trans (zV (aE l u2));have z6:ad G 6=.map H.next:=(J.at_ 6 zU).trans (zV (aE l u6))
   have z7:ad G 7=vm:=(J.at_ 7 zU).trans (zV (aE l u7));have z8:ad G 8=vd:=(J.at_ 8 zU).trans (zV (aE l u8));have aH:ad G 73=gT es 1:=(J.at_ 73 zU).trans (zV l);obtain ⟨Q,ae⟩:=Fm (show CR H o (gT es 1) ((cy a R 1).map fun i:Nat=>(i:Int)) from V.sd.bl 1) hm;obtain ⟨i,ar⟩:∃ i,i=(cy a R 1)[m]:=⟨_,rfl⟩
   rw [<- ar] at Q;have Y:i<R.length:=by rw [ar]; exact Be (mQ hm)
   have gi:R.getD i []=R[i]:=by simp [Y]
   obtain ⟨pre,ay⟩:∃ pre,pre=(cy a R 0).map (R.getD · [])++((cy a R 1).take m).flatMap (C6 D a eq R):=⟨_,rfl⟩
   have bm:pre.length<=1099000000000:=by
    refine B5 ?_ hcl;have e:(cy a R 1).flatMap (C6 D a eq R)=((cy a R 1).take m).flatMap (C6 D a eq R)++((cy a R 1).drop m).flatMap (C6 D a eq R):=by rw [<- List.flatMap_append,List.take_append_drop]
    rw [KX,e,ay];simp only [C5];omega
   have a1:(cy a R 0).map (R.getD · [])++((cy a R 1).take (m+1)).flatMap (C6 D a eq R)=pre++C6 D a eq R i:=by
    rw [BU hm,List.flatMap_append,<- YA,<- ay,<- ar]
    simp
   rw [a1];rw [<- ay] at E;have ba:=ah o V (-1);have aG:lenV (gT es (-1))=some (.int .i64 ((cy a R (-1)).length:Int)):=by
    rw [(hc.sd.bl (-1)).sl.lenV,EJ,rR]
   cases heq:eq with
   | true =>
    rw [heq] at z2;simp -dsimp (maxSteps:=1000000) (disch:=(first | omega | assumption | exact ai _ | exact bo _ _ | exact bH | exact cY _ _ _ | exact b9 _ _ | exact bT _ _ _ _ _ _ | exact dm _ _ | exact cz _)) only [↓yM,yL,Nat.reduceLT,Nat.reduceEqDiff,Nat.reduceAdd,reduceIte,reduceCtorEq,Nat.reduceBEq,Int.reduceEq,Int.reduceLT,Int.reduceLE,Int.reduceAdd,Int.reduceSub,c,z0,z2,z6,aH,aC,ae,Q,M,↓oL,ba,aG];refine DP (va:=va) C K F.sl hd ao hR ab am hb ap (pre:=pre) zO (q.up _) Y (by simp only [dz]; exact c) (zV (aE c z0)) (zV (aE c z7)) (zV (aE c z8)) (zV c) (zV (aE c M)) (zV c) (zV c) (zV c) (V.mono (Sub.bump o _)) (E.mono (Sub.bump o _)) ?_;intro T4 H4 aB h1 h2 h3 h4 h5;refine zW (aE h1 h2) ?_;exact ⟨h3,aB,rfl,h4,by unfold C6; simpa using h5⟩
   | false =>
    rw [heq] at z2;obtain ⟨vr,aa,ax⟩:=dH F.sl Y;have xr:=SlV.idx1 F.sl .i64 i Y;have L:=q.get K;have aW:=bD q.sub ax;have bd:=aa.one;obtain ⟨n6,O,e6,b6,k6,bb,f6,bu⟩:=Bl.push1 (ty2:=af) (bytes:=24) (id:=o.next+14) (id2:=o.next+13) (k:=16) (cs:=[vr]) (a:=R.getD i []) E zU q ⟨vr,rfl,by rw [gi]; exact aa.mono q.sub⟩ zO zO zO zO zO zO zO;have aj:dr ((o.up 16).put (o.next+13) (.cells [vr] af true)) (o.next+14) 1 24 af S (.own (o.next+13) 0 1 1 1 true)=some (.own (o.next+14) 0 n6 n6 1 false,O):=e6;have c6:=V.frm f6 E;have a9:=ah O c6 (-1);have w6:=k6.wf;simp -dsimp (maxSteps:=1000000) (disch:=(first | omega | assumption | exact ai _ | exact bo _ _ | exact bH | exact cY _ _ _ | exact b9 _ _ | exact bT _ _ _ _ _ _ | exact dm _ _ | exact cz _)) only [↓yM,yL,Nat.reduceLT,Nat.reduceEqDiff,Nat.reduceAdd,reduceIte,reduceCtorEq,Nat.reduceBEq,Int.reduceEq,Int.reduceLT,Int.reduceLE,Int.reduceAdd,Int.reduceSub,c,z0,z2,z6,aH,aC,ae,Q,M,L,xr,aW,aj,↓oL,a9,aG];refine DP (va:=va) C K F.sl hd ao hR ab am hb ap (pre:=pre++[R.getD i []]) (by simp; omega) (k6.up _) Y (by simp only [dz]; exact c) (zV (aE c z0)) (zV (aE c z7)) (zV (aE c z8)) (zV c) (by refine zW c ?_; rfl) (zV c) (zV c) (zV c) (c6.mono (Sub.bump O _)) (b6.mono (Sub.bump O _)) ?_;intro T4 H4 aB h1 h2 h3 h4 h5;refine zW (aE h1 h2) ?_;exact ⟨h3,aB,rfl,h4,by unfold C6; simpa using h5⟩
  ·rintro G o c J q ⟨S,M,V,E⟩;have w3:=q.wf;have a5:=q.le;simp only [uz,B3,Ae,and_true] at M;simp only [dz,l] at c;rw [KO,<- KX] at E;have z0:ad G 0=.ptr ub 0:=(J.at_ 0 zU).trans (zV (aE l u0));have L:=q.get K;have bt:=w3 _ _ L;have a3:Kp H0 o:=hk.trans q;have br:=a3.le;have bf:=E.sl.one;have a0:CS (some (.cells [ql,qr,qd] aT true)) 1 1 S=some (.cells [ql,S,qd] aT true):=fR bf.fits (by simp);refine zW (dj c z0 M L aY a0) ?_;have aX:=hk.le;have bc:Wr H0 o S (Lin.cutL D a eq R) (Lin.cutL D a eq R).length:=E.wr.base aX;refine ⟨zK,⟨ql,S,qd,cl,al _ _ _,((aF.mono q.sub).mono (Sub.bump o 5)).putT L zU zU,(bc.mono (Sub.bump o 5)).putT L zU zU,((ag.mono q.sub).mono (Sub.bump o 5)).putT L zU zU,fun x hx hy=>?_,s2,fun x hx hy=>?_⟩,fun b e aO hne=>?_⟩
   ·have h1:=aF.old hw hx;have h2:=E.ge hy;omega
   ·have h1:=ag.old hw hy;have h2:=E.ge hx;omega
   ·rw [au hne]; exact q.get aO
end
def SlV.ro {α:Type} {E:fQ α} {ty:Nat} {H H':Heap} {v:AV} {l:List α} (j:∀ cs a,E.R H cs a->E.R H' cs a) (h:∀ b cs r,H.get b=some (.cells cs ty r)->∃ d,H'.get b=some (.cells cs ty d)) (hs:SlV E ty H v l):SlV E ty H' v l:=by
 obtain ⟨cells,⟨h0,h1,n,h2,h3⟩,g,hc⟩:=hs;refine ⟨cells,⟨h0,h1,n,h2,?_⟩,fun b off n c z x e=>?_,hc.1,fun i a hi=>j _ _ (hc.2 i a hi)⟩
 ·unfold aP at h3 ⊢;split at h3
  ·rename_i b off m c sz ex;obtain ⟨cs,r,hb⟩:=g _ _ _ _ _ _ rfl;obtain ⟨d,f⟩:=h _ _ _ hb;rw [hb] at h3;rw [f];exact h3
  ·exact h3
  ·exact h3
  ·exact h3
  ·cases h3
 ·obtain ⟨cs,r,hb⟩:=g b off n c z x e;obtain ⟨d,f⟩:=h _ _ _ hb;exact ⟨cs,d,f⟩
def RowV.ro {H H':Heap} {v:AV} {l:List Int} (h1:∀ b cs r,H.get b=some (.cells cs ae r)->∃ c,H'.get b=some (.cells cs ae c)) (h2:∀ b cs r,H.get b=some (.cells cs aa r)->∃ c,H'.get b=some (.cells cs aa c)) (h:RowV H v l):RowV H' v l :=
 SlV.ro (E:=intE) (fun cs a ⟨w,e,hn⟩=>⟨w,e,SlV.ro (E:=bU gg) (H:=H) (H':=H') (fun cs a ⟨v,e,d⟩=>⟨v,e,d⟩) h1 hn⟩) h2 h
def K3:∀ {x y:List Int},x.length=y.length->(FH x y<0 ↔ Lin.cmpV y x=false)
 | [],[],_=>by simp [FH,C7,Lin.cmpV]
 | a :: x,b :: y,h=>by
  have d:=K3 (x:=x) (y:=y) (by simpa using h);unfold FH at d ⊢;unfold C7 Lin.cmpV;by_cases h1:a=b
  ·subst h1;have e:gJ (a-a)=0:=by rw [iK]; omega
   simp only [e,Int.lt_irrefl,if_false,if_true,ne_eq,not_true_eq_false];exact d
  ·have e:gJ (a-b)≠0:=fun h=>h1 (by rw [iK] at h; omega);rcases Int.lt_or_gt_of_ne h1 with h2 | h2
   ·have c:gJ (a-b)<0:=by unfold gJ; split <;> (try split) <;> omega
    have f:¬ b<a:=zO;simp [e,c,f,Ne.symm h1]
   ·have c:¬ gJ (a-b)<0:=by unfold gJ; split <;> (try split) <;> omega
    simp [e,c,h2]
section
variable {tab:Nat->Option aA} {H:Heap} {s:AV}
def yG {f ty:Nat} {gs:List Nat} {fn:aA} (a:tab f=some fn) (he:fn.ext=some (.sortF ty gs)) {args:List AV} {v:AV} {H':Heap} {Q:AV->Heap->Prop} (h:∃ N,∀ m n,N<=m->N<=n->Dn (lU tab fd m n) ty gs H args=some (v,H')) (b:Q v H'):Ans tab (.fn f args) H Q:=by
 obtain ⟨N,h⟩:=h;refine ⟨v,H',⟨N+1,fun m n hm hn=>?_⟩,b⟩;obtain ⟨n',rfl⟩:∃ n',n=n'+1:=⟨n-1,zO⟩
 show jW tab fd (lU tab fd m n') m (.fn f args) H=_;simp only [jW,a,he];exact h m n' zO zO
def Cj {g:Nat} {caps:List AV} {D:Heap} {x:AV}:∀ (l:List AV) (c:Nat->Int),(∀ j (h:j<l.length),Ans tab (.fn g ([x,l[j]]++caps)) D fun v _=>v=.int .i64 (c j))->∃ N,∀ m n,N<=m->N<=n->r8 (lU tab fd m n) g caps D x l=some ((List.range l.length).map c)
 | [],c,_=>⟨0,fun _ _ _ _=>rfl⟩
 | y :: l,c,h=>by
  obtain ⟨N,d⟩:=Cj l (fun j=>c (j+1)) fun j hj=>h (j+1) (by simpa using hj);obtain ⟨v,e,⟨a,h0⟩,b⟩:=h 0 (by simp);simp only [List.getElem_cons_zero] at h0;subst b;refine ⟨N+a,fun m n hm hn=>?_⟩;simp only [r8,h0 m n zO zO,d m n zO zO];rw [Sb,List.range_succ_eq_map,uz,YV];rfl
def zt {g:Nat} {caps all:List AV} {D:Heap}:∀ (l:List AV) (c:Nat->Nat->Int),(∀ i (h:i<l.length) j (h':j<all.length),Ans tab (.fn g ([l[i],all[j]]++caps)) D fun v _=>v=.int .i64 (c i j)) ->
  ∃ N,∀ m n,N<=m->N<=n->tz (lU tab fd m n) g caps D all l=some ((List.range l.length).map fun i=>(List.range all.length).map (c i))
 | [],c,_=>⟨0,fun _ _ _ _=>rfl⟩
 | x :: l,c,h=>by
  obtain ⟨N,b⟩:=zt l (fun i=>c (i+1)) fun i hi j hj=>h (i+1) (by simpa using hi) j hj;obtain ⟨a,h0⟩:=Cj (tab:=tab) (g:=g) (caps:=caps) (D:=D) (x:=x) all (c 0) fun j hj=>h 0 (by simp) j hj;refine ⟨N+a,fun m n hm hn=>?_⟩;simp only [tz,h0 m n zO zO,b m n zO zO];rw [Sb,List.range_succ_eq_map,uz,YV];rfl
def Da {f g:Nat} {fn:aA} (G:tab f=some fn) (he:fn.ext=some (.sortF af [g])) {H0:Heap} (l:Kp H0 H) {v:AV} {R:List (List Int)} {d:Nat} (hb:Bl rowsE af H0 H v R) (hd:∀ r∈R,r.length=d) (hn:R.Nodup) (ad:R.length<1099511627776)
  (hc:∀ D a b,Wf D->∀ x∈R,∀ y∈R,RowV D a x->RowV D b y->Ans tab (.fn g [a,b]) D fun v _=>v=.int .i64 (FH x y)) :
  Ans tab (.fn f [v,.fn (.func g) [] []]) H fun v' H'=>v'=.tup []/\Kp H0 H'/\Bl rowsE af H0 H' v (R.mergeSort Lin.cmpV):=by
 rcases hb with ⟨rfl,rfl⟩ | ⟨b,cells,rfl,A,hcl,C⟩
 ·exact yG G he ⟨0,fun m n _ _=>rfl⟩ ⟨rfl,l,.inl ⟨rfl,by simp⟩⟩
 ·rcases YO R.length with h0 | h0
  ·have W:=XS.1 h0;subst W;exact yG G he ⟨0,fun m n _ _=>rfl⟩ ⟨rfl,l,.inr ⟨b,cells,by simp,A,by simpa using hcl,C⟩⟩
  ·have hlt:=l.wf _ _ A;have K:=l.wf;have z:cells.length=R.length:=by have:=hcl.1; simpa [bU] using this
   have X:=hcl.ones;obtain ⟨D,hD⟩:∃ D,D=(H.kill b).ro:=⟨_,rfl⟩
   have T:∀ c,c<H.next->c≠b->D.get c=Nk (H.get c):=fun c hc hne=>by
    rw [hD,Heap.get_ro,cM hne];exact if_pos (Eb hc (Nat.le_max_left _ _))
   have U:Wf D:=fun c e h=>by
    rw [hD,Heap.get_ro] at h;rw [hD];show c<H.next
    split at h
    ·by_cases F:c=b
     ·omega
     ·rw [cM F] at h;cases hg:H.get c with
      | none=>rw [hg] at h; cases h
      | some e'=>exact K _ _ hg
    ·by_cases F:c=b
     ·omega
     ·rw [cM F] at h;exact K _ _ h
   have Q:∀ ty,ty≠af->∀ c cs r,H.get c=some (.cells cs ty r)->∃ r',D.get c=some (.cells cs ty r'):=fun ty ab c cs r hc=>by
    refine ⟨false,?_⟩;rw [T c (K _ _ hc) (fun e=>by rw [e,A] at hc; cases hc; exact ab rfl),hc];rfl
   have S:∀ i (h:i<R.length),RowV D (cells[i]'zO) R[i]:=fun i h=>by
    obtain ⟨w,h1,h2⟩:=hcl.at1 h;have e:w=cells[i]'zO:=by
     unfold bf at h1
     simpa [z,h] using h1.symm
    rw [<- e];exact RowV.ro (Q _ zU) (Q _ zU) h2
   obtain ⟨N,V⟩:=zt (tab:=tab) (g:=g) (caps:=[]) (all:=cells) (D:=D) cells (fun i j=>FH (R.getD i []) (R.getD j [])) fun i hi j hj=>by
    have I:i<R.length:=zO;have J:j<R.length:=zO;have o:R.getD i []=R[i]:=by simp [I]
    have u:R.getD j []=R[j]:=by simp [J]
    rw [o,u];exact hc D _ _ U _ (mQ I) _ (mQ J) (S i I) (S j J)
   obtain ⟨M,L⟩:∃ M,M=(List.range cells.length).map fun i=>(List.range cells.length).map fun j=>FH (R.getD i []) (R.getD j []):=⟨_,rfl⟩
   have q:∀ i j (hi:i<R.length) (hj:j<R.length),Nl M i j = !Lin.cmpV R[j] R[i]:=fun i j hi hj=>by
    have o:(M.getD i []).getD j 0=FH R[i] R[j]:=by
     rw [L];simp [z,hi,hj]
    unfold Nl;rw [o,XQ,decide_eq_true_eq,XE];exact K3 ((hd _ (mQ hi)).trans (hd _ (mQ hj)).symm)
   have Y:R4 M R.length:=by
    refine ⟨fun i hi=>?_,fun i hi j hj=>?_,fun i hi j hj k l h1 h2=>?_⟩
    ·rw [q i i hi hi,Lin.cmpV_refl]; rfl
    ·by_cases P:i=j
     ·exact .inl P
     ·right
      rw [q i j hi hj,q j i hj hi];have B:=Lin.cmpV_total R[i] R[j];have ha:=Lin.cmpV_antisymm R[i] R[j];have hne:R[i]≠R[j]:=fun e=>P ((List.getElem_inj hn).1 e);cases h1:Lin.cmpV R[i] R[j] <;> cases h2:Lin.cmpV R[j] R[i]
      ·rw [h1,h2] at B; cases B
      ·rfl
      ·rfl
      ·exact absurd (ha h1 h2) hne
    ·rw [q i j hi hj] at h1;rw [q j k hj l] at h2;rw [q i k hi l];rw [XE] at h1 h2 ⊢;cases h3:Lin.cmpV R[k] R[i] with
     | false=>rfl
     | true =>
      have B:=Lin.cmpV_total R[i] R[j];rw [h1,Bool.or_false] at B
      have:=Lin.cmpV_trans _ _ _ h3 B
      rw [this] at h2; cases h2
   have aa:(lv M R.length).map (fun i=>R.getD i.val [])=R.mergeSort Lin.cmpV:=by
    unfold lv;rw [List.map_mergeSort (s:=Lin.cmpV) (fun i _ j _=>by
     have o:R.getD i.val []=R[i.val]:=by simp
     have u:R.getD j.val []=R[j.val]:=by simp
     rw [o,u,q _ _ j.isLt i.isLt,Bool.not_not])]
    congr 1
    apply YE
    ·simp
    ·intro i h1 h2;simp [h2]
   have ae:(lv M R.length).length=R.length:=by unfold lv; rw [List.length_mergeSort,List.length_finRange]
   refine yG (v:=.tup []) (H':=H.put b (.cells ((lv M R.length).map fun i=>cells.getD i.val .undef) af true)) G he ⟨N,fun m n hm hn=>?_⟩ ⟨rfl,l.put C hlt,.inr ⟨b,(lv M R.length).map fun i=>cells.getD i.val .undef,?_,al _ _ _,?_,C⟩⟩
   ·have O:=V m n hm hn;rw [<- L] at O;show Dn _ _ _ H [.own b 0 R.length R.length 1 false,.fn (.func g) [] []]=_;simp only [Dn,A];rw [if_neg zO,if_pos ⟨trivial,trivial,trivial,z,h0,zO,by simp,X⟩,<- hD,O];simp only;rw [if_pos Y]
   ·rw [List.length_mergeSort]
   ·rw [<- aa];refine ⟨by simp [bU],fun i a hi=>?_⟩;rw [XA,wI] at hi;obtain ⟨p,hp,rfl⟩:=hi;obtain ⟨hi,Z⟩:=B4.1 hp;have o:((((lv M R.length).map fun i=>cells.getD i.val .undef).drop (i*1)).take 1)=[cells.getD p.val .undef]:=by
     apply Yk
     intro t;cases t with
     | zero=>simp [hi,Z]
     | succ t=>simp; omega
    refine ⟨cells.getD p.val .undef,o,?_⟩;have u:R.getD p.val []=R[p.val]:=by simp
    have e3:cells.getD p.val .undef=cells[p.val]'(by have:=p.isLt; omega):=by have:=p.isLt; simp [z]
    rw [u,e3];obtain ⟨w,h1,h2⟩:=hcl.at1 p.isLt;have e:w=cells[p.val]'(by have:=p.isLt; omega):=by
     unfold bf at h1
     have:=p.isLt
     simpa [z,this] using h1.symm
    rw [<- e];exact SlV.monoT (E:=intE) (SubT.puts (SubT.refl _ _) (NoTy.ty A zU)) h2
end
def Frm.wr {H0 H H':Heap} {v w:AV} {l m:List (List Int)} {c:Nat} (d:Frm v H H') (h:Bl rowsE af H0 H v l) (a:Wr H0 H w m c) (hs:Sep v w):Wr H0 H' w m c:=by
 rcases a with a | ⟨b,cells,h1,h2,h3,h4,h5,h6⟩
 ·exact .inl a
 ·exact .inr ⟨b,cells,h1,d b _ h2 (fun e=>hs b e (by rw [h1]; rfl)),h3,h4,h5.mono (d.subT h zU),h6⟩
def Jm {α:Type} (p:α->Bool) (l:List α):(nI p l<0/\l.findIdx? p=none)\/∃ i:Nat,nI p l=(i:Int)/\l.findIdx? p=some i:=by
 unfold nI;cases h:l.findIdx? p with
 | none=>exact .inl ⟨by simp,rfl⟩
 | some i=>exact .inr ⟨i,rfl,rfl⟩
section
variable {tab:Nat->Option aA} {H:Heap} {s:AV}
def Hr (C:Code tab) (p:Wf H) {w va:AV} {r a:List Int} {bx e f:Nat} (hr:RowV H w r) (hb:H.get bx=some (.cells [va] af true)) (ha:RowV H va a) (i:a.length=r.length) (d:a.length<=64) (g:∀ z∈a,Bt e z) (j:∀ z∈r,Bt f z) (h:e+f+7<=8796093022208) :
  Ans tab (.fn gB [w,.ptr bx 0]) H fun v H'=>v=.bool (!decide (Lin.dot a r=0))/\Kp H H':=by
 refine bA C.q124 zU fun T hl b c=>?_;refine zW (aO hl b c hb) ?_;refine AnsH.use (wQ C zF (ha.mono (zG H)) (hr.mono (zG H)) i d g j h) ?_;rintro v H2 ⟨n,l⟩;obtain ⟨k2,_,s⟩:=zT H zK l;refine zW (aD hl b c) ?_;refine AnsH.eq (yy C (z:=Lin.dot a r) zF (n.mono (zG H2)) ((nf g j i d).sm h)) fun k m=>?_;have o:Kp H k:=Kp.trans k2 (Kp.trans zK m);have q:=o.le;refine zW (aD hl b c) ?_;refine ⟨?_,zK⟩;congr 1;rw [XQ];simp [iK]
def Ht (C:Code tab) {H0:Heap} {ub:Nat} {u:Lin.Under} {va:AV} {a:List Int} {eq:Bool} {d e f:Nat} (G:Kp H0 H) (ar:H0.next<=ub) (hu:UnderV H0 H ub u) (ha:RowV H0 va a) (aH:0<d) (hd:d<=64) (U:a.length=d) (hL:∀ r∈u.lines,r.length=d/\∀ z∈r,Bt f z) (hR:∀ r∈u.rays,r.length=d/\∀ z∈r,Bt f z) (hD:∀ r∈u.done,r.length=d/\∀ z∈r,Bt e z) (aB:u.done.length<=1024) (S:∀ z∈a,Bt e z) (hb:2*(e+f+7)+2*f+1<=8796093022208) (aX:u.lines.length<=1048576) (aC:u.rays.length<=1099000000000) (ag:(Lin.addU a eq u).rays.length<=1099000000000) :
  Ans tab (.fn da [.ptr ub 0,va,.bool eq]) H fun v H'=>v=.tup []/\Kp H0 H'/\UnderV H0 H' ub (Lin.addU a eq u):=by
 have hw:=G.wf;have aY:=G.le;have oa:=ha.one;have R:=ha.mono G.sub;have aO:=hu;obtain ⟨ql,qr,qd,cl,ab,aN,ah,a0,s1,s2,s3⟩:=hu;have a5:=hw _ _ ab;refine Am C.q107 rfl rfl zU fun T hl g=>?_;have hl:T.length=48:=hl;have aj:c_P_cone_under_add.results=[]:=rfl;have o:ad T 0=.ptr ub 0:=g 0 (by simp);have s:ad T 1=va:=g 1 (by simp);have p:ad T 2=.bool eq:=g 2 (by simp);refine aI ?_;refine zW (bB hl o s p @aw) ?_;refine aI ?_;refine zW (dj hl o s p @aw ab) ?_;refine AnsH.eq (sI C (l:=u.lines) zF (aN.sl.mono (zG H)) zO (fun r=>!decide (Lin.dot a r=0)) (fun r hr H' w W aP=>Hr C W.wf aP (W.get (cC)) (R.mono (Kp.sub (H:=H) (Kp.trans zK W))) (by rw [U]; exact (hL r hr).1.symm) zO S (hL r hr).2 zO)) fun H2 X=>?_;obtain ⟨k2,_,w2⟩:=zT H zK X;have F:H2.get H.next=some (.cells [va] af true):=X.get (cC)
 have av:=k2.get ab;have n2:H.next+8<=H2.next:=X.le
 have ay:Kp H0 H2:=G.trans k2;have a4:=ay.le;have aq:UnderV H0 H2 ub u:=aO.mono k2.sub;refine zW (bB hl o s p @aw) ?_;refine dy (fun T' H'=>Kp H0 H'/\UnderV H0 H' ub ⟨(Lin.addU a eq u).lines,(Lin.addU a eq u).rays,u.done⟩/\H'.get H.next=some (.cells [va] af true)) rfl ?_ ?_
 ·rcases Jm (fun r=>!decide (Lin.dot a r=0)) u.lines with ⟨aJ,B⟩ | ⟨i,hi,B⟩
  ·have hcl:(Lin.cutL u.done a eq u.rays).length<=1099000000000:=by
    have e:Lin.addU a eq u=⟨u.lines,Lin.cutL u.done a eq u.rays,u.done++if eq then [] else [a]⟩:=by unfold Lin.addU; rw [B]
    rw [e] at ag;exact ag
   refine zW (dj hl o s p aJ F) ?_;refine AnsH.use (PI C (u:=u) (H0:=H0) zK ar (aq.mono (Sub.bump H2 _)) (R.mono (zG H)) aH hd U hR hD aB S hb aC hcl) ?_;rintro v c ⟨rfl,I,K,Z⟩;refine zW (aE hl @aZ) ?_;refine ⟨zK,?_,Z _ _ F zO⟩;have e:Lin.addU a eq u=⟨u.lines,Lin.cutL u.done a eq u.rays,u.done++if eq then [] else [a]⟩:=by unfold Lin.addU; rw [B]
   rw [e];exact K
  ·obtain ⟨ae,-,-⟩:=XB.1 B;have aK:¬ ((i:Int)<0):=zO;have gi:u.lines.getD i []=u.lines[i]:=by simp [ae]
   refine zW (fo hl o s p hi aK F) ?_;refine AnsH.use (MY C (u:=u) (H0:=H0) (ay.up _) ar (aq.mono (Sub.bump H2 _)) (R.mono (Kp.sub (k2.up _))) ae hd U hL hR S hb zO zO) ?_;rintro v c ⟨I,am,K,Z,aM⟩;have w3:=I.wf;have a3:=I.le;have a6:=am.one;have V:c.get H.next=some (.cells [va] af true):=Z _ _ F zO fun q1 q2 q3 h=>by
    have h':H2.get ub=some (.cells [q1,q2,q3] aT true):=h;rw [av] at h';cases h';intro hq
    have:=ah.old hw hq
    omega
   have e:Lin.addU a eq u=⟨(u.lines.eraseIdx i).map (Lin.foldV a (Lin.upV a u.lines[i])),u.rays.map (Lin.foldV a (Lin.upV a u.lines[i]))++(if eq then [] else [Lin.upV a u.lines[i]]),u.done++if eq then [] else [a]⟩:=by
    unfold Lin.addU; rw [B]; simp only [gi]
   rw [e];cases eq with
   | true =>
    refine zW (bB hl o s p @aZ) ?_;refine ⟨zK,?_,V⟩
    try simp only [if_true,X5]
    exact K.mono (Sub.bump c 2)
   | false =>
    obtain ⟨L,aL⟩:=aM ql qr qd av;obtain ⟨y,A,M,P,q,D,n,t,t1,N,t3⟩:=K;have ax:c.get ub=some (.cells [y,A,M] aT true):=q;rw [aL] at ax;cases ax;have aQ:=w3 _ _ q;have a2:=w3 _ _ V;have n:Wr H0 c qr (u.rays.map (Lin.foldV a (Lin.upV a u.lines[i]))) (u.rays.map (Lin.foldV a (Lin.upV a u.lines[i]))).length:=n;have a1:(u.rays.map (Lin.foldV a (Lin.upV a u.lines[i]))).length=u.rays.length:=by simp
    obtain ⟨b,O,e6,b6,E,aS,f6,u6⟩:=Bl.push1 (ty2:=af) (bytes:=24) (id:=c.next+9) (id2:=c.next+8) (k:=13) (cs:=[v]) (a:=Lin.upV a u.lines[i]) n.bl zU I ⟨v,rfl,am⟩ zO zO zO zO zO zO zO;have Q:dr ((c.up 13).put (c.next+8) (.cells [v] af true)) (c.next+9) 1 24 af qr (.own (c.next+8) 0 1 1 1 true)=some (.own (c.next+9) 0 b b 1 false,O):=e6;have m:=f6.other n.bl q (fun cs h=>by injection h with _ h2; exact absurd h2 zU);have aR:=E.wf _ _ m;have w6:=E.wf;have aa:CS (some (.cells [L,qr,qd] aT true)) 1 1 (.own (c.next+9) 0 b b 1 false)=some (.cells [L,.own (c.next+9) 0 b b 1 false,qd] aT true):=fR (bT _ _ _ _ _ _).fits (by simp);refine zW (jU hl o s p q Q m aa @aZ) ?_;refine ⟨zK,⟨L,.own (c.next+9) 0 b b 1 false,qd,P,al _ _ _,(f6.wr n.bl D t1.symm).putT m zU zU,?_,(f6.wr n.bl t t3).putT m zU zU,fun x hx hy=>?_,N,fun x hx hy=>?_⟩,?_⟩
    ·simp only [XC,if_false];exact b6.wr.putT (e:=.cells [L,.own (c.next+9) 0 b b 1 false,qd] aT true) m zU zU
    ·cases hy
     have:=D.old w3 hx
     omega
    ·cases hx
     have:=t.old w3 hy
     omega
    ·try rw [au zO]
     refine f6 _ _ V fun h=>?_
     have:=ah.old hw h
     omega
 ·rintro T1 j J ⟨k1,ao,aG⟩;have w1:=k1.wf;have t0:ad T1 0=.ptr ub 0:=(J.at_ 0 zU).trans (zV (aE hl o));have N:ad T1 2=.bool eq:=(J.at_ 2 zU).trans (zV (aE hl p));have t4:ad T1 4=.ptr H.next 0:=(J.at_ 4 zU).trans (zV hl)
  have Y:T1.length=48:=J.len.trans (by simp only [dz]; exact hl);have e:Lin.addU a eq u=⟨(Lin.addU a eq u).lines,(Lin.addU a eq u).rays,u.done++if eq then [] else [a]⟩:=by
   unfold Lin.addU; split <;> rfl
  rw [e];refine WC.wb ?_;cases eq with
  | true =>
   refine zW (aD Y N aj) ?_;refine ⟨zK,?_⟩
   try simp only [if_true,X5]
   exact ao.mono (Sub.bump j 2)
  | false =>
   obtain ⟨y,A,M,P,q,D,n,t,aU,aV,aW⟩:=ao;have aQ:=w1 _ _ q;obtain ⟨b,O,e6,b6,E,aS,f6,u6⟩:=Bl.push1 (ty2:=af) (bytes:=24) (id:=j.next+9) (id2:=j.next+8) (k:=13) (cs:=[va]) (a:=a) t.bl zU k1 ⟨va,rfl,ha.mono k1.sub⟩ zO zO zO zO zO (by simp only; omega) (by simp only; omega);have Q:dr ((j.up 13).put (j.next+8) (.cells [va] af true)) (j.next+9) 1 24 af M (.own (j.next+8) 0 1 1 1 true)=some (.own (j.next+9) 0 b b 1 false,O):=e6;have m:=f6.other t.bl q (fun cs h=>by injection h with _ h2; exact absurd h2 zU);have aR:=E.wf _ _ m;have w6:=E.wf;refine zW (aE Y N) ?_;refine aF ?_;have aa:CS (some (.cells [y,A,M] aT true)) 1 2 (.own (j.next+9) 0 b b 1 false)=some (.cells [y,A,.own (j.next+9) 0 b b 1 false] aT true):=fR (bT _ _ _ _ _ _).fits (o0 3);refine zD (oK Y t0 t4 q aG Q m aa @ap aj) ?_;refine ⟨zK,⟨y,A,.own (j.next+9) 0 b b 1 false,P,al _ _ _,(f6.wr t.bl D aV.symm).putT m zU zU,(f6.wr t.bl n aW.symm).putT m zU zU,?_,aU,fun x hx hy=>?_,fun x hx hy=>?_⟩⟩
   ·simp only [XC,if_false];exact b6.wr.putT (e:=.cells [y,A,.own (j.next+9) 0 b b 1 false] aT true) m zU zU
   ·cases hy
    have:=D.old w1 hx
    omega
   ·cases hy
    have:=n.old w1 hx
    omega
def PJ (C:Code tab) (X:Wf H) {d:Nat} (hd:d<=64):Ans tab (.fn uV [.int .i64 (d:Int)]) H fun v H'=>Bl rowsE af H H' v (Lin.startU d).lines/\Kp H H':=by
 refine cT C.q106 zU fun T hl q=>?_;refine zW (aE hl q) ?_;refine aq H [2] (fun j vs H'=>∃ o,vs=[o]/\Bl rowsE af H H' o ((List.range j).map (Lin.unitV d))) (a:=0) (N:=d) rfl (by refine zW (aE hl q) ?_; rfl) (zV (aE hl q)) (xq _) zO (by simp only [dz,hl]; rfl) rfl (fun j vs H' m ⟨o,h1,h2⟩=>⟨o,h1,h2.mono (Sub.bump H' m)⟩) zK ⟨.nilSl,by exact zV (aE hl q),Bl.nil⟩ ?_ ?_
 ·rintro j T1 f _ hj l O F h ⟨o,s,x⟩;have w1:=h.wf;have S:=h.le;have Y:=h.le;simp only [uz,B3,Ae,and_true] at s;have t0:ad T1 0=.int .i64 (d:Int):=(F.at_ 0 zU).trans (zV (aE hl q));simp only [dz,hl] at l;obtain ⟨cells,u⟩:∃ cells,cells=(List.replicate d [AV.bool false,AV.nilSl]).flatten:=⟨_,rfl⟩
  have P:∀ H':Heap,Ja H' (f.next+3) aa 2 32 [.bool false,.nilSl] (.int .i64 (d:Int)) (.int .i64 (d:Int))=some (.own (f.next+3) 0 d d 2 true,H'.put (f.next+3) (.cells cells aa true)):=fun H'=>by rw [u]; exact iS _ _ _ _ _ _ _ _ _ zO zO rfl
  refine zW (aO l t0 O P) ?_;refine AnsH.use (jk C (n:=1) zF zO zO) ?_;rintro v H2 ⟨⟨w,rfl,hn⟩,B⟩;obtain ⟨k2,_,V⟩:=zT f zK B;have U:=hn.one;have t:=B.get (b:=f.next+3) (e:=.cells cells aa true) (cC);have Z:=V _ _ t;have W:cells.length=d*2:=by rw [u]; simp
  have y:CS (some (.cells cells aa true)) 2 (0+j*2) (.agg [.bool false,w])=some (.cells (cells.take (0+j*2)++[.bool false,w]++cells.drop (0+j*2+2)) aa true):=fR (zg (ai _) U) zO;have A:cS 2 (.own (f.next+3) 0 d d 2 true) (.int .i64 (j:Int))=some (.ptr (f.next+3) (0+j*2)):=jB hj;rw [RO] at y A;obtain ⟨p,z⟩:∃ c,c=cells.take (j*2)++[.bool false,w]++cells.drop (j*2+2):=⟨_,rfl⟩
  rw [<- z] at y;have hz:intE.R H2 [.bool false,.nilSl] 0:=⟨.nilSl,by simp,eO H2⟩
  have hcl:Cells intE H2 cells (List.replicate d 0):=by rw [u]; exact mm hz _
  have L:Cells intE H2 p ((List.replicate d 0).set j 1):=by rw [z]; exact hcl.set (i:=j) (by simpa using hj) ⟨w,rfl,hn⟩
  have m3:NoTy [ae] H2 (f.next+3):=NoTy.ty t zU;obtain ⟨g,r⟩:∃ g,g=H2.put (f.next+3) (.cells p aa true):=⟨_,rfl⟩
  have G:Kp f g:=by rw [r]; exact zK
  have Q:Kp H g:=h.trans G;have nx:g.next=H2.next:=by rw [r]; rfl
  have M:Cells intE g p ((List.replicate d 0).set j 1):=by rw [r]; exact Cells.mono (E:=intE) zS L
  have D:RowV g (.own (f.next+3) 0 d d 2 true) (Lin.unitV d j):=by
   have:Own intE aa f g (f.next+3) true (.own (f.next+3) 0 d d 2 true) ((List.replicate d 0).set j 1):=⟨p,by simp [intE],by rw [r]; exact al _ _ _,M,zO⟩
   exact this.sl
  have ag:=D.one;obtain ⟨I,J,e6,b6,R,ab,f6,u6⟩:=Bl.push1 (ty2:=af) (bytes:=24) (id:=g.next+3) (id2:=g.next+2) (k:=5) (cs:=[.own (f.next+3) 0 d d 2 true]) (a:=Lin.unitV d j) (x.mono G.sub) zU Q ⟨_,rfl,D⟩ zO zO zO zO zO (by simp; omega) (by simp; omega);have K:dr ((((H2.up 5).put (f.next+3) (.cells p aa true))).put (H2.next+2) (.cells [.own (f.next+3) 0 d d 2 true] af true)) (H2.next+3) 1 24 af o (.own (H2.next+2) 0 1 1 1 true)=some (.own (H2.next+3) 0 I I 1 false,J):=by rw [r] at e6; exact e6
  rw [nx] at b6;refine zW (dj l A t y s K) ?_;refine ⟨R,_,rfl,?_⟩;rw [List.range_succ,Xz];exact b6
 ·rintro T1 f l F h ⟨o,s,x⟩;have w1:=h.wf;have S:=h.le;simp only [uz,B3,Ae,and_true] at s;simp only [dz,hl] at l;refine zW (aE l s) ?_;exact ⟨x,h⟩
abbrev VU (H:Heap) (v:AV) (Ls:List (List (List Int))):Prop:=AD (tT rowsE af) EF H v Ls
def MX (C:Code tab) (D:Wf H) {Ls:List (List (List Int))} {d:Nat} (hs:VU H s Ls) (B:Ls.length<1099511627776) (hd:∀ L∈Ls,∀ r∈L,r.length=d):Ans tab (.fn rN [s]) H fun v H'=>v=.int .i64 (if Ls.any (fun L=>!L.isEmpty) then (d:Int) else -1)/\Kp H H':=by
 refine cT C.q105 zU fun T hl c=>?_;refine zW (aD hl c hs.lenV) ?_;refine aq H [] (fun j _ _=>∀ k (h:k<Ls.length),k<j->Ls[k]=[]) (a:=0) (N:=Ls.length) rfl (by refine zW (aE hl c) ?_; rfl) (zV (aE hl c)) (xq _) zO (by simp only [dz,hl]; rfl) rfl (fun _ _ _ _ h=>h) zK (fun k _ h=>by omega) ?_ ?_
 ·intro j T1 m _ hj b n q f g;have w1:=f.wf;have E:=f.le;have t5:ad T1 5=s:=(q.at_ 5 zU).trans (zV (aE hl c));obtain ⟨w,hr,p⟩:=SlV.at1 (hs.mono f.sub) (eA hj);have hr:pb m w Ls[j]:=hr;have o:=SlV.idx1 hs .i64 j hj;simp only [dz,hl] at b;rcases YO (Ls[j]).length with h0 | h0
  ·have he:=XS.1 h0;have x:lenV w=some (.int .i64 0):=by rw [hr.lenV,h0]; rfl
   refine zW (dj b t5 n o p x) ?_;refine ⟨zK,fun k h i=>?_⟩;by_cases e:k=j
   ·subst e; exact he
   ·exact g k h zO
  ·obtain ⟨w0,z,u⟩:=dH hr h0;have t:cS 1 w (.int .i64 0)=some (aB w 0):=SlV.idx1 hr .i64 0 h0;have A:lenV w0=some (.int .i64 (d:Int)):=by rw [z.lenV,hd _ (mQ hj) _ (mQ h0)]
   have y:(0:Int)<((Ls[j]).length:Int):=zO;refine zW (ia b t5 n o p hr.lenV y h0 t u A) ?_;refine ⟨?_,zK⟩;rw [if_pos];rw [OL];exact ⟨_,mQ hj,by cases h:Ls[j] with | nil=>rw [h] at h0; simp at h0 | cons a l=>rfl⟩
 ·intro T1 m b q f g;simp only [dz,hl] at b;refine zW b ?_;refine ⟨?_,zK⟩;rw [if_neg];rw [Bool.not_eq_true,XW];intro L hL;obtain ⟨k,i,rfl⟩:=U0 hL;rw [g k i i]; simp
def gX (A B:List (List (Bool × List Nat))):Int :=
 if cL A≠0 then cL A else if cL B≠0 then cL B else if A≠[]/\B≠[]/\(A.getD 0 []).length≠(B.getD 0 []).length then 70 else 0
def FF (C:Code tab) (Y:Wf H) {va c:AV} {A B:List (List (Bool × List Nat))} (ha:P4 H va A) (hb:P4 H c B) (hA:A.length<1099511627776) (W:B.length<1099511627776) (J:∀ r∈A,nr r) (bb:∀ r∈B,nr r) :
  Ans tab (.fn mS [va,c]) H fun v H'=>v=.int .i64 (gX A B)/\Kp H H':=by
 have oa:=ha.one;have ob:=hb.one;refine Am C.q104 rfl rfl zU fun T hl g=>?_;have hl:T.length=39:=hl;have d:c_cone_checked.results=[(4,none)]:=rfl;have j:ad T 0=va:=g 0 (by simp);have l:ad T 1=c:=g 1 (by simp);refine aI ?_;refine zW (aO hl j l @aw) ?_;refine dy (fun T' H'=>cL A=0/\cL B=0/\Kp H H') rfl ?_ ?_
 ·refine zW (aD hl j l) ?_;refine cu H [11] (fun k vs H'=>∃ i:Nat,vs=[.int .i64 (i:Int)]/\i+k=2/\(1<=i->cL A=0)/\(2<=i->cL B=0)) 2 (by simp only [dz]; exact hl) rfl zK ⟨0,by refine zW hl ?_; rfl,rfl,zO,zO⟩ ?_;rintro k T1 I b f w ⟨i,a,X,u,P⟩;have w1:=w.wf;have Z:=w.le;simp only [uz,B3,Ae,and_true] at a;have q:ad T1 10=.agg [va,c]:=(f.at_ 10 zU).trans (zV (aD hl j l))
  have:i=0\/i=1\/i=2:=zO
  rcases this with rfl | rfl | rfl
  ·have a:ad T1 11=.int .i64 0:=a;refine zW (aD b a q) ?_;refine AnsH.eq (uI C zF (ha.mono (zG H)) zO J) fun H2 o=>?_;obtain ⟨k2,_,V⟩:=zT H zK o;by_cases h:cL A=0
   ·refine zW (aD b a h) ?_;exact ⟨zK,1,zO,1,rfl,rfl,(by first | exact fun _=>h | exact fun _=>trivial),zO⟩
   ·refine zW (bB b a h @wP d) ?_;exact ⟨by unfold gX; rw [if_pos h],zK⟩
  ·have a:ad T1 11=.int .i64 1:=a;refine zW (aD b a q) ?_;refine AnsH.eq (uI C zF (hb.mono (zG H)) zO bb) fun H2 o=>?_;obtain ⟨k2,_,V⟩:=zT H zK o;have hA0:=u zO;by_cases h:cL B=0
   ·refine zW (aD b a h) ?_;exact ⟨zK,0,zO,2,rfl,rfl,(by first | exact fun _=>hA0 | exact fun _=>trivial),(by first | exact fun _=>h | exact fun _=>trivial)⟩
   ·refine zW (bB b a h @wP d) ?_;refine ⟨?_,zK⟩;unfold gX;rw [if_neg (by simpa using hA0),if_pos h]
  ·have a:ad T1 11=.int .i64 2:=a;refine zW (aO b a q @aZ) ?_;exact ⟨u zO,P zO,zK⟩
 ·rintro T1 I f ⟨K,L,k1⟩;have w1:=k1.wf;have t0:ad T1 0=va:=(f.at_ 0 zU).trans (zV (aE hl j));have t1:ad T1 1=c:=(f.at_ 1 zU).trans (zV (aE hl l));have b:T1.length=39:=f.len.trans (by simp only [dz]; exact hl);have m:gX A B=if A≠[]/\B≠[]/\(A.getD 0 []).length≠(B.getD 0 []).length then 70 else 0:=by
   unfold gX;rw [if_neg (by simpa using K),if_neg (by simpa using L)]
  refine WC.wb ?_;refine zW (aD b t0 t1) ?_;rcases YO A.length with a0 | a0
  ·have Q:lenV va=some (.int .i64 0):=by rw [ha.lenV,a0]; rfl
   have hA0:=XS.1 a0;refine aF ?_;refine zD (dj b t0 t1 Q d @ap) ?_;exact ⟨by rw [m,if_neg (fun h=>h.1 hA0)],zK⟩
  ·have p:(0:Int)<(A.length:Int):=zO;have M:A≠[]:=fun e=>by rw [e] at a0; simp at a0
   rcases YO B.length with b0 | b0
   ·have R:lenV c=some (.int .i64 0):=by rw [hb.lenV,b0]; rfl
    have N:=XS.1 b0;refine aF ?_;refine zD (jU b t0 t1 ha.lenV p a0 R d @ap) ?_;exact ⟨by rw [m,if_neg (fun h=>h.2.1 N)],zK⟩
   ·have E:(0:Int)<(B.length:Int):=zO;have O:B≠[]:=fun e=>by rw [e] at b0; simp at b0
    obtain ⟨wa,S,x⟩:=Bu (ha.mono k1.sub) a0;obtain ⟨wb,U,y⟩:=Bu (hb.mono k1.sub) b0;have F:cS 1 va (.int .i64 0)=some (aB va 0):=SlV.idx1 ha .i64 0 a0;have G:cS 1 c (.int .i64 0)=some (aB c 0):=SlV.idx1 hb .i64 0 b0;have z:=S.lenV;have D:=U.lenV;have s:A.getD 0 []=A[0]:=by simp [a0]
    have t:B.getD 0 []=B[0]:=by simp [b0]
    by_cases he:A[0].length=B[0].length
    ·have n:((A[0].length:Nat):Int)=((B[0].length:Nat):Int):=zO;refine aF ?_;refine zD (Qj b t0 t1 ha.lenV hb.lenV p a0 E @b0 F G x y z D n he d @ap) ?_;exact ⟨by rw [m,s,t,if_neg (fun h=>h.2.2 he)],zK⟩
    ·have n:¬ ((A[0].length:Nat):Int)=((B[0].length:Nat):Int):=zO;refine aF ?_;refine zD (Qj b t0 t1 ha.lenV hb.lenV p a0 E @b0 F G x y z D n he d @ap) ?_;exact ⟨by rw [m,s,t,if_pos ⟨M,O,he⟩],zK⟩
end
end Go.Proofs.YteaefaohjlmjdaaGreat.Ev
namespace Go.Proofs.YteaefaohjlmjdaaGreat.Lin
def Ef:∀ (n:Nat) (l:List (List Bool)),l.Nodup->(∀ b∈l,b.length=n)->l.length<=2^n
 | 0,[],_,_=>by simp
 | 0,[a],_,_=>by simp
 | 0,a :: b :: l,hn,h=>by
  have ha:=XS.1 (h a (by simp));have hb:=XS.1 (h b (by simp));subst ha; subst hb;simp at hn
 | n+1,l,hn,h=>by
  have part:∀ v:Bool,((l.filter fun b=>b.head? == some v).map List.tail).length<=2^n:=fun v=>by
   refine Ef n _ ?_ fun b hb=>?_
   ·refine XM.2 (Y8 (fun {x y} hx hy hne e=>hne ?_) (Za _ hn));have hx:=(C4.1 hx).2;have hy:=(C4.1 hy).2;cases x with
    | nil=>simp at hx
    | cons a x =>
     cases y with
     | nil=>simp at hy
     | cons b y =>
      simp at hx hy e;rw [hx,hy,e]
   ·obtain ⟨c,hc,rfl⟩:=nC.1 hb
    have:=h c (C4.1 hc).1
    simp [this]
  have h1:=part true;have h2:=part false;rw [rR] at h1 h2;have h3:l.length=(l.filter fun b=>b.head? == some true).length+(l.filter fun b=>b.head? == some false).length:=by
   rw [<- Yu,<- Yu,Zs (p:=fun b:List Bool=>b.head? == some true)];congr 1;refine List.countP_congr fun b hb=>?_
   have:=h b hb
   cases b with
   | nil=>simp at this
   | cons a b=>cases a <;> simp
  rw [Rb]; omega
def DD.count {d:Nat} {E L:V->Prop} {a R:List V} (h:DD d E (· ∈ a) L R):R.length<=2^a.length:=by
 have hn:(R.map fun r=>a.map fun i=>decide (dot i r=0)).Nodup:=by
  refine XM.2 (h.apart.imp fun hne e=>hne fun i hi=>?_)
  have:=List.map_inj_left.1 e i hi
  simpa using this
 have:=Ef a.length _ hn fun b hb=>by obtain ⟨r,-,rfl⟩:=nC.1 hb; simp
 simpa using this
def gensU_done {d:Nat} {c b:List V} (h1:∀ a∈c,a.length=d) (h2:∀ a∈b,a.length=d):(gensU d c b).done=b:=by
 obtain ⟨e,f⟩:=AB c (startU d) _ oO h1;obtain ⟨h,g⟩:=yH b _ e h2;exact g.trans (by rw [f]; simp [startU])
def Cd {d:Nat} (eq:Bool):∀ (l:List V) (u:Under) (E:V->Prop) (ps:List (Nat × V)),DD d E (· ∈ u.done) (· ∈ u.lines) u.rays->Sp d ps u->(∀ a∈l,a.length=d)->∃ c,Sp d c (l.foldl (fun u a=>addU a eq u) u)
 | [],u,E,ps,_,h,_=>⟨ps,h⟩
 | a :: l,u,E,ps,e,h,hl=>by
  obtain ⟨c,h'⟩:=RK (a:=a) e h eq;exact Cd eq l (addU a eq u) _ c (JT e (hl a (Al ..)) eq) h' fun b hb=>hl b (tZ _ hb)
def MA {d:Nat} {b c:List V} (h1:∀ a∈b,a.length=d) (h2:∀ a∈c,a.length=d):∃ ps,Sp d ps (gensU d b c):=by
 obtain ⟨e,-⟩:=AB b (startU d) _ oO h1;obtain ⟨ps,hp⟩:=Cd true b (startU d) _ _ oO (MS d) h1;exact Cd false c _ _ ps e hp h2
def Nf (a:V) (eq:Bool) (u:Under):(addU a eq u).lines.length<=u.lines.length:=by
 unfold addU;split
 ·exact o0 _
 ·simp only [rR];exact List.length_eraseIdx_le ..
def vD (eq:Bool):∀ (l:List V) (u:Under),(l.foldl (fun u a=>addU a eq u) u).lines.length<=u.lines.length
 | [],u=>o0 _
 | a :: l,u=>B5 (vD eq l (addU a eq u)) (Nf a eq u)
def gensU_lines (d:Nat) (a b:List V):(gensU d a b).lines.length<=d:=by
 refine B5 (vD false b _) (B5 (vD true a _) ?_);simp [startU]
def gens_mid {d M:Nat} (hd:0<d) (k:0<M) {b c:List V} (h1:∀ a∈b,a.length=d/\Bd M a) (h2:∀ a∈c,a.length=d/\Bd M a) :
  (∀ l∈(gensU d b c).lines,l.length=d/\Bd ((2*d*M)^2^d) l)/\(∀ r∈(gensU d b c).rays,r.length=d/\Bd ((2*d*M)^2^d) r)/\(gensU d b c).rays.length<=2^c.length:=by
 have f:∀ a∈b,a.length=d:=fun a ha=>(h1 a ha).1;have g:∀ a∈c,a.length=d:=fun a ha=>(h2 a ha).1;have e:=gensU_dd f g;obtain ⟨ps,hp⟩:=MA f g;have h:=gensU_done f g;obtain ⟨i,j⟩:=PD (Es:=b) hd k (by rw [h]; exact e) hp h1 (by rw [h]; exact h2);exact ⟨fun l hl=>⟨e.lenL l hl,i l hl⟩,fun r hr=>⟨e.lenR r hr,j r hr⟩,e.count⟩
def Od {d:Nat} {E I:V->Prop} {L R b:List V} (h:An d E I L R):Sp d (L.map fun l=>(pv l,l)) ⟨L,R,b⟩:=by
 refine ⟨by simp [YV,Function.comp_def],fun q a=>?_,fun q a=>?_,?_,fun r hr q a=>?_,h.form.cont,h.cont⟩
 ·obtain ⟨l,hl,rfl⟩:=nC.1 a;exact (h.form.pos hl).2.2
 ·obtain ⟨l,hl,rfl⟩:=nC.1 a
  have:=(h.form.pos hl).2.1
  simp only;omega
 ·exact XM.2 h.form.clear
 ·obtain ⟨l,hl,rfl⟩:=nC.1 a;exact h.rest r hr l hl
def told_bd {d M:Nat} (hd:0<d) (e:0<M) {c b L R:List V} (h:An d (· ∈ c) (· ∈ b) L R) (h1:∀ a∈c,a.length=d/\Bd M a) (h2:∀ a∈b,a.length=d/\Bd M a) :
  (∀ l∈L,Bd ((2*d*M)^2^d) l)/\(∀ r∈R,Bd ((2*d*M)^2^d) r) :=
 PD (u:=⟨L,R,b⟩) hd e h.dd (Od h) h1 h2
def pow_bd {d m:Nat} (hd:d<=6):(2*d*2^m)^2^d<=2^(64*(m+4)):=by
 have h1:2*d*2^m<=2^(m+4):=by
  rw [Th,EV (2^m)];exact B2 _ zO
 have h2:2^d<=2^6:=JR (by decide) hd;have h3:2^d*(m+4)<=64*(m+4):=B2 _ h2
 calc (2*d*2^m)^2^d<=(2^(m+4))^2^d:=YI h1 _
  _=2^((m+4)*2^d):=(ZQ ..).symm
  _<=2^(64*(m+4)):=JR (by decide) (by rw [EV]; exact h3)
def DL {d:Nat} {E I:V->Prop} {L R A B:List V} (c:∀ e,E e->e.length=d) (f:∀ i,I i->i.length=d) (h:DD d E I (· ∈ L) R) (h':DD d (· ∈ L) (· ∈ R) (· ∈ A) B):∀ x,Keep d E I x ↔ Keep d (· ∈ A) (· ∈ B) x:=by
 intro x;constructor
 ·intro hx;have hc:=h.all x hx;refine ⟨hx.len,fun a ha=>hc.dot_zero h.lenL h.lenR (fun l hl=>?_) (fun r hr=>?_),fun b hb=>hc.dot_nonneg h.lenL h.lenR (fun l hl=>?_) (fun r hr=>?_)⟩
  ·rw [dot_comm]; exact h'.lineE a ha l hl
  ·rw [dot_comm]; exact h'.lineI a ha r hr
  ·rw [dot_comm]; exact (h'.keep b hb).eq l hl
  ·rw [dot_comm]; exact (h'.keep b hb).ge r hr
 ·intro hx;have key:∀ y,Keep d (· ∈ L) (· ∈ R) y->0<=dot x y:=fun y hy=>(h'.all y hy).dot_nonneg h'.lenL h'.lenR (fun l hl=>by rw [dot_comm]; exact hx.eq l hl) (fun r hr=>by rw [dot_comm]; exact hx.ge r hr);refine ⟨hx.len,fun e he=>?_,fun i hi=>?_⟩
  ·have k1:=key e ⟨c e he,fun l hl=>by rw [dot_comm]; exact h.lineE l hl e he,fun r hr=>by rw [dot_comm,(h.keep r hr).eq e he]; exact Yx _⟩;have k2:=key (scl (-1) e) ⟨aj (c e he),fun l hl=>by rw [dot_scl,dot_comm,h.lineE l hl e he]; rfl,fun r hr=>by rw [dot_scl,dot_comm,(h.keep r hr).eq e he]; exact Yx _⟩;rw [dot_scl] at k2;rw [dot_comm]; omega
  ·rw [dot_comm];exact key i ⟨f i hi,fun l hl=>by rw [dot_comm]; exact h.lineI l hl i hi,fun r hr=>by rw [dot_comm]; exact (h.keep r hr).ge i hi⟩
def MC {d:Nat} {b c:List V} (h1:∀ a∈b,a.length=d) (h2:∀ a∈c,a.length=d):∀ l∈gensL d b c,l.length=d:=(gens_told h1 h2).dd.lenL
def MB {d:Nat} {b c:List V} (h1:∀ a∈b,a.length=d) (h2:∀ a∈c,a.length=d):∀ r∈gensR d b c,r.length=d:=(gens_told h1 h2).dd.lenR
def told_nodup {d:Nat} {E I:V->Prop} {L R:List V} (h:An d E I L R):R.Nodup:=h.dd.apart.imp fun hne e=>hne fun i hi=>by rw [e]
def iH:List V->List V->List V
 | _,[]=>[]
 | F,a :: l=>match pivot (restF F a) with
  | none=>iH F l
  | some _=>a :: iH (putF F a) l
def insP_len (x:V) (p:Nat):∀ F:List V,(insP x p F).length=F.length+1
 | []=>rfl
 | r :: F=>by
  unfold insP;split
  ·rw [Sb,insP_len x p F,Sb]
  ·rfl
def xw:∀ (l F:List V),(iH F l).foldl putF F=l.foldl putF F/\(l.foldl putF F).length=F.length+(iH F l).length
 | [],F=>⟨rfl,rfl⟩
 | a :: l,F=>by
  unfold iH;cases h:pivot (restF F a) with
  | none =>
   have e:putF F a=F:=by unfold putF; rw [h]
   simp only [Yo,e];exact xw l F
  | some p =>
   have e:(putF F a).length=F.length+1:=by unfold putF; rw [h]; simp only; rw [insP_len,rR]
   obtain ⟨h1,h2⟩:=xw l (putF F a);simp only [Yo,Sb];exact ⟨h1,by rw [h2,e]; omega⟩
def qz:∀ (l F:List V),∀ x∈iH F l,x∈l
 | [],F,x,h=>by cases h
 | a :: l,F,x,h=>by
  unfold iH at h;split at h
  ·exact tZ _ (qz l F x h)
  ·rcases FC.1 h with rfl | h
   ·exact Al ..
   ·exact tZ _ (qz l _ x h)
def La {d:Nat} {l:List V} (hl:∀ a∈l,a.length=d):(iH [] l).length<=d/\∀ x,Spn d (· ∈ iH [] l) x ↔ Spn d (· ∈ l) x:=by
 obtain ⟨h1,h2⟩:=xw l [];obtain ⟨h3,h4⟩:=form_ech hl;obtain ⟨-,h5⟩:=form_ech (d:=d) (l:=iH [] l) fun a ha=>hl a (qz l [] a ha);have e:formF (iH [] l)=formF l:=h1;have h6:=Ev.ech_len h3;have b:(formF l).length=([]:List V).length+(iH [] l).length:=h2;refine ⟨by simp at b; omega,fun x=>?_⟩;rw [<- h5 x,e,h4 x]
def DF {α:Type} [DecidableEq α] (M:Nat):∀ (A:List α) (l:List (List α)),(∀ b∈l,∃ a∈A,b.head? = some a)->(∀ a∈A,(l.filter fun b=>b.head? == some a).length<=M)->l.length<=A.length*M
 | [],l,h,_=>by
  cases l with
  | nil=>simp
  | cons b l=>obtain ⟨a,ha,_⟩:=h b (Al ..); cases ha
 | a :: A,l,h,d=>by
  have h1:=d a (Al ..);have h2:=DF M A (l.filter fun b=>!(b.head? == some a)) (fun b hb=>by
   obtain ⟨hb,hn⟩:=C4.1 hb;obtain ⟨c,hc,e⟩:=h b hb;rcases FC.1 hc with rfl | hc
   ·simp [e] at hn
   ·exact ⟨c,hc,e⟩) fun c hc=>by
    refine B5 ?_ (d c (tZ _ hc));exact (List.Sublist.filter _ List.filter_sublist).length_le
  have h3:l.length=(l.filter fun b=>b.head? == some a).length+(l.filter fun b=>!(b.head? == some a)).length:=by
   rw [<- Yu,<- Yu,Zs (p:=fun b:List α=>b.head? == some a)];congr 1;refine List.countP_congr fun b _=>?_
   simp
  rw [Sb,Yn];omega
def Dz {α:Type} [DecidableEq α] (A:List α):∀ (k:Nat) (l:List (List α)),l.Nodup->(∀ b∈l,b.length=k/\∀ x∈b,x∈A)->l.length<=A.length^k
 | 0,[],_,_=>by simp
 | 0,[a],_,_=>by simp
 | 0,a :: b :: l,hn,h=>by
  have ha:=XS.1 (h a (by simp)).1;have hb:=XS.1 (h b (by simp)).1;subst ha; subst hb;simp at hn
 | k+1,l,hn,h=>by
  have:=DF (A.length^k) A l (fun b hb=>by
   obtain ⟨h1,h2⟩:=h b hb;cases b with
   | nil=>simp at h1
   | cons x b=>exact ⟨x,h2 x (Al ..),rfl⟩) fun v _=>by
    have:=Dz A k ((l.filter fun b=>b.head? == some v).map List.tail) (by
     refine XM.2 (Y8 (fun {x y} hx hy hne e=>hne ?_) (Za _ hn));have hx:=(C4.1 hx).2;have hy:=(C4.1 hy).2;cases x with
     | nil=>simp at hx
     | cons a x =>
      cases y with
      | nil=>simp at hy
      | cons b y =>
       simp at hx hy e;rw [hx,hy,e]) fun b hb=>by
     obtain ⟨c,hc,rfl⟩:=nC.1 hb;obtain ⟨h1,h2⟩:=h c (C4.1 hc).1;refine ⟨by simp [h1],fun x hx=>h2 x (List.mem_of_mem_tail hx)⟩
    rwa [rR] at this
  rw [Rb,EV]; exact this
def Px:∀ x:V,0<=dot x x/\(dot x x=0->∀ y:V,dot y x=0)
 | []=>⟨by simp [dot],fun _ y=>by cases y <;> simp [dot]⟩
 | a :: x=>by
  obtain ⟨h1,h2⟩:=Px x;have h3:0<=a*a:=by
   rcases Int.le_total 0 a with h | h
   ·exact N5 h h
   ·exact Int.mul_nonneg_of_nonpos_of_nonpos h h
  have e:dot (a :: x) (a :: x)=a*a+dot x x:=by simp [dot]
  rw [e];refine ⟨zO,fun h0 y=>?_⟩;have ha:a=0:=by
   have:a*a=0:=zO
   rcases Jv.1 this with h | h <;> exact h
  cases y with
  | nil=>simp [dot]
  | cons b y =>
   have:=h2 zO y
   simp [dot,ha] at this ⊢;exact this
def PU {d:Nat} {l:List V} (hl:∀ a∈l,a.length=d) {r i:V} (hr:r.length=d) (hz:∀ a∈l,dot a r=0) (hn:dot i r≠0):(iH [] l).length+1<=d:=by
 obtain ⟨h1,h2⟩:=form_ech hl;obtain ⟨h3,h4⟩:=put_ech h1 hr;have b:(formF l).length=([]:List V).length+(iH [] l).length:=(xw l []).2;cases hp:pivot (restF (formF l) r) with
 | some p =>
  have e:(putF (formF l) r).length=(formF l).length+1:=by unfold putF; rw [hp]; simp only; rw [insP_len,rR]
  have:=Ev.ech_len h3
  simp at b;omega
 | none =>
  exfalso
  have e:putF (formF l) r=formF l:=by unfold putF; rw [hp]
  have h5:Spn d (· ∈ l) r:=(h2 r).1 (by
   have:=(h4 r).2 (eC hr (.inr rfl))
   rw [e] at this;exact this)
  have h6:=Con.dot_zero (a:=r) hl (fun r h=>h.elim) (fun a ha=>by rw [dot_comm]; exact hz a ha) (fun r h=>h.elim) h5;exact hn ((Px r).2 h6 i)
def DD.count3 {d:Nat} {E L:V->Prop} {f R:List V} (h:DD d E (· ∈ f) L R) (n:∀ i∈f,i.length=d):R.length<=1\/R.length<=f.length^(d-1):=by
 obtain ⟨T,hT⟩:∃ T:V->List V,T=fun r=>f.filter fun i=>decide (dot i r=0):=⟨_,rfl⟩
 have g:∀ r i,i∈T r ↔ i∈f/\dot i r=0:=fun r i=>by rw [hT,C4]; simp
 have j:∀ r,∀ i∈T r,i.length=d:=fun r i hi=>n i ((g r i).1 hi).1;by_cases he:∃ r∈R,iH [] (T r)=[]
 ·left
  obtain ⟨r,hr,hb⟩:=he;have hz:∀ i,i∈f->dot i r=0->∀ y,dot i y=0:=fun i hi h0 y=>by
   have h1:Spn d (· ∈ iH [] (T r)) i:=((La (j r)).2 i).2 (eC (n i hi) ((g r i).2 ⟨hi,h0⟩));rw [dot_comm];exact Con.dot_zero (fun l hl=>j r l (qz _ _ l hl)) (fun r h=>h.elim) (fun l hl=>by rw [hb] at hl; cases hl) (fun r h=>h.elim) h1
  have m:∀ s∈R,∀ i,i∈f->(dot i s=0 ↔ dot i r=0):=fun s hs=>by
   obtain ⟨k,c,A,hc,z⟩:=h.ext r hr s (h.keep s hs) fun i hi h0=>hz i hi h0 s;have v:=h.lenR s hs;have u:=h.lenR r hr;have p:∀ i,i∈f->k*dot i s=c*dot i r:=fun i hi=>by
    have:=Con.dot_zero (a:=i) h.lenL (fun r h=>h.elim) (fun l hl=>h.lineI l hl i hi) (fun r h=>h.elim) z
    rw [aU _ _ _ (v.trans u.symm),Int.neg_mul] at this;omega
   have t:c≠0:=fun e=>by
    obtain ⟨i,hi,hn⟩:=h.off s hs
    have:=p i hi
    rw [e,Int.zero_mul] at this;rcases Jv.1 this with h1 | h1
    ·omega
    ·exact hn h1
   intro i hi
   have:=p i hi
   constructor
   ·intro e;rw [e,Z8] at this;rcases Jv.1 this.symm with h1 | h1
    ·exact absurd h1 t
    ·exact h1
   ·intro e;rw [e,Z8] at this;rcases Jv.1 this with h1 | h1
    ·omega
    ·exact h1
  have ha:=h.apart
  match R,ha,m with
  | [],_,_=>simp
  | [x],_,_=>simp
  | x :: y :: R',ha,m =>
   exfalso
   have h1:=List.rel_of_pairwise_cons ha (Al (a:=y) (l:=R'));exact h1 fun i hi=>(m x (by simp) i hi).trans (m y (by simp) i hi).symm
 ·right
  have hne:∀ r∈R,iH [] (T r)≠[]:=fun r hr e=>he ⟨r,hr,e⟩;have hd:∀ b:List V,b≠[]->b.headD []∈b:=fun b hb=>by
   cases b with
   | nil=>exact absurd rfl hb
   | cons a b=>exact Al ..
  have hn:(R.map fun r=>iH [] (T r)++List.replicate (d-1-(iH [] (T r)).length) ((iH [] (T r)).headD [])).Nodup:=by
   have o:∀ r s:V,iH [] (T s)≠[]->iH [] (T r)++List.replicate (d-1-(iH [] (T r)).length) ((iH [] (T r)).headD [])=iH [] (T s)++List.replicate (d-1-(iH [] (T s)).length) ((iH [] (T s)).headD [])->∀ i,i∈f->dot i r=0->dot i s=0:=fun r s hs e i hi hz=>by
    have h1:Spn d (· ∈ iH [] (T r)) i:=((La (j r)).2 i).2 (eC (n i hi) ((g r i).2 ⟨hi,hz⟩));rw [dot_comm];refine Con.dot_zero (fun l hl=>j r l (qz _ _ l hl)) (fun r h=>h.elim) (fun l hl=>?_) (fun r h=>h.elim) h1;have h2:l∈iH [] (T s)++List.replicate (d-1-(iH [] (T s)).length) ((iH [] (T s)).headD []):=by rw [<- e]; exact XF _ hl
    have h3:l∈iH [] (T s):=by
     rcases Eu.1 h2 with h2 | h2
     ·exact h2
     ·rw [Yw h2]; exact hd _ hs
    rw [dot_comm]; exact ((g s l).1 (qz _ _ l h3)).2
   exact XM.2 (h.apart.imp_of_mem fun {r s} hr hs q e=>q fun i hi=>⟨o _ _ (hne s hs) e i hi,o _ _ (hne r hr) e.symm i hi⟩)
  have:=Dz f (d-1) _ hn fun b hb=>by
   obtain ⟨r,hr,rfl⟩:=nC.1 hb;obtain ⟨i,hi,w⟩:=h.off r hr;have h1:=PU (j r) (h.lenR r hr) (fun a ha=>((g r a).1 ha).2) w;refine ⟨by rw [C5,Ye]; omega,fun x hx=>?_⟩;have hm:x∈iH [] (T r):=by
    rcases Eu.1 hx with hx | hx
    ·exact hx
    ·rw [Yw hx]; exact hd _ (hne r hr)
   exact ((g r x).1 (qz _ _ x hm)).1
  simpa using this
end Go.Proofs.YteaefaohjlmjdaaGreat.Lin
namespace Go.Proofs.YteaefaohjlmjdaaGreat.Ev
open Go Nn
def GY (d:Nat) (E:List (List Int)) {j:Nat} (h:j<E.length):Lin.gensU d (E.take (j+1)) []=Lin.addU E[j] true (Lin.gensU d (E.take j) []):=by
 unfold Lin.gensU;rw [BU h,ZL]; rfl
def GX (d:Nat) (E I:List (List Int)) {j:Nat} (h:j<I.length):Lin.gensU d E (I.take (j+1))=Lin.addU I[j] false (Lin.gensU d E (I.take j)):=by
 unfold Lin.gensU;rw [BU h,ZL]; rfl
def fu {m:Nat} {x:List Int} (h:Lin.Bd (2^m) x):∀ z∈x,Bt (m+1) z:=fun z hz=>by
 have h1:=h.mem z hz;have h2:0<2^m:=Pm zU;unfold Bt;rw [Rb];omega
def MD {d:Nat} {l:List (List Int)} (hl:∀ r∈l,r.length=d):Lin.formF (Lin.formF l)=Lin.formF l:=by
 have h:=Lin.form_ech hl;have h2:=Lin.form_ech h.1.len;exact h2.1.unique h.1 h2.2
structure So (d f:Nat) (u:Lin.Under) (I:List (List Int)):Prop where
 lines:∀ l∈u.lines,l.length=d/\∀ z∈l,Bt f z
 rays:∀ r∈u.rays,r.length=d/\∀ z∈r,Bt f z
 few:u.rays.length<=I.length^(d-1)+1
 some:u.lines.length<=d
 done:u.done=I
def Tq {d m:Nat} (e:0<d) (hd:d<=6) {E I:List (List Int)} (h1:∀ a∈E,a.length=d/\Lin.Bd (2^m) a) (h2:∀ a∈I,a.length=d/\Lin.Bd (2^m) a):So d (64*(m+4)+1) (Lin.gensU d E I) I:=by
 obtain ⟨b,c,f⟩:=Lin.gens_mid e (Pm (n:=m) (show 0<2 by decide)) h1 h2;exact ⟨fun l hl=>⟨(b l hl).1,fu ((b l hl).2.mono (Lin.pow_bd hd))⟩,fun l hl=>⟨(c l hl).1,fu ((c l hl).2.mono (Lin.pow_bd hd))⟩,by rcases (Lin.gensU_dd (fun a ha=>(h1 a ha).1) (fun a ha=>(h2 a ha).1)).count3 (fun a ha=>(h2 a ha).1) with h | h <;> omega,Lin.gensU_lines d E I,Lin.gensU_done (fun a ha=>(h1 a ha).1) (fun a ha=>(h2 a ha).1)⟩
def vL {d m:Nat} (e:0<d) (hd:d<=6) {E I:List (List Int)} (h1:∀ a∈E,a.length=d/\Lin.Bd (2^m) a) (h2:∀ a∈I,a.length=d/\Lin.Bd (2^m) a) :
  (∀ l∈Lin.gensL d E I,l.length=d/\Lin.Bd (2^(64*(m+4))) l)/\∀ r∈Lin.gensR d E I,r.length=d/\Lin.Bd (2^(64*(m+4))) r:=by
 have t:=Lin.gens_told (fun a ha=>(h1 a ha).1) (fun a ha=>(h2 a ha).1);obtain ⟨b,c⟩:=Lin.told_bd e (Pm (n:=m) (show 0<2 by decide)) t h1 h2;exact ⟨fun l hl=>⟨t.dd.lenL l hl,(b l hl).mono (Lin.pow_bd hd)⟩,fun l hl=>⟨t.dd.lenR l hl,(c l hl).mono (Lin.pow_bd hd)⟩⟩
def TF {e d:Nat} (hd:d<=6):jX e d<=1237*e+1957:=by
 refine B5 (vu e hd) ?_;simp only [jX];omega
def JL {d:Nat} {A B:List (List Int)} (h1:yJ d A) (h2:yJ d B) (hA:A.length<=1024) (f:B.length<=1024):gX (A.map fun r=>r.map bF) (B.map fun r=>r.map bF)=0:=by
 have code:∀ {L:List (List Int)},yJ d L->L.length<=1024->cL (L.map fun r=>r.map bF)=0:=fun {L} c hL=>by
  refine xP (by rw [rR]; exact hL) (fun k e=>?_) fun k e=>?_
  ·rw [rR] at e;have hm:=mQ e;simp only [ZA];unfold yE;rw [ES (by rw [c.len _ hm]; exact c.le),decide_eq_false (by rw [rR,c.len _ hm]; have:=c.pos; omega)];rfl
  ·rw [rR] at e;simp only [ZA,rR];rw [c.len _ (mQ e),c.len _ (mQ zO)]
 unfold gX;rw [code h1 hA,code h2 f];simp only [ne_eq,not_true_eq_false,if_false];rw [if_neg];rintro ⟨ha,hb,hne⟩
 apply hne
 cases A with
 | nil=>simp at ha
 | cons a A =>
  cases B with
  | nil=>simp at hb
  | cons b B=>simp [h1.len a (by simp),h2.len b (by simp)]
def RL {a:AV} (ha:One a):cE [.nilSl,.nilSl,.nilSl] [((0,1),a)]=some (.agg [a,.nilSl,.nilSl]):=by
 simp [cE,cB,ha.1,ha.2]
section
variable {tab:Nat->Option aA} {H:Heap} {s:AV}
def FG (C:Code tab) (h:Wf H) {a b:AV} {x y:List Int} (ha:RowV H a x) (hb:RowV H b y) (g:x.length=y.length) (e:x.length<=64) (hx:∀ z∈x,dD z) (hy:∀ z∈y,dD z) :
  Ans tab (.fn jA [a,b]) H fun v H'=>v=.int .i64 (FH x y)/\Kp H H':=by
 have i:=ha.one;have j:=hb.one;refine bA C.q111 zU fun T hl c d=>?_;refine zW (aD hl c d) ?_;refine AnsH.eq (QM C zF (ha.mono (zG H)) (hb.mono (zG H)) g e hx hy) fun H2 f=>?_;obtain ⟨k2,_,_⟩:=zT H zK f;refine zW (aD hl c d) ?_;exact zK
def Ch (C:Code tab) (hw:Wf H) {va Q:AV} {E I:List (List Int)} {d m:Nat} (ha:pb H va E) (hb:pb H Q I) (M:0<d) (hd:d<=6) (he:E.length<=1024) (hi:I.length<=1024) (bM:I.length^(d-1)<1099000000000) (h1:∀ a∈E,a.length=d/\Lin.Bd (2^m) a) (h2:∀ a∈I,a.length=d/\Lin.Bd (2^m) a) (hm:m<=300000) :
  Ans tab (.fn rO [.int .i64 (d:Int),va,Q]) H fun v H'=>∃ p q,v=.tup [p,q,.int .i64 0]/\pb H' p (Lin.gensL d E I)/\pb H' q (Lin.gensR d E I)/\Kp H H':=by
 have oa:=ha.one;have ob:=hb.one;obtain ⟨f,hf⟩:∃ f,f=64*(m+4)+1:=⟨_,rfl⟩
 have ok1:yJ d E:=⟨M,zO,fun r hr=>(h1 r hr).1,fun r hr z hz=>(fu (h1 r hr).2 z hz).sm zO⟩
 have ay:yJ d I:=⟨M,zO,fun r hr=>(h2 r hr).1,fun r hr z hz=>(fu (h2 r hr).2 z hz).sm zO⟩
 have mid:∀ {A B:List (List Int)},(∀ a∈A,a.length=d/\Lin.Bd (2^m) a)->(∀ a∈B,a.length=d/\Lin.Bd (2^m) a)->So d f (Lin.gensU d A B) B:=fun hA hB=>by rw [hf]; exact Tq M hd hA hB
 have bN:=TF (e:=f) hd;refine Am C.q71 rfl rfl zU fun T hl g=>?_;have hl:T.length=100:=hl;have bp:c_cone_Gens.results=[(6,none),(7,none),(8,none)]:=rfl;have g0:ad T 0=.int .i64 (d:Int):=g 0 (by simp);have g1:ad T 1=va:=g 1 (by simp);have g2:ad T 2=Q:=g 2 (by simp);refine aI ?_;refine zW (bB hl g0 g1 g2 @aw) ?_;refine dy (fun T' H'=>Kp H H') rfl ?_ ?_
 ·refine zW (aO hl g0 g1 g2) ?_;refine AnsH.eq (FF C zF ((Bn ha).mono (zG H)) ((Bn hb).mono (zG H)) (by rw [rR]; omega) (by rw [rR]; omega) (fun r hr=>?_) (fun r hr=>?_)) fun H2 aG=>?_
  ·obtain ⟨x,hx,rfl⟩:=nC.1 hr;exact vW (by rw [ok1.len x hx]; omega) (ok1.sm x hx)
  ·obtain ⟨x,hx,rfl⟩:=nC.1 hr;exact vW (by rw [ay.len x hx]; omega) (ay.sm x hx)
  rw [JL ok1 ay he hi];obtain ⟨k2,_,_⟩:=zT H zK aG;refine zW (aE hl @aZ) ?_;exact zK
 intro T1 H1 am k1;have w1:=k1.wf;have bQ:=k1.le;have t0:ad T1 0=.int .i64 (d:Int):=(am.at_ 0 zU).trans (zV (aE hl g0));have t1:ad T1 1=va:=(am.at_ 1 zU).trans (zV (aE hl g1));have t2:ad T1 2=Q:=(am.at_ 2 zU).trans (zV (aE hl g2));have t7:ad T1 7=.nilSl:=(am.at_ 7 zU).trans (zV hl);have ar:T1.length=100:=am.len.trans (by simp only [dz]; exact hl);refine dy (fun T' H'=>Kp H H'/\ad T' 7=.nilSl) rfl ?_ ?_
 ·refine zW (aO ar t0 t1 t2) ?_;refine AnsH.use (MX C (Ls:=[E,I]) (d:=d) zF (C2 (E:=rowsE) (t1:=af) ha hb (zG H) (cC)) (by simp) (fun L hL r hr=>?_)) ?_
  ·rcases FC.1 hL with rfl | hL
   ·exact ok1.len r hr
   ·rcases FC.1 hL with rfl | hL
    ·exact ay.len r hr
    ·cases hL
  rintro v H2 ⟨rfl,aG⟩;obtain ⟨k2,_,_⟩:=zT H zK aG;have q1:¬ ((d:Int)<1):=zO;have q2:¬ ((64:Int)<(d:Int)):=zO;have q3:(0:Int)<=(d:Int):=zO;cases bL:[E,I].any (fun L=>!L.isEmpty) with
  | true =>
   refine zW (fo ar t0 t7 q1 q2 q3 @aZ) ?_;exact zK
  | false =>
   refine zW (fo ar t0 t7 q1 q2 q3 @aZ) ?_;exact zK
 rintro T2 H2 av ⟨k2,u7⟩;have w2:=k2.wf;have bR:=k2.le;have u0:ad T2 0=.int .i64 (d:Int):=(av.at_ 0 zU).trans t0;have u1:ad T2 1=va:=(av.at_ 1 zU).trans t1;have u2:ad T2 2=Q:=(av.at_ 2 zU).trans t2;have aK:T2.length=100:=av.len.trans ar;refine dy (fun T' H'=>ad T' 10=.ptr (H2.next+3) 0/\Kp H H'/\UnderV H H' (H2.next+3) (Lin.gensU d [] [])) rfl ?_ ?_
 ·refine zW (aE aK u0) ?_;refine AnsH.use (PJ C (d:=d) zF zO) ?_;rintro v X ⟨aB,aH⟩;obtain ⟨k23,_,_⟩:=zT H2 zK aH;have k3:Kp H X:=k2.trans k23;have b0:=k3.le;have w3:=k3.wf;have ov:=aB.sl.one;have h0:AV.one .nilSl=true:=rfl;have bf:fW (.agg [v,.nilSl,.nilSl])=some [v,.nilSl,.nilSl]:=by simp [fW,AV.cells,ov.2,h0]
  have n3:H2.next+5<=X.next:=aH.le
  have f3:X.get (H2.next+3)=none:=aH.free (show _<H2.next+5 by omega) (w2.fresh (b:=H2.next+3) zO);refine zW (aO aK (RL ov) bf @aZ) ?_;have bd:Wr H X v (Lin.startU d).lines (Lin.startU d).lines.length:=aB.wr.base (show H.next<=H2.next+5 by omega);have bl:iz v≠some (H2.next+3):=fun hx=>by
   have h2:H2.next+5<=H2.next+3:=aB.ge hx
   omega
  exact ⟨zK,v,.nilSl,.nilSl,_,al _ _ _,bd.put bl (NoTy.none f3),.inl ⟨rfl,rfl⟩,.inl ⟨rfl,rfl⟩,(fun x _ hy=>by cases hy),(fun x _ hy=>by cases hy),(fun x _ hy=>by cases hy)⟩
 obtain ⟨ub,bs⟩:∃ ub,ub=H2.next+3:=⟨_,rfl⟩
 rw [<- bs];have a3:H.next<=ub:=zO
 rintro T3 X ax ⟨b7,k3,bq⟩;have w3:=k3.wf;have bS:=k3.le;have v1:ad T3 1=va:=(ax.at_ 1 zU).trans u1;have v2:ad T3 2=Q:=(ax.at_ 2 zU).trans u2;have v7:ad T3 7=.nilSl:=(ax.at_ 7 zU).trans u7;have l:T3.length=100:=ax.len.trans aK;refine aI ?_;refine zW (aD l b7 @aw) ?_;refine dy (fun T' H'=>Kp H H'/\UnderV H H' ub (Lin.gensU d E [])) rfl ?_ ?_
 ·refine zW (aD l v1 ha.lenV) ?_;refine aq H [] (fun j _ H'=>UnderV H H' ub (Lin.gensU d (E.take j) [])) (a:=0) (N:=E.length) rfl (by refine zW l ?_; rfl) (zV l) (xq _) zO (by simp only [dz,l]; rfl) rfl (fun j vs H' m h=>h.mono (Sub.bump H' m)) zK (by exact bq.mono (Sub.bump X _)) ?_ ?_
  ·rintro j t H4 _ hj c bg K V ae;have w4:=V.wf;have bW:=V.le;have bw:=V.le;have bz:ad t 48=va:=(K.at_ 48 zU).trans (zV (aE l v1));have aS:ad t 11=.fn (.func da) [.ptr ub 0] []:=(K.at_ 11 zU).trans (zV l);obtain ⟨w,hr,ah⟩:=dH ha hj;have bj:=bD V.sub ah;have ag:=SlV.idx1 ha .i64 j hj;have mk:=mid (A:=E.take j) (B:=[]) (fun a h=>h1 a (YS h)) (fun a h=>by cases h);have aU:=h1 _ (mQ hj);have a2:=mk.some;have aF:=mk.few;have bI:0^(d-1)<=1:=B5 (YI (xq 1) _) (by rw [Nat.one_pow]; exact o0 _);simp only [YN] at aF;have aL:(Lin.addU E[j] true (Lin.gensU d (E.take j) [])).rays.length<=1099000000000:=by
    rw [<- GY d E hj]
    have:=(mid (A:=E.take (j+1)) (B:=[]) (fun a h=>h1 a (YS h)) (fun a h=>by cases h)).few
    simp only [YN] at this;omega
   simp only [dz,l] at c;refine zW (dj c bz aS bg ag bj) ?_;refine AnsH.use (Ht C (H0:=H) (u:=Lin.gensU d (E.take j) []) (e:=f) (f:=f) (V.up _) a3 (ae.mono (Sub.bump H4 _)) hr M zO aU.1 mk.lines mk.rays (fun r hr=>by rw [mk.done] at hr; cases hr) (by rw [mk.done]; simp) (fun z hz=>(fu aU.2 z hz).mono zO) zO zO zO aL) ?_;rintro v S ⟨rfl,F,P⟩;refine zW c ?_;exact ⟨F,by rw [GY d E hj]; exact P⟩
  ·rintro t H4 c K V ae;rw [KO] at ae;refine zW (aE c @aZ) ?_;exact ⟨V,ae⟩
 rintro t H4 K ⟨k4,ae⟩;have w4:=k4.wf;have bw:=k4.le;have x2:ad t 2=Q:=(K.at_ 2 zU).trans (zV (aE l v2));have x7:ad t 7=.nilSl:=(K.at_ 7 zU).trans (zV (aE l v7));have bE:ad t 10=.ptr ub 0:=(K.at_ 10 zU).trans (zV (aE l b7));have bF:ad t 11=.fn (.func da) [.ptr ub 0] []:=(K.at_ 11 zU).trans (zV l);have c:t.length=100:=K.len.trans (by simp only [dz]; exact l);refine dy (fun T' H'=>Kp H H'/\UnderV H H' ub (Lin.gensU d E I)) rfl ?_ ?_
 ·refine zW (aD c x2 hb.lenV) ?_;refine aq H [] (fun j _ H'=>UnderV H H' ub (Lin.gensU d E (I.take j))) (a:=0) (N:=I.length) rfl (by refine zW c ?_; rfl) (zV c) (xq _) zO (by simp only [dz,c]; rfl) rfl (fun j vs H' m h=>h.mono (Sub.bump H' m)) zK (by exact ae.mono (Sub.bump H4 _)) ?_ ?_
  ·rintro j U S _ hj G bh W F P;have w5:=F.wf;have bX:=F.le;have bx:=F.le;have bA:ad U 58=Q:=(W.at_ 58 zU).trans (zV (aE c x2));have aS:ad U 11=.fn (.func da) [.ptr ub 0] []:=(W.at_ 11 zU).trans (zV (aE c bF));obtain ⟨w,hr,ah⟩:=dH hb hj;have bk:=bD F.sub ah;have ag:=SlV.idx1 hb .i64 j hj;have aC:∀ a∈I.take j,a.length=d/\Lin.Bd (2^m) a:=fun a h=>h2 a (YS h);have mk:=mid (A:=E) (B:=I.take j) h1 aC;have aW:=h2 _ (mQ hj);have a2:=mk.some;have aF:=mk.few;have hp:(I.take j).length^(d-1)<=I.length^(d-1):=YI (by rw [L9]; omega) _;have aL:(Lin.addU I[j] false (Lin.gensU d E (I.take j))).rays.length<=1099000000000:=by
    rw [<- GX d E I hj];have h3:=(mid (A:=E) (B:=I.take (j+1)) h1 (fun a h=>h2 a (YS h))).few;have h4:(I.take (j+1)).length^(d-1)<=I.length^(d-1):=YI (by rw [L9]; omega) _;omega
   simp only [dz,c] at G;refine zW (dj G bA aS bh ag bk) ?_;refine AnsH.use (Ht C (H0:=H) (u:=Lin.gensU d E (I.take j)) (e:=f) (f:=f) (F.up _) a3 (P.mono (Sub.bump S _)) hr M zO aW.1 mk.lines mk.rays (fun r hr=>by rw [mk.done] at hr; exact ⟨(aC r hr).1,fun z hz=>(fu (aC r hr).2 z hz).mono zO⟩) (by rw [mk.done,L9]; omega) (fun z hz=>(fu aW.2 z hz).mono zO) zO zO zO aL) ?_;rintro v n ⟨rfl,aJ,br⟩;refine zW G ?_;exact ⟨aJ,by rw [GX d E I hj]; exact br⟩
  ·rintro U S G W F P;rw [KO] at P;refine zW (aE G @aZ) ?_;exact ⟨F,P⟩
 rintro U S W ⟨k5,P⟩;have w5:=k5.wf;have bx:=k5.le;have y7:ad U 7=.nilSl:=(W.at_ 7 zU).trans x7;have a8:ad U 10=.ptr ub 0:=(W.at_ 10 zU).trans bE;have G:U.length=100:=W.len.trans c;have mk:=mid h1 h2;have a2:=mk.some;have aF:=mk.few;obtain ⟨ql,qr,qd,cl,aP,bm,bn,bP,-,-,-⟩:=P;have b4:=w5 _ _ aP;obtain ⟨tL,tR⟩:=vL M hd h1 h2;have hT:=Lin.gens_told (fun a ha=>(h1 a ha).1) (fun a ha=>(h2 a ha).1);obtain ⟨L,hL⟩:∃ L,L=Lin.gensL d E I:=⟨_,rfl⟩
 have aX:Lin.formF (Lin.gensU d E I).lines=L:=by rw [hL]; rfl
 have bb:Lin.formF L=L:=by rw [<- aX]; exact MD (fun r hr=>(mk.lines r hr).1)
 have bJ:L.length<=d:=by rw [hL]; exact ech_len hT.form
 have aY:∀ r∈L,r.length=d/\∀ z∈r,Bt f z:=fun r hr=>by
  rw [hL] at hr;exact ⟨(tL r hr).1,fun z hz=>by rw [hf]; exact fu (tL r hr).2 z hz⟩
 refine dy (fun T' H'=>∃ q6,ad T' 6=q6/\Kp S H'/\pb H' q6 L) rfl ?_ ?_
 ·refine zW (aD G a8 aP) ?_;refine AnsH.use (EL C (d:=d) (e:=f) zF (bm.sl.mono (Sub.bump S _)) zO M zO (fun r hr=>(mk.lines r hr).1) (fun r hr=>(mk.lines r hr).2) zO) ?_;rintro v n ⟨q6,rfl,aj,aJ⟩;have k6:Kp S n:=Kp.trans (Kp.up (Kp.refl w5) _) aJ;have b1:=k6.le;rw [aX] at aj;refine zW (aE G @aZ) ?_;exact ⟨q6,rfl,k6,aj⟩
 rintro T6 n aN ⟨q6,z6,ao,aj⟩;have w6:=ao.wf;have bU:=ao.le;have z7:ad T6 7=.nilSl:=(aN.at_ 7 zU).trans y7;have bG:ad T6 10=.ptr ub 0:=(aN.at_ 10 zU).trans a8;have J:T6.length=100:=aN.len.trans G;have bt:=ao.get aP;have au:pb n qr (Lin.gensU d E I).rays:=bn.sl.mono ao.sub;obtain ⟨R,hR⟩:∃ R,R=(Lin.gensU d E I).rays:=⟨_,rfl⟩
 have bc:∀ r∈R,r.length=d/\∀ z∈r,Bt f z:=fun r hr=>mk.rays r (by rw [<- hR]; exact hr);have bK:R.length<=1099000000000:=by rw [hR]; omega
 rw [<- hR] at au;refine dy (fun T' H'=>∃ o,ad T' 7=o/\Kp n H'/\Bl rowsE af n H' o (R.map (Lin.restF L))) rfl ?_ ?_
 ·refine zW (aO J bG bt au.lenV) ?_;refine aq n [7] (fun j vs H'=>∃ o,vs=[o]/\Bl rowsE af n H' o ((R.take j).map (Lin.restF L))) (a:=0) (N:=R.length) rfl (by refine zW J ?_; rfl) (zV J) (xq _) zO (by simp only [dz,J]; rfl) rfl (fun j vs H' m ⟨o,q1,q2⟩=>⟨o,q1,q2.mono (Sub.bump H' m)⟩) (Kp.up (Kp.refl w6) _) ⟨.nilSl,by exact zV (aE J z7),Bl.nil⟩ ?_ ?_
  ·rintro j Z Y _ hj s bi ab O ⟨o,hv,ho⟩;have w7:=O.wf;have bY:=O.le;have bV:=O.le;simp only [uz,B3,Ae,and_true] at hv;have bC:ad Z 79=qr:=(ab.at_ 79 zU).trans (zV J);have t6:ad Z 6=q6:=(ab.at_ 6 zU).trans (zV (aE J z6));obtain ⟨w,hr,ah⟩:=dH (au.mono O.sub) hj;have ag:=SlV.idx1 au .i64 j hj;have a0:=bc _ (mQ hj);simp only [dz,J] at s;refine zW (dj s bC t6 bi ag ah) ?_;refine AnsH.use (Gk C (d:=d) (e:=f) zF (hr.mono (Sub.bump Y _)) ((aj.mono O.sub).mono (Sub.bump Y _)) zO M zO a0.1 (fun r hr=>(aY r hr).1) a0.2 (fun r hr=>(aY r hr).2) zO) ?_;rintro v i ⟨q,rfl,aM,ap⟩;have aR:Kp Y i:=Kp.trans (Kp.up (Kp.refl w7) _) ap;have b3:=aR.le;have aQ:Kp n i:=O.trans aR;have b2:=aQ.le;have w8:=aQ.wf;rw [bb] at aM;have oq:=aM.one;have bO:((R.take j).map (Lin.restF L)).length<=R.length:=by simp; omega
   obtain ⟨n6,H9,e6,b6,k6,b5,f6,u6⟩:=Bl.push1 (ty2:=af) (bytes:=24) (id:=i.next+3) (id2:=i.next+2) (k:=5) (cs:=[q]) (a:=Lin.restF L R[j]) (ho.mono aR.sub) zU aQ ⟨q,rfl,aM⟩ zO zO zO zO zO zO zO;have ba:dr ((i.up 5).put (i.next+2) (.cells [q] af true)) (i.next+3) 1 24 af o (.own (i.next+2) 0 1 1 1 true)=some (.own (i.next+3) 0 n6 n6 1 false,H9):=e6;refine zW (aD s hv ba) ?_;refine ⟨k6,_,rfl,?_⟩;rw [BU hj,Xz];exact b6
  ·rintro Z Y s ab O ⟨o,hv,ho⟩;simp only [uz,B3,Ae,and_true] at hv;rw [KO] at ho;refine zW (aE s @aZ) ?_;exact ⟨o,hv,O,ho⟩
 rintro Z Y ab ⟨o,a7,a5,a9⟩;have w7:=a5.wf;have a6:ad Z 6=q6:=(ab.at_ 6 zU).trans z6;have s:Z.length=100:=ab.len.trans J;have aV:(R.map (Lin.restF L)).mergeSort Lin.cmpV=Lin.gensR d E I:=by rw [hR,hL]; rfl
 have a1:(Lin.gensR d E I).Perm (R.map (Lin.restF L)):=by rw [<- aV]; exact List.mergeSort_perm _ _
 have aa:∀ r∈R.map (Lin.restF L),r.length=d/\∀ z∈r,dD z:=fun r hr=>by
  have h:=tR r (a1.mem_iff.2 hr);exact ⟨h.1,fun z hz=>(fu h.2 z hz).sm zO⟩
 refine aI ?_;refine zW (aD s @a7 @aw) ?_;refine AnsH.use (Da C.q110 rfl (H0:=n) (d:=d) (a5.up _) (a9.mono (Sub.bump Y _)) (fun r hr=>(aa r hr).1) (a1.nodup_iff.1 (Lin.told_nodup hT)) (by rw [rR]; omega) fun D a b hD x hx y hy bu bv=>(FG C hD bu bv ((aa x hx).1.trans (aa y hy).1.symm) (by rw [(aa x hx).1]; omega) (aa x hx).2 (aa y hy).2).mono fun _ _ h=>h.1) ?_;rintro v i ⟨rfl,ap,aT⟩;rw [aV] at aT;refine zW (aE s @aw) ?_;refine aI ?_;refine zW (aO s @a6 @a7 @aw) ?_;refine WC.wb ?_;refine zW (aE s bp) ?_;have a4:Kp H i:=(k5.trans ao).trans ap;have bZ:=a4.le;rw [<- hL];exact ⟨_,_,rfl,(aj.mono ap.sub).mono (Sub.bump i _),aT.sl.mono (Sub.bump i _),a4.up _⟩
end
end Go.Proofs.YteaefaohjlmjdaaGreat.Ev
