/- A part. -/
import Derived.Test.YtiigaeehghcjiaaGreatA0
import Derived.Test.YtiigaeehghcjiaaGreatKit
import Derived.KernelRfl
namespace Go.Proofs.YtiigaeehghcjiaaGreat.Ev
open Go Nn
set_option linter.all false
section
variable {tab:Nat->Option au} {H:Heap}
def jx (x:Int):Int:=if x<0 then -1 else if x=0 then 0 else 1
def zo (C:Code tab) (d:Wf H) {a:AV} {x:Int} (ha:IntV H a x):Ans tab (.fn pL [a]) H fun v H'=>v=.int .i64 (jx x)/\Kp H H':=by
 obtain ⟨p,rfl,hp⟩:=ha;have op:=hp.one;refine cz C.q102 zU fun T hl b=>?_;have c:decide (((ah x.natAbs).length:Int)=0)=decide (x=0):=by
  have:=bZ x.natAbs
  by_cases h:x=0
  ·subst h; simp [cD]
  ·have h1:=this.2 zO; simp [h]; intro h2; rw [h2] at h1; simp at h1
 refine zW (aZ hl b hp.lenV c) ?_;refine iteH.split (fun h=>?_) fun h=>?_
 ·have hx:x=0:=by
   by_cases h1:x=0
   ·exact h1
   ·simp [h1] at h
  subst hx;refine zW (aB hl b) ?_;exact ⟨rfl,zK⟩
 ·have hx:x≠0:=fun h1=>by subst h1; simp at h
  refine zW (aB hl b) ?_;refine iteH.split (fun h=>?_) fun h=>?_
  ·refine zW (aB hl b) ?_;exact ⟨by simp [jx,h],zK⟩
  ·refine zW (aB hl b) ?_;exact ⟨by simp [jx,h,hx],zK⟩
def tW (C:Code tab) (h:Wf H) {a:AV} {x:Int} (ha:IntV H a x) (hx:fm x):Ans tab (.fn pN [a]) H fun v H'=>v=.tup [.int .i64 (jx x),.int .i64 0]/\Kp H H':=by
 obtain ⟨p,rfl,hp⟩:=ha;have op:=hp.one;refine cz C.q76 zU fun T hl c=>?_;refine zW (aB hl c) ?_;refine AnsH.eq (fq C zF ⟨p,rfl,hp.mono (zG H)⟩ hx) fun H2 d=>?_;obtain ⟨k2,_,w2⟩:=zT H zK d;have b0:=d.get (b:=H.next) (e:=.cells [.bool (decide (x<0)),p] aa true) (cY);refine zW (aC hl c @b0) ?_;refine AnsH.eq (zo C zF ⟨p,rfl,hp.mono (zG H)⟩) fun g f=>?_;obtain ⟨i,_,_⟩:=zT H zK f;refine zW (aB hl c) ?_;exact zK
def Kw (C:Code tab) (m:Wf H) {a b:AV} {x y:Int} (ha:IntV H a x) (hb:IntV H b y) (hx:fm x) (hy:fm y):Ans tab (.fn rk [a,b]) H fun v H'=>∃ r,v=.tup [r,.int .i64 0]/\IntV H' r (x+y)/\Kp H H':=by
 obtain ⟨p,rfl,hp⟩:=ha;obtain ⟨q,rfl,hq⟩:=hb;have op:=hp.one;have s:=hq.one;refine bE C.q128 zU fun T hl d f=>?_;refine zW (aC hl d f) ?_;refine AnsH.eq (ir C zF (JC (x:=x) (y:=y) (H:=H) hp hq (zG H) (by refine yY ?_; rfl)) (by simp) fun z h=>?_) fun H2 c=>?_
 ·simp at h; rcases h with rfl | rfl <;> assumption
 obtain ⟨k2,_,w2⟩:=zT H zK c;have b0:=c.get (b:=H.next) (e:=.cells [.bool (decide (x<0)),p] aa true) (cY);have i:=c.get (b:=H.next+1) (e:=.cells [.bool (decide (y<0)),q] aa true) (cY);have j:=c.get (b:=H.next+2) (e:=.cells [.bool false,.nilSl] aa true) (cY);refine zW (cn hl d f @b0 i) ?_;refine AnsH.use (Cb C zF ⟨p,rfl,hp.mono (zG H)⟩ ⟨q,rfl,hq.mono (zG H)⟩ hx hy) ?_;rintro v l ⟨⟨r,rfl,hr⟩,g⟩;obtain ⟨k,_,_⟩:=zT H zK g;have o:=hr.one;have d2:=g.get (b:=H.next+2) j;have n:=k.wf _ _ d2;refine zW (aZ hl d f d2) ?_;exact ⟨_,rfl,⟨r,rfl,hr.monoT (SubT.put_ty d2 zU)⟩,zK⟩
def Kt (C:Code tab) (w:Wf H) {a b:AV} {x y:Int} (ha:IntV H a x) (hb:IntV H b y) (hx:fm x) (hy:fm y):Ans tab (.fn rg [a,b]) H fun v H'=>∃ r,v=.tup [r,.int .i64 0]/\IntV H' r (x-y)/\Kp H H':=by
 obtain ⟨p,rfl,hp⟩:=ha;obtain ⟨q,rfl,hq⟩:=hb;have op:=hp.one;have D:=hq.one;refine bE C.q180 zU fun T hl c d=>?_;refine zW (aC hl c d) ?_;refine AnsH.eq (ir C zF (JC (x:=x) (y:=y) (H:=H) hp hq (zG H) (by refine yY ?_; rfl)) (by simp) fun z k=>?_) fun H2 f=>?_
 ·simp at k; rcases k with rfl | rfl <;> assumption
 obtain ⟨k2,_,w2⟩:=zT H zK f;have b0:=f.get (b:=H.next) (e:=.cells [.bool (decide (x<0)),p] aa true) (cY);have g:=f.get (b:=H.next+1) (e:=.cells [.bool (decide (y<0)),q] aa true) (cY);have l:=f.get (b:=H.next+2) (e:=.cells [.bool false,.nilSl] aa true) (cY);refine zW (aC hl c d) ?_;refine aJ ?_;refine zD (cn hl c d @b0 g) ?_;refine AnsH.use (fJ C zF (hq.mono (zG H)) _) ?_;rintro v3 t ⟨rfl,i⟩;obtain ⟨o,_,E⟩:=zT H zK i;have hm:=pk (!decide (y<0)) (hq.mono o.sub);have e:(if (!decide (y<0))=true then -((y.natAbs:Nat):Int) else ((y.natAbs:Nat):Int)) = -y:=by
  by_cases h:y<0 <;> simp [h] <;> omega
 rw [e] at hm;have n:fm (-y):=by unfold fm at *; rwa [Zz]
 refine zD (cn hl c d @b0 g) ?_;refine AnsH.use (Cb C zF ⟨p,rfl,hp.mono (zG H)⟩ hm hx n) ?_;rintro v u ⟨⟨r,rfl,hr⟩,j⟩;obtain ⟨s,_,_⟩:=zT H zK j;have B:=hr.one;have m:=i.get (b:=H.next) b0;have d2:=j.get (b:=H.next+2) (i.get (b:=H.next+2) l);have A:=s.wf _ _ d2;refine zD (ip hl c d @b0 g m d2) ?_;refine ⟨_,rfl,⟨r,?_,hr.monoT (SubT.put_ty d2 zU)⟩,zK⟩;rw [Int.sub_eq_add_neg]
def Oa (x y:Nat) (hx:x<B) (hy:y<B) :
  ((x / 4294967296*(y / 4294967296) % B+((x / 4294967296*(y % 4294967296) % B+(x % 4294967296*(y % 4294967296) % B) / 4294967296) % B) / 4294967296) % B+((((x / 4294967296*(y % 4294967296) % B+(x % 4294967296*(y % 4294967296) % B) / 4294967296) % B) % 4294967296+x % 4294967296*(y / 4294967296) % B) % B) / 4294967296) % B=x*y / B:=by
 have e:x*y=(x / 4294967296*4294967296+x % 4294967296)*(y / 4294967296*4294967296+y % 4294967296):=by
  rw [ZH,ZH]
 have h1:x / 4294967296<4294967296:=by unfold B at hx; omega
 have h2:y / 4294967296<4294967296:=by unfold B at hy; omega
 have h3:x % 4294967296<4294967296:=zO;have h4:y % 4294967296<4294967296:=zO
 generalize x / 4294967296=x1 at *
 generalize y / 4294967296=y1 at *
 generalize x % 4294967296=a at *
 generalize y % 4294967296=b at *
 have d:x1*y1<=4294967295*4294967295:=X3 zO zO;have f:x1*b<=4294967295*4294967295:=X3 zO zO;have g:a*y1<=4294967295*4294967295:=X3 zO zO;have h:a*b<=4294967295*4294967295:=X3 zO zO;have c:x*y=x1*y1*18446744073709551616+(x1*b)*4294967296+(a*y1)*4294967296+a*b:=by rw [e]; grind
 rw [c];clear e c hx hy h1 h2 h3 h4
 generalize x1*y1=p at *
 generalize x1*b=q at *
 generalize a*y1=r at *
 generalize a*b=t at *
 simp only [B];omega
def qj (C:Code tab) (c:Wf H) {x y:Nat} (hx:x<B) (hy:y<B):Ans tab (.fn jF [.int .u64 (x:Nat),.int .u64 (y:Nat)]) H fun v H'=>v=.tup [.int .u64 ((x*y / B:Nat):Int),.int .u64 ((x*y % B:Nat):Int)]/\Kp H H':=by
 refine bE C.q193 zU fun T hl a b=>?_;have e:=Oa x y hx hy;simp only [B] at e;refine zW (aZ hl a b e) ?_;exact zK
end
def jy:∀ {l:List Nat} {k v:Nat},k<l.length->val (l.set k v)+B^k*l.getD k 0=val l+B^k*v
 | a :: l,0,v,_=>by simp [val]; omega
 | a :: l,k+1,v,h=>by
  have b:=jy (l:=l) (k:=k) (v:=v) (by simpa using h);simp only [List.set_cons_succ,val,Yl,Xc]
  have:=congrArg (B * ·) b
  simp only [Xy] at this;rw [WR (B^k) B,Xj,Xj];omega
def kZ {l:List Nat} (h:Lim l) {k v:Nat} (b:v<B):Lim (l.set k v):=fun a ha=>by
 rcases List.mem_or_eq_of_mem_set ha with h1 | h1
 ·exact h a h1
 ·rw [h1]; exact b
section
variable {tab:Nat->Option au} {H:Heap} {s:AV} {l:List Nat}
def SlV.clipat {α:Type} {E:gr α} {ty:Nat} {v:AV} {l:List α} (hs:SlV E ty H v l) (k j:IntKind) (n:Nat) (hn:n<=l.length):∃ d,bU E.sz v none (some (.int k (n:Int))) (some (.int j (n:Int)))=some d/\SlV E ty H d (l.take n):=by
 obtain ⟨cells,hr,u,hc⟩:=hs;obtain ⟨m,hm,p⟩:=hr.length;have q:m=l.length:=YN E.pos (by rw [<- p,hc.1]);subst q;obtain ⟨h0,h1,m',h2,h3⟩:=hr;rw [hm] at h2; cases h2;have g:n*E.sz<=l.length*E.sz:=WJ _ hn;have i:∀ x y z,bU E.sz v x y z=bA E.sz v x y z:=fun x y z=>by cases v <;> first | rfl | exact absurd rfl (h1 _)
 rw [i]
 suffices ∃ d,bA E.sz v none (some (.int k (n:Int))) (some (.int j (n:Int)))=some d/\Rd H E.sz d (cells.take (n*E.sz)) by
  obtain ⟨d,e,hr⟩:=this;exact ⟨d,e,_,hr,sD u (by rw [i]; exact e),hc.take hn⟩
 cases v with
 | own b off n' c B ex =>
  simp only [gJ,Xb] at hm;subst hm;simp only [aK] at h3;split at h3
  ·rename_i cs ty A hb;split at h3
   ·rename_i f;obtain ⟨t,-,hcl⟩:=f;subst t;cases h3;have w:l.length<=c:=h0;have o:((cs.drop off).take (l.length*E.sz)).take (n*E.sz)=(cs.drop off).take (n*E.sz):=by rw [YO,XJ g]
    rw [o];have hp:bA E.sz (.own b off l.length c E.sz ex) none (some (.int k (n:Int))) (some (.int j (n:Int)))=some (if n=0 then .own b off 0 0 E.sz true else .own b off n n E.sz true):=by
     simp only [bA,oS,ne_eq,not_true_eq_false,if_false,C6,Xr,X2,XX];rw [if_pos ⟨zO,Jv _,WG _⟩];by_cases a:n=0
     ·rw [if_pos a,if_pos a]; simp [a]
     ·rw [if_neg a,if_neg a]; simp
    refine ⟨_,hp,?_⟩;by_cases a:n=0
    ·rw [if_pos a,a];refine ⟨Jv _,(fun s h=>by cases h),0,rfl,?_⟩;simp only [aK,hb];rw [if_pos ⟨trivial,Jv _,by simp; omega⟩]
    ·rw [if_neg a];refine ⟨Jv _,(fun s h=>by cases h),n,rfl,?_⟩;simp only [aK,hb];rw [if_pos ⟨trivial,Jv _,zO⟩]
   ·cases h3
  ·cases h3
 | sl cs n' =>
  simp only [gJ,Xb] at hm;subst hm;simp only [aK] at h3;split at h3
  ·rename_i f;cases h3;have hcl:=f.2;refine ⟨.sl (cs.take (n*E.sz)) n,?_,trivial,(fun s h=>by cases h),n,rfl,?_⟩
   ·simp only [bA,oS,C6,Xr,X2,XX];rw [if_pos ⟨hn,Jv _,WG _,zO⟩]
    simp
   ·simp only [aK];rw [if_pos ⟨Jv _,by simp only [WU]; omega⟩];rw [YO,YO,Nat.min_self,XJ g]
  ·cases h3
 | nilSl =>
  simp only [gJ,Xb] at hm;have r:n=0:=zO;subst r;simp only [aK] at h3;split at h3
  ·cases h3;exact ⟨.nilSl,rfl,trivial,(fun s h=>by cases h),0,rfl,by simp [aK]⟩
  ·cases h3
 | str s=>exact absurd rfl (h1 s)
 | _=>simp [gJ] at hm
def FP (C:Code tab) (F:Wf H) (hs:Lb H s l) (E:l.length<4611686018427387904) :
  Ans tab (.fn ur [s]) H fun v H'=>Lb H' v (fc l)/\Kp H H':=by
 refine cz C.q194 zU fun T hl g=>?_;refine zW (aC hl g hs.lenV) ?_;refine bk H [3] (fun k vs H'=>vs=[.int .i64 (k:Int)]/\fc (l.take k)=fc l/\k<=l.length) l.length (by simp only [jL]; exact hl) rfl zK ⟨by exact zV (aB hl g),by rw [WZ],Jv _⟩ ?_;rintro k T1 q f D c ⟨d,o,j⟩;have w1:=c.wf;have G:=c.le;simp only [SA,WF,Ud,and_true] at d;have t0:ad T1 0=s:=(D.at_ 0 zU).trans (zV (aB hl g));have fin:∀ (m:Nat),fc (l.take k)=l.take k->∀ b,bU 1 s none (some (.int .i64 (k:Int))) (some (.int .i64 (k:Int)))=some b->Lb H b (l.take k)->Lb (q.up m) b (fc l):=fun m h1 b _ h2=>by
  rw [<- o,h1]; exact h2.mono (c.up m).sub
 obtain ⟨b,e,hr⟩:=SlV.clipat hs .i64 .i64 k j;have e':bU 1 s none (some (.int .i64 (k:Int))) (some (.int .i64 (k:Int)))=some b:=e;rcases YE (l.take k) with h0 | ⟨l',a,h0⟩
 ·have x:k=0:=by
   have:=congrArg List.length h0; simp at this; rcases this with h | h
   ·exact h
   ·subst h; simpa using j
  subst x;have z:¬ (0:Int)<((0:Nat):Int):=zO;refine zW (cn f d t0 z e') ?_;exact ⟨fin _ (by simp; rfl) _ e' hr,zK⟩
 ·rw [YF] at h0;have y:k=l'.length+1:=by have:=congrArg List.length h0; simp at this; omega
  subst y;have A:l.take l'.length=l':=by
   have:=congrArg (List.take l'.length) h0
   rw [YO,XJ zO] at this
   simpa using this
  have p:IntKind.i64.wrap (((l'.length+1:Nat):Int)-1)=(l'.length:Int):=by rw [wrap_i64] <;> omega
  have B:0<l'.length+1:=zO;have w:=SlV.idx1 (hs.mono c.sub) .i64 l'.length zO;have u:l.getD l'.length 0=a:=by
   have this:(l.take (l'.length+1)).getD l'.length 0=(l'++[a]).getD l'.length 0:=by rw [h0]
   rw [qf,WW,if_pos zO,<- qf] at this;rw [this]; simp [qf]
  have n:=fU (hs.mono c.sub) (i:=l'.length) zO;rw [u] at n;refine zW (ip f d t0 B w n p) ?_;refine iteH.split (fun ha=>?_) fun ha=>?_
  ·have t:a=0:=zO;subst t;refine zW (aZ f d t0 p) ?_;refine ⟨zK,l'.length,zO,rfl,?_,zO⟩;rw [A,<- o,h0,eO]
  ·have r:a≠0:=zO;refine zW (aZ f d t0 e') ?_;exact ⟨fin _ (by rw [h0,jB r]) _ e' hr,zK⟩
def Ft {x y o c:Nat} (hx:x<B) (hy:y<B) (a:o<B) (hc:c<B) :
  (fu (fu (x*y % B) o 0).1 c 0).1+B*(((x*y / B+(fu (x*y % B) o 0).2) % B+(fu (fu (x*y % B) o 0).1 c 0).2) % B)=x*y+o+c:=by
 have hp:x*y<=18446744073709551615*18446744073709551615:=X3 (by unfold B at hx; omega) (by unfold B at hy; omega);simp only [fu,B] at *
 generalize x*y=p at *
 omega
def HD {out b:List Nat} {i j x c e d a:Nat} (hlt:i+j<out.length) (f:val out+B^(i+j)*c=e+B^i*x*val (b.take j)) (he:d+B*a=x*b.getD j 0+out.getD (i+j) 0+c) :
  val (out.set (i+j) d)+B^(i+(j+1))*a=e+B^i*x*val (b.take (j+1)):=by
 have h1:=jy (l:=out) (k:=i+j) (v:=d) hlt;rw [dg];have h2:B^(i+(j+1))*a=B^(i+j)*(B*a):=by rw [<- Xz,Xc,Xj]
 have h3:B^i*x*(val (b.take j)+B^j*b.getD j 0)=B^i*x*val (b.take j)+B^(i+j)*(x*b.getD j 0):=by rw [Xy,Xw]; grind
 rw [h2,h3];have h4:=congrArg (B^(i+j) * ·) he;simp only [Xy] at h4
 generalize B^(i+j)*(B*a)=q1 at *
 generalize B^(i+j)*d=q2 at *
 generalize B^(i+j)*(x*b.getD j 0)=q3 at *
 generalize B^(i+j)*c=q4 at *
 generalize B^(i+j)*out.getD (i+j) 0=q5 at *
 omega
def bw {l:List Nat} {i k v:Nat} (h:i≠k):(l.set i v).getD k 0=l.getD k 0:=by
 rw [qf,qf,YP,if_neg h]
def Ic (C:Code tab) (hw:Wf H) {sa sb:AV} {a b:List Nat} (ha:Lb H sa a) (hb:Lb H sb b) (al:a.length<1099511627776) (am:b.length<1099511627776) (la:Lim a) (lb:Lim b) :
  Ans tab (.fn pU [sa,sb]) H fun v H'=>Lb H' v (ah (val a*val b))/\Kp H H':=by
 refine bE C.q181 zU fun T hl n f=>?_;have P:IntKind.i64.wrap ((a.length:Int)+(b.length:Int))=((a.length+b.length:Nat):Int):=by rw [wrap_i64] <;> omega
 obtain ⟨N,V⟩:∃ N,a.length+b.length=N:=⟨_,rfl⟩
 rw [V] at P;have ab:∀ H' id,Hb H' id ae 1 8 [.int .u64 0] (.int .i64 (N:Int)) (.int .i64 (N:Int))=some (.own id 0 N N 1 true,H'.put id (.cells (aP (List.replicate N 0)) ae true)):=fun H' id=>by
  exact (iy H' id ae 1 8 [.int .u64 0] .i64 .i64 N zO zO rfl).trans (by rw [nr])
 refine zW (ip hl n f ha.lenV hb.lenV P ab) ?_;refine aq H [] (fun i vs H'=>∃ out,H'.get (H.next+6)=some (.cells (aP out) ae true)/\out.length=N/\Lim out/\val out=val (a.take i)*val b/\∀ k,i+b.length<=k->out.getD k 0=0) (a:=0) (N:=a.length) rfl (by refine zW (aC hl n f) ?_; rfl) (zV (aC hl n f)) (WG _) zO (by simp only [jL,hl]; rfl) rfl (fun _ _ _ _ h=>h) zK
  ⟨List.replicate N 0,by exact cY,by simp,Lim.replicate N,by rw [gt]; simp [val],fun k _=>by simp [qf,Xv]; split <;> rfl⟩ ?_ ?_
 ·rintro i T1 K _ hi d W t q ⟨out,E,F,G,hval,S⟩;simp only [jL,hl] at d;have w1:=q.wf;have af:=q.le;have t5:ad T1 5=.own (H.next+6) 0 N N 1 true:=(t.at_ 5 zU).trans (zV (aC hl n f));have t1:ad T1 1=sb:=(t.at_ 1 zU).trans (zV (aZ hl n f f));have ak:ad T1 20=sa:=(t.at_ 20 zU).trans (zV (aC hl n f));have X:=SlV.idx1 ha .i64 i hi;have aa:=fU (ha.mono q.sub) hi;refine zW (lp d t5 t1 ak W X aa hb.lenV) ?_;have Q:=la.at i;refine aq H [8] (fun j vs H'=>∃ o c:_,vs=[.int .u64 ((c:Nat):Int)]/\H'.get (H.next+6)=some (.cells (aP o) ae true)/\o.length=N/\Lim o/\c<B/\val o+B^(i+j)*c=val (a.take i)*val b+B^i*a.getD i 0*val (b.take j)/\∀ k,i+b.length<=k->o.getD k 0=0) (a:=0) (N:=b.length) rfl (by refine zW d ?_; rfl) (zV d) (WG _) zO (by simp only [jL,d]; rfl) rfl (fun _ _ _ _ h=>h) zK
   ⟨out,0,by refine zW d ?_; rfl,E,F,G,by decide,by simp [hval,val],S⟩ ?_ ?_
  ·rintro j T2 H2 _ hj g x m e ⟨o,c,p,w,I,y,hc,J,z⟩;simp only [jL,d] at g;simp only [SA,WF,Ud,and_true] at p;have w2:=e.wf;have ag:=e.le;have r:ad T2 5=.own (H.next+6) 0 N N 1 true:=(m.at_ 5 zU).trans (zV (aB d t5));have s:ad T2 6=.int .i64 (i:Int):=(m.at_ 6 zU).trans (zV d);have D:ad T2 7=.int .u64 ((a.getD i 0:Nat):Int):=(m.at_ 7 zU).trans (zV d);have A:ad T2 27=sb:=(m.at_ 27 zU).trans (zV (aB d t1));have Z:=SlV.idx1 hb .i64 j hj;have Y:=fU (hb.mono e.sub) hj;have R:=lb.at j;have u:IntKind.i64.wrap ((i:Int)+(j:Int))=((i+j:Nat):Int):=by rw [wrap_i64] <;> omega
   have O:=y.at (i+j);refine zW (lp g r s D A x Z Y) ?_;refine AnsH.use (qj C zF Q R) ?_;rintro v H3 ⟨rfl,M⟩;obtain ⟨k3,_,w3⟩:=zT H zK M;have d6:=M.get (b:=H.next+6) w;refine zW (lh g r s D A x p u d6) ?_;refine AnsH.eq (jw C _ (a.getD i 0*b.getD j 0 % B) (o.getD (i+j) 0) 0 (Xp _ zU) O zO) fun U e4=>?_;subst e4;refine zW (lh g r s D A x p u d6) ?_;refine AnsH.eq (jw C _ (fu (a.getD i 0*b.getD j 0 % B) (o.getD (i+j) 0) 0).1 c 0 (Xp _ zU) hc zO) fun U e4=>?_;subst e4;have aj:=k3.wf _ _ d6;refine zW (lh g r s D A x p u d6) ?_;have hs:=Ft Q R O hc;refine ⟨zK,_,_,rfl,rfl,by simp [I],kZ y (Xp _ zU),Xp _ zU,HD zO J hs,fun k L=>?_⟩;rw [bw zO];exact z k L
  ·intro T2 H2 g m e ⟨o,c,p,w,I,y,hc,J,z⟩;simp only [jL,d] at g;simp only [SA,WF,Ud,and_true] at p;have w2:=e.wf;have ag:=e.le;have r:ad T2 5=.own (H.next+6) 0 N N 1 true:=(m.at_ 5 zU).trans (zV (aB d t5));have s:ad T2 6=.int .i64 (i:Int):=(m.at_ 6 zU).trans (zV d);have u1:ad T2 1=sb:=(m.at_ 1 zU).trans (zV (aB d t1));have u:IntKind.i64.wrap ((i:Int)+(b.length:Int))=((i+b.length:Nat):Int):=by rw [wrap_i64] <;> omega
   have aj:=e.wf _ _ w;refine zW (lp g r s u1 p u w hb.lenV) ?_;have h1:=jy (l:=o) (k:=i+b.length) (v:=c) zO;rw [z _ (Jv _)] at h1;rw [WS (Jv _)] at J;refine ⟨zK,_,rfl,by simp [I],kZ y hc,?_,fun k L=>?_⟩
   ·rw [dg,XI]; omega
   ·rw [bw zO];exact z k zO
 ·intro T1 K d t q ⟨out,E,F,G,hval,S⟩;simp only [jL,hl] at d;have w1:=q.wf;have af:=q.le;have t5:ad T1 5=.own (H.next+6) 0 N N 1 true:=(t.at_ 5 zU).trans (zV (aC hl n f));rw [WS (Jv _)] at hval;have ho:=(vC (H0:=H) (ex:=true) E zO F).sl;refine zW (aB d t5) ?_;refine AnsH.use (FP C zF (ho.mono (Sub.bump K _)) zO) ?_;rintro v H2 ⟨h2,e⟩;obtain ⟨k2,_,_⟩:=zT H zK e;rw [eW G,hval] at h2;refine zW d ?_;exact ⟨h2,zK⟩
end
def AD {n m:Nat} (h:n<=m):(ah n).length<=(ah m).length:=bu (XD h (iU m))
def Sm.mono {n m:Nat} (h:n<=m) (hm:Sm m):Sm n:=XD (AD h) hm
def np:∀ (k n:Nat),(ah n).drop k=ah (n / B^k)
 | 0,n=>by simp
 | k+1,n=>by
  by_cases h:n=0
  ·subst h; simp [cD]
  ·rw [jr h,List.drop_succ_cons,np k,XE,Xc,WR B]
def qO:∀ (k n:Nat),val ((ah n).take k)=n % B^k
 | 0,n=>by simp [val,Nat.mod_one]
 | k+1,n=>by
  by_cases h:n=0
  ·subst h; simp [cD,val]
  ·rw [jr h,List.take_succ_cons,val,qO k,Xc,WR (B^k),Nat.mod_mul]
def FX {n:Nat} (h:n≠0) (k:Nat):List.replicate k 0++ah n=ah (n*B^k):=by
 have hne:ah n≠[]:=fun h1=>h (limbs_nil.1 h1);rw [<- xp (l:=List.replicate k 0++ah n) ((Lim.replicate k).append (bI n)) ?_,pE,gt,lA,Yu,Xg,WR];unfold My;rw [List.getLast?_append];have hn:=dI n;unfold My at hn;cases hg:(ah n).getLast? with
 | none=>exact absurd (List.getLast?_eq_none_iff.1 hg) hne
 | some a=>rw [hg] at hn; simpa using hn
section
variable {tab:Nat->Option au} {H:Heap} {s:AV}
def eM (H:Heap):cm H .nilSl 0:=by
 show pC cq ae H .nilSl (ah 0);rw [cD]; exact SlV.nil _ _ _
def oj (ls:List Nat) {j:Nat} (hj:j<ls.length):(ls.take (j+1)).sum=(ls.take j).sum+ls[j]:=by
 rw [TY hj,List.sum_append]; simp only [Zv,List.sum_nil,Ye]
def xU (ls:List Nat):∀ j,(ls.take j).sum<=ls.sum:=fun j=>by
 conv=>rhs; rw [<- Z6 j ls,List.sum_append]
 omega
def DY (C:Code tab) (y:Wf H) {ls:List Nat} {ty:Nat} (hs:pC (Vt (bz cq) ae) ty H s (ls.map ah)) (x:ls.length<4611686018427387904) (w:Sm ls.sum) :
  Ans tab (.fn xc [s]) H fun v H'=>cm H' v ls.sum/\Kp H H':=by
 refine cz C.q183 zU fun T hl d=>?_;have l:=hs.lenV;rw [Nj] at l;refine zW (aC hl d l) ?_;refine aq H [2] (fun j vs H'=>∃ v,vs=[v]/\cm H' v (ls.take j).sum) (a:=0) (N:=ls.length) rfl (by refine zW (aB hl d) ?_; rfl) (zV (aB hl d)) (WG _) zO (by simp only [jL,hl]; rfl) rfl (fun _ _ _ _ h=>h) zK ⟨.nilSl,by exact zV (aB hl d),eM _⟩ ?_ ?_
 ·rintro j T1 g _ hj b p m e ⟨v,f,hn⟩;simp only [SA,WF,Ud,and_true] at f;simp only [jL,hl] at b;have w1:=e.wf;have z:=e.le;have t5:ad T1 5=s:=(m.at_ 5 zU).trans (zV (aB hl d));obtain ⟨c,n,t⟩:=SlV.at1 (hs.mono e.sub) (i:=j) (a:=ah ls[j]) (by simp [hj]);have q:=SlV.idx1 hs .i64 j (by simpa using hj);have k:Sm (ls.take (j+1)).sum:=w.mono (xU ls _);rw [oj ls hj] at k;refine zW (fy b t5 p q t f) ?_;refine AnsH.use (Jt C zF (hn.mono (zG g)) (SlV.mono (zG g) n) (k.mono zO) (k.mono zO)) ?_;rintro v2 H2 ⟨o,rfl,u,r⟩;obtain ⟨k2,_,_⟩:=zT H zK r;refine zW b ?_;refine ⟨zK,o,rfl,?_⟩;rw [oj ls hj]; exact u
 ·rintro T1 g b m e ⟨v,f,hn⟩;simp only [SA,WF,Ud,and_true] at f;simp only [jL,hl] at b;rw [WS (Jv _)] at hn;refine zW (aB b f) ?_;exact ⟨hn,e⟩
def N8 (C:Code tab) (E:Wf H) {a:AV} {n:Nat} {ls:List Nat} {ty:Nat} (ha:cm H a n) (hs:pC (Vt (bz cq) ae) ty H s (ls.map ah)) (A:ls.length<4611686018427387904) (p:Sm n) (B:ls.sum<=n) :
  Ans tab (.fn ut [a,s]) H fun v H'=>cm H' v (n-ls.sum)/\Kp H H':=by
 refine bE C.q184 zU fun T hl d e=>?_;have l:=hs.lenV;rw [Nj] at l;refine zW (aZ hl d e l) ?_;refine aq H [0] (fun j vs H'=>∃ v,vs=[v]/\cm H' v (n-(ls.take j).sum)) (a:=0) (N:=ls.length) rfl (by refine zW (aC hl d e) ?_; rfl) (zV (aC hl d e)) (WG _) zO (by simp only [jL,hl]; rfl) rfl (fun _ _ _ _ h=>h) zK ⟨a,by exact zV (aB hl d),ha.mono (zG H)⟩ ?_ ?_
 ·rintro j T1 g _ hj b r m k ⟨v,f,hn⟩;simp only [SA,WF,Ud,and_true] at f;simp only [jL,hl] at b;have w1:=k.wf;have F:=k.le;have z:ad T1 7=s:=(m.at_ 7 zU).trans (zV (aZ hl d e e));obtain ⟨c,q,w⟩:=SlV.at1 (hs.mono k.sub) (i:=j) (a:=ah ls[j]) (by simp [hj]);have t:=SlV.idx1 hs .i64 j (by simpa using hj);have D:=xU ls (j+1);have y:=oj ls hj;refine zW (fy b z r t w f) ?_;refine AnsH.use (DW C zF (hn.mono (zG g)) (SlV.mono (zG g) q) (p.mono zO) (p.mono zO)) ?_;rintro v2 H2 ⟨u,hr⟩;rw [if_pos zO] at hr;obtain ⟨o,rfl,x⟩:=hr;obtain ⟨k2,_,_⟩:=zT H zK u;refine zW b ?_;refine ⟨zK,o,rfl,?_⟩;rw [y,<- Nat.sub_sub]; exact x
 ·rintro T1 g b m k ⟨v,f,hn⟩;simp only [SA,WF,Ud,and_true] at f;simp only [jL,hl] at b;rw [WS (Jv _)] at hn;refine zW (aB b f) ?_;exact ⟨hn.mono (Sub.bump g _),zK⟩
def N7 (C:Code tab) (o:Wf H) {a:AV} {n k:Nat} (ha:cm H a n) (m:Sm n) (q:k<4398046511104) :
  Ans tab (.fn Av [a,.int .i64 (k:Int)]) H fun v H'=>cm H' v (n*B^k)/\Kp H H':=by
 refine bE C.q185 zU fun T hl c d=>?_;unfold Sm at m;by_cases h0:n=0
 ·subst h0;have e:lenV a=some (.int .i64 0):=by have:=ha.lenV; rwa [cD] at this
  refine zW (aZ hl c d e) ?_;rw [ZR];exact ⟨eM _,zK⟩
 ·have j:¬ ((ah n).length:Int)=0:=by have:=(bZ n).2 h0; omega
  have l:∀ H' id,Hb H' id ae 1 8 [.int .u64 0] (.int .i64 (k:Int)) (.int .i64 (k:Int))=some (.own id 0 k k 1 true,H'.put id (.cells (aP (List.replicate k 0)) ae true)):=fun H' id =>
   (iy H' id ae 1 8 [.int .u64 0] .i64 .i64 k zO zO rfl).trans (by rw [nr])
  refine zW (fy hl c d ha.lenV j l) ?_;have k1:Kp H ((H.up 9).put (H.next+5) (.cells (aP (List.replicate k 0)) ae true)):=zK;have t:=k1.le;have h:=(vC (H0:=H) (H:=(H.up 9).put (H.next+5) (.cells (aP (List.replicate k 0)) ae true)) (ex:=true) (n:=k) (am _ _ _) zO (by simp)).sl;have h1:SlV (bz cq) ae ((H.up 9).put (H.next+5) (.cells (aP (List.replicate k 0)) ae true)) (.own (H.next+5) 0 (List.replicate k 0).length (List.replicate k 0).length 1 true) (List.replicate k 0):=by simpa using h
  obtain ⟨p,H2,f,h2,i,r,s,-⟩:=SlV.app (id:=H.next+7) (bytes:=8) h1 k1 (ha.mono k1.sub) zO (by show _<H.next+9; omega) (by rw [aw zO]; exact o.fresh (b:=H.next+7) zO) (by simp; omega) (by simp; omega);have g:dq ((H.up 9).put (H.next+5) (.cells (aP (List.replicate k 0)) ae true)) (H.next+7) 1 8 ae (.own (H.next+5) 0 k k 1 true) a=some (p,H2):=by rw [Yu] at f; exact f
  rw [FX h0] at h2;refine zW (aZ hl c d g) ?_;exact ⟨h2,i⟩
def Cq (C:Code tab) (t:Wf H) {a:AV} {n k:Nat} (ha:cm H a n) (r:Sm n) (s:k<4398046511104) :
  Ans tab (.fn rr [a,.int .i64 (k:Int)]) H fun v H'=>∃ p q,v=.tup [p,q]/\cm H' p (n % B^k)/\cm H' q (n / B^k)/\Kp H H':=by
 refine bE C.q182 zU fun T hl b c=>?_;unfold Sm at r;obtain ⟨m,hm⟩:∃ m,m=min k (ah n).length:=⟨_,rfl⟩
 have o:If (.int .i64 (k:Int)) (.int .i64 ((ah n).length:Int))=some (.int .i64 (m:Int)):=by rw [zd]; congr 2; split <;> omega
 obtain ⟨p,f,hp⟩:=SlV.clipat ha .i64 .i64 m zO;obtain ⟨q,g,hq⟩:=ha.lo .i64 m zO;have d:bU 1 a none (some (.int .i64 (m:Int))) (some (.int .i64 (m:Int)))=some p:=f;have e:bU 1 a (some (.int .i64 (m:Int))) none none=some q:=g;have j:(ah n).take m=(ah n).take k:=by
  by_cases h:k<=(ah n).length
  ·rw [hm,XJ h]
  ·rw [hm,Nat.min_eq_right zO,WS (Jv _),WS zO]
 have i:(ah n).drop m=(ah n).drop k:=by
  by_cases h:k<=(ah n).length
  ·rw [hm,XJ h]
  ·rw [hm,Nat.min_eq_right zO,YQ (Jv _),YQ zO]
 refine zW (cn hl b c ha.lenV o) ?_;refine aJ ?_;refine zD (cn hl b c d e) ?_;refine AnsH.use (FP C zF (hp.mono (zG H)) (by rw [WU]; omega)) ?_;rintro v H2 ⟨h2,l⟩;obtain ⟨k2,_,_⟩:=zT H zK l;rw [eW ((bI n).take m),j,qO] at h2;rw [i,np] at hq;refine zD (cn hl b c d e) ?_;exact ⟨v,q,rfl,h2,hq.mono k2.sub,k2⟩
def iw (C:Code tab) (c:Wf H) {a:AV} {n:Nat} (ha:cm H a n) (b:Sm n):Ans tab (.fn nJ [a]) H fun v H'=>v=.int .i64 0/\Kp H H':=by
 unfold Sm at b;exact (pg C c ha zO).mono fun v H' ⟨h1,h2⟩=>⟨by rw [h1,if_neg (dI n)],h2⟩
def FQ (C:Code tab) (z:Wf H) {a b:AV} {x y fi:Nat} {first:List AV} (ha:cm H a x) (hb:cm H b y) (hx:Sm x) (hy:Sm y) {R:Heap->AV->Prop} (w:∀ H' v m,R H' v->R (H'.up m) v)
  (s:∀ H',Kp H H'->Ans tab (.fn fi (first++[a,b])) H' fun v H2=>R H2 v/\Kp H H2) :
  Ans tab (.fn oJ [a,b,.fn (.func fi) first []]) H fun v H'=>∃ r,v=.tup [r,.int .i64 0]/\R H' r/\Kp H H':=by
 refine mz C.q173 zU fun T hl d f h=>?_;have B:=ha.one;have D:=hb.one;refine zW (aZ hl d f h) ?_;refine bk H [14] (fun k vs H'=>∃ i:Nat,vs=[.int .i64 (i:Int)]/\i+k=2) 2 (by simp only [jL]; exact hl) rfl zK ⟨0,by refine zW (aZ hl d f h) ?_; rfl,rfl⟩ ?_;rintro k T1 u g n p ⟨i,o,j⟩;simp only [SA,WF,Ud,and_true] at o;have w1:=p.wf;have A:=p.le;have q:ad T1 13=.agg [a,b]:=(n.at_ 13 zU).trans (zV (aC hl d f));have t0:ad T1 0=a:=(n.at_ 0 zU).trans (zV (aB hl d));have t1:ad T1 1=b:=(n.at_ 1 zU).trans (zV (cn hl d f h f));have t:ad T1 2=.fn (.func fi) first []:=(n.at_ 2 zU).trans (zV (cn hl d f h h))
 match i,j with
 | 0,j =>
  have c:ad T1 14=.int .i64 0:=o;have e:IntKind.i64.wrap (0+1)=((1:Nat):Int):=by decide
  refine zW (aC g c q) ?_;refine AnsH.eq (iw C zF (ha.mono (zG H)) hx) fun H2 l=>?_;obtain ⟨k2,_,_⟩:=zT H zK l;refine zW (aC g c e) ?_;exact ⟨zK,k-1,zO,1,rfl,zO⟩
 | 1,j =>
  have c:ad T1 14=.int .i64 1:=o;have e:IntKind.i64.wrap (1+1)=((2:Nat):Int):=by decide
  refine zW (aC g c q) ?_;refine AnsH.eq (iw C zF (hb.mono (zG H)) hy) fun H2 l=>?_;obtain ⟨k2,_,_⟩:=zT H zK l;refine zW (aC g c e) ?_;exact ⟨zK,k-1,zO,2,rfl,zO⟩
 | 2,j =>
  have c:ad T1 14=.int .i64 2:=o;refine zW (cn g c t0 t1 t) ?_;refine AnsH.use (s _ zK) ?_;rintro v H2 ⟨h2,l⟩;refine zW g ?_;exact ⟨v,rfl,h2,l⟩
 | i+3,j=>omega
def Ul {H c:Heap} {b ty t1:Nat} {α:Type} {E:gr α} {x y z:AV} {l m n:List α} (hx:SlV E t1 H x l) (hy:SlV E t1 H y m) (d:SlV E t1 H z n) (hs:Sub H c) (hg:c.get b=some (.cells [x,y,z] ty true)):pC (Vt E t1) ty c (.own b 0 3 3 1 true) [l,m,n] :=
 ⟨[x,y,z],Rd.own hg rfl (Jv _),fun _ _ _ _ _ _ e=>by cases e; exact ⟨_,_,hg⟩,rfl,fun i a hi=>by
  match i with
  | 0=>simp at hi; subst hi; exact ⟨x,rfl,hx.mono hs⟩
  | 1=>simp at hi; subst hi; exact ⟨y,rfl,hy.mono hs⟩
  | 2=>simp at hi; subst hi; exact ⟨z,rfl,d.mono hs⟩
  | i+3=>simp at hi⟩
def Fo {x m h:Nat} (hx:x<B^m) (h1:h<=m):x / B^h<B^(m-h):=by
 apply Nat.div_lt_of_lt_mul
 rw [<- Xw]
 have:h+(m-h)=m:=zO
 rw [this]; exact hx
def Sm.of {n k:Nat} (h:n<B^k) (a:k<1099511627776):Sm n:=XD (bu h) a
def xo {n m:Nat} (h:(ah n).length<=m):n<B^m:=WP (iU n) (W8 zU h)
set_option maxHeartbeats 2000000 in
def N9 (C:Code tab):∀ (M:Nat) {H:Heap} {a b:AV} {x y:Nat},Wf H->cm H a x->cm H b y->max (ah x).length (ah y).length=M->M<274877906944 ->
  Ans tab (.fn iM [.int .i64 8,a,b]) H fun v H'=>cm H' v (x*y)/\Kp H H':=by
 intro M
 induction M using Nat.strongRecOn with
 | _ M Q =>
 intro H a b x y hw ha hb hM aX;refine mz C.q172 zU fun T hl f g i=>?_;obtain ⟨U,aY⟩:∃ U,U=min (ah x).length (ah y).length:=⟨_,rfl⟩
 have aL:If (.int .i64 ((ah x).length:Int)) (.int .i64 ((ah y).length:Int))=some (.int .i64 (U:Int)):=by rw [zd]; congr 2; split <;> omega
 have aJ:Lk (.int .i64 ((ah x).length:Int)) (.int .i64 ((ah y).length:Int))=some (.int .i64 (M:Int)):=by rw [D6]; congr 2; split <;> omega
 refine zW (ip hl f g i ha.lenV hb.lenV aL) ?_;refine iteH.split (fun h=>?_) fun h=>?_
 ·refine zW (aZ hl f g i) ?_;refine AnsH.use (Ic C zF (ha.mono (zG H)) (hb.mono (zG H)) zO zO (bI x) (bI y)) ?_;rintro v H2 ⟨h2,I⟩;obtain ⟨k2,_,_⟩:=zT H zK I;rw [lA,lA] at h2;refine zW (aZ hl f g i) ?_;exact ⟨h2,zK⟩
 ·have aW:9<=M:=zO;obtain ⟨k,hk⟩:∃ k,k=(M+1) / 2:=⟨_,rfl⟩
  have aP:IntKind.i64.wrap ((M:Int)+1)=((M+1:Nat):Int):=by rw [wrap_i64] <;> omega
  have hq:b7 .quo .int (.int .i64 ((M+1:Nat):Int)) (.int .i64 2)=some (.int .i64 (k:Int)):=by
   show some (AV.int .i64 (IntKind.i64.wrap (((M+1:Nat):Int).tdiv 2)))=_
   have:((M+1:Nat):Int).tdiv 2=(k:Int):=by rw [ZA zO]; omega
   rw [this,wrap_i64] <;> omega
  have O:x<B^M:=xo zO;have P:y<B^M:=xo zO;have N:M-k<=k/\k<=M/\k+1<M:=zO;have aR:x % B^k<B^k:=Xp _ (Xh zU);have aS:y % B^k<B^k:=Xp _ (Xh zU);have a2:x / B^k<B^(M-k):=Fo O N.2.1;have a3:y / B^k<B^(M-k):=Fo P N.2.1;have a0:B^(M-k)<=B^k:=W8 zU N.1;have a1:2*B^k<=B^(k+1):=by rw [Xc,WR]; exact YR _ zU
  have Y:x=x / B^k*B^k+x % B^k:=(ZH x (B^k)).symm;have Z:y=y / B^k*B^k+y % B^k:=(ZH y (B^k)).symm;have aQ:IntKind.i64.wrap (2*(k:Int))=((2*k:Nat):Int):=by rw [wrap_i64] <;> omega
  have aN:Sm x:=Sm.of O zO;have aO:Sm y:=Sm.of P zO;have aM:x*y<B^(M+M):=by rw [Xw]; exact Nat.mul_lt_mul'' O P
  have ag:Sm (x*y):=Sm.of aM zO;refine zW (lh hl f g i ha.lenV hb.lenV aJ aP hq) ?_;refine AnsH.use (Cq C zF (ha.mono (zG H)) aN zO) ?_;rintro v H1 ⟨p0,p1,rfl,q,r,aB⟩;obtain ⟨k1,_,w1⟩:=zT H zK aB;refine zW (aZ hl f g i) ?_;refine AnsH.use (Cq C zF (hb.mono (zG H)) aO zO) ?_;rintro v H2 ⟨q0,q1,rfl,hq0,w,I⟩;obtain ⟨R,_,_⟩:=zT H1 zK I;have k2:Kp H H2:=k1.trans R;have a4:=k2.le;have w2:=k2.wf;have q:=q.mono R.sub;have r:=r.mono R.sub
  generalize x % B^k=d at *
  generalize x / B^k=x1 at *
  generalize y % B^k=e at *
  generalize y / B^k=y1 at *
  have a9:(ah d).length<=k:=bu aR;have bb:(ah e).length<=k:=bu aS;have ba:(ah x1).length<=k:=bu zO;have bc:(ah y1).length<=k:=bu zO;refine zW (aZ hl f g i) ?_;refine AnsH.use (Q _ zO zF (q.mono (zG H2)) (hq0.mono (zG H2)) rfl zO) ?_;rintro r0 H3 ⟨m,aD⟩;obtain ⟨k23,_,w3⟩:=zT H2 zK aD;refine zW (aZ hl f g i) ?_;refine AnsH.use (Q _ zO zF (r.mono (zG H2)) (w.mono (zG H2)) rfl zO) ?_;rintro r1 j ⟨s,aE⟩;obtain ⟨S,_,_⟩:=zT H3 zK aE;have u:Kp H2 j:=k23.trans S;have a5:=u.le;have w4:=S.wf;have m:=m.mono S.sub;have q:=q.mono u.sub;have r:=r.mono u.sub;have hq0:=hq0.mono u.sub;have w:=w.mono u.sub;have bg:=q.one;have bh:=r.one;have aU:=hq0.one;have bk:=w.one;have bl:=m.one;have bm:=s.one;refine zW (aZ hl f g i) ?_;refine AnsH.use (DY C (ls:=[d,x1]) zF (BR q r (zG j) (by refine yY ?_; rfl)) (by simp) (Sm.of (k:=k+1) (by simp; omega) zO)) ?_;rintro sx o ⟨af,J⟩;obtain ⟨am,_,w5⟩:=zT j zK J;have n5:j.next+15<=o.next:=J.le
  have f4:∀ c,c<15->c≠3->o.get (j.next+c)=none:=fun c hc h3=>J.free (show _<j.next+15 by omega) (by rw [aw zO]; exact w4.fresh (b:=j.next+c) zO);have bj:=aU;refine zW (aZ hl f g i) ?_;have s5:Sub o (o.put (j.next+7) (.cells [q0,q1] aI true)):=aH (f4 7 zO zO);refine AnsH.use (DY C (ls:=[e,y1]) zF (BR (hq0.mono am.sub) (w.mono am.sub) s5 (by refine yY ?_; rfl)) (by simp) (Sm.of (k:=k+1) (by simp; omega) zO)) ?_;rintro sy z ⟨aj,D⟩;obtain ⟨ao,_,_⟩:=zT j zK D;have aV:Sub o z:=s5.trans D.sub;have w6:=ao.wf;have n6:o.next<=z.next:=D.le
  have f6:z.get (j.next+12)=none:=D.free (show _<o.next by omega) (by rw [aw zO]; exact f4 12 zO zO);have ay:[d,x1].sum=d+x1:=by simp
  have az:[e,y1].sum=e+y1:=by simp
  rw [ay] at af;rw [az] at aj;have a7:(ah (d+x1)).length<=k+1:=bu zO;have a8:(ah (e+y1)).length<=k+1:=bu zO;refine zW (aZ hl f g i) ?_;refine AnsH.use (Q _ zO zF (af.mono aV) aj rfl zO) ?_;rintro m0 t ⟨ab,K⟩;have E:Kp j t:=ao.trans K;have a6:=E.le;have w7:=E.wf;have n7:z.next<=t.next:=K.le
  have f7:t.get (j.next+12)=none:=K.free zO f6;have bf:=ab.one;have m:=m.mono E.sub;have s:=s.mono E.sub;have e1:(d+x1)*(e+y1)=d*e+x1*y1+(d*y1+x1*e):=by grind
  have aG:x1*y1<=x*y:=by
   rw [Y,Z];exact X3 (by have:=Xh (n:=k) (show 0<B by decide); have:=Nat.le_mul_of_pos_right x1 this; omega) (by have:=Xh (n:=k) (show 0<B by decide); have:=Nat.le_mul_of_pos_right y1 this; omega)
  have aK:(d+x1)*(e+y1)<B^((k+1)+(k+1)):=by rw [Xw]; exact Nat.mul_lt_mul'' zO zO
  have ae:Sm ((d+x1)*(e+y1)):=Sm.of aK zO;refine zW (aZ hl f g i) ?_;have V:Sub t (t.put (j.next+12) (.cells [r0,r1] aI true)):=aH f7;refine AnsH.use (N8 C (ls:=[d*e,x1*y1]) zF (ab.mono V) (BR m s V (by refine yY ?_; rfl)) (by simp) ae (by simp; omega)) ?_;rintro md l ⟨ad,aa⟩;obtain ⟨aq,_,_⟩:=zT j zK aa;have ax:Sub t l:=V.trans aa.sub;have w8:=aq.wf;have em:(d+x1)*(e+y1)-[d*e,x1*y1].sum=d*y1+x1*e:=by rw [e1]; simp only [Zv,List.sum_nil,Ye]; omega
  rw [em] at ad;have m:=m.mono ax;have s:=s.mono ax;refine zW (aZ hl f g i) ?_;refine AnsH.use (N7 C (k:=k) zF (ad.mono (zG l)) (ae.mono zO) zO) ?_;rintro u1 G ⟨ak,L⟩;obtain ⟨ar,_,w9⟩:=zT l zK L;have n9:l.next+11<=G.next:=L.le
  have f9:G.get (l.next+8)=none:=L.free (show _<l.next+11 by omega) (w8.fresh (b:=l.next+8) zO);refine zW (cn hl f g i aQ) ?_;refine AnsH.use (N7 C (k:=2*k) zF (s.mono ar.sub) (ag.mono aG) zO) ?_;rintro u2 F ⟨al,A⟩;have av:Kp l F:=ar.trans A;have bp:=av.wf;have bd:G.next<=F.next:=A.le
  have aA:F.get (l.next+8)=none:=A.free zO f9;have bn:=ak.one;have bo:=al.one;have X:[d*e,(d*y1+x1*e)*B^k,x1*y1*B^(2*k)].sum=x*y:=by
   have e2:B^(2*k)=B^k*B^k:=by rw [Nat.two_mul,Xw]
   rw [e2]
   conv=>rhs; rw [Y,Z]
   simp only [Zv,List.sum_nil,Ye]
   generalize B^k=p
   grind
  refine zW (aZ hl f g i) ?_;refine AnsH.use (DY C (ls:=[d*e,(d*y1+x1*e)*B^k,x1*y1*B^(2*k)]) zF (Ul (m.mono av.sub) (ak.mono A.sub) al (aH aA) (by refine yY ?_; rfl)) (by simp) (by rw [X]; exact ag)) ?_;rintro v W ⟨hv,aC⟩;rw [X] at hv;have aT:Kp l W:=Kp.trans zK aC;have kf:Kp H W:=((k2.trans u).trans aq).trans aT;refine zW (aZ hl f g i) ?_;exact ⟨hv,kf⟩
def Qw (C:Code tab) (i:Wf H) {a b:AV} {x y:Nat} (ha:cm H a x) (hb:cm H b y) (hx:(ah x).length<274877906944) (hy:(ah y).length<274877906944) :
  Ans tab (.fn xd [a,b]) H fun v H'=>∃ r,v=.tup [r,.int .i64 0]/\cm H' r (x*y)/\Kp H H':=by
 refine bE C.q156 zU fun T hl e f=>?_;refine zW (aC hl e f) ?_;refine AnsH.use (FQ C (R:=fun H' v=>cm H' v (x*y)) zF (ha.mono (zG H)) (hb.mono (zG H)) (by unfold Sm; omega) (by unfold Sm; omega) (fun H' v m h=>h.mono (Sub.bump H' m)) fun g c=>?_) ?_
 ·have k1:Kp H g:=Kp.trans zK c;refine (N9 C _ c.wf (ha.mono k1.sub) (hb.mono k1.sub) rfl zO).mono ?_;rintro v H2 ⟨h2,d⟩;exact ⟨h2,c.trans d⟩
 ·rintro v H2 ⟨r,rfl,hr,d⟩;obtain ⟨k2,_,_⟩:=zT H zK d;refine zW (aC hl e f) ?_;exact ⟨r,rfl,hr,zK⟩
def Ku (C:Code tab) (A:Wf H) {a b:AV} {x y:Int} (ha:IntV H a x) (hb:IntV H b y) (hx:(ah x.natAbs).length<274877906944) (hy:(ah y.natAbs).length<274877906944):Ans tab (.fn ri [a,b]) H fun v H'=>∃ r,v=.tup [r,.int .i64 0]/\IntV H' r (x*y)/\Kp H H':=by
 obtain ⟨p,rfl,hp⟩:=ha;obtain ⟨q,rfl,hq⟩:=hb;have op:=hp.one;have F:=hq.one;refine bE C.q127 zU fun T hl c d=>?_;refine zW (aC hl c d) ?_;refine AnsH.eq (ir C zF (JC (x:=x) (y:=y) (H:=H) hp hq (zG H) (by refine yY ?_; rfl)) (by simp) fun z k=>?_) fun H2 f=>?_
 ·simp at k; unfold fm Sm; rcases k with rfl | rfl <;> omega
 obtain ⟨k2,_,w2⟩:=zT H zK f;have b0:=f.get (b:=H.next) (e:=.cells [.bool (decide (x<0)),p] aa true) (cY);have j:=f.get (b:=H.next+1) (e:=.cells [.bool (decide (y<0)),q] aa true) (cY);have n:=f.get (b:=H.next+2) (e:=.cells [.bool false,.nilSl] aa true) (cY);refine zW (cn hl c d @b0 j) ?_;refine AnsH.use (Qw C zF (hp.mono (zG H)) (hq.mono (zG H)) hx hy) ?_;rintro v i ⟨r,rfl,hr,g⟩;obtain ⟨B,_,G⟩:=zT H zK g;have o:=g.get (b:=H.next) b0;have s:=g.get (b:=H.next+1) j;have t:=g.get (b:=H.next+2) n;refine zW (cn hl c d o @s) ?_;refine AnsH.use (fJ C zF (hr.mono (zG i)) _) ?_;rintro v4 w ⟨rfl,h⟩;obtain ⟨u,_,_⟩:=zT H zK h;have E:=hr.one;have d2:=h.get (b:=H.next+2) t;have D:=u.wf _ _ d2;refine zW (aZ hl c d d2) ?_;refine ⟨_,rfl,?_,zK⟩;have hm:=pk (!(decide (x<0) == decide (y<0))) ((hr.mono (Kp.sub (H:=i) (Kp.trans zK h))).monoT (SubT.put_ty (e:=.cells [.bool (!(decide (x<0) == decide (y<0)) && decide (0<(ah (x.natAbs*y.natAbs)).length)),r] aa true) d2 zU));have e:(if (!(decide (x<0) == decide (y<0)))=true then -((x.natAbs*y.natAbs:Nat):Int) else ((x.natAbs*y.natAbs:Nat):Int))=x*y:=by
  rw [Int.natCast_mul];have l:(x.natAbs:Int)=if x<0 then -x else x:=by split <;> omega
  have m:(y.natAbs:Int)=if y<0 then -y else y:=by split <;> omega
  rw [l,m];by_cases h1:x<0 <;> by_cases h2:y<0 <;> simp [h1,h2,Int.neg_mul,Int.mul_neg]
 rw [e] at hm;exact hm
def Kv (C:Code tab) (h:Wf H) {a b:AV} {x y:Int} (ha:IntV H a x) (hb:IntV H b y) (hx:fm x) (hy:fm y):Ans tab (.fn rj [a,b]) H fun v H'=>v=.tup [.int .i64 (jx (x-y)),.int .i64 0]/\Kp H H':=by
 obtain ⟨p,rfl,hp⟩:=ha;obtain ⟨q,rfl,hq⟩:=hb;have op:=hp.one;have l:=hq.one;refine bE C.q171 zU fun T hl c d=>?_;refine zW (aC hl c d) ?_;refine AnsH.use (Kt C zF ⟨p,rfl,hp.mono (zG H)⟩ ⟨q,rfl,hq.mono (zG H)⟩ hx hy) ?_;rintro v H2 ⟨r,rfl,⟨w,rfl,hr⟩,e⟩;obtain ⟨k2,_,w2⟩:=zT H zK e;have m:=hr.one;have k:H.next+13<=H2.next:=e.le
 have f:H2.get (H.next+10)=none:=e.free (show _<H.next+13 by omega) (by rw [aw zO,aw zO]; exact h.fresh (b:=H.next+10) zO);refine zW (aC hl c d) ?_;have s2:Sub H2 ((H2.put (H.next+10) (.cells [.bool false,.nilSl] aa true)).put (H.next+10) (.cells [.bool (decide (x-y<0)),w] aa true)):=(aH f).put f _;refine AnsH.eq (zo C (x:=x-y) zF ⟨w,rfl,hr.mono s2⟩) fun i g=>?_;obtain ⟨j,_,_⟩:=zT H zK g;refine zW (aC hl c d) ?_;exact zK
def qN (C:Code tab) (q:Wf H) {n:Int} (h1 : -9223372036854775808<=n) (h2:n<9223372036854775808):Ans tab (.fn ul [.int .i64 n]) H fun v H'=>IntV H' v n/\Kp H H':=by
 refine cz C.q34 zU fun T hl d=>?_;refine zW (aB hl d) ?_;have fin:∀ (a:Heap) (g:Kp H a) (bb:Bool) (o:AV) (m:Nat) (z:Int),a.get H.next=some (.cells [.bool false,.nilSl] aa true)->Lb a o (ah m)->(if bb then -(m:Int) else m)=z ->
   IntV (a.put H.next (.cells [.bool (bb && decide (0<(ah m).length)),o] aa true)) (.agg [.bool (bb && decide (0<(ah m).length)),o]) z/\Kp H (a.put H.next (.cells [.bool (bb && decide (0<(ah m).length)),o] aa true)):=by
  intro a g bb o m z d1 j l;have r:=g.wf _ _ d1;refine ⟨?_,zK⟩;rw [<- l];exact pk bb (j.monoT (SubT.put_ty d1 zU))
 have key:∀ (c:Bool) (k:Nat),0<=k->True:=fun _ _ _=>trivial;refine iteH.split (fun h=>?_) fun h=>?_
 ·have e:IntKind.u64.wrap (0-IntKind.u64.wrap n)=((n.natAbs:Nat):Int):=by rw [gQ,gQ]; omega
  refine zW (aC hl d e) ?_;refine AnsH.use (HY C zF (n:=n.natAbs) (by unfold B; omega)) ?_;rintro v H2 ⟨hn,-,i⟩;obtain ⟨k2,_,w2⟩:=zT H zK i;have b0:=i.get (b:=H.next) (e:=.cells [.bool false,.nilSl] aa true) (cY);have p:=hn.one;refine zW (aB hl d) ?_;refine AnsH.use (fJ C zF (hn.mono (zG H2)) true) ?_;rintro v3 a ⟨rfl,f⟩;obtain ⟨g,_,_⟩:=zT H zK f;have d1:=f.get (b:=H.next) b0
  have:=fin a g true v n.natAbs n d1 (hn.mono (Kp.sub (H:=H2) (Kp.trans zK f))) (by simp; omega)
  simp only [Bool.true_and] at this;refine zW (aC hl d d1) ?_;exact this
 ·have e:IntKind.u64.wrap n=((n.natAbs:Nat):Int):=by rw [gQ]; omega
  refine zW (aC hl d e) ?_;refine AnsH.use (HY C zF (n:=n.natAbs) (by unfold B; omega)) ?_;rintro v H2 ⟨hn,-,i⟩;obtain ⟨k2,_,w2⟩:=zT H zK i;have b0:=i.get (b:=H.next) (e:=.cells [.bool false,.nilSl] aa true) (cY);have p:=hn.one;refine zW (aB hl d) ?_;refine AnsH.use (fJ C zF (hn.mono (zG H2)) false) ?_;rintro v3 a ⟨rfl,f⟩;obtain ⟨g,_,_⟩:=zT H zK f;have d1:=f.get (b:=H.next) b0
  have:=fin a g false v n.natAbs n d1 (hn.mono (Kp.sub (H:=H2) (Kp.trans zK f))) (by simp; omega)
  simp only [Bool.false_and] at this;refine zW (aC hl d d1) ?_;exact this
end
def wx {a b:Nat} (ha:a<18446744073709551616) (hb:b<18446744073709551616):b7 .or .int (.int .u64 (a:Int)) (.int .u64 (b:Int))=some (.int .u64 ((a ||| b:Nat):Int)):=by
 have h1:(BitVec.ofInt 64 (a:Int)).toNat=a:=by
  have:(BitVec.ofInt 64 (a:Int)).toNat=a % 2^64:=by simp
  rw [this]; omega
 have h2:(BitVec.ofInt 64 (b:Int)).toNat=b:=by
  have:(BitVec.ofInt 64 (b:Int)).toNat=b % 2^64:=by simp
  rw [this]; omega
 have e:(BitVec.ofInt 64 (a:Int) ||| BitVec.ofInt 64 (b:Int)).toNat=a ||| b:=by rw [BitVec.toNat_or,h1,h2]
 have hlt:a ||| b<2^64:=Nat.or_lt_two_pow zO zO
 show some (AV.int .u64 (IntKind.u64.wrap ((BitVec.ofInt 64 (a:Int) ||| BitVec.ofInt 64 (b:Int)).toNat:Nat)))=_;rw [e,gP zO zO]
def GP {r:Nat} (hr:r<64) {k:IntKind}:b7 .shl .int (.int .u64 1) (.int k (r:Int))=some (.int .u64 ((2^r:Nat):Int)):=by
 show lP .shl .u64 1 (r:Int)=_;unfold lP;rw [if_neg zO];have h1:Nat.min (r:Int).toNat IntKind.u64.bits=r:=by
  have:IntKind.u64.bits=64:=rfl
  rw [this,Yo]; exact XJ zO
 have hlt:(2:Nat)^r<2^64:=ZB zO hr;have e:(1:Int)*2^r=((2^r:Nat):Int):=by simp
 simp only [h1,e]
 generalize (2:Nat)^r=p at hlt ⊢
 rw [gP zO zO]
def DR {a b r:Nat} (ha:a<2^r):a ||| (2^r*b)=a+2^r*b:=by
 rw [Nat.or_comm,<- Nat.two_pow_add_eq_or_of_lt ha,Zb]
section
variable {tab:Nat->Option au} {H:Heap} {s:AV}
def Cp (C:Code tab) (h:Wf H) {a:AV} {x k:Nat} (ha:cm H a x) (hx:Sm x) (g:k<=65536) :
  Ans tab (.fn rq [a,.int .i64 (k:Int)]) H fun v H'=>v=.int .i64 0/\Kp H H':=by
 refine bE C.q208 zU fun T hl b c=>?_;refine zW (aC hl b c) ?_;refine AnsH.eq (iw C zF (ha.mono (zG H)) hx) fun H2 f=>?_;obtain ⟨k2,_,_⟩:=zT H zK f;have d:decide ((k:Int)<0)=false:=by simp
 have e:decide ((65536:Int)<(k:Int))=false:=by simp; omega
 refine zW (cn hl b c d e) ?_;exact zK
def NL {k c:Nat} (hc:0<c) (b:k<4611686018427387904):b7 .quo .int (.int .i64 (k:Int)) (.int .i64 (c:Int))=some (.int .i64 ((k / c:Nat):Int)):=by
 show (if (c:Int)=0 then none else some (AV.int .i64 (IntKind.i64.wrap ((k:Int).tdiv (c:Int)))))=_;have a:k / c<=k:=Y4 _ _;rw [if_neg zO,ZA zO,<- Int.natCast_ediv]
 generalize k / c=d at a ⊢
 rw [wrap_i64 zO zO]
def NI {k c:Nat} (hc:0<c):b7 .rem .int (.int .i64 (k:Int)) (.int .i64 (c:Int))=some (.int .i64 ((k % c:Nat):Int)):=by
 show (if (c:Int)=0 then none else some (AV.int .i64 ((k:Int).tmod (c:Int))))=_;rw [if_neg zO,Int.tmod_eq_emod_of_nonneg zO,<- Int.natCast_emod]
def HB {x r:Nat} (hr:r<64):x*2^r % B=2^r*(x % 2^(64-r)):=by
 have a:B=2^r*2^(64-r):=by
  rw [<- Xw]; have:r+(64-r)=64:=zO;rw [this]
 rw [a,WR x,Nat.mul_mod_mul_left]
def Sh {x r:Nat} (hx:x<B):x*2^r / B<2^r:=by
 rw [WY zU,WR];exact Nat.mul_lt_mul_of_pos_left hx (Xh zU)
def sv (l:List Nat):∃ E,l=fc l++E:=by
 refine ⟨(l.reverse.takeWhile (· == 0)).reverse,?_⟩;have h:=List.takeWhile_append_dropWhile (p:=(· == 0)) (l:=l.reverse);have h2:=congrArg List.reverse h;rw [List.reverse_append,List.reverse_reverse] at h2;exact h2.symm
def NP (b off n c sz:Nat) (x:Bool) (k j:IntKind) (a:n<=c):bU sz (.own b off n c sz x) none (some (.int k (n:Int))) (some (.int j (n:Int)))=some (.own b off n n sz true):=by
 show bA sz (.own b off n c sz x) none (some (.int k (n:Int))) (some (.int j (n:Int)))=_;simp only [bA,oS,ne_eq,not_true_eq_false,if_false,C6,Xr,X2,XX];rw [if_pos ⟨a,Jv _,WG _⟩];split
 ·rename_i h; subst h; rfl
 ·simp
def DQ (b off n c sz m:Nat) (x:Bool) (k:IntKind) (h:m<=c):bU sz (.own b off n c sz x) none (some (.int k (m:Int))) none=some (.own b off m c sz x):=by
 show bA sz (.own b off n c sz x) none (some (.int k (m:Int))) none=_;simp only [bA,oS,ne_eq,not_true_eq_false,if_false,C6,Xr,X2,XY,XX,XG];rw [if_pos ⟨h,WG _⟩]
 simp
def IN {H:Heap} {cells:List AV} {l:List Nat} (h:Cells (bz cq) H cells l):cells=aP l:=by
 have hl:cells.length=l.length:=by have:=h.1; simpa [bz] using this
 apply Yg
 intro i;by_cases hi:i<l.length
 ·obtain ⟨v,e,rfl⟩:=h.2 i _ (zh hi);have a:cells[i]? = some (.int .u64 (l[i]:Nat)):=by
   have:=congrArg (fun x=>x[0]?) e
   simpa [bz,WW] using this
  rw [a];simp [aP,hi]
 ·rw [Xa zO,Xa (by rw [pm]; omega)]
def wN (C:Code tab) (j:Wf H) {l:List Nat} (hs:Lb H s l) (m:l.length<1099511627776):Ans tab (.fn cw [s]) H fun v H'=>Lb H' v l/\Kp H H'/\(0<l.length->∃ b,v=.own b 0 l.length l.length 1 false/\H'.get b=some (.cells (aP l) ae true)/\H.next<=b):=by
 refine cz C.q170 zU fun T hl a=>?_;rcases hs.nilcase with ⟨rfl,rfl⟩ | hne
 ·have e:b7 .eql .sl .nilSl .nilSl=some (.bool true):=rfl;refine zW (aC hl a e) ?_;exact ⟨SlV.nil _ _ _,zK,fun h=>by simp at h⟩
 ·have f:cP ([]:List AV) []=some []:=rfl;refine zW (aZ hl a hne f) ?_;have k1:Kp H ((H.up 7).put (H.next+3) (.cells [] ae true)):=zK;have p:=k1.le;have h0:SlV (bz cq) ae ((H.up 7).put (H.next+3) (.cells [] ae true)) (.own (H.next+3) 0 0 0 1 true) ([]:List Nat) :=
   (show Own (bz cq) ae H _ (H.next+3) true _ [] from ⟨_,rfl,am _ _ _,Cells.nil _ _,zO⟩).sl
  obtain ⟨k,H2,c,h2,g,n,o,i⟩:=SlV.app (l:=[]) (id:=H.next+5) (bytes:=8) h0 k1 (hs.mono k1.sub) zO (by show _<H.next+7; omega) (by rw [aw zO]; exact j.fresh (b:=H.next+5) zO) (by simp; omega) (by simp; omega);have d:dq ((H.up 7).put (H.next+3) (.cells [] ae true)) (H.next+5) 1 8 ae (.own (H.next+3) 0 0 0 1 true) s=some (k,H2):=c;refine zW (aC hl a d) ?_;refine ⟨h2,g,fun h=>?_⟩;obtain ⟨cells,q1,q2,q3,q4⟩:=i h;rw [XS] at q1 q3;rw [IN q3] at q2;exact ⟨_,q1,q2,q4⟩
def iZ (C:Code tab) (f:Wf H) {b n c:Nat} {x:Bool} (d:n<=c):Ans tab (.fn cy [.own b 0 n c 1 x]) H fun v H'=>v=.own b 0 n n 1 true/\Kp H H':=by
 refine cz C.q114 zU fun T hl a=>?_;have e:=NP b 0 n c 1 x .i64 .i64 d;refine zW (aC hl a e) ?_;exact zK
def DV (C:Code tab) (B:Wf H) {l:List Nat} {b N:Nat} {rw' x:Bool} (m:l.length=N) (hb:H.get b=some (.cells (aP l) ae rw')) (z:N<4611686018427387904) :
  Ans tab (.fn pS [.own b 0 N N 1 x]) H fun v H'=>v=.own b 0 (fc l).length (fc l).length 1 true/\Kp H H':=by
 refine cz C.q80 zU fun T hl g=>?_;refine zW (aB hl g) ?_;refine bk H [0] (fun k vs H'=>vs=[.own b 0 k N 1 x]/\fc (l.take k)=fc l/\k<=l.length) l.length (by simp only [jL]; exact hl) rfl zK ⟨by exact zV (aC hl g m),by rw [WZ],Jv _⟩ ?_;rintro k T1 y c A e ⟨d,f,q⟩;have w1:=e.wf;have D:=e.le;have j:=e.get hb;simp only [SA,WF,Ud,and_true] at d;rcases YE (l.take k) with h0 | ⟨l',a,h0⟩
 ·have r:k=0:=by
   have:=congrArg List.length h0; simp at this
   rcases this with h | h
   ·exact h
   ·subst h; simpa using q
  subst r;refine zW (aC c d @O0) ?_;refine AnsH.eq (iZ C zF (WG _)) fun H2 h2=>?_;have k2:Kp H H2:=Kp.trans zK h2;have w:=k2.le;rw [<- f,h0,wJ];refine zW c ?_;exact zK
 ·rw [YF] at h0;have s:k=l'.length+1:=by have:=congrArg List.length h0; simp at this; omega
  subst s;have t:l.take l'.length=l':=by
   have:=congrArg (List.take l'.length) h0
   rw [YO,XJ zO] at this
   simpa using this
  have p:l.getD l'.length 0=a:=by
   have this:(l.take (l'.length+1)).getD l'.length 0=(l'++[a]).getD l'.length 0:=by rw [h0]
   rw [qf,WW,if_pos zO,<- qf] at this;rw [this]; simp [qf]
  have i:IntKind.i64.wrap (((l'.length+1:Nat):Int)-1)=(l'.length:Int):=by rw [wrap_i64] <;> omega
  have u:0<l'.length+1:=zO;have e':=DQ b 0 (l'.length+1) N 1 l'.length x .i64 zO;refine zW (fy c d u i j p) ?_;refine iteH.split (fun ha=>?_) fun ha=>?_
  ·have o:a=0:=zO;subst o;refine zW (aZ c d i e') ?_;refine ⟨zK,l'.length,zO,rfl,?_,zO⟩;rw [t,<- f,h0,eO]
  ·have n:a≠0:=zO;refine zW (aB c d) ?_;refine AnsH.eq (iZ C zF zO) fun H2 h2=>?_;have k2:Kp H H2:=Kp.trans zK h2;have w:=k2.le;rw [<- f,h0,jB n];refine zW (aB c @List.length_append.{0}) ?_;exact zK
def N4 (C:Code tab) (hw:Wf H) {a:AV} {x k:Nat} (ha:cm H a x) (hx:Sm x) (hk:k<=65536) :
  Ans tab (.fn At [a,.int .i64 (k:Int)]) H fun v H'=>∃ o,v=.tup [o,.int .i64 0]/\cm H' o (x*2^k)/\Kp H H'/\∃ b E,o=.own b 0 (ah (x*2^k)).length (ah (x*2^k)).length 1 true/\H'.get b=some (.cells (aP (ah (x*2^k)++E)) ae true)/\H.next<=b/\(ah (x*2^k)++E).length=k / 64+(ah x).length+1/\Lim (ah (x*2^k)++E):=by
 refine bE C.q199 zU fun T hl d f=>?_;refine zW (aC hl d f) ?_;refine AnsH.eq (Cp C zF (ha.mono (zG H)) hx hk) fun H2 af=>?_;obtain ⟨k2,_,w2⟩:=zT H zK af;have n2:=k2.le;unfold Sm at hx;have hq:=NL (k:=k) (c:=64) zO zO;have hr:=NI (k:=k) (c:=64) zO;obtain ⟨q,eq⟩:∃ q,q=k / 64:=⟨_,rfl⟩
 obtain ⟨r,er⟩:∃ r,r=k % 64:=⟨_,rfl⟩
 rw [<- eq] at hq;rw [<- er] at hr;have W:b7 .quo .int (.int .i64 (k:Int)) (.int .i64 64)=some (.int .i64 (q:Int)):=hq;have al:b7 .rem .int (.int .i64 (k:Int)) (.int .i64 64)=some (.int .i64 (r:Int)):=hr;have am:IntKind.i64.wrap ((q:Int)+((ah x).length:Int))=((q+(ah x).length:Nat):Int):=by rw [wrap_i64] <;> omega
 obtain ⟨N,hN⟩:∃ N,q+(ah x).length+1=N:=⟨_,rfl⟩
 have ao:IntKind.i64.wrap (((q+(ah x).length:Nat):Int)+1)=(N:Int):=by rw [wrap_i64] <;> omega
 have ak:∀ H' id,Hb H' id ae 1 8 [.int .u64 0] (.int .i64 (N:Int)) (.int .i64 (N:Int))=some (.own id 0 N N 1 true,H'.put id (.cells (aP (List.replicate N 0)) ae true)):=fun H' id =>
  (iy H' id ae 1 8 [.int .u64 0] .i64 .i64 N zO zO rfl).trans (by rw [nr])
 refine zW (lp hl d f ha.lenV W am ao ak) ?_;have y:r<64:=zO;have ag:k=64*q+r:=zO;have Z:∀ j,(List.replicate N 0).getD j 0=0:=fun j=>by simp [qf,Xv]; split <;> rfl
 refine aq H [] (fun i vs H'=>∃ out,H'.get (H2.next+8)=some (.cells (aP out) ae true)/\out.length=N/\Lim out/\val out=B^q*2^r*val ((ah x).take i)/\out.getD (q+i) 0<2^r/\∀ j,q+i<j->out.getD j 0=0) (a:=0) (N:=(ah x).length) rfl (by refine zW (aC hl d f) ?_; rfl) (zV (aC hl d f)) (WG _) zO (by simp only [jL,hl]; rfl) rfl (fun _ _ _ _ h=>h) zK
  ⟨List.replicate N 0,by exact cY,by simp,Lim.replicate N,by rw [gt]; simp [val],by rw [Z]; exact Xh zU,fun j _=>Z j⟩ ?_ ?_
 ·rintro i T1 H1 _ hi g P z t ⟨out,A,D,u,hval,U,Y⟩;simp only [jL,hl] at g;have w1:=t.wf;have aw:=t.le;have F:ad T1 7=.own (H2.next+8) 0 N N 1 true:=(z.at_ 7 zU).trans (zV (aC hl d f));have t1:ad T1 1=.int .i64 (k:Int):=(z.at_ 1 zU).trans (zV (aZ hl d f f));have t25:ad T1 25=a:=(z.at_ 25 zU).trans (zV (aB hl d));have ab:=SlV.idx1 ha .i64 i hi;have aj:=fU (ha.mono t.sub) hi;have X:=(bI x).at i;have L:2^r<B:=by unfold B; exact ZB (m:=r) (n:=64) zO y
  have hs:=GP y (k:=.i64);refine zW (lh g F t1 t25 P ab aj al hs) ?_;refine AnsH.use (qj C zF X L) ?_;rintro v H3 ⟨rfl,Q⟩;obtain ⟨k3,_,w3⟩:=zT H zK Q;have d6:=Q.get (b:=H2.next+8) A;have ax:=k3.wf _ _ d6;have ar:IntKind.i64.wrap ((q:Int)+(i:Int))=((q+i:Nat):Int):=by rw [wrap_i64] <;> omega
  have av:IntKind.i64.wrap (((q+i:Nat):Int)+1)=((q+i+1:Nat):Int):=by rw [wrap_i64] <;> omega
  have V:=wx (a:=out.getD (q+i) 0) (b:=(ah x).getD i 0*2^r % B) (u.at _) (Xp _ zU);rw [HB y,DR U] at V;rw [HB y];refine zW (pD g F t1 t25 P W ar av d6 V) ?_;have J:=HB (x:=(ah x).getD i 0) y;have O:=Sh (r:=r) X;have M:=XL ((ah x).getD i 0*2^r) B;have S:out.getD (q+i) 0+(ah x).getD i 0*2^r % B<B:=by
   rw [J];have K:out.getD (q+i) 0 ||| 2^r*((ah x).getD i 0 % 2^(64-r))<2^64:=Nat.or_lt_two_pow (u.at _) (by rw [<- J]; exact Xp _ zU)
   rw [DR U] at K; exact K
  rw [J] at M S
  generalize (ah x).getD i 0*2^r / B=w at *
  have h1:=jy (l:=out) (k:=q+i) (v:=out.getD (q+i) 0+2^r*((ah x).getD i 0 % 2^(64-r))) zO;have h2:=jy (l:=out.set (q+i) (out.getD (q+i) 0+2^r*((ah x).getD i 0 % 2^(64-r)))) (k:=q+i+1) (v:=w) (by simp; omega);rw [bw zO,Y (q+i+1) zO] at h2;refine ⟨zK,_,rfl,by simp [D],kZ (kZ u S) (Nat.lt_trans O L),?_,?_,fun j hj=>?_⟩
  ·rw [dg,Xy,<- hval];have h3:B^q*2^r*(B^i*(ah x).getD i 0)=B^(q+i)*((ah x).getD i 0*2^r):=by rw [Xw]; grind
   rw [h3,<- M,Xy];have h4:B^(q+i+1)*w=B^(q+i)*(B*w):=by rw [Xc,Xj]
   rw [Xy] at h1;rw [h4] at h2;have aa:q+(i+1)=q+i+1:=zO;rw [aa];omega
  ·have:(((out.set (q+i) (out.getD (q+i) 0+2^r*((ah x).getD i 0 % 2^(64-r)))).set (q+(i+1)) w).getD (q+(i+1)) 0)=w:=by
    rw [qf,YP,if_pos rfl,if_pos (by simp; omega)]; rfl
   rw [this]; exact O
  ·rw [bw zO,bw zO];exact Y j zO
 ·rintro T1 H1 g z t ⟨out,A,D,u,hval,-,-⟩;simp only [jL,hl] at g;have w1:=t.wf;have aw:=t.le;have F:ad T1 7=.own (H2.next+8) 0 N N 1 true:=(z.at_ 7 zU).trans (zV (aC hl d f));rw [WS (Jv _),lA] at hval;refine zW (aB g F) ?_;refine AnsH.eq (DV C zF (rw':=true) D (zV @A) zO) fun H4 R=>?_;obtain ⟨k4,_,_⟩:=zT H zK R;have G:=R.get (b:=H2.next+8) (e:=.cells (aP out) ae true) (zV @A);have e:val out=x*2^k:=by
   rw [hval,ag,Xw,ZC]
   have:(2:Nat)^64=B:=by decide
   rw [this,WR]
  have I:=eW u;rw [e] at I;obtain ⟨E,p⟩:=sv out;rw [I] at p;have h4:cm H4 (.own (H2.next+8) 0 (ah (x*2^k)).length (ah (x*2^k)).length 1 true) (x*2^k):=by
   refine ⟨aP (ah (x*2^k)),⟨Jv _,(fun s h=>by cases h),_,rfl,?_⟩,fun _ _ _ _ _ _ e=>by cases e; exact ⟨_,_,G⟩,uy _ _⟩;simp only [aK,G];rw [if_pos ⟨rfl,Jv _,by rw [pm,p]; simp [bz]⟩];rw [p];simp [aP,bz]
  rw [I];refine zW g ?_;exact ⟨_,rfl,h4,zK,_,E,rfl,by rw [G,p],zO,by rw [<- p,D,<- hN,eq,Xz],by rw [<- p]; exact u⟩
end
section
variable {tab:Nat->Option au} {H:Heap} {s:AV} {l:List Nat}
def qe (C:Code tab) (B:Wf H) {l:List Nat} {b N:Nat} {rw' x:Bool} (m:l.length=N) (hb:H.get b=some (.cells (aP l) ae rw')) (z:N<4611686018427387904) :
  Ans tab (.fn uu [.own b 0 N N 1 x]) H fun v H'=>v=.own b 0 (fc l).length (fc l).length 1 true/\Kp H H':=by
 refine cz C.q203 zU fun T hl g=>?_;refine zW (aB hl g) ?_;refine bk H [0] (fun k vs H'=>vs=[.own b 0 k N 1 x]/\fc (l.take k)=fc l/\k<=l.length) l.length (by simp only [jL]; exact hl) rfl zK ⟨by exact zV (aC hl g m),by rw [WZ],Jv _⟩ ?_;rintro k T1 y c A e ⟨d,f,q⟩;have w1:=e.wf;have D:=e.le;have j:=e.get hb;simp only [SA,WF,Ud,and_true] at d;rcases YE (l.take k) with h0 | ⟨l',a,h0⟩
 ·have r:k=0:=by
   have:=congrArg List.length h0; simp at this
   rcases this with h | h
   ·exact h
   ·subst h; simpa using q
  subst r;refine zW (aC c d @O0) ?_;refine AnsH.eq (iZ C zF (WG _)) fun H2 h2=>?_;have k2:Kp H H2:=Kp.trans zK h2;have w:=k2.le;rw [<- f,h0,wJ];refine zW c ?_;exact zK
 ·rw [YF] at h0;have s:k=l'.length+1:=by have:=congrArg List.length h0; simp at this; omega
  subst s;have t:l.take l'.length=l':=by
   have:=congrArg (List.take l'.length) h0
   rw [YO,XJ zO] at this
   simpa using this
  have p:l.getD l'.length 0=a:=by
   have this:(l.take (l'.length+1)).getD l'.length 0=(l'++[a]).getD l'.length 0:=by rw [h0]
   rw [qf,WW,if_pos zO,<- qf] at this;rw [this]; simp [qf]
  have i:IntKind.i64.wrap (((l'.length+1:Nat):Int)-1)=(l'.length:Int):=by rw [wrap_i64] <;> omega
  have u:0<l'.length+1:=zO;have e':=DQ b 0 (l'.length+1) N 1 l'.length x .i64 zO;refine zW (fy c d u i j p) ?_;refine iteH.split (fun ha=>?_) fun ha=>?_
  ·have o:a=0:=zO;subst o;refine zW (aZ c d i e') ?_;refine ⟨zK,l'.length,zO,rfl,?_,zO⟩;rw [t,<- f,h0,eO]
  ·have n:a≠0:=zO;refine zW (aB c d) ?_;refine AnsH.eq (iZ C zF zO) fun H2 h2=>?_;have k2:Kp H H2:=Kp.trans zK h2;have w:=k2.le;rw [<- f,h0,jB n];refine zW (aB c @List.length_append.{0}) ?_;exact zK
def DP {H:Heap} {b:Nat} {l E:List Nat} {rw' x:Bool} (hb:H.get b=some (.cells (aP (l++E)) ae rw')):Lb H (.own b 0 l.length l.length 1 x) l:=by
 refine ⟨aP l,⟨Jv _,(fun s h=>by cases h),_,rfl,?_⟩,fun _ _ _ _ _ _ e=>by cases e; exact ⟨_,_,hb⟩,uy _ _⟩;simp only [aK,hb];rw [if_pos ⟨rfl,Jv _,by rw [pm]; simp [bz]⟩];simp [aP,bz]
def AP (C:Code tab) (q:Wf H) {ls:List (List Nat)} {ty:Nat} (hs:pC (Vt (bz cq) ae) ty H s ls) (p:ls.length<4611686018427387904) (hc:∀ c∈ls,c.length<4611686018427387904/\c.getLast? ≠ some 0) :
  Ans tab (.fn oK [s]) H fun v H'=>v=.int .i64 0/\Kp H H':=by
 refine cz C.q190 zU fun T hl d=>?_;refine zW (aC hl d hs.lenV) ?_;refine aq H [] (fun _ _ _=>True) (a:=0) (N:=ls.length) rfl (by refine zW (aB hl d) ?_; rfl) (zV (aB hl d)) (WG _) zO (by simp only [jL,hl]; rfl) rfl (fun _ _ _ _ h=>h) zK trivial ?_ ?_
 ·intro j T1 i _ hj b l g e _;have w1:=e.wf;have r:=e.le;have o:ad T1 6=s:=(g.at_ 6 zU).trans (zV (aB hl d));obtain ⟨c,k,n⟩:=SlV.at1 (hs.mono e.sub) (zh hj);have m:=SlV.idx1 hs .i64 j hj;have f:=hc _ (EL hj);simp only [jL,hl] at b;refine zW (cn b o l m n) ?_;refine AnsH.eq (pg C zF k f.1) fun H2 h2=>?_;rw [if_neg f.2];refine zW b ?_;have k2:Kp H H2:=Kp.trans zK h2;have t:=k2.le;exact zK
 ·intro T1 i b g e _;simp only [jL,hl] at b;refine zW b ?_;exact zK
end
def SL (v i:AV):Option AV:=aT (fun s=>match s with | .t 0=>v | _=>i) (.indexStr (.t 0) (.t 1))
def cN {tab:Nat->Option au} (ev:Src->AV) (H:Heap) (id:Nat) (Q:AV->Heap->Prop) (x i:Src):nB tab ev H id (.indexStr x i) Q=iv (SL (ev x) (ev i)) (fun v=>Q v H) ():=by
 rw [ck,eN tab ev H id Q (o:=.indexStr x i) (v:=SL (ev x) (ev i)) (fun f a e=>by cases e) (by simp only [aT,SL]) rfl]; rfl
def Ri {a b:Nat} (ha:a<18446744073709551616) (hb:0<b):b7 .quo .int (.int .u64 (a:Int)) (.int .u64 (b:Int))=some (.int .u64 ((a / b:Nat):Int)):=by
 show (if (b:Int)=0 then none else some (AV.int .u64 (IntKind.u64.wrap ((a:Int).tdiv (b:Int)))))=_;have c:a / b<=a:=Y4 _ _;rw [if_neg zO,ZA zO,<- Int.natCast_ediv]
 generalize a / b=d at c ⊢
 rw [gP zO zO]
def Tv {a b:Nat} (hb:0<b):b7 .rem .int (.int .u64 (a:Int)) (.int .u64 (b:Int))=some (.int .u64 ((a % b:Nat):Int)):=by
 show (if (b:Int)=0 then none else some (AV.int .u64 ((a:Int).tmod (b:Int))))=_;rw [if_neg zO,Int.tmod_eq_emod_of_nonneg zO,<- Int.natCast_emod]
def sW {x r:Nat} (hr:r<=64) {k:IntKind}:b7 .shl .int (.int .u64 (x:Int)) (.int k (r:Int))=some (.int .u64 ((x*2^r % B:Nat):Int)):=by
 show lP .shl .u64 (x:Int) (r:Int)=_;unfold lP;rw [if_neg zO];have h1:Nat.min (r:Int).toNat IntKind.u64.bits=r:=by
  have:IntKind.u64.bits=64:=rfl
  rw [this,Yo]; exact XJ hr
 have e:(x:Int)*2^r=((x*2^r:Nat):Int):=by simp
 simp only [h1,e];rw [gQ];rfl
def BD {a b:Nat} (hb:b<=64) {k:IntKind}:b7 .shr .int (.int .u64 (a:Int)) (.int k (b:Int))=some (.int .u64 ((a / 2^b:Nat):Int)):=by
 show lP .shr .u64 (a:Int) (b:Int)=_;unfold lP;rw [if_neg zO];have h1:Nat.min (b:Int).toNat IntKind.u64.bits=b:=by
  have:IntKind.u64.bits=64:=rfl
  rw [this,Yo]; exact XJ hb
 simp only [h1];congr 2;rw [Int.fdiv_eq_ediv_of_nonneg _ (YA (Int.pow_pos zO))]
 simp
def qA (a:Nat):b7 .shr .int (.int .u64 (a:Int)) (.int .u64 16)=some (.int .u64 ((a / 65536:Nat):Int)):=sV a 16 zO
def yS (a:Nat):b7 .shr .int (.int .u64 (a:Int)) (.int .u64 8)=some (.int .u64 ((a / 256:Nat):Int)):=sV a 8 zO
def TE:AV:=.str ⟨#[0,1,2,2,3,3,3,3,4,4,4,4,4,4,4,4,5,5,5,5,5,5,5,5,5,5,5,5,5,5,5,5,6,6,6,6,6,6,6,6,6,6,6,6,6,6,6,6,6,6,6,6,6,6,6,6,6,6,6,6,6,6,6,6,7,7,7,7,7,7,7,7,7,7,7,7,7,7,7,7,7,7,7,7,7,7,7,7,7,7,7,7,7,7,7,7,7,7,7,7,7,7,7,7,7,7,7,7,7,7,7,7,7,7,7,7,7,7,7,7,7,7,7,7,7,7,7,7,8,8,8,8,8,8,8,8,8,8,8,8,8,8,8,8,8,8,8,8,8,8,8,8,8,8,8,8,8,8,8,8,8,8,8,8,8,8,8,8,8,8,8,8,8,8,8,8,8,8,8,8,8,8,8,8,8,8,8,8,8,8,8,8,8,8,8,8,8,8,8,8,8,8,8,8,8,8,8,8,8,8,8,8,8,8,8,8,8,8,8,8,8,8,8,8,8,8,8,8,8,8,8,8,8,8,8,8,8,8,8,8,8,8,8,8,8,8,8,8,8,8,8,8,8,8,8,8]⟩
def Ok (x:Nat):Bool:=match SL TE (.int .u8 (x:Int)) with
 | some (.int .u8 z)=>decide (0<=z/\z.toNat<=8/\x<2^z.toNat/\(x=0\/(1<=z.toNat/\2^(z.toNat-1)<=x)))
 | _=>false
theorem Ol:(List.range 256).all Ok=true:=by kernel_rfl
def Cu {x:Nat} (hx:x<256):∃ L:Nat,SL TE (.int .u8 (x:Int))=some (.int .u8 (L:Int))/\L<=8/\x<2^L/\(x=0\/(1<=L/\2^(L-1)<=x)):=by
 have h:=WT.1 Ol x (XC.2 hx);unfold Ok at h;split at h
 ·rename_i z e;simp only [decide_eq_true_eq] at h;obtain ⟨h0,h1,h2,h3⟩:=h;refine ⟨z.toNat,?_,h1,h2,h3⟩;rw [e,Int.toNat_of_nonneg h0]
 ·cases h
def Oj {w k L x:Nat} (hx:w / 2^k=x) (h1:x<2^L) (h2:1<=L) (h3:2^(L-1)<=x):w<2^(k+L)/\2^(k+L-1)<=w:=by
 subst hx;refine ⟨?_,?_⟩
 ·have:=(WY (Xh zU)).1 h1
  rw [Xw,WR]; exact this
 ·have:=(Z7 (Xh zU)).1 h3
  have e:k+L-1=(L-1)+k:=zO;rw [e,Xw]; exact this
section
variable {tab:Nat->Option au} {H:Heap} {s:AV} {l:List Nat}
set_option maxRecDepth 20000 in
def BB (C:Code tab) (o:Wf H) {w:Nat} (h0:0<w) (j:w<18446744073709551616) :
  Ans tab (.fn gL [.int .u64 (w:Int)]) H fun v H'=>(∃ L:Nat,v=.int .i64 (L:Int)/\1<=L/\L<=64/\w<2^L/\2^(L-1)<=w)/\Kp H H':=by
 refine cz C.q104 zU fun T hl f=>?_;have fin:∀ (k x:Nat),x<256->k<=56->w / 2^k=x->0<x->∃ L:Nat,SL (.str ⟨#[0,1,2,2,3,3,3,3,4,4,4,4,4,4,4,4,5,5,5,5,5,5,5,5,5,5,5,5,5,5,5,5,6,6,6,6,6,6,6,6,6,6,6,6,6,6,6,6,6,6,6,6,6,6,6,6,6,6,6,6,6,6,6,6,7,7,7,7,7,7,7,7,7,7,7,7,7,7,7,7,7,7,7,7,7,7,7,7,7,7,7,7,7,7,7,7,7,7,7,7,7,7,7,7,7,7,7,7,7,7,7,7,7,7,7,7,7,7,7,7,7,7,7,7,7,7,7,7,8,8,8,8,8,8,8,8,8,8,8,8,8,8,8,8,8,8,8,8,8,8,8,8,8,8,8,8,8,8,8,8,8,8,8,8,8,8,8,8,8,8,8,8,8,8,8,8,8,8,8,8,8,8,8,8,8,8,8,8,8,8,8,8,8,8,8,8,8,8,8,8,8,8,8,8,8,8,8,8,8,8,8,8,8,8,8,8,8,8,8,8,8,8,8,8,8,8,8,8,8,8,8,8,8,8,8,8,8,8,8,8,8,8,8,8,8,8,8,8,8,8,8,8,8,8,8,8]⟩) (.int .u8 (IntKind.u8.wrap (x:Int)))=some (.int .u8 (L:Int))/\IntKind.i64.wrap (L:Int)=(L:Int)/\IntKind.i64.wrap ((k:Int)+(L:Int))=((k+L:Nat):Int)/\1<=k+L/\k+L<=64/\w<2^(k+L)/\2^(k+L-1)<=w:=by
  intro k x hx l he m;obtain ⟨L,g,i,e3,e4⟩:=Cu hx;obtain ⟨h1,h2⟩:=e4.resolve_left zO;have h:IntKind.u8.wrap (x:Int)=(x:Int):=by
   show (x:Int) % 256=x;omega
  obtain ⟨h3,h4⟩:=Oj he e3 h1 h2;refine ⟨L,by rw [h]; exact g,by rw [wrap_i64] <;> omega,by rw [wrap_i64] <;> omega,zO,zO,h3,h4⟩
 have a:∀ n:Nat,n<100->IntKind.i64.wrap (n:Int)=(n:Int):=fun n hn=>by rw [wrap_i64] <;> omega
 simp -dsimp (maxSteps:=1000000) (disch:=(first | omega | assumption | exact aF _ | exact bi _ _ | exact bB | exact cK _ _ _ | exact bS _ _ | exact bJ _ _ _ _ _ _ | exact cQ _ _ | exact bX _)) only [↓wD,wC,Nat.reduceLT,Nat.reduceEqDiff,Nat.reduceAdd,reduceIte,reduceCtorEq,Nat.reduceBEq,Int.reduceEq,Int.reduceLT,Int.reduceLE,Int.reduceAdd,Int.reduceSub,hl,f,qA,yS,↓cN];refine iteH.split (fun h1=>?_) fun h1=>?_
 all_goals
  simp -dsimp (maxSteps:=1000000) (disch:=(first | omega | assumption | exact aF _ | exact bi _ _ | exact bB | exact cK _ _ _ | exact bS _ _ | exact bJ _ _ _ _ _ _ | exact cQ _ _ | exact bX _)) only [↓wD,wC,Nat.reduceLT,Nat.reduceEqDiff,Nat.reduceAdd,reduceIte,reduceCtorEq,Nat.reduceBEq,Int.reduceEq,Int.reduceLT,Int.reduceLE,Int.reduceAdd,Int.reduceSub,hl,f,qA,yS,↓cN];refine iteH.split (fun h2=>?_) fun h2=>?_
 all_goals
  simp -dsimp (maxSteps:=1000000) (disch:=(first | omega | assumption | exact aF _ | exact bi _ _ | exact bB | exact cK _ _ _ | exact bS _ _ | exact bJ _ _ _ _ _ _ | exact cQ _ _ | exact bX _)) only [↓wD,wC,Nat.reduceLT,Nat.reduceEqDiff,Nat.reduceAdd,reduceIte,reduceCtorEq,Nat.reduceBEq,Int.reduceEq,Int.reduceLT,Int.reduceLE,Int.reduceAdd,Int.reduceSub,hl,f,qA,yS,↓cN];refine iteH.split (fun h3=>?_) fun h3=>?_
 ·have he:w / 2^56=w / 4294967296 / 65536 / 256:=zO;obtain ⟨L,f1,b,f3,f4,d,f6,e⟩:=fin 56 (w / 4294967296 / 65536 / 256) zO zO he zO;have c:IntKind.i64.wrap (56+(L:Int))=((56+L:Nat):Int):=by rw [wrap_i64] <;> omega
  simp -dsimp (maxSteps:=1000000) (disch:=(first | omega | assumption | exact aF _ | exact bi _ _ | exact bB | exact cK _ _ _ | exact bS _ _ | exact bJ _ _ _ _ _ _ | exact cQ _ _ | exact bX _)) only [↓wD,wC,Nat.reduceLT,Nat.reduceEqDiff,Nat.reduceAdd,reduceIte,reduceCtorEq,Nat.reduceBEq,Int.reduceEq,Int.reduceLT,Int.reduceLE,Int.reduceAdd,Int.reduceSub,hl,f,qA,yS,↓cN,f1,b,c,(show IntKind.i64.wrap 16=16 from a 16 zO),(show IntKind.i64.wrap 40=40 from a 40 zO),(show IntKind.i64.wrap 48=48 from a 48 zO),(show IntKind.i64.wrap 56=56 from a 56 zO),(show IntKind.i64.wrap 24=24 from a 24 zO),(show IntKind.i64.wrap 8=8 from a 8 zO)];exact ⟨⟨56+L,rfl,f4,d,f6,e⟩,zK⟩
 ·have he:w / 2^48=w / 4294967296 / 65536:=zO;obtain ⟨L,f1,b,f3,f4,d,f6,e⟩:=fin 48 (w / 4294967296 / 65536) zO zO he zO;have c:IntKind.i64.wrap (48+(L:Int))=((48+L:Nat):Int):=by rw [wrap_i64] <;> omega
  simp -dsimp (maxSteps:=1000000) (disch:=(first | omega | assumption | exact aF _ | exact bi _ _ | exact bB | exact cK _ _ _ | exact bS _ _ | exact bJ _ _ _ _ _ _ | exact cQ _ _ | exact bX _)) only [↓wD,wC,Nat.reduceLT,Nat.reduceEqDiff,Nat.reduceAdd,reduceIte,reduceCtorEq,Nat.reduceBEq,Int.reduceEq,Int.reduceLT,Int.reduceLE,Int.reduceAdd,Int.reduceSub,hl,f,qA,yS,↓cN,f1,b,c,(show IntKind.i64.wrap 16=16 from a 16 zO),(show IntKind.i64.wrap 40=40 from a 40 zO),(show IntKind.i64.wrap 48=48 from a 48 zO),(show IntKind.i64.wrap 56=56 from a 56 zO),(show IntKind.i64.wrap 24=24 from a 24 zO),(show IntKind.i64.wrap 8=8 from a 8 zO)];exact ⟨⟨48+L,rfl,f4,d,f6,e⟩,zK⟩
 ·have he:w / 2^40=w / 4294967296 / 256:=zO;obtain ⟨L,f1,b,f3,f4,d,f6,e⟩:=fin 40 (w / 4294967296 / 256) zO zO he zO;have c:IntKind.i64.wrap (40+(L:Int))=((40+L:Nat):Int):=by rw [wrap_i64] <;> omega
  simp -dsimp (maxSteps:=1000000) (disch:=(first | omega | assumption | exact aF _ | exact bi _ _ | exact bB | exact cK _ _ _ | exact bS _ _ | exact bJ _ _ _ _ _ _ | exact cQ _ _ | exact bX _)) only [↓wD,wC,Nat.reduceLT,Nat.reduceEqDiff,Nat.reduceAdd,reduceIte,reduceCtorEq,Nat.reduceBEq,Int.reduceEq,Int.reduceLT,Int.reduceLE,Int.reduceAdd,Int.reduceSub,hl,f,qA,yS,↓cN,f1,b,c,(show IntKind.i64.wrap 16=16 from a 16 zO),(show IntKind.i64.wrap 40=40 from a 40 zO),(show IntKind.i64.wrap 48=48 from a 48 zO),(show IntKind.i64.wrap 56=56 from a 56 zO),(show IntKind.i64.wrap 24=24 from a 24 zO),(show IntKind.i64.wrap 8=8 from a 8 zO)];exact ⟨⟨40+L,rfl,f4,d,f6,e⟩,zK⟩
 ·have he:w / 2^32=w / 4294967296:=zO;obtain ⟨L,f1,b,f3,f4,d,f6,e⟩:=fin 32 (w / 4294967296) zO zO he zO;have c:IntKind.i64.wrap (32+(L:Int))=((32+L:Nat):Int):=by rw [wrap_i64] <;> omega
  simp -dsimp (maxSteps:=1000000) (disch:=(first | omega | assumption | exact aF _ | exact bi _ _ | exact bB | exact cK _ _ _ | exact bS _ _ | exact bJ _ _ _ _ _ _ | exact cQ _ _ | exact bX _)) only [↓wD,wC,Nat.reduceLT,Nat.reduceEqDiff,Nat.reduceAdd,reduceIte,reduceCtorEq,Nat.reduceBEq,Int.reduceEq,Int.reduceLT,Int.reduceLE,Int.reduceAdd,Int.reduceSub,hl,f,qA,yS,↓cN,f1,b,c,(show IntKind.i64.wrap 16=16 from a 16 zO),(show IntKind.i64.wrap 40=40 from a 40 zO),(show IntKind.i64.wrap 48=48 from a 48 zO),(show IntKind.i64.wrap 56=56 from a 56 zO),(show IntKind.i64.wrap 24=24 from a 24 zO),(show IntKind.i64.wrap 8=8 from a 8 zO)];exact ⟨⟨32+L,rfl,f4,d,f6,e⟩,zK⟩
 ·have he:w / 2^24=w / 65536 / 256:=zO;obtain ⟨L,f1,b,f3,f4,d,f6,e⟩:=fin 24 (w / 65536 / 256) zO zO he zO;have c:IntKind.i64.wrap (24+(L:Int))=((24+L:Nat):Int):=by rw [wrap_i64] <;> omega
  simp -dsimp (maxSteps:=1000000) (disch:=(first | omega | assumption | exact aF _ | exact bi _ _ | exact bB | exact cK _ _ _ | exact bS _ _ | exact bJ _ _ _ _ _ _ | exact cQ _ _ | exact bX _)) only [↓wD,wC,Nat.reduceLT,Nat.reduceEqDiff,Nat.reduceAdd,reduceIte,reduceCtorEq,Nat.reduceBEq,Int.reduceEq,Int.reduceLT,Int.reduceLE,Int.reduceAdd,Int.reduceSub,hl,f,qA,yS,↓cN,f1,b,c,(show IntKind.i64.wrap 16=16 from a 16 zO),(show IntKind.i64.wrap 40=40 from a 40 zO),(show IntKind.i64.wrap 48=48 from a 48 zO),(show IntKind.i64.wrap 56=56 from a 56 zO),(show IntKind.i64.wrap 24=24 from a 24 zO),(show IntKind.i64.wrap 8=8 from a 8 zO)];exact ⟨⟨24+L,rfl,f4,d,f6,e⟩,zK⟩
 ·have he:w / 2^16=w / 65536:=zO;obtain ⟨L,f1,b,f3,f4,d,f6,e⟩:=fin 16 (w / 65536) zO zO he zO;have c:IntKind.i64.wrap (16+(L:Int))=((16+L:Nat):Int):=by rw [wrap_i64] <;> omega
  simp -dsimp (maxSteps:=1000000) (disch:=(first | omega | assumption | exact aF _ | exact bi _ _ | exact bB | exact cK _ _ _ | exact bS _ _ | exact bJ _ _ _ _ _ _ | exact cQ _ _ | exact bX _)) only [↓wD,wC,Nat.reduceLT,Nat.reduceEqDiff,Nat.reduceAdd,reduceIte,reduceCtorEq,Nat.reduceBEq,Int.reduceEq,Int.reduceLT,Int.reduceLE,Int.reduceAdd,Int.reduceSub,hl,f,qA,yS,↓cN,f1,b,c,(show IntKind.i64.wrap 16=16 from a 16 zO),(show IntKind.i64.wrap 40=40 from a 40 zO),(show IntKind.i64.wrap 48=48 from a 48 zO),(show IntKind.i64.wrap 56=56 from a 56 zO),(show IntKind.i64.wrap 24=24 from a 24 zO),(show IntKind.i64.wrap 8=8 from a 8 zO)];exact ⟨⟨16+L,rfl,f4,d,f6,e⟩,zK⟩
 ·have he:w / 2^8=w / 256:=zO;obtain ⟨L,f1,b,f3,f4,d,f6,e⟩:=fin 8 (w / 256) zO zO he zO;have c:IntKind.i64.wrap (8+(L:Int))=((8+L:Nat):Int):=by rw [wrap_i64] <;> omega
  simp -dsimp (maxSteps:=1000000) (disch:=(first | omega | assumption | exact aF _ | exact bi _ _ | exact bB | exact cK _ _ _ | exact bS _ _ | exact bJ _ _ _ _ _ _ | exact cQ _ _ | exact bX _)) only [↓wD,wC,Nat.reduceLT,Nat.reduceEqDiff,Nat.reduceAdd,reduceIte,reduceCtorEq,Nat.reduceBEq,Int.reduceEq,Int.reduceLT,Int.reduceLE,Int.reduceAdd,Int.reduceSub,hl,f,qA,yS,↓cN,f1,b,c,(show IntKind.i64.wrap 16=16 from a 16 zO),(show IntKind.i64.wrap 40=40 from a 40 zO),(show IntKind.i64.wrap 48=48 from a 48 zO),(show IntKind.i64.wrap 56=56 from a 56 zO),(show IntKind.i64.wrap 24=24 from a 24 zO),(show IntKind.i64.wrap 8=8 from a 8 zO)];exact ⟨⟨8+L,rfl,f4,d,f6,e⟩,zK⟩
 ·have he:w / 2^0=w:=zO;obtain ⟨L,f1,b,f3,f4,d,f6,e⟩:=fin 0 (w) zO zO he zO;have c:IntKind.i64.wrap (0+(L:Int))=((0+L:Nat):Int):=by rw [wrap_i64] <;> omega
  simp -dsimp (maxSteps:=1000000) (disch:=(first | omega | assumption | exact aF _ | exact bi _ _ | exact bB | exact cK _ _ _ | exact bS _ _ | exact bJ _ _ _ _ _ _ | exact cQ _ _ | exact bX _)) only [↓wD,wC,Nat.reduceLT,Nat.reduceEqDiff,Nat.reduceAdd,reduceIte,reduceCtorEq,Nat.reduceBEq,Int.reduceEq,Int.reduceLT,Int.reduceLE,Int.reduceAdd,Int.reduceSub,hl,f,qA,yS,↓cN,f1,b,c,(show IntKind.i64.wrap 16=16 from a 16 zO),(show IntKind.i64.wrap 40=40 from a 40 zO),(show IntKind.i64.wrap 48=48 from a 48 zO),(show IntKind.i64.wrap 56=56 from a 56 zO),(show IntKind.i64.wrap 24=24 from a 24 zO),(show IntKind.i64.wrap 8=8 from a 8 zO)];exact ⟨⟨0+L,by rw [Xg],f4,d,f6,e⟩,zK⟩
def C7 (C:Code tab) (f:Wf H) {w:Nat} (h0:0<w) (b:w<18446744073709551616) :
  Ans tab (.fn dP [.int .u64 (w:Int)]) H fun v H'=>(∃ z:Nat,v=.int .i64 (z:Int)/\z<64/\w*2^z<18446744073709551616/\9223372036854775808<=w*2^z)/\Kp H H':=by
 refine cz C.q198 zU fun T hl a=>?_;refine zW (aB hl a) ?_;refine AnsH.use (BB C zF h0 b) ?_;rintro v H2 ⟨⟨L,rfl,h1,h2,h3,h4⟩,c⟩;obtain ⟨k2,_,_⟩:=zT H zK c;have d:IntKind.i64.wrap (64-(L:Int))=((64-L:Nat):Int):=by rw [wrap_i64] <;> omega
 refine zW (aC hl a d) ?_;refine ⟨⟨64-L,rfl,zO,?_,?_⟩,zK⟩
 ·have:=YK h3 (Xh (n:=64-L) (show 0<2 by decide))
  rw [<- Xw] at this;have e:L+(64-L)=64:=zO;rw [e] at this;exact this
 ·have:=WJ (2^(64-L)) h4
  rw [<- Xw] at this;have e:L-1+(64-L)=63:=zO;rw [e] at this;exact this
end
def Same.set {D:List Nat} {T T1:Tm} {i:Nat} {v:AV} (h:Same D T T1) (hi:i∈D):Same D T (T1.set i v) :=
 ⟨by simp [h.len],fun s hs=>by rw [Vb _ _ _ _ (fun e=>hs (by rw [<- e]; exact hi))]; exact h.at_ s hs⟩
def Tz (a:Nat):b7 .mul .int (.int .u64 (a:Int)) (.int .u64 4294967296)=some (.int .u64 ((a*4294967296 % 18446744073709551616:Nat):Int)):=xH a 4294967296
def Jw (a:Nat):b7 .mul .int (.int .u64 4294967296) (.int .u64 (a:Int))=some (.int .u64 ((4294967296*a % 18446744073709551616:Nat):Int)):=xH 4294967296 a
def tX {a:Nat} (h:0<a) (ha:a<18446744073709551616):b7 .sub .int (.int .u64 (a:Int)) (.int .u64 1)=some (.int .u64 ((a-1:Nat):Int)):=by
 rw [show (1:Int)=((1:Nat):Int) from rfl,xG a 1 zO];have e:(a+18446744073709551616-1) % 18446744073709551616=a-1:=zO;rw [e]
def sub64 {z:Nat} (h:z<=64):b7 .sub .int (.int .u64 64) (.int .u64 (z:Int))=some (.int .u64 ((64-z:Nat):Int)):=by
 rw [show (64:Int)=((64:Nat):Int) from rfl,xG 64 z zO];have e:(64+18446744073709551616-z) % 18446744073709551616=64-z:=zO;rw [e]
def M9 {u n p R:Nat} (h:p+R=u*4294967296+n) (a:R<18446744073709551616):((u*4294967296 % 18446744073709551616+n) % 18446744073709551616+18446744073709551616-p % 18446744073709551616) % 18446744073709551616=R:=zO
section
variable {Y a b u n q r:Nat}
def yn (c:Y=a*4294967296+b) (d:u<Y) (hn:n<4294967296) (e:q*a+r=u) (h:4294967296<=q\/4294967296*r+n<q*b):(u*4294967296+n) / Y<q:=by
 apply (WY zO).2
 rcases h with h | h
 ·have:=WJ Y h
  omega
 ·have h1:q*Y=(q*a)*4294967296+q*b:=by rw [c,Xy,Xj]
  rw [h1]
  generalize q*a=p at *
  omega
def mN (c:Y=a*4294967296+b) (h0:0<Y) (e:q*a+r=u) (h:q*b<=4294967296*r+n):q<=(u*4294967296+n) / Y:=by
 apply (Z7 h0).2
 have h1:q*Y=(q*a)*4294967296+q*b:=by rw [c,Xy,Xj]
 rw [h1]
 generalize q*a=p at *
 omega
def nS (hb:b<4294967296) (hq:q<=4294967296) (hr:4294967296<=r):q*b<=4294967296*r+n:=by
 have h1:q*b<=4294967296*4294967295:=X3 hq zO;omega
def ym (c:Y=a*4294967296+b) (hb:b<4294967296) (ha:2147483648<=a) (d:u<Y) (hn:n<4294967296):u / a<=4294967297/\(u*4294967296+n) / Y<=u / a:=by
 have h0:0<a:=zO;have e:=XL u a;have hr:u % a<a:=Xp _ h0;rw [WR] at e;refine ⟨?_,?_⟩
 ·apply Ze
  apply (WY h0).2
  omega
 ·apply Ze
  apply (WY zO).2
  have h1:(u / a+1)*Y=((u / a+1)*a)*4294967296+(u / a+1)*b:=by rw [c,Xy,Xj]
  have h2:(u / a+1)*a=u / a*a+a:=by rw [XI,Zp]
  rw [Nat.succ_eq_add_one,h1,h2]
  generalize u / a*a=p at *
  omega
end
def mF {tab:Nat->Option au} {rd:Bool} {id:Nat} {c:ACode} {T:Tm} {H:Heap} {Q:Ex->Tm->Heap->Prop} {L:Nat} (H0:Heap) (b:List Nat) (P:Nat->List AV->Heap->Prop) (R:List AV->Heap->Prop) (j:Nat)
  (hl:T.length=L) (hp:jf c=true) (p:Kp H0 H) (h0:P j (b.map (ad T)) H)
  (hb:∀ k T1 a,T1.length=L->Same (gh c) T T1->Kp H0 a->P k (b.map (ad T1)) a->WC tab rd c T1 a (RV id (fun T2 H2=>Kp H0 H2/\∃ d,d<k/\P d (b.map (ad T2)) H2) (fun x T2 H2=>x=.nrm/\Kp H0 H2/\R (b.map (ad T2)) H2)))
  (he:∀ T1 a,T1.length=L->Same (gh c) T T1->Kp H0 a->R (b.map (ad T1)) a->Q .nrm T1 a):WC tab rd (O5 id c) T H Q:=by
 unfold O5;refine WB.wcLoop ?_;refine Dk (fun k T1 a=>T1.length=L/\Same (gh c) T T1/\Kp H0 a/\P k (b.map (ad T1)) a) ?_ j T H ⟨hl,Same.refl _ _,p,h0⟩;rintro k T1 a ⟨f,h,q,m⟩;refine ((hb k T1 a f h q m).wb.same hp).mono ?_;rintro x T2 H2 ⟨g,hq⟩;have i:Same (gh c) T T2:=(h.trans g).wide fun s hs=>by simpa using hs
 cases x with
 | nrm =>
  obtain ⟨r,d,o,n⟩:=hq;exact ⟨d,o,g.len.trans f,i,r,n⟩
 | exit e =>
  simp only [RV] at hq;show uF id Q (.exit e) T2 H2;simp only [uF];by_cases h1:e=id
  ·rw [if_pos h1] at hq ⊢;exact he T2 H2 (g.len.trans f) i hq.2.1 hq.2.2
  ·rw [if_neg h1] at hq;exact absurd hq.1 (by simp)
 | goto l=>exact absurd hq.1 (by simp)
 | ret=>exact absurd hq.1 (by simp)
section
variable {tab:Nat->Option au} {H:Heap}
set_option maxHeartbeats 1000000 in
def BC (C:Code tab) (hw:Wf H) {hi lo y:Nat} (hy:hi<y) (U:lo<18446744073709551616) (aH:y<18446744073709551616) :
  Ans tab (.fn jG [.int .u64 (hi:Int),.int .u64 (lo:Int),.int .u64 (y:Int)]) H fun v H'=>v=.tup [.int .u64 (((hi*B+lo) / y:Nat):Int),.int .u64 (((hi*B+lo) % y:Nat):Int)]/\Kp H H':=by
 refine mz C.q207 zU fun T hl g i j=>?_;have e0:¬ (y:Int)=0:=zO;have e1:¬ y<=hi:=zO;refine zW (fy hl g i j e0 e1) ?_;refine iteH.split (fun h0=>?_) (fun h0=>?_)
 ·have ay:hi=0:=zO;subst ay;have q1:=Ri (a:=lo) (b:=y) U zO;have q2:=Tv (a:=lo) (b:=y) zO;rw [ZR,Xg];refine zW (aZ hl g i j) ?_;refine aJ ?_;refine zD (fy hl g i j q1 q2) ?_;exact zK
 ·refine zW (aZ hl g i j) ?_;refine AnsH.use (C7 C zF zO aH) ?_;rintro v H2 ⟨⟨z,rfl,hz,W,aI⟩,aA⟩;obtain ⟨k2,_,w2⟩:=zT H zK aA;have az:IntKind.u64.wrap (z:Int)=(z:Int):=gP zO zO;have O:0<2^z:=Xh zU;obtain ⟨Y,J⟩:∃ Y,y*2^z=Y:=⟨_,rfl⟩
  rw [J] at W aI;have s1:b7 .shl .int (.int .u64 (y:Int)) (.int .u64 (z:Int))=some (.int .u64 (Y:Int)):=by rw [sW zO,J,Xf W]
  have s2:=sub64 (z:=z) zO;have af:hi*2^z<18446744073709551616:=Nat.lt_trans (YK hy O) (by rw [J]; exact W);have s3:b7 .shl .int (.int .u64 (hi:Int)) (.int .u64 (z:Int))=some (.int .u64 ((hi*2^z:Nat):Int)):=by rw [sW zO,Xf af]
  have s4:b7 .shr .int (.int .u64 (lo:Int)) (.int .u64 ((64-z:Nat):Int))=some (.int .u64 ((lo / 2^(64-z):Nat):Int)):=BD zO;have Z:B=2^(64-z)*2^z:=by
   rw [<- Xw]; have:64-z+z=64:=zO;rw [this]
  have aC:lo / 2^(64-z)<2^z:=by
   apply (WY (Xh zU)).2
   rw [WR,<- Z]; exact U
  obtain ⟨u,hu⟩:∃ u,hi*2^z+lo / 2^(64-z)=u:=⟨_,rfl⟩
  have s5:b7 .or .int (.int .u64 ((hi*2^z:Nat):Int)) (.int .u64 ((lo / 2^(64-z):Nat):Int))=some (.int .u64 (u:Int)):=by
   rw [wx af (XD (Y4 _ _) U),Nat.or_comm,WR hi,DR aC,<- hu,WR hi,Zb]
  obtain ⟨m,hm⟩:∃ m,lo*2^z % B=m:=⟨_,rfl⟩
  have a1:m<18446744073709551616:=by rw [<- hm]; exact Xp _ zU
  have s6:b7 .shl .int (.int .u64 (lo:Int)) (.int .u64 (z:Int))=some (.int .u64 (m:Int)):=by rw [sW zO,hm]
  have hN:(hi*B+lo)*2^z=u*B+m:=by
   have h1:=XL (lo*2^z) B;rw [hm] at h1;have h2:lo*2^z / B=lo / 2^(64-z):=by rw [Z,Z8 _ _ O]
   rw [h2] at h1;rw [XI,<- h1,<- hu,XI,Zs,WR B];omega
  have ar:u<Y:=by
   have h1:(hi*B+lo)*2^z<y*B*2^z:=by
    refine YK ?_ O
    have:(hi+1)*B<=y*B:=WJ B hy
    rw [XI] at this;unfold B at *; omega
   rw [hN,Zs,J] at h1;unfold B at h1; omega
  obtain ⟨a,ha⟩:∃ a,Y / 4294967296=a:=⟨_,rfl⟩
  obtain ⟨b,hb⟩:∃ b,Y % 4294967296=b:=⟨_,rfl⟩
  obtain ⟨f,aE⟩:∃ f,m / 4294967296=f:=⟨_,rfl⟩
  obtain ⟨c,aD⟩:∃ c,m % 4294967296=c:=⟨_,rfl⟩
  have D:Y=a*4294967296+b:=zO;have K:b<4294967296:=zO;have aa:2147483648<=a:=zO;have ah:f<4294967296:=zO;have ag:c<4294967296:=zO;have aj:∀ x:Nat,x<18446744073709551616->b7 .quo .int (.int .u64 (x:Int)) (.int .u64 (a:Int))=some (.int .u64 ((x / a:Nat):Int)):=fun x hx=>Ri hx zO;have am:∀ x:Nat,x<18446744073709551616->x / a*a % 18446744073709551616=x / a*a/\(x+18446744073709551616-x / a*a) % 18446744073709551616=x % a/\x / a*a+x % a=x:=by
   intro x hx;have h1:=XL x a;rw [WR] at h1
   generalize x / a*a=p at *
   generalize x % a=t at *
   omega
  have qu:=aj u zO;obtain ⟨aN,aO,aP⟩:=am u zO;refine zW (Pz hl g i j az s1 s2 s3 s4 s5 s6 ha hb aE aD qu aN aO) ?_;obtain ⟨Ts,Uj⟩:=ym D K aa ar ah;have ae:∀ x:Nat,x % a<4294967296:=fun x=>Nat.lt_trans (Xp _ zO) zO;refine mF H [15,16] (fun k vs H'=>∃ q r:Nat,vs=[.int .u64 (q:Int),.int .u64 (r:Int)]/\k=q/\q*a+r=u/\(u*4294967296+f) / Y<=q/\q<=4294967297/\r<4294967296) (fun vs H'=>∃ r,vs=[.int .u64 (((u*4294967296+f) / Y:Nat):Int),r]) (u / a) (by simp only [jL]; exact hl) rfl zK ⟨u / a,u % a,by exact zV (aZ hl g i j),rfl,aP,Uj,Ts,ae u⟩ ?_ ?_
  ·rintro k T1 H1 d w L ⟨q,r,A,S,e,hge,hq,hr⟩;obtain rfl:=S.symm;have w1:=L.wf;have aK:=L.le;simp only [SA,WF,Ud,and_true] at A;obtain ⟨s,vr⟩:=A;have o:ad T1 9=.int .u64 (a:Int):=(w.at_ 9 zU).trans (zV (aZ hl g i j));have l:ad T1 10=.int .u64 (b:Int):=(w.at_ 10 zU).trans (zV (aZ hl g i j));have un:ad T1 13=.int .u64 (f:Int):=(w.at_ 13 zU).trans (zV (aZ hl g i j));have step:4294967296<=q\/4294967296*r+f<q*b->0<q/\(q-1)*a+(r+a)=u/\(u*4294967296+f) / Y<=q-1:=by
    intro h;have h1:=yn D ar ah e h;have h2:0<q:=XD (WG _) h1;refine ⟨h2,?_,ZD h1⟩;have h3:q*a=(q-1)*a+a:=by rw [<- Yk]; congr 1; omega
    omega
   have w2:(r+a) % 18446744073709551616=r+a:=zO;by_cases R:4294967296<=q
   ·have E:(4294967296:Int)<=(q:Int):=zO;obtain ⟨p1,p2,p3⟩:=step (.inl R);have z1:=tX (a:=q) p1 zO;refine zW (lh d s vr o l un E z1 w2) ?_;refine iteH.split (fun h=>?_) fun h=>?_
    ·refine zW (lp d s vr o l un z1 w2) ?_
     have:=mN (Y:=Y) D zO p2 (nS K (q:=q-1) (n:=f) zO zO)
     exact ⟨zK,_,by rw [YT this p3]⟩
    ·refine zW (lp d s vr o l un z1 w2) ?_;exact ⟨zK,q-1,zO,q-1,r+a,rfl,rfl,p2,p3,zO,zO⟩
   ·have E:¬ (4294967296:Int)<=(q:Int):=zO;have N:q*b % 18446744073709551616=q*b:=by
     apply Xf
     have:q*b<=4294967295*4294967295:=X3 zO zO
     omega
    have m2:4294967296*r % 18446744073709551616=4294967296*r:=zO;have m3:(4294967296*r+f) % 18446744073709551616=4294967296*r+f:=zO;by_cases F:4294967296*r+f<q*b
    ·obtain ⟨p1,p2,p3⟩:=step (.inr F);have z1:=tX (a:=q) p1 zO;refine zW (Dd d s vr o l un E @F N m2 m3 @Jw z1 w2) ?_;refine iteH.split (fun h=>?_) fun h=>?_
     ·refine zW (lp d s vr o l un z1 w2) ?_
      have:=mN (Y:=Y) D zO p2 (nS K (q:=q-1) (n:=f) zO zO)
      exact ⟨zK,_,by rw [YT this p3]⟩
     ·refine zW (lp d s vr o l un z1 w2) ?_;exact ⟨zK,q-1,zO,q-1,r+a,rfl,rfl,p2,p3,zO,zO⟩
    ·refine zW (BL d s vr o l un E @F N m2 m3 @Jw) ?_
     have:=mN (Y:=Y) D zO e (YV F)
     exact ⟨zK,_,by rw [YT this hge]⟩
  ·rintro T1 H1 d w L ⟨r,A⟩;have w1:=L.wf;have aK:=L.le;simp only [SA,WF,Ud,and_true] at A;obtain ⟨X,-⟩:=A;obtain ⟨q1,V⟩:∃ q1,(u*4294967296+f) / Y=q1:=⟨_,rfl⟩
   obtain ⟨u1,ao⟩:∃ u1,(u*4294967296+f) % Y=u1:=⟨_,rfl⟩
   have d1:=XL (u*4294967296+f) Y;rw [V,ao,WR Y] at d1;have aq:u1<Y:=by rw [<- ao]; exact Xp _ zO
   rw [V] at X;have t2:ad T1 2=.int .u64 (Y:Int):=(w.at_ 2 zU).trans (zV (aZ hl g i j));have t8:ad T1 8=.int .u64 (z:Int):=(w.at_ 8 zU).trans (zV (aZ hl g i j));have t9:ad T1 9=.int .u64 (a:Int):=(w.at_ 9 zU).trans (zV (aZ hl g i j));have Q:ad T1 10=.int .u64 (b:Int):=(w.at_ 10 zU).trans (zV (aZ hl g i j));have aV:ad T1 11=.int .u64 (u:Int):=(w.at_ 11 zU).trans (zV (aZ hl g i j));have aW:ad T1 13=.int .u64 (f:Int):=(w.at_ 13 zU).trans (zV (aZ hl g i j));have P:ad T1 14=.int .u64 (c:Int):=(w.at_ 14 zU).trans (zV (aZ hl g i j));have f1:((u*4294967296 % 18446744073709551616+f) % 18446744073709551616+18446744073709551616-q1*Y % 18446744073709551616) % 18446744073709551616=u1:=M9 d1 zO;have aM:=aj u1 zO;obtain ⟨aQ,aR,aS⟩:=am u1 zO;obtain ⟨aT,aU⟩:=ym D K aa aq ag;refine zW (Dd d X t2 t8 t9 Q aV aW P @Tz f1 aM aQ aR) ?_;refine mF H [18,16] (fun k vs H'=>∃ q r:Nat,vs=[.int .u64 (q:Int),.int .u64 (r:Int)]/\k=q/\q*a+r=u1/\(u1*4294967296+c) / Y<=q/\q<=4294967297/\r<4294967296) (fun vs H'=>∃ r,vs=[.int .u64 (((u1*4294967296+c) / Y:Nat):Int),r]) (u1 / a) (by simp only [jL]; exact d) rfl zK ⟨u1 / a,u1 % a,by exact zV d,rfl,aS,aU,aT,ae u1⟩ ?_ ?_
   ·rintro k T2 H3 G I M ⟨q,r,A,S,e,hge,hq,hr⟩;obtain rfl:=S.symm;have w1:=M.wf;have aL:=M.le;simp only [SA,WF,Ud,and_true] at A;obtain ⟨s,vr⟩:=A;have o:ad T2 9=.int .u64 (a:Int):=(I.at_ 9 zU).trans (zV (aZ d t9 Q P));have l:ad T2 10=.int .u64 (b:Int):=(I.at_ 10 zU).trans (zV (aZ d t9 Q P));have un:ad T2 14=.int .u64 (c:Int):=(I.at_ 14 zU).trans (zV (aZ d t9 Q P));have step:4294967296<=q\/4294967296*r+c<q*b->0<q/\(q-1)*a+(r+a)=u1/\(u1*4294967296+c) / Y<=q-1:=by
     intro h;have h1:=yn D aq ag e h;have h2:0<q:=XD (WG _) h1;refine ⟨h2,?_,ZD h1⟩;have h3:q*a=(q-1)*a+a:=by rw [<- Yk]; congr 1; omega
     omega
    have w2:(r+a) % 18446744073709551616=r+a:=zO;by_cases R:4294967296<=q
    ·have E:(4294967296:Int)<=(q:Int):=zO;obtain ⟨p1,p2,p3⟩:=step (.inl R);have z1:=tX (a:=q) p1 zO;refine zW (lh G s vr o l un E z1 w2) ?_;refine iteH.split (fun h=>?_) fun h=>?_
     ·refine zW (lp G s vr o l un z1 w2) ?_
      have:=mN (Y:=Y) D zO p2 (nS K (q:=q-1) (n:=c) zO zO)
      exact ⟨zK,_,by rw [YT this p3]⟩
     ·refine zW (lp G s vr o l un z1 w2) ?_;exact ⟨zK,q-1,zO,q-1,r+a,rfl,rfl,p2,p3,zO,zO⟩
    ·have E:¬ (4294967296:Int)<=(q:Int):=zO;have N:q*b % 18446744073709551616=q*b:=by
      apply Xf
      have:q*b<=4294967295*4294967295:=X3 zO zO
      omega
     have m2:4294967296*r % 18446744073709551616=4294967296*r:=zO;have m3:(4294967296*r+c) % 18446744073709551616=4294967296*r+c:=zO;by_cases F:4294967296*r+c<q*b
     ·obtain ⟨p1,p2,p3⟩:=step (.inr F);have z1:=tX (a:=q) p1 zO;refine zW (Dd G s vr o l un E @F N m2 m3 @Jw z1 w2) ?_;refine iteH.split (fun h=>?_) fun h=>?_
      ·refine zW (lp G s vr o l un z1 w2) ?_
       have:=mN (Y:=Y) D zO p2 (nS K (q:=q-1) (n:=c) zO zO)
       exact ⟨zK,_,by rw [YT this p3]⟩
      ·refine zW (lp G s vr o l un z1 w2) ?_;exact ⟨zK,q-1,zO,q-1,r+a,rfl,rfl,p2,p3,zO,zO⟩
     ·refine zW (BL G s vr o l un E @F N m2 m3 @Jw) ?_
      have:=mN (Y:=Y) D zO e (YV F)
      exact ⟨zK,_,by rw [YT this hge]⟩
   ·rintro T2 H3 G I M ⟨r,A⟩;have w3:=M.wf;have aL:=M.le;simp only [SA,WF,Ud,and_true] at A;obtain ⟨av,-⟩:=A;obtain ⟨q0,hq0⟩:∃ q0,(u1*4294967296+c) / Y=q0:=⟨_,rfl⟩
    obtain ⟨r0,ak⟩:∃ r0,(u1*4294967296+c) % Y=r0:=⟨_,rfl⟩
    have d2:=XL (u1*4294967296+c) Y;rw [hq0,ak,WR Y] at d2;have al:r0<Y:=by rw [<- ak]; exact Xp _ zO
    rw [hq0] at av;have x2:ad T2 2=.int .u64 (Y:Int):=(I.at_ 2 zU).trans (zV (aB d t2));have x8:ad T2 8=.int .u64 (z:Int):=(I.at_ 8 zU).trans (zV (aB d t8));have aX:ad T2 14=.int .u64 (c:Int):=(I.at_ 14 zU).trans (zV (aB d P));have aY:ad T2 15=.int .u64 (q1:Int):=(I.at_ 15 zU).trans (zV (aB d X));have a0:ad T2 17=.int .u64 (u1:Int):=(I.at_ 17 zU).trans (zV d);have a3:q1<4294967296:=by
     rw [<- V]
     apply (WY zO).2
     omega
    have a2:q0<4294967296:=by
     rw [<- hq0]
     apply (WY zO).2
     omega
    have f2:(q1*4294967296 % 18446744073709551616+q0) % 18446744073709551616=q1*4294967296+q0:=zO;have f3:((u1*4294967296 % 18446744073709551616+c) % 18446744073709551616+18446744073709551616-q0*Y % 18446744073709551616) % 18446744073709551616=r0:=M9 d2 zO;have aG:b7 .shr .int (.int .u64 (r0:Int)) (.int .u64 (z:Int))=some (.int .u64 ((r0 / 2^z:Nat):Int)):=BD zO;refine zW (mo G av x2 x8 aX aY a0 @Tz f2 f3 aG) ?_;have ab:(hi*B+lo)*2^z=(q1*4294967296+q0)*Y+r0:=by
     rw [hN,XI,Zs];have e5:m=f*4294967296+c:=zO
     generalize q1*Y=p at *
     generalize q0*Y=p' at *
     unfold B;omega
    have aw:(hi*B+lo) / y=q1*4294967296+q0:=by
     rw [<- Z8 _ _ O,ab,J];rw [Zb,Z9 _ _ zO,Ys al,Xg]
    have ax:r0 / 2^z=(hi*B+lo) % y:=by
     have h1:(hi*B+lo)*2^z % (y*2^z)=r0:=by
      rw [ab,J,Zb,Nat.add_mul_mod_self_right,Xf al]
     rw [Nat.mul_mod_mul_right] at h1;rw [<- h1,Nat.mul_div_cancel _ O]
    rw [aw,ax];exact ⟨rfl,zK⟩
end
def zz:∀ {out:List Nat} {M:Nat},(∀ j,j<out.length->out.getD j 0=M / B^j % B)->M<B^out.length->val out=M
 | [],M,_,h=>by simp at h; simp [val,h]
 | a :: t,M,hd,h=>by
  have h0:=hd 0 (by simp);simp only [Y5,Zt,Nat.div_one] at h0;have b:val t=M / B:=by
   refine zz (fun j hj=>?_) ?_
   ·have:=hd (j+1) (by simpa using hj)
    rw [Yl] at this;rw [this,XE,Xc,WR B]
   ·apply (WY zU).2
    rw [<- Xc]; simpa using h
  simp only [val,b,h0];exact Nat.mod_add_div M B
def Il {out:List Nat} (h:∀ j,j<out.length->out.getD j 0<B):Lim out:=fun a ha=>by
 obtain ⟨j,hj,rfl⟩:=XH ha
 have:=h j hj
 rw [qf,zh hj] at this;exact this
def jt (n j:Nat):(ah n).getD j 0=n / B^j % B:=by
 have h1:(ah n).drop j=ah (n / B^j):=np j n;have h2:(ah n).getD j 0=((ah n).drop j).getD 0 0:=by
  rw [qf,qf,WX,Ye]
 rw [h2,h1];by_cases h0:n / B^j=0
 ·rw [h0,cD]; rfl
 ·rw [jr h0]; rfl
def GV {a c m M:Nat} (ha:a<c) (b:0<M):(a+c*m) % (c*M)=a+c*(m % M):=by
 have h1:m=m % M+M*(m / M):=(Nat.mod_add_div m M).symm;have h2:a+c*m=a+c*(m % M)+c*M*(m / M):=by
  conv=>lhs; rw [h1]
  rw [Xy,Xj]; omega
 have h3:a+c*(m % M)<c*M:=by
  have h4:c*(m % M+1)<=c*M:=YR c (Xp _ b);rw [Xy] at h4; omega
 rw [h2,Y7,Xf h3]
def AW {Y j r:Nat} (hr:r<64):Y / B^j % B / 2^r+2^(64-r)*(Y / B^(j+1) % B % 2^r)=Y / 2^r / B^j % B:=by
 have b:B=2^r*2^(64-r):=by
  rw [<- Xw]; have:r+(64-r)=64:=zO;rw [this]
 have p2:0<2^r:=Xh zU;have p3:0<2^(64-r):=Xh zU;have d:Y / 2^r / B^j=Y / B^j / 2^r:=by rw [XE,XE,WR]
 have e:Y / B^(j+1)=Y / B^j / B:=by rw [XE,Xc]
 rw [d,e]
 generalize Y / B^j=Z
 have f:Z=Z % B+B*(Z / B):=(Nat.mod_add_div Z B).symm;have hl:Z % B / 2^r<2^(64-r):=by
  apply (WY p2).2
  rw [WR,<- b]; exact Xp _ zU
 have h1:Z / 2^r=Z % B / 2^r+2^(64-r)*(Z / B):=by
  conv=>lhs; rw [f]
  rw [b,Xj,Nat.add_mul_div_left _ _ p2,<- b]
 have h2:Z / B % B % 2^r=Z / B % 2^r:=Nat.mod_mod_of_dvd _ ⟨2^(64-r),b⟩;rw [h1,h2]
 have:=GV (a:=Z % B / 2^r) (c:=2^(64-r)) (m:=Z / B) (M:=2^r) hl p2
 rw [WR (2^(64-r)) (2^r),<- b] at this;exact this.symm
def Jg {x r:Nat} (hr:r<=64):x*2^(64-r) % B=2^(64-r)*(x % 2^r):=by
 have a:B=2^(64-r)*2^r:=by
  rw [<- Xw]; have:64-r+r=64:=zO;rw [this]
 rw [a,WR x,Nat.mul_mod_mul_left]
def rC {l:List Nat} {i v:Nat} (h:i<l.length):(l.set i v).getD i 0=v:=by
 rw [qf,YP,if_pos rfl,if_pos h]; rfl
section
variable {tab:Nat->Option au} {H:Heap} {s:AV}
def N5 (C:Code tab) (hw:Wf H) {a:AV} {x k:Nat} (ha:cm H a x) (hx:Sm x) (hk:k<=65536) :
  Ans tab (.fn uq [a,.int .i64 (k:Int)]) H fun v H'=>∃ o,v=.tup [o,.int .i64 0]/\cm H' o (x / 2^k)/\Kp H H':=by
 refine bE C.q204 zU fun T hl f d=>?_;refine zW (aC hl f d) ?_;refine AnsH.eq (Cp C zF (ha.mono (zG H)) hx hk) fun H2 aj=>?_;obtain ⟨k2,_,w2⟩:=zT H zK aj;have n2:=k2.le;unfold Sm at hx;have hq:=NL (k:=k) (c:=64) zO zO;have hr:=NI (k:=k) (c:=64) zO;obtain ⟨q,eq⟩:∃ q,q=k / 64:=⟨_,rfl⟩
 obtain ⟨r,er⟩:∃ r,r=k % 64:=⟨_,rfl⟩
 rw [<- eq] at hq;rw [<- er] at hr;have aw:b7 .quo .int (.int .i64 (k:Int)) (.int .i64 64)=some (.int .i64 (q:Int)):=hq;have X:b7 .rem .int (.int .i64 (k:Int)) (.int .i64 64)=some (.int .i64 (r:Int)):=hr;have K:r<64:=zO;obtain ⟨n,hn⟩:∃ n,min q (ah x).length=n:=⟨_,rfl⟩
 have ar:If (.int .i64 (q:Int)) (.int .i64 ((ah x).length:Int))=some (.int .i64 (n:Int)):=by rw [zd]; congr 2; split <;> omega
 obtain ⟨s',e0,Z⟩:=SlV.lo (ha.mono k2.sub) .i64 n zO;have e':bU 1 a (some (.int .i64 (n:Int))) none none=some s':=e0;obtain ⟨l,t⟩:∃ l,(ah x).drop n=l:=⟨_,rfl⟩
 rw [t] at Z;have am:Lim l:=by rw [<- t]; exact (bI x).drop n
 have aG:l.length<=(ah x).length:=by rw [<- t,XF]; omega
 refine zW (ip hl f d aw ha.lenV ar e') ?_;refine AnsH.use (wN C zF (Z.mono (Sub.bump H2 _)) zO) ?_;rintro v M ⟨hv,ak,V⟩;obtain ⟨k3,_,w3⟩:=zT H zK ak;obtain ⟨N,z⟩:∃ N,l.length=N:=⟨_,rfl⟩
 have az:lenV v=some (.int .i64 (N:Int)):=by have:=hv.lenV; rwa [z] at this
 rw [z] at V;obtain ⟨b,hb⟩:∃ b,0<N->v=.own b 0 N N 1 false/\M.get b=some (.cells (aP l) ae true)/\H.next<=b:=by
  by_cases h0:0<N
  ·obtain ⟨b,h1,h2,h3⟩:=V h0
   have:H.next<=H2.next:=n2
   exact ⟨b,fun _=>⟨h1,h2,by have:H2.next<=b:=WK (W3 _ _) h3; omega⟩⟩
  ·exact ⟨0,fun h=>absurd h h0⟩
 obtain ⟨Y,s⟩:∃ Y,val l=Y:=⟨_,rfl⟩
 have ag:∀ j,l.getD j 0=Y / B^j % B:=by
  intro j;have h1:l=ah Y:=by
   rw [<- t,np] at s ⊢;rw [lA] at s; rw [s]
  rw [h1,jt]
 have O:Y<B^N:=by rw [<- s,<- z]; exact wI am
 refine zW (aZ hl f d az) ?_;refine aq H [] (fun i vs H'=>∃ out,(0<N->H'.get b=some (.cells (aP out) ae true))/\(N=0->Lb H' v [])/\out.length=N/\(∀ j,j<i->out.getD j 0=Y / 2^r / B^j % B)/\(∀ j,i<=j->out.getD j 0=Y / B^j % B)) (a:=0) (N:=N) rfl (by refine zW (aC hl f d) ?_; rfl) (zV (aC hl f d)) (WG _) zO (by simp only [jL,hl]; rfl) rfl (fun _ _ H' m h=>by
   obtain ⟨out,h1,h2,h3⟩:=h;exact ⟨out,h1,fun h0=>(h2 h0).mono (Sub.bump H' m),h3⟩) zK
  ⟨l,fun h0=>by exact zV ((hb h0).2.1),fun h0=>by
   have:l=[]:=Xl zO
   subst this; exact hv.mono (Sub.bump M _),z,fun j hj=>by omega,fun j _=>ag j⟩ ?_ ?_
 ·rintro i T1 F _ hi g Q D p ⟨out,b0,-,u,w,A⟩;simp only [jL,hl] at g;have w1:=p.wf;have aD:=p.le;obtain ⟨L,-,P⟩:=hb zO;have G:=b0 zO;have aH:=p.wf _ _ G;have E:ad T1 7=.own b 0 N N 1 false:=(D.at_ 7 zU).trans (zV (aZ hl f d L));have t1:ad T1 1=.int .i64 (k:Int):=(D.at_ 1 zU).trans (zV (aZ hl f d d));have ax:∀ y:Nat,b7 .shr .int (.int .u64 (y:Int)) (.int .i64 (r:Int))=some (.int .u64 ((y / 2^r:Nat):Int)):=fun y=>sV y r K;have ab:IntKind.i64.wrap ((i:Int)+1)=((i+1:Nat):Int):=by rw [wrap_i64] <;> omega
  have J:=A i (Jv _);refine zW (lp g E t1 Q @G X ax ab) ?_;refine iteH.split (fun h=>?_) fun h=>?_
  ·have av:=A (i+1) zO;have aA:IntKind.i64.wrap (64-(r:Int))=((64-r:Nat):Int):=by rw [wrap_i64] <;> omega
   have gi:(out.set i (out.getD i 0 / 2^r)).getD i 0=out.getD i 0 / 2^r:=rC zO;have af:(out.set i (out.getD i 0 / 2^r)).getD (i+1) 0=out.getD (i+1) 0:=bw zO;have S:out.getD i 0<18446744073709551616:=by rw [J]; exact Xp _ zU
   have aa:=sW (x:=out.getD (i+1) 0) (r:=64-r) zO (k:=.i64);have ay:out.getD i 0 / 2^r<2^(64-r):=by
    apply (WY (Xh zU)).2
    rw [<- Xw]
    have:64-r+r=64:=zO
    rw [this]; exact S
   have U:=wx (a:=out.getD i 0 / 2^r) (b:=out.getD (i+1) 0*2^(64-r) % B) (XD (Y4 _ _) S) (Xp _ zU);rw [Jg zO,DR ay] at U;rw [Jg zO] at aa;have ti:bN (aP (out.set i (out.getD i 0 / 2^r))) i none=some (.int .u64 ((out.getD i 0 / 2^r:Nat):Int)):=by rw [Dt (by simp; omega),gi]
   have aE:bN (aP (out.set i (out.getD i 0 / 2^r))) (i+1) none=some (.int .u64 ((out.getD (i+1) 0:Nat):Int)):=by rw [Dt (by simp; omega),af]
   refine aJ ?_;refine zD (BL g E t1 Q @G X aA ab ti aE aa U) ?_;refine ⟨zK,_,fun _=>rfl,fun h0=>by omega,by simp [u],fun j hj=>?_,fun j hj=>?_⟩
   ·by_cases I:j=i
    ·subst I;rw [rC (by simp; omega),J,av];exact AW K
    ·rw [bw zO,bw zO];exact w j zO
   ·rw [bw zO,bw zO];exact A j zO
  ·refine zW g ?_;refine ⟨zK,_,fun _=>rfl,fun h0=>by omega,by simp [u],fun j hj=>?_,fun j hj=>?_⟩
   ·by_cases I:j=i
    ·subst I;rw [rC zO,J,<- AW K];have h0:Y / B^(j+1)=0:=Ys (by
      have:j+1=N:=zO
      rw [this]; exact O)
     rw [h0]; simp
    ·rw [bw zO];exact w j zO
   ·rw [bw zO];exact A j zO
 ·rintro T1 F g D p ⟨out,b0,hz,u,w,-⟩;simp only [jL,hl] at g;have w1:=p.wf;have aD:=p.le;have E:ad T1 7=v:=(D.at_ 7 zU).trans (zV (aC hl f d));have ao:Lim out:=Il fun j hj=>by rw [w j zO]; exact Xp _ zU
  have hval:val out=Y / 2^r:=zz (fun j hj=>w j zO) (by rw [u]; exact XD (Y4 _ _) O);have ho:Lb F v out:=by
   by_cases h0:0<N
   ·obtain ⟨L,-,P⟩:=hb h0;rw [L];exact (vC (H0:=H) (ex:=false) (b0 h0) P u).sl
   ·have:out=[]:=Xl zO
    subst this; exact hz zO
  refine zW (aB g E) ?_;refine AnsH.use (vj C zF (ho.mono (Sub.bump F _)) zO) ?_;rintro v2 H4 ⟨h4,al⟩;obtain ⟨k4,_,_⟩:=zT H zK al;have e:val out=x / 2^k:=by
   have h1:Y=x / B^n:=by rw [<- s,<- t,np,lA]
   have h2:x / B^n=x / B^q:=by
    by_cases W:q<=(ah x).length
    ·rw [show n=q from by rw [<- hn,XJ W]]
    ·have h3:=iU x;have R:(ah x).length<=q:=Yx (Nat.lt_of_not_le W);rw [show n=(ah x).length from by rw [<- hn,Nat.min_eq_right R],Ys h3];exact (Ys (WP h3 (W8 zU R))).symm
   have h3:k=64*q+r:=zO;rw [hval,h1,h2,XE];congr 1;rw [h3,Xw,ZC]
  rw [eW ao,e] at h4;refine zW g ?_;exact ⟨v2,rfl,h4,zK⟩
end
def Ks {X w y:Nat}:X*B+y=X / w*B*w+(X % w*B+y):=by
 have h:=XL X w
 generalize X / w=q at *
 generalize X % w=r at *
 subst h
 grind
section
variable {tab:Nat->Option au} {H:Heap} {s:AV}
def Vq (C:Code tab) (b:Wf H) {sa:AV} (ha:One sa) :
  Ans tab (.fn cL [sa]) H fun v H'=>v=.fn (.func bh) [] [.ptr H.next 0]/\H'.get H.next=some (.cells [sa] aI true)/\H.next+1<=H'.next/\Kp H H':=by
 refine cz C.q206 zU fun T hl a=>?_;refine zW (aB hl a) ?_;exact ⟨zO,zK⟩
def ET (C:Code tab) {H0:Heap} {f g:Nat} {a:List Nat} {sa:AV} (J:Nat->Heap->Prop) (A:a.length<4611686018427387904)
  (y:Kp H0 H) (h0:J 0 H) (e:∀ k H m,J k H->J k (H.up m)) (hA:∀ k H,J k H->H.get g=some (.cells [sa] aI true)/\Lb H sa a)
  (hr:∀ i k H,i+k+1=a.length->Kp H0 H->J k H->Ans tab (.round f [.int .i64 (i:Int),.int .u64 (a.getD i 0:Nat)]) H fun v H'=>v=.bool true/\Kp H0 H'/\J (k+1) H') :
  Ans tab (.ent bh [.loopv f,.ptr g 0]) H fun _ H'=>Kp H0 H'/\J a.length H':=by
 refine ST C.q209 zU fun T hl c d=>?_;obtain ⟨q1,q2⟩:=hA _ _ h0;have u:IntKind.i64.wrap ((a.length:Int)-1)=(a.length:Int)-1:=by rw [wrap_i64] <;> omega
 refine zW (fy hl c d q1 q2.lenV u) ?_;refine bk H0 [3] (fun m vs H'=>∃ k,k<=a.length/\m=a.length-k/\vs=[.int .i64 ((a.length:Int)-1-(k:Int))]/\J k H') a.length (by simp only [jL]; exact hl) rfl zK ⟨0,WG _,rfl,by exact zV (cn hl c d @O0 @Int.sub_zero),e _ _ _ h0⟩ ?_;rintro m T1 o l n j ⟨k,z,rfl,b,h⟩;simp only [SA,WF,Ud,and_true] at b;have w1:=j.wf;have B:=j.le;obtain ⟨q1,q2⟩:=hA _ _ h;by_cases p:k=a.length
 ·have q:¬ (0:Int)<=(a.length:Int)-1-(k:Int):=zO;subst p;refine zW (aC l b q) ?_;exact ⟨zK,e _ _ _ h⟩
 ·obtain ⟨i,hi⟩:∃ i,i+k+1=a.length:=⟨a.length-k-1,zO⟩
  have w:(a.length:Int)-1-(k:Int)=(i:Int):=zO;rw [w] at b;have r:(0:Int)<=(i:Int):=zO;have t0:ad T1 0=.loopv f:=(n.at_ 0 zU).trans (zV (aB hl c));have t1:ad T1 1=.ptr g 0:=(n.at_ 1 zU).trans (zV (aZ hl c d d));have x1:=SlV.idx1 q2 .i64 i zO;have d1:=fU q2 (i:=i) zO;have s:∀ m,Ans tab (.round f [.int .i64 (i:Int),.int .u64 (a.getD i 0:Nat)]) (o.up m) fun v H'=>v=.bool true/\Kp H0 H'/\J (k+1) H':=fun m=>hr i k _ hi (j.up m) (e _ _ _ h);have t:IntKind.i64.wrap ((i:Int)-1)=(a.length:Int)-1-((k+1:Nat):Int):=by rw [wrap_i64] <;> omega
  refine zW (lp l b r t0 t1 q1 x1 d1) ?_;refine AnsH.eq (s _) fun H2 ⟨k2,x⟩=>?_;refine zW (aC l b t) ?_;exact ⟨zK,a.length-(k+1),zO,k+1,zO,rfl,rfl,e _ _ _ x⟩
def Gs (C:Code tab) (i:Wf H) {a b:AV} {x y:Nat} (ha:cm H a x) (hb:cm H b y) (hx:Sm x) (hy:Sm y) (h0:0<y) :
  Ans tab (.fn oM [a,b]) H fun v H'=>v=.int .i64 0/\Kp H H':=by
 refine bE C.q196 zU fun T hl c d=>?_;refine zW (aC hl c d) ?_;refine AnsH.eq (iw C zF (ha.mono (Sub.bump H _)) hx) fun H2 e=>?_;obtain ⟨k2,_,w2⟩:=zT H zK e;refine zW (aC hl c d) ?_;refine AnsH.eq (iw C zF (hb.mono k2.sub) hy) fun g f=>?_;obtain ⟨j,_,k⟩:=zT H zK f;have h:=bZ y;have hne:¬ ((ah y).length:Int)=0:=zO;refine zW (cn hl c d hb.lenV hne) ?_;exact zK
set_option maxHeartbeats 1000000 in
def OM (C:Code tab) (hw:Wf H) {a:AV} {x w:Nat} (ha:cm H a x) (hx:Sm x) (h0:0<w) (aj:w<18446744073709551616) :
  Ans tab (.fn uv [a,.int .u64 (w:Int)]) H fun v H'=>∃ q,v=.tup [q,.int .u64 ((x % w:Nat):Int),.int .i64 0]/\cm H' q (x / w)/\Kp H H':=by
 refine bE C.q197 zU fun T hl c d=>?_;have ak:¬ (w:Int)=0:=zO;unfold Sm at hx;obtain ⟨N,D⟩:∃ N,(ah x).length=N:=⟨_,rfl⟩
 have ad:∀ H' id,Hb H' id ae 1 8 [.int .u64 0] (.int .i64 (N:Int)) (.int .i64 (N:Int))=some (.own id 0 N N 1 true,H'.put id (.cells (aP (List.replicate N 0)) ae true)):=fun H' id =>
  (iy H' id ae 1 8 [.int .u64 0] .i64 .i64 N zO zO rfl).trans (by rw [nr])
 have aa:lenV a=some (.int .i64 (N:Int)):=by have:=ha.lenV; rwa [D] at this
 refine zW (aC hl c d) ?_;refine AnsH.eq (iw C zF (ha.mono (zG H)) hx) fun H2 z=>?_;obtain ⟨k2,_,w2⟩:=zT H zK z;have n2:=z.le;have p0:H2.get H.next=some (.cells [.int .u64 (w:Int)] ae true):=z.get (cY)
 have p1:H2.get (H.next+1)=some (.cells [.nilSl] aI true):=z.get (cY);have p2:H2.get (H.next+2)=some (.cells [.int .u64 0] ae true):=z.get (cY);have l0:=k2.wf _ _ p0;have l1:=k2.wf _ _ p1;have l2:=k2.wf _ _ p2;refine zW (lh hl c d p0 p1 p2 ak aa ad) ?_;refine AnsH.use (Vq C zF ha.one) ?_;rintro v b ⟨rfl,O,af,A⟩;simp only [next_put,bL] at O af ⊢;obtain ⟨k3,_,w3⟩:=zT H zK A;have q0:b.get H.next=some (.cells [.int .u64 (w:Int)] ae true):=A.get (zV p0)
 have q1:b.get (H.next+1)=some (.cells [.own (H2.next+5) 0 N N 1 true] aI true):=A.get (cY);have q2:b.get (H.next+2)=some (.cells [.int .u64 0] ae true):=A.get (zV p2);have qb:b.get (H2.next+5)=some (.cells (aP (List.replicate N 0)) ae true):=A.get (cY);have ao:∀ j,(List.replicate N 0).getD j 0=0:=fun j=>by simp [qf,Xv]; split <;> rfl
 have V:x / B^N=0:=Ys (by rw [<- D]; exact iU x);refine zW (aC hl c d) ?_;refine pJ (fi:=bh) (args:=[.loopv b.next,.ptr (H2.next+9) 0]) (by refine zW (aC hl c d) ?_; rfl) ?_
 generalize he:Ent.loop _ _ _ _ _ _=e0
 have L:Kp H ((b.up 1).put b.next e0):=zK;have aG:=L.le;refine (ET C (H0:=H) (a:=ah x) (sa:=a) (fun k H'=>H'.get b.next=some e0/\H'.get H.next=some (.cells [.int .u64 (w:Int)] ae true)/\H'.get (H.next+1)=some (.cells [.own (H2.next+5) 0 N N 1 true] aI true) /\
   (∃ (out:List Nat) (r:Nat),H'.get (H2.next+5)=some (.cells (aP out) ae true)/\out.length=N/\Lim out/\H'.get (H.next+2)=some (.cells [.int .u64 (r:Int)] ae true)/\r=x / B^(N-k) % w/\val out=x / B^(N-k) / w*B^(N-k)/\∀ j,j<N-k->out.getD j 0=0) /\
   H'.get (H2.next+9)=some (.cells [a] aI true)/\Lb H' a (ah x)) zO L
  ⟨by exact cY,by exact zV q0,by exact zV q1,⟨List.replicate N 0,0,by exact zV qb,by simp,Lim.replicate N,by refine zW q2 ?_; rfl,by rw [ZS,V,Nat.zero_mod],by rw [ZS,V,Nat.zero_div,ZR,gt],fun j _=>ao j⟩,by exact zV O,ha.mono L.sub⟩ (fun _ _ _ h=>h) (fun k H' h=>⟨h.2.2.2.2.1,h.2.2.2.2.2⟩) ?_).mono ?_
 ·rintro i k H1 aB t ⟨f,s,g,⟨out,r,m,I,J,n,hr,hval,K⟩,j5,-⟩;rw [<- he] at f;have aK:=t.wf _ _ f;have ar:=t.wf _ _ s;have av:=t.wf _ _ g;have aw:=t.wf _ _ m;have ax:=t.wf _ _ n;have S:r<w:=by rw [hr]; exact Xp _ h0
  have Y:N-k=i+1:=zO;have Z:N-(k+1)=i:=zO;have aA:i<N:=zO;rw [Y] at hr hval K;obtain ⟨y,hy⟩:∃ y,(ah x).getD i 0=y:=⟨_,rfl⟩
  have al:y<18446744073709551616:=by rw [<- hy]; exact (bI x).at i
  rw [hy];have w1:=t.wf;have aE:=t.le;have am:y=x / B^i % B:=by rw [<- hy,jt]
  refine qp f rfl ?_;refine zW (aZ hl c d f) ?_
  generalize ab:Ent.loop _ _ _ _ LoopState.busy none=X
  refine aJ ?_;refine zD (lp hl c d f s g m n) ?_;refine AnsH.use (BC C zF S al aj) ?_;rintro v o ⟨rfl,u⟩;have e:Kp H o:=Kp.trans zK u;have aH:=e.le;have w4:=e.wf;have r0:o.get b.next=some X:=u.get (cY)
  have r1:o.get H.next=some (.cells [.int .u64 (w:Int)] ae true):=u.get (zV s)
  have r2:o.get (H.next+1)=some (.cells [.own (H2.next+5) 0 N N 1 true] aI true):=u.get (zV g);have r3:o.get (H2.next+5)=some (.cells (aP out) ae true):=u.get (zV m);have r4:o.get (H.next+2)=some (.cells [.int .u64 (r:Int)] ae true):=u.get (zV n);have r5:o.get (H2.next+9)=some (.cells [a] aI true):=u.get (zV j5);have aL:=e.wf _ _ r0;have ay:=e.wf _ _ r1;have az:=e.wf _ _ r2;have aM:=e.wf _ _ r3;have aN:=e.wf _ _ r4;refine zD (E0 hl c d f s g m n r0 r1 r2 r3 r4) ?_;rw [uU];have hX:x / B^i=x / B^(i+1)*B+y:=by
   rw [am,Xc,<- XE,WR];exact (XL _ _).symm
  have R:x / B^i=x / B^(i+1) / w*B*w+(r*B+y):=by
   rw [hX,hr]; exact Ks
  have ag:(r*B+y) / w<B:=by
   apply (WY h0).2
   have:(r+1)*B<=w*B:=WJ B S
   rw [XI] at this;rw [WR B]; unfold B at *; omega
  have U:=jy (l:=out) (k:=i) (v:=(r*B+y) / w) zO;rw [K i zO,Zf,Ye,hval] at U;have M:Kp H (((o.put (H2.next+5) (.cells (aP (out.set i ((r*B+y) / w))) ae true)).put (H.next+2) (.cells [.int .u64 (((r*B+y) % w:Nat):Int)] ae true)).put b.next e0):=zK;have aq:=M.le;refine zW (lh ab he r0 r1 r2 r3 r4 r5 Z) ?_;refine ⟨zK,⟨_,_,rfl,by simp [I],kZ J ag,rfl,?_,?_,fun j hj=>?_⟩,ha.mono (zG H)⟩
  ·rw [R,Nat.mul_add_mod_self_right]
  ·rw [U,R,Zb (x / B^(i+1) / w*B*w),Z9 _ _ h0,Xc]
   grind
  ·rw [bw zO];exact K j zO
 ·rintro _ H' ⟨p,f,s,g,⟨out,r,m,I,J,n,hr,hval,-⟩,-⟩;have hlt:=p.wf _ _ f;have ar:=p.wf _ _ s;have av:=p.wf _ _ g;have aw:=p.wf _ _ m;have ax:=p.wf _ _ n;have W:=p.wf;have aD:=p.le;refine .inl ⟨f,?_⟩;refine zW (aZ hl c d D) ?_;rw [D,ZF,Zt,Nat.div_one] at hr hval;rw [XP] at hval;refine aJ ?_;refine zD (ip hl c d s g m n) ?_;have aO:=k2.le;have P:((H'.up 6).kill b.next).get (H2.next+5)=some (.cells (aP out) ae true):=by exact zV m
  have w6:Wf (H'.up 6):=W.bump 6;have M:Kp H (H'.up 6):=p.up 6;have aq:=M.le;refine AnsH.eq (qe C zF (rw':=true) I P zO) fun G F=>?_;obtain ⟨e,_,W⟩:=zT H zK F;have r1:G.get (H.next+1)=some (.cells [.own (H2.next+5) 0 N N 1 true] aI true):=F.get (zV g);have r2:G.get (H.next+2)=some (.cells [.int .u64 (r:Int)] ae true):=F.get (zV n);have r3:G.get (H2.next+5)=some (.cells (aP out) ae true):=F.get P;have ay:=e.wf _ _ r1;have az:=e.wf _ _ r2;obtain ⟨E,Q⟩:=sv out;rw [eW J,hval] at Q ⊢;refine zD (lh hl c d s g m n r1 r2) ?_;rw [hr];refine ⟨_,rfl,DP (E:=E) (rw':=true) ?_,zK⟩;rw [<- Q];exact zV r3
end
def Cd {tab:Nat->Option au} {rd:Bool} {a rest:ACode} {l:Nat} {T:Tm} {H:Heap} {Q:Ex->Tm->Heap->Prop} (h:WC tab rd a T H (Nz Q)):WC tab rd (.scopeL a l rest) T H Q:=by
 obtain ⟨x,T',H',⟨N,g⟩,hq⟩:=eJ a T H _ h.run;refine ⟨show ∃ x T' H',Pp tab rd (.scopeL a l rest) T H x T' H'/\Q x T' H' from ⟨x,T',H',⟨N,fun m n hm hn=>?_⟩,?_⟩⟩
 ·simp only [aM,g m n hm hn];cases x <;> first | rfl | exact hq.elim
 ·cases x <;> first | exact hq | exact hq.elim
def oV:∀ {l:List Nat} (_:Lim l) (j:Nat),l.getD j 0=val l / B^j % B
 | [],_,j=>by simp [val]
 | a :: t,h,0=>by
  have:=h.head
  simp only [Y5,val,Zt,Nat.div_one,Y7];exact (Xf this).symm
 | a :: t,h,j+1=>by
  have b:=oV h.tail j;have ha:=h.head;rw [Yl,b];simp only [val];rw [Xc,WR (B^j),<- XE,Nat.add_mul_div_left _ _ zU,Ys ha,Xg]
structure Dv (H:Heap) (d rb bb M n:Nat) (x1:Bool) (R L:List Nat):Prop where
 hd:H.get d=some (.cells [.own rb 0 M M 1 x1,.own bb 0 n n 1 true] gu true)
 hr:H.get rb=some (.cells (aP R) ae true)
 hb:H.get bb=some (.cells (aP L) ae true)
 lr:R.length=M
 ll:n<=L.length
 ne:rb≠bb
 limR:Lim R
 limL:Lim L
def FrX (b:Nat) (H H':Heap):Prop:=∀ c e,c≠b->H.get c=some e->H'.get c=some e
def FrX.refl (b:Nat) (H:Heap):FrX b H H:=fun _ _ _ h=>h
def FrX.trans {b:Nat} {H H' H'':Heap} (h:FrX b H H') (h':FrX b H' H''):FrX b H H'':=fun c e hc he=>h' c e hc (h c e hc he)
def Dv.up {H:Heap} {d rb bb M n:Nat} {x1:Bool} {R L:List Nat} (h:Dv H d rb bb M n x1 R L) (k:Nat):Dv (H.up k) d rb bb M n x1 R L:=⟨h.hd,h.hr,h.hb,h.lr,h.ll,h.ne,h.limR,h.limL⟩
def Dv.kp {H H':Heap} {d rb bb M n:Nat} {x1:Bool} {R L:List Nat} (h:Dv H d rb bb M n x1 R L) (a:Kp H H'):Dv H' d rb bb M n x1 R L:=⟨a.get h.hd,a.get h.hr,a.get h.hb,h.lr,h.ll,h.ne,h.limR,h.limL⟩
def Dv.put {H:Heap} {d rb bb M n b:Nat} {x1:Bool} {R L:List Nat} {e:Ent} (h:Dv H d rb bb M n x1 R L) (h1:d≠b) (h2:rb≠b) (h3:bb≠b):Dv (H.put b e) d rb bb M n x1 R L:=⟨by rw [aw h1]; exact h.hd,by rw [aw h2]; exact h.hr,by rw [aw h3]; exact h.hb,h.lr,h.ll,h.ne,h.limR,h.limL⟩
def Dv.ndr {H:Heap} {d rb bb M n:Nat} {x1:Bool} {R L:List Nat} (h:Dv H d rb bb M n x1 R L):d≠rb:=fun e=>by
 have h1:=h.hd;rw [e,h.hr] at h1
 injection h1 with h1; injection h1 with _ h2; exact absurd h2 zU
section
variable {b V W P f sec th hi un q r N:Nat}
def Iq (hV:(hi*b+un)*P<=V) (hW:W<(N*b+th+1)*P) (e:q*hi+r=N) (h:r*b+th<q*un) (hV0:0<V):0<q/\W / V<=q-1:=by
 have h1:W<q*V:=by
  refine WP hW ?_;refine WK (WJ P ?_) (WK (Za (Xj q (hi*b+un) P)) (YR q hV));rw [<- e,Xy,XI,<- Xj];omega
 have h2:W / V<q:=(WY hV0).2 h1;exact ⟨XD (WG _) h2,ZD h2⟩
def Ir (hV:(hi*b+un)*P<=V) (hW:W<(N*b+th+1)*P) (c:th<b) (a:0<hi) (hV0:0<V):W / V<=N / hi:=by
 apply Ze
 apply (WY hV0).2
 have h0:=XL N hi;have h1:=Xp N a;have h2:N+1<=(N / hi+1)*hi:=by
  rw [XI,Zp,WR (N / hi)]
  generalize hi*(N / hi)=t at *
  omega
 refine WP hW ?_;refine WK (WJ P ?_) (WK (Za (Xj (N / hi+1) (hi*b+un) P)) (YR _ hV));have h3:=WJ b h2;rw [Xy,<- Xj];have h4:(N+1)*b=N*b+b:=by rw [XI,Zp]
 refine WK ?_ (WK h3 (W3 _ _));rw [h4];exact Nat.add_le_add_left c _
def Se (hs:sec<b) (a:f<hi) (h0:0<b):(f*b+sec) / hi<b:=by
 apply (WY zO).2
 have h1:(f+1)*b<=hi*b:=WJ b a;rw [XI,Zp] at h1;rw [WR b]; omega
end
structure GuessH (V W P f sec th hi un:Nat):Prop where
 hV:(hi*B+un)*P<=V
 hW:W<((f*B+sec)*B+th+1)*P
 hWV:W<V*B
 hV0:0<V
structure GuessI (V W f sec hi q r:Nat):Prop where
 e:q*hi+r=f*B+sec
 ge:W / V<=q
section
variable {V W P f sec th hi un q r ov lw:Nat}
def GuessI.step (G:GuessH V W P f sec th hi un) (I:GuessI V W f sec hi q r) (h:r*B+th<q*un):0<q/\GuessI V W f sec hi (q-1) (r+hi):=by
 obtain ⟨h1,h2⟩:=Iq G.hV G.hW I.e h G.hV0;refine ⟨h1,?_,h2⟩;have h3:q*hi=(q-1)*hi+hi:=by
  obtain ⟨t,rfl⟩:∃ t,q=t+1:=⟨q-1,zO⟩
  rw [Yk,YH]
 have:=I.e
 rw [h3] at this;rw [<- this,Xz,Zb hi]
def GuessI.init (G:GuessH V W P f sec th hi un) (b:th<B) (hs:sec<B) (a:f<hi):GuessI V W f sec hi ((f*B+sec) / hi) ((f*B+sec) % hi)/\(f*B+sec) / hi<B:=by
 refine ⟨⟨?_,Ir G.hV G.hW b (XD (WG _) a) G.hV0⟩,Se hs a zU⟩;rw [WR]; exact XL _ _
def GuessH.max (G:GuessH V W P f sec th hi un):W / V<=18446744073709551615:=by
 have h:=G.hWV;rw [WR] at h;exact Ze ((WY G.hV0).2 h)
def Qj (a:q*un / B=ov) (b:th<B) (c:r<ov):r*B+th<q*un:=by
 have h:=XL (q*un) B;rw [a] at h;rw [<- h];have h2:(r+1)*B<=ov*B:=WJ B c;rw [XI,Zp,WR ov] at h2;refine WP (Nat.add_lt_add_left b _) (WK h2 (W3 _ _))
def Qk (a:q*un / B=ov) (b:q*un % B=lw) (c:th<lw):ov*B+th<q*un:=by
 have h:=XL (q*un) B;rw [a,b] at h;rw [<- h,WR];exact Nat.add_lt_add_left c _
end
section
variable {tab:Nat->Option au} {H:Heap}
set_option maxHeartbeats 1000000 in
def LT (C:Code tab) (hw:Wf H) {d rb bb M m b:Nat} {x1:Bool} {R L:List Nat} (D:Dv H d rb bb M (m+2) x1 R L) (aq:b+(m+2)<M) (hM:M<2199023255552)
  {V W P:Nat} (G:GuessH V W P (R.getD (b+(m+2)) 0) (R.getD (b+(m+1)) 0) (R.getD (b+m) 0) (L.getD (m+1) 0) (L.getD m 0)) :
  Ans tab (.fn gH [.ptr d 0,.int .i64 (b:Int)]) H fun v H'=>∃ q:Nat,v=.int .u64 (q:Int)/\q<B/\W / V<=q/\Kp H H':=by
 obtain ⟨hd,hr,hb,lr,ll,ne,limR,limL⟩:=D;refine bE C.q200 zU fun T hl e g=>?_;obtain ⟨hi,F⟩:∃ hi,L.getD (m+1) 0=hi:=⟨_,rfl⟩
 obtain ⟨un,Q⟩:∃ un,L.getD m 0=un:=⟨_,rfl⟩
 obtain ⟨f,E⟩:∃ f,R.getD (b+(m+2)) 0=f:=⟨_,rfl⟩
 obtain ⟨sec,es⟩:∃ sec,R.getD (b+(m+1)) 0=sec:=⟨_,rfl⟩
 obtain ⟨th,O⟩:∃ th,R.getD (b+m) 0=th:=⟨_,rfl⟩
 have z:hi<B:=F ▸ limL.at _;have ao:un<B:=Q ▸ limL.at _;have fB:f<B:=E ▸ limR.at _;have ab:sec<B:=es ▸ limR.at _;have ae:th<B:=O ▸ limR.at _;rw [F,Q,E,es,O] at G;have aa:IntKind.i64.wrap ((b:Int)+((m+2:Nat):Int))=((b+(m+2):Nat):Int):=by rw [wrap_i64] <;> omega
 have aj:IntKind.i64.wrap (((b+(m+2):Nat):Int)-1)=((b+(m+1):Nat):Int):=by rw [wrap_i64] <;> omega
 have ak:IntKind.i64.wrap (((b+(m+2):Nat):Int)-2)=((b+m:Nat):Int):=by rw [wrap_i64] <;> omega
 have al:IntKind.i64.wrap (((m+2:Nat):Int)-1)=((m+1:Nat):Int):=by rw [wrap_i64] <;> omega
 have am:IntKind.i64.wrap (((m+2:Nat):Int)-2)=(m:Int):=by rw [wrap_i64] <;> omega
 refine zW (aC hl e g) ?_;refine Cd ?_;refine zW (aZ hl e g hd) ?_;refine aJ ?_;refine zD (BL hl e g hd hr hb aa aj al E es F) ?_;refine iteH.split (fun h1=>?_) fun h1=>?_
 ·simp only [jl,kK,jk,mI,XS,Yn];refine zW (aC hl e g) ?_;exact ⟨18446744073709551615,by simp,by decide,G.max,zK⟩
 ·simp only [jl,kK,jk,mI,XS,Yn];refine zW (aC hl e g) ?_;refine AnsH.use (BC C zF zO ab z) ?_;rintro v H2 ⟨rfl,af⟩;obtain ⟨k2,_,w2⟩:=zT H zK af;have d2:=k2.get hd;have r2:=k2.get hr;have b2:=k2.get hb;refine zW (aC hl e g) ?_;refine aJ ?_;refine zD (mo hl e g d2 r2 b2 aa ak am Q O) ?_;refine Cd ?_;refine zW (aC hl e g) ?_;obtain ⟨A,hq0⟩:=GuessI.init G ae ab zO;have Y:(f*B+sec) % hi<B:=Nat.lt_trans (Xp _ zO) z;obtain ⟨q0,K⟩:∃ q0,(f*B+sec) / hi=q0:=⟨_,rfl⟩
  obtain ⟨r0,N⟩:∃ r0,(f*B+sec) % hi=r0:=⟨_,rfl⟩
  rw [K] at A hq0;rw [N] at A Y;simp only [K,N];clear K N;refine bk H [9,10] (fun k vs H'=>∃ q r:Nat,vs=[.int .u64 (q:Int),.int .u64 (r:Int)]/\k=q/\GuessI V W f sec hi q r/\r<B/\q<B) q0 (by simp only [jL]; exact hl) rfl zK ⟨_,_,by exact zV (aC hl e g),rfl,A,Y,hq0⟩ ?_;rintro k T1 H1 i S X ⟨q,r,hv,ah,I,Z,u⟩;obtain rfl:=ah.symm;simp only [SA,WF,Ud,and_true] at hv;obtain ⟨v9,n⟩:=hv;have w1:=X.wf;have ar:=X.le;have u8:ad T1 8=.int .u64 (hi:Int):=(S.at_ 8 zU).trans (zV (aC hl e g));have j:ad T1 11=.int .u64 (un:Int):=(S.at_ 11 zU).trans (zV (aC hl e g));have l:ad T1 12=.int .u64 (th:Int):=(S.at_ 12 zU).trans (zV (aC hl e g));refine zW (fy i v9 n u8 j l) ?_;refine AnsH.use (qj C zF u ao) ?_;rintro v H3 ⟨rfl,ag⟩;obtain ⟨k3,_,w3⟩:=zT H zK ag;obtain ⟨ov,y⟩:∃ ov,q*un / B=ov:=⟨_,rfl⟩
  obtain ⟨lw,J⟩:∃ lw,q*un % B=lw:=⟨_,rfl⟩
  rw [y,J];have s1:r<ov->0<q/\GuessI V W f sec hi (q-1) (r+hi):=fun c=>I.step G (Qj y ae c);have s2:ov=r->th<lw->0<q/\GuessI V W f sec hi (q-1) (r+hi):=fun c c'=>I.step G (by rw [<- c]; exact Qk y J c');clear y J;by_cases w:ov<r
  ·refine zW (ip i v9 n u8 j l @w) ?_;exact ⟨q,rfl,u,I.ge,zK⟩
  ·by_cases x:ov=r
   ·by_cases U:lw<=th
    ·subst x;refine zW (lp i v9 n u8 j l @w U) ?_;exact ⟨q,rfl,u,I.ge,zK⟩
    ·obtain ⟨p1,s⟩:=s2 x zO;clear s1 s2;subst x;have z1:=tX (a:=q) p1 u;refine zW (lh i v9 n u8 j l @w U z1) ?_;refine AnsH.eq (jw C _ ov hi 0 Z z zO) fun H4 e4=>?_;subst e4;have o:(fu ov hi 0).1=(ov+hi) % B:=by simp [fu]
     have p:(fu ov hi 0).2=(ov+hi) / B:=by simp [fu]
     refine zW (lh i v9 n u8 j l z1 o p) ?_;refine iteH.split (fun h=>?_) fun h=>?_
     ·have t:ov+hi<B:=by unfold B at *; omega
      refine zW (lh i v9 n u8 j l z1 o p) ?_;exact ⟨zK,q-1,zO,q-1,ov+hi,by rw [Xf t],rfl,s,t,zO⟩
     ·refine zW (lh i v9 n u8 j l z1 o p) ?_;exact ⟨q-1,rfl,zO,s.ge,zK⟩
   ·obtain ⟨p1,s⟩:=s1 zO;have z1:=tX (a:=q) p1 u;refine zW (lh i v9 n u8 j l @w @x z1) ?_;refine AnsH.eq (jw C _ r hi 0 Z z zO) fun H4 e4=>?_;subst e4;have o:(fu r hi 0).1=(r+hi) % B:=by simp [fu]
    have p:(fu r hi 0).2=(r+hi) / B:=by simp [fu]
    refine zW (lh i v9 n u8 j l z1 o p) ?_;refine iteH.split (fun h=>?_) fun h=>?_
    ·have t:r+hi<B:=by unfold B at *; omega
     refine zW (lh i v9 n u8 j l z1 o p) ?_;exact ⟨zK,q-1,zO,q-1,r+hi,by rw [Xf t],rfl,s,t,zO⟩
    ·refine zW (lh i v9 n u8 j l z1 o p) ?_;exact ⟨q-1,rfl,zO,s.ge,zK⟩
end
def FrX.kp {b k:Nat} {H a H2:Heap} (h:FrX b H a) (d:Kp (a.up k) H2):FrX b H H2:=fun c e hc he=>d.get (h c e hc he)
def FrX.put {b:Nat} {e':Ent} {H a:Heap} (h:FrX b H a):FrX b H (a.put b e'):=fun c e hc he=>by rw [aw hc]; exact h c e hc he
def FrX.up {b:Nat} {H a:Heap} (h:FrX b H a) (k:Nat):FrX b H (a.up k):=h
def FrX.up0 (b k:Nat) (H:Heap):FrX b H (H.up k):=fun _ _ _ h=>h
def O2 {p c:Nat} (hp:p<=340282366920938463426481119284349108225) (hc:c<18446744073709551616) :
  (p / 18446744073709551616+(p % 18446744073709551616+c) / 18446744073709551616) % 18446744073709551616=(p+c) / 18446744073709551616/\(p % 18446744073709551616+c) % 18446744073709551616=(p+c) % 18446744073709551616/\(p+c) / 18446744073709551616<18446744073709551616:=zO
def Qi {x y:Nat} (hx:x<B) (hy:y<B):x*y<=340282366920938463426481119284349108225 :=
 WK (X3 (Ze hx) (Ze hy)) zU
def JP {o w l:Nat} (a:o<18446744073709551616) (b:w<18446744073709551616) (hl:l<=1):o+(jP o w l).2*18446744073709551616=(jP o w l).1+w+l/\(jP o w l).1<18446744073709551616:=by
 unfold jP B;simp only;split <;> omega
def qP:∀ {l:List Nat} {m:Nat},Lim l->(∀ i,m<=i->l.getD i 0=0)->val l<B^m
 | [],m,_,_=>by simp only [val]; exact Xh zU
 | a :: t,0,h,b=>by
  have h0:=b 0 (Jv _);simp only [Y5] at h0
  have:=qP (l:=t) (m:=0) h.tail fun i _=>by have:=b (i+1) (WG _); rwa [Yl] at this
  simp only [Zt] at this;have h1:val t=0:=Nat.lt_one_iff.1 this;simp only [val,h0,h1,Zt];decide
 | a :: t,m+1,h,b=>by
  have c:=qP (l:=t) (m:=m) h.tail fun i hi=>by have:=b (i+1) zO; rwa [Yl] at this
  have ha:=h.head;simp only [val,Xc];have h2:(val t+1)*B<=B^m*B:=WJ B c;rw [XI,Zp,WR] at h2;refine WP ?_ h2;rw [Zb];exact Nat.add_lt_add_left ha _
structure TakeI (a q X j:Nat) (L out:List Nat) (c l:Nat):Prop where
 e:val out+B^a*(q*val (L.take j))=X+B^(a+j)*(c+l)
def No {P A X g h b c l a l' o d w f:Nat} (e:g+A=X+P*(c+l)) (j:h+P*o=g+P*d) (h1:f+c=a*b+w) (h2:o+l'*b=d+w+l):h+(A+P*f)=X+P*(a*b+l'*b):=by
 have e4:=congrArg (P * ·) h1;have i:=congrArg (P * ·) h2;simp only [Xy] at e e4 i ⊢
 generalize P*f=x1 at *
 generalize P*(a*b)=k at *
 generalize P*(l'*b)=x3 at *
 generalize P*o=x4 at *
 generalize P*d=m at *
 generalize P*w=n at *
 generalize P*l=p at *
 generalize P*c=q at *
 omega
def Np {P A X d f b c l l' o a:Nat} (e:d+A=X+P*(c+l)) (h:f+P*o=d+P*a) (h2:o+l'*b=a+c+l):f+A=X+P*(l'*b):=by
 have g:=congrArg (P * ·) h2;simp only [Xy] at e g
 generalize P*(l'*b)=x3 at *
 generalize P*o=x4 at *
 generalize P*a=i at *
 generalize P*l=j at *
 generalize P*c=k at *
 omega
def TakeI.step {a q X j c l b l' d w:Nat} {L out:List Nat} (I:TakeI a q X j L out c l) (hj:a+j<out.length) (h1:q*L.getD j 0+c=b*B+w) (h2:out.getD (a+j) 0+l'*B=d+w+l):TakeI a q X (j+1) L (out.set (a+j) d) b l':=by
 refine ⟨?_⟩;have f:=jy (l:=out) (k:=a+j) (v:=d) hj
 have:=No I.e f h1 h2
 rw [dg,Xy,Xy];have e:B^a*(q*(B^j*L.getD j 0))=B^(a+j)*(q*L.getD j 0):=by rw [Xw,ZW q,Xj]
 have e3:B^(a+(j+1))*(b+l')=B^(a+j)*(b*B+l'*B):=by rw [<- Xz,Xc,Xj,WR B,XI]
 rw [e,e3];exact this
section
variable {tab:Nat->Option au} {H:Heap}
set_option maxHeartbeats 1000000 in
def OK (C:Code tab) {H0:Heap} (hk:Kp H0 H) {d rb bb M n a q X:Nat} {x1:Bool} {R L:List Nat} (D:Dv H d rb bb M n x1 R L) (ay:H0.next<=rb) (ax:a+n<M) (hM:M<2199023255552) (hq:q<18446744073709551616) (hX:val R=X) (hz:∀ i,a+n<i->R.getD i 0=0) :
  Ans tab (.fn g9 [.ptr d 0,.int .u64 (q:Int),.int .i64 (a:Int)]) H fun v H'=>∃ (R':List Nat) (l:Nat),v=.bool (decide (0<l))/\l<=1/\Dv H' d rb bb M n x1 R' L/\val R'+B^a*(q*val (L.take n))=X+B^(a+n+1)*l/\(∀ i,a+n<i->R'.getD i 0=0)/\Kp H0 H'/\FrX rb H H':=by
 have ndr:=D.ndr;obtain ⟨hd,hr,hb,lr,ll,ne,limR,limL⟩:=D;have w0:=hk.wf;have az:=hk.le;have ar:TakeI a q X 0 L R 0 0:=⟨by simp [val,hX]⟩
 clear hX;refine mz C.q201 zU fun T hl e g f=>?_;refine zW (cn hl e g f hd) ?_;refine aq H0 [7,8] (fun j vs H'=>∃ (out:List Nat) (c l:Nat),vs=[.int .u64 (c:Int),.int .u64 (l:Int)]/\H'.get rb=some (.cells (aP out) ae true)/\out.length=M/\Lim out/\c<18446744073709551616/\l<=1/\TakeI a q X j L out c l/\(∀ i,a+n<i->out.getD i 0=0)/\FrX rb H H') (a:=0) (N:=n) rfl (by refine zW (aZ hl e g f) ?_; rfl) (zV (aZ hl e g f)) (WG _) zO (by simp only [jL,hl]; rfl) rfl (fun _ _ _ _ h=>h) zK
  ⟨R,0,0,by refine zW (aZ hl e g f) ?_; rfl,by exact zV hr,lr,limR,by decide,WG _,ar,hz,FrX.up0 _ _ _⟩ ?_ ?_
 ·rintro j T1 V _ hj b K F G ⟨out,c,l,u,b0,aa,Q,hc,O,I,ag,E⟩;simp only [jL,hl] at b;simp only [SA,WF,Ud,and_true] at u;obtain ⟨s,t⟩:=u;have w1:=G.wf;have av:=G.le;have d1:V.get d=some (.cells [.own rb 0 M M 1 x1,.own bb 0 n n 1 true] gu true):=E _ _ ndr hd;have b1:V.get bb=some (.cells (aP L) ae true):=E _ _ (Ne.symm ne) hb;have t0:ad T1 0=.ptr d 0:=(F.at_ 0 zU).trans (zV (aB hl e));have t1:ad T1 1=.int .u64 (q:Int):=(F.at_ 1 zU).trans (zV (cn hl e g f g));have r:ad T1 2=.int .i64 (a:Int):=(F.at_ 2 zU).trans (zV (cn hl e g f f));have U:ad T1 18=.own bb 0 n n 1 true:=(F.at_ 18 zU).trans (zV (aZ hl e g f));obtain ⟨y,hy⟩:∃ y,L.getD j 0=y:=⟨_,rfl⟩
  have ao:y<18446744073709551616:=by rw [<- hy]; exact limL.at j
  obtain ⟨o,m⟩:∃ o,out.getD (a+j) 0=o:=⟨_,rfl⟩
  have S:o<18446744073709551616:=by rw [<- m]; exact Q.at _
  refine zW (pD b s t t0 t1 r U K b1 hy) ?_;refine AnsH.use (qj C zF hq ao) ?_;rintro v H2 ⟨rfl,Z⟩;obtain ⟨k2,_,w2⟩:=zT H0 zK Z;have ak:FrX rb H H2:=E.kp Z;have d2:=ak _ _ ndr hd;have r2:H2.get rb=some (.cells (aP out) ae true):=Z.get b0;have aC:=k2.wf _ _ r2;obtain ⟨q1,q2,q3⟩:=O2 (Qi hq ao) hc;have ab:(q*y+c) % 18446744073709551616<18446744073709551616:=Xp _ zU;have W:=XL (q*y+c) 18446744073709551616;obtain ⟨Y,ec⟩:∃ Y,(q*y+c) / 18446744073709551616=Y:=⟨_,rfl⟩
  obtain ⟨lw,ew⟩:∃ lw,(q*y+c) % 18446744073709551616=lw:=⟨_,rfl⟩
  rw [ec] at q1 q3 W;rw [ew] at q2 ab W;obtain ⟨f1,J⟩:=JP (o:=o) (w:=lw) (l:=l) S ab O;have P:=vK o lw l;obtain ⟨x,A⟩:∃ x,(jP o lw l).1=x:=⟨_,rfl⟩
  obtain ⟨p,z⟩:∃ p,(jP o lw l).2=p:=⟨_,rfl⟩
  rw [A,z] at f1;rw [A] at J;rw [z] at P;have I2:TakeI a q X (j+1) L (out.set (a+j) x) Y p:=I.step zO (w:=lw) (by rw [hy,<- W,WR]) (by rw [m]; exact f1);clear W f1;have al:IntKind.i64.wrap ((a:Int)+(j:Int))=((a+j:Nat):Int):=by rw [wrap_i64] <;> omega
  refine zW (lp b s t t0 t1 r U K) ?_;refine AnsH.eq (jw C _ (q*y % B) c 0 (Xp _ zU) hc zO) fun H3 e3=>?_;subst e3;have ah:(fu (q*y % B) c 0).1=lw:=by simp only [fu,Ye]; exact q2
  have aj:(fu (q*y % B) c 0).2=(q*y % 18446744073709551616+c) / 18446744073709551616:=by simp only [fu,Ye]
  refine zW (mo b s t t0 t1 r U K ah aj q1) ?_;clear ah aj q1 q2;refine aJ ?_;refine zD (BL b s t t0 t1 r U K d2 r2 al m) ?_;refine AnsH.eq (xL C _ o lw l S ab O) fun H4 e4=>?_;subst e4;rw [A,z];refine zD (BL b s t t0 t1 r U K d2 r2 al m) ?_;refine ⟨zK,_,_,_,rfl,rfl,by simp [aa],kZ Q J,q3,P,I2,fun i hi=>?_,(ak.up _).put⟩;rw [bw zO];exact ag i hi
 ·rintro T1 V b F G ⟨out,c,l,u,b0,aa,Q,hc,O,I,ag,E⟩;simp only [jL,hl] at b;simp only [SA,WF,Ud,and_true] at u;obtain ⟨s,t⟩:=u;have w1:=G.wf;have av:=G.le;have aA:=G.wf _ _ b0;have d1:V.get d=some (.cells [.own rb 0 M M 1 x1,.own bb 0 n n 1 true] gu true):=E _ _ ndr hd;have t0:ad T1 0=.ptr d 0:=(F.at_ 0 zU).trans (zV (aB hl e));have r:ad T1 2=.int .i64 (a:Int):=(F.at_ 2 zU).trans (zV (cn hl e g f f));have af:IntKind.i64.wrap ((a:Int)+(n:Int))=((a+n:Nat):Int):=by rw [wrap_i64] <;> omega
  obtain ⟨o,m⟩:∃ o,out.getD (a+n) 0=o:=⟨_,rfl⟩
  have S:o<18446744073709551616:=by rw [<- m]; exact Q.at _
  obtain ⟨f1,J⟩:=JP (o:=o) (w:=c) (l:=l) S hc O;have P:=vK o c l;obtain ⟨x,A⟩:∃ x,(jP o c l).1=x:=⟨_,rfl⟩
  obtain ⟨p,z⟩:∃ p,(jP o c l).2=p:=⟨_,rfl⟩
  rw [A,z] at f1;rw [A] at J;rw [z] at P;have hval:val (out.set (a+n) x)+B^a*(q*val (L.take n))=X+B^(a+n+1)*p:=by
   have u:=jy (l:=out) (k:=a+n) (v:=x) zO;rw [m] at u
   have:=Np I.e u f1
   rw [this,Xc,Xj,WR p]
  clear f1 I;refine zW (ip b t0 r s t d1 af) ?_;refine aJ ?_;refine zD (lh b t0 r s t d1 @b0 af m) ?_;refine AnsH.eq (xL C _ o c l S hc O) fun H4 e4=>?_;subst e4;rw [A,z];refine zD (lh b t0 r s t d1 @b0 af m) ?_;refine ⟨_,p,rfl,P,⟨?_,am _ _ _,?_,by simp [aa],ll,ne,kZ Q J,limL⟩,hval,fun i hi=>?_,zK,(E.up _).put⟩
  ·exact zV d1
  ·rw [aw (Ne.symm ne)];exact E _ _ (Ne.symm ne) hb
  ·rw [bw zO];exact ag i hi
end
def JS {o y c:Nat} (a:o<18446744073709551616) (hy:y<18446744073709551616) (hc:c<=1):o+y+c=(fu o y c).1+(fu o y c).2*18446744073709551616/\(fu o y c).1<18446744073709551616:=by
 unfold fu B;simp only;omega
def GS {P A X f g b c a o d y:Nat} (e:f+P*c=X+A) (j:g+P*o=f+P*d) (h:o+y+c=d+a*b):g+P*(a*b)=X+(A+P*y):=by
 have i:=congrArg (P * ·) h;simp only [Xy] at e i ⊢
 generalize P*(a*b)=x3 at *
 generalize P*o=x4 at *
 generalize P*d=k at *
 generalize P*y=l at *
 generalize P*c=m at *
 omega
structure BackI (a X j:Nat) (L out:List Nat) (c:Nat):Prop where
 e:val out+B^(a+j)*c=X+B^a*val (L.take j)
def BackI.step {a X j c b d:Nat} {L out:List Nat} (I:BackI a X j L out c) (hj:a+j<out.length) (h:out.getD (a+j) 0+L.getD j 0+c=d+b*B):BackI a X (j+1) L (out.set (a+j) d) b:=by
 refine ⟨?_⟩;have e:=jy (l:=out) (k:=a+j) (v:=d) hj
 have:=GS I.e e h
 rw [dg,Xy,<- Xj (B^a),<- Xw];have e3:B^(a+(j+1))*b=B^(a+j)*(b*B):=by rw [<- Xz,Xc,Xj,WR B]
 rw [e3];exact this
section
variable {tab:Nat->Option au} {H:Heap}
set_option maxHeartbeats 1000000 in
def OL (C:Code tab) {H0:Heap} (U:Kp H0 H) {d rb bb M n a X:Nat} {x1:Bool} {R L:List Nat} (D:Dv H d rb bb M n x1 R L) (ah:H0.next<=rb) (ag:a+n<M) (hM:M<2199023255552) (S:val R=X) (hz:∀ i,a+n<i->R.getD i 0=0) :
  Ans tab (.fn hZ [.ptr d 0,.int .i64 (a:Int)]) H fun v H'=>∃ (R':List Nat) (c:Nat),v=.bool (decide (0<c))/\c<=1/\Dv H' d rb bb M n x1 R' L/\val R'+B^(a+n+1)*c=X+B^a*val (L.take n)/\(∀ i,a+n<i->R'.getD i 0=0)/\Kp H0 H'/\FrX rb H H':=by
 have ndr:=D.ndr;obtain ⟨hd,hr,hb,lr,ll,ne,limR,limL⟩:=D;have w0:=U.wf;have aj:=U.le;have aa:BackI a X 0 L R 0:=⟨by simp [val,S]⟩
 clear S;refine bE C.q202 zU fun T hl e f=>?_;refine zW (aZ hl e f hd) ?_;refine aq H0 [5] (fun j vs H'=>∃ (out:List Nat) (c:Nat),vs=[.int .u64 (c:Int)]/\H'.get rb=some (.cells (aP out) ae true)/\out.length=M/\Lim out/\c<=1/\BackI a X j L out c/\(∀ i,a+n<i->out.getD i 0=0)/\FrX rb H H') (a:=0) (N:=n) rfl (by refine zW (aC hl e f) ?_; rfl) (zV (aC hl e f)) (WG _) zO (by simp only [jL,hl]; rfl) rfl (fun _ _ _ _ h=>h) zK
  ⟨R,0,by refine zW (aC hl e f) ?_; rfl,by exact zV hr,lr,limR,WG _,aa,hz,FrX.up0 _ _ _⟩ ?_ ?_
 ·rintro j T1 F _ hj g G x u ⟨out,c,b,b0,J,E,hc,I,P,t⟩;simp only [jL,hl] at g;simp only [SA,WF,Ud,and_true] at b;have w1:=u.wf;have ab:=u.le;have af:=u.wf _ _ b0;have d1:F.get d=some (.cells [.own rb 0 M M 1 x1,.own bb 0 n n 1 true] gu true):=t _ _ ndr hd;have Z:F.get bb=some (.cells (aP L) ae true):=t _ _ (Ne.symm ne) hb;have t0:ad T1 0=.ptr d 0:=(x.at_ 0 zU).trans (zV (aB hl e));have t1:ad T1 1=.int .i64 (a:Int):=(x.at_ 1 zU).trans (zV (aZ hl e f f));have Q:ad T1 12=.own bb 0 n n 1 true:=(x.at_ 12 zU).trans (zV (aC hl e f));obtain ⟨y,hy⟩:∃ y,L.getD j 0=y:=⟨_,rfl⟩
  have O:y<18446744073709551616:=by rw [<- hy]; exact limL.at j
  obtain ⟨o,m⟩:∃ o,out.getD (a+j) 0=o:=⟨_,rfl⟩
  have w:o<18446744073709551616:=by rw [<- m]; exact E.at _
  obtain ⟨f1,z⟩:=JS w O hc;have A:=zj o y c w O hc;obtain ⟨q,s⟩:∃ q,(fu o y c).1=q:=⟨_,rfl⟩
  obtain ⟨p,r⟩:∃ p,(fu o y c).2=p:=⟨_,rfl⟩
  rw [s,r] at f1;rw [s] at z;rw [r] at A;have Y:BackI a X (j+1) L (out.set (a+j) q) p:=I.step zO (by rw [m,hy]; exact f1);clear f1 I;have V:IntKind.i64.wrap ((a:Int)+(j:Int))=((a+j:Nat):Int):=by rw [wrap_i64] <;> omega
  refine zW (lp g b t0 t1 Q G Z hy) ?_;refine aJ ?_;refine zD (pD g b t0 t1 Q G d1 @b0 V m) ?_;refine AnsH.eq (jw C _ o y c w O hc) fun W e4=>?_;subst e4;rw [s,r];refine zD (pD g b t0 t1 Q G d1 @b0 V m) ?_;refine ⟨zK,_,_,rfl,rfl,by simp [J],kZ E z,A,Y,fun i hi=>?_,(t.up _).put⟩;rw [bw zO];exact P i hi
 ·rintro T1 F g x u ⟨out,c,b,b0,J,E,hc,I,P,t⟩;simp only [jL,hl] at g;simp only [SA,WF,Ud,and_true] at b;have w1:=u.wf;have ab:=u.le;have af:=u.wf _ _ b0;have d1:F.get d=some (.cells [.own rb 0 M M 1 x1,.own bb 0 n n 1 true] gu true):=t _ _ ndr hd;have t0:ad T1 0=.ptr d 0:=(x.at_ 0 zU).trans (zV (aB hl e));have t1:ad T1 1=.int .i64 (a:Int):=(x.at_ 1 zU).trans (zV (aZ hl e f f));have K:IntKind.i64.wrap ((a:Int)+(n:Int))=((a+n:Nat):Int):=by rw [wrap_i64] <;> omega
  obtain ⟨o,m⟩:∃ o,out.getD (a+n) 0=o:=⟨_,rfl⟩
  have w:o<18446744073709551616:=by rw [<- m]; exact E.at _
  obtain ⟨f1,z⟩:=JS (y:=0) w zU hc;have A:=zj o 0 c w zU hc;obtain ⟨q,s⟩:∃ q,(fu o 0 c).1=q:=⟨_,rfl⟩
  obtain ⟨p,r⟩:∃ p,(fu o 0 c).2=p:=⟨_,rfl⟩
  rw [s,r] at f1;rw [s] at z;rw [r] at A;have hval:val (out.set (a+n) q)+B^(a+n+1)*p=X+B^a*val (L.take n):=by
   have b:=jy (l:=out) (k:=a+n) (v:=q) zO;rw [m] at b
   have:=GS I.e b f1
   rw [Xc,Xj,WR B];rw [Zf,Ye] at this;exact this
  clear f1 I;refine zW (fy g t0 t1 b d1 K) ?_;refine aJ ?_;refine zD (lp g t0 t1 b d1 @b0 K m) ?_;refine AnsH.eq (jw C _ o 0 c w zU hc) fun W e4=>?_;subst e4;rw [s,r];refine zD (lp g t0 t1 b d1 @b0 K m) ?_;refine ⟨_,p,rfl,A,⟨?_,am _ _ _,?_,by simp [J],ll,ne,kZ E z,limL⟩,hval,fun i hi=>?_,zK,(t.up _).put⟩
  ·exact zV d1
  ·rw [aw (Ne.symm ne)];exact t _ _ (Ne.symm ne) hb
  ·rw [bw zO];exact P i hi
end
def FY {y n:Nat} (h:(ah y).length=n+1):B^n<=y:=by
 have:=zb (dI y) (fun e=>by rw [e] at h; simp at h)
 rw [lA,h] at this;exact this
def Ed {x y:Nat} (h:(ah x).length<(ah y).length):x<y:=by
 obtain ⟨n,hn⟩:∃ n,(ah y).length=n+1:=⟨(ah y).length-1,zO⟩
 exact WP (iU x) (WK (W8 zU zO) (FY hn))
def Ee {y n:Nat} (h1:B^n<=y) (h2:y<B^(n+1)):(ah y).length=n+1:=by
 refine YT (bu h2) ?_
 apply YV
 intro h;have h3:y<B^n:=WP (iU y) (W8 zU zO);exact absurd h1 (Nat.not_le_of_lt h3)
def Lv {y:Nat} (h:(ah y).length=1):y<B/\(ah y).getD 0 0=y:=by
 have h1:=iU y;rw [h,Nat.pow_one] at h1;refine ⟨h1,?_⟩;rw [jt,Zt,Nat.div_one,Xf h1]
section
variable {b y m z top P:Nat}
def NZ (a:P=2^(64-z)*2^z) (h1:top*2^z<P) (e:top*b<=y) (f:y<(top+1)*b) {c:Nat} (h2:c<=top*2^z):y*2^z<P*b/\c*b<=y*2^z:=by
 have p2:0<2^z:=Xh zU;have d:top+1<=2^(64-z):=by
  rw [a] at h1;exact Nat.lt_of_mul_lt_mul_right h1
 refine ⟨?_,?_⟩
 ·refine WP (YK f p2) ?_;rw [Zs];refine WJ b ?_;rw [a];exact WJ _ d
 ·refine WK (WJ b h2) ?_;rw [Zs];exact WJ _ e
end
def HV {y m z top:Nat} (hl:(ah y).length=m+2) (c:(ah y).getD (m+1) 0=top) (g:z<64) (h1:top*2^z<18446744073709551616) (h2:9223372036854775808<=top*2^z) :
  y*2^z<B^(m+2)/\(ah (y*2^z)).length=m+2/\9223372036854775808*B^(m+1)<=y*2^z:=by
 have hy:=iU y;rw [hl] at hy;have e:y / B^(m+1)=top:=by
  rw [<- c,jt,Xf]
  apply (WY (Xh zU)).2
  rw [WR,<- Xc]; exact hy
 have hp:0<B^(m+1):=Xh zU;have d:top*B^(m+1)<=y:=by rw [<- e]; exact Nat.div_mul_le_self _ _
 have f:y<(top+1)*B^(m+1):=(WY hp).1 (by rw [e]; exact ZG _);have b:(18446744073709551616:Nat)=2^(64-z)*2^z:=by
  rw [<- Xw,show 64-z+z=64 by omega]
 obtain ⟨q1,q2⟩:=NZ b h1 d f h2;have a:18446744073709551616*B^(m+1)=B^(m+2):=by rw [Xc B (m+1),WR]
 rw [a] at q1;refine ⟨q1,Ee ?_ q1,q2⟩;exact WK (Nat.le_mul_of_pos_left _ zU) q2
def Fm {x z V m k a:Nat} (c:(ah x).length=a) (d:z<64) (hV:9223372036854775808*B^(m+1)<=V) (b:m+1+k=a):x*2^z<V*B^k:=by
 have hx:=iU x;rw [c] at hx;have h1:2^z<=9223372036854775808:=WK (W8 zU (show z<=63 by omega)) zU;have h2:x*2^z<B^a*9223372036854775808:=by
  refine WP (YK hx (Xh zU)) (YR _ h1)
 refine WP h2 ?_;refine WK (Za ?_) (WJ _ hV);rw [Xj,<- Xw,b,WR]
structure DivI (X V k:Nat) (Q R:List Nat):Prop where
 eq:X=V*val Q+val R
 lt:val R<V*B^k
 zero:∀ i,i<k->Q.getD i 0=0
def DivI.zeros {X V k m:Nat} {Q R:List Nat} (I:DivI X V k Q R) (hV:V<B^m) (a:Lim R):∀ i,k+m<=i->R.getD i 0=0:=fun i hi=>by
 rw [oV a];have h1:val R<B^i:=by
  refine WP I.lt (WK (WJ _ (Yx hV)) ?_);rw [<- Xw];exact W8 zU zO
 rw [Ys h1,Nat.zero_mod]
def rI (Z:Nat):Z=Z / B*B+Z % B:=by rw [WR]; exact (XL Z B).symm
def DivI.guess {X V a m:Nat} {Q R L:List Nat} (I:DivI X V (a+1) Q R) (hV:V<B^(m+2)) (c:Lim R) (h0:0<V) (hL:∀ i,i<m+2->L.getD i 0=V / B^i % B) :
  GuessH V (val R / B^a) (B^m) (R.getD (a+(m+2)) 0) (R.getD (a+(m+1)) 0) (R.getD (a+m) 0) (L.getD (m+1) 0) (L.getD m 0):=by
 have hp:∀ j,0<B^j:=fun j=>Xh zU;have b:∀ Y j,Y / B^(j+1)=Y / B^j / B:=fun Y j=>by rw [Xc,XE]
 refine ⟨?_,?_,?_,h0⟩
 ·rw [hL _ zO,hL _ zO,b V m];have h1:V / B^m / B % B=V / B^m / B:=by
   rw [<- b]
   apply Xf
   apply (WY (hp _)).2
   rw [WR,<- Xc]; exact hV
  rw [h1,<- rI];exact Nat.div_mul_le_self _ _
 ·rw [oV c,oV c,oV c];have e:val R / B^(a+(m+1))=val R / B^(a+m) / B:=by rw [<- Xz,b]
  have d:val R / B^(a+(m+2))=val R / B^(a+m) / B / B:=by
   rw [show a+(m+2)=a+m+1+1 by omega,b,b]
  have e3:val R / B^(a+m) / B / B % B=val R / B^(a+m) / B / B:=by
   rw [<- d]
   apply Xf
   apply (WY (hp _)).2
   refine WP I.lt (WK (WJ _ (Yx hV)) ?_);rw [<- Xw,WR,<- Xc];exact W8 zU zO
  rw [d,e3,e,<- rI,<- rI];have e4:val R / B^(a+m)=val R / B^a / B^m:=by rw [XE,Xw]
  rw [e4];exact (WY (hp m)).1 (ZG _)
 ·apply (WY (hp a)).2
  refine WP I.lt (Za ?_);rw [Xc,WR (B^a),Xj]
structure SubI (XR V a n:Nat) (R:List Nat) (q l:Nat):Prop where
 e:val R+B^a*(q*V)=XR+B^(a+n+1)*l
 ge:XR / B^a / V<=q
section
variable {XR V A q vr vr' W c:Nat}
def Qa (e:vr+A*(q*V)=XR+W*1) (hlt:vr<W) (hV:0<V) (hA:0<A) (hb:vr'+W*c=vr+A*V) (hc:c<=1):0<q/\XR / A / V<=q-1/\vr'+A*((q-1)*V)=XR+W*(1-c):=by
 have h1:XR / A / V<q:=by
  rw [XE]
  apply (WY (Nat.mul_pos hA hV)).2
  have:q*(A*V)=A*(q*V):=by rw [ZW]
  rw [this]
  generalize A*(q*V)=t at *
  omega
 have h0:0<q:=XD (WG _) h1;refine ⟨h0,ZD h1,?_⟩;obtain ⟨p,rfl⟩:∃ p,q=p+1:=⟨q-1,zO⟩
 rw [YH];rw [XI,Zp,Xy] at e;have a:c=0\/c=1:=zO;rcases a with rfl | rfl
 ·simp only [Zf,XP,Ye,ZS] at *;omega
 ·simp only [Zf,XP,Ye,ZF] at *;omega
def QN (e:vr+A*(q*V)=XR) (hge:XR / A / V<=q) (hV:0<V) (hA:0<A):vr<V*A:=by
 have h1:q<=XR / (A*V):=by
  apply (Z7 (Nat.mul_pos hA hV)).2
  rw [ZW,<- e];exact Nat.le_add_left _ _
 rw [XE] at hge;have h2:=YT h1 hge;have h3:=XL XR (A*V);rw [<- h2] at h3;have h4:=Xp XR (Nat.mul_pos hA hV);have h5:A*V*q=A*(q*V):=by rw [Xj,WR V]
 rw [h5] at h3;rw [WR V];omega
end
def SubI.pos {XR V a n q:Nat} {R:List Nat} (I:SubI XR V a n R q 1) (hlt:val R<B^(a+n+1)):0<q:=by
 apply Nat.pos_of_ne_zero
 intro h;have e:=I.e;rw [h,ZR,Zf,Ye,XP] at e;rw [e] at hlt;exact absurd hlt (Nat.not_lt_of_le (Nat.le_add_left _ _))
def SubI.back {XR V a n q c:Nat} {R R':List Nat} (I:SubI XR V a n R q 1) (hlt:val R<B^(a+n+1)) (hV:0<V) (hb:val R'+B^(a+n+1)*c=val R+B^a*V) (hc:c<=1):0<q/\SubI XR V a n R' (q-1) (1-c):=by
 obtain ⟨h1,h2,h3⟩:=Qa I.e hlt hV (Xh zU) hb hc;exact ⟨h1,h3,h2⟩
def DivI.next {X V a n q:Nat} {Q R R':List Nat} (I:DivI X V (a+1) Q R) (S:SubI (val R) V a n R' q 0) (hV:0<V) (ha:a<Q.length):DivI X V a (Q.set a q) R':=by
 have e:=S.e;rw [Zf,Ye] at e;refine ⟨?_,QN e S.ge hV (Xh zU),fun i hi=>?_⟩
 ·have b:=jy (l:=Q) (k:=a) (v:=q) ha;rw [I.zero a (ZG a),Zf,Ye] at b;rw [b,I.eq,<- e,Xy]
  have:V*(B^a*q)=B^a*(q*V):=by rw [ZW,WR V]
  rw [this];omega
 ·rw [bw zO];exact I.zero i zO
def DivI.fin {x y P:Nat} {Q R:List Nat} (a:0<P) (I:DivI (x*P) (y*P) 0 Q R):val Q=x / y/\val R=x % y*P:=by
 have e:=I.eq;have l:=I.lt;rw [Zt,XP] at l;have b:0<y*P:=XD (WG _) l;have h1:x*P / (y*P)=val Q:=by
  rw [e,WR (y*P),Zb,Z9 _ _ b,Ys l,Xg]
 have h2:x*P % (y*P)=val R:=by
  rw [e,Nat.mul_add_mod_self_left,Xf l]
 rw [Z8 _ _ a] at h1;rw [Nat.mul_mod_mul_right] at h2;exact ⟨h1.symm,h2.symm⟩
end Go.Proofs.YtiigaeehghcjiaaGreat.Ev
