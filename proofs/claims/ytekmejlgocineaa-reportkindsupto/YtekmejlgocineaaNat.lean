/- A part. -/
import Derived.Test.YtekmejlgocineaaCode
import Derived.Test.YtekmejlgocineaaWp
import Derived.KernelRfl
import Derived.ChangeArms
import Derived.DataReads
import Derived.WideShapes
/- A part. -/
namespace Go.Proofs.Ytekmejlgocineaa.Nn
set_option linter.all false
abbrev B:Nat:=18446744073709551616
def val:List Nat->Nat
 | []=>0
 | a :: l=>a+B*val l
def Lim (l:List Nat):Prop:=∀ a∈l,a<B
def Ff (l:List Nat):Prop:=l.getLast? ≠ some 0
theorem Lim.nil:Lim []:=fun a h=>by cases h
theorem Lim.cons {a:Nat} {l:List Nat} (h:a<B) (hl:Lim l):Lim (a :: l):=fun b hb=>by
 rcases List.mem_cons.1 hb with rfl | hb
 ·exact h
 ·exact hl b hb
theorem Lim.head {a:Nat} {l:List Nat} (h:Lim (a :: l)):a<B:=h a (List.mem_cons_self ..)
theorem Lim.tail {a:Nat} {l:List Nat} (h:Lim (a :: l)):Lim l:=fun b hb=>h b (List.mem_cons_of_mem _ hb)
theorem Lim.append {l m:List Nat} (h:Lim l) (h':Lim m):Lim (l++m):=fun b hb=>by
 rcases List.mem_append.1 hb with hb | hb
 ·exact h b hb
 ·exact h' b hb
theorem Lim.take {l:List Nat} (h:Lim l) (n:Nat):Lim (l.take n):=fun b hb=>h b (List.mem_of_mem_take hb)
theorem Lim.drop {l:List Nat} (h:Lim l) (n:Nat):Lim (l.drop n):=fun b hb=>h b (List.mem_of_mem_drop hb)
theorem Lim.replicate (n:Nat):Lim (List.replicate n 0):=fun b hb=>by
 rw [List.eq_of_mem_replicate hb]; decide
theorem Lim.at {l:List Nat} (h:Lim l) (i:Nat):l.getD i 0<B:=by
 rw [List.getD_eq_getElem?_getD]
 cases hi:l[i]? with
 | none=>show 0<B; decide
 | some a=>exact h a (List.mem_of_getElem? hi)
theorem nz:∀ (l m:List Nat),val (l++m)=val l+B^l.length*val m
 | [],m=>by simp [val]
 | a :: l,m=>by
  simp only [List.cons_append,val,nz l m,List.length_cons,Nat.pow_succ]
  rw [Nat.mul_add,<- Nat.mul_assoc,Nat.mul_comm (B^l.length) B]
  omega
theorem yw:∀ {l:List Nat},Lim l->val l<B^l.length
 | [],_=>by simp [val]
 | a :: l,h=>by
  have ih:=yw h.tail
  have ha:=h.head
  simp only [val,List.length_cons,Nat.pow_succ]
  have:B*(val l+1)<=B*B^l.length:=Nat.mul_le_mul_left B ih
  rw [Nat.mul_comm (B^l.length) B]
  rw [Nat.mul_add] at this
  omega
theorem sX (l:List Nat) (a:Nat):val (l++[a])=val l+B^l.length*a:=by
 rw [nz]; simp [val]
theorem Bw {l:List Nat} (hn:Ff l) (hne:l≠[]):B^(l.length-1)<=val l:=by
 rcases List.eq_nil_or_concat l with rfl | ⟨l',a,rfl⟩
 ·exact absurd rfl hne
 ·rw [List.concat_eq_append] at *
  rw [sX]
  have ha:a≠0:=fun e=>hn (by rw [e]; simp)
  have:B^l'.length*1<=B^l'.length*a:=Nat.mul_le_mul_left _ (by omega)
  simp only [List.length_append,List.length_singleton,Nat.add_sub_cancel]
  omega
def gA (n:Nat):List Nat:=if h:n=0 then [] else n % B :: gA (n / B)
 termination_by n
 decreasing_by exact Nat.div_lt_self (by omega) (by decide)
theorem i7:gA 0=[]:=by unfold gA; rfl
theorem j8 {n:Nat} (h:n≠0):gA n=n % B :: gA (n / B):=by rw [gA,dif_neg h]
theorem pi (n:Nat):val (gA n)=n:=by
 induction n using Nat.strongRecOn with
 | _ n ih =>
  by_cases h:n=0
  ·subst h; rw [i7]; rfl
  ·rw [j8 h]
   simp only [val]
   rw [ih _ (Nat.div_lt_self (by omega) (by decide))]
   have:=Nat.mod_add_div n B
   omega
theorem wK (n:Nat):Lim (gA n):=by
 induction n using Nat.strongRecOn with
 | _ n ih =>
  by_cases h:n=0
  ·subst h; rw [i7]; exact Lim.nil
  ·rw [j8 h]
   exact Lim.cons (Nat.mod_lt _ (by decide)) (ih _ (Nat.div_lt_self (by omega) (by decide)))
theorem wJ (n:Nat):Ff (gA n):=by
 induction n using Nat.strongRecOn with
 | _ n ih =>
  by_cases h:n=0
  ·subst h; rw [i7]; simp [Ff]
  ·rw [j8 h]
   have ih:=ih _ (Nat.div_lt_self (by omega) (by decide:1<B))
   unfold Ff at ih ⊢
   by_cases h2:n / B=0
   ·rw [h2,i7]
    have:n % B=n:=Nat.mod_eq_of_lt (by
     rcases Nat.lt_or_ge n B with h | h
     ·exact h
     ·have:=Nat.div_pos h (by decide:0<B); omega)
    rw [this]
    simp [h]
   ·rw [j8 h2] at ih ⊢
    rw [List.getLast?_cons_cons]; exact ih
theorem gF {n k:Nat} (h:n<B^k):(gA n).length<=k:=by
 by_cases h0:gA n=[]
 ·rw [h0]; simp
 ·have g:=Bw (wJ n) h0
  rw [pi] at g
  apply Nat.le_of_not_lt
  intro hlt
  have:B^k<=B^((gA n).length-1):=Nat.pow_le_pow_right (by decide) (by omega)
  omega
theorem zj (n:Nat):n<B^(gA n).length:=by
 have:=yw (wK n)
 rw [pi] at this; exact this
end Go.Proofs.Ytekmejlgocineaa.Nn
namespace Go.Proofs.Ytekmejlgocineaa.Ev
open Go Nn
set_option linter.all false
def Sm (n:Nat):Prop:=(gA n).length<1099511627776
section
variable {tab:Nat->Option aN} {H:Heap} {s:AV} {l:List Nat}
end
section
variable {tab:Nat->Option aN} {H:Heap}
end
section
variable {tab:Nat->Option aN} {H:Heap}
end
section
variable {tab:Nat->Option aN} {H:Heap} {s:AV} {l:List Nat}
end
section
variable {tab:Nat->Option aN} {H:Heap}
end
section
variable {tab:Nat->Option aN} {H:Heap}
def FM (x:Int):Int:=if x<0 then -1 else if x=0 then 0 else 1
end
section
variable {tab:Nat->Option aN} {H:Heap}
end
theorem uz:∀ {l:List Nat} {k v:Nat},k<l.length->val (l.set k v)+B^k*l.getD k 0=val l+B^k*v
 | a :: l,0,v,_=>by simp [val]; omega
 | a :: l,k+1,v,h=>by
  have ih:=uz (l:=l) (k:=k) (v:=v) (by simpa using h)
  simp only [List.set_cons_succ,val,List.getD_cons_succ,Nat.pow_succ]
  have:=congrArg (B * ·) ih
  simp only [Nat.mul_add] at this
  rw [Nat.mul_comm (B^k) B,Nat.mul_assoc,Nat.mul_assoc]
  omega
section
variable {tab:Nat->Option aN} {H:Heap} {s:AV} {l:List Nat}
theorem mL {l:List Nat} {i k v:Nat} (h:i≠k):(l.set i v).getD k 0=l.getD k 0:=by
 rw [List.getD_eq_getElem?_getD,List.getD_eq_getElem?_getD,List.getElem?_set,if_neg h]
end
theorem tK {n m:Nat} (h:n<=m):(gA n).length<=(gA m).length:=gF (Nat.lt_of_le_of_lt h (zj m))
theorem Sm.mono {n m:Nat} (h:n<=m) (hm:Sm m):Sm n:=Nat.lt_of_le_of_lt (tK h) hm
section
variable {tab:Nat->Option aN} {H:Heap} {s:AV}
end
section
variable {tab:Nat->Option aN} {H:Heap} {s:AV}
theorem Sm.of {n k:Nat} (h:n<B^k) (hk:k<1099511627776):Sm n:=Nat.lt_of_le_of_lt (gF h) hk
end
section
variable {tab:Nat->Option aN} {H:Heap} {s:AV}
end
theorem zZ {r:Nat} (hr:r<64) {k:IntKind}:cw .shl .int (.int .u64 1) (.int k (r:Int))=some (.int .u64 ((2^r:Nat):Int)):=by
 show iL .shl .u64 1 (r:Int)=_
 unfold iL
 rw [if_neg zO]
 have h1:Nat.min (r:Int).toNat IntKind.u64.bits=r:=by
  have:IntKind.u64.bits=64:=rfl
  rw [this,Int.toNat_natCast]; exact Nat.min_eq_left zO
 have hlt:(2:Nat)^r<2^64:=Nat.pow_lt_pow_right zO hr
 have e:(1:Int)*2^r=((2^r:Nat):Int):=by simp
 simp only [h1,e]
 generalize (2:Nat)^r=p at hlt ⊢
 rw [gu zO zO]
section
variable {tab:Nat->Option aN} {H:Heap} {s:AV}
theorem uF {k c:Nat} (hc:0<c) (hk:k<4611686018427387904):cw .quo .int (.int .i64 (k:Int)) (.int .i64 (c:Int))=some (.int .i64 ((k / c:Nat):Int)):=by
 show (if (c:Int)=0 then none else some (AV.int .i64 (IntKind.i64.wrap ((k:Int).tdiv (c:Int)))))=_
 have hle:k / c<=k:=Nat.div_le_self _ _
 rw [if_neg zO,Int.tdiv_eq_ediv_of_nonneg zO,<- Int.natCast_ediv]
 generalize k / c=d at hle ⊢
 rw [ae zO zO]
theorem Du (b off n c sz m:Nat) (x:Bool) (k:IntKind) (h:m<=c):l3 sz (.own b off n c sz x) none (some (.int k (m:Int))) none=some (.own b off m c sz x):=by
 show fd sz (.own b off n c sz x) none (some (.int k (m:Int))) none=_
 simp only [fd,qU,ne_eq,not_true_eq_false,if_false,Option.bind_eq_bind,Option.bind_some,Option.map_none,Option.map_some,Option.getD_none,Option.getD_some]
 rw [if_pos ⟨h,Nat.zero_le _⟩]
 simp
end
section
variable {tab:Nat->Option aN} {H:Heap} {s:AV} {l:List Nat}
end
def DK (v i:AV):Option AV:=aF (fun s=>match s with | .t 0=>v | _=>i) (.indexStr (.t 0) (.t 1))
theorem ca {tab:Nat->Option aN} (ev:Src->AV) (H:Heap) (id:Nat) (Q:AV->Heap->Prop) (x i:Src):gU tab ev H id (.indexStr x i) Q=eG (DK (ev x) (ev i)) (fun v=>Q v H) ():=by
 rw [bF,cM tab ev H id Q (o:=.indexStr x i) (v:=DK (ev x) (ev i)) (fun f a e=>by cases e) (by simp only [aF,DK]) rfl]; rfl
theorem pJ {x r:Nat} (hr:r<=64) {k:IntKind}:cw .shl .int (.int .u64 (x:Int)) (.int k (r:Int))=some (.int .u64 ((x*2^r % B:Nat):Int)):=by
 show iL .shl .u64 (x:Int) (r:Int)=_
 unfold iL
 rw [if_neg zO]
 have h1:Nat.min (r:Int).toNat IntKind.u64.bits=r:=by
  have:IntKind.u64.bits=64:=rfl
  rw [this,Int.toNat_natCast]; exact Nat.min_eq_left hr
 have e:(x:Int)*2^r=((x*2^r:Nat):Int):=by simp
 simp only [h1,e]
 rw [jq]
 rfl
theorem je (a:Nat):cw .shr .int (.int .u64 (a:Int)) (.int .u64 16)=some (.int .u64 ((a / 65536:Nat):Int)):=ke a 16 zO
theorem mV (a:Nat):cw .shr .int (.int .u64 (a:Int)) (.int .u64 8)=some (.int .u64 ((a / 256:Nat):Int)):=ke a 8 zO
def EG:AV:=.str ⟨#[0,1,2,2,3,3,3,3,4,4,4,4,4,4,4,4,5,5,5,5,5,5,5,5,5,5,5,5,5,5,5,5,6,6,6,6,6,6,6,6,6,6,6,6,6,6,6,6,6,6,6,6,6,6,6,6,6,6,6,6,6,6,6,6,7,7,7,7,7,7,7,7,7,7,7,7,7,7,7,7,7,7,7,7,7,7,7,7,7,7,7,7,7,7,7,7,7,7,7,7,7,7,7,7,7,7,7,7,7,7,7,7,7,7,7,7,7,7,7,7,7,7,7,7,7,7,7,7,8,8,8,8,8,8,8,8,8,8,8,8,8,8,8,8,8,8,8,8,8,8,8,8,8,8,8,8,8,8,8,8,8,8,8,8,8,8,8,8,8,8,8,8,8,8,8,8,8,8,8,8,8,8,8,8,8,8,8,8,8,8,8,8,8,8,8,8,8,8,8,8,8,8,8,8,8,8,8,8,8,8,8,8,8,8,8,8,8,8,8,8,8,8,8,8,8,8,8,8,8,8,8,8,8,8,8,8,8,8,8,8,8,8,8,8,8,8,8,8,8,8,8,8,8,8,8,8]⟩
def zm (x:Nat):Bool:=match DK EG (.int .u8 (x:Int)) with
 | some (.int .u8 z)=>decide (0<=z/\z.toNat<=8/\x<2^z.toNat/\(x=0\/(1<=z.toNat/\2^(z.toNat-1)<=x)))
 | _=>false
theorem zn:(List.range 256).all zm=true:=by kernel_rfl
theorem px {x:Nat} (hx:x<256):∃ L:Nat,DK EG (.int .u8 (x:Int))=some (.int .u8 (L:Int))/\L<=8/\x<2^L/\(x=0\/(1<=L/\2^(L-1)<=x)):=by
 have h:=List.all_eq_true.1 zn x (List.mem_range.2 hx)
 unfold zm at h
 split at h
 ·rename_i z e
  simp only [decide_eq_true_eq] at h
  obtain ⟨h0,h1,h2,h3⟩:=h
  refine ⟨z.toNat,?_,h1,h2,h3⟩
  rw [e,Int.toNat_of_nonneg h0]
 ·cases h
theorem zl {w k L x:Nat} (hx:w / 2^k=x) (h1:x<2^L) (h2:1<=L) (h3:2^(L-1)<=x):w<2^(k+L)/\2^(k+L-1)<=w:=by
 subst hx
 refine ⟨?_,?_⟩
 ·have:=(Nat.div_lt_iff_lt_mul (Nat.pow_pos zU)).1 h1
  rw [Nat.pow_add,Nat.mul_comm]; exact this
 ·have:=(Nat.le_div_iff_mul_le (Nat.pow_pos zU)).1 h3
  have e:k+L-1=(L-1)+k:=by omega
  rw [e,Nat.pow_add]; exact this
section
variable {tab:Nat->Option aN} {H:Heap} {s:AV} {l:List Nat}
set_option maxRecDepth 20000 in
theorem ui (C:Code tab) (hw:Wf H) {w:Nat} (h0:0<w) (hB:w<18446744073709551616) :
  Ans tab (.fn dc [.int .u64 (w:Int)]) H fun v H'=>(∃ L:Nat,v=.int .i64 (L:Int)/\1<=L/\L<=64/\w<2^L/\2^(L-1)<=w)/\Kp H H':=by
 refine jp C.q32 zU fun T hl g0=>?_
 have fin:∀ (k x:Nat),x<256->k<=56->w / 2^k=x->0<x->∃ L:Nat,DK (.str ⟨#[0,1,2,2,3,3,3,3,4,4,4,4,4,4,4,4,5,5,5,5,5,5,5,5,5,5,5,5,5,5,5,5,6,6,6,6,6,6,6,6,6,6,6,6,6,6,6,6,6,6,6,6,6,6,6,6,6,6,6,6,6,6,6,6,7,7,7,7,7,7,7,7,7,7,7,7,7,7,7,7,7,7,7,7,7,7,7,7,7,7,7,7,7,7,7,7,7,7,7,7,7,7,7,7,7,7,7,7,7,7,7,7,7,7,7,7,7,7,7,7,7,7,7,7,7,7,7,7,8,8,8,8,8,8,8,8,8,8,8,8,8,8,8,8,8,8,8,8,8,8,8,8,8,8,8,8,8,8,8,8,8,8,8,8,8,8,8,8,8,8,8,8,8,8,8,8,8,8,8,8,8,8,8,8,8,8,8,8,8,8,8,8,8,8,8,8,8,8,8,8,8,8,8,8,8,8,8,8,8,8,8,8,8,8,8,8,8,8,8,8,8,8,8,8,8,8,8,8,8,8,8,8,8,8,8,8,8,8,8,8,8,8,8,8,8,8,8,8,8,8,8,8,8,8,8,8]⟩) (.int .u8 (IntKind.u8.wrap (x:Int)))=some (.int .u8 (L:Int))/\IntKind.i64.wrap (L:Int)=(L:Int)/\IntKind.i64.wrap ((k:Int)+(L:Int))=((k+L:Nat):Int)/\1<=k+L/\k+L<=64/\w<2^(k+L)/\2^(k+L-1)<=w:=by
  intro k x hx hk he hpos
  obtain ⟨L,e1,e2,e3,e4⟩:=px hx
  obtain ⟨h1,h2⟩:=e4.resolve_left zO
  have e5:IntKind.u8.wrap (x:Int)=(x:Int):=by
   show (x:Int) % 256=x
   omega
  obtain ⟨h3,h4⟩:=zl he e3 h1 h2
  refine ⟨L,by rw [e5]; exact e1,by rw [ae] <;> omega,by rw [ae] <;> omega,by omega,by omega,h3,h4⟩
 have wk:∀ n:Nat,n<100->IntKind.i64.wrap (n:Int)=(n:Int):=fun n hn=>by rw [ae] <;> omega
 simp -dsimp (maxSteps:=1000000) (disch:=(first | omega | assumption | exact ay _ | exact aA _ _ | exact aM | exact bh _ _ _ | exact aO _ _ | exact aP _ _ _ _ _ _ | exact bd _ _ | exact aR _)) only [↓iJ,iI,Nat.reduceLT,Nat.reduceEqDiff,Nat.reduceAdd,↓reduceIte,reduceCtorEq,Nat.reduceBEq,Int.reduceEq,Int.reduceLT,Int.reduceLE,Int.reduceAdd,Int.reduceSub,hl,g0,je,mV,↓ca]
 refine iteH.split (fun h1=>?_) fun h1=>?_
 all_goals
  simp -dsimp (maxSteps:=1000000) (disch:=(first | omega | assumption | exact ay _ | exact aA _ _ | exact aM | exact bh _ _ _ | exact aO _ _ | exact aP _ _ _ _ _ _ | exact bd _ _ | exact aR _)) only [↓iJ,iI,Nat.reduceLT,Nat.reduceEqDiff,Nat.reduceAdd,↓reduceIte,reduceCtorEq,Nat.reduceBEq,Int.reduceEq,Int.reduceLT,Int.reduceLE,Int.reduceAdd,Int.reduceSub,hl,g0,je,mV,↓ca]
  refine iteH.split (fun h2=>?_) fun h2=>?_
 all_goals
  simp -dsimp (maxSteps:=1000000) (disch:=(first | omega | assumption | exact ay _ | exact aA _ _ | exact aM | exact bh _ _ _ | exact aO _ _ | exact aP _ _ _ _ _ _ | exact bd _ _ | exact aR _)) only [↓iJ,iI,Nat.reduceLT,Nat.reduceEqDiff,Nat.reduceAdd,↓reduceIte,reduceCtorEq,Nat.reduceBEq,Int.reduceEq,Int.reduceLT,Int.reduceLE,Int.reduceAdd,Int.reduceSub,hl,g0,je,mV,↓ca]
  refine iteH.split (fun h3=>?_) fun h3=>?_
 ·have he:w / 2^56=w / 4294967296 / 65536 / 256:=by omega
  obtain ⟨L,f1,f2,f3,f4,f5,f6,f7⟩:=fin 56 (w / 4294967296 / 65536 / 256) zO zO he zO
  have f3':IntKind.i64.wrap (56+(L:Int))=((56+L:Nat):Int):=by rw [ae] <;> omega
  simp -dsimp (maxSteps:=1000000) (disch:=(first | omega | assumption | exact ay _ | exact aA _ _ | exact aM | exact bh _ _ _ | exact aO _ _ | exact aP _ _ _ _ _ _ | exact bd _ _ | exact aR _)) only [↓iJ,iI,Nat.reduceLT,Nat.reduceEqDiff,Nat.reduceAdd,↓reduceIte,reduceCtorEq,Nat.reduceBEq,Int.reduceEq,Int.reduceLT,Int.reduceLE,Int.reduceAdd,Int.reduceSub,hl,g0,je,mV,↓ca,f1,f2,f3',(show IntKind.i64.wrap 16=16 from wk 16 zO),(show IntKind.i64.wrap 40=40 from wk 40 zO),(show IntKind.i64.wrap 48=48 from wk 48 zO),(show IntKind.i64.wrap 56=56 from wk 56 zO),(show IntKind.i64.wrap 24=24 from wk 24 zO),(show IntKind.i64.wrap 8=8 from wk 8 zO)]
  exact ⟨⟨56+L,rfl,f4,f5,f6,f7⟩,zK⟩
 ·have he:w / 2^48=w / 4294967296 / 65536:=by omega
  obtain ⟨L,f1,f2,f3,f4,f5,f6,f7⟩:=fin 48 (w / 4294967296 / 65536) zO zO he zO
  have f3':IntKind.i64.wrap (48+(L:Int))=((48+L:Nat):Int):=by rw [ae] <;> omega
  simp -dsimp (maxSteps:=1000000) (disch:=(first | omega | assumption | exact ay _ | exact aA _ _ | exact aM | exact bh _ _ _ | exact aO _ _ | exact aP _ _ _ _ _ _ | exact bd _ _ | exact aR _)) only [↓iJ,iI,Nat.reduceLT,Nat.reduceEqDiff,Nat.reduceAdd,↓reduceIte,reduceCtorEq,Nat.reduceBEq,Int.reduceEq,Int.reduceLT,Int.reduceLE,Int.reduceAdd,Int.reduceSub,hl,g0,je,mV,↓ca,f1,f2,f3',(show IntKind.i64.wrap 16=16 from wk 16 zO),(show IntKind.i64.wrap 40=40 from wk 40 zO),(show IntKind.i64.wrap 48=48 from wk 48 zO),(show IntKind.i64.wrap 56=56 from wk 56 zO),(show IntKind.i64.wrap 24=24 from wk 24 zO),(show IntKind.i64.wrap 8=8 from wk 8 zO)]
  exact ⟨⟨48+L,rfl,f4,f5,f6,f7⟩,zK⟩
 ·have he:w / 2^40=w / 4294967296 / 256:=by omega
  obtain ⟨L,f1,f2,f3,f4,f5,f6,f7⟩:=fin 40 (w / 4294967296 / 256) zO zO he zO
  have f3':IntKind.i64.wrap (40+(L:Int))=((40+L:Nat):Int):=by rw [ae] <;> omega
  simp -dsimp (maxSteps:=1000000) (disch:=(first | omega | assumption | exact ay _ | exact aA _ _ | exact aM | exact bh _ _ _ | exact aO _ _ | exact aP _ _ _ _ _ _ | exact bd _ _ | exact aR _)) only [↓iJ,iI,Nat.reduceLT,Nat.reduceEqDiff,Nat.reduceAdd,↓reduceIte,reduceCtorEq,Nat.reduceBEq,Int.reduceEq,Int.reduceLT,Int.reduceLE,Int.reduceAdd,Int.reduceSub,hl,g0,je,mV,↓ca,f1,f2,f3',(show IntKind.i64.wrap 16=16 from wk 16 zO),(show IntKind.i64.wrap 40=40 from wk 40 zO),(show IntKind.i64.wrap 48=48 from wk 48 zO),(show IntKind.i64.wrap 56=56 from wk 56 zO),(show IntKind.i64.wrap 24=24 from wk 24 zO),(show IntKind.i64.wrap 8=8 from wk 8 zO)]
  exact ⟨⟨40+L,rfl,f4,f5,f6,f7⟩,zK⟩
 ·have he:w / 2^32=w / 4294967296:=by omega
  obtain ⟨L,f1,f2,f3,f4,f5,f6,f7⟩:=fin 32 (w / 4294967296) zO zO he zO
  have f3':IntKind.i64.wrap (32+(L:Int))=((32+L:Nat):Int):=by rw [ae] <;> omega
  simp -dsimp (maxSteps:=1000000) (disch:=(first | omega | assumption | exact ay _ | exact aA _ _ | exact aM | exact bh _ _ _ | exact aO _ _ | exact aP _ _ _ _ _ _ | exact bd _ _ | exact aR _)) only [↓iJ,iI,Nat.reduceLT,Nat.reduceEqDiff,Nat.reduceAdd,↓reduceIte,reduceCtorEq,Nat.reduceBEq,Int.reduceEq,Int.reduceLT,Int.reduceLE,Int.reduceAdd,Int.reduceSub,hl,g0,je,mV,↓ca,f1,f2,f3',(show IntKind.i64.wrap 16=16 from wk 16 zO),(show IntKind.i64.wrap 40=40 from wk 40 zO),(show IntKind.i64.wrap 48=48 from wk 48 zO),(show IntKind.i64.wrap 56=56 from wk 56 zO),(show IntKind.i64.wrap 24=24 from wk 24 zO),(show IntKind.i64.wrap 8=8 from wk 8 zO)]
  exact ⟨⟨32+L,rfl,f4,f5,f6,f7⟩,zK⟩
 ·have he:w / 2^24=w / 65536 / 256:=by omega
  obtain ⟨L,f1,f2,f3,f4,f5,f6,f7⟩:=fin 24 (w / 65536 / 256) zO zO he zO
  have f3':IntKind.i64.wrap (24+(L:Int))=((24+L:Nat):Int):=by rw [ae] <;> omega
  simp -dsimp (maxSteps:=1000000) (disch:=(first | omega | assumption | exact ay _ | exact aA _ _ | exact aM | exact bh _ _ _ | exact aO _ _ | exact aP _ _ _ _ _ _ | exact bd _ _ | exact aR _)) only [↓iJ,iI,Nat.reduceLT,Nat.reduceEqDiff,Nat.reduceAdd,↓reduceIte,reduceCtorEq,Nat.reduceBEq,Int.reduceEq,Int.reduceLT,Int.reduceLE,Int.reduceAdd,Int.reduceSub,hl,g0,je,mV,↓ca,f1,f2,f3',(show IntKind.i64.wrap 16=16 from wk 16 zO),(show IntKind.i64.wrap 40=40 from wk 40 zO),(show IntKind.i64.wrap 48=48 from wk 48 zO),(show IntKind.i64.wrap 56=56 from wk 56 zO),(show IntKind.i64.wrap 24=24 from wk 24 zO),(show IntKind.i64.wrap 8=8 from wk 8 zO)]
  exact ⟨⟨24+L,rfl,f4,f5,f6,f7⟩,zK⟩
 ·have he:w / 2^16=w / 65536:=by omega
  obtain ⟨L,f1,f2,f3,f4,f5,f6,f7⟩:=fin 16 (w / 65536) zO zO he zO
  have f3':IntKind.i64.wrap (16+(L:Int))=((16+L:Nat):Int):=by rw [ae] <;> omega
  simp -dsimp (maxSteps:=1000000) (disch:=(first | omega | assumption | exact ay _ | exact aA _ _ | exact aM | exact bh _ _ _ | exact aO _ _ | exact aP _ _ _ _ _ _ | exact bd _ _ | exact aR _)) only [↓iJ,iI,Nat.reduceLT,Nat.reduceEqDiff,Nat.reduceAdd,↓reduceIte,reduceCtorEq,Nat.reduceBEq,Int.reduceEq,Int.reduceLT,Int.reduceLE,Int.reduceAdd,Int.reduceSub,hl,g0,je,mV,↓ca,f1,f2,f3',(show IntKind.i64.wrap 16=16 from wk 16 zO),(show IntKind.i64.wrap 40=40 from wk 40 zO),(show IntKind.i64.wrap 48=48 from wk 48 zO),(show IntKind.i64.wrap 56=56 from wk 56 zO),(show IntKind.i64.wrap 24=24 from wk 24 zO),(show IntKind.i64.wrap 8=8 from wk 8 zO)]
  exact ⟨⟨16+L,rfl,f4,f5,f6,f7⟩,zK⟩
 ·have he:w / 2^8=w / 256:=by omega
  obtain ⟨L,f1,f2,f3,f4,f5,f6,f7⟩:=fin 8 (w / 256) zO zO he zO
  have f3':IntKind.i64.wrap (8+(L:Int))=((8+L:Nat):Int):=by rw [ae] <;> omega
  simp -dsimp (maxSteps:=1000000) (disch:=(first | omega | assumption | exact ay _ | exact aA _ _ | exact aM | exact bh _ _ _ | exact aO _ _ | exact aP _ _ _ _ _ _ | exact bd _ _ | exact aR _)) only [↓iJ,iI,Nat.reduceLT,Nat.reduceEqDiff,Nat.reduceAdd,↓reduceIte,reduceCtorEq,Nat.reduceBEq,Int.reduceEq,Int.reduceLT,Int.reduceLE,Int.reduceAdd,Int.reduceSub,hl,g0,je,mV,↓ca,f1,f2,f3',(show IntKind.i64.wrap 16=16 from wk 16 zO),(show IntKind.i64.wrap 40=40 from wk 40 zO),(show IntKind.i64.wrap 48=48 from wk 48 zO),(show IntKind.i64.wrap 56=56 from wk 56 zO),(show IntKind.i64.wrap 24=24 from wk 24 zO),(show IntKind.i64.wrap 8=8 from wk 8 zO)]
  exact ⟨⟨8+L,rfl,f4,f5,f6,f7⟩,zK⟩
 ·have he:w / 2^0=w:=by omega
  obtain ⟨L,f1,f2,f3,f4,f5,f6,f7⟩:=fin 0 (w) zO zO he zO
  have f3':IntKind.i64.wrap (0+(L:Int))=((0+L:Nat):Int):=by rw [ae] <;> omega
  simp -dsimp (maxSteps:=1000000) (disch:=(first | omega | assumption | exact ay _ | exact aA _ _ | exact aM | exact bh _ _ _ | exact aO _ _ | exact aP _ _ _ _ _ _ | exact bd _ _ | exact aR _)) only [↓iJ,iI,Nat.reduceLT,Nat.reduceEqDiff,Nat.reduceAdd,↓reduceIte,reduceCtorEq,Nat.reduceBEq,Int.reduceEq,Int.reduceLT,Int.reduceLE,Int.reduceAdd,Int.reduceSub,hl,g0,je,mV,↓ca,f1,f2,f3',(show IntKind.i64.wrap 16=16 from wk 16 zO),(show IntKind.i64.wrap 40=40 from wk 40 zO),(show IntKind.i64.wrap 48=48 from wk 48 zO),(show IntKind.i64.wrap 56=56 from wk 56 zO),(show IntKind.i64.wrap 24=24 from wk 24 zO),(show IntKind.i64.wrap 8=8 from wk 8 zO)]
  exact ⟨⟨0+L,by rw [Nat.zero_add],f4,f5,f6,f7⟩,zK⟩
end
theorem Same.set {D:List Nat} {T T1:Tm} {i:Nat} {v:AV} (h:Same D T T1) (hi:i∈D):Same D T (T1.set i v) :=
 ⟨by simp [h.len],fun s hs=>by rw [er _ _ _ _ (fun e=>hs (by rw [<- e]; exact hi))]; exact h.at_ s hs⟩
theorem sub64 {z:Nat} (h:z<=64):cw .sub .int (.int .u64 64) (.int .u64 (z:Int))=some (.int .u64 ((64-z:Nat):Int)):=by
 rw [show (64:Int)=((64:Nat):Int) from rfl,pI 64 z zO]
 have e:(64+18446744073709551616-z) % 18446744073709551616=64-z:=by omega
 rw [e]
section
variable {Y a b u n q r:Nat}
end
theorem fD {tab:Nat->Option aN} {rd:Bool} {id:Nat} {c:ACode} {T:Tm} {H:Heap} {Q:Ex->Tm->Heap->Prop} {L:Nat} (H0:Heap) (live:List Nat) (P:Nat->List AV->Heap->Prop) (R:List AV->Heap->Prop) (k0:Nat)
  (hl:T.length=L) (hp:eN c=true) (hk0:Kp H0 H) (h0:P k0 (live.map (aa T)) H)
  (hb:∀ k T1 H1,T1.length=L->Same (dt c) T T1->Kp H0 H1->P k (live.map (aa T1)) H1->WC tab rd c T1 H1 (Cr id (fun T2 H2=>Kp H0 H2/\∃ k',k'<k/\P k' (live.map (aa T2)) H2) (fun x T2 H2=>x=.nrm/\Kp H0 H2/\R (live.map (aa T2)) H2)))
  (he:∀ T1 H1,T1.length=L->Same (dt c) T T1->Kp H0 H1->R (live.map (aa T1)) H1->Q .nrm T1 H1):WC tab rd (dN id c) T H Q:=by
 unfold dN
 refine WB.wcLoop ?_
 refine nd (fun k T1 H1=>T1.length=L/\Same (dt c) T T1/\Kp H0 H1/\P k (live.map (aa T1)) H1) ?_ k0 T H ⟨hl,Same.refl _ _,hk0,h0⟩
 rintro k T1 H1 ⟨hl1,hs1,hk1,hP1⟩
 refine ((hb k T1 H1 hl1 hs1 hk1 hP1).wb.same hp).mono ?_
 rintro x T2 H2 ⟨hs2,hq⟩
 have hsame:Same (dt c) T T2:=(hs1.trans hs2).wide fun s hs=>by simpa using hs
 cases x with
 | nrm =>
  obtain ⟨hk2,k',hk',hP2⟩:=hq
  exact ⟨k',hk',hs2.len.trans hl1,hsame,hk2,hP2⟩
 | exit e =>
  simp only [Cr] at hq
  show jM id Q (.exit e) T2 H2
  simp only [jM]
  by_cases h1:e=id
  ·rw [if_pos h1] at hq ⊢
   exact he T2 H2 (hs2.len.trans hl1) hsame hq.2.1 hq.2.2
  ·rw [if_neg h1] at hq
   exact absurd hq.1 (by simp)
 | goto l=>exact absurd hq.1 (by simp)
 | ret=>exact absurd hq.1 (by simp)
section
variable {tab:Nat->Option aN} {H:Heap}
end
section
variable {tab:Nat->Option aN} {H:Heap} {s:AV}
end
section
variable {tab:Nat->Option aN} {H:Heap} {s:AV}
end
def FrX (b:Nat) (H H':Heap):Prop:=∀ c e,c≠b->H.get c=some e->H'.get c=some e
theorem FrX.refl (b:Nat) (H:Heap):FrX b H H:=fun _ _ _ h=>h
theorem FrX.trans {b:Nat} {H H' H'':Heap} (h:FrX b H H') (h':FrX b H' H''):FrX b H H'':=fun c e hc he=>h' c e hc (h c e hc he)
section
variable {b V W P f sec th hi un q r N:Nat}
end
structure GuessH (V W P f sec th hi un:Nat):Prop where
 hV:(hi*B+un)*P<=V
 hW:W<((f*B+sec)*B+th+1)*P
 hWV:W<V*B
 hV0:0<V
section
variable {V W P f sec th hi un q r ov lw:Nat}
theorem GuessH.max (G:GuessH V W P f sec th hi un):W / V<=18446744073709551615:=by
 have h:=G.hWV
 rw [Nat.mul_comm] at h
 exact Nat.le_of_lt_succ ((Nat.div_lt_iff_lt_mul G.hV0).2 h)
end
section
variable {tab:Nat->Option aN} {H:Heap}
end
theorem FrX.put {b:Nat} {e':Ent} {H H1:Heap} (h:FrX b H H1):FrX b H (H1.put b e'):=fun c e hc he=>by rw [bo hc]; exact h c e hc he
theorem FrX.up {b:Nat} {H H1:Heap} (h:FrX b H H1) (k:Nat):FrX b H (H1.up k):=h
section
variable {tab:Nat->Option aN} {H:Heap}
end
section
variable {tab:Nat->Option aN} {H:Heap}
end
section
variable {b y m z top P:Nat}
end
structure DivI (X V k:Nat) (Q R:List Nat):Prop where
 eq:X=V*val Q+val R
 lt:val R<V*B^k
 zero:∀ i,i<k->Q.getD i 0=0
structure SubI (XR V a n:Nat) (R:List Nat) (q l:Nat):Prop where
 e:val R+B^a*(q*V)=XR+B^(a+n+1)*l
 ge:XR / B^a / V<=q
section
variable {XR V A q vr vr' W c:Nat}
theorem Ba (e:vr+A*(q*V)=XR+W*1) (hlt:vr<W) (hV:0<V) (hA:0<A) (hb:vr'+W*c=vr+A*V) (hc:c<=1):0<q/\XR / A / V<=q-1/\vr'+A*((q-1)*V)=XR+W*(1-c):=by
 have h1:XR / A / V<q:=by
  rw [Nat.div_div_eq_div_mul]
  apply (Nat.div_lt_iff_lt_mul (Nat.mul_pos hA hV)).2
  have:q*(A*V)=A*(q*V):=by rw [Nat.mul_left_comm]
  rw [this]
  generalize A*(q*V)=t at *
  omega
 have h0:0<q:=Nat.lt_of_le_of_lt (Nat.zero_le _) h1
 refine ⟨h0,Nat.le_sub_one_of_lt h1,?_⟩
 obtain ⟨p,rfl⟩:∃ p,q=p+1:=⟨q-1,by omega⟩
 rw [Nat.add_sub_cancel]
 rw [Nat.add_mul,Nat.one_mul,Nat.mul_add] at e
 have hcc:c=0\/c=1:=by omega
 rcases hcc with rfl | rfl
 ·simp only [Nat.mul_zero,Nat.mul_one,Nat.add_zero,Nat.sub_zero] at *
  omega
 ·simp only [Nat.mul_zero,Nat.mul_one,Nat.add_zero,Nat.sub_self] at *
  omega
theorem BW (e:vr+A*(q*V)=XR) (hge:XR / A / V<=q) (hV:0<V) (hA:0<A):vr<V*A:=by
 have h1:q<=XR / (A*V):=by
  apply (Nat.le_div_iff_mul_le (Nat.mul_pos hA hV)).2
  rw [Nat.mul_left_comm,<- e]
  exact Nat.le_add_left _ _
 rw [Nat.div_div_eq_div_mul] at hge
 have h2:=Nat.le_antisymm h1 hge
 have h3:=Nat.div_add_mod XR (A*V)
 rw [<- h2] at h3
 have h4:=Nat.mod_lt XR (Nat.mul_pos hA hV)
 have h5:A*V*q=A*(q*V):=by rw [Nat.mul_assoc,Nat.mul_comm V]
 rw [h5] at h3
 rw [Nat.mul_comm V]
 omega
end
theorem SubI.pos {XR V a n q:Nat} {R:List Nat} (I:SubI XR V a n R q 1) (hlt:val R<B^(a+n+1)):0<q:=by
 apply Nat.pos_of_ne_zero
 intro h
 have e:=I.e
 rw [h,Nat.zero_mul,Nat.mul_zero,Nat.add_zero,Nat.mul_one] at e
 rw [e] at hlt
 exact absurd hlt (Nat.not_lt_of_le (Nat.le_add_left _ _))
theorem SubI.back {XR V a n q c:Nat} {R R':List Nat} (I:SubI XR V a n R q 1) (hlt:val R<B^(a+n+1)) (hV:0<V) (hb:val R'+B^(a+n+1)*c=val R+B^a*V) (hc:c<=1):0<q/\SubI XR V a n R' (q-1) (1-c):=by
 obtain ⟨h1,h2,h3⟩:=Ba I.e hlt hV (Nat.pow_pos zU) hb hc
 exact ⟨h1,h3,h2⟩
theorem DivI.next {X V a n q:Nat} {Q R R':List Nat} (I:DivI X V (a+1) Q R) (S:SubI (val R) V a n R' q 0) (hV:0<V) (ha:a<Q.length):DivI X V a (Q.set a q) R':=by
 have e:=S.e
 rw [Nat.mul_zero,Nat.add_zero] at e
 refine ⟨?_,BW e S.ge hV (Nat.pow_pos zU),fun i hi=>?_⟩
 ·have hv:=uz (l:=Q) (k:=a) (v:=q) ha
  rw [I.zero a (Nat.lt_succ_self a),Nat.mul_zero,Nat.add_zero] at hv
  rw [hv,I.eq,<- e,Nat.mul_add]
  have:V*(B^a*q)=B^a*(q*V):=by rw [Nat.mul_left_comm,Nat.mul_comm V]
  rw [this]
  omega
 ·rw [mL zO]
  exact I.zero i zO
section
variable {tab:Nat->Option aN} {H:Heap}
end
section
variable {tab:Nat->Option aN} {H:Heap}
end
section
variable {tab:Nat->Option aN} {H:Heap}
end
section
variable {tab:Nat->Option aN} {H:Heap}
end
section
variable {tab:Nat->Option aN} {H:Heap} {s:AV}
def ky {α:Type} (p:α->Bool) (l:List α):Int:=match l.findIdx? p with
 | some i=>(i:Int)
 | none=>-1
theorem mn {α:Type} {p:α->Bool} {l:List α} {j:Nat} (hj:j<l.length) (h0:∀ k (h:k<l.length),k<j->p l[k]=false) (h1:p l[j]=true):ky p l=(j:Int):=by
 have:l.findIdx? p=some j:=by
  rw [List.findIdx?_eq_some_iff_getElem]
  exact ⟨hj,h1,fun k hk=>by rw [h0 k zO hk]; simp⟩
 simp [ky,this]
theorem kM {α:Type} {p:α->Bool} {l:List α} (h0:∀ k (h:k<l.length),p l[k]=false):ky p l = -1:=by
 have:l.findIdx? p=none:=by
  rw [List.findIdx?_eq_none_iff]
  intro x hx
  obtain ⟨k,hk,rfl⟩:=List.getElem_of_mem hx
  exact h0 k hk
 simp [ky,this]
theorem mo {α:Type} (p:α->Bool) (l:List α):decide (ky p l ≥ 0)=l.any p:=by
 cases h:l.findIdx? p with
 | none =>
  have:l.any p=false:=by
   rw [List.findIdx?_eq_none_iff] at h
   rw [List.any_eq_false]; intro x hx; simp [h x hx]
  simp [ky,h,this]
 | some i =>
  have:l.any p=true:=by
   rw [List.findIdx?_eq_some_iff_getElem] at h
   obtain ⟨hi,h1,-⟩:=h
   rw [List.any_eq_true]; exact ⟨_,List.getElem_mem hi,h1⟩
  simp [ky,h,this]
end
def NoTy (tys:List Nat) (H:Heap) (b:Nat):Prop:=∀ cs t r,t∈tys->H.get b≠some (.cells cs t r)
theorem NoTy.none {tys:List Nat} {H:Heap} {b:Nat} (h:H.get b=none):NoTy tys H b:=fun cs t r _ e=>by rw [h] at e; cases e
theorem NoTy.fresh {tys:List Nat} {H:Heap} {b:Nat} (hw:Wf H) (h:H.next<=b):NoTy tys H b:=NoTy.none (hw.fresh h)
theorem SubT.refl (tys:List Nat) (H:Heap):SubT tys H H:=fun _ _ _ _ _ h=>h
theorem SubT.puts {tys:List Nat} {H H':Heap} {b:Nat} {e:Ent} (h:SubT tys H H') (hb:NoTy tys H b):SubT tys H (H'.put b e):=fun c cs t r ht hc=>by
 rw [bo (fun e1=>hb cs t r ht (by rw [<- e1]; exact hc))]; exact h c cs t r ht hc
theorem SubT.trans {tys:List Nat} {H H' H'':Heap} (h:SubT tys H H') (h':SubT tys H' H''):SubT tys H H'':=fun c cs t r ht hc=>h' c cs t r ht (h c cs t r ht hc)
def Bt (e:Nat) (z:Int):Prop:=z.natAbs<2^e
theorem Bt.mono {e f:Nat} {z:Int} (h:Bt e z) (hf:e<=f):Bt f z:=Nat.lt_of_lt_of_le h (Nat.pow_le_pow_right zU hf)
theorem Bt.zero (e:Nat):Bt e 0:=Nat.pow_pos zU
theorem Bt.neg {e:Nat} {z:Int} (h:Bt e z):Bt e (-z):=by unfold Bt at *; rwa [Int.natAbs_neg]
theorem Bt.mul {e f:Nat} {x y:Int} (h:Bt e x) (h':Bt f y):Bt (e+f) (x*y):=by
 unfold Bt at *
 rw [Int.natAbs_mul,Nat.pow_add]
 exact Nat.mul_lt_mul'' h h'
theorem Bt.add {e f:Nat} {x y:Int} (h:Bt e x) (h':Bt f y):Bt (max e f+1) (x+y):=by
 have h1:=h.mono (Nat.le_max_left e f)
 have h2:=h'.mono (Nat.le_max_right e f)
 unfold Bt at *
 rw [Nat.pow_succ]
 have:=Int.natAbs_add_le x y
 omega
theorem Bt.len {e:Nat} {z:Int} (h:Bt e z) (he:e<=8796093022208):(gA z.natAbs).length<274877906944:=by
 have h1:z.natAbs<B^(e / 64+1):=by
  have hb:B=2^64:=by decide
  rw [hb,<- Nat.pow_mul]
  exact Nat.lt_of_lt_of_le h (Nat.pow_le_pow_right zU zO)
 have:=gF h1
 omega
def pH:AV->Option Nat
 | .own b _ _ _ _ _=>some b
 | _=>none
section
variable {tab:Nat->Option aN} {H:Heap} {s:AV}
end
end Go.Proofs.Ytekmejlgocineaa.Ev
/- A part. -/
namespace Go.Proofs.Ytekmejlgocineaa.Lin
set_option linter.all false
abbrev V:=List Int
def dot:V->V->Int
 | a :: x,b :: y=>a*b+dot x y
 | _,_=>0
def gJ (m:Int) (x:V) (n:Int) (y:V):V:=List.zipWith (fun a b=>m*a+n*b) x y
def g8 (m:Int) (x:V):V:=x.map (m * ·)
def sL (d:Nat):V:=List.replicate d 0
theorem ak {m n:Int} {x y:V} {d:Nat} (h:x.length=d) (h':y.length=d):(gJ m x n y).length=d:=by simp [gJ,h,h']
theorem am {m:Int} {x:V} {d:Nat} (h:x.length=d):(g8 m x).length=d:=by simp [g8,h]
theorem fo (d:Nat):(sL d).length=d:=by simp [sL]
theorem va:∀ (c:V) (d:Nat),dot c (sL d)=0
 | [],d=>by cases d <;> rfl
 | a :: c,0=>rfl
 | a :: c,d+1=>by
  show a*0+dot c (sL d)=0
  rw [va c d]; simp
theorem ka:∀ (c:V) {x y:V} (m n:Int),x.length=y.length->dot c (gJ m x n y)=m*dot c x+n*dot c y
 | [],x,y,m,n,_=>by cases x <;> cases y <;> simp [dot,gJ]
 | a :: c,[],[],m,n,_=>by simp [dot,gJ]
 | a :: c,[],_ :: _,m,n,h=>by simp at h
 | a :: c,_ :: _,[],m,n,h=>by simp at h
 | a :: c,u :: x,v :: y,m,n,h=>by
  have ih:=ka c (x:=x) (y:=y) m n (by simpa using h)
  simp only [gJ,List.zipWith_cons_cons,dot] at ih ⊢
  rw [ih]
  grind
theorem vb:∀ (c x:V) (m:Int),dot c (g8 m x)=m*dot c x
 | [],x,m=>by cases x <;> simp [dot,g8]
 | a :: c,[],m=>by simp [dot,g8]
 | a :: c,u :: x,m=>by
  have ih:=vb c x m
  simp only [g8,List.map_cons,dot] at ih ⊢
  rw [ih]
  grind
def at_ (x:V) (i:Nat):Int:=x.getD i 0
theorem eB {x y:V} (h:x.length=y.length) (hi:∀ i,at_ x i=at_ y i):x=y:=by
 apply List.ext_getElem h
 intro i h1 h2
 have:=hi i
 simpa [at_,h1,h2] using this
theorem bU {m n:Int} {x y:V} (h:x.length=y.length) (i:Nat):at_ (gJ m x n y) i=m*at_ x i+n*at_ y i:=by
 simp only [at_,gJ,List.getD_eq_getElem?_getD,List.getElem?_zipWith]
 by_cases hi:i<x.length
 ·have hi':i<y.length:=h ▸ hi
  simp [List.getElem?_eq_getElem hi,List.getElem?_eq_getElem hi']
 ·have hi':¬ i<y.length:=h ▸ hi
  simp [List.getElem?_eq_none (Nat.le_of_not_lt hi),List.getElem?_eq_none (Nat.le_of_not_lt hi')]
theorem ck {m:Int} {x:V} (i:Nat):at_ (g8 m x) i=m*at_ x i:=by
 simp only [at_,g8,List.getD_eq_getElem?_getD,List.getElem?_map]
 cases x[i]? <;> simp
theorem oD {d i:Nat}:at_ (sL d) i=0:=by
 simp only [at_,sL,List.getD_eq_getElem?_getD,List.getElem?_replicate]
 split <;> rfl
inductive Con (d:Nat) (L R:V->Prop):V->Prop
 | zero:Con d L R (sL d)
 | line {x l:V} (c:Int):Con d L R x->L l->Con d L R (gJ 1 x c l)
 | ray {x r:V} (c:Int):0<=c->Con d L R x->R r->Con d L R (gJ 1 x c r)
 | div {x:V} (k:Int):0<k->x.length=d->Con d L R (g8 k x)->Con d L R x
abbrev Spn (d:Nat) (L:V->Prop):V->Prop:=Con d L (fun _=>False)
section
variable {d:Nat} {L R L' R':V->Prop}
theorem Con.length (hL:∀ l,L l->l.length=d) (hR:∀ r,R r->r.length=d) {x:V} (h:Con d L R x):x.length=d:=by
 induction h with
 | zero=>exact fo d
 | line c _ hl ih=>exact ak ih (hL _ hl)
 | ray c _ _ hr ih=>exact ak ih (hR _ hr)
 | div k _ h _ _=>exact h
theorem Con.mono (hL:∀ l,L l->L' l) (hR:∀ r,R r->R' r) {x:V} (h:Con d L R x):Con d L' R' x:=by
 induction h with
 | zero=>exact .zero
 | line c _ hl ih=>exact .line c ih (hL _ hl)
 | ray c hc _ hr ih=>exact .ray c hc ih (hR _ hr)
 | div k hk h _ ih=>exact .div k hk h ih
theorem Con.smul (hL:∀ l,L l->l.length=d) (hR:∀ r,R r->r.length=d) {x:V} (h:Con d L R x):∀ k:Int,0<=k->Con d L R (g8 k x):=by
 induction h with
 | zero =>
  intro k _
  have:g8 k (sL d)=sL d:=eB (by simp [g8,sL]) fun i=>by rw [ck,oD]; simp
  rw [this]; exact .zero
 | @line x l c hx hl ih =>
  intro k hk
  have h1:=hx.length hL hR
  have h2:=hL _ hl
  have:g8 k (gJ 1 x c l)=gJ 1 (g8 k x) (k*c) l:=eB (by rw [am (ak h1 h2),ak (am h1) h2]) fun i=>by
   rw [ck,bU (h1.trans h2.symm),bU ((am h1).trans h2.symm),ck]; grind
  rw [this]; exact .line _ (ih k hk) hl
 | @ray x r c hc hx hr ih =>
  intro k hk
  have h1:=hx.length hL hR
  have h2:=hR _ hr
  have:g8 k (gJ 1 x c r)=gJ 1 (g8 k x) (k*c) r:=eB (by rw [am (ak h1 h2),ak (am h1) h2]) fun i=>by
   rw [ck,bU (h1.trans h2.symm),bU ((am h1).trans h2.symm),ck]; grind
  rw [this]; exact .ray _ (Int.mul_nonneg hk hc) (ih k hk) hr
 | @div x j hj h hx ih =>
  intro k hk
  refine .div j hj (am h) ?_
  have:g8 j (g8 k x)=g8 k (g8 j x):=eB (by rw [am (am h),am (am h)]) fun i=>by
   rw [ck,ck,ck,ck]; grind
  rw [this]; exact ih k hk
theorem Con.add (hL:∀ l,L l->l.length=d) (hR:∀ r,R r->r.length=d) {y:V} (h:Con d L R y):∀ x,Con d L R x->Con d L R (gJ 1 x 1 y):=by
 induction h with
 | zero =>
  intro x hx
  have h1:=hx.length hL hR
  have:gJ 1 x 1 (sL d)=x:=eB (by rw [ak h1 (fo d),h1]) fun i=>by rw [bU (h1.trans (fo d).symm),oD]; grind
  rw [this]; exact hx
 | @line y l c hy hl ih =>
  intro x hx
  have h1:=hx.length hL hR
  have h2:=hy.length hL hR
  have h3:=hL _ hl
  have:gJ 1 x 1 (gJ 1 y c l)=gJ 1 (gJ 1 x 1 y) c l:=eB (by rw [ak h1 (ak h2 h3),ak (ak h1 h2) h3]) fun i=>by
   rw [bU (h1.trans (ak h2 h3).symm),bU (h2.trans h3.symm),bU ((ak h1 h2).trans h3.symm),bU (h1.trans h2.symm)]; grind
  rw [this]; exact .line _ (ih x hx) hl
 | @ray y r c hc hy hr ih =>
  intro x hx
  have h1:=hx.length hL hR
  have h2:=hy.length hL hR
  have h3:=hR _ hr
  have:gJ 1 x 1 (gJ 1 y c r)=gJ 1 (gJ 1 x 1 y) c r:=eB (by rw [ak h1 (ak h2 h3),ak (ak h1 h2) h3]) fun i=>by
   rw [bU (h1.trans (ak h2 h3).symm),bU (h2.trans h3.symm),bU ((ak h1 h2).trans h3.symm),bU (h1.trans h2.symm)]; grind
  rw [this]; exact .ray _ hc (ih x hx) hr
 | @div y k hk h hy ih =>
  intro x hx
  have h1:=hx.length hL hR
  refine .div k hk (ak h1 h) ?_
  have:g8 k (gJ 1 x 1 y)=gJ 1 (g8 k x) 1 (g8 k y):=eB (by rw [am (ak h1 h),ak (am h1) (am h)]) fun i=>by
   rw [ck,bU (h1.trans h.symm),bU ((am h1).trans (am h).symm),ck,ck]; grind
  rw [this]; exact ih _ (hx.smul hL hR k (by omega))
theorem Con.sum2 (hL:∀ l,L l->l.length=d) (hR:∀ r,R r->r.length=d) {x y:V} (hx:Con d L R x) (hy:Con d L R y) {m n:Int} (hm:0<=m) (hn:0<=n):Con d L R (gJ m x n y):=by
 have h1:=hx.length hL hR
 have h2:=hy.length hL hR
 have:gJ m x n y=gJ 1 (g8 m x) 1 (g8 n y):=eB (by rw [ak h1 h2,ak (am h1) (am h2)]) fun i=>by
  rw [bU (h1.trans h2.symm),bU ((am h1).trans (am h2).symm),ck,ck]; grind
 rw [this]
 exact (hy.smul hL hR n hn).add hL hR _ (hx.smul hL hR m hm)
theorem Con.of_ray {r:V} (hl:r.length=d) (hr:R r):Con d L R r:=by
 have:r=gJ 1 (sL d) 1 r:=eB (by rw [ak (fo d) hl,hl]) fun i=>by rw [bU ((fo d).trans hl.symm),oD]; grind
 rw [this]; exact .ray 1 (by omega) .zero hr
theorem Con.of_line {l:V} (hl:l.length=d) (hr:L l) (c:Int):Con d L R (g8 c l):=by
 have:g8 c l=gJ 1 (sL d) c l:=eB (by rw [am hl,ak (fo d) hl]) fun i=>by rw [ck,bU ((fo d).trans hl.symm),oD]; grind
 rw [this]; exact .line c .zero hr
theorem Con.trans (hL':∀ l,L' l->l.length=d) (hR':∀ r,R' r->r.length=d) (hL:∀ l,L l->∀ c:Int,Con d L' R' (g8 c l)) (hR:∀ r,R r->Con d L' R' r) (hLl:∀ l,L l->l.length=d) (hRl:∀ r,R r->r.length=d) {x:V} (h:Con d L R x):Con d L' R' x:=by
 induction h with
 | zero=>exact .zero
 | @line x l c hx hl ih =>
  have h1:=hx.length hLl hRl
  have h2:=hLl _ hl
  have:gJ 1 x c l=gJ 1 x 1 (g8 c l):=eB (by rw [ak h1 h2,ak h1 (am h2)]) fun i=>by
   rw [bU (h1.trans h2.symm),bU (h1.trans (am h2).symm),ck]; grind
  rw [this]; exact (hL _ hl c).add hL' hR' _ ih
 | @ray x r c hc hx hr ih =>
  exact ih.sum2 hL' hR' (hR _ hr) (by omega) hc
 | div k hk h _ ih=>exact .div k hk h ih
theorem Con.dot_zero (hLl:∀ l,L l->l.length=d) (hRl:∀ r,R r->r.length=d) {a:V} (hL:∀ l,L l->dot a l=0) (hR:∀ r,R r->dot a r=0) {x:V} (h:Con d L R x):dot a x=0:=by
 induction h with
 | zero=>rw [va]
 | @line x l c hx hl ih=>rw [ka _ _ _ ((hx.length hLl hRl).trans (hLl _ hl).symm),hL _ hl,ih]; simp
 | @ray x r c hc hx hr ih=>rw [ka _ _ _ ((hx.length hLl hRl).trans (hRl _ hr).symm),hR _ hr,ih]; simp
 | @div x k hk h _ ih =>
  rw [vb] at ih
  rcases Int.mul_eq_zero.1 ih with h | h
  ·omega
  ·exact h
theorem Spn.smul (hL:∀ l,L l->l.length=d) {x:V} (h:Spn d L x):∀ k:Int,Spn d L (g8 k x):=by
 induction h with
 | zero =>
  intro k
  have:g8 k (sL d)=sL d:=eB (by simp [g8,sL]) fun i=>by rw [ck,oD]; simp
  rw [this]; exact .zero
 | @line x l c hx hl ih =>
  intro k
  have h1:=hx.length hL (fun r h=>h.elim)
  have h2:=hL _ hl
  have:g8 k (gJ 1 x c l)=gJ 1 (g8 k x) (k*c) l:=eB (by rw [am (ak h1 h2),ak (am h1) h2]) fun i=>by
   rw [ck,bU (h1.trans h2.symm),bU ((am h1).trans h2.symm),ck]; grind
  rw [this]; exact .line _ (ih k) hl
 | ray c hc hx hr ih=>exact hr.elim
 | @div x j hj h hx ih =>
  intro k
  refine .div j hj (am h) ?_
  have:g8 j (g8 k x)=g8 k (g8 j x):=eB (by rw [am (am h),am (am h)]) fun i=>by
   rw [ck,ck,ck,ck]; grind
  rw [this]; exact ih k
theorem Spn.sum2 (hL:∀ l,L l->l.length=d) {x y:V} (hx:Spn d L x) (hy:Spn d L y) (m n:Int):Spn d L (gJ m x n y):=by
 have h1:=hx.length hL (fun r h=>h.elim)
 have h2:=hy.length hL (fun r h=>h.elim)
 have:gJ m x n y=gJ 1 (g8 m x) 1 (g8 n y):=eB (by rw [ak h1 h2,ak (am h1) (am h2)]) fun i=>by
  rw [bU (h1.trans h2.symm),bU ((am h1).trans (am h2).symm),ck,ck]; grind
 rw [this]
 exact (Spn.smul hL hy n).add hL (fun r h=>h.elim) _ (Spn.smul hL hx m)
end
structure Keep (d:Nat) (E I:V->Prop) (x:V):Prop where
 len:x.length=d
 eq:∀ e,E e->dot e x=0
 ge:∀ i,I i->0<=dot i x
structure DD (d:Nat) (E I:V->Prop) (L:V->Prop) (R:List V):Prop where
 lenL:∀ l,L l->l.length=d
 lineE:∀ l,L l->∀ e,E e->dot e l=0
 lineI:∀ l,L l->∀ i,I i->dot i l=0
 lines:∀ x,x.length=d->(∀ e,E e->dot e x=0)->(∀ i,I i->dot i x=0)->Spn d L x
 keep:∀ r∈R,Keep d E I r
 all:∀ x,Keep d E I x->Con d L (· ∈ R) x
 off:∀ r∈R,∃ i,I i/\dot i r≠0
 ext:∀ r∈R,∀ y,Keep d E I y->(∀ i,I i->dot i r=0->dot i y=0)->∃ k c:Int,0<k/\0<=c/\Spn d L (gJ k y (-c) r)
 apart:R.Pairwise fun r s=>¬ ∀ i,I i->(dot i r=0 ↔ dot i s=0)
section
variable {d:Nat} {E I L:V->Prop} {R:List V}
theorem Keep.add {x y:V} (hx:Keep d E I x) (hy:Keep d E I y) {m n:Int} (hm:0<=m) (hn:0<=n):Keep d E I (gJ m x n y):=by
 refine ⟨ak hx.len hy.len,fun e he=>?_,fun i hi=>?_⟩
 ·rw [ka _ _ _ (hx.len.trans hy.len.symm),hx.eq e he,hy.eq e he]; simp
 ·rw [ka _ _ _ (hx.len.trans hy.len.symm)]
  have:=Int.mul_nonneg hm (hx.ge i hi)
  have:=Int.mul_nonneg hn (hy.ge i hi)
  omega
theorem DD.lenR (h:DD d E I L R):∀ r,r∈R->r.length=d:=fun r hr=>(h.keep r hr).len
theorem DD.same (h:DD d E I L R) {i j:Nat} {r s:V} (hi:R[i]? = some r) (hj:R[j]? = some s) (hs:∀ a,I a->(dot a r=0 ↔ dot a s=0)):i=j:=by
 rcases Nat.lt_trichotomy i j with hlt | heq | hlt
 ·exfalso
  obtain ⟨hi',rfl⟩:=List.getElem?_eq_some_iff.1 hi
  obtain ⟨hj',rfl⟩:=List.getElem?_eq_some_iff.1 hj
  exact List.pairwise_iff_getElem.1 h.apart i j hi' hj' hlt hs
 ·exact heq
 ·exfalso
  obtain ⟨hi',rfl⟩:=List.getElem?_eq_some_iff.1 hi
  obtain ⟨hj',rfl⟩:=List.getElem?_eq_some_iff.1 hj
  exact List.pairwise_iff_getElem.1 h.apart j i hj' hi' hlt fun a ha=>(hs a ha).symm
end
section
variable {d:Nat} {E L:V->Prop} {R:List V} {l:List V} {a:V}
def mx (a p n:V):V:=gJ (-(dot a n)) p (dot a p) n
variable {Rn:V->Prop} {k:Nat}
end
def B4 (x:V):Nat:=x.foldl (fun g a=>Nat.gcd g a.natAbs) 0
theorem Bg (x:V):g8 1 x=x:=by
 unfold g8
 conv=>rhs; rw [<- List.map_id x]
 exact List.map_congr_left fun a _=>by simp
section
variable {d:Nat} {E L L' Rn:V->Prop} {R:List V} {l:List V} {a:V}
def mv (a u:V) (x:V):V:=gJ (dot a u) x (-(dot a x)) u
theorem getD_of {i:Nat} {r:V} (h:R[i]? = some r):R.getD i []=r:=by simp [List.getD_eq_getElem?_getD,h]
end
def before (a b:Nat):Bool:=a != b && (a != 0 && (b == 0 || decide (a<b)))
def kF (d:Nat):List Nat:=(List.range' 1 (d-1))++(if d=0 then [] else [0])
def po (a:V):Option Nat:=(kF a.length).find? fun i=>!decide (at_ a i=0)
def pv (a:V):Nat:=(po a).getD 0
theorem mem_places {d i:Nat}:i∈kF d ↔ i<d:=by
 unfold kF
 rw [List.mem_append,List.mem_range'_1]
 by_cases hd:d=0
 ·simp [hd]; omega
 ·simp [hd]; omega
theorem kv (d:Nat):(kF d).Pairwise fun a b=>before a b=true:=by
 unfold kF
 refine List.pairwise_append.2 ⟨?_,by split <;> simp,fun a ha b hb=>?_⟩
 ·refine List.Pairwise.imp_of_mem (fun {a b} ha hb h=>?_) (List.pairwise_lt_range' (s:=1) (n:=d-1))
  rw [List.mem_range'_1] at ha hb
  unfold before
  simp only [Bool.and_eq_true,bne_iff_ne,Bool.or_eq_true,beq_iff_eq,decide_eq_true_eq]
  omega
 ·rw [List.mem_range'_1] at ha
  split at hb
  ·cases hb
  ·simp only [List.mem_singleton] at hb
   subst hb
   unfold before
   simp
   omega
theorem pivot_some {a:V} {p:Nat}:po a=some p ↔ p<a.length/\at_ a p≠0/\∀ q,q<a.length->before q p=true->at_ a q=0:=by
 unfold po
 rw [List.find?_eq_some_iff_append]
 constructor
 ·rintro ⟨h1,l1,l2,e,h2⟩
  have hp:p∈kF a.length:=by rw [e]; simp
  refine ⟨mem_places.1 hp,by simpa using h1,fun q hq hb=>?_⟩
  have hqm:q∈kF a.length:=mem_places.2 hq
  rw [e] at hqm
  rcases List.mem_append.1 hqm with h | h
  ·have:=h2 q h; simpa using this
  ·exfalso
   have hs:=kv a.length
   rw [e] at hs
   have hs:=(List.pairwise_append.1 hs).2.1
   rcases List.mem_cons.1 h with rfl | h
   ·simp [before] at hb
   ·have:=(List.pairwise_cons.1 hs).1 q h
    unfold before at this hb
    simp only [Bool.and_eq_true,bne_iff_ne,Bool.or_eq_true,beq_iff_eq,decide_eq_true_eq] at this hb
    omega
 ·rintro ⟨h1,h2,h3⟩
  obtain ⟨l1,l2,e⟩:=List.append_of_mem (mem_places.2 h1)
  refine ⟨by simpa using h2,l1,l2,e,fun q hq=>?_⟩
  have hs:=kv a.length
  rw [e] at hs
  have hb:=(List.pairwise_append.1 hs).2.2 q hq p (List.mem_cons_self ..)
  have hql:q<a.length:=mem_places.1 (by rw [e]; exact List.mem_append_left _ hq)
  simpa using h3 q hql hb
theorem EC {a:V} {p:Nat} (h:po a=some p):pv a=p:=by simp [pv,h]
structure Ech (d:Nat) (F:List V):Prop where
 len:∀ r∈F,r.length=d
 piv:∀ r∈F,∃ p,po r=some p/\0<at_ r p
 cont:∀ r∈F,B4 r=1
 clear:F.Pairwise fun r s=>at_ r (pv s)=0/\at_ s (pv r)=0
 sorted:F.Pairwise fun r s=>before (pv r) (pv s)=true
theorem Ech.nil (d:Nat):Ech d []:=⟨by simp,by simp,by simp,by simp,by simp⟩
section
variable {d:Nat} {F:List V}
theorem Ech.pos (h:Ech d F) {r:V} (hr:r∈F):po r=some (pv r)/\0<at_ r (pv r)/\pv r<d:=by
 obtain ⟨p,hp,h0⟩:=h.piv r hr
 rw [EC hp]
 exact ⟨hp,h0,h.len r hr ▸ (pivot_some.1 hp).1⟩
theorem yJ {B:V->Prop} {x:V} (hx:x.length=d) (h:B x):Spn d B x:=by
 have:=Con.of_line (d:=d) (L:=B) (R:=fun _=>False) hx h 1
 rw [Bg] at this; exact this
end
section
variable {d:Nat} {E:V->Prop}
theorem DD.congr {E E' I I' L L':V->Prop} {R:List V} (h:DD d E I L R) (hE:∀ x,E x ↔ E' x) (hI:∀ x,I x ↔ I' x) (hL:∀ x,L x ↔ L' x):DD d E' I' L' R:=by
 have e1:E=E':=funext fun x=>propext (hE x)
 have e2:I=I':=funext fun x=>propext (hI x)
 have e3:L=L':=funext fun x=>propext (hL x)
 subst e1; subst e2; subst e3; exact h
theorem DD.rep {I L L':V->Prop} {R:List V} (h:DD d E I L R) (hL':∀ x,L' x->x.length=d) (hs:∀ x,Spn d L x ↔ Spn d L' x) (f:V->V) (hf:∀ r∈R,(f r).length=d/\∃ m k:Int,0<m/\0<k/\Spn d L (gJ m (f r) (-k) r)):DD d E I L' (R.map f):=by
 have hdot:∀ r∈R,∃ m k:Int,0<m/\0<k/\∀ b,(∀ l,L l->dot b l=0)->m*dot b (f r)=k*dot b r:=fun r hr=>by
  obtain ⟨hl,m,k,hm,hk,hsp⟩:=hf r hr
  refine ⟨m,k,hm,hk,fun b hb=>?_⟩
  have:=Con.dot_zero (a:=b) h.lenL (fun r h=>h.elim) hb (fun r h=>h.elim) hsp
  rw [ka _ _ _ (hl.trans (h.lenR r hr).symm),Int.neg_mul] at this
  omega
 have hz:∀ r∈R,∀ b,(∀ l,L l->dot b l=0)->(dot b (f r)=0 ↔ dot b r=0):=fun r hr b hb=>by
  obtain ⟨m,k,hm,hk,e⟩:=hdot r hr
  have e:=e b hb
  constructor
  ·intro h0
   rw [h0] at e
   rcases Int.mul_eq_zero.1 (show k*dot b r=0 by omega) with h1 | h1
   ·omega
   ·exact h1
  ·intro h0
   rw [h0] at e
   rcases Int.mul_eq_zero.1 (show m*dot b (f r)=0 by omega) with h1 | h1
   ·omega
   ·exact h1
 have lI:∀ i,I i->∀ l,L l->dot i l=0:=fun i hi l hl=>h.lineI l hl i hi
 have lE:∀ e,E e->∀ l,L l->dot e l=0:=fun e he l hl=>h.lineE l hl e he
 have line0:∀ b,(∀ l,L l->dot b l=0)->∀ x,L' x->dot b x=0:=fun b hb x hx =>
  Con.dot_zero (a:=b) h.lenL (fun r h=>h.elim) hb (fun r h=>h.elim) ((hs x).2 (yJ (hL' x hx) hx))
 have hfl:∀ x,x∈R.map f->x.length=d:=fun x hx=>by
  obtain ⟨r,hr,rfl⟩:=List.mem_map.1 hx
  exact (hf r hr).1
 refine ⟨hL',fun l hl e he=>line0 e (lE e he) l hl,fun l hl i hi=>line0 i (lI i hi) l hl,fun x hx hE hI=>(hs x).1 (h.lines x hx hE hI),?_,?_,?_,?_,?_⟩
 ·intro x hx
  obtain ⟨r,hr,rfl⟩:=List.mem_map.1 hx
  refine ⟨(hf r hr).1,fun e he=>(hz r hr e (lE e he)).2 ((h.keep r hr).eq e he),fun i hi=>?_⟩
  obtain ⟨m,k,hm,hk,e⟩:=hdot r hr
  have e:=e i (lI i hi)
  have:=Int.mul_nonneg (Int.le_of_lt hk) ((h.keep r hr).ge i hi)
  rw [<- e] at this
  exact Int.nonneg_of_mul_nonneg_right this hm
 ·intro x hx
  refine Con.trans hL' hfl (fun l hl c=>((hs _).1 (Spn.smul h.lenL (yJ (h.lenL l hl) hl) c)).mono (fun _ h=>h) (fun r h=>h.elim)) (fun r hr=>?_) h.lenL h.lenR (h.all x hx)
  obtain ⟨hl,m,k,hm,hk,hsp⟩:=hf r hr
  refine .div k hk (h.lenR r hr) ?_
  have e:g8 k r=gJ 1 (g8 m (f r)) 1 (g8 (-1) (gJ m (f r) (-k) r)):=eB (by rw [am (h.lenR r hr),ak (am hl) (am (ak hl (h.lenR r hr)))]) fun i=>by
   rw [ck,bU ((am hl).trans (am (ak hl (h.lenR r hr))).symm),ck,ck,bU (hl.trans (h.lenR r hr).symm)]; grind
  rw [e]
  have t1:Con d L' (· ∈ R.map f) (g8 m (f r)):=(Con.of_ray hl (List.mem_map_of_mem hr)).smul hL' hfl m (by omega)
  have t2:Con d L' (· ∈ R.map f) (g8 (-1) (gJ m (f r) (-k) r)):=((hs _).1 (Spn.smul h.lenL hsp (-1))).mono (fun _ h=>h) (fun r h=>h.elim)
  exact t2.add hL' hfl _ t1
 ·intro x hx
  obtain ⟨r,hr,rfl⟩:=List.mem_map.1 hx
  obtain ⟨i,hi,hn⟩:=h.off r hr
  exact ⟨i,hi,fun e=>hn ((hz r hr i (lI i hi)).1 e)⟩
 ·intro x hx y hy hsat
  obtain ⟨r,hr,rfl⟩:=List.mem_map.1 hx
  obtain ⟨k1,c1,hk1,hc1,hsp1⟩:=h.ext r hr y hy fun i hi e=>hsat i hi ((hz r hr i (lI i hi)).2 e)
  obtain ⟨hl,m,k,hm,hk,hsp⟩:=hf r hr
  refine ⟨k*k1,c1*m,Int.mul_pos hk hk1,Int.mul_nonneg hc1 (by omega),(hs _).1 ?_⟩
  have t:=Spn.sum2 h.lenL hsp1 hsp k (-c1)
  have e:gJ k (gJ k1 y (-c1) r) (-c1) (gJ m (f r) (-k) r)=gJ (k*k1) y (-(c1*m)) (f r):=eB (by rw [ak (ak hy.len (h.lenR r hr)) (ak hl (h.lenR r hr)),ak hy.len hl]) fun i=>by
   rw [bU ((ak hy.len (h.lenR r hr)).trans (ak hl (h.lenR r hr)).symm),bU (hy.len.trans (h.lenR r hr).symm),bU (hl.trans (h.lenR r hr).symm),bU (hy.len.trans hl.symm)]; grind
  rw [e] at t; exact t
 ·refine List.pairwise_map.2 (h.apart.imp_of_mem fun {r s} hr hs' hne h2=>hne fun i hi=>?_)
  have:=h2 i hi
  rw [hz r hr i (lI i hi),hz s hs' i (lI i hi)] at this
  exact this
end
def Bd (M:Nat) (x:V):Prop:=∀ i,(at_ x i).natAbs<=M
theorem Bd.mono {M N:Nat} (h:M<=N) {x:V} (hx:Bd M x):Bd N x:=fun i=>Nat.le_trans (hx i) h
section
variable {d:Nat} {ps:List (Nat × V)}
end
end Go.Proofs.Ytekmejlgocineaa.Lin
namespace Go.Proofs.Ytekmejlgocineaa.Ev
open Go Nn
set_option linter.all false
theorem aC (T0:Tm) (Vs:List AV) (u v w x:Nat × Option Nat):bL T0 Vs [u,v,w,x]=((((List.replicate T0.length .undef).set u.1 (il T0 Vs u)).set v.1 (il T0 Vs v)).set w.1 (il T0 Vs w)).set x.1 (il T0 Vs x):=rfl
section
variable {tab:Nat->Option aN} {f n:Nat} {res:List (Nat × Option (Option Nat))} {body:ACode} {H:Heap} {Q:AV->Heap->Prop}
theorem Fs {a b c d e:AV} (hf:tab f=some ⟨5,n,res,body,none⟩) (hn:5<=n) (h:∀ T:Tm,T.length=n->aa T 0=a->aa T 1=b->aa T 2=c->aa T 3=d->aa T 4=e->WC tab false body T H (oL res Q)):Ans tab (.fn f [a,b,c,d,e]) H Q :=
 jO hf rfl rfl hn fun T hl g=>h T hl (g 0 (by simp)) (g 1 (by simp)) (g 2 (by simp)) (g 3 (by simp)) (g 4 (by simp))
end
section
variable {tab:Nat->Option aN} {H:Heap} {s:AV}
end
section
variable {tab:Nat->Option aN} {H:Heap} {s:AV}
end
section
variable {tab:Nat->Option aN} {H:Heap} {s:AV}
end
theorem mI {β:Type} {P:Nat->β->Prop}:∀ n,(∀ i,i<n->∃ y,P i y)->∃ l:List β,l.length=n/\∀ i (h:i<l.length),P i l[i]
 | 0,_=>⟨[],rfl,fun i h=>by simp at h⟩
 | n+1,h=>by
  obtain ⟨l,h1,h2⟩:=mI n fun i hi=>h i (by omega)
  obtain ⟨y,hy⟩:=h n (by omega)
  refine ⟨l++[y],by simp [h1],fun i hi=>?_⟩
  by_cases hin:i<l.length
  ·rw [List.getElem_append_left hin]; exact h2 i hin
  ·have:i=n:=by rw [List.length_append] at hi; simp at hi; omega
   subst this
   rw [List.getElem_append_right (by omega)]
   simpa [h1] using hy
theorem qH {β:Type} {sz:Nat} {f:β->List AV}:∀ (l:List β),(∀ y∈l,(f y).length=sz)->(l.flatMap f).length=l.length*sz/\∀ i (h:i<l.length) k,k<sz->(l.flatMap f)[i*sz+k]? = (f l[i])[k]?
 | [],_=>⟨by simp,fun i h=>by simp at h⟩
 | y :: l,h=>by
  obtain ⟨h1,h2⟩:=qH l fun z hz=>h z (List.mem_cons_of_mem _ hz)
  have hy:=h y (List.mem_cons_self ..)
  refine ⟨by rw [List.flatMap_cons,List.length_append,h1,hy,List.length_cons,Nat.succ_mul]; omega,fun i hi k hk=>?_⟩
  rw [List.flatMap_cons]
  cases i with
  | zero=>rw [List.getElem?_append_left (by omega)]; simp
  | succ i =>
   rw [List.getElem?_append_right (by rw [Nat.succ_mul]; omega),hy]
   have e:(i+1)*sz+k-sz=i*sz+k:=by rw [Nat.succ_mul]; omega
   rw [e,h2 i (by simpa using hi) k hk]
   simp
section
variable {HT:Type} {enc:TypeId × Value->HT} {P:Program} {w:World} {base:Nat} {sp:Nat->Bool} {held:Bool} {μ:Mu} {F:Nat->Prop} {H:Heap} {α:Type}
end
section
open Go.ChangeShapes Go.WideShapes
variable {HT:Type} {enc:TypeId × Value->HT} {P:Program} {w:World} {base base':Nat} {sp:Nat->Bool} {held:Bool} {μ:Mu} {F:Nat->Prop} {H:Heap}
end
theorem nB {n:Int} (h:(Lit.int .u8 n).wf=true):0<=n/\n<256:=by
 have h1:IntKind.u8.min=0:=by decide
 have h2:IntKind.u8.max=255:=by decide
 unfold Lit.wf at h
 simp [h1,h2] at h
 omega
theorem wf_nil:Wf (Heap.nil 0):=fun b e h=>by rw [Tr.nil_get] at h; cases h
end Go.Proofs.Ytekmejlgocineaa.Ev
namespace Go.Proofs.Ytekmejlgocineaa.Ev
open Go Go.WideShapes Nn
set_option linter.all false
inductive Tx where
 | mk (kind:Nat) (name:ByteArray) (n:Int) (nl:Bool) (args:List Tx) (pl:Int)
namespace Tx
def kind:Tx->Nat | .mk k _ _ _ _ _=>k
def name:Tx->ByteArray | .mk _ s _ _ _ _=>s
def n:Tx->Int | .mk _ _ n _ _ _=>n
def nl:Tx->Bool | .mk _ _ _ b _ _=>b
def args:Tx->List Tx | .mk _ _ _ _ l _=>l
def pl:Tx->Int | .mk _ _ _ _ _ p=>p
end Tx
def sN (nl:Bool) (cells:List AV) (n:Nat):AV:=match n with
 | 0=>if nl=true then .nilSl else .sl [] 0
 | n+1=>.sl cells (n+1)
mutual
def dJ:Tx->List AV
 | .mk k s n nl l p=>[.int .u8 (k:Int),.str s,.int .i64 n,sN nl (mr l) l.length,.int .i64 p]
def mr:List Tx->List AV
 | []=>[]
 | x :: l=>dJ x++mr l
end
theorem gS (x:Tx):dJ x=[.int .u8 (x.kind:Int),.str x.name,.int .i64 x.n,sN x.nl (mr x.args) x.args.length,.int .i64 x.pl]:=by
 cases x; simp only [dJ,Tx.kind,Tx.name,Tx.n,Tx.nl,Tx.args,Tx.pl]
theorem nq:∀ l:List Tx,mr l=l.flatMap dJ
 | []=>by simp only [mr,List.flatMap_nil]
 | x :: l=>by simp only [mr,List.flatMap_cons,nq l]
theorem fU (x:Tx):(dJ x).length=5:=by rw [gS]; rfl
theorem jU (nl:Bool) (cs:List AV) (n:Nat):kj (sN nl cs n):=by
 unfold sN
 split
 ·split
  ·exact aM
  ·exact bd _ _
 ·exact bd _ _
theorem jE (x:Tx):(dJ x).all AV.one=true:=by
 rw [gS]
 have h:=(jU x.nl (mr x.args) x.args.length).2
 simp only [List.all_cons,List.all_nil,h]
 rfl
def uG {α:Type} (sz:Nat) (f:α->List AV) (hp:0<sz) (hl:∀ a,(f a).length=sz) (h1:∀ a,(f a).all AV.one=true):gC α where
 sz:=sz
 tys:=[]
 R _ cs a:=cs=f a
 pos:=hp
 len:=by rintro H cs a rfl; exact ⟨hl a,h1 a⟩
 mono:=fun _ h=>h
abbrev ES:gC Tx:=uG 5 dJ (by omega) fU jE
theorem p8 {α:Type} {E:gC α} {f:α->List AV} {ty:Nat} {H:Heap} (hR:∀ a,E.R H (f a) a) (nl:Bool) (l:List α):SlV E ty H (sN nl (l.flatMap f) l.length) l:=by
 cases l with
 | nil =>
  unfold sN
  cases nl with
  | true=>exact SlV.nil _ _ _
  | false=>exact ⟨[],⟨trivial,(fun s h=>by cases h),0,rfl,by simp [bE]⟩,(fun _ _ _ _ _ _ e=>by cases e),by simp,fun i a h=>by simp at h⟩
 | cons x r =>
  have hfl:=qH (f:=f) (sz:=E.sz) (x :: r) fun y _=>(E.len (hR y)).1
  refine ⟨(x :: r).flatMap f,⟨trivial,(fun s h=>by cases h),r.length+1,rfl,?_⟩,(fun _ _ _ _ _ _ e=>by cases e),hfl.1,fun i a hi=>?_⟩
  ·simp only [sN,bE,List.length_cons]
   rw [if_pos ⟨Nat.le_refl _,by rw [hfl.1]; exact Nat.le_refl _⟩,List.take_of_length_le (by rw [hfl.1]; exact Nat.le_refl _)]
  ·obtain ⟨hlt,rfl⟩:=List.getElem?_eq_some_iff.1 hi
   have e:(((x :: r).flatMap f).drop (i*E.sz)).take E.sz=f (x :: r)[i]:=by
    apply List.ext_getElem?
    intro k
    rw [List.getElem?_take]
    have hl1:=(E.len (hR (x :: r)[i])).1
    split
    ·rename_i hk
     rw [List.getElem?_drop]; exact hfl.2 i hlt k hk
    ·exact (List.getElem?_eq_none (by omega)).symm
   rw [e]
   exact hR _
structure Cp where
 kind:Nat
 n:Int
 cmp:Nat
 nl:Bool
 args:List Tx
structure Edx where
 src:Int
 dst:Int
 act:Cp
 pl:Int
def fV (d:Cp):List AV:=[.int .u8 (d.kind:Int),.int .i64 d.n,.int .u8 (d.cmp:Int),sN d.nl (mr d.args) d.args.length]
def eY (e:Edx):List AV:=[.int .i64 e.src,.int .i64 e.dst,.int .u8 (e.act.kind:Int),.int .i64 e.act.n,.int .u8 (e.act.cmp:Int),sN e.act.nl (mr e.act.args) e.act.args.length,.int .i64 e.pl]
theorem lN (x:Edx):(eY x).all AV.one=true:=by
 have h:=(jU x.act.nl (mr x.act.args) x.act.args.length).2
 simp only [eY,List.all_cons,List.all_nil,h]
 rfl
abbrev CB:gC Edx:=uG 7 eY (by omega) (fun _=>rfl) lN
structure Gx where
 vars:Int
 anl:Bool
 arrays:List Int
 nodes:Int
 start:Int
 last:Int
 enl:Bool
 edges:List Edx
def dW (g:Gx):List AV:=[.int .i64 g.vars,sN g.anl (g.arrays.flatMap fun n=>[.int .i64 n]) g.arrays.length,.int .i64 g.nodes,.int .i64 g.start,.int .i64 g.last,sN g.enl (g.edges.flatMap eY) g.edges.length]
def kN (n:Int):Prop:=-9223372036854775808<=n/\n<=9223372036854775807
mutual
def kB:Tx->Prop
 | .mk k s n _ l p=>k<256/\s.size<=maxLen/\kN n/\pO l/\l.length<=maxLen/\kN p
def pO:List Tx->Prop
 | []=>True
 | x :: l=>kB x/\pO l
end
theorem rX (x:Tx):kB x ↔ x.kind<256/\x.name.size<=maxLen/\kN x.n/\pO x.args/\x.args.length<=maxLen/\kN x.pl:=by
 cases x; simp only [kB,Tx.kind,Tx.name,Tx.n,Tx.args,Tx.pl]
theorem mp:∀ l:List Tx,pO l ↔ ∀ x∈l,kB x
 | []=>by simp [pO]
 | x :: l=>by simp [pO,mp l]
def Ag (d:Cp):Prop:=d.kind<256/\kN d.n/\d.cmp<256/\(∀ x∈d.args,kB x)/\d.args.length<=maxLen
def Af (e:Edx):Prop:=kN e.src/\kN e.dst/\Ag e.act/\kN e.pl
def mT (g:Gx):Prop:=kN g.vars/\(∀ n∈g.arrays,kN n)/\g.arrays.length<=maxLen/\kN g.nodes/\kN g.start/\kN g.last/\(∀ e∈g.edges,Af e)/\g.edges.length<=maxLen
mutual
def uy:Tx->Nat
 | .mk _ s _ _ l _=>s.size+1+lW l
def lW:List Tx->Nat
 | []=>0
 | x :: l=>uy x+lW l
end
theorem pR (x:Tx):uy x=x.name.size+1+lW x.args:=by cases x; simp only [uy,Tx.name,Tx.args]
theorem ip:∀ l:List Tx,lW l=(l.map uy).sum
 | []=>rfl
 | x :: l=>by simp only [lW,ip l,List.map_cons,List.sum_cons]
def pf (e:Edx):Nat:=lW e.act.args+1
def xV (g:Gx):Nat:=(g.arrays.map fun _=>1).sum+(g.edges.map pf).sum
mutual
def bulkD {H:Type}:DataW H->Nat
 | .lit (.string b)=>b.length+1
 | .lit _=>1
 | .slice es sp=>bulkL es+bulkL sp+1
 | .agg ps=>bulkL ps+1
 | _=>1
def bulkL {H:Type}:List (DataW H)->Nat
 | []=>0
 | d :: l=>bulkD d+bulkL l
end
theorem zP {H:Type} (d:DataW H):1<=bulkD d:=by
 cases d with
 | lit l=>cases l <;> simp [bulkD]
 | _=>simp [bulkD]
theorem sF {H α:Type} {wt:α->Nat}:∀ (L:List α) (D:List (DataW H)),L.length=D.length->(∀ i (h:i<L.length),wt L[i]<=bulkD (D.getD i .nil))->(L.map wt).sum<=bulkL D
 | [],D,_,_=>Nat.zero_le _
 | a :: L,[],h,_=>by simp at h
 | a :: L,d :: D,h,hi=>by
  have h1:=hi 0 (by simp)
  have h2:=sF L D (by simpa using h) fun i h=>by
   have:=hi (i+1) (by simpa using h)
   simpa using this
  simp only [List.map_cons,List.sum_cons,bulkL]
  have h1:wt a<=bulkD d:=by simpa using h1
  omega
theorem CE {H β:Type} {xs:List (DataW H × β)} (h:xs.length=4):bulkL (xs.map (·.1))=bulkD xs[0].1+bulkD xs[1].1+bulkD xs[2].1+bulkD xs[3].1:=by
 match xs,h with
 | [a,b,c,d],_=>simp [bulkL]; omega
theorem E0 {H β:Type} {xs:List (DataW H × β)} (h:xs.length=5):bulkL (xs.map (·.1))=bulkD xs[0].1+bulkD xs[1].1+bulkD xs[2].1+bulkD xs[3].1+bulkD xs[4].1:=by
 match xs,h with
 | [a,b,c,d,e],_=>simp [bulkL]; omega
theorem EZ {H β:Type} {xs:List (DataW H × β)} (h:xs.length=6):bulkL (xs.map (·.1))=bulkD xs[0].1+bulkD xs[1].1+bulkD xs[2].1+bulkD xs[3].1+bulkD xs[4].1+bulkD xs[5].1:=by
 match xs,h with
 | [a,b,c,d,e,f],_=>simp [bulkL]; omega
section
variable {HT:Type} {enc:TypeId × Value->HT} {P:Program} {w:World} {base:Nat} {sp:Nat->Bool} {held:Bool} {μ:Mu} {F:Nat->Prop} {α:Type}
theorem ln {f:α->List AV} {sz:Nat} {good:α->Prop} {wt:α->Nat} {t e:TypeId} (hF:∀ c,c<w.heap.size->F c) (ht:P.underlying t=some (.slice e)) (hsz:P.cellsOf e=sz) (hp:0<sz) (hf:∀ a,(f a).length=sz) {fuel:Nat}
  (helem:∀ fuel',fuel'<fuel->∀ cs x,DataW.trod enc P w base sp held fuel' e cs=some x->∃ z,LR μ F w (f z) cs/\good z/\wt z<=bulkD x.1)
  {cs:List Value} {x:DataW HT × List MemPlace} (h:DataW.trod enc P w base sp held fuel t cs=some x) :
  ∃ v nl,∃ zs:List α,cs=[v]/\VR μ F w (sN nl (zs.flatMap f) zs.length) v/\(∀ z∈zs,good z)/\zs.length<=maxLen/\(zs.map wt).sum<=bulkD x.1:=by
 rcases DataW.trod_slice ht h with ⟨rfl,-⟩ | ⟨a,len,cap,elems,rest,n,hn,rfl,ex,hb,hl,hc,hlen,hel,-⟩
 ·exact ⟨_,true,[],rfl,.nilSl,(fun z h=>by cases h),Nat.zero_le _,Nat.zero_le _⟩
 ·rcases Nat.eq_zero_or_pos len with h0 | h0
  ·subst h0
   exact ⟨_,false,[],rfl,.sl0 a cap,fun z h=>(by cases h),Nat.zero_le _,Nat.zero_le _⟩
  ·obtain ⟨L,hL1,hL2⟩:=mI (P:=fun i (y:List Value × α)=>w.cells? base (a.add (i*sz)) sz=some y.1/\LR μ F w (f y.2) y.1/\good y.2/\wt y.2<=bulkD ((elems.map (·.1)).getD i .nil)) len fun i hi=>by
    have h1:=hel i hi
    rw [List.getElem?_eq_getElem (by omega),hsz] at h1
    obtain ⟨cs,h2,h3⟩:=Option.bind_eq_some_iff.1 h1
    obtain ⟨z,h4,h5,h6⟩:=helem n (by omega) _ _ h3
    exact ⟨(cs,z),h2,h4,h5,by rw [List.getD_eq_getElem?_getD,List.getElem?_map,List.getElem?_eq_getElem (by omega)]; exact h6⟩
   obtain ⟨hfl,hfa⟩:=qH (f:=fun y:List Value × α=>f y.2) L fun y hy=>hf _
   have hcell:∀ i (hi:i<L.length) k,k<sz->w.cell? (a.add (i*sz) |>.add k)=(L[i]).1[k]?:=fun i hi k hk=>((World.cells?_some (hL2 i hi).1).2.2 k hk)
   obtain ⟨v0,hv0⟩:∃ v0,w.cell? a=some v0:=by
    have h1:=hcell 0 (by omega) 0 hp
    have h2:=(World.cells?_some (hL2 0 (by omega)).1).2.1
    rw [List.getElem?_eq_getElem (by omega)] at h1
    simp [Addr.add] at h1
    exact ⟨_,h1⟩
   obtain ⟨arr,ety,fr,hblk,hspot⟩:∃ arr ety fr,w.heap[a.block]? = some (.cells arr ety fr)/\a.spot=none:=by
    unfold World.cell? at hv0
    split at hv0
    ·rename_i c ety fr hb
     refine ⟨c,ety,fr,hb,?_⟩
     cases hs:a.spot with
     | none=>rfl
     | some s=>rw [hs] at hv0; simp at hv0
    ·cases hv0
   obtain ⟨blk,off,spot⟩:=a
   simp only at hspot hblk hb
   subst hspot
   have hat:∀ i (hi:i<L.length) k,k<sz->arr[off+(i*sz+k)]? = (L[i]).1[k]?:=fun i hi k hk=>by
    rw [<- hcell i hi k hk]
    have e:((⟨blk,off,none⟩:Addr).add (i*sz) |>.add k)=⟨blk,off+(i*sz+k),none⟩:=by
     unfold Addr.add
     by_cases h1:i*sz=0
     ·by_cases h2:k=0
      ·simp [h1,h2]
      ·simp [h1,h2]
     ·by_cases h2:k=0
      ·simp [h1,h2]
      ·simp [h1,h2]; omega
    rw [e]
    simp [World.cell?,hblk]
   have hvl:∀ i (hi:i<L.length),(L[i]).1.length=sz:=fun i hi=>(World.cells?_some (hL2 i hi).1).2.1
   have hsize:off+(L.flatMap fun y=>f y.2).length<=arr.size:=by
    have h1:=hat (len-1) (by omega) (sz-1) (by omega)
    rw [List.getElem?_eq_getElem (by have:=hvl (len-1) (by omega); omega)] at h1
    have h2:=(Array.getElem?_eq_some_iff.1 h1).1
    rw [hfl,hL1]
    have h3:len*sz=(len-1)*sz+sz:=by
     obtain ⟨m,rfl⟩:∃ m,len=m+1:=⟨len-1,by omega⟩
     rw [Nat.succ_mul,Nat.add_sub_cancel]
    omega
   have ev:sN false ((L.map (·.2)).flatMap f) (L.map (·.2)).length=.sl (L.flatMap fun y=>f y.2) len:=by
    rw [List.length_map,hL1,List.flatMap_map]
    cases len with
    | zero=>omega
    | succ m=>rfl
   refine ⟨_,false,L.map fun y=>y.2,rfl,?_,fun z hz=>?_,by rw [List.length_map,hL1]; omega,?_⟩
   ·rw [ev]
    refine .sl _ _ _ blk off arr ety fr (hF _ (Array.getElem?_eq_some_iff.1 hblk).1) hblk hl hsize fun j c v hc hv=>?_
    have hj:=(List.getElem?_eq_some_iff.1 hc).1
    rw [hfl] at hj
    have hi:j / sz<L.length:=(Nat.div_lt_iff_lt_mul hp).2 hj
    have hk:j % sz<sz:=Nat.mod_lt _ hp
    have hjk:j / sz*sz+j % sz=j:=Nat.div_add_mod' j sz
    have h1:=hfa _ hi _ hk
    have h2:=hat _ hi _ hk
    rw [hjk] at h1 h2
    rw [hc] at h1
    rw [hv] at h2
    exact (hL2 _ hi).2.1.2 _ _ _ h1.symm h2.symm
   ·obtain ⟨y,hy,rfl⟩:=List.mem_map.1 hz
    obtain ⟨i,hi,rfl⟩:=List.getElem_of_mem hy
    exact (hL2 i hi).2.2.1
   ·have hs:=sF (wt:=fun y:List Value × α=>wt y.2) L (elems.map (·.1)) (by rw [List.length_map]; omega) fun i h=>(hL2 i h).2.2.2
    rw [List.map_map]
    have hs:(L.map (wt ∘ fun y=>y.2)).sum<=bulkL (elems.map (·.1)):=hs
    rw [ex]
    simp only [bulkD]
    omega
structure GraphTys (P:Program) (tg ta ti tes te td txs tx:TypeId):Prop where
 xs:P.underlying txs=some (.slice tx)
 cx:P.cellsOf tx=5
 x:∃ f0 f1 f2 f3 f4:Field,P.underlying tx=some (.struct #[f0,f1,f2,f3,f4])/\f0.offset=0/\f1.offset=1/\f2.offset=2/\f3.offset=3/\f4.offset=4/\P.underlying f0.type=some (.int .u8)/\P.underlying f1.type=some .string/\P.underlying f2.type=some (.int .i64)/\f3.type=txs/\P.underlying f4.type=some (.int .i64) /\
  P.cellsOf f0.type=1/\P.cellsOf f1.type=1/\P.cellsOf f2.type=1/\P.cellsOf f3.type=1/\P.cellsOf f4.type=1
 cd:P.cellsOf td=4
 d:∃ f0 f1 f2 f3:Field,P.underlying td=some (.struct #[f0,f1,f2,f3])/\f0.offset=0/\f1.offset=1/\f2.offset=2/\f3.offset=3/\P.underlying f0.type=some (.int .u8)/\P.underlying f1.type=some (.int .i64)/\P.underlying f2.type=some (.int .u8)/\f3.type=txs /\
  P.cellsOf f0.type=1/\P.cellsOf f1.type=1/\P.cellsOf f2.type=1/\P.cellsOf f3.type=1
 es:P.underlying tes=some (.slice te)
 ce:P.cellsOf te=7
 e:∃ f0 f1 f2 f3:Field,P.underlying te=some (.struct #[f0,f1,f2,f3])/\f0.offset=0/\f1.offset=1/\f2.offset=2/\f3.offset=6/\P.underlying f0.type=some (.int .i64)/\P.underlying f1.type=some (.int .i64)/\f2.type=td/\P.underlying f3.type=some (.int .i64) /\
  P.cellsOf f0.type=1/\P.cellsOf f1.type=1/\P.cellsOf f3.type=1
 ays:P.underlying ta=some (.slice ti)
 i:P.underlying ti=some (.int .i64)
 ci:P.cellsOf ti=1
 cg:P.cellsOf tg=6
 g:∃ f0 f1 f2 f3 f4 f5:Field,P.underlying tg=some (.struct #[f0,f1,f2,f3,f4,f5])/\f0.offset=0/\f1.offset=1/\f2.offset=2/\f3.offset=3/\f4.offset=4/\f5.offset=5/\P.underlying f0.type=some (.int .i64)/\f1.type=ta/\P.underlying f2.type=some (.int .i64)/\P.underlying f3.type=some (.int .i64)/\P.underlying f4.type=some (.int .i64)/\f5.type=tes /\
  P.cellsOf f0.type=1/\P.cellsOf f1.type=1/\P.cellsOf f2.type=1/\P.cellsOf f3.type=1/\P.cellsOf f4.type=1/\P.cellsOf f5.type=1
theorem dI {n:Int} (h:(Lit.int IntKind.i64 n).wf=true):kN n:=by
 have e1:IntKind.i64.min = -9223372036854775808:=by decide
 have e2:IntKind.i64.max=9223372036854775807:=by decide
 unfold Lit.wf at h
 simp [e1,e2] at h
 exact h
theorem AU {tg ta ti tes te td txs tx:TypeId} (hT:GraphTys P tg ta ti tes te td txs tx) (hF:∀ c,c<w.heap.size->F c):∀ (fuel:Nat) (cs:List Value) (x:DataW HT × List MemPlace),DataW.trod enc P w base sp held fuel tx cs=some x ->
  ∃ z,LR μ F w (dJ z) cs/\kB z/\uy z<=bulkD x.1:=by
 intro fuel
 induction fuel using Nat.strongRecOn with
 | _ fuel ih =>
  intro cs x h
  obtain ⟨f0,f1,f2,f3,f4,i1,o0,o1,o2,o3,o4,u0,u1,u2,u3,u4,c0,c1,c2,c3,c4⟩:=hT.x
  obtain ⟨xs,n,hn,ex,hl,hxl,hx⟩:=DataW.trod_struct i1 h
  have hxl:xs.length=5:=by simpa using hxl
  rw [hT.cx] at hl
  match cs,hl with
  | [v0,v1,v2,v3,v4],_ =>
   have e0:=hx 0 f0 rfl
   have e1:=hx 1 f1 rfl
   have e2:=hx 2 f2 rfl
   have e3:=hx 3 f3 rfl
   have e4:=hx 4 f4 rfl
   rw [List.getElem?_eq_getElem (by omega),o0,c0] at e0
   rw [List.getElem?_eq_getElem (by omega),o1,c1] at e1
   rw [List.getElem?_eq_getElem (by omega),o2,c2] at e2
   rw [List.getElem?_eq_getElem (by omega),o3,c3,u3] at e3
   rw [List.getElem?_eq_getElem (by omega),o4,c4] at e4
   obtain ⟨k,g0,-,w0⟩:=DataW.trod_int u0 e0
   obtain ⟨s,g1,xs1,w1⟩:=DataW.trod_string u1 e1
   obtain ⟨m,g2,-,w2⟩:=DataW.trod_int u2 e2
   obtain ⟨v,nl,zs,g3,r3,w3,w3',wz⟩:=ln (f:=dJ) (good:=kB) (wt:=uy) (μ:=μ) hF hT.xs hT.cx (by omega) fU (fun fuel' hf cs x h=>ih fuel' (by omega) cs x h) e3
   obtain ⟨p,g4,-,w4⟩:=DataW.trod_int u4 e4
   have hr:=nB w0
   obtain ⟨kk,rfl⟩:∃ m:Nat,k=(m:Int):=⟨k.toNat,by omega⟩
   have q0:v0=.int .u8 (kk:Int):=by simpa using g0
   have q1:v1=.string s:=by simpa using g1
   have q2:v2=.int .i64 m:=by simpa using g2
   have q3:v3=v:=by simpa using g3
   have q4:v4=.int .i64 p:=by simpa using g4
   clear g0 g1 g2 g3 g4
   subst q0; subst q1; subst q2; subst q3; subst q4
   refine ⟨.mk kk s m nl zs p,?_,?_,?_⟩
   ·simp only [dJ,nq]
    exact LR.cons (.int _ _) (LR.cons (.str _) (LR.cons (.int _ _) (LR.cons r3 (LR.cons (.int _ _) LR.nil))))
   ·simp only [kB]
    exact ⟨by omega,w1,dI w2,(mp _).2 w3,w3',dI w4⟩
   ·have hb:=E0 hxl
    have hs1:bulkD xs[1].1=s.size+1:=by rw [xs1]; simp only [bulkD,Array.length_toList]; rfl
    rw [ex]
    simp only [bulkD,uy,ip]
    omega
theorem AW {tg ta ti tes te td txs tx:TypeId} (hT:GraphTys P tg ta ti tes te td txs tx) (hF:∀ c,c<w.heap.size->F c) {fuel:Nat} {cs:List Value} {x:DataW HT × List MemPlace} (h:DataW.trod enc P w base sp held fuel td cs=some x) :
  ∃ z,LR μ F w (fV z) cs/\Ag z/\lW z.args<=bulkD x.1:=by
 obtain ⟨f0,f1,f2,f3,i1,o0,o1,o2,o3,u0,u1,u2,u3,c0,c1,c2,c3⟩:=hT.d
 obtain ⟨xs,n,hn,ex,hl,hxl,hx⟩:=DataW.trod_struct i1 h
 have hxl:xs.length=4:=by simpa using hxl
 rw [hT.cd] at hl
 match cs,hl with
 | [v0,v1,v2,v3],_ =>
  have e0:=hx 0 f0 rfl
  have e1:=hx 1 f1 rfl
  have e2:=hx 2 f2 rfl
  have e3:=hx 3 f3 rfl
  rw [List.getElem?_eq_getElem (by omega),o0,c0] at e0
  rw [List.getElem?_eq_getElem (by omega),o1,c1] at e1
  rw [List.getElem?_eq_getElem (by omega),o2,c2] at e2
  rw [List.getElem?_eq_getElem (by omega),o3,c3,u3] at e3
  obtain ⟨k,g0,-,w0⟩:=DataW.trod_int u0 e0
  obtain ⟨m,g1,-,w1⟩:=DataW.trod_int u1 e1
  obtain ⟨c,g2,-,w2⟩:=DataW.trod_int u2 e2
  obtain ⟨v,nl,zs,g3,r3,w3,w3',wz⟩:=ln (f:=dJ) (good:=kB) (wt:=uy) (μ:=μ) hF hT.xs hT.cx (by omega) fU (fun fuel' hf cs x h=>AU hT hF fuel' cs x h) e3
  have hr:=nB w0
  have hr2:=nB w2
  obtain ⟨kk,rfl⟩:∃ m:Nat,k=(m:Int):=⟨k.toNat,by omega⟩
  obtain ⟨cc,rfl⟩:∃ m:Nat,c=(m:Int):=⟨c.toNat,by omega⟩
  have q0:v0=.int .u8 (kk:Int):=by simpa using g0
  have q1:v1=.int .i64 m:=by simpa using g1
  have q2:v2=.int .u8 (cc:Int):=by simpa using g2
  have q3:v3=v:=by simpa using g3
  clear g0 g1 g2 g3
  subst q0; subst q1; subst q2; subst q3
  have hb:=CE hxl
  refine ⟨⟨kk,m,cc,nl,zs⟩,?_,⟨by show kk<256; omega,dI w1,by show cc<256; omega,w3,w3'⟩,by rw [ex]; simp only [bulkD,ip]; omega⟩
  unfold fV
  simp only [nq]
  exact LR.cons (.int _ _) (LR.cons (.int _ _) (LR.cons (.int _ _) (LR.cons r3 LR.nil)))
theorem vU {tg ta ti tes te td txs tx:TypeId} (hT:GraphTys P tg ta ti tes te td txs tx) (hF:∀ c,c<w.heap.size->F c) {fuel:Nat} {cs:List Value} {x:DataW HT × List MemPlace} (h:DataW.trod enc P w base sp held fuel te cs=some x) :
  ∃ z,LR μ F w (eY z) cs/\Af z/\pf z<=bulkD x.1:=by
 obtain ⟨f0,f1,f2,f3,i1,o0,o1,o2,o3,u0,u1,u2,u3,c0,c1,c3⟩:=hT.e
 obtain ⟨xs,n,hn,ex,hl,hxl,hx⟩:=DataW.trod_struct i1 h
 have hxl:xs.length=4:=by simpa using hxl
 rw [hT.ce] at hl
 match cs,hl with
 | [v0,v1,v2,v3,v4,v5,v6],_ =>
  have e0:=hx 0 f0 rfl
  have e1:=hx 1 f1 rfl
  have e2:=hx 2 f2 rfl
  have e3:=hx 3 f3 rfl
  rw [List.getElem?_eq_getElem (by omega),o0,c0] at e0
  rw [List.getElem?_eq_getElem (by omega),o1,c1] at e1
  rw [List.getElem?_eq_getElem (by omega),o2,u2,hT.cd] at e2
  rw [List.getElem?_eq_getElem (by omega),o3,c3] at e3
  obtain ⟨a,g0,-,w0⟩:=DataW.trod_int u0 e0
  obtain ⟨b,g1,-,w1⟩:=DataW.trod_int u1 e1
  obtain ⟨d,r2,w2,wd⟩:=AW (μ:=μ) hT hF e2
  obtain ⟨p,g3,-,w3⟩:=DataW.trod_int u3 e3
  have q0:v0=.int .i64 a:=by simpa using g0
  have q1:v1=.int .i64 b:=by simpa using g1
  have q3:v6=.int .i64 p:=by simpa using g3
  clear g0 g1 g3
  subst q0; subst q1; subst q3
  have r2:LR μ F w (fV d) [v2,v3,v4,v5]:=by simpa using r2
  have hb:=CE hxl
  refine ⟨⟨a,b,d,p⟩,?_,⟨dI w0,dI w1,w2,dI w3⟩,by rw [ex]; simp only [bulkD,pf]; omega⟩
  have:eY ⟨a,b,d,p⟩=.int .i64 a :: .int .i64 b :: (fV d++[.int .i64 p]):=rfl
  rw [this]
  exact LR.cons (.int _ _) (LR.cons (.int _ _) (r2.append (LR.cons (.int _ _) LR.nil)))
theorem s8 {tg ta ti tes te td txs tx:TypeId} (hT:GraphTys P tg ta ti tes te td txs tx) (hF:∀ c,c<w.heap.size->F c) {fuel:Nat} {cs:List Value} {x:DataW HT × List MemPlace} (h:DataW.trod enc P w base sp held fuel tg cs=some x) :
  ∃ z,LR μ F w (dW z) cs/\mT z/\xV z<=bulkD x.1:=by
 obtain ⟨f0,f1,f2,f3,f4,f5,i1,o0,o1,o2,o3,o4,o5,u0,u1,u2,u3,u4,u5,c0,c1,c2,c3,c4,c5⟩:=hT.g
 obtain ⟨xs,n,hn,ex,hl,hxl,hx⟩:=DataW.trod_struct i1 h
 have hxl:xs.length=6:=by simpa using hxl
 rw [hT.cg] at hl
 match cs,hl with
 | [v0,v1,v2,v3,v4,v5],_ =>
  have e0:=hx 0 f0 rfl
  have e1:=hx 1 f1 rfl
  have e2:=hx 2 f2 rfl
  have e3:=hx 3 f3 rfl
  have e4:=hx 4 f4 rfl
  have e5:=hx 5 f5 rfl
  rw [List.getElem?_eq_getElem (by omega),o0,c0] at e0
  rw [List.getElem?_eq_getElem (by omega),o1,c1,u1] at e1
  rw [List.getElem?_eq_getElem (by omega),o2,c2] at e2
  rw [List.getElem?_eq_getElem (by omega),o3,c3] at e3
  rw [List.getElem?_eq_getElem (by omega),o4,c4] at e4
  rw [List.getElem?_eq_getElem (by omega),o5,c5,u5] at e5
  obtain ⟨a,g0,-,w0⟩:=DataW.trod_int u0 e0
  obtain ⟨av,anl,ays,g1,r1,w1,w1',wa⟩:=ln (f:=fun n:Int=>[AV.int .i64 n]) (good:=kN) (wt:=fun _=>1) (μ:=μ) hF hT.ays hT.ci (by omega) (fun _=>rfl) (fun fuel' hf cs x h=>by
   obtain ⟨n,rfl,-,hw⟩:=DataW.trod_int hT.i h
   exact ⟨n,LR.cons (.int _ _) LR.nil,dI hw,zP _⟩) e1
  obtain ⟨b,g2,-,w2⟩:=DataW.trod_int u2 e2
  obtain ⟨c,g3,-,w3⟩:=DataW.trod_int u3 e3
  obtain ⟨d,g4,-,w4⟩:=DataW.trod_int u4 e4
  obtain ⟨ev,enl,es,g5,r5,w5,w5',we⟩:=ln (f:=eY) (good:=Af) (wt:=pf) (μ:=μ) hF hT.es hT.ce (by omega) (fun _=>rfl) (fun fuel' hf cs x h=>vU hT hF h) e5
  have q0:v0=.int .i64 a:=by simpa using g0
  have q1:v1=av:=by simpa using g1
  have q2:v2=.int .i64 b:=by simpa using g2
  have q3:v3=.int .i64 c:=by simpa using g3
  have q4:v4=.int .i64 d:=by simpa using g4
  have q5:v5=ev:=by simpa using g5
  clear g0 g1 g2 g3 g4 g5
  subst q0; subst q1; subst q2; subst q3; subst q4; subst q5
  exact ⟨⟨a,anl,ays,b,c,d,enl,es⟩,LR.cons (.int _ _) (LR.cons r1 (LR.cons (.int _ _) (LR.cons (.int _ _) (LR.cons (.int _ _) (LR.cons r5 LR.nil))))),⟨dI w0,w1,w1',dI w2,dI w3,dI w4,w5,w5'⟩,by have hb:=EZ hxl; rw [ex]; simp only [bulkD,xV]; omega⟩
theorem open_graph {tg ta ti tes te td txs tx:TypeId} (hT:GraphTys P tg ta ti tes te td txs tx) (hF:∀ c,c<w.heap.size->F c) {base':Nat} {r:Reach} {v:Value} {d:DataW HT} {ps:List MemPlace} (hval:Value.okWide P w r base' tg v) (hd:DataW.Trod enc P w base sp held tg v d ps) :
  ∃ z,VR μ F w (.agg (dW z)) v/\mT z/\xV z<=bulkD d:=by
 obtain ⟨f0,f1,f2,f3,f4,f5,i1,-⟩:=hT.g
 obtain ⟨cs,rfl,hsz⟩:=okWide_struct i1 hval
 obtain ⟨fuel,h⟩:=hd
 obtain ⟨z,g1,g2,g3⟩:=s8 (μ:=μ) hT hF h
 have g1:LR μ F w (dW z) cs.toList:=g1
 exact ⟨z,.agg _ cs (by simpa using g1.1) fun i c v h1 h2=>g1.2 i c v h1 (by simpa using h2),g2,g3⟩
end
end Go.Proofs.Ytekmejlgocineaa.Ev
namespace Go.Proofs.Ytekmejlgocineaa.Ev
open Go Nn
set_option linter.all false
section
variable {tab:Nat->Option aN} {H:Heap} {s:AV}
end
def yO (tab:Nat->Option aN) (rd:Bool) (b:ACode) (Q:Ex->Tm->Heap->Prop) (x:Ex) (T:Tm) (H:Heap):Prop:=match x with
 | .nrm=>WB tab rd b T H Q
 | x=>Q x T H
def BZ (R:Tm->Heap->Prop) (Q:Ex->Tm->Heap->Prop) (x:Ex) (T:Tm) (H:Heap):Prop:=match x with
 | .nrm=>R T H
 | x=>Q x T H
section
variable {tab:Nat->Option aN} {rd:Bool} {a b:ACode} {T:Tm} {H:Heap} {Q:Ex->Tm->Heap->Prop} {R:Tm->Heap->Prop}
theorem az:yO tab rd b Q .nrm T H=WB tab rd b T H Q:=rfl
theorem ed:yO tab rd b Q .ret T H=Q .ret T H:=rfl
theorem v9 (i:Nat):yO tab rd b Q (.exit i) T H=Q (.exit i) T H:=rfl
theorem ad:BZ R Q .nrm T H=R T H:=rfl
theorem af:BZ R Q .ret T H=Q .ret T H:=rfl
theorem xn (i:Nat):BZ R Q (.exit i) T H=Q (.exit i) T H:=rfl
theorem aG (h:WC tab rd a T H (yO tab rd b Q)):WB tab rd (.seq a b) T H Q:=lY (h.wb.mono fun x T' H' h=>by cases x <;> exact h)
theorem cu (R:Tm->Heap->Prop) (hp:eN a=true) (h:WC tab rd a T H (BZ R Q)) (hb:∀ T' H',Same (dt a) T T'->R T' H'->WB tab rd b T' H' Q):WB tab rd (.seq a b) T H Q :=
 lY ((h.wb.same hp).mono fun x T' H' ⟨hs,h⟩=>by
  cases x with
  | nrm=>exact hb T' H' hs h
  | exit e=>exact h
  | goto l=>exact h
  | ret=>exact h)
theorem oY {f:Nat} {fn:aN} {args:List AV} {Q:AV->Heap->Prop} (hf:tab f=some fn) (he:fn.ext=none) (hl:args.length=fn.nparams) (hn:fn.nparams<=fn.ntmps)
  (h:∀ T0:Tm,T0.length=fn.ntmps->(∀ i,i<args.length->aa T0 i=args.getD i .undef)->WB tab false fn.body T0 H (oL fn.results Q)):Ans tab (.fn f args) H Q:=by
 obtain ⟨x,T',H',⟨N,g⟩,hx,v,hv,hq⟩:=h (args++List.replicate (fn.ntmps-args.length) .undef) (by simp; omega) fun i hi=>by
  unfold aa
  rw [List.getD_eq_getElem?_getD,List.getD_eq_getElem?_getD,List.getElem?_append_left hi]
 refine ⟨v,H',⟨N+1,fun m n hm hn=>?_⟩,hq⟩
 obtain ⟨n',rfl⟩:∃ n',n=n'+1:=⟨n-1,by omega⟩
 show kp tab dP (gy tab dP m n') m (.fn f args) H=_
 simp only [kp,hf,he,pm,if_pos hl]
 rw [g m n' zO zO]
 rcases hx with rfl | rfl <;> simp [hv]
end
section
variable {tab:Nat->Option aN} {H:Heap} {s:AV}
end
open Go
theorem kR {tab:Nat->Option aN} {rd:Bool} {c:ACode} {T:Tm} {H:Heap} {K:Ex->Tm->Heap->Prop} (p:Tm->Prop) (hp:p T) (h:∀ T',p T'->WC tab rd c T' H K):WC tab rd c T H K:=h T hp
theorem qZ {tab:Nat->Option aN} {rd:Bool} {c:ACode} {T:Tm} {H:Heap} {K:Ex->Tm->Heap->Prop} (p:Tm->Prop) (hp:p T) (h:∀ T',p T'->WB tab rd c T' H K):WB tab rd c T H K:=h T hp
def cT (k:Nat):Nat:=if k=1\/k=2 then 0 else if k=3\/k=4 then 1 else 2
def bM (vars:Int) (na:Nat) (k:Nat) (n:Int):Prop:=if k=1 then 0<=n else if k=2 then 0<=n/\n<vars else if k=3 then 0<=n/\n<na else n=0
instance (vars:Int) (na k:Nat) (n:Int):Decidable (bM vars na k n):=by unfold bM; infer_instance
mutual
def fh (vars:Int) (na:Nat):Tx->Bool
 | .mk k _ n _ l _=>decide ((1<=k/\k<=11)/\bM vars na k n/\l.length=cT k) && tH vars na l
def tH (vars:Int) (na:Nat):List Tx->Bool
 | []=>true
 | x :: l=>fh vars na x && tH vars na l
end
theorem qp (vars:Int) (na:Nat) (x:Tx):fh vars na x=(decide ((1<=x.kind/\x.kind<=11)/\bM vars na x.kind x.n/\x.args.length=cT x.kind) && tH vars na x.args):=by
 cases x; simp only [fh,Tx.kind,Tx.n,Tx.args]; congr
theorem lz (vars:Int) (na:Nat):∀ l:List Tx,tH vars na l=l.all (fh vars na)
 | []=>by simp [tH]
 | x :: l=>by simp [tH,lz vars na l]
theorem pX {x y:Tx} (h:y∈x.args):SizeOf.sizeOf y<SizeOf.sizeOf x:=by
 cases x with
 | mk k s n nl l p =>
  simp only [Tx.args] at h
  have:=List.sizeOf_lt_of_mem h
  simp only [Tx.mk.sizeOf_spec]
  omega
theorem fF (a b c d:AV) (l:List AV):aB (a :: b :: c :: d :: l) 3 none=some d:=rfl
theorem pj (a b c d e:AV) (l:List AV):aB (a :: b :: c :: d :: e :: l) 4 none=some e:=rfl
theorem gV (a b c d e f:AV) (l:List AV):aB (a :: b :: c :: d :: e :: f :: l) 5 none=some f:=rfl
theorem iT {cs:List AV} (h:cs.all AV.one=true):kh (.agg cs)=some cs:=by simp [kh,AV.cells,h]
def jN (g:Gx):AV:=sN g.anl (g.arrays.flatMap fun n=>[.int .i64 n]) g.arrays.length
def lg (g:Gx):AV:=sN g.enl (g.edges.flatMap eY) g.edges.length
def mZ (nl:Bool) (l:List Tx):AV:=sN nl (mr l) l.length
theorem ki (g:Gx):kh (.agg (dW g))=some [.int .i64 g.vars,jN g,.int .i64 g.nodes,.int .i64 g.start,.int .i64 g.last,lg g]:=by
 refine iT ?_
 have h1:AV.one (jN g)=true:=(jU _ _ _).2
 have h2:AV.one (lg g)=true:=(jU _ _ _).2
 show ([.int .i64 g.vars,jN g,.int .i64 g.nodes,.int .i64 g.start,.int .i64 g.last,lg g]:List AV).all AV.one=true
 simp only [List.all_cons,List.all_nil,h1,h2]
 rfl
theorem t9 (x:Tx):kh (.agg (dJ x))=some [.int .u8 (x.kind:Int),.str x.name,.int .i64 x.n,mZ x.nl x.args,.int .i64 x.pl]:=by
 rw [iT (jE x),gS]; rfl
theorem qV (ty:Nat) (H:Heap) (g:Gx):SlV (mY (qA .i64)) ty H (jN g) g.arrays:=p8 (E:=mY (qA .i64)) (f:=fun n=>[.int .i64 n]) (fun a=>⟨_,rfl,rfl⟩) _ _
theorem gp (ty:Nat) (H:Heap) (g:Gx):SlV CB ty H (lg g) g.edges:=p8 (E:=CB) (fun a=>rfl) _ _
theorem dZ (ty:Nat) (H:Heap) (nl:Bool) (l:List Tx):SlV ES ty H (mZ nl l) l:=by unfold mZ; rw [nq]; exact p8 (E:=ES) (fun a=>rfl) _ _
theorem gq (nl:Bool) (l:List Tx):lenV (mZ nl l)=some (.int .i64 (l.length:Int)):=(dZ 0 default nl l).lenV
theorem jc (g:Gx):lenV (jN g)=some (.int .i64 (g.arrays.length:Int)):=(qV 0 default g).lenV
theorem iC (g:Gx):lenV (lg g)=some (.int .i64 (g.edges.length:Int)):=(gp 0 default g).lenV
section
variable {tab:Nat->Option aN} {H:Heap}
theorem fw (C:Code tab) (hw:Wf H) {a b:Int} :
  Ans tab (.fn cA [.int .i64 a,.int .i64 b]) H fun v H'=>v=.bool (decide (0<=a/\a<b))/\Kp H H':=by
 refine i9 C.q11 (by decide) fun T hl g0 g1=>?_
 by_cases h:0<=a
 ·have e:decide (0<=a/\a<b)=decide (a<b):=by simp [h]
  rw [e]
  refine zW (dz hl g0 g1 h) ?_
  exact zK
 ·have e:decide (0<=a/\a<b)=false:=by simp [h]
  rw [e]
  refine zW (dz hl g0 g1 h) ?_
  exact zK
theorem gM (C:Code tab) (hw:Wf H) {g:Gx} {n:Int} :
  Ans tab (.fn bn [.agg (dW g),.int .i64 n]) H fun v H'=>v=.bool (decide (0<=n/\n<g.nodes))/\Kp H H':=by
 refine i9 C.q20 (by decide) fun T hl g0 g1=>?_
 by_cases h:0<=n
 ·have e:decide (0<=n/\n<g.nodes)=decide (n<g.nodes):=by simp [h]
  rw [e]
  refine zW (eU hl g0 g1 h (ki g)) ?_
  exact zK
 ·have e:decide (0<=n/\n<g.nodes)=false:=by simp [h]
  rw [e]
  refine zW (eU hl g0 g1 h (ki g)) ?_
  exact zK
set_option maxHeartbeats 1000000 in
theorem oO (C:Code tab) {g:Gx}:∀ (m:Nat) (x:Tx),SizeOf.sizeOf x<=m->kB x->∀ {H:Heap},Wf H->Ans tab (.fn bz [.agg (dW g),.agg (dJ x)]) H fun v H'=>v=.bool (fh g.vars g.arrays.length x)/\Kp H H':=by
 intro m
 induction m with
 | zero=>intro x hx; cases x; simp at hx
 | succ m ih =>
  intro x hx hgx H hw
  have hrs:c_facetroomref13_MayExpr.results=[(4,none)]:=rfl
  have hsub:∀ y∈x.args,∀ {H:Heap},Wf H->Ans tab (.fn bz [.agg (dW g),.agg (dJ y)]) H fun v H'=>v=.bool (fh g.vars g.arrays.length y)/\Kp H H' :=
   fun y hy=>ih y (by have:=pX hy; omega) ((mp _).1 ((rX x).1 hgx).2.2.2.1 y hy)
  have hlen:x.args.length<=9223372036854775807:=((rX x).1 hgx).2.2.2.2.1
  have ag:=fun H=>dZ (ty:=au) (H:=H) x.nl x.args
  rw [qp,lz]
  refine oY C.q42 rfl rfl (by decide) fun T hl ga=>?_
  have hl:T.length=81:=hl
  have g0:aa T 0=.agg (dW g):=ga 0 (by simp)
  have g1:aa T 1=.agg (dJ x):=ga 1 (by simp)
  clear ga
  have bx:=t9 x
  have la:=gq x.nl x.args
  have ls:=jc g
  obtain ⟨k,hk⟩:∃ k,k=x.kind:=⟨_,rfl⟩
  obtain ⟨n,hn⟩:∃ n,n=x.n:=⟨_,rfl⟩
  obtain ⟨l,hl'⟩:∃ l,l=x.args:=⟨_,rfl⟩
  obtain ⟨av,hav⟩:∃ av,av=mZ x.nl x.args:=⟨_,rfl⟩
  obtain ⟨ar,har⟩:∃ ar,ar=jN g:=⟨_,rfl⟩
  have bg:=ki g
  rw [<- hav] at la bx ag
  rw [<- hl'] at la ag hlen hsub
  rw [<- har] at ls bg
  rw [<- hk,<- hn] at bx
  rw [<- hk,<- hn,<- hl']
  have tg:aB [.int .i64 g.vars,ar,.int .i64 g.nodes,.int .i64 g.start,.int .i64 g.last,lg g] 0 (some 6)=some (.agg (dW g)):=by rw [har]; rfl
  clear hk hn hl' hav har hx ih
  have no:∀ (hF:¬ ((1<=k/\k<=11)/\bM g.vars g.arrays.length k n/\l.length=cT k)),(decide ((1<=k/\k<=11)/\bM g.vars g.arrays.length k n/\l.length=cT k) && l.all (fh g.vars g.arrays.length))=false:=fun hF=>by rw [decide_eq_false hF]; rfl
  have yes:∀ (hF:(1<=k/\k<=11)/\bM g.vars g.arrays.length k n/\l.length=cT k),(decide ((1<=k/\k<=11)/\bM g.vars g.arrays.length k n/\l.length=cT k) && l.all (fh g.vars g.arrays.length))=l.all (fh g.vars g.arrays.length):=fun hF=>by rw [decide_eq_true hF]; rfl
  refine aG ?_
  refine zW (gD hl g0 g1 bg bx @az) ?_
  obtain ⟨X,hX⟩:∃ X,X=((H.up 3).put H.next (.cells [.int .i64 g.vars,ar,.int .i64 g.nodes,.int .i64 g.start,.int .i64 g.last,lg g] ah true)).put (H.next+1) (.cells [.int .u8 (k:Int),.str x.name,.int .i64 n,av,.int .i64 x.pl] au true):=⟨_,rfl⟩
  rw [<- hX]
  have kX:Kp H X:=by rw [hX]; exact zK
  have dG:X.get H.next=some (.cells [.int .i64 g.vars,ar,.int .i64 g.nodes,.int .i64 g.start,.int .i64 g.last,lg g] ah true):=by rw [hX,bo (by omega),aq]
  have dX:X.get (H.next+1)=some (.cells [.int .u8 (k:Int),.str x.name,.int .i64 n,av,.int .i64 x.pl] au true):=by rw [hX,aq]
  clear hX
  have wX:=kX.wf
  have dG0:=dG
  have dX0:=dX
  refine aG ?_
  refine zW (bb hl @az) ?_
  refine qZ (fun T'=>T'.length=81/\aa T' 2=.ptr H.next 0/\aa T' 3=.ptr (H.next+1) 0/\aa T' 5=.int .i64 2) (zV hl) ?_
  clear hl g0 g1
  rintro T ⟨hl,t2,t3,t5⟩
  refine cu (fun T' H'=>aa T' 5=.int .i64 (cT k:Int)/\(k<=3->1<=k->bM g.vars g.arrays.length k n)/\Kp X H') rfl ?_ ?_
  ·by_cases k1:k=1
   ·have r:bM g.vars g.arrays.length k n ↔ 0<=n:=by unfold bM; rw [if_pos k1]
    have a:cT k=0:=by rw [k1]; rfl
    have e1:(k:Int)=1:=by omega
    by_cases n1:n<0
    ·rw [no (by rw [r]; omega)]
     refine zW (pd hl t2 t3 dX e1 n1 @ad @af hrs) ?_
     exact zK
    ·refine zW (pd hl t2 t3 dX e1 n1 @ad @af hrs) ?_
     exact ⟨by rw [a]; rfl,fun _ _=>r.2 (by omega),zK⟩
   ·have e1:¬ (k:Int)=1:=by omega
    by_cases k2:k=2
    ·have r:bM g.vars g.arrays.length k n ↔ 0<=n/\n<g.vars:=by unfold bM; rw [if_neg k1,if_pos k2]
     have a:cT k=0:=by rw [k2]; rfl
     have e2:(k:Int)=2:=by omega
     by_cases n1:n<0
     ·rw [no (by rw [r]; omega)]
      refine zW (d8 hl t2 t3 dX dG e1 e2 n1 @ad @af hrs) ?_
      exact zK
     ·by_cases n2:g.vars<=n
      ·rw [no (by rw [r]; omega)]
       refine zW (dC hl t2 t3 dX dG e1 e2 n1 n2 @ad @af hrs) ?_
       exact zK
      ·refine zW (dC hl t2 t3 dX dG e1 e2 n1 n2 @ad @af hrs) ?_
       exact ⟨by rw [a]; rfl,fun _ _=>r.2 (by omega),zK⟩
    ·have e2:¬ (k:Int)=2:=by omega
     by_cases k3:k=3
     ·have r:bM g.vars g.arrays.length k n ↔ 0<=n/\n<g.arrays.length:=by unfold bM; rw [if_neg k1,if_neg k2,if_pos k3]
      have a:cT k=1:=by rw [k3]; rfl
      have e3:(k:Int)=3:=by omega
      by_cases n1:n<0
      ·rw [no (by rw [r]; omega)]
       refine zW (gt hl t2 t3 dX dG e1 e2 e3 n1 ls @ad @af hrs) ?_
       exact zK
      ·by_cases n2:(g.arrays.length:Int)<=n
       ·rw [no (by rw [r]; omega)]
        refine zW (lh hl t2 t3 dX dG e1 e2 e3 n1 n2 ls @ad @af hrs) ?_
        exact zK
       ·refine zW (lh hl t2 t3 dX dG e1 e2 e3 n1 n2 ls @ad @af hrs) ?_
        exact ⟨by rw [a]; rfl,fun _ _=>r.2 (by omega),zK⟩
     ·have e3:¬ (k:Int)=3:=by omega
      by_cases k4:k=4
      ·have a:cT k=1:=by rw [k4]; rfl
       have e4:(k:Int)=4:=by omega
       refine zW (dC hl t2 t3 dX dG e1 e2 e3 e4 @ad @af hrs) ?_
       exact ⟨by rw [a]; rfl,fun _ _=>by omega,zK⟩
      ·have a:cT k=2:=by unfold cT; rw [if_neg (by omega),if_neg (by omega)]
       have e4:¬ (k:Int)=4:=by omega
       refine zW (gt hl t2 t3 t5 dX dG e1 e2 e3 e4 @ad @af hrs) ?_
       exact ⟨by rw [a]; rfl,fun _ _=>by omega,zK⟩
  ·rintro T1 G hs ⟨u5,hr,kG⟩
   have hl1:T1.length=81:=hs.len.trans hl
   have u2:aa T1 2=.ptr H.next 0:=(hs.at_ 2 (by decide)).trans t2
   have u3:aa T1 3=.ptr (H.next+1) 0:=(hs.at_ 3 (by decide)).trans t3
   have dG1:=kG.get dG
   have dX1:=kG.get dX
   clear dG dX t2 t3 t5 hl hs
   have kHG:Kp H G:=kX.trans kG
   have wG:=kG.wf
   have r4:3<k->(bM g.vars g.arrays.length k n ↔ n=0):=fun h=>by unfold bM; rw [if_neg (by omega),if_neg (by omega),if_neg (by omega)]
   refine cu (fun T' H'=>((1<=k/\k<=11)/\bM g.vars g.arrays.length k n/\l.length=cT k)/\Kp X H') rfl ?_ ?_
   ·by_cases c1:k<1
    ·have c1':(k:Int)<1:=by omega
     rw [no (by omega)]
     refine zW (dC hl1 u2 u3 u5 dX1 dG1 c1' la @fF @ad @af hrs) ?_
     exact zK
    ·have c1':¬ (k:Int)<1:=by omega
     by_cases c2:11<k
     ·have c2':(11:Int)<(k:Int):=by omega
      rw [no (by omega)]
      refine zW (gt hl1 u2 u3 u5 dX1 dG1 c1' c2' la @fF @ad @af hrs) ?_
      exact zK
     ·have c2':¬ (11:Int)<(k:Int):=by omega
      by_cases c3:l.length=cT k
      ·have c3':(l.length:Int)=(cT k:Int):=by omega
       by_cases c4:3<k
       ·have c4':(3:Int)<(k:Int):=by omega
        by_cases c5:n=0
        ·refine zW (lX hl1 u2 u3 u5 dX1 dG1 c1' c2' c3' c4' c5 la @fF @ad @af hrs) ?_
         exact ⟨⟨by omega,by have:=(r4 c4).2 c5; rwa [c5] at this,c3⟩,zK⟩
        ·rw [no (by rw [r4 c4]; omega)]
         refine zW (lX hl1 u2 u3 u5 dX1 dG1 c1' c2' c3' c4' c5 la @fF @ad @af hrs) ?_
         exact zK
       ·have c4':¬ (3:Int)<(k:Int):=by omega
        refine zW (mU hl1 u2 u3 u5 dX1 dG1 c1' c2' c3' c4' la @fF @ad @af hrs) ?_
        exact ⟨⟨by omega,hr (by omega) (by omega),c3⟩,zK⟩
      ·have c3':¬ (l.length:Int)=(cT k:Int):=by omega
       rw [no (by omega)]
       refine zW (lh hl1 u2 u3 u5 dX1 dG1 c1' c2' c3' la @fF @ad @af hrs) ?_
       exact zK
   ·rintro T2 G2 hs2 ⟨hgood,kG2⟩
    have hl2:T2.length=81:=hs2.len.trans hl1
    have v2:aa T2 2=.ptr H.next 0:=(hs2.at_ 2 (by decide)).trans u2
    have v3:aa T2 3=.ptr (H.next+1) 0:=(hs2.at_ 3 (by decide)).trans u3
    have dG2:=kG2.get dG0
    have dX2:=kG2.get dX0
    have k2:Kp H G2:=kX.trans kG2
    have le_k2:=k2.le
    have w2:=kG2.wf
    rw [yes hgood]
    clear dG1 dX1 u2 u3 u5 hl1 hs2 kG hr no yes
    refine cu (fun _ H'=>l.all (fh g.vars g.arrays.length)=true/\Kp G2 H') rfl ?_ ?_
    ·refine zW hl2 ?_
     refine aQ G2 [6] (fun r vs H'=>∃ i:Nat,vs=[.int .i64 (i:Int)]/\i+r=l.length/\∀ q (h:q<l.length),q<i->fh g.vars g.arrays.length l[q]=true) l.length (by simp only [List.length_set]; exact hl2) rfl zK ⟨0,by refine zW hl2 ?_; rfl,by omega,fun q _ h=>by omega⟩ ?_
     rintro r T3 H3 hl3 hs3 hk3 ⟨i,hv,hik,hP⟩
     have w3:=hk3.wf
     have le_hk3:=hk3.le
     simp only [List.map_cons,List.map_nil,List.cons.injEq,and_true] at hv
     have y2:aa T3 2=.ptr H.next 0:=(hs3.at_ 2 (by decide)).trans (zV (bb hl2 v2))
     have y3:aa T3 3=.ptr (H.next+1) 0:=(hs3.at_ 3 (by decide)).trans (zV (bb hl2 v3))
     have dG3:=hk3.get dG2
     have dX3:=hk3.get dX2
     by_cases hi:i<l.length
     ·have hii:(i:Int)<(l.length:Int):=by omega
      obtain ⟨cs,rfl,-,-,h2⟩:=(ag H3).at (List.getElem?_eq_getElem hi)
      have hld:bC H3 (some 5) (br av (i*5))=some (.agg (dJ l[i])):=h2
      have hix:a7 5 av (.int .i64 (i:Int))=some (br av (i*5)):=SlV.idx (ag H3) .i64 i hi
      have e:IntKind.i64.wrap ((i:Int)+1)=((i+1:Nat):Int):=by rw [ae] <;> omega
      refine zW (jS hl3 hv y2 y3 dX3 la hii @fF) ?_
      refine al ?_
      refine zD (fg hl3 hv y2 y3 dX3 dG3 @fF tg hix hld) ?_
      refine AnsH.eq (hsub _ (List.getElem_mem hi) zF) fun H4 hk4=>?_
      obtain ⟨k34,_,_⟩:=zT H3 zK hk4
      have k4:Kp G2 H4:=hk3.trans k34
      have le_k4:=k4.le
      have kH4:Kp H H4:=k2.trans k4
      have w4:=hk4.wf
      have le_hk4:=hk4.le
      cases hq:fh g.vars g.arrays.length l[i] with
      | true =>
       refine zD (fg hl3 hv y2 y3 dX3 dG3 @fF tg hix hld) ?_
       refine zW (fe hl3 hv e) ?_
       refine ⟨zK,r-1,by omega,i+1,rfl,by omega,fun q h hqi=>?_⟩
       by_cases eq:q=i
       ·subst eq; exact hq
       ·exact hP q h (by omega)
      | false =>
       refine zD (fg hl3 hv y2 y3 dX3 dG3 @fF tg hix hld) ?_
       refine zW (dz hl3 @ad @af hrs) ?_
       refine ⟨?_,zK⟩
       rw [List.all_eq_false.2 ⟨_,List.getElem_mem hi,by simp [hq]⟩]
     ·have hii:¬ (i:Int)<(l.length:Int):=by omega
      refine zW (d8 hl3 hv y2 y3 dX3 la hii @fF @ad @af hrs) ?_
      refine ⟨List.all_eq_true.2 fun z hz=>?_,zK⟩
      obtain ⟨q,hq,rfl⟩:=List.getElem_of_mem hz
      exact hP q hq (by omega)
    ·rintro T4 G4 hs4 ⟨hall,kG4⟩
     have hl4:T4.length=81:=hs4.len.trans hl2
     rw [hall]
     have k4:Kp H G4:=k2.trans kG4
     have le_k4:=k4.le
     have w4:=kG4.wf
     refine WC.wb ?_
     refine zW (bb hl4 hrs) ?_
     exact zK
end
section
variable {tab:Nat->Option aN} {H:Heap} {s:AV}
end
section
variable {tab:Nat->Option aN} {H:Heap} {s:AV}
end
section
variable {tab:Nat->Option aN} {H:Heap} {s:AV}
abbrev CH (H0 H:Heap) (v:AV) (l:List Int):Prop:=Bl (mY (qA .i64)) fM H0 H v l
end
section
variable {tab:Nat->Option aN} {base i k:Nat} {T0:Tm} {dst:Option Nat} {op:AOp} {us:List (Nat × Option Nat)} {adds:List Nat} {ds:List gb} {Vs:List AV} {Cs:List Heap} {Es:List (Option Ent)} {Q:DS->Prop}
theorem lj {t:Nat} {w:Bool}:WD tab base T0 i (⟨dst,op,some (t,w),us,2,[(k,adds)]⟩ :: ds) ⟨Vs,Cs,Es⟩ Q =
  ik (aa (bL T0 Vs us) t) w (gU tab (Src.ev (bL T0 Vs us)) (cV base Es (Cs.getD k default) adds) (base+i) op fun v H'=>WD tab base T0 (i+1) ds ⟨Vs++[v],Cs++[H'],Es++[none]⟩ Q) (WD tab base T0 (i+1) ds ⟨Vs++[.tup []],Cs++[cV base Es (Cs.getD k default) adds],Es++[none]⟩ Q) () ():=by
 rw [pN]
 have hw:bG (bL T0 Vs us) (some (t,w))=match aa (bL T0 Vs us) t with | .bool b=>some (b == w) | .tup []=>some false | _=>none:=by
  generalize bL T0 Vs us=T
  unfold aa
  rw [List.getD_eq_getElem?_getD]
  cases h:T[t]? with
  | none=>simp only [bG,h]; rfl
  | some v =>
   simp only [bG,h,Option.getD_some]
   cases v with
   | tup vs=>cases vs <;> rfl
   | _=>rfl
 conv=>lhs; unfold wd
 simp only [hw,ik]
 cases aa (bL T0 Vs us) t with
 | bool b=>cases b <;> cases w <;> rfl
 | tup vs=>cases vs <;> rfl
 | _=>rfl
end
theorem zX {F P Q:Prop} (f:F) (q:Q) (h:F->Q->P:=by intro h q; simp -dsimp (maxSteps:=1000000) (disch:=(first | omega | assumption | exact ay _ | exact aA _ _ | exact aM | exact bh _ _ _ | exact aO _ _ | exact aP _ _ _ _ _ _ | exact bd _ _ | exact aR _)) only [↓iJ,iI,↓Cu,Ct,↓lj,Nat.reduceLT,Nat.reduceEqDiff,Nat.reduceAdd,↓reduceIte,reduceCtorEq,Nat.reduceBEq,Int.reduceEq,Int.reduceLT,Int.reduceLE,Int.reduceAdd,Int.reduceSub,h]; exact q):P:=h f q
theorem pu (a:Nat):BitVec.ofInt 64 (a:Int)=BitVec.ofNat 64 a:=by
 apply BitVec.eq_of_toNat_eq
 simp
theorem xB {a b:Nat} (ha:a<18446744073709551616) (hb:b<18446744073709551616):cw .and .int (.int .u64 (a:Int)) (.int .u64 (b:Int))=some (.int .u64 ((a &&& b:Nat):Int)):=by
 have e:(BitVec.ofInt 64 (a:Int) &&& BitVec.ofInt 64 (b:Int)).toNat=a &&& b:=by
  rw [pu,pu,BitVec.toNat_and,BitVec.toNat_ofNat,BitVec.toNat_ofNat,Nat.mod_eq_of_lt zO,Nat.mod_eq_of_lt zO]
 have hlt:a &&& b<=a:=Nat.and_le_left
 show some (AV.int .u64 (IntKind.u64.wrap ((BitVec.ofInt 64 (a:Int) &&& BitVec.ofInt 64 (b:Int)).toNat:Nat)))=_
 rw [e,gu zO zO]
structure MaskUp (bs:List Bool) (k:Nat) (W:List Nat):Prop where
 len:W.length=bs.length / 64+1
 lt:∀ i,W.getD i 0<18446744073709551616
 bit:∀ i j,j<64->(W.getD i 0).testBit j=(decide (64*i+j<k) && bs.getD (64*i+j) false)
theorem MaskUp.zero (bs:List Bool):MaskUp bs 0 (List.replicate (bs.length / 64+1) 0):=by
 have h0:∀ i,(List.replicate (bs.length / 64+1) 0).getD i 0=0:=fun i=>by
  rw [List.getD_eq_getElem?_getD,List.getElem?_replicate]; split <;> rfl
 exact ⟨by simp,fun i=>by rw [h0]; decide,fun i j _=>by rw [h0]; simp⟩
theorem MaskUp.skip {bs:List Bool} {k:Nat} {W:List Nat} (h:MaskUp bs k W) (hb:bs.getD k false=false):MaskUp bs (k+1) W:=by
 refine ⟨h.len,h.lt,fun i j hj=>?_⟩
 rw [h.bit i j hj]
 by_cases e:64*i+j=k
 ·rw [e,hb]; simp
 ·congr 2
  simp only [eq_iff_iff]
  omega
section
variable {tab:Nat->Option aN} {H:Heap} {s:AV}
end
def ux (r:List Int) (D:List (List Int)):List Bool:=D.map fun b=>decide (Lin.dot r b=0)
section
variable {tab:Nat->Option aN} {H:Heap} {s:AV}
end
theorem yc {tab:Nat->Option aN} (ev:Src->AV) (H:Heap) (id:Nat) (Q:AV->Heap->Prop) (size:Nat) (z:List AV) (x:Src) :
  gU tab ev H id (.clear size z x) Q=eG (jH H size z (ev x)) (fun H'=>Q (.tup []) H') ():=by
 rw [bF,eV tab ev H id Q (o:=.clear size z x) (fun f a e=>by cases e) rfl]
 show eX ((jH H size z (ev x)).map fun H'=>(AV.tup [],H')) _=_
 cases jH H size z (ev x) <;> rfl
theorem Kp.at_ {H0 H H':Heap} {b:Nat} (hk:Kp H0 H) (hg:∀ c,c≠b->H'.get c=H.get c) (hn:H'.next=H.next) (hb0:H0.next<=b) (hlt:b<H.next):Kp H0 H' :=
 ⟨hk.wf0,fun c e hc=>by
  by_cases h:c=b
  ·rw [h,hn]; exact hlt
  ·rw [hn]; exact hk.wf c e (by rw [<- hg c h]; exact hc),by rw [hn]; exact hk.le,fun c hc=>by rw [hg c zO]; exact hk.same c hc⟩
section
variable {tab:Nat->Option aN} {H:Heap} {s:AV}
end
def Sep (v w:AV):Prop:=∀ b,pH v=some b->pH w≠some b
theorem Sep.symm {v w:AV} (h:Sep v w):Sep w v:=fun b h1 h2=>h b h2 h1
section
variable {tab:Nat->Option aN} {H:Heap} {s:AV}
end
section
variable {tab:Nat->Option aN} (ev:Src->AV) (H:Heap) (id:Nat) (Q:AV->Heap->Prop)
theorem x9:gU tab ev H id .mkmap Q=Q (.map id) (H.put id (.map [])):=by
 rw [bF,eV tab ev H id Q (o:=.mkmap) (fun f a e=>by cases e) rfl]; rfl
theorem iN (kd:BK) (z:AV) (x i:Src) (ok:Bool):gU tab ev H id (.lookup kd z x i ok) Q=eG (jg H kd z (ev x) (ev i) ok) (fun v=>Q v H) ():=by
 rw [bF,eV tab ev H id Q (o:=.lookup kd z x i ok) (fun f a e=>by cases e) rfl]
 show eX ((jg H kd z (ev x) (ev i) ok).map fun v=>(v,H)) _=_
 cases jg H kd z (ev x) (ev i) ok <;> rfl
theorem vK (kd:BK) (m k v:Src):gU tab ev H id (.mapUpd kd m k v) Q=eG (iA H kd (ev m) (ev k) (ev v)) (fun H'=>Q .undef H') ():=by
 rw [bF,eV tab ev H id Q (o:=.mapUpd kd m k v) (fun f a e=>by cases e) rfl]
 show eX ((iA H kd (ev m) (ev k) (ev v)).map fun H'=>(AV.undef,H')) _=_
 cases iA H kd (ev m) (ev k) (ev v) <;> rfl
theorem sP {kd:BK} {z:AV} {x i:Src} {ok:Bool}:kV (.lookup kd z x i ok)=true:=rfl
end
def e7 (es:List (AV × AV)):Prop:=∀ p∈es,∃ z,p.1=.int .i64 z
def dH (es:List (AV × AV)) (z:Int):AV:=match iB (.int .i64 z) es with
 | some (some v)=>v
 | _=>.nilSl
theorem qI:∀ {es:List (AV × AV)},e7 es->∀ z,∃ o,iB (.int .i64 z) es=some o
 | [],_,z=>⟨none,rfl⟩
 | (k,v) :: es,h,z=>by
  obtain ⟨y,hy⟩:=h _ (List.mem_cons_self ..)
  simp only at hy
  subst hy
  have ih:=qI (es:=es) (fun p hp=>h p (List.mem_cons_of_mem _ hp)) z
  simp only [iB,dV,if_true]
  cases z == y with
  | true=>exact ⟨_,rfl⟩
  | false=>exact ih
theorem BM {H:Heap} {mb:Nat} {es:List (AV × AV)} (hm:H.get mb=some (.map es)) (hk:e7 es) (z:Int):jg H .int .nilSl (.map mb) (.int .i64 z) false=some (dH es z):=by
 obtain ⟨o,ho⟩:=qI hk z
 simp only [jg,eD,Bool.true_eq_false,if_false,lC,hm,ho,dH]
 cases o <;> rfl
theorem Er {H:Heap} {mb:Nat} {es:List (AV × AV)} (hm:H.get mb=some (.map es)) (hk:e7 es) (z:Int) (v:AV):iA H .int (.map mb) (.int .i64 z) v=some (H.put mb (.map (im (.int .i64 z) v es))):=by
 obtain ⟨o,ho⟩:=qI hk z
 simp only [iA,eD,Bool.true_eq_false,if_false,hm,ho]
theorem nA:∀ {es:List (AV × AV)},e7 es->∀ z v,e7 (im (.int .i64 z) v es)
 | [],_,z,v=>fun p hp=>by simp [im] at hp; exact ⟨z,by rw [hp]⟩
 | (k,w) :: es,h,z,v=>by
  obtain ⟨y,hy⟩:=h _ (List.mem_cons_self ..)
  simp only at hy
  subst hy
  have ih:=nA (es:=es) (fun p hp=>h p (List.mem_cons_of_mem _ hp)) z v
  simp only [im,dV,if_true]
  cases z == y with
  | true =>
   intro p hp
   rcases List.mem_cons.1 hp with rfl | hp
   ·exact ⟨z,rfl⟩
   ·exact h p (List.mem_cons_of_mem _ hp)
  | false =>
   intro p hp
   rcases List.mem_cons.1 hp with rfl | hp
   ·exact ⟨y,rfl⟩
   ·exact ih p hp
theorem j6:∀ {es:List (AV × AV)},e7 es->∀ z v z',dH (im (.int .i64 z) v es) z'=if z'=z then v else dH es z'
 | [],_,z,v,z'=>by
  simp only [im,dH,iB,dV,if_true]
  by_cases h:z'=z
  ·simp [h]
  ·have e:(z' == z)=false:=by simpa using h
   simp [h,e]
 | (k,w) :: es,h,z,v,z'=>by
  obtain ⟨y,hy⟩:=h _ (List.mem_cons_self ..)
  simp only at hy
  subst hy
  have ih:=j6 (es:=es) (fun p hp=>h p (List.mem_cons_of_mem _ hp)) z v z'
  simp only [dH] at ih
  simp only [im,dV,if_true,dH]
  by_cases hzy:z=y
  ·subst hzy
   simp only [beq_self_eq_true,iB,dV,if_true]
   by_cases h:z'=z
   ·simp [h]
   ·have e:(z' == z)=false:=by simpa using h
    simp [h,e]
  ·have e1:(z == y)=false:=by simpa using hzy
   simp only [e1,iB,dV,if_true]
   by_cases h:z'=y
   ·subst h
    simp [Ne.symm hzy]
   ·have e2:(z' == y)=false:=by simpa using h
    simp only [e2]
    exact ih
theorem xH {H H':Heap} {id sz bytes ty c m:Nat} {v v':AV} {news:List AV} {fr:Option Nat} (h:dm H id sz bytes ty v m news fr=some (v',H')) (hc:c≠id) (hn:H.get c=none):H'.get c=none:=by
 unfold dm at h
 split at h
 ·split at h
  ·cases h; exact hn
  ·split at h
   ·cases h; rw [bo hc]; exact hn
   ·cases h
 ·split at h
  ·rename_i b off n c' sz' ex x cs ty' rw' hb
   have hcb:c≠b:=fun e=>by rw [<- e,hn] at hb; cases hb
   split at h
   ·split at h
    ·split at h
     ·cases h; exact hn
     ·split at h
      ·cases h; rw [bo hcb]; exact hn
      ·cases h
    ·split at h
     ·cases h; rw [bo hc]; exact hn
     ·split at h
      ·cases h; rw [bo hc,fH hcb]; exact hn
      ·cases h
   ·cases h
  ·cases h
 ·cases h
theorem xG {H H':Heap} {id sz bytes ty c:Nat} {v w v':AV} (h:iV H id sz bytes ty v w=some (v',H')) (hc:c≠id) (hn:H.get c=none):H'.get c=none:=by
 unfold iV at h
 split at h
 ·cases h
 ·split at h
  ·cases h
  ·exact xH h hc hn
def Frm (v:AV) (H H':Heap):Prop:=∀ b e,H.get b=some e->pH v≠some b->H'.get b=some e
theorem Frm.subT {α:Type} {E:gC α} {ty:Nat} {tys:List Nat} {H0 H H':Heap} {v:AV} {l:List α} (hf:Frm v H H') (h:Bl E ty H0 H v l) (hn:ty ∉ tys):SubT tys H H':=fun c cs t r ht hc=>hf c _ hc fun e=>by
 rcases h with ⟨rfl,-⟩ | ⟨b,cells,rfl,hb,-⟩
 ·cases e
 ·cases e
  rw [hb] at hc; cases hc
  exact hn ht
theorem Frm.other {α:Type} {E:gC α} {ty:Nat} {H0 H H':Heap} {v:AV} {l:List α} (hf:Frm v H H') (h:Bl E ty H0 H v l) {b:Nat} {e:Ent} (hb:H.get b=some e) (he:∀ cs,e ≠ .cells cs ty true):H'.get b=some e:=hf b e hb fun e1=>by
 rcases h with ⟨rfl,-⟩ | ⟨b',cells,rfl,hb',-⟩
 ·cases e1
 ·cases e1
  rw [hb] at hb'; cases hb'
  exact he _ rfl
theorem Frm.bl {α β:Type} {E:gC α} {E':gC β} {ty:Nat} {H0 H H':Heap} {v w:AV} {l:List α} {m:List β} (hf:Frm v H H') (h:Bl E ty H0 H v l) (hw:Bl E' ty H0 H w m) (hs:Sep v w) (ht:ty ∉ E'.tys):Bl E' ty H0 H' w m:=by
 rcases hw with hw | ⟨b,cells,rfl,hb,hc,h0⟩
 ·exact .inl hw
 ·exact .inr ⟨b,cells,rfl,hf b _ hb fun e=>hs b e rfl,hc.mono (hf.subT h ht),h0⟩
theorem Bl.push2 {α:Type} {E:gC α} {ty ty2 bytes id id2:Nat} {H0 H:Heap} {v:AV} {l:List α} {cs:List AV} {a:α} (h:Bl E ty H0 H v l) (hty:ty ∉ E.tys) (hk:Kp H0 H) (hr:E.R H cs a) (hid:H0.next<=id) (hid':id<H.next) (hf:H.get id=none) (hid2:H0.next<=id2) (hid2':id2<H.next) (hf2:H.get id2=none) (hne:id≠id2)
  (hb:(l.length+1)*bytes<=70368744177664) (hl:l.length+1<4611686018427387904) :
  ∃ n H',iV (H.put id2 (.cells cs ty2 true)) id E.sz bytes ty v (.own id2 0 1 1 E.sz true)=some (.own id 0 n n E.sz false,H')/\Bl E ty H0 H' (.own id 0 n n E.sz false) (l++[a])/\Kp H0 H'/\H'.next=H.next/\Frm v H H'/\(∀ c,c≠id->c≠id2->H.get c=none->H'.get c=none):=by
 have hsub:Sub H (H.put id2 (.cells cs ty2 true)):=pZ hf2
 have hk':Kp H0 (H.put id2 (.cells cs ty2 true)):=hk.put hid2 hid2'
 have hy:SlV E ty2 (H.put id2 (.cells cs ty2 true)) (.own id2 0 1 1 E.sz true) [a] :=
  (show Own E ty2 H0 _ id2 true (.own id2 0 1 1 E.sz true) [a] from ⟨cs,rfl,aq _ _ _,Cells.one (E.mono (hsub.t _) hr),hid2⟩).sl
 have hvne:∀ b n,v=.own b 0 n n E.sz false->b≠id2:=fun b n hv e=>by
  rcases h with ⟨h,-⟩ | ⟨b',cells,h,hb',-⟩
  ·rw [h] at hv; cases hv
  ·rw [h] at hv; cases hv
   rw [e,hf2] at hb'; cases hb'
 obtain ⟨v',H',e1,e2,e3,e4,e5,e6⟩:=(h.mono hsub).app (id:=id) (bytes:=bytes) hty hk' hy hid hid' (by rw [bo hne]; exact hf) (fun b n hv off m c z x hw=>by cases hw; exact hvne _ _ hv rfl) hb hl
 obtain ⟨n,rfl⟩:=e6 (by simp)
 refine ⟨n,H',e1,e2,e3,e4,fun b e hbe he=>e5 b e (hsub.get _ _ hbe) fun n hv=>he (by rw [hv]; rfl),fun c h1 h2 h3=>xG e1 h1 (by rw [bo h2]; exact h3)⟩
theorem Bl.push1 {α:Type} {E:gC α} {ty ty2 bytes id id2 k:Nat} {H0 H:Heap} {v:AV} {l:List α} {cs:List AV} {a:α} (h:Bl E ty H0 H v l) (hty:ty ∉ E.tys) (hk:Kp H0 H) (hr:E.R H cs a) (hid:H.next<=id) (hidk:id<H.next+k) (hid2:H.next<=id2) (hid2k:id2<H.next+k) (hne:id≠id2)
  (hb:(l.length+1)*bytes<=70368744177664) (hl:l.length+1<4611686018427387904) :
  ∃ n H',iV ((H.up k).put id2 (.cells cs ty2 true)) id E.sz bytes ty v (.own id2 0 1 1 E.sz true)=some (.own id 0 n n E.sz false,H')/\Bl E ty H0 H' (.own id 0 n n E.sz false) (l++[a])/\Kp H0 H'/\H'.next=H.next+k/\Frm v H H'/\(∀ c,c≠id->c≠id2->H.get c=none->H'.get c=none):=by
 have hle:=hk.le
 exact Bl.push2 (H:=H.up k) (h.mono (Sub.bump H k)) hty (hk.up k) (E.mono ((Sub.bump H k).t _) hr) zO hidk (hk.wf.fresh (b:=id) hid) zO hid2k (hk.wf.fresh (b:=id2) hid2) hne hb hl
def EA (a:List Int) (R:List (List Int)) (k:Nat) (s:Int):List Int:=((List.range k).filter fun i=>FM (Lin.dot a (R.getD i [])) == s).map fun i:Nat=>(i:Int)
structure SidesV (H0 H:Heap) (mb:Nat) (a:List Int) (R:List (List Int)) (k:Nat) (es:List (AV × AV)):Prop where
 get:H.get mb=some (.map es)
 keys:e7 es
 bl:∀ s,CH H0 H (dH es s) (EA a R k s)
 sep:∀ s s',s≠s'->Sep (dH es s) (dH es s')
theorem SidesV.mono {H0 H H':Heap} {mb:Nat} {a:List Int} {R:List (List Int)} {k:Nat} {es:List (AV × AV)} (hs:Sub H H') (h:SidesV H0 H mb a R k es):SidesV H0 H' mb a R k es :=
 ⟨hs.get _ _ h.get,h.keys,fun s=>(h.bl s).mono hs,h.sep⟩
theorem NoTy.map {tys:List Nat} {H:Heap} {b:Nat} {es:List (AV × AV)} (h:H.get b=some (.map es)):NoTy tys H b:=fun cs t r _ e=>by rw [h] at e; cases e
theorem Bl.blk {α:Type} {E:gC α} {ty:Nat} {H0 H:Heap} {v:AV} {l:List α} (h:Bl E ty H0 H v l) {b:Nat} (hb:pH v=some b):∃ cells,H.get b=some (.cells cells ty true):=by
 rcases h with ⟨rfl,-⟩ | ⟨b',cells,rfl,h1,-⟩
 ·cases hb
 ·cases hb; exact ⟨_,h1⟩
section
variable {tab:Nat->Option aN} {H:Heap} {s:AV}
end
section
variable {tab:Nat->Option aN} {H:Heap} {s:AV}
theorem qz {H0 H:Heap} {v:AV} {l:List Nat} (h:CH H0 H v (l.map fun i:Nat=>(i:Int))) {j:Nat} (hj:j<l.length):bC H none (br v j)=some (.int .i64 ((l[j]:Nat):Int))/\a7 1 v (.int .i64 (j:Int))=some (br v j):=by
 obtain ⟨c,hc,hld⟩:=SlV.at1 h.sl (i:=j) (a:=((l[j]:Nat):Int)) (by simp [hj])
 have hc:c=.int .i64 ((l[j]:Nat):Int):=hc
 rw [hc] at hld
 exact ⟨hld,SlV.idx1 h.sl .i64 j (by simpa using hj)⟩
theorem Bl.ge {α:Type} {E:gC α} {ty:Nat} {H0 H:Heap} {v:AV} {l:List α} (h:Bl E ty H0 H v l) {b:Nat} (hb:pH v=some b):H0.next<=b:=by
 rcases h with ⟨rfl,-⟩ | ⟨b',cells,rfl,-,-,h0⟩
 ·cases hb
 ·cases hb; exact h0
end
theorem SlV.ro {α:Type} {E:gC α} {ty:Nat} {H H':Heap} {v:AV} {l:List α} (hE:∀ cs a,E.R H cs a->E.R H' cs a) (hty:∀ b cs r,H.get b=some (.cells cs ty r)->∃ r',H'.get b=some (.cells cs ty r')) (hs:SlV E ty H v l):SlV E ty H' v l:=by
 obtain ⟨cells,⟨h0,h1,n,h2,h3⟩,ht,hc⟩:=hs
 refine ⟨cells,⟨h0,h1,n,h2,?_⟩,fun b off n c z x e=>?_,hc.1,fun i a hi=>hE _ _ (hc.2 i a hi)⟩
 ·unfold bE at h3 ⊢
  split at h3
  ·rename_i b off m c sz ex
   obtain ⟨cs,r,hb⟩:=ht _ _ _ _ _ _ rfl
   obtain ⟨r',hb'⟩:=hty _ _ _ hb
   rw [hb] at h3
   rw [hb']
   exact h3
  ·exact h3
  ·exact h3
  ·exact h3
  ·cases h3
 ·obtain ⟨cs,r,hb⟩:=ht b off n c z x e
  obtain ⟨r',hb'⟩:=hty _ _ _ hb
  exact ⟨cs,r',hb'⟩
section
variable {tab:Nat->Option aN} {H:Heap} {s:AV}
end
section
variable {tab:Nat->Option aN} {H:Heap} {s:AV}
end
section
variable {tab:Nat->Option aN} {H:Heap} {s:AV}
end
end Go.Proofs.Ytekmejlgocineaa.Ev
namespace Go.Proofs.Ytekmejlgocineaa.Lin
set_option linter.all false
theorem pG:∀ (n:Nat) (l:List (List Bool)),l.Nodup->(∀ b∈l,b.length=n)->l.length<=2^n
 | 0,[],_,_=>by simp
 | 0,[a],_,_=>by simp
 | 0,a :: b :: l,hn,h=>by
  have ha:=List.length_eq_zero_iff.1 (h a (by simp))
  have hb:=List.length_eq_zero_iff.1 (h b (by simp))
  subst ha; subst hb
  simp at hn
 | n+1,l,hn,h=>by
  have part:∀ v:Bool,((l.filter fun b=>b.head? == some v).map List.tail).length<=2^n:=fun v=>by
   refine pG n _ ?_ fun b hb=>?_
   ·refine List.pairwise_map.2 (List.Pairwise.imp_of_mem (fun {x y} hx hy hne e=>hne ?_) (List.Pairwise.filter _ hn))
    have hx:=(List.mem_filter.1 hx).2
    have hy:=(List.mem_filter.1 hy).2
    cases x with
    | nil=>simp at hx
    | cons a x =>
     cases y with
     | nil=>simp at hy
     | cons b y =>
      simp at hx hy e
      rw [hx,hy,e]
   ·obtain ⟨c,hc,rfl⟩:=List.mem_map.1 hb
    have:=h c (List.mem_filter.1 hc).1
    simp [this]
  have h1:=part true
  have h2:=part false
  rw [List.length_map] at h1 h2
  have h3:l.length=(l.filter fun b=>b.head? == some true).length+(l.filter fun b=>b.head? == some false).length:=by
   rw [<- List.countP_eq_length_filter,<- List.countP_eq_length_filter,List.length_eq_countP_add_countP (p:=fun b:List Bool=>b.head? == some true)]
   congr 1
   refine List.countP_congr fun b hb=>?_
   have:=h b hb
   cases b with
   | nil=>simp at this
   | cons a b=>cases a <;> simp
  rw [Nat.pow_succ]; omega
theorem DD.count {d:Nat} {E L:V->Prop} {dn R:List V} (h:DD d E (· ∈ dn) L R):R.length<=2^dn.length:=by
 have hn:(R.map fun r=>dn.map fun i=>decide (dot i r=0)).Nodup:=by
  refine List.pairwise_map.2 (h.apart.imp fun hne e=>hne fun i hi=>?_)
  have:=List.map_inj_left.1 e i hi
  simpa using this
 have:=pG dn.length _ hn fun b hb=>by obtain ⟨r,-,rfl⟩:=List.mem_map.1 hb; simp
 simpa using this
end Go.Proofs.Ytekmejlgocineaa.Lin
namespace Go.Proofs.Ytekmejlgocineaa.Ev
open Go Nn
set_option linter.all false
section
variable {tab:Nat->Option aN} {H:Heap} {s:AV}
end
section
variable {tab:Nat->Option aN} {H:Heap} {s:AV}
end
section
variable {HT:Type} {enc:TypeId × Value->HT} {P:Program} {w:World} {base:Nat} {sp:Nat->Bool} {held:Bool} {μ:Mu} {F:Nat->Prop} {H:Heap}
end
section
open Go.ChangeShapes Go.WideShapes
variable {HT:Type} {enc:TypeId × Value->HT} {P:Program} {w:World} {base base':Nat} {sp:Nat->Bool} {held:Bool} {μ:Mu} {F:Nat->Prop} {H:Heap}
end
end Go.Proofs.Ytekmejlgocineaa.Ev
namespace Go.Proofs.Ytekmejlgocineaa.Lin
set_option linter.all false
def xM (r:V):Int:=r.headD 0
section
variable {n:Nat} {l:List (V × Bool)}
end
end Go.Proofs.Ytekmejlgocineaa.Lin
namespace Go.Proofs.Ytekmejlgocineaa.Ev
open Go Nn
set_option linter.all false
section
variable {tab:Nat->Option aN} {H:Heap} {s:AV}
end
mutual
def km:Tx->Prop
 | .mk _ _ _ _ l _=>l.length<4611686018427387904/\uu l
def uu:List Tx->Prop
 | []=>True
 | x :: l=>km x/\uu l
end
theorem ni (x:Tx):km x ↔ x.args.length<4611686018427387904/\uu x.args:=by cases x; simp only [km,Tx.args]
theorem iR:∀ l:List Tx,uu l ↔ ∀ x∈l,km x
 | []=>by simp [uu]
 | x :: l=>by simp [uu,iR l]
section
variable {tab:Nat->Option aN} {H:Heap} {s:AV}
theorem rb (C:Code tab) (hw:Wf H) {α:Type} {E:gC α} {ty fi:Nat} {first caps:List AV} {l:List α} (hE:E.sz=5) (hs:SlV E ty H s l) (hbig:l.length<4611686018427387904) (p:α->Bool)
  (hf:∀ a∈l,∀ H' cs,Kp H H'->E.R H' cs a->Ans tab (.fn fi (first++[.agg cs]++caps)) H' fun v H2=>v=.bool (p a)/\Kp H' H2) :
  Ans tab (.fn a8 [s,.fn (.func fi) first caps]) H fun v H'=>v=.int .i64 (ky p l)/\Kp H H':=by
 refine i9 C.q55 zU fun T hl g0 g1=>?_
 refine zW (dz hl g0 g1 hs.lenV) ?_
 refine fI H [] (fun j _ _=>∀ k (h:k<l.length),k<j->p l[k]=false) (a:=0) (N:=l.length) rfl (by refine zW (fe hl g0 g1) ?_; rfl) (zV (fe hl g0 g1)) (Nat.zero_le _) zO (by simp only [List.length_set,hl]; rfl) rfl (fun _ _ _ _ h=>h) zK (fun k _ h=>by omega) ?_ ?_
 ·intro j T1 H1 _ hj hl1 hi1 hs1 hk1 hP
  have w1:=hk1.wf
  have le_hk1:=hk1.le
  have t0:aa T1 0=s:=(hs1.at_ 0 zU).trans (zV (bb hl g0))
  have t1:aa T1 1=.fn (.func fi) first caps:=(hs1.at_ 1 zU).trans (zV (dz hl g0 g1 g1))
  obtain ⟨cs,hr,hlen,-,hld⟩:=(hs.mono hk1.sub).at (List.getElem?_eq_getElem hj)
  have hix:=SlV.idx hs .i64 j hj
  rw [hE] at hld hix
  simp only [List.length_set,hl] at hl1
  refine zW (gD hl1 t0 t1 hi1 hix hld) ?_
  refine AnsH.eq (hf _ (List.getElem_mem hj) _ cs zK (E.mono ((zG H1).t _) hr)) fun H2 hk2=>?_
  obtain ⟨k2,_,_⟩:=zT H zK hk2
  cases hp:p l[j] with
  | true =>
   refine zW hl1 ?_
   exact ⟨by rw [mn hj hP hp],zK⟩
  | false =>
   refine zW hl1 ?_
   refine ⟨zK,fun k h hk=>?_⟩
   by_cases e:k=j
   ·subst e; exact hp
   ·exact hP k h zO
 ·intro T1 H1 hl1 hs1 hk1 hP
  simp only [List.length_set,hl] at hl1
  refine zW hl1 ?_
  exact ⟨by rw [kM fun k h=>hP k h h],zK⟩
theorem jm (C:Code tab) (hw:Wf H) {α:Type} {E:gC α} {ty fi:Nat} {first caps:List AV} {l:List α} (hE:E.sz=5) (hs:SlV E ty H s l) (hbig:l.length<4611686018427387904) (p:α->Bool)
  (hf:∀ a∈l,∀ H' cs,Kp H H'->E.R H' cs a->Ans tab (.fn fi (first++[.agg cs]++caps)) H' fun v H2=>v=.bool (p a)/\Kp H' H2) :
  Ans tab (.fn aI [s,.fn (.func fi) first caps]) H fun v H'=>v=.bool (l.any p)/\Kp H H':=by
 refine i9 C.q47 zU fun T hl g0 g1=>?_
 refine zW (fe hl g0 g1) ?_
 refine AnsH.eq (rb C zF hE (hs.mono (zG H)) hbig p fun a ha H' cs hk hr=>hf a ha H' cs (Kp.trans (H:=H) zK hk) hr) fun H2 hk2=>?_
 obtain ⟨k2,_,_⟩:=zT H zK hk2
 refine zW (fe hl g0 g1) ?_
 exact ⟨by rw [mo],zK⟩
theorem rc (C:Code tab) (hw:Wf H) {α:Type} {E:gC α} {ty fi:Nat} {first caps:List AV} {l:List α} (hE:E.sz=7) (hs:SlV E ty H s l) (hbig:l.length<4611686018427387904) (p:α->Bool)
  (hf:∀ a∈l,∀ H' cs,Kp H H'->E.R H' cs a->Ans tab (.fn fi (first++[.agg cs]++caps)) H' fun v H2=>v=.bool (p a)/\Kp H' H2) :
  Ans tab (.fn ba [s,.fn (.func fi) first caps]) H fun v H'=>v=.int .i64 (ky p l)/\Kp H H':=by
 refine i9 C.q27 zU fun T hl g0 g1=>?_
 refine zW (dz hl g0 g1 hs.lenV) ?_
 refine fI H [] (fun j _ _=>∀ k (h:k<l.length),k<j->p l[k]=false) (a:=0) (N:=l.length) rfl (by refine zW (fe hl g0 g1) ?_; rfl) (zV (fe hl g0 g1)) (Nat.zero_le _) zO (by simp only [List.length_set,hl]; rfl) rfl (fun _ _ _ _ h=>h) zK (fun k _ h=>by omega) ?_ ?_
 ·intro j T1 H1 _ hj hl1 hi1 hs1 hk1 hP
  have w1:=hk1.wf
  have le_hk1:=hk1.le
  have t0:aa T1 0=s:=(hs1.at_ 0 zU).trans (zV (bb hl g0))
  have t1:aa T1 1=.fn (.func fi) first caps:=(hs1.at_ 1 zU).trans (zV (dz hl g0 g1 g1))
  obtain ⟨cs,hr,hlen,-,hld⟩:=(hs.mono hk1.sub).at (List.getElem?_eq_getElem hj)
  have hix:=SlV.idx hs .i64 j hj
  rw [hE] at hld hix
  simp only [List.length_set,hl] at hl1
  refine zW (gD hl1 t0 t1 hi1 hix hld) ?_
  refine AnsH.eq (hf _ (List.getElem_mem hj) _ cs zK (E.mono ((zG H1).t _) hr)) fun H2 hk2=>?_
  obtain ⟨k2,_,_⟩:=zT H zK hk2
  cases hp:p l[j] with
  | true =>
   refine zW hl1 ?_
   exact ⟨by rw [mn hj hP hp],zK⟩
  | false =>
   refine zW hl1 ?_
   refine ⟨zK,fun k h hk=>?_⟩
   by_cases e:k=j
   ·subst e; exact hp
   ·exact hP k h zO
 ·intro T1 H1 hl1 hs1 hk1 hP
  simp only [List.length_set,hl] at hl1
  refine zW hl1 ?_
  exact ⟨by rw [kM fun k h=>hP k h h],zK⟩
theorem m7 (C:Code tab) (hw:Wf H) {α:Type} {E:gC α} {ty fi:Nat} {first caps:List AV} {l:List α} (hE:E.sz=7) (hs:SlV E ty H s l) (hbig:l.length<4611686018427387904) (p:α->Bool)
  (hf:∀ a∈l,∀ H' cs,Kp H H'->E.R H' cs a->Ans tab (.fn fi (first++[.agg cs]++caps)) H' fun v H2=>v=.bool (p a)/\Kp H' H2) :
  Ans tab (.fn aV [s,.fn (.func fi) first caps]) H fun v H'=>v=.bool (l.any p)/\Kp H H':=by
 refine i9 C.q15 zU fun T hl g0 g1=>?_
 refine zW (fe hl g0 g1) ?_
 refine AnsH.eq (rc C zF hE (hs.mono (zG H)) hbig p fun a ha H' cs hk hr=>hf a ha H' cs (Kp.trans (H:=H) zK hk) hr) fun H2 hk2=>?_
 obtain ⟨k2,_,_⟩:=zT H zK hk2
 refine zW (fe hl g0 g1) ?_
 exact ⟨by rw [mo],zK⟩
theorem mX (C:Code tab) (hw:Wf H) {x:Tx} {b:Nat} {f:Nat} {caps:List AV} {ty:Nat} {p:Bool} (hb:H.get b=some (.cells [.fn (.func f) [] caps] ty true))
  (hf:∀ H',Kp H H'->Ans tab (.fn f ([.agg (dJ x)]++caps)) H' fun v H2=>v=.bool p/\Kp H' H2) :
  Ans tab (.fn eC [.agg (dJ x),.ptr b 0]) H fun v H'=>v=.bool (!p)/\Kp H H':=by
 refine i9 C.q57 zU fun T hl g0 g1=>?_
 have hlt:=hw _ _ hb
 have bx:=t9 x
 have tx:aB [.int .u8 (x.kind:Int),.str x.name,.int .i64 x.n,mZ x.nl x.args,.int .i64 x.pl] 0 (some 5)=some (.agg (dJ x)):=by rw [gS]; rfl
 refine zW (gD hl g0 g1 bx hb tx) ?_
 refine AnsH.eq (hf _ zK) fun H2 hk2=>?_
 obtain ⟨k2,_,w2⟩:=zT H zK hk2
 refine zW (fe hl g0 g1) ?_
 exact zK
set_option maxHeartbeats 1000000 in
theorem zA (C:Code tab) {g:Gx} {b1 b2:Nat}:∀ (m:Nat) (x:Tx),SizeOf.sizeOf x<=m->km x->∀ {H:Heap},Wf H->H.get b1=some (.cells [.int .i64 g.vars,jN g,.int .i64 g.nodes,.int .i64 g.start,.int .i64 g.last,lg g] ah true) ->
  H.get b2=some (.cells [.fn (.func bT) [] [.ptr b1 0,.ptr b2 0]] bI true) ->
  Ans tab (.fn bT [.agg (dJ x),.ptr b1 0,.ptr b2 0]) H fun v H'=>v=.bool (fh g.vars g.arrays.length x)/\Kp H H':=by
 intro m
 induction m with
 | zero=>intro x hx; cases x; simp at hx
 | succ m ih =>
  intro x hx hlx H hw hG hF
  have hrs:c_flow_expr_f1.results=[(4,none)]:=rfl
  obtain ⟨hlow,hll⟩:=(ni x).1 hlx
  have hsub:∀ y∈x.args,∀ {H':Heap},Kp H H'->Ans tab (.fn bT ([.agg (dJ y)]++[.ptr b1 0,.ptr b2 0])) H' fun v H2=>v=.bool (fh g.vars g.arrays.length y)/\Kp H' H2 :=
   fun y hy H' hk=>ih y (by have:=pX hy; omega) ((iR _).1 hll y hy) hk.wf (hk.get hG) (hk.get hF)
  have l1:=hw _ _ hG
  have l2:=hw _ _ hF
  have ag:=fun H=>dZ (ty:=au) (H:=H) x.nl x.args
  rw [qp,lz]
  refine oY C.q54 rfl rfl zU fun T hl ga=>?_
  have hl:T.length=59:=hl
  have g0:aa T 0=.agg (dJ x):=ga 0 (by simp)
  have g1:aa T 1=.ptr b1 0:=ga 1 (by simp)
  have g2:aa T 2=.ptr b2 0:=ga 2 (by simp)
  clear ga
  have bx:=t9 x
  have la:=gq x.nl x.args
  have ls:=jc g
  obtain ⟨k,hk⟩:∃ k,k=x.kind:=⟨_,rfl⟩
  obtain ⟨n,hn⟩:∃ n,n=x.n:=⟨_,rfl⟩
  obtain ⟨l,hl'⟩:∃ l,l=x.args:=⟨_,rfl⟩
  obtain ⟨av,hav⟩:∃ av,av=mZ x.nl x.args:=⟨_,rfl⟩
  obtain ⟨ar,har⟩:∃ ar,ar=jN g:=⟨_,rfl⟩
  rw [<- hav] at la bx ag
  rw [<- hl'] at la ag hlow hsub
  rw [<- har] at ls hG
  rw [<- hk,<- hn] at bx
  rw [<- hk,<- hn,<- hl']
  clear hk hn hl' hav har hx ih hlx hll
  refine aG ?_
  refine zW (dz hl g0 bx @az) ?_
  obtain ⟨X,hX⟩:∃ X,X=(H.up 2).put H.next (.cells [.int .u8 (k:Int),.str x.name,.int .i64 n,av,.int .i64 x.pl] au true):=⟨_,rfl⟩
  rw [<- hX]
  have kX:Kp H X:=by rw [hX]; exact zK
  have dX:X.get H.next=some (.cells [.int .u8 (k:Int),.str x.name,.int .i64 n,av,.int .i64 x.pl] au true):=by rw [hX,aq]
  clear hX
  have wX:=kX.wf
  have dG:=kX.get hG
  have e0:decide (n=0)=decide (n=0):=rfl
  refine aG ?_
  refine al ?_
  refine zD (gD hl g0 g1 g2 dX @az) ?_
  refine qZ (fun T'=>T'.length=59/\aa T' 1=.ptr b1 0/\aa T' 2=.ptr b2 0/\aa T' 3=.ptr H.next 0/\aa T' 5=.int .i64 2/\aa T' 6=.bool (decide (n=0))) (zV (fe hl g1 g2)) ?_
  clear hl g0 g1 g2
  rintro T ⟨hl,t1,t2,t3,t5,t6⟩
  refine cu (fun T' H'=>aa T' 5=.int .i64 (cT k:Int)/\aa T' 6=.bool (decide (bM g.vars g.arrays.length k n))/\Kp X H') rfl ?_ ?_
  ·by_cases k1:k=1
   ·have r:bM g.vars g.arrays.length k n ↔ 0<=n:=by unfold bM; rw [if_pos k1]
    have a:cT k=0:=by rw [k1]; rfl
    have e1:(k:Int)=1:=by omega
    refine zW (gD hl t1 t2 t3 dX e1) ?_
    refine al ?_
    refine zD (lf hl t1 t3 dX @ad @af hrs) ?_
    exact ⟨by rw [a]; rfl,by simp only [r],zK⟩
   ·have e1:¬ (k:Int)=1:=by omega
    by_cases k2:k=2
    ·have r:bM g.vars g.arrays.length k n ↔ 0<=n/\n<g.vars:=by unfold bM; rw [if_neg k1,if_pos k2]
     have a:cT k=0:=by rw [k2]; rfl
     have e2:(k:Int)=2:=by omega
     refine zW (jS hl t1 t2 t3 dX dG e1 e2) ?_
     refine AnsH.eq (fw C zF) fun H2 hk2=>?_
     have kX2:Kp X H2:=Kp.trans zK hk2
     have w2:=hk2.wf
     have le_hk2:=hk2.le
     refine zW (dz hl @ad @af hrs) ?_
     exact ⟨by rw [a]; rfl,by simp only [r],zK⟩
    ·have e2:¬ (k:Int)=2:=by omega
     by_cases k3:k=3
     ·have r:bM g.vars g.arrays.length k n ↔ 0<=n/\n<g.arrays.length:=by unfold bM; rw [if_neg k1,if_neg k2,if_pos k3]
      have a:cT k=1:=by rw [k3]; rfl
      have e3:(k:Int)=3:=by omega
      refine zW (fg hl t1 t2 t3 dX dG e1 e2 e3 ls) ?_
      refine AnsH.eq (fw C zF) fun H2 hk2=>?_
      have kX2:Kp X H2:=Kp.trans zK hk2
      have w2:=hk2.wf
      have le_hk2:=hk2.le
      refine zW (dz hl @ad @af hrs) ?_
      exact ⟨by rw [a]; rfl,by simp only [r],zK⟩
     ·have r:bM g.vars g.arrays.length k n ↔ n=0:=by unfold bM; rw [if_neg k1,if_neg k2,if_neg k3]
      have e3:¬ (k:Int)=3:=by omega
      by_cases k4:k=4
      ·have a:cT k=1:=by rw [k4]; rfl
       have e4:(k:Int)=4:=by omega
       refine zW (gt hl t1 t2 t3 t6 dX e1 e2 e3 e4 @ad @af hrs) ?_
       exact ⟨by rw [a]; rfl,by simp only [r],zK⟩
      ·have a:cT k=2:=by unfold cT; rw [if_neg zO,if_neg zO]
       have e4:¬ (k:Int)=4:=by omega
       refine zW (lh hl t1 t2 t3 t5 t6 dX e1 e2 e3 e4 @ad @af hrs) ?_
       exact ⟨by rw [a]; rfl,by simp only [r],zK⟩
  ·rintro T1 G hs ⟨u5,u6,kG⟩
   have hl1:T1.length=59:=hs.len.trans hl
   have u1:aa T1 1=.ptr b1 0:=(hs.at_ 1 zU).trans t1
   have u2:aa T1 2=.ptr b2 0:=(hs.at_ 2 zU).trans t2
   have u3:aa T1 3=.ptr H.next 0:=(hs.at_ 3 zU).trans t3
   have kHG:Kp H G:=kX.trans kG
   have wG:=kG.wf
   have dX1:=kG.get dX
   have dF1:=kHG.get hF
   clear dG dX t1 t2 t3 t5 t6 hl hs
   have no:∀ (hF:¬ ((1<=k/\k<=11)/\bM g.vars g.arrays.length k n/\l.length=cT k)),(decide ((1<=k/\k<=11)/\bM g.vars g.arrays.length k n/\l.length=cT k) && l.all (fh g.vars g.arrays.length))=false:=fun hF=>by rw [decide_eq_false hF]; rfl
   have yes:∀ (hF:(1<=k/\k<=11)/\bM g.vars g.arrays.length k n/\l.length=cT k),(decide ((1<=k/\k<=11)/\bM g.vars g.arrays.length k n/\l.length=cT k) && l.all (fh g.vars g.arrays.length))=l.all (fh g.vars g.arrays.length):=fun hF=>by rw [decide_eq_true hF]; rfl
   refine WC.wb ?_
   by_cases c1:1<=k
   ·have c1':(1:Int)<=(k:Int):=by omega
    by_cases c2:k<=11
    ·have c2':(k:Int)<=11:=by omega
     by_cases c3:bM g.vars g.arrays.length k n
     ·by_cases c4:l.length=cT k
      ·have c4':(l.length:Int)=(cT k:Int):=by omega
       rw [yes ⟨⟨c1,c2⟩,c3,c4⟩]
       refine zW (gt hl1 u1 u2 u3 u5 u6 dX1 c1' c2' c3 c4' la @fF) ?_
       refine AnsH.eq (jm C zF rfl (ag _) hlow (fun y=>!fh g.vars g.arrays.length y) fun y hy H' cs hk hr=>?_) fun H2 hk2=>?_
       ·cases hr
        have kH':Kp H H':=Kp.trans (H:=H) zK hk
        exact mX C hk.wf (kH'.get hF) fun H'' hk''=>hsub y hy (kH'.trans hk'')
       obtain ⟨k2,_,_⟩:=zT H zK hk2
       have w2:=hk2.wf
       have le_hk2:=hk2.le
       refine zW (bb hl1 hrs) ?_
       refine ⟨?_,zK⟩
       congr 1
       rw [Bool.eq_iff_iff]
       simp
      ·have c4':¬ (l.length:Int)=(cT k:Int):=by omega
       rw [no zO]
       refine zW (lh hl1 u1 u2 u3 u5 u6 dX1 c1' c2' c3 c4' la @fF hrs) ?_
       exact zK
     ·rw [no (fun h=>c3 h.2.1)]
      refine zW (gt hl1 u1 u2 u3 u5 u6 dX1 c1' c2' c3 la @fF hrs) ?_
      exact zK
    ·have c2':¬ (k:Int)<=11:=by omega
     rw [no zO]
     refine zW (dC hl1 u1 u2 u3 u5 u6 dX1 c1' c2' la @fF hrs) ?_
     exact zK
   ·have c1':¬ (1:Int)<=(k:Int):=by omega
    rw [no zO]
    refine zW (d8 hl1 u1 u2 u3 u5 u6 dX1 c1' la @fF hrs) ?_
    exact zK
end
theorem oz:((true:Bool) == true)=true:=rfl
theorem oA:((true:Bool) == false)=false:=rfl
theorem oB:((false:Bool) == true)=false:=rfl
theorem oC:((false:Bool) == false)=true:=rfl
def sG (k:Nat):Nat:=if k=3 then 1 else if k=4\/k=6 then 2 else 0
def rL (vars:Int) (na k:Nat):Int:=if k=3\/k=5 then vars else if k=4 then (na:Int) else 1
def ef (k c:Nat):Prop:=if k=6 then 3<=c/\c<=8 else c=0
instance (k c:Nat):Decidable (ef k c):=by unfold ef; infer_instance
def oR (vars:Int) (na:Nat) (d:Cp):Bool:=decide ((1<=d.kind/\d.kind<=8)/\(0<=d.n/\d.n<rL vars na d.kind)/\d.args.length=sG d.kind/\ef d.kind d.cmp) && d.args.all (fh vars na)
theorem E4 (d:Cp):kh (.agg (fV d))=some [.int .u8 (d.kind:Int),.int .i64 d.n,.int .u8 (d.cmp:Int),mZ d.nl d.args]:=by
 refine iT ?_
 have h:=(jU d.nl (mr d.args) d.args.length).2
 simp only [fV,List.all_cons,List.all_nil,h]
 rfl
section
variable {tab:Nat->Option aN} {H:Heap}
set_option maxHeartbeats 10000000 in
theorem rz (C:Code tab) (hw:Wf H) {g:Gx} {d:Cp} (hgd:Ag d) :
  Ans tab (.fn cP [.agg (dW g),.agg (fV d)]) H fun v H'=>v=.bool (oR g.vars g.arrays.length d)/\Kp H H':=by
 have hrs:c_facetroomref13_mayDo.results=[(4,none)]:=rfl
 obtain ⟨-,-,-,hgx,hlen⟩:=hgd
 have hlen:d.args.length<=9223372036854775807:=hlen
 have ag:=fun H=>dZ (ty:=au) (H:=H) d.nl d.args
 refine oY C.q21 rfl rfl zU fun T hl ga=>?_
 have hl:T.length=91:=hl
 have g0:aa T 0=.agg (dW g):=ga 0 (by simp)
 have g1:aa T 1=.agg (fV d):=ga 1 (by simp)
 clear ga
 have bx:=E4 d
 have la:=gq d.nl d.args
 have ls:=jc g
 unfold oR
 obtain ⟨k,hk⟩:∃ k,k=d.kind:=⟨_,rfl⟩
 obtain ⟨n,hn⟩:∃ n,n=d.n:=⟨_,rfl⟩
 obtain ⟨c,hc⟩:∃ c,c=d.cmp:=⟨_,rfl⟩
 obtain ⟨l,hl'⟩:∃ l,l=d.args:=⟨_,rfl⟩
 obtain ⟨av,hav⟩:∃ av,av=mZ d.nl d.args:=⟨_,rfl⟩
 obtain ⟨ar,har⟩:∃ ar,ar=jN g:=⟨_,rfl⟩
 have bg:=ki g
 rw [<- hav] at la bx ag
 rw [<- hl'] at la ag hlen hgx
 rw [<- har] at ls bg
 rw [<- hk,<- hn,<- hc] at bx
 rw [<- hk,<- hn,<- hc,<- hl']
 have tg:aB [.int .i64 g.vars,ar,.int .i64 g.nodes,.int .i64 g.start,.int .i64 g.last,lg g] 0 (some 6)=some (.agg (dW g)):=by rw [har]; rfl
 clear hk hn hc hl' hav har
 obtain ⟨A,hA⟩:∃ A,A=sG k:=⟨_,rfl⟩
 obtain ⟨M,hM⟩:∃ M,M=rL g.vars g.arrays.length k:=⟨_,rfl⟩
 rw [<- hA,<- hM]
 have no:∀ (hF:¬ ((1<=k/\k<=8)/\(0<=n/\n<M)/\l.length=A/\ef k c)),(decide ((1<=k/\k<=8)/\(0<=n/\n<M)/\l.length=A/\ef k c) && l.all (fh g.vars g.arrays.length))=false:=fun hF=>by rw [decide_eq_false hF]; rfl
 have yes:∀ (hF:(1<=k/\k<=8)/\(0<=n/\n<M)/\l.length=A/\ef k c),(decide ((1<=k/\k<=8)/\(0<=n/\n<M)/\l.length=A/\ef k c) && l.all (fh g.vars g.arrays.length))=l.all (fh g.vars g.arrays.length):=fun hF=>by rw [decide_eq_true hF]; rfl
 refine aG ?_
 refine zW (gD hl g0 g1 bg bx @az) ?_
 obtain ⟨X,hX⟩:∃ X,X=((H.up 3).put H.next (.cells [.int .i64 g.vars,ar,.int .i64 g.nodes,.int .i64 g.start,.int .i64 g.last,lg g] ah true)).put (H.next+1) (.cells [.int .u8 (k:Int),.int .i64 n,.int .u8 (c:Int),av] bR true):=⟨_,rfl⟩
 rw [<- hX]
 have kX:Kp H X:=by rw [hX]; exact zK
 have dG:X.get H.next=some (.cells [.int .i64 g.vars,ar,.int .i64 g.nodes,.int .i64 g.start,.int .i64 g.last,lg g] ah true):=by rw [hX,bo zO,aq]
 have dX:X.get (H.next+1)=some (.cells [.int .u8 (k:Int),.int .i64 n,.int .u8 (c:Int),av] bR true):=by rw [hX,aq]
 clear hX
 have wX:=kX.wf
 have dG0:=dG
 have dX0:=dX
 refine aG ?_
 refine zW (bb hl @az) ?_
 refine qZ (fun T'=>T'.length=91/\aa T' 2=.ptr H.next 0/\aa T' 3=.ptr (H.next+1) 0/\aa T' 5=.int .i64 0/\aa T' 6=.int .i64 1) (zV hl) ?_
 clear hl g0 g1
 rintro T ⟨hl,t2,t3,t5,t6⟩
 refine cu (fun T' H'=>aa T' 5=.int .i64 (A:Int)/\aa T' 6=.int .i64 M/\Kp X H') rfl ?_ ?_
 ·by_cases k3:k=3
  ·have eA:A=1:=by rw [hA,k3]; rfl
   have eM:M=g.vars:=by rw [hM,k3]; rfl
   have e3:(k:Int)=3:=by omega
   refine zW (eU hl t2 t3 dX e3) ?_
   refine al ?_
   refine zD (jS hl t2 t3 dX dG @ad @af hrs) ?_
   exact ⟨by rw [eA]; rfl,by rw [eM],zK⟩
  ·have e3:¬ (k:Int)=3:=by omega
   by_cases k5:k=5
   ·have eA:A=0:=by rw [hA,k5]; rfl
    have eM:M=g.vars:=by rw [hM,k5]; rfl
    have e5:(k:Int)=5:=by omega
    refine zW (d8 hl t2 t3 t5 dX dG e3 e5 @ad @af hrs) ?_
    exact ⟨by rw [eA]; rfl,by rw [eM],zK⟩
   ·have e5:¬ (k:Int)=5:=by omega
    by_cases k4:k=4
    ·have eA:A=2:=by rw [hA,k4]; rfl
     have eM:M=g.arrays.length:=by rw [hM,k4]; rfl
     have e4:(k:Int)=4:=by omega
     refine zW (lf hl t2 t3 dX e3 e5 e4) ?_
     refine al ?_
     refine zD (pd hl t2 t3 dX dG ls @ad @af hrs) ?_
     exact ⟨by rw [eA]; rfl,by rw [eM],zK⟩
    ·have e4:¬ (k:Int)=4:=by omega
     have eM:M=1:=by rw [hM]; unfold rL; rw [if_neg zO,if_neg k4]
     by_cases k6:k=6
     ·have eA:A=2:=by rw [hA,k6]; rfl
      have e6:(k:Int)=6:=by omega
      refine zW (dC hl t2 t3 t6 dX e3 e5 e4 e6 @ad @af hrs) ?_
      exact ⟨by rw [eA]; rfl,by rw [eM],zK⟩
     ·have e6:¬ (k:Int)=6:=by omega
      have eA:A=0:=by rw [hA]; unfold sG; rw [if_neg k3,if_neg zO]
      refine zW (gt hl t2 t3 t5 t6 dX e3 e5 e4 e6 @ad @af hrs) ?_
      exact ⟨by rw [eA]; rfl,by rw [eM],zK⟩
 rintro T1 G hs ⟨u5,u6,kG⟩
 have hl1:T1.length=91:=hs.len.trans hl
 have u2:aa T1 2=.ptr H.next 0:=(hs.at_ 2 zU).trans t2
 have u3:aa T1 3=.ptr (H.next+1) 0:=(hs.at_ 3 zU).trans t3
 have dX1:=kG.get dX
 have kHG:Kp H G:=kX.trans kG
 have wG:=kG.wf
 clear dG dX t2 t3 t5 t6 hl hs
 refine aG ?_
 refine zW (dz hl1 u3 dX1 @az) ?_
 refine qZ (fun T'=>T'.length=91/\aa T' 2=.ptr H.next 0/\aa T' 3=.ptr (H.next+1) 0/\aa T' 5=.int .i64 (A:Int)/\aa T' 6=.int .i64 M/\aa T' 7=.bool (decide ((k:Int)=6))) (zV (eU hl1 u2 u3 u5 u6)) ?_
 clear hl1 u2 u3 u5 u6
 rintro T1 ⟨hl1,u2,u3,u5,u6,u7⟩
 refine cu (fun T' H'=>((1<=k/\k<=8)/\(0<=n/\n<M)/\l.length=A/\ef k c)/\Kp X H') rfl ?_ ?_
 ·by_cases c1:k<1
  ·have c1':(k:Int)<1:=by omega
   rw [no zO]
   refine zW (gt hl1 u2 u3 u5 u6 u7 dX1 c1' la @fF @ad @af hrs) ?_
   exact zK
  have c1':¬ (k:Int)<1:=by omega
  by_cases c2:8<k
  ·have c2':(8:Int)<(k:Int):=by omega
   rw [no zO]
   refine zW (lh hl1 u2 u3 u5 u6 u7 dX1 c1' c2' la @fF @ad @af hrs) ?_
   exact zK
  have c2':¬ (8:Int)<(k:Int):=by omega
  by_cases c3:n<0
  ·rw [no zO]
   refine zW (mU hl1 u2 u3 u5 u6 u7 dX1 c1' c2' c3 la @fF @ad @af hrs) ?_
   exact zK
  by_cases c4:M<=n
  ·rw [no zO]
   refine zW (lX hl1 u2 u3 u5 u6 u7 dX1 c1' c2' c3 c4 la @fF @ad @af hrs) ?_
   exact zK
  by_cases c5:l.length=A
  ·have c5':(l.length:Int)=(A:Int):=by omega
   by_cases c6:k=6
   ·have c6':(k:Int)=6:=by omega
    have u7':aa T1 7=.bool true:=by rw [u7,decide_eq_true c6']
    by_cases c7:3<=c
    ·have c7':(3:Int)<=(c:Int):=by omega
     by_cases c8:c<=8
     ·have c8':(c:Int)<=8:=by omega
      refine zW (xT hl1 u2 u3 u5 u6 u7' dX1 c1' c2' c3 c4 c5' c7' c8' @oz @oA @oB @oC la @fF @ad @af hrs) ?_
      exact ⟨⟨by omega,by omega,c5,by unfold ef; rw [if_pos c6]; omega⟩,zK⟩
     ·have c8':¬ (c:Int)<=8:=by omega
      rw [no (by unfold ef; rw [if_pos c6]; omega)]
      refine zW (xT hl1 u2 u3 u5 u6 u7' dX1 c1' c2' c3 c4 c5' c7' c8' @oz @oA @oB @oC la @fF @ad @af hrs) ?_
      exact zK
    ·have c7':¬ (3:Int)<=(c:Int):=by omega
     rw [no (by unfold ef; rw [if_pos c6]; omega)]
     refine zW (Fh hl1 u2 u3 u5 u6 u7' dX1 c1' c2' c3 c4 c5' c7' @oz @oA @oB @oC la @fF @ad @af hrs) ?_
     exact zK
   ·have c6':¬ (k:Int)=6:=by omega
    have u7':aa T1 7=.bool false:=by rw [u7,decide_eq_false c6']
    by_cases c7:3<=c
    ·have c7':(3:Int)<=(c:Int):=by omega
     have c9:¬ (c:Int)=0:=by omega
     rw [no (by unfold ef; rw [if_neg c6]; omega)]
     by_cases c8:c<=8
     ·have c8':(c:Int)<=8:=by omega
      refine zW (xT hl1 u2 u3 u5 u6 u7' dX1 c1' c2' c3 c4 c5' c7' c8' @oz @oA @oB @oC la @fF @ad @af hrs) ?_
      exact zK
     ·have c8':¬ (c:Int)<=8:=by omega
      refine zW (Fg hl1 u2 u3 u5 u6 u7' dX1 c1' c2' c3 c4 c5' c7' c8' c9 @oz @oA @oB @oC la @fF @ad @af hrs) ?_
      exact zK
    ·have c7':¬ (3:Int)<=(c:Int):=by omega
     by_cases c9:c=0
     ·have c9':(c:Int)=0:=by omega
      refine zW (xT hl1 u2 u3 u5 u6 u7' dX1 c1' c2' c3 c4 c5' c7' c9' @oz @oA @oB @oC la @fF @ad @af hrs) ?_
      exact ⟨⟨by omega,by omega,c5,by unfold ef; rw [if_neg c6]; exact c9⟩,zK⟩
     ·have c9':¬ (c:Int)=0:=by omega
      rw [no (by unfold ef; rw [if_neg c6]; omega)]
      refine zW (xT hl1 u2 u3 u5 u6 u7' dX1 c1' c2' c3 c4 c5' c7' c9' @oz @oA @oB @oC la @fF @ad @af hrs) ?_
      exact zK
  ·have c5':¬ (l.length:Int)=(A:Int):=by omega
   rw [no zO]
   refine zW (sQ hl1 u2 u3 u5 u6 u7 dX1 c1' c2' c3 c4 c5' la @fF @ad @af hrs) ?_
   exact zK
 rintro T2 G2 hs2 ⟨hgood,kG2⟩
 have hl2:T2.length=91:=hs2.len.trans hl1
 have v2:aa T2 2=.ptr H.next 0:=(hs2.at_ 2 zU).trans u2
 have v3:aa T2 3=.ptr (H.next+1) 0:=(hs2.at_ 3 zU).trans u3
 have dG2:=kG2.get dG0
 have dX2:=kG2.get dX0
 have k2:Kp H G2:=kX.trans kG2
 have le_k2:=k2.le
 have w2:=kG2.wf
 rw [yes hgood]
 clear dX1 u2 u3 u5 u6 u7 hl1 hs2 kG no yes
 refine cu (fun _ H'=>l.all (fh g.vars g.arrays.length)=true/\Kp G2 H') rfl ?_ ?_
 ·refine zW hl2 ?_
  refine aQ G2 [8] (fun r vs H'=>∃ i:Nat,vs=[.int .i64 (i:Int)]/\i+r=l.length/\∀ q (h:q<l.length),q<i->fh g.vars g.arrays.length l[q]=true) l.length (by simp only [List.length_set]; exact hl2) rfl zK ⟨0,by refine zW hl2 ?_; rfl,by omega,fun q _ h=>by omega⟩ ?_
  rintro r T3 H3 hl3 hs3 hk3 ⟨i,hv,hik,hP⟩
  have w3:=hk3.wf
  have le_hk3:=hk3.le
  simp only [List.map_cons,List.map_nil,List.cons.injEq,and_true] at hv
  have y2:aa T3 2=.ptr H.next 0:=(hs3.at_ 2 zU).trans (zV (bb hl2 v2))
  have y3:aa T3 3=.ptr (H.next+1) 0:=(hs3.at_ 3 zU).trans (zV (bb hl2 v3))
  have dG3:=hk3.get dG2
  have dX3:=hk3.get dX2
  by_cases hi:i<l.length
  ·have hii:(i:Int)<(l.length:Int):=by omega
   obtain ⟨cs,rfl,-,-,h2⟩:=(ag H3).at (List.getElem?_eq_getElem hi)
   have hld:bC H3 (some 5) (br av (i*5))=some (.agg (dJ l[i])):=h2
   have hix:a7 5 av (.int .i64 (i:Int))=some (br av (i*5)):=SlV.idx (ag H3) .i64 i hi
   have e:IntKind.i64.wrap ((i:Int)+1)=((i+1:Nat):Int):=by rw [ae] <;> omega
   refine zW (jS hl3 hv y2 y3 dX3 la hii @fF) ?_
   refine al ?_
   refine zD (fg hl3 hv y2 y3 dX3 dG3 @fF tg hix hld) ?_
   refine AnsH.eq (oO C _ _ (Nat.le_refl _) (hgx _ (List.getElem_mem hi)) zF) fun H4 hk4=>?_
   obtain ⟨k34,_,_⟩:=zT H3 zK hk4
   have k4:Kp G2 H4:=hk3.trans k34
   have le_k4:=k4.le
   have kH4:Kp H H4:=k2.trans k4
   have w4:=hk4.wf
   have le_hk4:=hk4.le
   cases hq:fh g.vars g.arrays.length l[i] with
   | true =>
    refine zD (fg hl3 hv y2 y3 dX3 dG3 @fF tg hix hld) ?_
    refine zW (fe hl3 hv e) ?_
    refine ⟨zK,r-1,by omega,i+1,rfl,by omega,fun q h hqi=>?_⟩
    by_cases eq:q=i
    ·subst eq; exact hq
    ·exact hP q h zO
   | false =>
    refine zD (fg hl3 hv y2 y3 dX3 dG3 @fF tg hix hld) ?_
    refine zW (dz hl3 @ad @af hrs) ?_
    refine ⟨?_,zK⟩
    rw [List.all_eq_false.2 ⟨_,List.getElem_mem hi,by simp [hq]⟩]
  ·have hii:¬ (i:Int)<(l.length:Int):=by omega
   refine zW (d8 hl3 hv y2 y3 dX3 la hii @fF @ad @af hrs) ?_
   refine ⟨List.all_eq_true.2 fun z hz=>?_,zK⟩
   obtain ⟨q,hq,rfl⟩:=List.getElem_of_mem hz
   exact hP q hq zO
 ·rintro T4 G4 hs4 ⟨hall,kG4⟩
  have hl4:T4.length=91:=hs4.len.trans hl2
  rw [hall]
  have k4:Kp H G4:=k2.trans kG4
  have le_k4:=k4.le
  have w4:=kG4.wf
  refine WC.wb ?_
  refine zW (bb hl4 hrs) ?_
  exact zK
end
def gK (len size:Nat) (v i:AV):Option AV:=aF (fun s=>match s with | .t 0=>v | _=>i) (.indexArr len size (.t 0) (.t 1))
theorem dF {tab:Nat->Option aN} (ev:Src->AV) (H:Heap) (id:Nat) (Q:AV->Heap->Prop) (len size:Nat) (x i:Src):gU tab ev H id (.indexArr len size x i) Q=eG (gK len size (ev x) (ev i)) (fun v=>Q v H) ():=by
 rw [bF,cM tab ev H id Q (o:=.indexArr len size x i) (v:=gK len size (ev x) (ev i)) (fun f a e=>by cases e) (by simp only [aF,gK]) rfl]; rfl
theorem cJ {len size:Nat} {x i:Src}:kV (.indexArr len size x i)=true:=rfl
theorem lJ {len size b o i:Nat} {k:IntKind} (h:i<len):gK len size (.ptr b o) (.int k (i:Int))=some (.ptr b (o+i*size)):=by
 unfold gK aF
 show (do let i <- iU (.int k (Int.ofNat i)); _)=_
 simp [iU,h]
abbrev z9:List AV:=[.int .i64 0,.int .i64 0,.int .i64 0,.int .i64 0,.int .i64 0,.int .i64 0,.int .i64 0,.int .i64 0,.int .i64 0]
def sH:List AV:=[.int .i64 0,.int .i64 0,.int .i64 0,.int .i64 1,.int .i64 2,.int .i64 0,.int .i64 2,.int .i64 0,.int .i64 0]
def rM (vars:Int) (na:Nat):List AV:=[.int .i64 0,.int .i64 1,.int .i64 1,.int .i64 vars,.int .i64 na,.int .i64 vars,.int .i64 1,.int .i64 1,.int .i64 1]
theorem gi {cs r:_} {v:AV} {off:Nat} (h:kj v) (ho:off<cs.length):cD cs (((off,1),v) :: r)=cD (cs.set off v) r:=by
 show (if v.cells.length=1/\off+1<=cs.length/\v.cells.all AV.one=true then cD (cs.take off++v.cells++cs.drop (off+1)) r else none)=_
 rw [h.1,if_pos ⟨rfl,by omega,by simp [h.2]⟩,List.set_eq_take_append_cons_drop,if_pos ho]
 simp
theorem Ck:gm z9 [((3,1),.int .i64 1),((4,1),.int .i64 2),((6,1),.int .i64 2)]=some (.agg sH):=rfl
theorem Cj (vars:Int) (na:Nat):gm z9 [((3,1),.int .i64 vars),((5,1),.int .i64 vars),((4,1),.int .i64 na),((1,1),.int .i64 1),((2,1),.int .i64 1),((6,1),.int .i64 1),((7,1),.int .i64 1),((8,1),.int .i64 1)]=some (.agg (rM vars na)):=by
 unfold gm z9
 iterate 8 rw [gi (aA _ _) (by simp)]
 rfl
theorem Bc (ty:Nat):sM (some (.cells z9 ty true)) 9 0 (.agg sH)=some (.cells sH ty true):=rfl
theorem Bb (ty:Nat) (vars:Int) (na:Nat):sM (some (.cells z9 ty true)) 9 0 (.agg (rM vars na))=some (.cells (rM vars na) ty true):=rfl
theorem A7 {k:Nat} (h1:1<=k) (h2:k<=8):aB sH k none=some (.int .i64 (sG k)):=by
 have:k=1\/k=2\/k=3\/k=4\/k=5\/k=6\/k=7\/k=8:=by omega
 rcases this with rfl | rfl | rfl | rfl | rfl | rfl | rfl | rfl <;> rfl
theorem AZ {vars:Int} {na k:Nat} (h1:1<=k) (h2:k<=8):aB (rM vars na) k none=some (.int .i64 (rL vars na k)):=by
 have:k=1\/k=2\/k=3\/k=4\/k=5\/k=6\/k=7\/k=8:=by omega
 rcases this with rfl | rfl | rfl | rfl | rfl | rfl | rfl | rfl <;> rfl
section
variable {tab:Nat->Option aN} {H:Heap}
theorem xc (C:Code tab) (hw:Wf H) {g:Gx} :
  Ans tab (.fn iw [.agg (dW g)]) H fun v H'=>∃ b1 b2,v=.fn (.func bT) [] [.ptr b1 0,.ptr b2 0] /\
   H'.get b1=some (.cells [.int .i64 g.vars,jN g,.int .i64 g.nodes,.int .i64 g.start,.int .i64 g.last,lg g] ah true) /\
   H'.get b2=some (.cells [.fn (.func bT) [] [.ptr b1 0,.ptr b2 0]] bI true)/\Kp H H':=by
 refine jp C.q45 zU fun T hl g0=>?_
 have bg:=ki g
 refine zW (fe hl g0 bg) ?_
 exact ⟨H.next,H.next+2,rfl,by rw [bo zO,bo zO,aq],by rw [aq],zK⟩
theorem qG (C:Code tab) (hw:Wf H) {x:Tx} {b:Nat} {f:Nat} {caps:List AV} {ty:Nat} {p:Bool} (hb:H.get b=some (.cells [.fn (.func f) [] caps] ty true))
  (hf:∀ H',Kp H H'->Ans tab (.fn f ([.agg (dJ x)]++caps)) H' fun v H2=>v=.bool p/\Kp H' H2) :
  Ans tab (.fn fR [.agg (dJ x),.ptr b 0]) H fun v H'=>v=.bool (!p)/\Kp H H':=by
 refine i9 C.q46 zU fun T hl g0 g1=>?_
 have hlt:=hw _ _ hb
 have bx:=t9 x
 have tx:aB [.int .u8 (x.kind:Int),.str x.name,.int .i64 x.n,mZ x.nl x.args,.int .i64 x.pl] 0 (some 5)=some (.agg (dJ x)):=by rw [gS]; rfl
 refine zW (gD hl g0 g1 bx hb tx) ?_
 refine AnsH.eq (hf _ zK) fun H2 hk2=>?_
 obtain ⟨k2,_,w2⟩:=zT H zK hk2
 refine zW (fe hl g0 g1) ?_
 exact zK
end
end Go.Proofs.Ytekmejlgocineaa.Ev
