/- A part. -/
import Derived.Test.YtofhopjbbpihaaaGreatA0
import Derived.Test.YtofhopjbbpihaaaGreatN40
import Derived.Test.YtofhopjbbpihaaaGreatSize2
namespace Go.Proofs.YtofhopjbbpihaaaGreat.Lin
set_option linter.all false
def unitC (n:Nat) (k:Int):V:=k :: List.replicate n 0
def hd1 (r:V):Int:=r.headD 0
def eqsOf (l:List (V × Bool)):List V:=(l.filter fun c=>c.2).map fun c=>c.1
def ineqsOf (n:Nat) (l:List (V × Bool)):List V:=unitC n 1 :: (l.filter fun c=>!c.2).map fun c=>c.1
def kindOf (r:V):Nat:=if 0<hd1 r then 3 else 2
def gensP (n:Nat) (l:List (V × Bool)):List (Nat × V) :=
 if (gensR (n+1) (eqsOf l) (ineqsOf n l)).any (fun r=>decide (0<hd1 r)) then
  (gensL (n+1) (eqsOf l) (ineqsOf n l)).map (fun r=>(1,r))++(gensR (n+1) (eqsOf l) (ineqsOf n l)).map fun r=>(kindOf r,r)
 else []
def linesOf (g:List (Nat × V)):List V:=(g.filter fun x=>x.1 == 1).map fun x=>x.2
def raysOf (g:List (Nat × V)):List V:=(g.filter fun x=>!(x.1 == 1)).map fun x=>x.2
def consP (n:Nat) (g:List (Nat × V)):List (V × Bool) :=
 if g.any (fun x=>x.1 == 3) then
  (gensL (n+1) (linesOf g) (raysOf g)).map (fun r=>(r,true))++((gensR (n+1) (linesOf g) (raysOf g)).filter fun r=>!decide (r=unitC n 1)).map fun r=>(r,false)
 else [(unitC n (-1),false)]
def keepsP (c:V × Bool) (g:Nat × V):Bool:=if c.2 || g.1 == 1 then decide (dot c.1 g.2=0) else decide (0<=dot c.1 g.2)
theorem unitC_len (n:Nat) (k:Int):(unitC n k).length=n+1:=by simp [unitC]
theorem Ce:∀ (n:Nat) (x:V),dot (List.replicate n 0) x=0
 | 0,x=>by simp [dot]
 | n+1,[]=>by simp [dot]
 | n+1,a :: x=>by
  have:=Ce n x
  rw [Vf]
  simp [dot] at this ⊢
  exact this
theorem fO {n:Nat} {k:Int} {x:V}:dot (unitC n k) x=k*hd1 x:=by
 cases x with
 | nil=>simp [unitC,dot,hd1]
 | cons a x =>
  have:=Ce n x
  simp [unitC,dot,hd1,this]
section
variable {n:Nat} {l:List (V × Bool)}
theorem eqs_len (h:∀ c∈l,c.1.length=n+1):∀ a∈eqsOf l,a.length=n+1:=fun a ha=>by
 obtain ⟨c,hc,rfl⟩:=TN.1 ha
 exact h c (Ud.1 hc).1
theorem ineqs_len (h:∀ c∈l,c.1.length=n+1):∀ a∈ineqsOf n l,a.length=n+1:=fun a ha=>by
 rcases Ul.1 ha with rfl | ha
 ·exact unitC_len n 1
 ·obtain ⟨c,hc,rfl⟩:=TN.1 ha
  exact h c (Ud.1 hc).1
theorem mem_eqs {a:V}:a∈eqsOf l ↔ (a,true)∈l:=by
 constructor
 ·intro h
  obtain ⟨⟨r,b⟩,hc,rfl⟩:=TN.1 h
  obtain ⟨h1,h2⟩:=Ud.1 hc
  simp only at h2
  subst h2
  exact h1
 ·intro h
  exact TN.2 ⟨(a,true),Ud.2 ⟨h,rfl⟩,rfl⟩
theorem mem_ineqs {a:V}:a∈ineqsOf n l ↔ a=unitC n 1\/(a,false)∈l:=by
 unfold ineqsOf
 rw [Ul]
 refine or_congr Xx ?_
 constructor
 ·intro h
  obtain ⟨⟨r,b⟩,hc,rfl⟩:=TN.1 h
  obtain ⟨h1,h2⟩:=Ud.1 hc
  cases b with
  | false=>exact h1
  | true=>simp at h2
 ·intro h
  exact TN.2 ⟨(a,false),Ud.2 ⟨h,rfl⟩,rfl⟩
abbrev eM (n:Nat) (l:List (V × Bool)) (x:V):Prop:=Keep (n+1) (· ∈ eqsOf l) (· ∈ ineqsOf n l) x
theorem keepP_iff {x:V}:eM n l x ↔ x.length=n+1/\0<=hd1 x/\∀ c∈l,(c.2=true->dot c.1 x=0)/\(c.2=false->0<=dot c.1 x):=by
 constructor
 ·intro h
  have h1:=h.ge (unitC n 1) (mem_ineqs.2 (.inl rfl))
  rw [fO] at h1
  refine ⟨h.len,by omega,fun ⟨r,b⟩ hc=>⟨fun hb=>?_,fun hb=>?_⟩⟩
  ·simp only at hb; subst hb; exact h.eq r (mem_eqs.2 hc)
  ·simp only at hb; subst hb; exact h.ge r (mem_ineqs.2 (.inr hc))
 ·rintro ⟨h1,h2,h3⟩
  refine ⟨h1,fun a ha=>(h3 _ (mem_eqs.1 ha)).1 rfl,fun a ha=>?_⟩
  rcases mem_ineqs.1 ha with rfl | ha
  ·rw [fO]; omega
  ·exact (h3 _ ha).2 rfl
theorem Av {l':List (V × Bool)} (h:∀ c∈l,c.1.length=n+1) (h':∀ c∈l',c.1.length=n+1) (hs:∀ x,eM n l x ↔ eM n l' x):gensP n l=gensP n l':=by
 obtain ⟨e1,e2⟩:=nl (gens_told (eqs_len h) (ineqs_len h)) (gens_told (eqs_len h') (ineqs_len h')) hs
 unfold gensP
 rw [e1,e2]
theorem Na (h:∀ c∈l,c.1.length=n+1) {r:V} (hr:r∈gensL (n+1) (eqsOf l) (ineqsOf n l)):eM n l r/\eM n l (scl (-1) r):=by
 have t:=gens_told (eqs_len h) (ineqs_len h)
 refine ⟨⟨t.dd.lenL r hr,fun e he=>t.dd.lineE r hr e he,fun i hi=>by rw [t.dd.lineI r hr i hi]; exact VU _⟩,⟨ah (t.dd.lenL r hr),fun e he=>by rw [dot_scl,t.dd.lineE r hr e he]; rfl,fun i hi=>by rw [dot_scl,t.dd.lineI r hr i hi]; exact VU _⟩⟩
theorem MI (h:∀ c∈l,c.1.length=n+1) {r:V} (hr:r∈gensR (n+1) (eqsOf l) (ineqsOf n l)):eM n l r:=(gens_told (eqs_len h) (ineqs_len h)).dd.keep r hr
def CF (n:Nat) (l:List (V × Bool)) (c:V × Bool):Prop:=∀ x,eM n l x->(c.2=true->dot c.1 x=0)/\0<=dot c.1 x
theorem wg {c:V × Bool} (hc:c∈l):CF n l c:=fun x hx=>by
 have h1:=(keepP_iff.1 hx).2.2 c hc
 refine ⟨h1.1,?_⟩
 cases hb:c.2 with
 | false=>exact h1.2 hb
 | true=>rw [h1.1 hb]; exact VU _
theorem mc {c:V × Bool} {g:Nat × V} (hc:CF n l c) (hg:eM n l g.2) (hl:g.1=1->eM n l (scl (-1) g.2)):keepsP c g=true:=by
 have h1:=hc _ hg
 unfold keepsP
 cases hb:c.2 with
 | true=>simp [h1.1 hb]
 | false =>
  by_cases hk:g.1=1
  ·have h2:=(hc _ (hl hk)).2
   rw [dot_scl] at h2
   simp [hk]; omega
  ·simp [hk]; exact h1.2
theorem m6 (h:∀ c∈l,c.1.length=n+1) {g:Nat × V} (hg:g∈gensP n l):eM n l g.2/\(g.1=1->eM n l (scl (-1) g.2)):=by
 unfold gensP at hg
 split at hg
 ·rcases Uc.1 hg with hg | hg
  ·obtain ⟨r,hr,rfl⟩:=TN.1 hg
   exact ⟨(Na h hr).1,fun _=>(Na h hr).2⟩
  ·obtain ⟨r,hr,rfl⟩:=TN.1 hg
   refine ⟨MI h hr,fun e=>?_⟩
   have e:kindOf r=1:=e
   unfold kindOf at e
   split at e <;> omega
 ·cases hg
theorem IO (r:V):(kindOf r == 1)=false:=by unfold kindOf; split <;> rfl
theorem mZ (hs:(gensR (n+1) (eqsOf l) (ineqsOf n l)).any (fun r=>decide (0<hd1 r))=true) :
  linesOf (gensP n l)=gensL (n+1) (eqsOf l) (ineqsOf n l)/\raysOf (gensP n l)=gensR (n+1) (eqsOf l) (ineqsOf n l)/\(gensP n l).any (fun x=>x.1 == 3)=true:=by
 unfold gensP
 rw [if_pos hs]
 refine ⟨?_,?_,?_⟩
 ·unfold linesOf
  rw [U9,YM.2,Yp.2,Vi,VX]
  ·exact XA _
  ·intro x hx
   obtain ⟨r,-,rfl⟩:=TN.1 hx
   simp [IO]
  ·intro x hx
   obtain ⟨r,-,rfl⟩:=TN.1 hx
   rfl
 ·unfold raysOf
  rw [U9,Yp.2,YM.2,V6,VX]
  ·exact XA _
  ·intro x hx
   obtain ⟨r,-,rfl⟩:=TN.1 hx
   simp [IO]
  ·intro x hx
   obtain ⟨r,-,rfl⟩:=TN.1 hx
   simp
 ·rw [Uv] at hs ⊢
  obtain ⟨r,hr,h0⟩:=hs
  refine ⟨(kindOf r,r),Ve _ (TN.2 ⟨r,hr,rfl⟩),?_⟩
  have h0:0<hd1 r:=of_decide_eq_true h0
  simp [kindOf,h0]
theorem my {g:List (Nat × V)} (h3:g.any (fun x=>x.1 == 3)=true) (x:V):eM n (consP n g) x ↔ 0<=hd1 x/\Keep (n+1) (· ∈ gensL (n+1) (linesOf g) (raysOf g)) (· ∈ gensR (n+1) (linesOf g) (raysOf g)) x:=by
 rw [keepP_iff]
 unfold consP
 rw [if_pos h3]
 constructor
 ·rintro ⟨q1,q2,q3⟩
  refine ⟨q2,q1,fun a ha=>(q3 (a,true) (U0 _ (TN.2 ⟨a,ha,rfl⟩))).1 rfl,fun b hb=>?_⟩
  by_cases hu:b=unitC n 1
  ·rw [hu,fO]; omega
  ·exact (q3 (b,false) (Ve _ (TN.2 ⟨b,Ud.2 ⟨hb,by simp [hu]⟩,rfl⟩))).2 rfl
 ·rintro ⟨q2,hk⟩
  refine ⟨hk.len,q2,fun c hc=>?_⟩
  rcases Uc.1 hc with hc | hc
  ·obtain ⟨a,ha,rfl⟩:=TN.1 hc
   exact ⟨fun _=>hk.eq a ha,fun e=>by cases e⟩
  ·obtain ⟨b,hb,rfl⟩:=TN.1 hc
   exact ⟨(fun e=>by cases e),fun _=>hk.ge b (Ud.1 hb).1⟩
theorem ng {g:List (Nat × V)} (hg:∀ x∈g,x.2.length=n+1):∀ c∈consP n g,c.1.length=n+1:=by
 have e1:∀ a∈linesOf g,a.length=n+1:=fun a ha=>by obtain ⟨x,hx,rfl⟩:=TN.1 ha; exact hg x (Ud.1 hx).1
 have e2:∀ a∈raysOf g,a.length=n+1:=fun a ha=>by obtain ⟨x,hx,rfl⟩:=TN.1 ha; exact hg x (Ud.1 hx).1
 intro c hc
 unfold consP at hc
 split at hc
 ·rcases Uc.1 hc with hc | hc
  ·obtain ⟨a,ha,rfl⟩:=TN.1 hc
   exact KH e1 e2 a ha
  ·obtain ⟨b,hb,rfl⟩:=TN.1 hc
   exact KF e1 e2 b (Ud.1 hb).1
 ·rw [UV] at hc
  subst hc
  exact unitC_len n (-1)
theorem wW (h:∀ c∈l,c.1.length=n+1):∀ x∈gensP n l,x.2.length=n+1:=fun x hx=>(m6 h hx).1.len
theorem uI (h:∀ c∈l,c.1.length=n+1) (hs:(gensR (n+1) (eqsOf l) (ineqsOf n l)).any (fun r=>decide (0<hd1 r))=true) (x:V):eM n (consP n (gensP n l)) x ↔ eM n l x:=by
 obtain ⟨p1,p2,p3⟩:=mZ hs
 rw [my p3,p1,p2]
 have t1:=gens_told (eqs_len h) (ineqs_len h)
 have t2:=gens_told t1.dd.lenL t1.dd.lenR
 have hd:=Cb (eqs_len h) (ineqs_len h) t1.dd t2.dd x
 constructor
 ·rintro ⟨-,hk⟩; exact hd.2 hk
 ·intro hk; exact ⟨(keepP_iff.1 hk).2.1,hd.1 hk⟩
theorem none_empty:gensP n [(unitC n (-1),false)]=[]:=by
 have hl:∀ c∈[(unitC n (-1),false)],c.1.length=n+1:=fun c hc=>by rw [UV] at hc; subst hc; exact unitC_len n (-1)
 unfold gensP
 rw [if_neg]
 intro hs
 rw [Uv] at hs
 obtain ⟨r,hr,h0⟩:=hs
 have h0:0<hd1 r:=of_decide_eq_true h0
 have:=((keepP_iff.1 (MI hl hr)).2.2 _ (UV.2 rfl)).2 rfl
 rw [fO] at this
 omega
theorem Ka (h:∀ c∈l,c.1.length=n+1):gensP n (consP n (gensP n l))=gensP n l:=by
 by_cases hs:(gensR (n+1) (eqsOf l) (ineqsOf n l)).any (fun r=>decide (0<hd1 r))=true
 ·exact Av (ng (wW h)) h (uI h hs)
 ·have e:gensP n l=[]:=by unfold gensP; rw [if_neg hs]
  rw [e]
  exact none_empty
theorem poly_keeps (h:∀ c∈l,c.1.length=n+1) {g:Nat × V} (hg:g∈gensP n l) {c:V × Bool} (hc:c∈l\/c∈consP n (gensP n l)):keepsP c g=true:=by
 obtain ⟨k1,k2⟩:=m6 h hg
 refine mc (l:=l) ?_ k1 k2
 rcases hc with hc | hc
 ·exact wg hc
 ·have hs:(gensR (n+1) (eqsOf l) (ineqsOf n l)).any (fun r=>decide (0<hd1 r))=true:=by
   cases hs:(gensR (n+1) (eqsOf l) (ineqsOf n l)).any (fun r=>decide (0<hd1 r)) with
   | true=>rfl
   | false =>
    unfold gensP at hg
    rw [if_neg (by rw [hs]; decide)] at hg
    cases hg
  exact fun x hx=>wg hc x ((uI h hs x).2 hx)
theorem GM (hne:gensP n l≠[]):(gensP n l).any (fun x=>x.1 == 3)=true:=by
 cases hs:(gensR (n+1) (eqsOf l) (ineqsOf n l)).any (fun r=>decide (0<hd1 r)) with
 | true=>exact (mZ hs).2.2
 | false=>exact absurd (by unfold gensP; rw [if_neg (by rw [hs]; decide)]) hne
def ValidG (n:Nat) (g:List (Nat × V)):Prop:=∀ x∈g,x.2.length=n+1/\(x.1=3->0<hd1 x.2)/\(x.1≠3->hd1 x.2=0)
theorem mem_lines {g:List (Nat × V)} {r:V}:r∈linesOf g ↔ (1,r)∈g:=by
 constructor
 ·intro h
  obtain ⟨⟨k,a⟩,hc,rfl⟩:=TN.1 h
  obtain ⟨h1,h2⟩:=Ud.1 hc
  have h2:k=1:=by simpa using h2
  subst h2
  exact h1
 ·intro h
  exact TN.2 ⟨(1,r),Ud.2 ⟨h,rfl⟩,rfl⟩
theorem mem_rays {g:List (Nat × V)} {r:V}:r∈raysOf g ↔ ∃ k,k≠1/\(k,r)∈g:=by
 constructor
 ·intro h
  obtain ⟨⟨k,a⟩,hc,rfl⟩:=TN.1 h
  obtain ⟨h1,h2⟩:=Ud.1 hc
  exact ⟨k,by simpa using h2,h1⟩
 ·rintro ⟨k,hk,h⟩
  exact TN.2 ⟨(k,r),Ud.2 ⟨h,by simpa using hk⟩,rfl⟩
theorem rU {g:List (Nat × V)} (hg:ValidG n g) (h3:g.any (fun x=>x.1 == 3)=true) {x:Nat × V} (hx:x∈g):eM n (consP n g) x.2/\(x.1=1->eM n (consP n g) (scl (-1) x.2)):=by
 have e1:∀ a∈linesOf g,a.length=n+1:=fun a ha=>(hg _ (mem_lines.1 ha)).1
 have e2:∀ a∈raysOf g,a.length=n+1:=fun a ha=>by obtain ⟨k,-,h⟩:=mem_rays.1 ha; exact (hg _ h).1
 have t:=gens_told e1 e2
 obtain ⟨h1,h2,h4⟩:=hg x hx
 rw [my h3,my h3]
 obtain ⟨k,r⟩:=x
 by_cases hk:k=1
 ·subst hk
  have hm:=mem_lines.2 hx
  have h5:hd1 r=0:=h4 (show ¬ (1:Nat)=3 by omega)
  have h6:hd1 (scl (-1) r)=0:=by
   cases r with
   | nil=>rfl
   | cons a r=>simp [scl,hd1] at h5 ⊢; exact h5
  refine ⟨⟨by rw [h5]; exact VU _,⟨h1,fun a ha=>?_,fun b hb=>?_⟩⟩,fun _=>⟨by rw [h6]; exact VU _,⟨ah h1,fun a ha=>?_,fun b hb=>?_⟩⟩⟩
  ·rw [dot_comm]; exact t.dd.lineE a ha r hm
  ·rw [dot_comm,(t.dd.keep b hb).eq r hm]; exact VU _
  ·rw [dot_scl,dot_comm,t.dd.lineE a ha r hm]; rfl
  ·rw [dot_scl,dot_comm,(t.dd.keep b hb).eq r hm]; exact VU _
 ·have hm:=mem_rays.2 ⟨k,hk,hx⟩
  refine ⟨⟨?_,⟨h1,fun a ha=>?_,fun b hb=>?_⟩⟩,fun e=>absurd e hk⟩
  ·by_cases h:k=3
   ·have:0<hd1 r:=h2 h
    show 0<=hd1 r
    omega
   ·have:hd1 r=0:=h4 h
    show 0<=hd1 r
    omega
  ·rw [dot_comm]; exact t.dd.lineI a ha r hm
  ·rw [dot_comm]; exact (t.dd.keep b hb).ge r hm
theorem Fj (h:∀ c∈l,c.1.length=n+1):ValidG n (gensP n l):=fun x hx=>by
 refine ⟨wW h x hx,fun e=>?_,fun e=>?_⟩
 ·unfold gensP at hx
  split at hx
  ·rcases Uc.1 hx with hx | hx
   ·obtain ⟨r,-,rfl⟩:=TN.1 hx
    cases e
   ·obtain ⟨r,-,rfl⟩:=TN.1 hx
    have e:kindOf r=3:=e
    unfold kindOf at e
    split at e
    ·assumption
    ·omega
  ·cases hx
 ·obtain ⟨k1,k2⟩:=m6 h hx
  have p1:=(keepP_iff.1 k1).2.1
  unfold gensP at hx
  split at hx
  ·rcases Uc.1 hx with hx | hx
   ·obtain ⟨r,-,rfl⟩:=TN.1 hx
    have p2:=(keepP_iff.1 (k2 rfl)).2.1
    cases r with
    | nil=>rfl
    | cons a r=>simp [scl,hd1] at p1 p2 ⊢; omega
   ·obtain ⟨r,-,rfl⟩:=TN.1 hx
    have e:¬ kindOf r=3:=e
    unfold kindOf at e
    split at e
    ·omega
    ·have p1:0<=hd1 r:=p1
     show hd1 r=0
     omega
  ·cases hx
end
end Go.Proofs.YtofhopjbbpihaaaGreat.Lin
namespace Go.Proofs.YtofhopjbbpihaaaGreat.Ev
open Go Nn
set_option linter.all false
section
variable {tab:Nat->Option aw} {H:Heap} {s:AV}
theorem BE (C:Code tab) (hw:Wf H) {α:Type} {E:fg α} {ty fi:Nat} {first caps:List AV} {l:List α} (hE:E.sz=2) (hs:SlV E ty H s l) (hbig:l.length<4611686018427387904) (p:α->Bool)
  (hf:∀ a∈l,∀ H' cs,Kp H H'->E.R H' cs a->Ans tab (.fn fi (first++[.agg cs]++caps)) H' fun v H2=>v=.bool (p a)/\Kp H' H2) :
  Ans tab (.fn cd [s,.fn (.func fi) first caps]) H fun v H'=>v=.int .i64 (nF p l)/\Kp H H':=by
 refine bz C.q80 zU fun T hl g0 g1=>?_
 refine zW (aX hl g0 g1 hs.lenV) ?_
 refine am H [] (fun j _ _=>∀ k (h:k<l.length),k<j->p l[k]=false) (a:=0) (N:=l.length) rfl (by refine zW (aD hl g0 g1) ?_; rfl) (zV (aD hl g0 g1)) (TY _) zO (by simp only [TH,hl]; rfl) rfl (fun _ _ _ _ h=>h) zK (fun k _ h=>by omega) ?_ ?_
 ·intro j T1 H1 _ hj hl1 hi1 hs1 hk1 hP
  have w1:=hk1.wf
  have le_hk1:=hk1.le
  have t0:aa T1 0=s:=(hs1.at_ 0 zU).trans (zV (aC hl g0))
  have t1:aa T1 1=.fn (.func fi) first caps:=(hs1.at_ 1 zU).trans (zV (aX hl g0 g1 g1))
  obtain ⟨cs,hr,hlen,-,hld⟩:=(hs.mono hk1.sub).at (TL hj)
  have hix:=Zu hs .i64 j hj
  rw [hE] at hld hix
  simp only [TH,hl] at hl1
  refine zW (dV hl1 t0 t1 hi1 hix hld) ?_
  refine Y4 (hf _ (TM hj) _ cs zK (E.mono ((zG H1).t _) hr)) fun H2 hk2=>?_
  obtain ⟨k2,_,_⟩:=zT H zK hk2
  cases hp:p l[j] with
  | true =>
   refine zW hl1 ?_
   exact ⟨by rw [sf hj hP hp],zK⟩
  | false =>
   refine zW hl1 ?_
   refine ⟨zK,fun k h hk=>?_⟩
   by_cases e:k=j
   ·subst e; exact hp
   ·exact hP k h zO
 ·intro T1 H1 hl1 hs1 hk1 hP
  simp only [TH,hl] at hl1
  refine zW hl1 ?_
  exact ⟨by rw [pM fun k h=>hP k h h],zK⟩
theorem pi (C:Code tab) (hw:Wf H) {α:Type} {E:fg α} {ty fi:Nat} {first caps:List AV} {l:List α} (hE:E.sz=2) (hs:SlV E ty H s l) (hbig:l.length<4611686018427387904) (p:α->Bool)
  (hf:∀ a∈l,∀ H' cs,Kp H H'->E.R H' cs a->Ans tab (.fn fi (first++[.agg cs]++caps)) H' fun v H2=>v=.bool (p a)/\Kp H' H2) :
  Ans tab (.fn bN [s,.fn (.func fi) first caps]) H fun v H'=>v=.bool (l.any p)/\Kp H H':=by
 refine bz C.q56 zU fun T hl g0 g1=>?_
 refine zW (aD hl g0 g1) ?_
 refine Y4 (BE C zF hE (hs.mono (zG H)) hbig p fun a ha H' cs hk hr=>hf a ha H' cs (Zi (H:=H) zK hk) hr) fun H2 hk2=>?_
 obtain ⟨k2,_,_⟩:=zT H zK hk2
 refine zW (aD hl g0 g1) ?_
 exact ⟨by rw [sj],zK⟩
theorem BD (C:Code tab) (hw:Wf H) {α:Type} {E:fg α} {ty fi:Nat} {first caps:List AV} {l:List α} (hE:E.sz=2) (hs:SlV E ty H s l) (hbig:l.length<4611686018427387904) (p:α->Bool)
  (hf:∀ a∈l,∀ H' cs,Kp H H'->E.R H' cs a->Ans tab (.fn fi (first++[.agg cs]++caps)) H' fun v H2=>v=.bool (p a)/\Kp H' H2) :
  Ans tab (.fn ca [s,.fn (.func fi) first caps]) H fun v H'=>v=.int .i64 (nF p l)/\Kp H H':=by
 refine bz C.q90 zU fun T hl g0 g1=>?_
 refine zW (aX hl g0 g1 hs.lenV) ?_
 refine am H [] (fun j _ _=>∀ k (h:k<l.length),k<j->p l[k]=false) (a:=0) (N:=l.length) rfl (by refine zW (aD hl g0 g1) ?_; rfl) (zV (aD hl g0 g1)) (TY _) zO (by simp only [TH,hl]; rfl) rfl (fun _ _ _ _ h=>h) zK (fun k _ h=>by omega) ?_ ?_
 ·intro j T1 H1 _ hj hl1 hi1 hs1 hk1 hP
  have w1:=hk1.wf
  have le_hk1:=hk1.le
  have t0:aa T1 0=s:=(hs1.at_ 0 zU).trans (zV (aC hl g0))
  have t1:aa T1 1=.fn (.func fi) first caps:=(hs1.at_ 1 zU).trans (zV (aX hl g0 g1 g1))
  obtain ⟨cs,hr,hlen,-,hld⟩:=(hs.mono hk1.sub).at (TL hj)
  have hix:=Zu hs .i64 j hj
  rw [hE] at hld hix
  simp only [TH,hl] at hl1
  refine zW (dV hl1 t0 t1 hi1 hix hld) ?_
  refine Y4 (hf _ (TM hj) _ cs zK (E.mono ((zG H1).t _) hr)) fun H2 hk2=>?_
  obtain ⟨k2,_,_⟩:=zT H zK hk2
  cases hp:p l[j] with
  | true =>
   refine zW hl1 ?_
   exact ⟨by rw [sf hj hP hp],zK⟩
  | false =>
   refine zW hl1 ?_
   refine ⟨zK,fun k h hk=>?_⟩
   by_cases e:k=j
   ·subst e; exact hp
   ·exact hP k h zO
 ·intro T1 H1 hl1 hs1 hk1 hP
  simp only [TH,hl] at hl1
  refine zW hl1 ?_
  exact ⟨by rw [pM fun k h=>hP k h h],zK⟩
theorem ph (C:Code tab) (hw:Wf H) {α:Type} {E:fg α} {ty fi:Nat} {first caps:List AV} {l:List α} (hE:E.sz=2) (hs:SlV E ty H s l) (hbig:l.length<4611686018427387904) (p:α->Bool)
  (hf:∀ a∈l,∀ H' cs,Kp H H'->E.R H' cs a->Ans tab (.fn fi (first++[.agg cs]++caps)) H' fun v H2=>v=.bool (p a)/\Kp H' H2) :
  Ans tab (.fn bM [s,.fn (.func fi) first caps]) H fun v H'=>v=.bool (l.any p)/\Kp H H':=by
 refine bz C.q64 zU fun T hl g0 g1=>?_
 refine zW (aD hl g0 g1) ?_
 refine Y4 (BD C zF hE (hs.mono (zG H)) hbig p fun a ha H' cs hk hr=>hf a ha H' cs (Zi (H:=H) zK hk) hr) fun H2 hk2=>?_
 obtain ⟨k2,_,_⟩:=zT H zK hk2
 refine zW (aD hl g0 g1) ?_
 exact ⟨by rw [sj],zK⟩
theorem nf (C:Code tab) (hw:Wf H) {l:List Int} (hs:RowV H s l) (hz:∀ z∈l,eY z):Ans tab (.fn pH [s]) H fun v H'=>v=.int .i64 (iK (Lin.hd1 l))/\Kp H H':=by
 refine cU C.q62 zU fun T hl g0=>?_
 cases l with
 | nil =>
  have ls:lenV s=some (.int .i64 0):=hs.lenV
  refine zW (aD hl g0 ls) ?_
  exact ⟨rfl,zK⟩
 | cons a l =>
  have ls:lenV s=some (.int .i64 ((l.length+1:Nat):Int)):=hs.lenV
  have hne:¬ ((l.length+1:Nat):Int)=0:=by omega
  have hpos:0<(a :: l).length:=by simp
  obtain ⟨w,hn,hld,-,-⟩:=lJ hs hpos
  have hix:cw 2 s (.int .i64 0)=some (az s 0):=Zu hs .i64 0 hpos
  have hld:bg H (some 2) (az s 0)=some (.agg [.bool (decide (a<0)),w]):=hld
  have hn:cr H w a.natAbs:=hn
  refine zW (dV hl g0 ls hne hix hld) ?_
  refine Y4 (pk C (x:=a) zF ⟨w,rfl,hn.mono (zG H)⟩ (hz a (by simp))) fun H2 hk2=>?_
  obtain ⟨k2,_,_⟩:=zT H zK hk2
  refine zW (aC hl g0) ?_
  exact ⟨rfl,zK⟩
theorem xS (C:Code tab) (hw:Wf H) {v:AV} {b:Bool} (ov:One v):Ans tab (.fn eQ [.agg [v,.bool b]]) H fun x H'=>x=v/\Kp H H':=by
 have hbv:gP (.agg [v,.bool b])=some [v,.bool b]:=by simp [gP,AV.cells,ov.2]; rfl
 refine cU C.q37 zU fun T hl g0=>?_
 refine zW (aD hl g0 hbv) ?_
 exact zK
theorem xR (C:Code tab) (hw:Wf H) {v:AV} {k:Int} (ov:One v):Ans tab (.fn eP [.agg [.int .u8 k,v]]) H fun x H'=>x=v/\Kp H H':=by
 have hbv:gP (.agg [.int .u8 k,v])=some [.int .u8 k,v]:=by simp [gP,AV.cells,ov.2]; rfl
 refine cU C.q44 zU fun T hl g0=>?_
 refine zW (aD hl g0 hbv) ?_
 exact zK
theorem KR (C:Code tab) (hw:Wf H) {v:AV} {b:Bool} (ov:One v):Ans tab (.fn lc [.agg [v,.bool b]]) H fun x H'=>x=.bool false/\Kp H H':=by
 have hbv:gP (.agg [v,.bool b])=some [v,.bool b]:=by simp [gP,AV.cells,ov.2]; rfl
 refine cU C.q38 zU fun T hl g0=>?_
 refine zW (aD hl g0 hbv) ?_
 exact zK
end
section
variable {tab:Nat->Option aw} {H:Heap} {s:AV}
theorem GA (x:Int):0<=iK x ↔ 0<=x:=by unfold iK; split <;> (try split) <;> omega
end
section
variable {tab:Nat->Option aw} {H:Heap} {s:AV}
theorem xc (C:Code tab) (hw:Wf H) {n:Nat} {k:Int} (hn:n<=60) (hk1 : -9223372036854775808<=k) (hk2:k<9223372036854775808) :
  Ans tab (.fn qV [.int .i64 (n:Int),.int .i64 k]) H fun v H'=>RowV H' v (Lin.unitC n k)/\Kp H H':=by
 obtain ⟨cells,hcells⟩:∃ cells,cells=(List.replicate (n+1) [AV.bool false,AV.nilSl]).flatten:=⟨_,rfl⟩
 have hmk:∀ H':Heap,IF H' (H.next+3) ad 2 32 [.bool false,.nilSl] (.int .i64 ((n+1:Nat):Int)) (.int .i64 ((n+1:Nat):Int))=some (.own (H.next+3) 0 (n+1) (n+1) 2 true,H'.put (H.next+3) (.cells cells ad true)):=fun H'=>by rw [hcells]; exact jt _ _ _ _ _ _ _ _ _ zO zO rfl
 have ej:IntKind.i64.wrap ((n:Int)+1)=((n+1:Nat):Int):=by rw [wrap_i64] <;> omega
 refine bz C.q58 zU fun T hl g0 g1=>?_
 refine zW (bS hl g0 g1 ej hmk) ?_
 refine Y5 (oH C (n:=k) zF hk1 hk2) ?_
 rintro v H2 ⟨⟨w,rfl,hn2⟩,hk2⟩
 obtain ⟨k2,_,w2⟩:=zT H zK hk2
 have ow:=hn2.one
 have hb2:=hk2.get (b:=H.next+3) (e:=.cells cells ad true) (cP)
 have lt2:=w2 _ _ hb2
 have hclen:cells.length=(n+1)*2:=by rw [hcells]; simp
 have hst:Eo (some (.cells cells ad true)) 2 0 (.agg [.bool (decide (k<0)),w])=some (.cells (cells.take 0++[.bool (decide (k<0)),w]++cells.drop (0+2)) ad true):=jd (Fk (aR _) ow) zO
 have hio:cw 2 (.own (H.next+3) 0 (n+1) (n+1) 2 true) (.int .i64 0)=some (.ptr (H.next+3) 0):=nE (j:=0) zO
 obtain ⟨cells2,hc2⟩:∃ c,c=cells.take 0++[.bool (decide (k<0)),w]++cells.drop (0+2):=⟨_,rfl⟩
 rw [<- hc2] at hst
 have hz:intE.R H2 [.bool false,.nilSl] 0:=⟨.nilSl,by simp,fM H2⟩
 have hcl:Cells intE H2 cells (List.replicate (n+1) 0):=by rw [hcells]; exact rW hz _
 have hcl2:Cells intE H2 cells2 ((List.replicate (n+1) 0).set 0 k):=by rw [hc2]; exact hcl.set (i:=0) (by simp) ⟨w,rfl,hn2⟩
 have m3:NoTy [ae] H2 (H.next+3):=Zp hb2 zU
 refine zW (dV hl g0 g1 hio hb2 hst) ?_
 refine ⟨?_,zK⟩
 have e:(List.replicate (n+1) (0:Int)).set 0 k=Lin.unitC n k:=by rw [Vf]; rfl
 rw [e] at hcl2
 obtain ⟨Hx,hHx⟩:∃ Hx,Hx=(H2.up 2).put (H.next+3) (.cells cells2 ad true):=⟨_,rfl⟩
 have hclx:Cells intE Hx cells2 (Lin.unitC n k):=by rw [hHx]; exact Y8 (E:=intE) zS hcl2
 have:Own intE ad H Hx (H.next+3) true (.own (H.next+3) 0 (n+1) (n+1) 2 true) (Lin.unitC n k):=⟨cells2,by rw [Lin.unitC_len]; rfl,by rw [hHx]; exact aq _ _ _,hclx,by omega⟩
 rw [<- hHx]
 exact this.sl
abbrev vQ:=List (Bool × List Nat) × Bool
abbrev F6:=Nat × List (Bool × List Nat)
theorem AO (C:Code tab) (hw:Wf H) {cs:List AV} {c:vQ} {b1 b2:Nat} {r1 r2:Bool} (hc:conQE.R H cs c) (hbig:xp c.1)
  (h1:H.get b1=some (.cells [.fn (.func eQ) [] []] fo r1)) (h2:H.get b2=some (.cells [.fn (.func lc) [] []] sJ r2)) :
  Ans tab (.fn eA [.agg cs,.ptr b1 0,.ptr b2 0]) H fun v H'=>v=.bool (!Bj c.1)/\Kp H H':=by
 obtain ⟨v,rfl,hv⟩:=hc
 have ov:=hv.one
 have lt1:=hw _ _ h1
 have lt2:=hw _ _ h2
 have hbv:gP (.agg [v,.bool c.2])=some [v,.bool c.2]:=by simp [gP,AV.cells,ov.2]; rfl
 refine nd C.q55 zU fun T hl g0 g1 g2=>?_
 refine zW (gh hl g0 g1 g2 hbv h1 h2) ?_
 refine Y4 (xS C zF ov) fun H2 hk2=>?_
 obtain ⟨k2,_,w2⟩:=zT H zK hk2
 have d0:=hk2.get (b:=H.next) (e:=.cells [v,.bool c.2] t_api_Con true) (cP)
 refine zW (aX hl g0 g1 g2) ?_
 refine Y4 (rP C zF (hv.mono (zG H)) hbig) fun H3 hk3=>?_
 obtain ⟨k3,_,w3⟩:=zT H zK hk3
 have d3:=hk3.get d0
 have e2:=k3.get h2
 cases hok:Bj c.1 with
 | false =>
  refine zW (aX hl g0 g1 g2) ?_
  exact zK
 | true =>
  refine zW (gh hl g0 g1 g2 d3 e2 g2) ?_
  refine Y4 (KR C zF ov) fun H4 hk4=>?_
  obtain ⟨k4,_,_⟩:=zT H zK hk4
  refine zW (aX hl g0 g1 g2) ?_
  exact zK
theorem AN (C:Code tab) (hw:Wf H) {cs:List AV} {c:vQ} {n:Int} {b1 b2:Nat} {r1 r2:Bool} (hc:conQE.R H cs c) (hn:0<=n/\n<=1000)
  (h1:H.get b1=some (.cells [.fn (.func eQ) [] []] fo r1)) (h2:H.get b2=some (.cells [.int .i64 n] fZ r2)) :
  Ans tab (.fn eh [.agg cs,.ptr b1 0,.ptr b2 0]) H fun v H'=>v=.bool (decide ((c.1.length:Int)≠n+1))/\Kp H H':=by
 obtain ⟨v,rfl,hv⟩:=hc
 have ov:=hv.one
 have lt1:=hw _ _ h1
 have lt2:=hw _ _ h2
 have hbv:gP (.agg [v,.bool c.2])=some [v,.bool c.2]:=by simp [gP,AV.cells,ov.2]; rfl
 have ej:IntKind.i64.wrap (n+1)=n+1:=by rw [wrap_i64] <;> omega
 refine nd C.q57 zU fun T hl g0 g1 g2=>?_
 refine zW (gh hl g0 g1 g2 hbv h1 h2) ?_
 refine aI ?_
 refine zD (dV hl g0 g1 g2 h1 h2) ?_
 refine Y4 (xS C zF ov) fun H2 hk2=>?_
 obtain ⟨k2,_,w2⟩:=zT H zK hk2
 have e2:=k2.get h2
 refine zD (ko hl g0 g1 g2 h1 h2 e2 hv.lenV ej) ?_
 exact ⟨by simp,zK⟩
def dI (n:Int) (l:List vQ):Int :=
 if n<0\/8<n then 2 else if 60<l.length then 4 else if l.any (fun c=>!Bj c.1) then 8 else if l.any (fun c=>decide ((c.1.length:Int)≠n+1)) then 70 else 0
theorem o0 (C:Code tab) (hw:Wf H) {n:Int} {l:List vQ} (hs:SlV conQE t_api_Con H s l) (hbig:∀ c∈l,xp c.1) (hlen:l.length<4611686018427387904) :
  Ans tab (.fn fz [.int .i64 n,s,.fn (.func eQ) [] [],.fn (.func lc) [] []]) H fun v H'=>v=.int .i64 (dI n l)/\Kp H H':=by
 refine Py C.q36 zU fun T hl g0 g1 g2 g3=>?_
 by_cases q1:n<0
 ·refine zW (dV hl g0 g1 g2 g3 q1) ?_
  exact ⟨by rw [dI,if_pos (.inl q1)],zK⟩
 by_cases q2:8<n
 ·refine zW (gh hl g0 g1 g2 g3 q1 q2) ?_
  exact ⟨by rw [dI,if_pos (.inr q2)],zK⟩
 have e1:¬ (n<0\/8<n):=fun h=>h.elim q1 q2
 by_cases q3:(60:Int)<(l.length:Int)
 ·refine zW (ko hl g0 g1 g2 g3 q1 q2 q3 hs.lenV) ?_
  exact ⟨by rw [dI,if_neg e1,if_pos zO],zK⟩
 have e2:¬ 60<l.length:=by omega
 refine zW (ko hl g0 g1 g2 g3 q1 q2 q3 hs.lenV) ?_
 refine Y4 (pi C zF (first:=[]) rfl (hs.mono (zG H)) hlen (fun c=>!Bj c.1) fun a ha H' cs hk hr=>AO C hk.wf hr (hbig a ha) (hk.get (by refine vV ?_; rfl)) (hk.get (by refine vV ?_; rfl))) fun H2 hk2=>?_
 obtain ⟨k2,_,w2⟩:=zT H zK hk2
 cases q4:l.any (fun c=>!Bj c.1) with
 | true =>
  refine zW (bS hl g0 g1 g2 g3) ?_
  exact ⟨by rw [dI,if_neg e1,if_neg e2,if_pos q4],zK⟩
 | false =>
 have d0:=hk2.get (b:=H.next) (e:=.cells [.int .i64 n] fZ true) (cP)
 have d1:=hk2.get (b:=H.next+1) (e:=.cells [.fn (.func eQ) [] []] fo true) (cP)
 refine zW (aD hl g0 g1) ?_
 refine Y4 (pi C zF (first:=[]) rfl (hs.mono (zG H)) hlen (fun c=>decide ((c.1.length:Int)≠n+1)) fun a ha H' cs hk hr=>AN C hk.wf hr ⟨by omega,by omega⟩ (hk.get (b:=H.next+1) (by first | exact d1 | (refine vV ?_; exact d1))) (hk.get (b:=H.next) (by first | exact d0 | (refine vV ?_; exact d0)))) fun H3 hk3=>?_
 obtain ⟨k3,_,_⟩:=zT H zK hk3
 cases q5:l.any (fun c=>decide ((c.1.length:Int)≠n+1)) with
 | true =>
  refine zW (bS hl g0 g1 g2 g3) ?_
  exact ⟨by rw [dI,if_neg e1,if_neg e2,if_neg (by rw [q4]; decide),if_pos q5],zK⟩
 | false =>
  refine zW (bS hl g0 g1 g2 g3) ?_
  exact ⟨by rw [dI,if_neg e1,if_neg e2,if_neg (by rw [q4]; decide),if_neg (by rw [q5]; decide)],zK⟩
def GT (g:Nat × List Int):Bool :=
 if g.1=1\/g.1=2 then decide (Lin.hd1 g.2≠0) else if g.1=3 then decide (Lin.hd1 g.2<=0) else true
theorem yJ (x:Int):0<iK x ↔ 0<x:=by unfold iK; split <;> (try split) <;> omega
theorem QY (x:Int):iK x<=0 ↔ x<=0:=by unfold iK; split <;> (try split) <;> omega
theorem Nu (C:Code tab) (hw:Wf H) {v:AV} {k:Nat} {l:List Int} (hv:RowV H v l) (hz:∀ z∈l,eY z):Ans tab (.fn mP [.agg [.int .u8 (k:Int),v]]) H fun x H'=>x=.bool (GT (k,l))/\Kp H H':=by
 have ov:=hv.one
 have hbv:gP (.agg [.int .u8 (k:Int),v])=some [.int .u8 (k:Int),v]:=by simp [gP,AV.cells,ov.2]; rfl
 refine cU C.q45 zU fun T hl g0=>?_
 by_cases q1:(k:Int)=1
 ·refine zW (aX hl g0 hbv q1) ?_
  refine Y4 (nf C zF (hv.mono (zG H)) hz) fun H2 hk2=>?_
  obtain ⟨k2,_,_⟩:=zT H zK hk2
  refine zW (aC hl g0) ?_
  refine ⟨?_,zK⟩
  congr 1
  rw [GT,if_pos (.inl zO),UP]
  simp [iv]
 by_cases q2:(k:Int)=2
 ·refine zW (bS hl g0 hbv q1 q2) ?_
  refine Y4 (nf C zF (hv.mono (zG H)) hz) fun H2 hk2=>?_
  obtain ⟨k2,_,_⟩:=zT H zK hk2
  refine zW (aC hl g0) ?_
  refine ⟨?_,zK⟩
  congr 1
  rw [GT,if_pos (.inr zO),UP]
  simp [iv]
 have q12:¬ (k=1\/k=2):=by omega
 by_cases q3:(k:Int)=3
 ·refine zW (dV hl g0 hbv q1 q2 q3) ?_
  refine Y4 (nf C zF (hv.mono (zG H)) hz) fun H2 hk2=>?_
  obtain ⟨k2,_,_⟩:=zT H zK hk2
  refine zW (aC hl g0) ?_
  refine ⟨?_,zK⟩
  congr 1
  have q3':k=3:=by omega
  rw [GT,if_neg q12,if_pos q3',UP]
  simp [QY]
 ·refine zW (dV hl g0 hbv q1 q2 q3) ?_
  refine ⟨?_,zK⟩
  have q3':¬ k=3:=by omega
  rw [GT,if_neg q12,if_neg q3']
def GS (g:F6):Bool:=!Bj g.2 || GT (g.1,g.2.map fE)
theorem AM (C:Code tab) (hw:Wf H) {cs:List AV} {c:F6} {b1 b2:Nat} {r1 r2:Bool} (hc:genQE.R H cs c) (hbig:xp c.2) (hgood:∀ z∈c.2,Lim z.2/\z.2.length<=1048576)
  (h1:H.get b1=some (.cells [.fn (.func eP) [] []] fm r1)) (h2:H.get b2=some (.cells [.fn (.func mP) [] []] sI r2)) :
  Ans tab (.fn ee [.agg cs,.ptr b1 0,.ptr b2 0]) H fun v H'=>v=.bool (GS c)/\Kp H H':=by
 obtain ⟨v,rfl,hv⟩:=hc
 have ov:=hv.one
 have lt1:=hw _ _ h1
 have lt2:=hw _ _ h2
 have hbv:gP (.agg [.int .u8 (c.1:Int),v])=some [.int .u8 (c.1:Int),v]:=by simp [gP,AV.cells,ov.2]; rfl
 refine nd C.q63 zU fun T hl g0 g1 g2=>?_
 refine zW (gh hl g0 g1 g2 hbv h1 h2) ?_
 refine Y4 (xR C zF ov) fun H2 hk2=>?_
 obtain ⟨k2,_,w2⟩:=zT H zK hk2
 have d0:=hk2.get (b:=H.next) (e:=.cells [.int .u8 (c.1:Int),v] ak true) (cP)
 refine zW (aX hl g0 g1 g2) ?_
 refine Y4 (rP C zF (hv.mono (zG H)) hbig) fun H3 hk3=>?_
 obtain ⟨k3,_,w3⟩:=zT H zK hk3
 have d3:=hk3.get d0
 have e2:=k3.get h2
 cases hok:Bj c.2 with
 | false =>
  refine zW (aX hl g0 g1 g2) ?_
  exact ⟨by simp [GS,hok],zK⟩
 | true =>
  have hb:∀ z∈c.2,rI z=false:=by
   simp only [Bj,Uq,UT,Vh,Xu] at hok
   exact hok.2
  refine zW (gh hl g0 g1 g2 d3 e2 g2) ?_
  refine Y4 (Nu C (l:=c.2.map fE) zF ((SlV.int hv fun z hz=>⟨hb z hz,(hgood z hz).1⟩).mono (zG H)) fun z hz=>?_) fun H4 hk4=>?_
  ·obtain ⟨x,hx,rfl⟩:=TN.1 hz
   exact (L6 (hgood x hx).1 (hgood x hx).2).sm zO
  obtain ⟨k4,_,_⟩:=zT H zK hk4
  refine zW (aX hl g0 g1 g2) ?_
  exact ⟨by simp [GS,hok],zK⟩
theorem AL (C:Code tab) (hw:Wf H) {cs:List AV} {c:F6} {n:Int} {b1 b2:Nat} {r1 r2:Bool} (hc:genQE.R H cs c) (hn:0<=n/\n<=1000)
  (h1:H.get b1=some (.cells [.fn (.func eP) [] []] fm r1)) (h2:H.get b2=some (.cells [.int .i64 n] fZ r2)) :
  Ans tab (.fn d9 [.agg cs,.ptr b1 0,.ptr b2 0]) H fun v H'=>v=.bool (decide ((c.2.length:Int)≠n+1))/\Kp H H':=by
 obtain ⟨v,rfl,hv⟩:=hc
 have ov:=hv.one
 have lt1:=hw _ _ h1
 have lt2:=hw _ _ h2
 have hbv:gP (.agg [.int .u8 (c.1:Int),v])=some [.int .u8 (c.1:Int),v]:=by simp [gP,AV.cells,ov.2]; rfl
 have ej:IntKind.i64.wrap (n+1)=n+1:=by rw [wrap_i64] <;> omega
 refine nd C.q65 zU fun T hl g0 g1 g2=>?_
 refine zW (gh hl g0 g1 g2 hbv h1 h2) ?_
 refine aI ?_
 refine zD (dV hl g0 g1 g2 h1 h2) ?_
 refine Y4 (xR C zF ov) fun H2 hk2=>?_
 obtain ⟨k2,_,w2⟩:=zT H zK hk2
 have e2:=k2.get h2
 refine zD (ko hl g0 g1 g2 h1 h2 e2 hv.lenV ej) ?_
 exact ⟨by simp,zK⟩
def jx (n:Int) (l:List F6):Int :=
 if n<0\/8<n then 2 else if 60<l.length then 4 else if l.any GS then 8 else if l.any (fun c=>decide ((c.2.length:Int)≠n+1)) then 70 else 0
theorem xd (C:Code tab) (hw:Wf H) {n:Int} {l:List F6} (hs:SlV genQE ak H s l) (hbig:∀ c∈l,xp c.2) (hgood:∀ c∈l,∀ z∈c.2,Lim z.2/\z.2.length<=1048576) (hlen:l.length<4611686018427387904) :
  Ans tab (.fn fy [.int .i64 n,s,.fn (.func eP) [] [],.fn (.func mP) [] []]) H fun v H'=>v=.int .i64 (jx n l)/\Kp H H':=by
 refine Py C.q43 zU fun T hl g0 g1 g2 g3=>?_
 by_cases q1:n<0
 ·refine zW (dV hl g0 g1 g2 g3 q1) ?_
  exact ⟨by rw [jx,if_pos (.inl q1)],zK⟩
 by_cases q2:8<n
 ·refine zW (gh hl g0 g1 g2 g3 q1 q2) ?_
  exact ⟨by rw [jx,if_pos (.inr q2)],zK⟩
 have e1:¬ (n<0\/8<n):=fun h=>h.elim q1 q2
 by_cases q3:(60:Int)<(l.length:Int)
 ·refine zW (ko hl g0 g1 g2 g3 q1 q2 q3 hs.lenV) ?_
  exact ⟨by rw [jx,if_neg e1,if_pos zO],zK⟩
 have e2:¬ 60<l.length:=by omega
 refine zW (ko hl g0 g1 g2 g3 q1 q2 q3 hs.lenV) ?_
 refine Y4 (ph C zF (first:=[]) rfl (hs.mono (zG H)) hlen GS fun a ha H' cs hk hr=>AM C hk.wf hr (hbig a ha) (hgood a ha) (hk.get (by refine vV ?_; rfl)) (hk.get (by refine vV ?_; rfl))) fun H2 hk2=>?_
 obtain ⟨k2,_,w2⟩:=zT H zK hk2
 cases q4:l.any GS with
 | true =>
  refine zW (bS hl g0 g1 g2 g3) ?_
  exact ⟨by rw [jx,if_neg e1,if_neg e2,if_pos q4],zK⟩
 | false =>
 have d0:=hk2.get (b:=H.next) (e:=.cells [.int .i64 n] fZ true) (cP)
 have d1:=hk2.get (b:=H.next+1) (e:=.cells [.fn (.func eP) [] []] fm true) (cP)
 refine zW (aD hl g0 g1) ?_
 refine Y4 (ph C zF (first:=[]) rfl (hs.mono (zG H)) hlen (fun c=>decide ((c.2.length:Int)≠n+1)) fun a ha H' cs hk hr=>AL C hk.wf hr ⟨by omega,by omega⟩ (hk.get (b:=H.next+1) (by first | exact d1 | (refine vV ?_; exact d1))) (hk.get (b:=H.next) (by first | exact d0 | (refine vV ?_; exact d0)))) fun H3 hk3=>?_
 obtain ⟨k3,_,_⟩:=zT H zK hk3
 cases q5:l.any (fun c=>decide ((c.2.length:Int)≠n+1)) with
 | true =>
  refine zW (bS hl g0 g1 g2 g3) ?_
  exact ⟨by rw [jx,if_neg e1,if_neg e2,if_neg (by rw [q4]; decide),if_pos q5],zK⟩
 | false =>
  refine zW (bS hl g0 g1 g2 g3) ?_
  exact ⟨by rw [jx,if_neg e1,if_neg e2,if_neg (by rw [q4]; decide),if_neg (by rw [q5]; decide)],zK⟩
end
section
variable {tab:Nat->Option aw} {H:Heap} {s:AV}
theorem vS (C:Code tab) (hw:Wf H) {fi:Nat} {first caps:List AV} {l:List (List Int)} (hs:dQ H s l) (hbig:l.length<4611686018427387904) (p:List Int->Bool)
  (hf:∀ r∈l,∀ H' w,Kp H H'->RowV H' w r->Ans tab (.fn fi (first++[w]++caps)) H' fun v H2=>v=.bool (p r)/\Kp H' H2) :
  Ans tab (.fn bL [s,.fn (.func fi) first caps]) H fun v H'=>v=.bool (l.any p)/\Kp H H':=by
 refine bz C.q60 zU fun T hl g0 g1=>?_
 refine zW (aD hl g0 g1) ?_
 refine Y4 (rM C zF (hs.mono (zG H)) hbig p fun r hr H' w hk hv=>hf r hr H' w (Zi (H:=H) zK hk) hv) fun H2 hk2=>?_
 obtain ⟨k2,_,_⟩:=zT H zK hk2
 refine zW (aD hl g0 g1) ?_
 exact ⟨by rw [sj],zK⟩
end
def Bq {α:Type} (E:fg α) (ty:Nat) (H0 H:Heap) (v:AV) (l:List α):Prop:=(v=.nilSl/\l=[])\/∃ b ex,Own E ty H0 H b ex v l
section
variable {α β:Type} {E:fg α} {E':fg β} {ty:Nat} {H0 H H':Heap} {v w:AV} {l:List α} {m:List β}
theorem Bq.nil:Bq E ty H0 H .nilSl []:=.inl ⟨rfl,rfl⟩
theorem Bq.of (h:Bl E ty H0 H v l):Bq E ty H0 H v l:=by
 rcases h with h | ⟨b,h⟩
 ·exact .inl h
 ·exact .inr ⟨b,false,h⟩
theorem Bq.sl (h:Bq E ty H0 H v l):SlV E ty H v l:=by
 rcases h with ⟨rfl,rfl⟩ | ⟨b,ex,h⟩
 ·exact Zx E ty H
 ·exact h.sl
theorem Bq.mono (hs:Sub H H') (h:Bq E ty H0 H v l):Bq E ty H0 H' v l:=by
 rcases h with h | ⟨b,ex,h⟩
 ·exact .inl h
 ·exact .inr ⟨b,ex,h.mono hs⟩
theorem Bq.lt (hw:Wf H) (h:Bq E ty H0 H v l) {b:Nat} (hb:km v=some b):b<H.next:=by
 rcases h with ⟨rfl,-⟩ | ⟨b',ex,cells,rfl,hg,-⟩
 ·cases hb
 ·cases hb
  exact hw _ _ hg
theorem Frm.subTq {tys:List Nat} (hf:Frm v H H') (h:Bq E ty H0 H v l) (hn:ty ∉ tys):SubT tys H H':=fun c cs t r ht hc=>hf c _ hc fun e=>by
 rcases h with ⟨rfl,-⟩ | ⟨b,ex,cells,rfl,hb,-⟩
 ·cases e
 ·cases e
  rw [hb] at hc; cases hc
  exact hn ht
theorem Frm.bq (hf:Frm v H H') (h:Bq E ty H0 H v l) (hw:Bq E' ty H0 H w m) (hs:Sep v w) (ht:ty ∉ E'.tys):Bq E' ty H0 H' w m:=by
 rcases hw with hw | ⟨b,ex,cells,rfl,hb,hc,h0⟩
 ·exact .inl hw
 ·exact .inr ⟨b,ex,cells,rfl,hf b _ hb fun e=>hs b e rfl,hc.mono (hf.subTq h ht),h0⟩
theorem Bq.push {ty2 bytes id id2:Nat} {cs:List AV} {a:α} (h:Bq E ty H0 H v l) (hty:ty ∉ E.tys) (hk:Kp H0 H) (hr:E.R H cs a) (hid:H0.next<=id) (hid':id<H.next) (hf:H.get id=none) (hid2:H0.next<=id2) (hid2':id2<H.next) (hf2:H.get id2=none) (hne:id≠id2)
  (hb:(l.length+1)*bytes<=70368744177664) (hl:l.length+1<4611686018427387904) :
  ∃ n H',cM (H.put id2 (.cells cs ty2 true)) id E.sz bytes ty v (.own id2 0 1 1 E.sz true)=some (.own id 0 n n E.sz false,H')/\Bq E ty H0 H' (.own id 0 n n E.sz false) (l++[a])/\Kp H0 H'/\H'.next=H.next/\Frm v H H'/\(∀ c,c≠id->c≠id2->H.get c=none->H'.get c=none):=by
 have hbl:Bl E ty H0 H v l\/∃ b,Own E ty H0 H b true v l:=by
  rcases h with h | ⟨b,ex,h⟩
  ·exact .inl (.inl h)
  ·cases ex with
   | false=>exact .inl (.inr ⟨b,h⟩)
   | true=>exact .inr ⟨b,h⟩
 rcases hbl with hbl | ⟨b,ho⟩
 ·obtain ⟨n,H',e1,e2,e3⟩:=Bl.push2 (ty2:=ty2) (bytes:=bytes) hbl hty hk hr hid hid' hf hid2 hid2' hf2 hne hb hl
  exact ⟨n,H',e1,.of e2,e3⟩
 ·have hsub:Sub H (H.put id2 (.cells cs ty2 true)):=aH hf2
  have hk':Kp H0 (H.put id2 (.cells cs ty2 true)):=hk.put hid2 hid2'
  have hy:SlV E ty2 (H.put id2 (.cells cs ty2 true)) (.own id2 0 1 1 E.sz true) [a] :=
   (show Own E ty2 H0 _ id2 true (.own id2 0 1 1 E.sz true) [a] from ⟨cs,rfl,aq _ _ _,Za (E.mono (hsub.t _) hr),hid2⟩).sl
  have ho1:=ho.mono hsub
  have hs:=ho1.sl
  obtain ⟨cells,hv,hg,-,-⟩:=ho1
  rw [hv] at hs
  obtain ⟨v',H',e1,e2,e3,e4,e5,e6⟩:=SlV.app (bytes:=bytes) (id:=id) hs hk' hy hid hid' (by rw [aA hne]; exact hf) hb hl
  obtain ⟨cells',hv',hg',hc',h0'⟩:=e6 (by simp)
  rw [hv'] at e1
  refine ⟨_,H',by rw [hv]; exact e1,.inr ⟨id,false,cells',rfl,hg',hc',h0'⟩,e3,e4,fun b e hbe _=>e5.get _ _ (hsub.get _ _ hbe),fun c h1 h2 h3=>CC e1 h1 (by rw [aA h2]; exact h3)⟩
def Y7:=@Bq.push
end
theorem yP {a:AV} (ha:One a) (x y:AV):ip [x,y] [((0,1),a)]=some (.agg [a,y]):=by
 simp [ip,cV,ha.1,ha.2]
section
open Lin
variable {n:Nat} {l:List (V × Bool)}
theorem Ns {j:Nat} (hj:j<l.length):eqsOf (l.take (j+1))=if l[j].2=true then eqsOf (l.take j)++[l[j].1] else eqsOf (l.take j):=by
 rw [TX hj]
 unfold eqsOf
 rw [U9,UK]
 cases h:l[j].2 <;> simp [h]
theorem Ho {j:Nat} (hj:j<l.length):ineqsOf n (l.take (j+1))=if l[j].2=true then ineqsOf n (l.take j) else ineqsOf n (l.take j)++[l[j].1]:=by
 rw [TX hj]
 unfold ineqsOf
 rw [U9,UK]
 cases h:l[j].2 <;> simp [h]
theorem Nt (l:List (V × Bool)):(eqsOf l).length<=l.length:=by
 unfold eqsOf
 rw [TT]
 exact U7 _ _
theorem ri (l:List (V × Bool)):(ineqsOf n l).length<=l.length+1:=by
 unfold ineqsOf
 rw [UH,TT]
 have:=U7 (fun c:V × Bool=>!c.2) l
 omega
theorem Im (n m:Nat):Bd (2^m) (unitC n 1):=fun i=>by
 have h1:1<=2^m:=UF zU
 unfold unitC at_
 cases i with
 | zero=>simpa using h1
 | succ i =>
  rw [Vt,TI,U4]
  split <;> simp
end
section
variable {tab:Nat->Option aw} {H:Heap} {s:AV}
theorem AB (C:Code tab) (hw:Wf H) {l:List Int} (hs:RowV H s l) (hz:∀ z∈l,eY z):Ans tab (.fn kE [s]) H fun v H'=>v=.bool (decide (0<Lin.hd1 l))/\Kp H H':=by
 refine cU C.q61 zU fun T hl g0=>?_
 refine zW (aC hl g0) ?_
 refine Y4 (nf C zF (hs.mono (zG H)) hz) fun H2 hk2=>?_
 obtain ⟨k2,_,_⟩:=zT H zK hk2
 have e:decide (iK (Lin.hd1 l) > 0)=decide (0<Lin.hd1 l):=by
  rw [UP]
  simp [yJ]
 refine zW (aC hl g0) ?_
 exact ⟨by simp [yJ],zK⟩
set_option maxHeartbeats 4000000 in
theorem xQ (C:Code tab) (hw:Wf H) {n m:Nat} {l:List (List Int × Bool)} (hs:SlV conE t_api_Con H s l) (hn:n<=4) (hlen:l.length<=1023) (hcnt:(l.length+1)^n<1099000000000) (hrow:∀ c∈l,c.1.length=n+1/\Lin.Bd (2^m) c.1) (hm:m<=300000) :
  Ans tab (.fn oB [.int .i64 (n:Int),s]) H fun v H'=>SlV genE ak H' v (Lin.gensP n l)/\Kp H H':=by
 refine BA C.q39 rfl rfl zU fun T hl g=>?_
 have hl:T.length=79:=hl
 have hrs:c_dual_points.results=[(4,none)]:=rfl
 have g0:aa T 0=.int .i64 (n:Int):=g 0 (by simp)
 have g1:aa T 1=s:=g 1 (by simp)
 refine aP ?_
 refine zW (aC hl @au) ?_
 refine aP ?_
 refine zW (aC hl @au) ?_
 refine dl (fun T' H'=>∃ o,aa T' 6=o/\Kp H H'/\Bq rowsE af H H' o [Lin.unitC n 1]) rfl ?_ ?_
 ·refine zW (aC hl g0) ?_
  refine Y5 (xc C (n:=n) (k:=1) zF zO zO zO) ?_
  rintro v H2 ⟨hr,hk2⟩
  obtain ⟨k2,_,w2⟩:=zT H zK hk2
  have ov:=hr.one
  have n2:H.next+6<=H2.next:=hk2.le
  have f2:H2.get (H.next+4)=none:=hk2.free (show H.next+4<H.next+6 by omega) (hw.fresh (b:=H.next+4) zO)
  refine zW (aC hl @aW) ?_
  refine ⟨_,rfl,zK,.inr ⟨H.next+4,true,[v],rfl,aq _ _ _,?_,by omega⟩⟩
  exact Za (E:=rowsE) ⟨v,rfl,hr.mono (aH f2)⟩
 rintro T1 H1 hs1 ⟨o,t6,k1,b1⟩
 have w1:=k1.wf
 have le1:=k1.le
 have t0:aa T1 0=.int .i64 (n:Int):=(hs1.at_ 0 zU).trans (zV (aC hl g0))
 have t1:aa T1 1=s:=(hs1.at_ 1 zU).trans (zV (aC hl g1))
 have t4:aa T1 4=.nilSl:=(hs1.at_ 4 zU).trans (zV hl)
 have t5:aa T1 5=.nilSl:=(hs1.at_ 5 zU).trans (zV hl)
 have hl1:T1.length=79:=hs1.len.trans (by simp only [TH]; exact hl)
 have hsl1:=hs.mono k1.sub
 refine dl (fun T' H'=>∃ o5 o6,aa T' 5=o5/\aa T' 6=o6/\Kp H H'/\dQ H' o5 (Lin.eqsOf l)/\dQ H' o6 (Lin.ineqsOf n l)) rfl ?_ ?_
 ·refine zW (aD hl1 t1 hs.lenV) ?_
  refine am H [5,6] (fun j vs H'=>∃ o5 o6,vs=[o5,o6]/\Bq rowsE af H H' o5 (Lin.eqsOf (l.take j))/\Bq rowsE af H H' o6 (Lin.ineqsOf n (l.take j))/\Sep o5 o6) (a:=0) (N:=l.length) rfl (by refine zW hl1 ?_; rfl) (zV hl1) (TY _) zO (by simp only [TH,hl1]; rfl) rfl (fun j vs H' m ⟨o5,o6,q1,q2,q3,q4⟩=>⟨o5,o6,q1,q2.mono (ZB H' m),q3.mono (ZB H' m),q4⟩) zK ⟨.nilSl,o,by exact zV (aD hl1 t5 t6),Bq.nil,b1.mono (ZB H1 _),fun b h=>by cases h⟩ ?_ ?_
  ·rintro j T2 H2 _ hj hl2 hi2 hs2 hk2 ⟨o5,o6,hv,bq5,bq6,hsep⟩
   have w2:=hk2.wf
   have le_hk2:=hk2.le
   have le2:=hk2.le
   simp only [TP,TV,TR,and_true] at hv
   obtain ⟨v5,v6⟩:=hv
   have t20:aa T2 20=s:=(hs2.at_ 20 zU).trans (zV (aC hl1 t1))
   obtain ⟨cs,⟨w,rfl,hr⟩,hlen',-,hld⟩:=(hs.mono hk2.sub).at (TL hj)
   have hix:cw 2 s (.int .i64 (j:Int))=some (az s (j*2)):=Zu hs .i64 j hj
   have hld:bg H2 (some 2) (az s (j*2))=some (.agg [w,.bool l[j].2]):=hld
   have ow:=hr.one
   simp only [TH,hl1] at hl2
   have he:=Ns (l:=l) hj
   have hi:=Ho (n:=n) (l:=l) hj
   have l5:=Nt (l.take j)
   have l6:=ri (n:=n) (l.take j)
   rw [Un] at l5 l6
   obtain ⟨Hx,hHx⟩:∃ Hx,Hx=((H2.up 12).put (H2.next+2) (.cells [.nilSl,.bool false] t_api_Con true)).put (H2.next+2) (.cells [w,.bool l[j].2] t_api_Con true):=⟨_,rfl⟩
   have kx:Kp H2 Hx:=by rw [hHx]; exact zK
   have kx0:Kp H Hx:=hk2.trans kx
   have nx:Hx.next=H2.next+12:=by rw [hHx]; rfl
   have fx:∀ c,H2.next<=c->c≠H2.next+2->Hx.get c=none:=fun c h1 h2=>by rw [hHx,aA h2,aA h2]; exact w2.fresh h1
   have hrx:rowsE.R Hx [w] l[j].1:=⟨w,rfl,hr.mono kx.sub⟩
   cases hb:l[j].2 with
   | true =>
    rw [hb] at hld hHx he hi
    obtain ⟨n6,H6,e6,b6,k6,nx6,f6,-⟩:=Y7 (ty2:=af) (bytes:=24) (id:=H2.next+10) (id2:=H2.next+9) (bq5.mono kx.sub) zU kx0 hrx zO zO (fx _ zO zO) zO zO (fx _ zO zO) zO zO zO
    have e6':cM ((((H2.up 12).put (H2.next+2) (.cells [.nilSl,.bool false] t_api_Con true)).put (H2.next+2) (.cells [w,.bool true] t_api_Con true)).put (H2.next+9) (.cells [w] af true)) (H2.next+10) 1 24 af o5 (.own (H2.next+9) 0 1 1 1 true)=some (.own (H2.next+10) 0 n6 n6 1 false,H6):=by rw [hHx] at e6; exact e6
    refine zW (lA hl2 t20 hi2 hix hld v5 v6 e6') ?_
    refine ⟨k6,_,_,rfl,?_,?_,?_⟩
    ·rw [he,if_pos rfl]; exact b6
    ·rw [hi,if_pos rfl]; exact f6.bq (bq5.mono kx.sub) (bq6.mono kx.sub) hsep zU
    ·intro b h1 h2
     have:=bq6.lt w2 h2
     cases h1
     omega
   | false =>
    rw [hb] at hld hHx he hi
    obtain ⟨n6,H6,e6,b6,k6,nx6,f6,-⟩:=Y7 (ty2:=af) (bytes:=24) (id:=H2.next+10) (id2:=H2.next+9) (bq6.mono kx.sub) zU kx0 hrx zO zO (fx _ zO zO) zO zO (fx _ zO zO) zO zO zO
    have e6':cM ((((H2.up 12).put (H2.next+2) (.cells [.nilSl,.bool false] t_api_Con true)).put (H2.next+2) (.cells [w,.bool false] t_api_Con true)).put (H2.next+9) (.cells [w] af true)) (H2.next+10) 1 24 af o6 (.own (H2.next+9) 0 1 1 1 true)=some (.own (H2.next+10) 0 n6 n6 1 false,H6):=by rw [hHx] at e6; exact e6
    refine zW (lA hl2 t20 hi2 hix hld v5 v6 e6') ?_
    refine ⟨k6,_,_,rfl,?_,?_,?_⟩
    ·rw [he,if_neg zU]; exact f6.bq (bq6.mono kx.sub) (bq5.mono kx.sub) hsep.symm zU
    ·rw [hi,if_neg zU]; exact b6
    ·intro b h1 h2
     have:=bq5.lt w2 h1
     cases h2
     omega
  ·rintro T2 H2 hl2 hs2 hk2 ⟨o5,o6,hv,bq5,bq6,hsep⟩
   simp only [TP,TV,TR,and_true] at hv
   rw [Ur] at bq5 bq6
   refine zW (aC hl2 @aW) ?_
   exact ⟨o5,o6,hv.1,hv.2,hk2,bq5.sl,bq6.sl⟩
 rintro T2 H2 hs2 ⟨o5,o6,v5,v6,k2,r5,r6⟩
 have w2:=k2.wf
 have le2:=k2.le
 have u0:aa T2 0=.int .i64 (n:Int):=(hs2.at_ 0 zU).trans t0
 have u4:aa T2 4=.nilSl:=(hs2.at_ 4 zU).trans t4
 have hl2:T2.length=79:=hs2.len.trans hl1
 have hE:∀ a∈Lin.eqsOf l,a.length=n+1/\Lin.Bd (2^m) a:=fun a ha=>hrow _ (Lin.mem_eqs.1 ha)
 have hI:∀ a∈Lin.ineqsOf n l,a.length=n+1/\Lin.Bd (2^m) a:=fun a ha=>by
  rcases Lin.mem_ineqs.1 ha with rfl | ha
  ·exact ⟨Lin.unitC_len n 1,Im n m⟩
  ·exact hrow _ ha
 have lE:=Nt l
 have lI:=ri (n:=n) l
 obtain ⟨c1,c2⟩:=ux (d:=n+1) (m:=m) zO zO hE hI
 have hT:=Lin.gens_told (d:=n+1) (fun a ha=>(hE a ha).1) (fun a ha=>(hI a ha).1)
 have lL:=ech_len hT.form
 have hcI:(Lin.ineqsOf n l).length^n<1099000000000:=UW (V3 lI n) hcnt
 have lR:(Lin.gensR (n+1) (Lin.eqsOf l) (Lin.ineqsOf n l)).length<=1099000000000:=by
  have:=hT.dd.count3 (fun a ha=>(hI a ha).1)
  simp only [VP] at this
  omega
 obtain ⟨L,hL⟩:∃ L,L=Lin.gensL (n+1) (Lin.eqsOf l) (Lin.ineqsOf n l):=⟨_,rfl⟩
 obtain ⟨R,hR⟩:∃ R,R=Lin.gensR (n+1) (Lin.eqsOf l) (Lin.ineqsOf n l):=⟨_,rfl⟩
 have smR:∀ r∈R,∀ z∈r,eY z:=fun r hr z hz=>by
  rw [hR] at hr
  exact (kn (c2 r hr).2 z hz).sm zO
 have ej:IntKind.i64.wrap ((n:Int)+1)=((n+1:Nat):Int):=by rw [wrap_i64] <;> omega
 refine dl (fun T' H'=>∃ p q,aa T' 9=p/\aa T' 10=q/\Kp H H'/\dQ H' p L/\dQ H' q R) rfl ?_ ?_
 ·refine zW (bS hl2 u0 v5 v6 ej) ?_
  refine Y5 (AI C (d:=n+1) (m:=m) zF (r5.mono (zG H2)) (r6.mono (zG H2)) zO zO zO zO (by simpa using hcI) hE hI hm) ?_
  rintro v H3 ⟨p,q,rfl,hp,hq,hk3⟩
  obtain ⟨k23,_,_⟩:=zT H2 zK hk3
  have k3:Kp H H3:=k2.trans k23
  have le_k3:=k3.le
  refine zW (aC hl2 @aW) ?_
  rw [hL,hR]
  exact ⟨p,q,rfl,rfl,zK,hp,hq⟩
 rintro T3 H3 hs3 ⟨p,q,v9,v10,k3,hp,hq⟩
 have w3:=k3.wf
 have le3:=k3.le
 have x4:aa T3 4=.nilSl:=(hs3.at_ 4 zU).trans u4
 have hl3:T3.length=79:=hs3.len.trans hl2
 rw [<- hL] at lL
 rw [<- hR] at lR
 have hany:R.any (fun r=>decide (0<Lin.hd1 r))=(Lin.gensR (n+1) (Lin.eqsOf l) (Lin.ineqsOf n l)).any (fun r=>decide (0<Lin.hd1 r)):=by rw [hR]
 refine dl (fun T' H'=>Kp H3 H'/\aa T' 4=.nilSl/\R.any (fun r=>decide (0<Lin.hd1 r))=true) rfl ?_ ?_
 ·refine zW (aC hl3 v10) ?_
  refine Y4 (vS C zF (first:=[]) (hq.mono (zG H3)) zO (fun r=>decide (0<Lin.hd1 r)) fun a ha H' w hk hr=>AB C hk.wf hr (smR a ha)) fun H4 hk4=>?_
  obtain ⟨k34,_,_⟩:=zT H3 zK hk4
  have k4:Kp H H4:=k3.trans k34
  have le_k4:=k4.le
  cases hc:R.any (fun r=>decide (0<Lin.hd1 r)) with
  | true =>
   refine zW (aD hl3 @aW x4) ?_
   exact zK
  | false =>
   refine zW (aD hl3 @vp hrs) ?_
   refine ⟨?_,zK⟩
   unfold Lin.gensP
   rw [<- hany,hc]
   exact Zx _ _ _
 rintro T4 H4 hs4 ⟨k34,y4,hyes⟩
 have w4:=k34.wf
 have le4:=k34.le
 have k4:Kp H H4:=k3.trans k34
 have le_k4:=k4.le
 have y9:aa T4 9=p:=(hs4.at_ 9 zU).trans v9
 have y10:aa T4 10=q:=(hs4.at_ 10 zU).trans v10
 have hl4:T4.length=79:=hs4.len.trans hl3
 refine dl (fun T' H'=>∃ o,aa T' 4=o/\Kp H4 H'/\Bq genE ak H4 H' o (L.map fun r=>(1,r))) rfl ?_ ?_
 ·refine zW (aD hl4 y9 hp.lenV) ?_
  refine am H4 [4] (fun j vs H'=>∃ o,vs=[o]/\Bq genE ak H4 H' o ((L.take j).map fun r=>(1,r))) (a:=0) (N:=L.length) rfl (by refine zW hl4 ?_; rfl) (zV hl4) (TY _) zO (by simp only [TH,hl4]; rfl) rfl (fun j vs H' m ⟨o,q1,q2⟩=>⟨o,q1,q2.mono (ZB H' m)⟩) (Kp.up (Zg w4) _) ⟨.nilSl,by exact zV (aC hl4 y4),Bq.nil⟩ ?_ ?_
  ·rintro j T5 H5 _ hj hl5 hi5 hs5 hk5 ⟨o,hv,ho⟩
   have w5:=hk5.wf
   have le_hk5:=hk5.le
   have le5:=hk5.le
   simp only [TP,TV,TR,and_true] at hv
   have t51:aa T5 51=p:=(hs5.at_ 51 zU).trans (zV (aC hl4 y9))
   obtain ⟨w,hr,hld⟩:=dw ((hp.mono k34.sub).mono hk5.sub) hj
   have hix:=Zv hp .i64 j hj
   have ow:=hr.one
   simp only [TH,hl4] at hl5
   obtain ⟨n6,H6,e6,b6,k6,nx6,f6,-⟩:=Y7 (ty2:=ak) (bytes:=32) (id:=H5.next+7) (id2:=H5.next+6) (H:=H5.up 9) (cs:=[.int .u8 1,w]) (a:=(1,L[j])) (ho.mono (ZB H5 9)) zU (hk5.up 9) ⟨w,rfl,hr.mono (ZB H5 9)⟩ zO (by rw [da]; omega) (w5.fresh zO) zO (by rw [da]; omega) (w5.fresh zO) zO (by simp; omega) (by simp; omega)
   have e6':cM ((H5.up 9).put (H5.next+6) (.cells [.int .u8 1,w] ak true)) (H5.next+7) 2 32 ak o (.own (H5.next+6) 0 1 1 2 true)=some (.own (H5.next+7) 0 n6 n6 2 false,H6):=e6
   refine zW (gh hl5 t51 hi5 hix hld hv e6') ?_
   refine ⟨k6,_,rfl,?_⟩
   rw [TX hj,UK]
   exact b6
  ·rintro T5 H5 hl5 hs5 hk5 ⟨o,hv,ho⟩
   simp only [TP,TV,TR,and_true] at hv
   rw [Ur] at ho
   refine zW (aC hl5 @aW) ?_
   exact ⟨o,hv,hk5,ho⟩
 rintro T5 H5 hs5 ⟨o5',z4,k45,bo5⟩
 have w5:=k45.wf
 have le5:=k45.le
 have z10:aa T5 10=q:=(hs5.at_ 10 zU).trans y10
 have hl5:T5.length=79:=hs5.len.trans hl4
 refine dl (fun T' H'=>∃ o,aa T' 4=o/\Kp H4 H'/\Bq genE ak H4 H' o ((L.map fun r=>(1,r))++R.map fun r=>(Lin.kindOf r,r))) rfl ?_ ?_
 ·refine zW (aD hl5 z10 hq.lenV) ?_
  refine am H4 [4] (fun j vs H'=>∃ o,vs=[o]/\Bq genE ak H4 H' o ((L.map fun r=>(1,r))++(R.take j).map fun r=>(Lin.kindOf r,r))) (a:=0) (N:=R.length) rfl (by refine zW hl5 ?_; rfl) (zV hl5) (TY _) zO (by simp only [TH,hl5]; rfl) rfl (fun j vs H' m ⟨o,q1,q2⟩=>⟨o,q1,q2.mono (ZB H' m)⟩) (k45.up _) ⟨o5',by exact zV (aC hl5 z4),by rw [XN,TV,Vi]; exact bo5.mono (ZB H5 _)⟩ ?_ ?_
  ·rintro j T6 H6 _ hj hl6 hi6 hs6 hk6 ⟨o,hv,ho⟩
   have w6:=hk6.wf
   have le_hk6:=hk6.le
   have le6:=hk6.le
   simp only [TP,TV,TR,and_true] at hv
   have t63:aa T6 63=q:=(hs6.at_ 63 zU).trans (zV (aC hl5 z10))
   obtain ⟨w,hr,hld⟩:=dw ((hq.mono k34.sub).mono hk6.sub) hj
   have hix:=Zv hq .i64 j hj
   have ow:=hr.one
   simp only [TH,hl5] at hl6
   have hm:=TM hj
   refine zW (bS hl6 t63 hi6 hix hld) ?_
   refine Y4 (nf C zF (hr.mono (zG H6)) (smR _ hm)) fun H7 hk7=>?_
   obtain ⟨k67,_,_⟩:=zT H6 zK hk7
   have k47:Kp H4 H7:=hk6.trans k67
   have le_k47:=k47.le
   have w7:=k67.wf
   by_cases h0:0<Lin.hd1 R[j]
   ·have hk3:Lin.kindOf R[j]=3:=by unfold Lin.kindOf; rw [if_pos h0]
    have hs0:(0:Int)<iK (Lin.hd1 R[j]):=(yJ _).2 h0
    obtain ⟨n8,H8,e8,b8,k8,nx8,f8,-⟩:=Y7 (ty2:=ak) (bytes:=32) (id:=H7.next+6) (id2:=H7.next+5) (H:=H7.up 8) (cs:=[.int .u8 3,w]) (a:=(3,R[j])) ((ho.mono k67.sub).mono (ZB H7 8)) zU (k47.up 8) ⟨w,rfl,(hr.mono k67.sub).mono (ZB H7 8)⟩ zO (by rw [da]; omega) (w7.fresh zO) zO (by rw [da]; omega) (w7.fresh zO) zO (by simp; omega) (by simp; omega)
    have e8':cM ((H7.up 8).put (H7.next+5) (.cells [.int .u8 3,w] ak true)) (H7.next+6) 2 32 ak o (.own (H7.next+5) 0 1 1 2 true)=some (.own (H7.next+6) 0 n8 n8 2 false,H8):=e8
    refine zW (aX hl6 hs0 hv e8') ?_
    refine ⟨k8,_,rfl,?_⟩
    rw [TX hj,UK,<- VJ]
    simp only [TP,TV,hk3]
    exact b8
   ·have hk3:Lin.kindOf R[j]=2:=by unfold Lin.kindOf; rw [if_neg h0]
    have hs0:¬ (0:Int)<iK (Lin.hd1 R[j]):=fun h=>h0 ((yJ _).1 h)
    obtain ⟨n8,H8,e8,b8,k8,nx8,f8,-⟩:=Y7 (ty2:=ak) (bytes:=32) (id:=H7.next+5) (id2:=H7.next+4) (H:=H7.up 7) (cs:=[.int .u8 2,w]) (a:=(2,R[j])) ((ho.mono k67.sub).mono (ZB H7 7)) zU (k47.up 7) ⟨w,rfl,(hr.mono k67.sub).mono (ZB H7 7)⟩ zO (by rw [da]; omega) (w7.fresh zO) zO (by rw [da]; omega) (w7.fresh zO) zO (by simp; omega) (by simp; omega)
    have e8':cM ((H7.up 7).put (H7.next+4) (.cells [.int .u8 2,w] ak true)) (H7.next+5) 2 32 ak o (.own (H7.next+4) 0 1 1 2 true)=some (.own (H7.next+5) 0 n8 n8 2 false,H8):=e8
    refine zW (aX hl6 hs0 hv e8') ?_
    refine ⟨k8,_,rfl,?_⟩
    rw [TX hj,UK,<- VJ]
    simp only [TP,TV,hk3]
    exact b8
  ·rintro T6 H6 hl6 hs6 hk6 ⟨o,hv,ho⟩
   simp only [TP,TV,TR,and_true] at hv
   rw [Ur] at ho
   refine zW (aC hl6 @aW) ?_
   exact ⟨o,hv,hk6,ho⟩
 rintro T6 H6 hs6 ⟨o6',a4,k46,bo6⟩
 have hl6:T6.length=79:=hs6.len.trans hl5
 refine WC.wb ?_
 refine zW (aD hl6 @a4 hrs) ?_
 have hG:Lin.gensP n l=(L.map fun r=>(1,r))++R.map fun r=>(Lin.kindOf r,r):=by
  unfold Lin.gensP
  rw [<- hany,hyes,<- hL,<- hR]
  rfl
 rw [hG]
 exact ⟨bo6.sl,k4.trans k46⟩
end
section
variable {tab:Nat->Option aw} {H:Heap} {s:AV}
theorem wq (C:Code tab) (hw:Wf H) {a b:AV} {l m:List Nat} (ha:Lb H a l) (hb:Lb H b m) (hl':l.length<4611686018427387904) :
  Ans tab (.fn cY [a,b]) H fun v H'=>v=.bool (decide (l=m))/\Kp H H':=by
 refine bz C.q118 zU fun T hl g0 g1=>?_
 by_cases he:l.length=m.length
 ·have lb:lenV b=some (.int .i64 (l.length:Int)):=by rw [hb.lenV,he]
  refine zW (bS hl g0 g1 ha.lenV lb) ?_
  refine am H [] (fun j _ _=>∀ q (h:q<l.length) (h':q<m.length),q<j->l[q]=m[q]) (a:=0) (N:=l.length) rfl (by refine zW (aD hl g0 g1) ?_; rfl) (zV (aD hl g0 g1)) (TY _) zO (by simp only [TH,hl]; rfl) rfl (fun _ _ _ _ h=>h) zK (fun q _ _ h=>by omega) ?_ ?_
  ·intro i T1 H1 _ hi hl1 hi1 hs1 hk1 hP
   have w1:=hk1.wf
   have le_hk1:=hk1.le
   have t0:aa T1 0=a:=(hs1.at_ 0 zU).trans (zV (aC hl g0))
   have t1:aa T1 1=b:=(hs1.at_ 1 zU).trans (zV (aX hl g0 g1 g1))
   have hi':i<m.length:=by omega
   obtain ⟨w,hr,hld⟩:=Zt (ha.mono hk1.sub) (TL hi)
   obtain ⟨w',hr',hld'⟩:=Zt (hb.mono hk1.sub) (TL hi')
   have hr:w=.int .u64 ((l[i]:Nat):Int):=hr
   have hr':w'=.int .u64 ((m[i]:Nat):Int):=hr'
   subst hr; subst hr'
   have hix:=Zv ha .i64 i hi
   have hix':=Zv hb .i64 i hi'
   simp only [TH,hl] at hl1
   refine zW (aX hl1 t0 t1 hi1) ?_
   refine aI ?_
   by_cases hq:l[i]=m[i]
   ·have hq':((l[i]:Nat):Int)=((m[i]:Nat):Int):=by omega
    refine zD (lA hl1 t0 t1 hix hld hix' hld' hq') ?_
    refine ⟨zK,fun q h h' hqi=>?_⟩
    by_cases eq:q=i
    ·subst eq; exact hq
    ·exact hP q h h' zO
   ·have hq':¬ ((l[i]:Nat):Int)=((m[i]:Nat):Int):=by omega
    refine zD (ko hl1 t0 t1 hix hld hix' hld' hq' hq) ?_
    refine ⟨?_,zK⟩
    rw [decide_eq_false]
    intro e; subst e; exact hq rfl
  ·intro T1 H1 hl1 hs1 hk1 hP
   simp only [TH,hl] at hl1
   refine zW hl1 ?_
   exact ⟨by rw [decide_eq_true (iV he fun q h h'=>hP q h h' h)],zK⟩
 ·have he':¬ (l.length:Int)=(m.length:Int):=by omega
  refine zW (gh hl g0 g1 ha.lenV hb.lenV he' he) ?_
  refine ⟨?_,zK⟩
  rw [decide_eq_false]
  intro e; subst e; exact he rfl
theorem Gj (C:Code tab) (hw:Wf H) {a b:AV} {x y:Int} (ha:IntV H a x) (hb:IntV H b y) (hx:eY x) :
  Ans tab (.fn jf [a,b]) H fun v H'=>v=.bool (decide (x=y))/\Kp H H':=by
 obtain ⟨p,rfl,hp⟩:=ha
 obtain ⟨q,rfl,hq⟩:=hb
 have op:=hp.one
 have oq:=hq.one
 unfold eY Sm at hx
 refine bz C.q92 zU fun T hl g0 g1=>?_
 by_cases h:decide (x<0)=decide (y<0)
 ·have h':(decide (x<0) == decide (y<0))=true:=by rw [h]; simp
  refine zW (aX hl g0 g1 h') ?_
  refine Y4 (wq C zF (hp.mono (zG H)) (hq.mono (zG H)) zO) fun H2 hk2=>?_
  obtain ⟨k2,_,_⟩:=zT H zK hk2
  refine zW (aD hl g0 g1) ?_
  refine ⟨?_,zK⟩
  by_cases e:x=y
  ·rw [decide_eq_true e,decide_eq_true (by rw [e])]
  ·rw [decide_eq_false e,decide_eq_false]
   intro h2
   have:=B2 h2
   have h3:(x<0) ↔ (y<0):=by simpa using h
   omega
 ·have h':(decide (x<0) == decide (y<0))=false:=by simpa using h
  refine zW (aX hl g0 g1 h') ?_
  refine ⟨?_,zK⟩
  rw [decide_eq_false]
  intro e; subst e; exact h rfl
theorem y8 (C:Code tab) (hw:Wf H) {a b:AV} {l m:List Int} (ha:RowV H a l) (hb:RowV H b m) (hbig:l.length<1099511627776) (hz:∀ z∈l,eY z) :
  Ans tab (.fn tK [a,b]) H fun v H'=>v=.bool (decide (l=m))/\Kp H H':=by
 have key:∀ {H:Heap},Wf H->RowV H a l->RowV H b m->Ans tab (.fn bi [a,b,.fn (.func jf) [] []]) H fun v H'=>v=.bool (decide (l=m))/\Kp H H':=by
  intro H hw ha hb
  refine nd C.q91 zU fun T hl g0 g1 g2=>?_
  by_cases he:l.length=m.length
  ·have lb:lenV b=some (.int .i64 (l.length:Int)):=by rw [hb.lenV,he]
   refine zW (dV hl g0 g1 g2 ha.lenV lb) ?_
   refine am H [] (fun j _ _=>∀ q (h:q<l.length) (h':q<m.length),q<j->l[q]=m[q]) (a:=0) (N:=l.length) rfl (by refine zW (aX hl g0 g1 g2) ?_; rfl) (zV (aX hl g0 g1 g2)) (TY _) zO (by simp only [TH,hl]; rfl) rfl (fun _ _ _ _ h=>h) zK (fun q _ _ h=>by omega) ?_ ?_
   ·intro j T1 H1 _ hj hl1 hi1 hs1 hk1 hP
    have w1:=hk1.wf
    have le_hk1:=hk1.le
    have hj2:j<m.length:=by omega
    have t15:aa T1 15=a:=(hs1.at_ 15 zU).trans (zV (aC hl g0))
    have t1:aa T1 1=b:=(hs1.at_ 1 zU).trans (zV (bS hl g0 g1 g2 g1))
    have t2:aa T1 2=.fn (.func jf) [] []:=(hs1.at_ 2 zU).trans (zV (bS hl g0 g1 g2 g2))
    obtain ⟨w,hn,L0,hix⟩:=nD w1 (ha.mono hk1.sub) hj
    obtain ⟨u,hu,L,hiy⟩:=nD w1 (hb.mono hk1.sub) hj2
    have ow:=hn.one
    have ou:=hu.one
    have Lp0:=L0.put
    have Ll0:=L0.ld
    have Lp:=L.put
    have Ll:=L.ld
    simp only [TH,hl] at hl1
    refine zW (oF hl1 t15 t1 t2 hi1 hix Lp0 Ll0 hiy Lp Ll) ?_
    refine Y4 (Gj C (x:=l[j]) (y:=m[j]) zF ⟨w,rfl,hn.mono (zG H1)⟩ ⟨u,rfl,hu.mono (zG H1)⟩ (hz _ (TM hj))) fun H2 hk2=>?_
    obtain ⟨k2,_,_⟩:=zT H zK hk2
    cases hq:decide (l[j]=m[j]) with
    | true =>
     have hq:=of_decide_eq_true hq
     refine zW hl1 ?_
     refine ⟨zK,fun q h h' hqi=>?_⟩
     by_cases e:q=j
     ·subst e; exact hq
     ·exact hP q h h' zO
    | false =>
     have hq:=of_decide_eq_false hq
     refine zW hl1 ?_
     refine ⟨?_,zK⟩
     rw [decide_eq_false]
     intro e; subst e; exact hq rfl
   ·intro T1 H1 hl1 hs1 hk1 hP
    simp only [TH,hl] at hl1
    refine zW hl1 ?_
    exact ⟨by rw [decide_eq_true (iV he fun q h h'=>hP q h h' h)],zK⟩
  ·have he':¬ (l.length:Int)=(m.length:Int):=by omega
   refine zW (lA hl g0 g1 g2 ha.lenV hb.lenV he' he) ?_
   refine ⟨?_,zK⟩
   rw [decide_eq_false]
   intro e; subst e; exact he rfl
 refine bz C.q66 zU fun T hl g0 g1=>?_
 refine zW (aD hl g0 g1) ?_
 refine Y4 (key zF (ha.mono (zG H)) (hb.mono (zG H))) fun H2 hk2=>?_
 obtain ⟨k2,_,_⟩:=zT H zK hk2
 refine zW (aD hl g0 g1) ?_
 exact zK
end
section
open Lin
variable {n:Nat} {g:List (Nat × V)}
theorem Hj {j:Nat} (hj:j<g.length):linesOf (g.take (j+1))=if g[j].1=1 then linesOf (g.take j)++[g[j].2] else linesOf (g.take j):=by
 rw [TX hj]
 unfold linesOf
 rw [U9,UK]
 by_cases h:g[j].1=1 <;> simp [h]
theorem J2 {j:Nat} (hj:j<g.length):raysOf (g.take (j+1))=if g[j].1=1 then raysOf (g.take j) else raysOf (g.take j)++[g[j].2]:=by
 rw [TX hj]
 unfold raysOf
 rw [U9,UK]
 by_cases h:g[j].1=1 <;> simp [h]
theorem JM {j:Nat} (hj:j<g.length):(g.take (j+1)).any (fun x=>x.1 == 3)=((g.take j).any (fun x=>x.1 == 3) || g[j].1 == 3):=by
 rw [TX hj,List.any_append]
 simp
theorem E3 (g:List (Nat × V)):(linesOf g).length<=g.length:=by
 unfold linesOf
 rw [TT]
 exact U7 _ _
theorem rays_le (g:List (Nat × V)):(raysOf g).length<=g.length:=by
 unfold raysOf
 rw [TT]
 exact U7 _ _
theorem BZ {x:V} (h:x∈raysOf g):∃ y∈g,y.2=x:=by
 obtain ⟨k,-,h⟩:=mem_rays.1 h
 exact ⟨_,h,rfl⟩
end
section
variable {tab:Nat->Option aw} {H:Heap} {s:AV}
set_option maxHeartbeats 4000000 in
theorem Cc (C:Code tab) (hw:Wf H) {n m:Nat} {g:List (Nat × List Int)} (hs:SlV genE ak H s g) (hn:n<=4) (hlen:g.length<=1023) (hcnt:g.length^n<1099000000000) (hrow:∀ x∈g,x.2.length=n+1/\Lin.Bd (2^m) x.2) (hm:m<=300000) :
  Ans tab (.fn qY [.int .i64 (n:Int),s]) H fun v H'=>SlV conE t_api_Con H' v (Lin.consP n g)/\Kp H H':=by
 refine BA C.q46 rfl rfl zU fun T hl g'=>?_
 have hl:T.length=84:=hl
 have hrs:c_dual_cons.results=[(4,none)]:=rfl
 have g0:aa T 0=.int .i64 (n:Int):=g' 0 (by simp)
 have g1:aa T 1=s:=g' 1 (by simp)
 refine aP ?_
 refine zW (aC hl @au) ?_
 refine aP ?_
 refine zW (aC hl @au) ?_
 refine aP ?_
 refine zW (aC hl @au) ?_
 refine dl (fun T' H'=>∃ o5 o6,aa T' 5=o5/\aa T' 6=o6/\aa T' 7=.bool (g.any fun x=>x.1 == 3)/\Kp H H'/\dQ H' o5 (Lin.linesOf g)/\dQ H' o6 (Lin.raysOf g)) rfl ?_ ?_
 ·refine zW (aD hl g1 hs.lenV) ?_
  refine am H [5,6,7] (fun j vs H'=>∃ o5 o6,vs=[o5,o6,.bool ((g.take j).any fun x=>x.1 == 3)]/\Bq rowsE af H H' o5 (Lin.linesOf (g.take j))/\Bq rowsE af H H' o6 (Lin.raysOf (g.take j))/\Sep o5 o6) (a:=0) (N:=g.length) rfl (by refine zW hl ?_; rfl) (zV hl) (TY _) zO (by simp only [TH,hl]; rfl) rfl (fun j vs H' m ⟨o5,o6,q1,q2,q3,q4⟩=>⟨o5,o6,q1,q2.mono (ZB H' m),q3.mono (ZB H' m),q4⟩) zK ⟨.nilSl,.nilSl,by refine zW hl ?_; rfl,Bq.nil,Bq.nil,fun b h=>by cases h⟩ ?_ ?_
  ·rintro j T2 H2 _ hj hl2 hi2 hs2 hk2 ⟨o5,o6,hv,bq5,bq6,hsep⟩
   have w2:=hk2.wf
   have le_hk2:=hk2.le
   have le2:=hk2.le
   simp only [TP,TV,TR,and_true] at hv
   obtain ⟨v5,v6,v7⟩:=hv
   have t17:aa T2 17=s:=(hs2.at_ 17 zU).trans (zV (aC hl g1))
   obtain ⟨cs,⟨w,rfl,hr⟩,hlen',-,hld⟩:=(hs.mono hk2.sub).at (TL hj)
   have hix:cw 2 s (.int .i64 (j:Int))=some (az s (j*2)):=Zu hs .i64 j hj
   have hld:bg H2 (some 2) (az s (j*2))=some (.agg [.int .u8 (g[j].1:Int),w]):=hld
   have ow:=hr.one
   simp only [TH,hl] at hl2
   have he:=Hj (g:=g) hj
   have hi:=J2 (g:=g) hj
   have hso:=JM (g:=g) hj
   have l5:=E3 (g.take j)
   have l6:=rays_le (g.take j)
   rw [Un] at l5 l6
   have main:∀ K:Nat,6<=K->∃ Hx,Hx=((H2.up K).put (H2.next+2) (.cells [.int .u8 0,.nilSl] ak true)).put (H2.next+2) (.cells [.int .u8 (g[j].1:Int),w] ak true)/\Kp H2 Hx/\Hx.next=H2.next+K/\(∀ c,H2.next<=c->c≠H2.next+2->Hx.get c=none):=fun K hK=>by
    refine ⟨_,rfl,zK,rfl,fun c h1 h2=>?_⟩
    rw [aA h2,aA h2]; exact w2.fresh h1
   by_cases c1:g[j].1=1
   ·have c1':(g[j].1:Int)=1:=by omega
    rw [c1'] at hld
    obtain ⟨Hx,hHx,kx,nx,fx⟩:=main 14 zO
    rw [c1'] at hHx
    obtain ⟨n6,H6,e6,b6,k6,nx6,f6,-⟩:=Y7 (ty2:=af) (bytes:=24) (id:=H2.next+12) (id2:=H2.next+11) (cs:=[w]) (a:=g[j].2) (bq5.mono kx.sub) zU (hk2.trans kx) ⟨w,rfl,hr.mono kx.sub⟩ zO zO (fx _ zO zO) zO zO (fx _ zO zO) zO zO zO
    have e6':cM ((((H2.up 14).put (H2.next+2) (.cells [.int .u8 0,.nilSl] ak true)).put (H2.next+2) (.cells [.int .u8 1,w] ak true)).put (H2.next+11) (.cells [w] af true)) (H2.next+12) 1 24 af o5 (.own (H2.next+11) 0 1 1 1 true)=some (.own (H2.next+12) 0 n6 n6 1 false,H6):=by rw [hHx] at e6; exact e6
    refine zW (ko hl2 t17 hi2 hix hld v5 v6 v7 e6') ?_
    have c13:(g[j].1 == 3)=false:=by rw [c1]; rfl
    rw [hso,c13,Yg]
    refine ⟨k6,.own (H2.next+12) 0 n6 n6 1 false,o6,rfl,?_,?_,?_⟩
    ·rw [he,if_pos c1]; exact b6
    ·rw [hi,if_pos c1]; exact f6.bq (bq5.mono kx.sub) (bq6.mono kx.sub) hsep zU
    ·intro b h1 h2
     have:=bq6.lt w2 h2
     cases h1
     omega
   have c1':¬ (g[j].1:Int)=1:=by omega
   have c1b:(g[j].1 == 1)=false:=by simpa using c1
   by_cases c3:g[j].1=3
   ·have c3':(g[j].1:Int)=3:=by omega
    rw [c3'] at hld
    obtain ⟨Hx,hHx,kx,nx,fx⟩:=main 17 zO
    rw [c3'] at hHx
    obtain ⟨n6,H6,e6,b6,k6,nx6,f6,-⟩:=Y7 (ty2:=af) (bytes:=24) (id:=H2.next+15) (id2:=H2.next+14) (cs:=[w]) (a:=g[j].2) (bq6.mono kx.sub) zU (hk2.trans kx) ⟨w,rfl,hr.mono kx.sub⟩ zO zO (fx _ zO zO) zO zO (fx _ zO zO) zO zO zO
    have e6':cM ((((H2.up 17).put (H2.next+2) (.cells [.int .u8 0,.nilSl] ak true)).put (H2.next+2) (.cells [.int .u8 3,w] ak true)).put (H2.next+14) (.cells [w] af true)) (H2.next+15) 1 24 af o6 (.own (H2.next+14) 0 1 1 1 true)=some (.own (H2.next+15) 0 n6 n6 1 false,H6):=by rw [hHx] at e6; exact e6
    refine zW (ko hl2 t17 hi2 hix hld v5 v6 v7 e6') ?_
    have c13:(g[j].1 == 3)=true:=by rw [c3]; rfl
    rw [hso,c13,XL]
    refine ⟨k6,o5,.own (H2.next+15) 0 n6 n6 1 false,rfl,?_,?_,?_⟩
    ·rw [he,if_neg c1]; exact f6.bq (bq6.mono kx.sub) (bq5.mono kx.sub) hsep.symm zU
    ·rw [hi,if_neg c1]; exact b6
    ·intro b h1 h2
     have:=bq5.lt w2 h1
     cases h2
     omega
   ·have c3':¬ (g[j].1:Int)=3:=by omega
    have c3b:(g[j].1 == 3)=false:=by simpa using c3
    obtain ⟨Hx,hHx,kx,nx,fx⟩:=main 16 zO
    obtain ⟨n6,H6,e6,b6,k6,nx6,f6,-⟩:=Y7 (ty2:=af) (bytes:=24) (id:=H2.next+14) (id2:=H2.next+13) (cs:=[w]) (a:=g[j].2) (bq6.mono kx.sub) zU (hk2.trans kx) ⟨w,rfl,hr.mono kx.sub⟩ zO zO (fx _ zO zO) zO zO (fx _ zO zO) zO zO zO
    have e6':cM ((((H2.up 16).put (H2.next+2) (.cells [.int .u8 0,.nilSl] ak true)).put (H2.next+2) (.cells [.int .u8 (g[j].1:Int),w] ak true)).put (H2.next+13) (.cells [w] af true)) (H2.next+14) 1 24 af o6 (.own (H2.next+13) 0 1 1 1 true)=some (.own (H2.next+14) 0 n6 n6 1 false,H6):=by rw [hHx] at e6; exact e6
    refine zW (oF hl2 t17 hi2 hix hld v5 v6 v7 e6' c1' c3') ?_
    rw [hso,c3b,Yg]
    refine ⟨k6,o5,.own (H2.next+14) 0 n6 n6 1 false,rfl,?_,?_,?_⟩
    ·rw [he,if_neg c1]; exact f6.bq (bq6.mono kx.sub) (bq5.mono kx.sub) hsep.symm zU
    ·rw [hi,if_neg c1]; exact b6
    ·intro b h1 h2
     have:=bq5.lt w2 h1
     cases h2
     omega
  ·rintro T2 H2 hl2 hs2 hk2 ⟨o5,o6,hv,bq5,bq6,hsep⟩
   simp only [TP,TV,TR,and_true] at hv
   rw [Ur] at bq5 bq6 hv
   refine zW (aC hl2 @aW) ?_
   exact ⟨o5,o6,hv.1,hv.2.1,hv.2.2,hk2,bq5.sl,bq6.sl⟩
 rintro T2 H2 hs2 ⟨o5,o6,v5,v6,v7,k2,r5,r6⟩
 have w2:=k2.wf
 have le2:=k2.le
 have u0:aa T2 0=.int .i64 (n:Int):=(hs2.at_ 0 zU).trans (zV (aC hl g0))
 have u4:aa T2 4=.nilSl:=(hs2.at_ 4 zU).trans (zV hl)
 have hl2:T2.length=84:=hs2.len.trans (by simp only [TH]; exact hl)
 refine dl (fun T' H'=>Kp H2 H'/\aa T' 4=.nilSl/\(g.any fun x=>x.1 == 3)=true) rfl ?_ ?_
 ·cases hc:g.any fun x=>x.1 == 3 with
  | true =>
   rw [hc] at v7
   refine zW (aX hl2 v7 u4 @aW) ?_
   exact zK
  | false =>
   rw [hc] at v7
   refine zW (aD hl2 v7 u0) ?_
   refine Y5 (xc C (n:=n) (k:=-1) zF zO zO zO) ?_
   rintro v H3 ⟨hr,hk3⟩
   obtain ⟨k23,_,_⟩:=zT H2 zK hk3
   have k3:Kp H H3:=k2.trans k23
   have le_k3:=k3.le
   have w3:=k3.wf
   have ov:=hr.one
   have n3:H2.next+7<=H3.next:=hk3.le
   have f3:H3.get (H2.next+5)=none:=hk3.free (show H2.next+5<H2.next+7 by omega) (w2.fresh (b:=H2.next+5) zO)
   refine zW (aX hl2 (yP ov) @vp hrs) ?_
   refine ⟨?_,zK⟩
   have e:Lin.consP n g=[(Lin.unitC n (-1),false)]:=by unfold Lin.consP; rw [if_neg (by rw [hc]; decide)]
   rw [e]
   obtain ⟨Hx,hHx⟩:∃ Hx,Hx=H3.put (H2.next+5) (.cells [v,.bool false] t_api_Con true):=⟨_,rfl⟩
   have sx:Sub H3 Hx:=by rw [hHx]; exact aH f3
   have:Own conE t_api_Con H Hx (H2.next+5) true (.own (H2.next+5) 0 1 1 2 true) [(Lin.unitC n (-1),false)]:=⟨[v,.bool false],rfl,by rw [hHx]; exact aq _ _ _,Za (E:=conE) ⟨v,rfl,hr.mono sx⟩,by omega⟩
   rw [<- hHx]
   exact this.sl
 rintro T3 H3 hs3 ⟨k23,x4,hyes⟩
 have k3:Kp H H3:=k2.trans k23
 have le_k3:=k3.le
 have w3:=k3.wf
 have le3:=k3.le
 have x0:aa T3 0=.int .i64 (n:Int):=(hs3.at_ 0 zU).trans u0
 have x5:aa T3 5=o5:=(hs3.at_ 5 zU).trans v5
 have x6:aa T3 6=o6:=(hs3.at_ 6 zU).trans v6
 have hl3:T3.length=84:=hs3.len.trans hl2
 have hE:∀ a∈Lin.linesOf g,a.length=n+1/\Lin.Bd (2^m) a:=fun a ha=>hrow _ (Lin.mem_lines.1 ha)
 have hI:∀ a∈Lin.raysOf g,a.length=n+1/\Lin.Bd (2^m) a:=fun a ha=>by
  obtain ⟨y,hy,rfl⟩:=BZ ha
  exact hrow _ hy
 have lE:=E3 g
 have lI:=rays_le g
 obtain ⟨c1,c2⟩:=ux (d:=n+1) (m:=m) zO zO hE hI
 have hT:=Lin.gens_told (d:=n+1) (fun a ha=>(hE a ha).1) (fun a ha=>(hI a ha).1)
 have lL:=ech_len hT.form
 have hcI:(Lin.raysOf g).length^n<1099000000000:=UW (V3 lI n) hcnt
 have lR:(Lin.gensR (n+1) (Lin.linesOf g) (Lin.raysOf g)).length<=1099000000000:=by
  have:=hT.dd.count3 (fun a ha=>(hI a ha).1)
  simp only [VP] at this
  omega
 obtain ⟨L,hL⟩:∃ L,L=Lin.gensL (n+1) (Lin.linesOf g) (Lin.raysOf g):=⟨_,rfl⟩
 obtain ⟨R,hR⟩:∃ R,R=Lin.gensR (n+1) (Lin.linesOf g) (Lin.raysOf g):=⟨_,rfl⟩
 have lnR:∀ r∈R,r.length=n+1:=fun r hr=>by rw [hR] at hr; exact (c2 r hr).1
 have smR:∀ r∈R,∀ z∈r,eY z:=fun r hr z hz=>by
  rw [hR] at hr
  exact (kn (c2 r hr).2 z hz).sm zO
 have ej:IntKind.i64.wrap ((n:Int)+1)=((n+1:Nat):Int):=by rw [wrap_i64] <;> omega
 refine dl (fun T' H'=>∃ p q,aa T' 10=p/\aa T' 11=q/\Kp H H'/\dQ H' p L/\dQ H' q R) rfl ?_ ?_
 ·refine zW (bS hl3 x0 x5 x6 ej) ?_
  refine Y5 (AI C (d:=n+1) (m:=m) zF ((r5.mono k23.sub).mono (zG H3)) ((r6.mono k23.sub).mono (zG H3)) zO zO zO zO (by simpa using hcI) hE hI hm) ?_
  rintro v H4 ⟨p,q,rfl,hp,hq,hk4⟩
  obtain ⟨k34,_,_⟩:=zT H3 zK hk4
  have k4:Kp H H4:=k3.trans k34
  have le_k4:=k4.le
  refine zW (aC hl3 @aW) ?_
  rw [hL,hR]
  exact ⟨p,q,rfl,rfl,zK,hp,hq⟩
 rintro T4 H4 hs4 ⟨p,q,y10,y11,k4,hp,hq⟩
 have w4:=k4.wf
 have le4:=k4.le
 have y0:aa T4 0=.int .i64 (n:Int):=(hs4.at_ 0 zU).trans x0
 have y4:aa T4 4=.nilSl:=(hs4.at_ 4 zU).trans x4
 have hl4:T4.length=84:=hs4.len.trans hl3
 rw [<- hL] at lL
 rw [<- hR] at lR
 refine dl (fun T' H'=>∃ o,aa T' 4=o/\Kp H4 H'/\Bq conE t_api_Con H4 H' o (L.map fun r=>(r,true))) rfl ?_ ?_
 ·refine zW (aD hl4 y10 hp.lenV) ?_
  refine am H4 [4] (fun j vs H'=>∃ o,vs=[o]/\Bq conE t_api_Con H4 H' o ((L.take j).map fun r=>(r,true))) (a:=0) (N:=L.length) rfl (by refine zW hl4 ?_; rfl) (zV hl4) (TY _) zO (by simp only [TH,hl4]; rfl) rfl (fun j vs H' m ⟨o,q1,q2⟩=>⟨o,q1,q2.mono (ZB H' m)⟩) (Kp.up (Zg w4) _) ⟨.nilSl,by exact zV (aC hl4 y4),Bq.nil⟩ ?_ ?_
  ·rintro j T5 H5 _ hj hl5 hi5 hs5 hk5 ⟨o,hv,ho⟩
   have w5:=hk5.wf
   have le_hk5:=hk5.le
   have le5:=hk5.le
   simp only [TP,TV,TR,and_true] at hv
   have t55:aa T5 55=p:=(hs5.at_ 55 zU).trans (zV (aC hl4 y10))
   obtain ⟨w,hr,hld⟩:=dw (hp.mono hk5.sub) hj
   have hix:=Zv hp .i64 j hj
   have ow:=hr.one
   simp only [TH,hl4] at hl5
   obtain ⟨n6,H6,e6,b6,k6,nx6,f6,-⟩:=Y7 (ty2:=t_api_Con) (bytes:=32) (id:=H5.next+7) (id2:=H5.next+6) (H:=H5.up 9) (cs:=[w,.bool true]) (a:=(L[j],true)) (ho.mono (ZB H5 9)) zU (hk5.up 9) ⟨w,rfl,hr.mono (ZB H5 9)⟩ zO (by rw [da]; omega) (w5.fresh zO) zO (by rw [da]; omega) (w5.fresh zO) zO (by simp; omega) (by simp; omega)
   have e6':cM ((H5.up 9).put (H5.next+6) (.cells [w,.bool true] t_api_Con true)) (H5.next+7) 2 32 t_api_Con o (.own (H5.next+6) 0 1 1 2 true)=some (.own (H5.next+7) 0 n6 n6 2 false,H6):=e6
   refine zW (gh hl5 t55 hi5 hix hld hv e6') ?_
   refine ⟨k6,_,rfl,?_⟩
   rw [TX hj,UK]
   exact b6
  ·rintro T5 H5 hl5 hs5 hk5 ⟨o,hv,ho⟩
   simp only [TP,TV,TR,and_true] at hv
   rw [Ur] at ho
   refine zW (aC hl5 @aW) ?_
   exact ⟨o,hv,hk5,ho⟩
 rintro T5 H5 hs5 ⟨o5',z4,k45,bo5⟩
 have w5:=k45.wf
 have le5:=k45.le
 have z0:aa T5 0=.int .i64 (n:Int):=(hs5.at_ 0 zU).trans y0
 have z11:aa T5 11=q:=(hs5.at_ 11 zU).trans y11
 have hl5:T5.length=84:=hs5.len.trans hl4
 refine dl (fun T' H'=>∃ o,aa T' 4=o/\Kp H4 H'/\Bq conE t_api_Con H4 H' o ((L.map fun r=>(r,true))++(R.filter fun r=>!decide (r=Lin.unitC n 1)).map fun r=>(r,false))) rfl ?_ ?_
 ·refine zW (aD hl5 z11 hq.lenV) ?_
  refine am H4 [4] (fun j vs H'=>∃ o,vs=[o]/\Bq conE t_api_Con H4 H' o ((L.map fun r=>(r,true))++((R.take j).filter fun r=>!decide (r=Lin.unitC n 1)).map fun r=>(r,false))) (a:=0) (N:=R.length) rfl (by refine zW hl5 ?_; rfl) (zV hl5) (TY _) zO (by simp only [TH,hl5]; rfl) rfl (fun j vs H' m ⟨o,q1,q2⟩=>⟨o,q1,q2.mono (ZB H' m)⟩) (k45.up _) ⟨o5',by exact zV (aC hl5 z4),by rw [XN,WQ,TV,Vi]; exact bo5.mono (ZB H5 _)⟩ ?_ ?_
  ·rintro j T6 H6 _ hj hl6 hi6 hs6 hk6 ⟨o,hv,ho⟩
   have w6:=hk6.wf
   have le_hk6:=hk6.le
   have le6:=hk6.le
   simp only [TP,TV,TR,and_true] at hv
   have t0:aa T6 0=.int .i64 (n:Int):=(hs6.at_ 0 zU).trans (zV (aC hl5 z0))
   have t67:aa T6 67=q:=(hs6.at_ 67 zU).trans (zV (aC hl5 z11))
   obtain ⟨w,hr,hld⟩:=dw (hq.mono hk6.sub) hj
   have hix:=Zv hq .i64 j hj
   have ow:=hr.one
   simp only [TH,hl5] at hl6
   have hm:=TM hj
   refine zW (dV hl6 t0 t67 hi6 hix hld) ?_
   refine Y5 (xc C (n:=n) (k:=1) zF zO zO zO) ?_
   rintro v H7 ⟨hu,hk7⟩
   obtain ⟨k67,_,_⟩:=zT H6 zK hk7
   have k47:Kp H4 H7:=hk6.trans k67
   have le_k47:=k47.le
   have w7:=k67.wf
   refine zW hl6 ?_
   refine Y4 (y8 C zF ((hr.mono k67.sub).mono (zG H7)) (hu.mono (zG H7)) (by rw [lnR _ hm]; omega) (smR _ hm)) fun H8 hk8=>?_
   obtain ⟨k78,_,_⟩:=zT H7 zK hk8
   have k48:Kp H4 H8:=k47.trans k78
   have le_k48:=k48.le
   have k68:Kp H6 H8:=k67.trans k78
   have le_k68:=k68.le
   have w8:=k48.wf
   by_cases hq1:R[j]=Lin.unitC n 1
   ·refine zW (aD hl6 hv hq1) ?_
    refine ⟨k48,_,rfl,?_⟩
    rw [TX hj,U9]
    simp only [hq1,VS,WQ,decide_true,W4,UN,if_false,Vi]
    exact ho.mono k68.sub
   ·have lf:((R.take j).filter fun r=>!decide (r=Lin.unitC n 1)).length<=R.length:=Ub (U7 _ _) (by rw [Un]; omega)
    obtain ⟨n8,H9,e8,b8,k8,nx8,f8,-⟩:=Y7 (ty2:=t_api_Con) (bytes:=32) (id:=H8.next+4) (id2:=H8.next+3) (H:=H8.up 6) (cs:=[w,.bool false]) (a:=(R[j],false)) ((ho.mono k68.sub).mono (ZB H8 6)) zU (k48.up 6) ⟨w,rfl,(hr.mono k68.sub).mono (ZB H8 6)⟩ zO (by rw [da]; omega) (w8.fresh zO) zO (by rw [da]; omega) (w8.fresh zO) zO (by rw [T9,TT,TT]; omega) (by rw [T9,TT,TT]; omega)
    have e8':cM ((H8.up 6).put (H8.next+3) (.cells [w,.bool false] t_api_Con true)) (H8.next+4) 2 32 t_api_Con o (.own (H8.next+3) 0 1 1 2 true)=some (.own (H8.next+4) 0 n8 n8 2 false,H9):=e8
    refine zW (bS hl6 hv hq1 e8' (yP ow)) ?_
    refine ⟨k8,_,rfl,?_⟩
    rw [TX hj,U9]
    simp only [VS,WQ,hq1,decide_false,XO,if_true,UK,TP,TV,<- VJ]
    exact b8
  ·rintro T6 H6 hl6 hs6 hk6 ⟨o,hv,ho⟩
   simp only [TP,TV,TR,and_true] at hv
   rw [Ur] at ho
   refine zW (aC hl6 @aW) ?_
   exact ⟨o,hv,hk6,ho⟩
 rintro T6 H6 hs6 ⟨o6',a4,k46,bo6⟩
 have hl6:T6.length=84:=hs6.len.trans hl5
 refine WC.wb ?_
 refine zW (aD hl6 @a4 hrs) ?_
 have hG:Lin.consP n g=(L.map fun r=>(r,true))++(R.filter fun r=>!decide (r=Lin.unitC n 1)).map fun r=>(r,false):=by
  unfold Lin.consP
  rw [if_pos hyes,<- hL,<- hR]
 rw [hG]
 exact ⟨bo6.sl,k4.trans k46⟩
end
theorem nt {x y z a b c:AV} {ty:Nat} (ha:One a) (hb:One b) (hc:One c):Eo (some (.cells [x,y,z] ty true)) 3 0 (.agg [a,b,c])=some (.cells [a,b,c] ty true):=by
 simpa using jd (cs:=[x,y,z]) (vs:=[a,b,c]) (ty:=ty) (n:=3) (o:=0) (v:=.agg [a,b,c]) ⟨rfl,rfl,by simp [ha.2,hb.2,hc.2]⟩ (by simp)
theorem RD {x y z a b c:AV} (ha:One a) (hb:One b) (hc:One c):ip [x,y,z] [((0,1),a),((1,1),b),((2,1),c)]=some (.agg [a,b,c]):=by
 simp [ip,cV,ha.1,ha.2,hb.1,hb.2,hc.1,hc.2]
section
variable {H:Heap} {s:AV}
theorem FA {ty:Nat} {l:List (List Int × Bool)} (h:SlV conE ty H s l):SlV conQE ty H s (l.map fun c=>(c.1.map eS,c.2)):=by
 obtain ⟨cells,hr,ht,hc,ha⟩:=h
 refine ⟨cells,hr,ht,by rw [hc,TT]; rfl,fun i a hi=>?_⟩
 rw [UM,TU] at hi
 obtain ⟨z,hz,rfl⟩:=hi
 obtain ⟨w,h1,h2⟩:=ha i z hz
 exact ⟨w,h1,h2.raw⟩
theorem Fg {ty:Nat} {l:List (Nat × List Int)} (h:SlV genE ty H s l):SlV genQE ty H s (l.map fun c=>(c.1,c.2.map eS)):=by
 obtain ⟨cells,hr,ht,hc,ha⟩:=h
 refine ⟨cells,hr,ht,by rw [hc,TT]; rfl,fun i a hi=>?_⟩
 rw [UM,TU] at hi
 obtain ⟨z,hz,rfl⟩:=hi
 obtain ⟨w,h1,h2⟩:=ha i z hz
 exact ⟨w,h1,h2.raw⟩
end
theorem Hm (z:Int):fE (eS z)=z:=by
 unfold fE eS
 simp only [bF]
 by_cases h:z<0
 ·simp [h]; omega
 ·simp [h]; omega
theorem Nj (l:List Int):(l.map eS).map fE=l:=by
 rw [VX]
 conv=>rhs; rw [<- XA l]
 exact Vz fun z _=>Hm z
section
open Lin
variable {n m:Nat}
theorem oX {l:List (V × Bool)} (hn:n<=5) (h:∀ c∈l,c.1.length=n+1/\Bd (2^m) c.1):∀ x∈gensP n l,x.2.length=n+1/\Bd (2^(64*(m+4))) x.2:=fun x hx=>by
 have hE:∀ a∈eqsOf l,a.length=n+1/\Bd (2^m) a:=fun a ha=>h _ (mem_eqs.1 ha)
 have hI:∀ a∈ineqsOf n l,a.length=n+1/\Bd (2^m) a:=fun a ha=>by
  rcases mem_ineqs.1 ha with rfl | ha
  ·exact ⟨unitC_len n 1,Im n m⟩
  ·exact h _ ha
 obtain ⟨c1,c2⟩:=ux (d:=n+1) (m:=m) zO zO hE hI
 unfold gensP at hx
 split at hx
 ·rcases Uc.1 hx with hx | hx
  ·obtain ⟨r,hr,rfl⟩:=TN.1 hx
   exact c1 r hr
  ·obtain ⟨r,hr,rfl⟩:=TN.1 hx
   exact c2 r hr
 ·cases hx
theorem Mc (n m:Nat):Bd (2^m) (unitC n (-1)):=fun i=>by
 have h1:1<=2^m:=UF zU
 unfold unitC at_
 cases i with
 | zero=>simpa using h1
 | succ i =>
  rw [Vt,TI,U4]
  split <;> simp
theorem AG {g:List (Nat × V)} (hn:n<=5) (h:∀ x∈g,x.2.length=n+1/\Bd (2^m) x.2):∀ c∈consP n g,c.1.length=n+1/\Bd (2^(64*(m+4))) c.1:=fun x hx=>by
 have hE:∀ a∈linesOf g,a.length=n+1/\Bd (2^m) a:=fun a ha=>h _ (mem_lines.1 ha)
 have hI:∀ a∈raysOf g,a.length=n+1/\Bd (2^m) a:=fun a ha=>by
  obtain ⟨y,hy,rfl⟩:=BZ ha
  exact h _ hy
 obtain ⟨c1,c2⟩:=ux (d:=n+1) (m:=m) zO zO hE hI
 unfold consP at hx
 split at hx
 ·rcases Uc.1 hx with hx | hx
  ·obtain ⟨r,hr,rfl⟩:=TN.1 hx
   exact c1 r hr
  ·obtain ⟨r,hr,rfl⟩:=TN.1 hx
   exact c2 r (Ud.1 hr).1
 ·rw [UV] at hx
  subst hx
  exact ⟨unitC_len n (-1),Mc n _⟩
theorem J8 {k n:Nat} (hk:k<=1023) (hn:n<=4):k^n<1099000000000:=by
 have h1:k^n<=1023^n:=V3 hk n
 have h2:1023^n<=1023^4:=Up zU hn
 have h3:(1023:Nat)^4=1095222947841:=by decide
 omega
end
abbrev Dd:AV:=.agg [.int .i64 0,.nilSl,.nilSl]
def PolyV (H:Heap) (v:AV) (n:Nat) (c:List (List Int × Bool)) (g:List (Nat × List Int)):Prop:=∃ vc vg,v=.agg [.int .i64 (n:Int),vc,vg]/\SlV conE t_api_Con H vc c/\SlV genE ak H vg g
theorem PolyV.mono {H H':Heap} (hs:Sub H H') {v:AV} {n:Nat} {c:List (List Int × Bool)} {g:List (Nat × List Int)} (h:PolyV H v n c g):PolyV H' v n c g:=by
 obtain ⟨vc,vg,e,h1,h2⟩:=h
 exact ⟨vc,vg,e,h1.mono hs,h2.mono hs⟩
def nP (H:Heap) (v:AV) (n:Nat) (g:List (Nat × List Int)):Prop :=
 (v=.tup [Dd,.int .i64 4]/\(1024<=g.length\/1024<=(Lin.consP n g).length))\/∃ p,v=.tup [p,.int .i64 0]/\PolyV H p n (Lin.consP n g) g/\g.length<1024/\(Lin.consP n g).length<1024
section
variable {tab:Nat->Option aw} {H:Heap} {s:AV}
theorem Ca (C:Code tab) (hw:Wf H) {n m:Nat} {g:List (Nat × List Int)} (hs:SlV genE ak H s g) (hbig:g.length<1099511627776) (hn:n<=4) (hrow:∀ x∈g,x.2.length=n+1/\Lin.Bd (2^m) x.2) (hm:m<=300000) :
  Ans tab (.fn qX [.int .i64 (n:Int),s]) H fun v H'=>nP H' v n g/\Kp H H':=by
 have os:=hs.one
 refine bz C.q40 zU fun T hl g0 g1=>?_
 by_cases q1:(1024:Int)<=(g.length:Int)
 ·refine zW (dV hl g0 g1 hs.lenV q1 @nt) ?_
  exact ⟨.inl ⟨rfl,.inl zO⟩,zK⟩
 refine zW (bS hl g0 g1 hs.lenV q1) ?_
 refine Y5 (Cc C zF (hs.mono (zG H)) hn zO (J8 zO hn) hrow hm) ?_
 rintro v H2 ⟨hc,hk2⟩
 obtain ⟨k2,_,w2⟩:=zT H zK hk2
 have ov:=hc.one
 have d0:=hk2.get (b:=H.next) (e:=.cells [.int .i64 0,.nilSl,.nilSl] ag true) (cP)
 have lt0:=w2 _ _ d0
 by_cases q2:(1024:Int)<=((Lin.consP n g).length:Int)
 ·refine zW (gh hl g0 g1 hc.lenV q2 d0 @nt) ?_
  exact ⟨.inl ⟨rfl,.inr zO⟩,zK⟩
 have st:NoTy [t_api_Con,ad,ae,ak] H2 H.next:=Zp d0 zU
 refine zW (lA hl hc.lenV q2 d0 g0 g1 @RD @nt) ?_
 refine ⟨.inr ⟨_,rfl,⟨v,s,rfl,?_,?_⟩,by omega,by omega⟩,zK⟩
 ·have m3:NoTy (t_api_Con :: conE.tys) H2 H.next:=Zp d0 zU
  exact Zw (E:=conE) zS hc
 ·have m3:NoTy (ak :: genE.tys) H2 H.next:=Zp d0 zU
  exact Zw (E:=genE) zS (hs.mono k2.sub)
end
section
open Lin
variable {n:Nat}
theorem FK {l:List (V × Bool)} (hn:n<=8) (hl:l.length<=60) (h:∀ c∈l,c.1.length=n+1):dI n (l.map fun c=>(c.1.map eS,c.2))=0:=by
 unfold dI
 rw [if_neg zO,if_neg (by rw [TT]; omega),if_neg,if_neg]
 ·rw [Uv]
  rintro ⟨c,hc,h1⟩
  obtain ⟨x,hx,rfl⟩:=TN.1 hc
  have h1:=of_decide_eq_true h1
  have:=h x hx
  simp only [TT] at h1
  omega
 ·rw [Uv]
  rintro ⟨c,hc,h1⟩
  obtain ⟨x,hx,rfl⟩:=TN.1 hc
  have:=h x hx
  rw [UT,C7 zO] at h1
  cases h1
theorem PS {l:List (V × Bool)} (hn:n<=60) (h:∀ c∈l,c.1.length=n+1/\∀ z∈c.1,eY z):∀ c∈l.map fun c=>(c.1.map eS,c.2),xp c.1:=fun c hc=>by
 obtain ⟨x,hx,rfl⟩:=TN.1 hc
 exact uG (by rw [(h x hx).1]; omega) (h x hx).2
theorem FJ {g:List (Nat × V)} (hn:n<=8) (hl:g.length<=60) (h:ValidG n g) (hk:∀ x∈g,x.1=1\/x.1=2\/x.1=3):jx n (g.map fun c=>(c.1,c.2.map eS))=0:=by
 unfold jx
 rw [if_neg zO,if_neg (by rw [TT]; omega),if_neg,if_neg]
 ·rw [Uv]
  rintro ⟨c,hc,h1⟩
  obtain ⟨x,hx,rfl⟩:=TN.1 hc
  have h1:=of_decide_eq_true h1
  have:=(h x hx).1
  simp only [TT] at h1
  omega
 ·rw [Uv]
  rintro ⟨c,hc,h1⟩
  obtain ⟨x,hx,rfl⟩:=TN.1 hc
  obtain ⟨h2,h3,h4⟩:=h x hx
  simp only [GS,Nj,Vx,UT,C7 (r:=x.2) zO,GT] at h1
  rcases h1 with h1 | h1
  ·cases h1
  ·rcases hk x hx with e | e | e
   ·rw [if_pos (.inl e)] at h1
    exact absurd (h4 zO) (of_decide_eq_true h1)
   ·rw [if_pos (.inr e)] at h1
    exact absurd (h4 zO) (of_decide_eq_true h1)
   ·rw [if_neg zO,if_pos e] at h1
    have:=h3 e
    have:=of_decide_eq_true h1
    omega
theorem PR {g:List (Nat × V)} (hn:n<=60) (h:∀ c∈g,c.2.length=n+1/\∀ z∈c.2,eY z):∀ c∈g.map fun c=>(c.1,c.2.map eS),xp c.2:=fun c hc=>by
 obtain ⟨x,hx,rfl⟩:=TN.1 hc
 exact uG (by rw [(h x hx).1]; omega) (h x hx).2
end
section
variable {tab:Nat->Option aw} {H:Heap} {s:AV}
theorem Ft (C:Code tab) (hw:Wf H) {n:Int} {l:List vQ} (hs:SlV conQE t_api_Con H s l) (hbig:∀ c∈l,xp c.1) (hlen:l.length<4611686018427387904) (hc:dI n l≠0) :
  Ans tab (.fn oU [.int .i64 n,s]) H fun v H'=>v=.tup [Dd,.int .i64 (dI n l)]/\Kp H H':=by
 refine bz C.q18 zU fun T hl g0 g1=>?_
 refine zW (aD hl g0 g1) ?_
 refine Y4 (o0 C zF (hs.mono (zG H)) hbig hlen) fun H2 hk2=>?_
 obtain ⟨k2,_,w2⟩:=zT H zK hk2
 have d0:=hk2.get (b:=H.next) (e:=.cells [.int .i64 0,.nilSl,.nilSl] ag true) (cP)
 have lt0:=w2 _ _ d0
 have hc:¬ dI n l=0:=hc
 refine zW (dV hl g0 g1 hc d0 @nt) ?_
 exact zK
theorem kK (C:Code tab) (hw:Wf H) {n m m2:Nat} {l:List (List Int × Bool)} (hs:SlV conE t_api_Con H s l) (hn:n<=4) (hlen:l.length<=60) (hrow:∀ c∈l,c.1.length=n+1/\Lin.Bd (2^m) c.1) (hm:m<=300000) (hG:∀ x∈Lin.gensP n l,Lin.Bd (2^m2) x.2) (hm2:m2<=300000) :
  Ans tab (.fn oU [.int .i64 (n:Int),s]) H fun v H'=>nP H' v n (Lin.gensP n l)/\Kp H H':=by
 refine bz C.q18 zU fun T hl g0 g1=>?_
 refine zW (aD hl g0 g1) ?_
 refine Y4 (o0 C zF ((FA hs).mono (zG H)) (PS (n:=n) zO fun c hc=>⟨(hrow c hc).1,fun z hz=>(kn (hrow c hc).2 z hz).sm zO⟩) (by rw [TT]; omega)) fun H2 hk2=>?_
 rw [FK zO hlen fun c hc=>(hrow c hc).1]
 obtain ⟨k2,_,w2⟩:=zT H zK hk2
 refine zW (aD hl g0 g1) ?_
 refine Y5 (xQ C zF ((hs.mono k2.sub).mono (zG H2)) hn zO (J8 zO hn) hrow hm) ?_
 rintro v H3 ⟨hg,hk3⟩
 obtain ⟨k23,_,_⟩:=zT H2 zK hk3
 have k3:Kp H H3:=k2.trans k23
 have le_k3:=k3.le
 have w3:=k3.wf
 refine zW (aD hl g0 g1) ?_
 refine Y5 (Ca C zF (hg.mono (zG H3)) ?_ hn (fun x hx=>⟨(oX zO hrow x hx).1,hG x hx⟩) hm2) ?_
 ·have hT:=Lin.gens_told (d:=n+1) (Lin.eqs_len (l:=l) fun c hc=>(hrow c hc).1) (Lin.ineqs_len (l:=l) fun c hc=>(hrow c hc).1)
  have h1:=hT.dd.count3 (Lin.ineqs_len (l:=l) fun c hc=>(hrow c hc).1)
  have h2:=ech_len hT.form
  have h3:(Lin.ineqsOf n l).length^n<1099000000000:=J8 (Ub (ri l) zO) hn
  simp only [VP] at h1
  unfold Lin.gensP
  split
  ·rw [T9,TT,TT]; omega
  ·simp
 rintro v2 H4 ⟨hm4,hk4⟩
 have k4:Kp H H4:=k3.trans (Zi zK hk4)
 have le_k4:=k4.le
 have w4:=k4.wf
 have d0:=hk4.get (hk3.get (hk2.get (b:=H.next) (e:=.cells [.int .i64 0,.nilSl,.nilSl] ag true) (cP)))
 have lt0:=w4 _ _ d0
 rcases hm4 with ⟨rfl,hm4⟩ | ⟨p,rfl,⟨vc,vg,rfl,hc,hg4⟩,h1,h2⟩
 ·refine zW (bS hl g0 g1 d0 @nt) ?_
  exact ⟨.inl ⟨rfl,hm4⟩,zK⟩
 ·have oc:=hc.one
  have og:=hg4.one
  have e1:Fm 0 (.tup [.agg [.int .i64 (n:Int),vc,vg],.int .i64 0])=some (.agg [.int .i64 (n:Int),vc,vg]):=rfl
  refine zW (bS hl g0 g1 d0 @nt) ?_
  refine ⟨.inr ⟨_,rfl,⟨vc,vg,rfl,?_,?_⟩,h1,h2⟩,zK⟩
  ·have m3:NoTy (t_api_Con :: conE.tys) H4 H.next:=Zp d0 zU
   exact Zw (E:=conE) zS hc
  ·have m3:NoTy (ak :: genE.tys) H4 H.next:=Zp d0 zU
   exact Zw (E:=genE) zS hg4
theorem Nb {n k m:Nat} (h:n<2^m) (hm:m<=64*k):(ai n).length<=k:=bk (by
 have e:B^k=2^(64*k):=by
  have:B=2^64:=by decide
  rw [this,<- Xa]
 rw [e]
 exact Ue h (Up zU hm))
def Bh (H:Heap) (v:AV) (n:Nat) (g:List (Nat × List Int)):Prop :=
 (v=.tup [Dd,.int .i64 4]/\1024<=(Lin.consP n g).length)\/nP H v n (Lin.gensP n (Lin.consP n g))
theorem vj (C:Code tab) (hw:Wf H) {n m m2 m3:Nat} {g:List (Nat × List Int)} (hs:SlV genE ak H s g) (hn:n<=4) (hlen:g.length<=60) (hv:Lin.ValidG n g) (hk:∀ x∈g,x.1=1\/x.1=2\/x.1=3) (hrow:∀ c∈g,Lin.Bd (2^m) c.2) (hm:m<=300000) (hC:∀ c∈Lin.consP n g,Lin.Bd (2^m2) c.1) (hm2:m2<=300000) (hG:∀ x∈Lin.gensP n (Lin.consP n g),Lin.Bd (2^m3) x.2) (hm3:m3<=300000)
  (hlc:(Lin.consP n g).length<=1022\/1024<=(Lin.consP n g).length) :
  Ans tab (.fn qZ [.int .i64 (n:Int),s]) H fun v H'=>Bh H' v n g/\Kp H H':=by
 have hrow':∀ c∈g,c.2.length=n+1/\Lin.Bd (2^m) c.2:=fun c hc=>⟨(hv c hc).1,hrow c hc⟩
 have hgood:∀ c∈g.map fun c=>(c.1,c.2.map eS),∀ z∈c.2,Lim z.2/\z.2.length<=1048576:=fun c hc z hz=>by
  obtain ⟨x,hx,rfl⟩:=TN.1 hc
  obtain ⟨y,hy,rfl⟩:=TN.1 hz
  have hb:=kn (hrow x hx) y hy
  exact ⟨bC _,Nb (n:=y.natAbs) (k:=1048576) (m:=m+1) hb zO⟩
 refine bz C.q23 zU fun T hl g0 g1=>?_
 refine zW (aD hl g0 g1) ?_
 refine Y4 (xd C zF ((Fg hs).mono (zG H)) (PR (n:=n) zO fun c hc=>⟨(hrow' c hc).1,fun z hz=>(kn (hrow c hc) z hz).sm zO⟩) hgood (by rw [TT]; omega)) fun H2 hk2=>?_
 rw [FJ zO hlen hv hk]
 obtain ⟨k2,_,w2⟩:=zT H zK hk2
 refine zW (aD hl g0 g1) ?_
 refine Y5 (Cc C zF ((hs.mono k2.sub).mono (zG H2)) hn zO (J8 zO hn) hrow' zO) ?_
 rintro v H3 ⟨hc3,hk3⟩
 obtain ⟨k23,_,_⟩:=zT H2 zK hk3
 have k3:Kp H H3:=k2.trans k23
 have le_k3:=k3.le
 have w3:=k3.wf
 have d3:=hk3.get (hk2.get (b:=H.next) (e:=.cells [.int .i64 0,.nilSl,.nilSl] ag true) (cP))
 have lt3:=w3 _ _ d3
 by_cases q1:(1024:Int)<=((Lin.consP n g).length:Int)
 ·refine zW (gh hl g0 g1 hc3.lenV q1 d3 @nt) ?_
  exact ⟨.inl ⟨rfl,by omega⟩,zK⟩
 have hrc:∀ c∈Lin.consP n g,c.1.length=n+1/\Lin.Bd (2^m2) c.1:=fun c hc=>⟨(AG zO hrow' c hc).1,hC c hc⟩
 refine zW (aX hl hc3.lenV q1 g0) ?_
 refine Y5 (xQ C zF (hc3.mono (zG H3)) hn zO (J8 zO hn) hrc hm2) ?_
 rintro v4 H4 ⟨hg4,hk4⟩
 obtain ⟨k34,_,_⟩:=zT H3 zK hk4
 have k4:Kp H H4:=k3.trans k34
 have le_k4:=k4.le
 have w4:=k4.wf
 refine zW (aC hl g0) ?_
 refine Y5 (Ca C zF (hg4.mono (zG H4)) ?_ hn (fun x hx=>⟨(oX zO hrc x hx).1,hG x hx⟩) hm3) ?_
 ·have hT:=Lin.gens_told (d:=n+1) (Lin.eqs_len (l:=Lin.consP n g) fun c hc=>(hrc c hc).1) (Lin.ineqs_len (l:=Lin.consP n g) fun c hc=>(hrc c hc).1)
  have h1:=hT.dd.count3 (Lin.ineqs_len (l:=Lin.consP n g) fun c hc=>(hrc c hc).1)
  have h2:=ech_len hT.form
  have h3:(Lin.ineqsOf n (Lin.consP n g)).length^n<1099000000000:=J8 (Ub (ri _) zO) hn
  simp only [VP] at h1
  unfold Lin.gensP
  split
  ·rw [T9,TT,TT]; omega
  ·simp
 rintro v5 H5 ⟨hm5,hk5⟩
 have k5:Kp H H5:=k4.trans (Zi zK hk5)
 have le_k5:=k5.le
 have w5:=k5.wf
 have d0:=hk5.get (hk4.get d3)
 have lt0:=w5 _ _ d0
 rcases hm5 with ⟨rfl,hm5⟩ | ⟨p,rfl,⟨vc,vg,rfl,hc,hg5⟩,h1,h2⟩
 ·refine zW (bS hl g0 g1 d0 @nt) ?_
  exact ⟨.inr (.inl ⟨rfl,hm5⟩),zK⟩
 ·have oc:=hc.one
  have og:=hg5.one
  refine zW (bS hl g0 g1 d0 @nt) ?_
  refine ⟨.inr (.inr ⟨_,rfl,⟨vc,vg,rfl,?_,?_⟩,h1,h2⟩),zK⟩
  ·have m3:NoTy (t_api_Con :: conE.tys) H5 H.next:=Zp d0 zU
   exact Zw (E:=conE) zS hc
  ·have m3:NoTy (ak :: genE.tys) H5 H.next:=Zp d0 zU
   exact Zw (E:=genE) zS hg5
end
section
variable {tab:Nat->Option aw} {base i k:Nat} {T0:Tm} {dst:Option Nat} {op:AOp} {us:List (Nat × Option Nat)} {adds:List Nat} {r:List (Nat × List Nat)} {ds:List jO} {Vs:List AV} {Cs:List Heap} {Es:List (Option Ent)} {Q:DS->Prop} {t:Nat} {w:Bool}
end
section
variable {tab:Nat->Option aw} {H:Heap} {s:AV}
theorem zI (C:Code tab) (hw:Wf H) {a b:AV} {l m:List (List Int × Bool)} (ha:SlV conE t_api_Con H a l) (hb:SlV conE t_api_Con H b m) (hl':l.length<1099511627776) (hz:∀ r∈l,r.1.length<1099511627776/\∀ z∈r.1,eY z) :
  Ans tab (.fn dZ [a,b]) H fun v H'=>v=.bool (decide (l=m))/\Kp H H':=by
 refine bz C.q47 zU fun T hl g0 g1=>?_
 by_cases he:l.length=m.length
 ·have lb:lenV b=some (.int .i64 (l.length:Int)):=by rw [hb.lenV,he]
  refine zW (bS hl g0 g1 ha.lenV lb) ?_
  refine cp H [5] (fun k vs H'=>∃ i:Nat,vs=[.int .i64 (i:Int)]/\i+k=l.length/\∀ q (h:q<l.length) (h':q<m.length),q<i->l[q]=m[q]) l.length (by simp only [TH]; exact hl) rfl zK ⟨0,by refine zW (aD hl g0 g1) ?_; rfl,by omega,fun q _ _ h=>by omega⟩ ?_
  rintro k T1 H1 hl1 hs1 hk1 ⟨i,hv,hik,hP⟩
  have w1:=hk1.wf
  have le_hk1:=hk1.le
  simp only [TP,TV,TR,and_true] at hv
  have t0:aa T1 0=a:=(hs1.at_ 0 zU).trans (zV (aC hl g0))
  have t1:aa T1 1=b:=(hs1.at_ 1 zU).trans (zV (aX hl g0 g1 g1))
  by_cases hi:i<l.length
  ·have hii:(i:Int)<(l.length:Int):=by omega
   have hi':i<m.length:=by omega
   obtain ⟨cs,⟨w,rfl,hr⟩,-,h2,-⟩:=(ha.mono hk1.sub).at (TL hi)
   obtain ⟨cs',⟨w',rfl,hr'⟩,-,h2',-⟩:=(hb.mono hk1.sub).at (TL hi')
   have l0:bg H1 none (az a (i*2))=some w:=h2 0 _ rfl
   have l1:bg H1 none (az a (i*2+1))=some (.bool l[i].2):=h2 1 _ rfl
   have l0':bg H1 none (az b (i*2))=some w':=h2' 0 _ rfl
   have l1':bg H1 none (az b (i*2+1))=some (.bool m[i].2):=h2' 1 _ rfl
   have hix:cw 2 a (.int .i64 (i:Int))=some (az a (i*2)):=Zu ha .i64 i hi
   have hix':cw 2 b (.int .i64 (i:Int))=some (az b (i*2)):=Zu hb .i64 i hi'
   have f0:Ay 0 (az a (i*2))=some (az a (i*2)):=ha.fa zO 0 (i*2)
   have f1:Ay 1 (az a (i*2))=some (az a (i*2+1)):=ha.fa zO 1 (i*2)
   have f0':Ay 0 (az b (i*2))=some (az b (i*2)):=hb.fa zO 0 (i*2)
   have f1':Ay 1 (az b (i*2))=some (az b (i*2+1)):=hb.fa zO 1 (i*2)
   have e:IntKind.i64.wrap ((i:Int)+1)=((i+1:Nat):Int):=by rw [wrap_i64] <;> omega
   refine zW (gh hl1 hv t0 t1 ha.lenV hii hi) ?_
   by_cases hx:l[i].2=m[i].2
   ·skip
    refine aI ?_
    refine zX (Ql hl1 hv t0 t1 hix hix' l0 l1 l0' l1' f0 f1 f0' f1' hx (beq_self_eq_true (α:=Bool))) ?_
    refine Y4 (zJ C zF (hr.mono (zG H1)) (hr'.mono (zG H1)) (hz _ (TM hi)).1 (hz _ (TM hi)).2) fun H2 hk2=>?_
    obtain ⟨k12,_,_⟩:=zT H1 zK hk2
    have k2:Kp H H2:=Zi hk1 k12
    have le_k2:=k2.le
    have l0b:=bT k12.sub l0
    have l1b:=bT k12.sub l1
    have l0b':=bT k12.sub l0'
    have l1b':=bT k12.sub l1'
    cases hq:decide (l[i].1=m[i].1) with
    | true =>
     have hq:=of_decide_eq_true hq
     refine zX (RO hl1 hv t0 t1 hix hix' l0 l1 l0' l1' l0b l1b l0b' l1b' f0 f1 f0' f1' hx e (beq_self_eq_true (α:=Bool))) ?_
     refine ⟨zK,k-1,by omega,i+1,rfl,by omega,fun q h h' hqi=>?_⟩
     by_cases eq:q=i
     ·subst eq; exact Prod.ext hq hx
     ·exact hP q h h' zO
    | false =>
     have hq:=of_decide_eq_false hq
     refine zX (RO hl1 hv t0 t1 hix hix' l0 l1 l0' l1' l0b l1b l0b' l1b' f0 f1 f0' f1' hx e (beq_self_eq_true (α:=Bool))) ?_
     refine ⟨?_,zK⟩
     rw [decide_eq_false]
     intro e; subst e; exact hq rfl
   ·have hxb:(l[i].2 == m[i].2)=false:=by simpa using hx
    refine aI ?_
    refine zX (D7 hl1 hv t0 t1 hix hix' l0 l1 l0' l1' f0 f1 f0' f1' hx hxb (beq_self_eq_true (α:=Bool))) ?_
    refine ⟨?_,zK⟩
    rw [decide_eq_false]
    intro e; subst e; exact hx rfl
  ·have hii:¬ (i:Int)<(l.length:Int):=by omega
   refine zW (gh hl1 hv t0 t1 ha.lenV hii hi) ?_
   refine ⟨?_,zK⟩
   rw [decide_eq_true (iV he fun q h h'=>hP q h h' zO)]
 ·have he':¬ (l.length:Int)=(m.length:Int):=by omega
  refine zW (gh hl g0 g1 ha.lenV hb.lenV he' he) ?_
  refine ⟨?_,zK⟩
  rw [decide_eq_false]
  intro e; subst e; exact he rfl
theorem zH (C:Code tab) (hw:Wf H) {a b:AV} {l m:List (Nat × List Int)} (ha:SlV genE ak H a l) (hb:SlV genE ak H b m) (hl':l.length<1099511627776) (hz:∀ r∈l,r.2.length<1099511627776/\∀ z∈r.2,eY z) :
  Ans tab (.fn dY [a,b]) H fun v H'=>v=.bool (decide (l=m))/\Kp H H':=by
 refine bz C.q48 zU fun T hl g0 g1=>?_
 by_cases he:l.length=m.length
 ·have lb:lenV b=some (.int .i64 (l.length:Int)):=by rw [hb.lenV,he]
  refine zW (bS hl g0 g1 ha.lenV lb) ?_
  refine cp H [5] (fun k vs H'=>∃ i:Nat,vs=[.int .i64 (i:Int)]/\i+k=l.length/\∀ q (h:q<l.length) (h':q<m.length),q<i->l[q]=m[q]) l.length (by simp only [TH]; exact hl) rfl zK ⟨0,by refine zW (aD hl g0 g1) ?_; rfl,by omega,fun q _ _ h=>by omega⟩ ?_
  rintro k T1 H1 hl1 hs1 hk1 ⟨i,hv,hik,hP⟩
  have w1:=hk1.wf
  have le_hk1:=hk1.le
  simp only [TP,TV,TR,and_true] at hv
  have t0:aa T1 0=a:=(hs1.at_ 0 zU).trans (zV (aC hl g0))
  have t1:aa T1 1=b:=(hs1.at_ 1 zU).trans (zV (aX hl g0 g1 g1))
  by_cases hi:i<l.length
  ·have hii:(i:Int)<(l.length:Int):=by omega
   have hi':i<m.length:=by omega
   obtain ⟨cs,⟨w,rfl,hr⟩,-,h2,-⟩:=(ha.mono hk1.sub).at (TL hi)
   obtain ⟨cs',⟨w',rfl,hr'⟩,-,h2',-⟩:=(hb.mono hk1.sub).at (TL hi')
   have l0:bg H1 none (az a (i*2))=some (.int .u8 (l[i].1:Int)):=h2 0 _ rfl
   have l1:bg H1 none (az a (i*2+1))=some w:=h2 1 _ rfl
   have l0':bg H1 none (az b (i*2))=some (.int .u8 (m[i].1:Int)):=h2' 0 _ rfl
   have l1':bg H1 none (az b (i*2+1))=some w':=h2' 1 _ rfl
   have hix:cw 2 a (.int .i64 (i:Int))=some (az a (i*2)):=Zu ha .i64 i hi
   have hix':cw 2 b (.int .i64 (i:Int))=some (az b (i*2)):=Zu hb .i64 i hi'
   have f0:Ay 0 (az a (i*2))=some (az a (i*2)):=ha.fa zO 0 (i*2)
   have f1:Ay 1 (az a (i*2))=some (az a (i*2+1)):=ha.fa zO 1 (i*2)
   have f0':Ay 0 (az b (i*2))=some (az b (i*2)):=hb.fa zO 0 (i*2)
   have f1':Ay 1 (az b (i*2))=some (az b (i*2+1)):=hb.fa zO 1 (i*2)
   have e:IntKind.i64.wrap ((i:Int)+1)=((i+1:Nat):Int):=by rw [wrap_i64] <;> omega
   refine zW (gh hl1 hv t0 t1 ha.lenV hii hi) ?_
   by_cases hx:l[i].1=m[i].1
   ·have hx2:(l[i].1:Int)=(m[i].1:Int):=by omega
    refine aI ?_
    refine zX (D7 hl1 hv t0 t1 hix hix' l0 l1 l0' l1' f0 f1 f0' f1' hx hx2 (beq_self_eq_true (α:=Bool))) ?_
    refine Y4 (zJ C zF (hr.mono (zG H1)) (hr'.mono (zG H1)) (hz _ (TM hi)).1 (hz _ (TM hi)).2) fun H2 hk2=>?_
    obtain ⟨k12,_,_⟩:=zT H1 zK hk2
    have k2:Kp H H2:=Zi hk1 k12
    have le_k2:=k2.le
    have l0b:=bT k12.sub l0
    have l1b:=bT k12.sub l1
    have l0b':=bT k12.sub l0'
    have l1b':=bT k12.sub l1'
    cases hq:decide (l[i].2=m[i].2) with
    | true =>
     have hq:=of_decide_eq_true hq
     refine zX (Qj hl1 hv t0 t1 hix hix' l0 l1 l0' l1' l0b l1b l0b' l1b' f0 f1 f0' f1' hx hx2 e (beq_self_eq_true (α:=Bool))) ?_
     refine ⟨zK,k-1,by omega,i+1,rfl,by omega,fun q h h' hqi=>?_⟩
     by_cases eq:q=i
     ·subst eq; exact Prod.ext hx hq
     ·exact hP q h h' zO
    | false =>
     have hq:=of_decide_eq_false hq
     refine zX (Qj hl1 hv t0 t1 hix hix' l0 l1 l0' l1' l0b l1b l0b' l1b' f0 f1 f0' f1' hx hx2 e (beq_self_eq_true (α:=Bool))) ?_
     refine ⟨?_,zK⟩
     rw [decide_eq_false]
     intro e; subst e; exact hq rfl
   ·have hx2:¬ (l[i].1:Int)=(m[i].1:Int):=by omega
    have hxb:=hx2
    refine aI ?_
    refine zX (Gd hl1 hv t0 t1 hix hix' l0 l1 l0' l1' f0 f1 f0' f1' hx hx2 hxb (beq_self_eq_true (α:=Bool))) ?_
    refine ⟨?_,zK⟩
    rw [decide_eq_false]
    intro e; subst e; exact hx rfl
  ·have hii:¬ (i:Int)<(l.length:Int):=by omega
   refine zW (gh hl1 hv t0 t1 ha.lenV hii hi) ?_
   refine ⟨?_,zK⟩
   rw [decide_eq_true (iV he fun q h h'=>hP q h h' zO)]
 ·have he':¬ (l.length:Int)=(m.length:Int):=by omega
  refine zW (gh hl g0 g1 ha.lenV hb.lenV he' he) ?_
  refine ⟨?_,zK⟩
  rw [decide_eq_false]
  intro e; subst e; exact he rfl
def fd (n:Nat) (l:List vQ):Bool:=decide (n<l.length) || l.any fun c=>ju 5 1 c.1
theorem lD (C:Code tab) (hw:Wf H) {a:AV} {ls:List vQ} {n:Nat} (ha:SlV conQE t_api_Con H a ls) (hn:n<4611686018427387904) :
  Ans tab (.fn dF [a,.int .i64 (n:Int)]) H fun v H'=>v=.bool (fd n ls)/\Kp H H':=by
 refine bz C.q8 zU fun T hl g0 g1=>?_
 by_cases he:n<ls.length
 ·have he':(n:Int)<(ls.length:Int):=by omega
  refine zW (dV hl g0 g1 ha.lenV he' he) ?_
  exact ⟨by unfold fd; rw [decide_eq_true he]; rfl,zK⟩
 ·have he':¬ (n:Int)<(ls.length:Int):=by omega
  refine zW (dV hl g0 g1 ha.lenV he' he) ?_
  refine cp H [5] (fun k vs H'=>∃ i:Nat,vs=[.int .i64 (i:Int)]/\i+k=ls.length/\∀ q (h:q<ls.length),q<i->ju 5 1 (ls[q]).1=false) ls.length (by simp only [TH]; exact hl) rfl zK ⟨0,by refine zW (aD hl g0 g1) ?_; rfl,by omega,fun q _ h=>by omega⟩ ?_
  rintro k T1 H1 hl1 hs1 hk1 ⟨i,hv,hik,hP⟩
  have w1:=hk1.wf
  have le_hk1:=hk1.le
  simp only [TP,TV,TR,and_true] at hv
  have t0:aa T1 0=a:=(hs1.at_ 0 zU).trans (zV (aC hl g0))
  by_cases hi:i<ls.length
  ·have hii:(i:Int)<(ls.length:Int):=by omega
   obtain ⟨cs,⟨w,rfl,hr⟩,-,h2,-⟩:=(ha.mono hk1.sub).at (TL hi)
   have hld:bg H1 none (az a (i*2))=some w:=h2 0 _ rfl
   have hix:cw 2 a (.int .i64 (i:Int))=some (az a (i*2)):=Zu ha .i64 i hi
   have hfa:Ay 0 (az a (i*2))=some (az a (i*2)):=ha.fa zO 0 (i*2)
   have e:IntKind.i64.wrap ((i:Int)+1)=((i+1:Nat):Int):=by rw [wrap_i64] <;> omega
   refine zW (ko hl1 hv t0 ha.lenV hii hi hix hfa hld) ?_
   refine Y4 (xH C (many:=5) (lim:=1) zF (hr.mono (zG H1)) zO) fun H2 hk2=>?_
   obtain ⟨k12,_,_⟩:=zT H1 zK hk2
   have k2:Kp H H2:=Zi hk1 k12
   have le_k2:=k2.le
   cases hq:ju 5 1 (ls[i]).1 with
   | true =>
    refine zW hl1 ?_
    refine ⟨?_,zK⟩
    unfold fd
    rw [Uv.2 ⟨_,TM hi,hq⟩,XL]
   | false =>
    refine zW (aD hl1 hv e) ?_
    refine ⟨zK,k-1,by omega,i+1,rfl,by omega,fun q h hqi=>?_⟩
    by_cases eq:q=i
    ·subst eq; exact hq
    ·exact hP q h zO
  ·have hii:¬ (i:Int)<(ls.length:Int):=by omega
   refine zW (dV hl1 hv t0 ha.lenV hii hi) ?_
   refine ⟨?_,zK⟩
   have e:(ls.any fun c=>ju 5 1 c.1)=false:=by
    rw [Vh]
    intro z hz
    obtain ⟨q,hq,rfl⟩:=UY hz
    rw [hP q hq zO]; simp
   unfold fd
   rw [decide_eq_false he,Xw,e]
def mY (n:Nat) (l:List F6):Bool:=decide (n<l.length) || l.any fun c=>ju 5 1 c.2
theorem yC (C:Code tab) (hw:Wf H) {a:AV} {ls:List F6} {n:Nat} (ha:SlV genQE ak H a ls) (hn:n<4611686018427387904) :
  Ans tab (.fn dE [a,.int .i64 (n:Int)]) H fun v H'=>v=.bool (mY n ls)/\Kp H H':=by
 refine bz C.q9 zU fun T hl g0 g1=>?_
 by_cases he:n<ls.length
 ·have he':(n:Int)<(ls.length:Int):=by omega
  refine zW (dV hl g0 g1 ha.lenV he' he) ?_
  exact ⟨by unfold mY; rw [decide_eq_true he]; rfl,zK⟩
 ·have he':¬ (n:Int)<(ls.length:Int):=by omega
  refine zW (dV hl g0 g1 ha.lenV he' he) ?_
  refine cp H [5] (fun k vs H'=>∃ i:Nat,vs=[.int .i64 (i:Int)]/\i+k=ls.length/\∀ q (h:q<ls.length),q<i->ju 5 1 (ls[q]).2=false) ls.length (by simp only [TH]; exact hl) rfl zK ⟨0,by refine zW (aD hl g0 g1) ?_; rfl,by omega,fun q _ h=>by omega⟩ ?_
  rintro k T1 H1 hl1 hs1 hk1 ⟨i,hv,hik,hP⟩
  have w1:=hk1.wf
  have le_hk1:=hk1.le
  simp only [TP,TV,TR,and_true] at hv
  have t0:aa T1 0=a:=(hs1.at_ 0 zU).trans (zV (aC hl g0))
  by_cases hi:i<ls.length
  ·have hii:(i:Int)<(ls.length:Int):=by omega
   obtain ⟨cs,⟨w,rfl,hr⟩,-,h2,-⟩:=(ha.mono hk1.sub).at (TL hi)
   have hld:bg H1 none (az a (i*2+1))=some w:=h2 1 _ rfl
   have hix:cw 2 a (.int .i64 (i:Int))=some (az a (i*2)):=Zu ha .i64 i hi
   have hfa:Ay 1 (az a (i*2))=some (az a (i*2+1)):=ha.fa zO 1 (i*2)
   have e:IntKind.i64.wrap ((i:Int)+1)=((i+1:Nat):Int):=by rw [wrap_i64] <;> omega
   refine zW (ko hl1 hv t0 ha.lenV hii hi hix hfa hld) ?_
   refine Y4 (xH C (many:=5) (lim:=1) zF (hr.mono (zG H1)) zO) fun H2 hk2=>?_
   obtain ⟨k12,_,_⟩:=zT H1 zK hk2
   have k2:Kp H H2:=Zi hk1 k12
   have le_k2:=k2.le
   cases hq:ju 5 1 (ls[i]).2 with
   | true =>
    refine zW hl1 ?_
    refine ⟨?_,zK⟩
    unfold mY
    rw [Uv.2 ⟨_,TM hi,hq⟩,XL]
   | false =>
    refine zW (aD hl1 hv e) ?_
    refine ⟨zK,k-1,by omega,i+1,rfl,by omega,fun q h hqi=>?_⟩
    by_cases eq:q=i
    ·subst eq; exact hq
    ·exact hP q h zO
  ·have hii:¬ (i:Int)<(ls.length:Int):=by omega
   refine zW (dV hl1 hv t0 ha.lenV hii hi) ?_
   refine ⟨?_,zK⟩
   have e:(ls.any fun c=>ju 5 1 c.2)=false:=by
    rw [Vh]
    intro z hz
    obtain ⟨q,hq,rfl⟩:=UY hz
    rw [hP q hq zO]; simp
   unfold mY
   rw [decide_eq_false he,Xw,e]
end
theorem Aj {H:Heap} {b:Nat} {x y:Int} {r:Bool} (h:H.get b=some (.cells [.int .i64 x,.int .i64 y] fZ r)):yT (Hn .i64) fZ H (.own b 0 2 2 1 true) [x,y] :=
 ⟨[_,_],Zr h rfl (TO _),fun _ _ _ _ _ _ e=>by cases e; exact ⟨_,_,h⟩,rfl,fun i a hi=>by
  match i with
  | 0=>simp at hi; subst hi; exact ⟨_,rfl,rfl⟩
  | 1=>simp at hi; subst hi; exact ⟨_,rfl,rfl⟩
  | i+2=>simp at hi⟩
def Emp (H:Heap) (a e:Nat):Prop:=e<=H.next/\∀ c,a<=c->c<e->H.get c=none
theorem Emp.start {H:Heap} (hw:Wf H) {k:Nat}:Emp (H.up k) H.next (H.next+k):=⟨TO _,fun c h _=>hw.fresh h⟩
def Zd:=@Emp.start
theorem Emp.next {G H2:Heap} {a e p a':Nat} {x:Ent} (hf:Emp G a e) (hk:Kp (G.put p x) H2) (hp:p<a') (ha:a<=a'):Emp H2 a' e :=
 ⟨Ub hf.1 hk.le,fun c h1 h2=>hk.free (by rw [next_put]; exact Ue h2 hf.1) (by rw [aA zO]; exact hf.2 c zO h2)⟩
theorem Emp.keep {G H2:Heap} {a e:Nat} (hf:Emp G a e) (hk:Kp G H2):Emp H2 a e :=
 ⟨Ub hf.1 hk.le,fun c h1 h2=>hk.free (Ue h2 hf.1) (hf.2 c h1 h2)⟩
theorem Emp.sub {G:Heap} {a e p:Nat} {x:Ent} (hf:Emp G a e) (h1:a<=p) (h2:p<e):Sub G (G.put p x):=aH (hf.2 p h1 h2)
section
variable {tab:Nat->Option aw} {H:Heap} {s:AV}
end
end Go.Proofs.YtofhopjbbpihaaaGreat.Ev
namespace Go.Proofs.YtofhopjbbpihaaaGreat.Lin
set_option linter.all false
theorem HD:gensL 2 [] [[1,1]]=[[-1,1]]/\gensR 2 [] [[1,1]]=[[1,0]]:=by
 have r:(gensU 2 [] [[1,1]]).rays.map (restF (gensL 2 [] [[1,1]]))=[[1,0]]:=by decide +kernel
 refine ⟨by decide +kernel,?_⟩
 unfold gensR; rw [r]; simp
end Go.Proofs.YtofhopjbbpihaaaGreat.Lin
namespace Go.Proofs.YtofhopjbbpihaaaGreat.Ev
open Go Nn
set_option linter.all false
theorem Emp.put {G:Heap} {a e p a':Nat} {x:Ent} (hf:Emp G a e) (hp:p<a') (ha:a<=a'):Emp (G.put p x) a' e :=
 ⟨hf.1,fun c h1 h2=>by rw [aA zO]; exact hf.2 c zO h2⟩
section
variable {tab:Nat->Option aw} {H:Heap} {s:AV}
end
end Go.Proofs.YtofhopjbbpihaaaGreat.Ev
namespace Go.Proofs.YtofhopjbbpihaaaGreat.Lin
set_option linter.all false
end Go.Proofs.YtofhopjbbpihaaaGreat.Lin
namespace Go.Proofs.YtofhopjbbpihaaaGreat.Ev
open Go Nn
set_option linter.all false
theorem Sz {a b c:AV} (ha:One a) (hb:One b) (hc:One c):gP (.agg [a,b,c])=some [a,b,c]:=by
 simp [gP,AV.cells,ha.2,hb.2,hc.2]
theorem lM {b c:AV} (hb:One b) (hc:One c) (k:IntKind) (n:Int):gP (.agg [.int k n,b,c])=some [.int k n,b,c]:=Sz (bj _ _) hb hc
section
variable {tab:Nat->Option aw} {H:Heap} {s:AV}
def mX (c:List (List Int × Bool)) (g:List (Nat × List Int)):Bool:=fd 9 (c.map fun c=>(c.1.map eS,c.2)) || mY 9 (g.map fun c=>(c.1,c.2.map eS))
theorem EG (C:Code tab) (hw:Wf H) {v:AV} {n:Nat} {c:List (List Int × Bool)} {g:List (Nat × List Int)} (hp:PolyV H v n c g) :
  Ans tab (.fn fq [v]) H fun x H'=>x=.bool (mX c g)/\Kp H H':=by
 obtain ⟨vc,vg,rfl,hc,hg⟩:=hp
 have oc:=hc.one
 have og:=hg.one
 refine cU C.q30 zU fun T hl g0=>?_
 refine zW (aD hl g0 (lM oc og)) ?_
 refine Y4 (lD C (n:=9) zF ((FA hc).mono (zG H)) zO) fun H2 hk2=>?_
 obtain ⟨k2,_,w2⟩:=zT H zK hk2
 have d0:=hk2.get (b:=H.next) (e:=.cells [.int .i64 (n:Int),vc,vg] ag true) (cP)
 cases hq:fd 9 (c.map fun c=>(c.1.map eS,c.2)) with
 | true =>
  refine zW (aC hl g0) ?_
  exact ⟨by unfold mX; rw [hq,Bool.true_or],zK⟩
 | false =>
  refine zW (aD hl g0 d0) ?_
  refine Y4 (yC C (n:=9) zF ((Fg (hg.mono k2.sub)).mono (zG H2)) zO) fun H3 hk3=>?_
  have k3:Kp H H3:=k2.trans (Zi zK hk3)
  have le_k3:=k3.le
  refine zW (aC hl g0) ?_
  exact ⟨by unfold mX; rw [hq,Xw],zK⟩
theorem GG (C:Code tab) (hw:Wf H) {v v':AV} {n n':Nat} {c c':List (List Int × Bool)} {g g':List (Nat × List Int)} (hp:PolyV H v n c g) (hp':PolyV H v' n' c' g') (hc1:c.length<1099511627776) (hc2:∀ r∈c,r.1.length<1099511627776/\∀ z∈r.1,eY z) (hg1:g.length<1099511627776) (hg2:∀ r∈g,r.2.length<1099511627776/\∀ z∈r.2,eY z) :
  Ans tab (.fn fQ [v,v']) H fun x H'=>x=.bool (decide (n=n'/\c=c'/\g=g'))/\Kp H H':=by
 obtain ⟨vc,vg,rfl,hc,hg⟩:=hp
 obtain ⟨vc',vg',rfl,hc',hg'⟩:=hp'
 have oc:=hc.one
 have og:=hg.one
 have oc':=hc'.one
 have og':=hg'.one
 refine bz C.q24 zU fun T hl g0 g1=>?_
 by_cases hn:n=n'
 ·subst hn
  refine zW (bS hl g0 g1 (lM oc og) (lM oc' og')) ?_
  refine Y4 (zI C zF (hc.mono (zG H)) (hc'.mono (zG H)) hc1 hc2) fun H2 hk2=>?_
  obtain ⟨k2,_,w2⟩:=zT H zK hk2
  have d0:=hk2.get (b:=H.next) (e:=.cells [.int .i64 (n:Int),vc,vg] ag true) (cP)
  have d1:=hk2.get (b:=H.next+1) (e:=.cells [.int .i64 (n:Int),vc',vg'] ag true) (cP)
  by_cases hcc:c=c'
  ·rw [decide_eq_true hcc]
   refine zW (bS hl g0 g1 d0 d1) ?_
   refine Y4 (zH C zF ((hg.mono k2.sub).mono (zG H2)) ((hg'.mono k2.sub).mono (zG H2)) hg1 hg2) fun H3 hk3=>?_
   have k3:Kp H H3:=k2.trans (Zi zK hk3)
   have le_k3:=k3.le
   refine zW (aD hl g0 g1) ?_
   exact ⟨by simp [hcc],zK⟩
  ·rw [decide_eq_false hcc]
   refine zW (aD hl g0 g1) ?_
   exact ⟨by simp [hcc],zK⟩
 ·have hn':¬ (n:Int)=(n':Int):=by omega
  refine zW (dV hl g0 g1 (lM oc og) (lM oc' og') hn') ?_
  exact ⟨by simp [hn],zK⟩
end
section
variable {tab:Nat->Option aw} {H:Heap} {s:AV}
theorem Sc {H:Heap} {b:Nat} {v:AV} {x:List Int} {p r:Bool} (h:H.get b=some (.cells [v,.bool p] t_api_Con r)) (hv:RowV H v x):SlV conE t_api_Con H (.own b 0 1 1 2 true) [(x,p)] :=
 ⟨[_,_],Zr h rfl (TO _),fun _ _ _ _ _ _ e=>by cases e; exact ⟨_,_,h⟩,Za (E:=conE) ⟨v,rfl,hv⟩⟩
theorem Sb {H:Heap} {b:Nat} {v w:AV} {x y:List Int} {p q r:Bool} (h:H.get b=some (.cells [v,.bool p,w,.bool q] t_api_Con r)) (hv:RowV H v x) (hw:RowV H w y):SlV conE t_api_Con H (.own b 0 2 2 2 true) [(x,p),(y,q)] :=
 ⟨[_,_,_,_],Zr h rfl (TO _),fun _ _ _ _ _ _ e=>by cases e; exact ⟨_,_,h⟩,(Za (E:=conE) ⟨v,rfl,hv⟩).append (Za (E:=conE) ⟨w,rfl,hw⟩)⟩
theorem uT {many lim:Nat} {r:List (Bool × List Nat)} (h:ju many lim r=false):r.length<=many/\∀ z∈r,z.2.length<=lim:=by
 unfold ju at h
 rw [We,decide_eq_false_iff_not,Vh] at h
 refine ⟨by omega,fun z hz=>?_⟩
 have:=h.2 z hz
 simp only [decide_eq_true_eq] at this
 omega
theorem jv {n:Nat} {l:List vQ} (h:fd n l=false):l.length<=n/\∀ c∈l,c.1.length<=5/\∀ z∈c.1,z.2.length<=1:=by
 unfold fd at h
 rw [We,decide_eq_false_iff_not,Vh] at h
 exact ⟨by omega,fun c hc=>uT (by simpa using h.2 c hc)⟩
theorem Au {n:Nat} {l:List F6} (h:mY n l=false):l.length<=n/\∀ c∈l,c.2.length<=5/\∀ z∈c.2,z.2.length<=1:=by
 unfold mY at h
 rw [We,decide_eq_false_iff_not,Vh] at h
 exact ⟨by omega,fun c hc=>uT (by simpa using h.2 c hc)⟩
theorem Hv {n:Nat} {l:List vQ} (h:fd n l=false):∀ c∈l,xp c.1:=fun c hc=>by
 obtain ⟨h1,h2⟩:=(jv h).2 c hc
 exact ⟨by omega,fun z hz=>by have:=h2 z hz; omega⟩
abbrev Qa (c:vQ):List Int × Bool:=(c.1.map fE,c.2)
theorem Q4 {r:List (Bool × List Nat)} (hl:∀ z∈r,Lim z.2/\z.2.length<=1):Lin.Bd (2^64) (r.map fE):=fun i=>by
 unfold Lin.at_
 rw [TI]
 cases hi:(r.map fE)[i]? with
 | none=>simp
 | some z =>
  obtain ⟨x,hx,rfl⟩:=TN.1 (Ua hi)
  have:=L6 (n:=1) (hl x hx).1 (hl x hx).2
  unfold Bt at this
  simp only [Vg] at this
  simp only [Vm]
  omega
theorem Pe {r:List (Bool × List Nat)} (h:Bj r=true):∀ z∈r,rI z=false:=by
 simp only [Bj,Uq,UT,Vh,Xu] at h
 exact h.2
theorem KY {d:Int} {n:Nat} {l:List vQ} (hs:SlV conQE t_api_Con H s l) (gl:∀ r∈l,iG r.1) (hg:fd n l=false) (h4:¬ 4<d) (hn:n<=60) :
  dI d l≠0\/∃ k:Nat,d=(k:Int)/\k<=4/\SlV conE t_api_Con H s (l.map Qa)/\l.length<=n/\∀ c∈l.map Qa,c.1.length=k+1/\Lin.Bd (2^64) c.1:=by
 by_cases hc:dI d l=0
 ·refine .inr ?_
  obtain ⟨h1,h2⟩:=jv hg
  unfold dI at hc
  split at hc
  ·omega
  split at hc
  ·omega
  split at hc
  ·omega
  split at hc
  ·omega
  rename_i q1 q2 q3 q4
  have q3:∀ c∈l,Bj c.1=true:=fun c hc=>by
   cases hok:Bj c.1 with
   | true=>rfl
   | false=>exact absurd (Uv.2 ⟨c,hc,by rw [hok]; rfl⟩) q3
  have q4:∀ c∈l,(c.1.length:Int)=d+1:=fun c hc=>by
   apply UB
   intro hn
   exact q4 (Uv.2 ⟨c,hc,by simpa using hn⟩)
  refine ⟨d.toNat,by omega,by omega,NF hs fun r hr z hz=>⟨Pe (q3 r hr) z hz,((gl r hr).1 z hz).1⟩,h1,fun c hc=>?_⟩
  obtain ⟨x,hx,rfl⟩:=TN.1 hc
  refine ⟨?_,Q4 fun z hz=>⟨((gl x hx).1 z hz).1,(h2 x hx).2 z hz⟩⟩
  have:=q4 x hx
  show (x.1.map fE).length=_
  rw [TT]
  omega
 ·exact .inl hc
end
end Go.Proofs.YtofhopjbbpihaaaGreat.Ev
namespace Go.Proofs.YtofhopjbbpihaaaGreat.Lin
set_option linter.all false
theorem IT {α:Type} {P:α->V->Prop}:∀ (l:List α) (I:List V),l.Nodup->(∀ b∈l,∃ i∈I,P b i)->(∀ b∈l,∀ b'∈l,∀ i,P b i->P b' i->b=b')->l.length<=I.length
 | [],I,_,_,_=>by simp
 | b :: l,I,hn,h,hj=>by
  obtain ⟨i,hi,hp⟩:=h b (TW ..)
  obtain ⟨n1,n2⟩:=Wi.1 hn
  have h1:=IT l (I.erase i) n2 (fun b' hb'=>by
   obtain ⟨i',hi',hp'⟩:=h b' (TQ _ hb')
   refine ⟨i',(List.mem_erase_of_ne fun e=>?_).2 hi',hp'⟩
   rw [e] at hp'
   have:=hj b (TW ..) b' (TQ _ hb') i hp hp'
   rw [this] at n1
   exact n1 hb') fun x hx y hy=>hj x (TQ _ hx) y (TQ _ hy)
  rw [List.length_erase_of_mem hi] at h1
  have:=List.length_pos_of_mem hi
  rw [UH]
  omega
theorem PC {d:Nat} {E I L R A B:List V} (hE:∀ a∈E,a.length=d) (hI:∀ a∈I,a.length=d) (h:DD d (· ∈ E) (· ∈ I) (· ∈ L) R) (h':DD d (· ∈ L) (· ∈ R) (· ∈ A) B) {b:V} (hb:b∈B) :
  ∃ i∈I,∀ s∈R,dot s i=0 ↔ dot s b=0:=by
 have kb:=h'.keep b hb
 have ki:∀ i∈I,Keep d (· ∈ L) (· ∈ R) i:=fun i hi=>⟨hI i hi,fun l hl=>by rw [dot_comm]; exact h.lineI l hl i hi,fun r hr=>by rw [dot_comm]; exact (h.keep r hr).ge i hi⟩
 obtain ⟨z,hz,hzn⟩:=h'.off b hb
 have hzb:=kb.ge z hz
 have hsome:∃ i∈I,(∀ s∈R,dot s b=0->dot s i=0)/\∃ s∈R,dot s i≠0:=by
  apply UB
  intro hno
  obtain ⟨act,hact⟩:∃ act,act=R.filter fun a=>decide (dot a b=0):=⟨_,rfl⟩
  have ha:∀ a∈act,a∈R/\dot a b=0:=fun a h=>by rw [hact,Ud] at h; exact ⟨h.1,of_decide_eq_true h.2⟩
  have hal:∀ a∈act,a.length=d:=fun a h1=>h.lenR a (ha a h1).1
  obtain ⟨N,hN0,hN⟩:=zn (fun s=>dot z s) I
  have hyl:=uy hal
  have hlen:(zj d act).length=z.length:=hyl.trans (h.lenR z hz).symm
  have hy:Keep d (· ∈ E) (· ∈ I) (mix N (zj d act) (-1) z):=by
   refine ⟨mix_length hyl (h.lenR z hz),fun e he=>?_,fun i hi=>?_⟩
   ·rw [aS _ _ _ hlen,rS hal fun a h1=>(h.keep a (ha a h1).1).eq e he,(h.keep z hz).eq e he]
    simp
   ·rw [aS _ _ _ hlen]
    by_cases hs:∃ s∈R,dot s i≠0
    ·have hp:∃ s∈R,dot s b=0/\dot s i≠0:=by
      apply UB
      intro hn
      exact hno ⟨i,hi,fun s hs h0=>UB fun h1=>hn ⟨s,hs,h0,h1⟩,hs⟩
     obtain ⟨s,hs,h0,h1⟩:=hp
     have hpos:=(xE (x:=i) hal fun a h1=>(h.keep a (ha a h1).1).ge i hi).2 ⟨s,by rw [hact,Ud]; exact ⟨hs,by simpa using h0⟩,by rw [dot_comm]; exact h1⟩
     have hb':=hN i hi
     rw [dot_comm i z]
     have:=XC hpos hN0
     omega
    ·have h0:∀ s∈R,dot s i=0:=fun s hs'=>UB fun h1=>hs ⟨s,hs',h1⟩
     rw [rS hal fun a h1=>by rw [dot_comm]; exact h0 a (ha a h1).1,dot_comm i z,h0 z hz]
     simp
  have h1:=(h.all _ hy).dot_nonneg (a:=b) h.lenL h.lenR (fun l hl=>by rw [dot_comm]; exact kb.eq l hl) (fun r hr=>by rw [dot_comm]; exact kb.ge r hr)
  rw [aS _ _ _ hlen,rS hal fun a h1=>by rw [dot_comm]; exact (ha a h1).2,dot_comm b z] at h1
  omega
 obtain ⟨i,hi,hs,s0,hs0,hn0⟩:=hsome
 refine ⟨i,hi,fun s hs'=>⟨fun h0=>?_,hs s hs'⟩⟩
 obtain ⟨k,c,hk,hc,hsp⟩:=h'.ext b hb i (ki i hi) hs
 have key:∀ s∈R,k*dot s i=c*dot s b:=fun s hs=>by
  have:=Zb (a:=s) h'.lenL (fun r h=>h.elim) (fun x hx=>h'.lineI x hx s hs) (fun r h=>h.elim) hsp
  rw [aS _ _ _ ((hI i hi).trans kb.len.symm),Xz] at this
  omega
 have hc0:c≠0:=fun e=>by
  have:=key s0 hs0
  rw [e] at this
  rcases Um.1 (show k*dot s0 i=0 by omega) with h1 | h1
  ·omega
  ·exact hn0 h1
 have:=key s hs'
 rw [h0] at this
 rcases Um.1 (show c*dot s b=0 by omega) with h1 | h1
 ·exact absurd h1 hc0
 ·exact h1
theorem B8 {d:Nat} {E I L R A B:List V} (hE:∀ a∈E,a.length=d) (hI:∀ a∈I,a.length=d) (h:DD d (· ∈ E) (· ∈ I) (· ∈ L) R) (h':yE d (· ∈ L) (· ∈ R) A B):B.length<=I.length:=by
 refine IT (P:=fun b i=>∀ s∈R,dot s i=0 ↔ dot s b=0) B I (told_nodup h') (fun b hb=>PC hE hI h h'.dd hb) fun b hb b' hb' i h1 h2=>?_
 apply UB
 intro hne
 obtain ⟨s,hs,h3,h4⟩:=Gt h' hb' hb hne
 exact h4 ((h1 s hs).1 ((h2 s hs).2 h3))
section
variable {n:Nat} {l:List (V × Bool)}
theorem own_len (h:∀ c∈l,c.1.length=n+1):(consP n (gensP n l)).length<=l.length+n+2:=by
 by_cases hs:(gensR (n+1) (eqsOf l) (ineqsOf n l)).any (fun r=>decide (0<hd1 r))=true
 ·obtain ⟨p1,p2,p3⟩:=mZ hs
  have t1:=gens_told (eqs_len h) (ineqs_len h)
  have t2:=gens_told t1.dd.lenL t1.dd.lenR
  have h1:=B8 (eqs_len h) (ineqs_len h) t1.dd t2
  have h2:=Ev.ech_len t2.form
  have h3:(ineqsOf n l).length<=l.length+1:=by
   unfold ineqsOf
   rw [UH,TT]
   have:=U7 (fun c:V × Bool=>!c.2) l
   omega
  unfold consP
  rw [if_pos p3,p1,p2,T9,TT,TT]
  have:=U7 (fun r:V=>!decide (r=unitC n 1)) (gensR (n+1) (gensL (n+1) (eqsOf l) (ineqsOf n l)) (gensR (n+1) (eqsOf l) (ineqsOf n l)))
  omega
 ·have e:gensP n l=[]:=by unfold gensP; rw [if_neg hs]
  rw [e]
  show 1<=_
  omega
theorem span_len {g:List (Nat × V)} (hg:ValidG n g):(gensP n (consP n g)).length<=g.length+n+1:=by
 by_cases h3:g.any (fun x=>x.1 == 3)=true
 ·have e1:∀ a∈linesOf g,a.length=n+1:=fun a ha=>(hg _ (mem_lines.1 ha)).1
  have e2:∀ a∈raysOf g,a.length=n+1:=fun a ha=>by obtain ⟨k,-,h⟩:=mem_rays.1 ha; exact (hg _ h).1
  have t:=gens_told e1 e2
  have hl:=ng (n:=n) (g:=g) fun x hx=>(hg x hx).1
  have t2:=gens_told (eqs_len hl) (ineqs_len hl)
  have t3:=gens_told t.dd.lenL t.dd.lenR
  have hk:∀ x,eM n (consP n g) x ↔ Keep (n+1) (· ∈ gensL (n+1) (linesOf g) (raysOf g)) (· ∈ gensR (n+1) (linesOf g) (raysOf g)) x:=fun x=>by
   rw [my h3]
   refine ⟨fun h=>h.2,fun h=>⟨?_,h⟩⟩
   have hc:=(Cb e1 e2 t.dd t3.dd)
   have hu:Keep (n+1) (· ∈ linesOf g) (· ∈ raysOf g) (unitC n 1):=by
    refine ⟨unitC_len n 1,fun a ha=>?_,fun b hb=>?_⟩
    ·rw [dot_comm,fO]
     obtain ⟨-,-,q⟩:=hg _ (mem_lines.1 ha)
     have:hd1 a=0:=q (show ¬ (1:Nat)=3 by omega)
     omega
    ·rw [dot_comm,fO]
     obtain ⟨k,-,hm⟩:=mem_rays.1 hb
     obtain ⟨-,q1,q2⟩:=hg _ hm
     by_cases hk3:k=3
     ·have:0<hd1 b:=q1 hk3
      omega
     ·have:hd1 b=0:=q2 hk3
      omega
   have:=(t.dd.all _ hu).dot_nonneg (a:=x) t.dd.lenL t.dd.lenR (fun l hl=>by rw [dot_comm]; exact h.eq l hl) (fun r hr=>by rw [dot_comm]; exact h.ge r hr)
   rw [dot_comm,fO] at this
   omega
  obtain ⟨q1,q2⟩:=nl t2 t3 hk
  have h1:=B8 e1 e2 t.dd t3
  have h2:=Ev.ech_len t3.form
  have h4:(raysOf g).length<=g.length:=by
   unfold raysOf
   rw [TT]
   exact U7 _ _
  unfold gensP
  split
  ·rw [q1,q2,T9,TT,TT]
   omega
  ·show 0<=_
   omega
 ·have e:consP n g=[(unitC n (-1),false)]:=by unfold consP; rw [if_neg h3]
  rw [e,none_empty]
  show 0<=_
  omega
end
section
variable {n:Nat} {l m:List (V × Bool)}
theorem pf (hne:gensP n l≠[]):(gensR (n+1) (eqsOf l) (ineqsOf n l)).any (fun r=>decide (0<hd1 r))=true:=by
 cases hs:(gensR (n+1) (eqsOf l) (ineqsOf n l)).any (fun r=>decide (0<hd1 r)) with
 | true=>rfl
 | false=>exact absurd (by unfold gensP; rw [if_neg (by rw [hs]; decide)]) hne
theorem sq (h:∀ c∈l,c.1.length=n+1):gensP n l≠[] ↔ ∃ x,eM n l x/\0<hd1 x:=by
 constructor
 ·intro hne
  have:=pf hne
  rw [Uv] at this
  obtain ⟨r,hr,h0⟩:=this
  exact ⟨r,MI h hr,of_decide_eq_true h0⟩
 ·rintro ⟨x,hx,h0⟩ he
  have hs:¬ (gensR (n+1) (eqsOf l) (ineqsOf n l)).any (fun r=>decide (0<hd1 r))=true:=fun hs=>by
   have:=(mZ hs).2.2
   rw [he] at this
   cases this
  have t:=gens_told (eqs_len h) (ineqs_len h)
  have h1:∀ r∈gensR (n+1) (eqsOf l) (ineqsOf n l),dot (unitC n 1) r=0:=fun r hr=>by
   rw [fO]
   have h2:=(keepP_iff.1 (MI h hr)).2.1
   have h3:¬ 0<hd1 r:=fun h3=>hs (Uv.2 ⟨r,hr,by simpa using h3⟩)
   omega
  have h2:∀ r∈gensL (n+1) (eqsOf l) (ineqsOf n l),dot (unitC n 1) r=0:=fun r hr=>t.dd.lineI r hr _ (mem_ineqs.2 (.inl rfl))
  have:=(t.dd.all x hx).dot_zero t.dd.lenL t.dd.lenR h2 h1
  rw [fO] at this
  omega
theorem nC {c:V × Bool} {g:Nat × V}:keepsP c g=true ↔ (if c.2=true\/g.1=1 then dot c.1 g.2=0 else 0<=dot c.1 g.2):=by
 unfold keepsP
 by_cases h:c.2=true\/g.1=1
 ·rw [if_pos h,if_pos (by simpa using h)]; simp
 ·rw [if_neg h,if_neg (by simpa using h)]; simp
theorem tx (h:∀ c∈l,c.1.length=n+1) (hne:gensP n l≠[]) {c:V × Bool}:(∀ g∈gensP n l,keepsP c g=true) ↔ CF n l c:=by
 constructor
 ·intro hk x hx
  have t:=gens_told (eqs_len h) (ineqs_len h)
  have hs:=pf hne
  have e:gensP n l=(gensL (n+1) (eqsOf l) (ineqsOf n l)).map (fun r=>(1,r))++(gensR (n+1) (eqsOf l) (ineqsOf n l)).map (fun r=>(kindOf r,r)):=by
   unfold gensP; rw [if_pos hs]
  have hL:∀ r∈gensL (n+1) (eqsOf l) (ineqsOf n l),dot c.1 r=0:=fun r hr=>by
   have:=hk (1,r) (by rw [e]; exact U0 _ (TN.2 ⟨r,hr,rfl⟩))
   rw [nC,if_pos (.inr rfl)] at this
   exact this
  have hR:∀ r∈gensR (n+1) (eqsOf l) (ineqsOf n l),(c.2=true->dot c.1 r=0)/\0<=dot c.1 r:=fun r hr=>by
   have:=hk (kindOf r,r) (by rw [e]; exact Ve _ (TN.2 ⟨r,hr,rfl⟩))
   rw [nC] at this
   split at this
   ·exact ⟨fun _=>this,by simp only at this; omega⟩
   ·rename_i hc
    exact ⟨fun e=>absurd (.inl e) hc,this⟩
  exact ⟨fun hb=>(t.dd.all x hx).dot_zero t.dd.lenL t.dd.lenR hL fun r hr=>(hR r hr).1 hb,(t.dd.all x hx).dot_nonneg t.dd.lenL t.dd.lenR hL fun r hr=>(hR r hr).2⟩
 ·intro hv g hg
  obtain ⟨k1,k2⟩:=m6 h hg
  exact mc hv k1 k2
def inP (G:List (Nat × V)) (K:List (V × Bool)):Bool:=G.all fun g=>K.all fun c=>keepsP c g
theorem inP_iff {G:List (Nat × V)} {K:List (V × Bool)}:inP G K=true ↔ ∀ g∈G,∀ c∈K,keepsP c g=true:=by
 unfold inP
 rw [Uj]
 exact ⟨fun h g hg=>Uj.1 (h g hg),fun h g hg=>Uj.2 (h g hg)⟩
theorem Dw {x:V} (hx:eM n l x) (hv:∀ c∈m,CF n l c):eM n m x:=by
 have:=keepP_iff.1 hx
 exact keepP_iff.2 ⟨this.1,this.2.1,fun c hc=>⟨(hv c hc x hx).1,fun _=>(hv c hc x hx).2⟩⟩
theorem in_iff (hl:∀ c∈l,c.1.length=n+1) (hm:∀ c∈m,c.1.length=n+1):inP (gensP n l) (consP n (gensP n m))=true ↔ (gensP n l=[]\/∀ x,eM n l x->eM n m x):=by
 rw [inP_iff]
 by_cases he:gensP n l=[]
 ·rw [he]; simp
 constructor
 ·intro h
  right
  have hv:∀ c∈consP n (gensP n m),CF n l c:=fun c hc=>(tx hl he).1 fun g hg=>h g hg c hc
  obtain ⟨x0,hx0,p0⟩:=(sq hl).1 he
  have hm0:gensP n m≠[]:=fun e=>by
   rw [e] at hv
   have:=(hv (unitC n (-1),false) (UV.2 rfl) x0 hx0).2
   rw [fO] at this
   omega
  intro x hx
  exact (uI hm (pf hm0) x).1 (Dw hx hv)
 ·rintro (h | h)
  ·exact absurd h he
  obtain ⟨x0,hx0,p0⟩:=(sq hl).1 he
  have hm0:gensP n m≠[]:=(sq hm).2 ⟨x0,h x0 hx0,p0⟩
  intro g hg c hc
  exact (tx hl he).2 (fun x hx=>wg hc x ((uI hm (pf hm0) x).2 (h x hx))) g hg
structure Own (n:Nat) (K:List (V × Bool)) (G:List (Nat × V)):Prop where
 rows:∀ c∈K,c.1.length=n+1
 gens:gensP n K=G
 cons:consP n G=K
theorem own_of (h:∀ c∈l,c.1.length=n+1):Own n (consP n (gensP n l)) (gensP n l):=⟨ng (wW h),Ka h,rfl⟩
theorem Own.valid {K:List (V × Bool)} {G:List (Nat × V)} (h:Own n K G):ValidG n G:=by rw [<- h.gens]; exact Fj h.rows
theorem Own.point {K:List (V × Bool)} {G:List (Nat × V)} (h:Own n K G) (hne:G≠[]):G.any (fun x=>x.1 == 3)=true:=by
 have:=h.gens; rw [<- this] at hne ⊢; exact GM hne
theorem Own.in_iff {K K':List (V × Bool)} {G G':List (Nat × V)} (h:Own n K G) (h':Own n K' G'):inP G K'=true ↔ (G=[]\/∀ x,eM n K x->eM n K' x):=by
 have:=Lin.in_iff (n:=n) h.rows h'.rows
 rw [h.gens,h'.gens,h'.cons] at this
 exact this
theorem keepP_app {x:V}:eM n (l++m) x ↔ eM n l x/\eM n m x:=by
 rw [keepP_iff,keepP_iff,keepP_iff]
 constructor
 ·rintro ⟨h1,h2,h3⟩
  exact ⟨⟨h1,h2,fun c hc=>h3 c (U0 _ hc)⟩,h1,h2,fun c hc=>h3 c (Ve _ hc)⟩
 ·rintro ⟨⟨h1,h2,h3⟩,-,-,h4⟩
  exact ⟨h1,h2,fun c hc=>(Uc.1 hc).elim (h3 c) (h4 c)⟩
theorem sD (hl:∀ c∈l,c.1.length=n+1) (hm:∀ c∈m,c.1.length=n+1):∀ c∈l++m,c.1.length=n+1:=fun c hc=>(Uc.1 hc).elim (hl c) (hm c)
section
variable {K K' Kr:List (V × Bool)} {G G' Gr:List (Nat × V)}
theorem both_turn (h:Own n K G) (h':Own n K' G'):gensP n (K++K')=gensP n (K'++K) :=
 Av (sD h.rows h'.rows) (sD h'.rows h.rows) fun x=>by rw [keepP_app,keepP_app]; exact And.comm
theorem both_in (h:Own n K G) (h':Own n K' G'):inP (gensP n (K++K')) K=true/\inP (gensP n (K++K')) K'=true:=by
 have o:=own_of (sD h.rows h'.rows)
 rw [inP_iff,inP_iff]
 exact ⟨fun g hg c hc=>poly_keeps (sD h.rows h'.rows) hg (.inl (U0 _ hc)),fun g hg c hc=>poly_keeps (sD h.rows h'.rows) hg (.inl (Ve _ hc))⟩
theorem both_least (h:Own n K G) (h':Own n K' G') (r:Own n Kr Gr):inP Gr (consP n (gensP n (K++K')))=(inP Gr K && inP Gr K'):=by
 have e:=Lin.in_iff (n:=n) r.rows (sD h.rows h'.rows)
 rw [r.gens] at e
 rw [UP,Uq,e,r.in_iff h,r.in_iff h']
 constructor
 ·rintro (q | q)
  ·exact ⟨.inl q,.inl q⟩
  ·exact ⟨.inr fun x hx=>(keepP_app.1 (q x hx)).1,.inr fun x hx=>(keepP_app.1 (q x hx)).2⟩
 ·rintro ⟨q1 | q1,q2 | q2⟩
  ·exact .inl q1
  ·exact .inl q1
  ·exact .inl q2
  ·exact .inr fun x hx=>keepP_app.2 ⟨q1 x hx,q2 x hx⟩
end
section
variable {g g':List (Nat × V)}
theorem BP (hg:ValidG n g) (h3:g.any (fun x=>x.1 == 3)=true):gensP n (consP n g)≠[]:=by
 have h4:=h3
 rw [Uv] at h4
 obtain ⟨x,hx,e⟩:=h4
 refine (sq (ng fun x hx=>(hg x hx).1)).2 ⟨x.2,(rU hg h3 hx).1,(hg x hx).2.1 (by simpa using e)⟩
theorem MU (h3:¬ g.any (fun x=>x.1 == 3)=true):consP n g=[(unitC n (-1),false)]:=by
 unfold consP; rw [if_neg h3]
theorem JL (hg:ValidG n g):consP n (gensP n (consP n g))=consP n g:=by
 by_cases h3:g.any (fun x=>x.1 == 3)=true
 ·have e1:∀ a∈linesOf g,a.length=n+1:=fun a ha=>(hg _ (mem_lines.1 ha)).1
  have e2:∀ a∈raysOf g,a.length=n+1:=fun a ha=>by obtain ⟨k,-,h⟩:=mem_rays.1 ha; exact (hg _ h).1
  have t:=gens_told e1 e2
  have hl:=ng (n:=n) (g:=g) fun x hx=>(hg x hx).1
  have t2:=gens_told (eqs_len hl) (ineqs_len hl)
  have hne:=BP hg h3
  obtain ⟨p1,p2,p3⟩:=mZ (pf hne)
  have t3:=gens_told t2.dd.lenL t2.dd.lenR
  have hk:∀ y,Keep (n+1) (· ∈ gensL (n+1) (eqsOf (consP n g)) (ineqsOf n (consP n g))) (· ∈ gensR (n+1) (eqsOf (consP n g)) (ineqsOf n (consP n g))) y ↔ Keep (n+1) (· ∈ linesOf g) (· ∈ raysOf g) y:=fun y=>by
   constructor
   ·intro hy
    have key:∀ x,eM n (consP n g) x->0<=dot y x:=fun x hx=>(t2.dd.all x hx).dot_nonneg t2.dd.lenL t2.dd.lenR (fun l hl=>by rw [dot_comm]; exact hy.eq l hl) (fun r hr=>by rw [dot_comm]; exact hy.ge r hr)
    refine ⟨hy.len,fun a ha=>?_,fun b hb=>?_⟩
    ·obtain ⟨q1,q2⟩:=rU hg h3 (mem_lines.1 ha)
     have r1:=key _ q1
     have r2:=key _ (q2 rfl)
     rw [dot_scl] at r2
     rw [dot_comm]
     simp only at r1 r2
     omega
    ·obtain ⟨k,-,hm⟩:=mem_rays.1 hb
     have:=key _ (rU hg h3 hm).1
     rw [dot_comm]; exact this
   ·intro hy
    have hc:=t.dd.all y hy
    have key:∀ x,eM n (consP n g) x->0<=dot x y:=fun x hx=>by
     have:=((my h3 x).1 hx).2
     exact hc.dot_nonneg t.dd.lenL t.dd.lenR (fun l hl=>by rw [dot_comm]; exact this.eq l hl) (fun r hr=>by rw [dot_comm]; exact this.ge r hr)
    refine ⟨hy.len,fun a ha=>?_,fun b hb=>?_⟩
    ·obtain ⟨q1,q2⟩:=Na hl ha
     have r1:=key _ q1
     have r2:=key _ q2
     rw [eF] at r2
     omega
    ·exact key _ (MI hl hb)
  obtain ⟨u1,u2⟩:=nl t3 t hk
  show (if (gensP n (consP n g)).any (fun x=>x.1 == 3)=true then _ else _)=(if g.any (fun x=>x.1 == 3)=true then _ else _)
  rw [if_pos p3,if_pos h3,p1,p2,u1,u2]
 ·rw [MU h3,none_empty]; rfl
theorem own_span (hg:ValidG n g):Own n (consP n g) (gensP n (consP n g)):=⟨ng fun x hx=>(hg x hx).1,rfl,JL hg⟩
theorem Is (hg:ValidG n g) (h3:g=[]\/g.any (fun x=>x.1 == 3)=true) {K:List (V × Bool)} (hK:∀ c∈K,c.1.length=n+1):inP (gensP n (consP n g)) K=inP g K:=by
 rcases h3 with rfl | h3
 ·rw [show consP n []=[(unitC n (-1),false)] from rfl,none_empty]
 have e1:∀ a∈linesOf g,a.length=n+1:=fun a ha=>(hg _ (mem_lines.1 ha)).1
 have e2:∀ a∈raysOf g,a.length=n+1:=fun a ha=>by obtain ⟨k,-,h⟩:=mem_rays.1 ha; exact (hg _ h).1
 have t:=gens_told e1 e2
 have hl:=ng (n:=n) (g:=g) fun x hx=>(hg x hx).1
 rw [UP,inP_iff,inP_iff]
 constructor
 ·intro h x hx c hc
  have hv:=(tx hl (BP hg h3)).1 fun g hg=>h g hg c hc
  obtain ⟨q1,q2⟩:=rU hg h3 hx
  exact mc hv q1 q2
 ·intro h x hx c hc
  have hv:CF n (consP n g) c:=fun y hy=>by
   have hk:=((my h3 y).1 hy).2
   have kL:∀ r∈linesOf g,dot c.1 r=0:=fun r hr=>by
    have:=h _ (mem_lines.1 hr) c hc
    rw [nC,if_pos (.inr rfl)] at this
    exact this
   have kR:∀ r∈raysOf g,(c.2=true->dot c.1 r=0)/\0<=dot c.1 r:=fun r hr=>by
    obtain ⟨k,hk,hm⟩:=mem_rays.1 hr
    have:=h _ hm c hc
    rw [nC] at this
    split at this
    ·exact ⟨fun _=>this,by simp only at this; omega⟩
    ·rename_i q
     exact ⟨fun e=>absurd (.inl e) q,this⟩
   have k1:Keep (n+1) (· ∈ linesOf g) (· ∈ raysOf g) c.1:=⟨hK c hc,fun a ha=>by rw [dot_comm]; exact kL a ha,fun b hb=>by rw [dot_comm]; exact (kR b hb).2⟩
   have p1:0<=dot c.1 y:=by
    have:=(t.dd.all _ k1).dot_nonneg (a:=y) t.dd.lenL t.dd.lenR (fun l hl=>by rw [dot_comm]; exact hk.eq l hl) (fun r hr=>by rw [dot_comm]; exact hk.ge r hr)
    rw [dot_comm]; exact this
   refine ⟨fun hb=>?_,p1⟩
   have k2:Keep (n+1) (· ∈ linesOf g) (· ∈ raysOf g) (scl (-1) c.1):=⟨ah (hK c hc),fun a ha=>by rw [dot_scl,dot_comm,kL a ha]; rfl,fun b hb'=>by rw [dot_scl,dot_comm,(kR b hb').1 hb]; exact VU _⟩
   have:=(t.dd.all _ k2).dot_nonneg (a:=y) t.dd.lenL t.dd.lenR (fun l hl=>by rw [dot_comm]; exact hk.eq l hl) (fun r hr=>by rw [dot_comm]; exact hk.ge r hr)
   rw [dot_scl,dot_comm] at this
   omega
  obtain ⟨q1,q2⟩:=m6 hl hx
  exact mc hv q1 q2
theorem HK (hg:ValidG n g) (hg':ValidG n g') (hs:∀ x,x∈g ↔ x∈g'):consP n g=consP n g':=by
 have e1:∀ a∈linesOf g,a.length=n+1:=fun a ha=>(hg _ (mem_lines.1 ha)).1
 have e2:∀ a∈raysOf g,a.length=n+1:=fun a ha=>by obtain ⟨k,-,h⟩:=mem_rays.1 ha; exact (hg _ h).1
 have f1:∀ a∈linesOf g',a.length=n+1:=fun a ha=>(hg' _ (mem_lines.1 ha)).1
 have f2:∀ a∈raysOf g',a.length=n+1:=fun a ha=>by obtain ⟨k,-,h⟩:=mem_rays.1 ha; exact (hg' _ h).1
 have m1:∀ a,a∈linesOf g ↔ a∈linesOf g':=fun a=>by rw [mem_lines,mem_lines,hs]
 have m2:∀ a,a∈raysOf g ↔ a∈raysOf g':=fun a=>by rw [mem_rays,mem_rays]; exact exists_congr fun k=>by rw [hs]
 obtain ⟨u1,u2⟩:=nl (gens_told e1 e2) (gens_told f1 f2) fun x=>⟨fun h=>⟨h.len,fun a ha=>h.eq a ((m1 a).2 ha),fun a ha=>h.ge a ((m2 a).2 ha)⟩,fun h=>⟨h.len,fun a ha=>h.eq a ((m1 a).1 ha),fun a ha=>h.ge a ((m2 a).1 ha)⟩⟩
 have e:g.any (fun x=>x.1 == 3)=g'.any (fun x=>x.1 == 3):=by
  rw [UP,Uv,Uv]
  exact exists_congr fun x=>by rw [hs]
 unfold consP
 rw [e,u1,u2]
end
section
variable {K K' Kr:List (V × Bool)} {G G' Gr:List (Nat × V)}
theorem validG_app (h:ValidG n G) (h':ValidG n G'):ValidG n (G++G'):=fun x hx=>(Uc.1 hx).elim (h x) (h' x)
theorem CA (h:Own n K G) (h':Own n K' G'):G++G'=[]\/(G++G').any (fun x=>x.1 == 3)=true:=by
 rw [List.any_append]
 by_cases e:G=[]
 ·by_cases e':G'=[]
  ·exact .inl (by rw [e,e']; rfl)
  ·exact .inr (by rw [h'.point e',XL])
 ·exact .inr (by rw [h.point e,Bool.true_or])
theorem hull_turn (h:Own n K G) (h':Own n K' G'):consP n (G++G')=consP n (G'++G) :=
 HK (validG_app h.valid h'.valid) (validG_app h'.valid h.valid) fun x=>by rw [Uc,Uc]; exact Or.comm
theorem IU (G G':List (Nat × V)) (K:List (V × Bool)):inP (G++G') K=(inP G K && inP G' K):=List.all_append
theorem hull_least (h:Own n K G) (h':Own n K' G') (r:Own n Kr Gr):inP (gensP n (consP n (G++G'))) Kr=(inP G Kr && inP G' Kr):=by
 rw [Is (validG_app h.valid h'.valid) (CA h h') r.rows,IU]
theorem hull_has (h:Own n K G) (h':Own n K' G'):inP G (consP n (G++G'))=true/\inP G' (consP n (G++G'))=true:=by
 have hv:=validG_app h.valid h'.valid
 have o:=own_span hv
 have e:=Is hv (CA h h') o.rows
 rw [IU] at e
 have:inP (gensP n (consP n (G++G'))) (consP n (G++G'))=true:=by
  rw [o.in_iff o]; exact .inr fun _ h=>h
 rw [this] at e
 have e:=e.symm
 rw [Uq] at e
 exact e
end
end
end Go.Proofs.YtofhopjbbpihaaaGreat.Lin
namespace Go.Proofs.YtofhopjbbpihaaaGreat.Ev
open Go Nn
set_option linter.all false
section
variable {tab:Nat->Option aw} {H:Heap} {s:AV}
theorem Cx {v:AV} (ov:One v) (b:Bool):gP (.agg [v,.bool b])=some [v,.bool b]:=by simp [gP,AV.cells,ov.2]; rfl
theorem FS {v:AV} (ov:One v) (k:Int):gP (.agg [.int .u8 k,v])=some [.int .u8 k,v]:=by simp [gP,AV.cells,ov.2]; rfl
theorem DJ (C:Code tab) (hw:Wf H) {cs cs':List AV} {x y:List Int × Bool} (hx:conE.R H cs x) (hy:conE.R H cs' y) (hl':x.1.length<1099511627776) (hz:∀ z∈x.1,eY z) :
  Ans tab (.fn gD [.agg cs,.agg cs']) H fun v H'=>v=.bool (decide (x=y))/\Kp H H':=by
 obtain ⟨v,rfl,hv⟩:=hx
 obtain ⟨w,rfl,hw'⟩:=hy
 have ov:=hv.one
 have ow:=hw'.one
 obtain ⟨a,p⟩:=x
 obtain ⟨b,q⟩:=y
 have hv:RowV H v a:=hv
 have hw':RowV H w b:=hw'
 refine bz C.q70 zU fun T hl g0 g1=>?_
 by_cases hb:p=q
 ·subst hb
  refine zW (dV hl g0 g1 (Cx ov) (Cx ow) (beq_self_eq_true (α:=Bool))) ?_
  refine Y4 (y8 C zF (hv.mono (zG H)) (hw'.mono (zG H)) hl' hz) fun H2 hk2=>?_
  obtain ⟨k2,_,_⟩:=zT H zK hk2
  refine zW (aD hl g0 g1) ?_
  exact ⟨by simp,zK⟩
 ·have hxb:(p == q)=false:=by simpa using hb
  refine zW (dV hl g0 g1 (Cx ov) (Cx ow) hxb) ?_
  exact ⟨by simp [hb],zK⟩
theorem DH (C:Code tab) (hw:Wf H) {cs cs':List AV} {x y:Nat × List Int} (hx:genE.R H cs x) (hy:genE.R H cs' y) (hl':x.2.length<1099511627776) (hz:∀ z∈x.2,eY z) :
  Ans tab (.fn gC [.agg cs,.agg cs']) H fun v H'=>v=.bool (decide (x=y))/\Kp H H':=by
 obtain ⟨v,rfl,hv⟩:=hx
 obtain ⟨w,rfl,hw'⟩:=hy
 have ov:=hv.one
 have ow:=hw'.one
 obtain ⟨p,a⟩:=x
 obtain ⟨q,b⟩:=y
 have hv:RowV H v a:=hv
 have hw':RowV H w b:=hw'
 refine bz C.q71 zU fun T hl g0 g1=>?_
 by_cases hb:p=q
 ·subst hb
  refine zW (bS hl g0 g1 (FS ov) (FS ow)) ?_
  refine Y4 (y8 C zF (hv.mono (zG H)) (hw'.mono (zG H)) hl' hz) fun H2 hk2=>?_
  obtain ⟨k2,_,_⟩:=zT H zK hk2
  refine zW (aD hl g0 g1) ?_
  exact ⟨by simp,zK⟩
 ·have hxb:¬ (p:Int)=(q:Int):=by omega
  refine zW (dV hl g0 g1 (FS ov) (FS ow) hxb) ?_
  exact ⟨by simp [hb],zK⟩
theorem BG (C:Code tab) (hw:Wf H) {a b:AV} {l m:List (List Int × Bool)} (ha:SlV conE t_api_Con H a l) (hb:SlV conE t_api_Con H b m) (hbig:l.length<1099511627776) (hz:∀ r∈l,r.1.length<1099511627776/\∀ z∈r.1,eY z) :
  Ans tab (.fn aV [a,b,.fn (.func gD) [] []]) H fun v H'=>v=.bool (decide (l=m))/\Kp H H':=by
 refine nd C.q72 zU fun T hl g0 g1 g2=>?_
 by_cases he:l.length=m.length
 ·have lb:lenV b=some (.int .i64 (l.length:Int)):=by rw [hb.lenV,he]
  refine zW (dV hl g0 g1 g2 ha.lenV lb) ?_
  refine am H [] (fun j _ _=>∀ q (h:q<l.length) (h':q<m.length),q<j->l[q]=m[q]) (a:=0) (N:=l.length) rfl (by refine zW (aX hl g0 g1 g2) ?_; rfl) (zV (aX hl g0 g1 g2)) (TY _) zO (by simp only [TH,hl]; rfl) rfl (fun _ _ _ _ h=>h) zK (fun q _ _ h=>by omega) ?_ ?_
  ·intro j T1 H1 _ hj hl1 hi1 hs1 hk1 hP
   have w1:=hk1.wf
   have le_hk1:=hk1.le
   have hj2:j<m.length:=by omega
   have t15:aa T1 15=a:=(hs1.at_ 15 zU).trans (zV (aC hl g0))
   have t1:aa T1 1=b:=(hs1.at_ 1 zU).trans (zV (bS hl g0 g1 g2 g1))
   have t2:aa T1 2=.fn (.func gD) [] []:=(hs1.at_ 2 zU).trans (zV (bS hl g0 g1 g2 g2))
   obtain ⟨_,⟨v,rfl,hr⟩,-,-,L⟩:=(ha.mono hk1.sub).at (TL hj)
   obtain ⟨_,⟨w,rfl,hr'⟩,-,-,L'⟩:=(hb.mono hk1.sub).at (TL hj2)
   have L:bg H1 (some 2) (az a (j*2))=some (.agg [v,.bool l[j].2]):=L
   have L':bg H1 (some 2) (az b (j*2))=some (.agg [w,.bool m[j].2]):=L'
   have hix:cw 2 a (.int .i64 (j:Int))=some (az a (j*2)):=Zu ha .i64 j hj
   have hiy:cw 2 b (.int .i64 (j:Int))=some (az b (j*2)):=Zu hb .i64 j hj2
   have ov:=hr.one
   have ow:=hr'.one
   have Lp0:=(Zm w1 L).put
   have Ll0:=(Zm w1 L).ld
   have Lp:=(Zm w1 L').put
   have Ll:=(Zm w1 L').ld
   simp only [TH,hl] at hl1
   refine zW (oF hl1 t15 t1 t2 hi1 hix hiy Lp0 Ll0 Lp Ll) ?_
   refine Y4 (DJ C (x:=l[j]) (y:=m[j]) zF ⟨v,rfl,hr.mono (zG H1)⟩ ⟨w,rfl,hr'.mono (zG H1)⟩ (hz _ (TM hj)).1 (hz _ (TM hj)).2) fun H2 hk2=>?_
   obtain ⟨k2,_,_⟩:=zT H zK hk2
   cases hq:decide (l[j]=m[j]) with
   | true =>
    have hq:=of_decide_eq_true hq
    refine zW hl1 ?_
    refine ⟨zK,fun q h h' hqi=>?_⟩
    by_cases e:q=j
    ·subst e; exact hq
    ·exact hP q h h' zO
   | false =>
    have hq:=of_decide_eq_false hq
    refine zW hl1 ?_
    refine ⟨?_,zK⟩
    rw [decide_eq_false]
    intro e; subst e; exact hq rfl
  ·intro T1 H1 hl1 hs1 hk1 hP
   simp only [TH,hl] at hl1
   refine zW hl1 ?_
   exact ⟨by rw [decide_eq_true (iV he fun q h h'=>hP q h h' h)],zK⟩
 ·have he':¬ (l.length:Int)=(m.length:Int):=by omega
  refine zW (lA hl g0 g1 g2 ha.lenV hb.lenV he' he) ?_
  refine ⟨?_,zK⟩
  rw [decide_eq_false]
  intro e; subst e; exact he rfl
theorem BF (C:Code tab) (hw:Wf H) {a b:AV} {l m:List (Nat × List Int)} (ha:SlV genE ak H a l) (hb:SlV genE ak H b m) (hbig:l.length<1099511627776) (hz:∀ r∈l,r.2.length<1099511627776/\∀ z∈r.2,eY z) :
  Ans tab (.fn aU [a,b,.fn (.func gC) [] []]) H fun v H'=>v=.bool (decide (l=m))/\Kp H H':=by
 refine nd C.q73 zU fun T hl g0 g1 g2=>?_
 by_cases he:l.length=m.length
 ·have lb:lenV b=some (.int .i64 (l.length:Int)):=by rw [hb.lenV,he]
  refine zW (dV hl g0 g1 g2 ha.lenV lb) ?_
  refine am H [] (fun j _ _=>∀ q (h:q<l.length) (h':q<m.length),q<j->l[q]=m[q]) (a:=0) (N:=l.length) rfl (by refine zW (aX hl g0 g1 g2) ?_; rfl) (zV (aX hl g0 g1 g2)) (TY _) zO (by simp only [TH,hl]; rfl) rfl (fun _ _ _ _ h=>h) zK (fun q _ _ h=>by omega) ?_ ?_
  ·intro j T1 H1 _ hj hl1 hi1 hs1 hk1 hP
   have w1:=hk1.wf
   have le_hk1:=hk1.le
   have hj2:j<m.length:=by omega
   have t15:aa T1 15=a:=(hs1.at_ 15 zU).trans (zV (aC hl g0))
   have t1:aa T1 1=b:=(hs1.at_ 1 zU).trans (zV (bS hl g0 g1 g2 g1))
   have t2:aa T1 2=.fn (.func gC) [] []:=(hs1.at_ 2 zU).trans (zV (bS hl g0 g1 g2 g2))
   obtain ⟨_,⟨v,rfl,hr⟩,-,-,L⟩:=(ha.mono hk1.sub).at (TL hj)
   obtain ⟨_,⟨w,rfl,hr'⟩,-,-,L'⟩:=(hb.mono hk1.sub).at (TL hj2)
   have L:bg H1 (some 2) (az a (j*2))=some (.agg [.int .u8 (l[j].1:Int),v]):=L
   have L':bg H1 (some 2) (az b (j*2))=some (.agg [.int .u8 (m[j].1:Int),w]):=L'
   have hix:cw 2 a (.int .i64 (j:Int))=some (az a (j*2)):=Zu ha .i64 j hj
   have hiy:cw 2 b (.int .i64 (j:Int))=some (az b (j*2)):=Zu hb .i64 j hj2
   have ov:=hr.one
   have ow:=hr'.one
   have Lp0:=(Zm w1 L).put
   have Ll0:=(Zm w1 L).ld
   have Lp:=(Zm w1 L').put
   have Ll:=(Zm w1 L').ld
   simp only [TH,hl] at hl1
   refine zW (oF hl1 t15 t1 t2 hi1 hix hiy Lp0 Ll0 Lp Ll) ?_
   refine Y4 (DH C (x:=l[j]) (y:=m[j]) zF ⟨v,rfl,hr.mono (zG H1)⟩ ⟨w,rfl,hr'.mono (zG H1)⟩ (hz _ (TM hj)).1 (hz _ (TM hj)).2) fun H2 hk2=>?_
   obtain ⟨k2,_,_⟩:=zT H zK hk2
   cases hq:decide (l[j]=m[j]) with
   | true =>
    have hq:=of_decide_eq_true hq
    refine zW hl1 ?_
    refine ⟨zK,fun q h h' hqi=>?_⟩
    by_cases e:q=j
    ·subst e; exact hq
    ·exact hP q h h' zO
   | false =>
    have hq:=of_decide_eq_false hq
    refine zW hl1 ?_
    refine ⟨?_,zK⟩
    rw [decide_eq_false]
    intro e; subst e; exact hq rfl
  ·intro T1 H1 hl1 hs1 hk1 hP
   simp only [TH,hl] at hl1
   refine zW hl1 ?_
   exact ⟨by rw [decide_eq_true (iV he fun q h h'=>hP q h h' h)],zK⟩
 ·have he':¬ (l.length:Int)=(m.length:Int):=by omega
  refine zW (lA hl g0 g1 g2 ha.lenV hb.lenV he' he) ?_
  refine ⟨?_,zK⟩
  rw [decide_eq_false]
  intro e; subst e; exact he rfl
theorem Cd (C:Code tab) (hw:Wf H) {v v':AV} {n n':Nat} {c c':List (List Int × Bool)} {g g':List (Nat × List Int)} (hp:PolyV H v n c g) (hp':PolyV H v' n' c' g') (hc1:c.length<1099511627776) (hc2:∀ r∈c,r.1.length<1099511627776/\∀ z∈r.1,eY z) (hg1:g.length<1099511627776) (hg2:∀ r∈g,r.2.length<1099511627776/\∀ z∈r.2,eY z) :
  Ans tab (.fn rc [v,v']) H fun x H'=>x=.bool (decide (n=n'/\c=c'/\g=g'))/\Kp H H':=by
 obtain ⟨vc,vg,rfl,hc,hg⟩:=hp
 obtain ⟨vc',vg',rfl,hc',hg'⟩:=hp'
 have oc:=hc.one
 have og:=hg.one
 have oc':=hc'.one
 have og':=hg'.one
 refine bz C.q50 zU fun T hl g0 g1=>?_
 by_cases hn:n=n'
 ·subst hn
  refine zW (bS hl g0 g1 (lM oc og) (lM oc' og')) ?_
  refine Y4 (BG C zF (hc.mono (zG H)) (hc'.mono (zG H)) hc1 hc2) fun H2 hk2=>?_
  obtain ⟨k2,_,w2⟩:=zT H zK hk2
  have d0:=hk2.get (b:=H.next) (e:=.cells [.int .i64 (n:Int),vc,vg] ag true) (cP)
  have d1:=hk2.get (b:=H.next+1) (e:=.cells [.int .i64 (n:Int),vc',vg'] ag true) (cP)
  by_cases hcc:c=c'
  ·rw [decide_eq_true hcc]
   refine zW (bS hl g0 g1 d0 d1) ?_
   refine Y4 (BF C zF ((hg.mono k2.sub).mono (zG H2)) ((hg'.mono k2.sub).mono (zG H2)) hg1 hg2) fun H3 hk3=>?_
   have k3:Kp H H3:=k2.trans (Zi zK hk3)
   have le_k3:=k3.le
   refine zW (aD hl g0 g1) ?_
   exact ⟨by simp [hcc],zK⟩
  ·rw [decide_eq_false hcc]
   refine zW (aD hl g0 g1) ?_
   exact ⟨by simp [hcc],zK⟩
 ·have hn':¬ (n:Int)=(n':Int):=by omega
  refine zW (dV hl g0 g1 (lM oc og) (lM oc' og') hn') ?_
  exact ⟨by simp [hn],zK⟩
theorem J9 (C:Code tab) (hw:Wf H) {v w:AV} {a r:List Int} {e f:Nat} (ha:RowV H v a) (hr:RowV H w r) (har:a.length=r.length) (h64:a.length<=64) (hae:∀ z∈a,Bt e z) (hrf:∀ z∈r,Bt f z) (hbt:e+f+7<=8796093022208) :
  Ans tab (.fn qN [v,w]) H fun x H'=>x=.int .i64 (iK (Lin.dot a r))/\Kp H H':=by
 refine bz C.q49 zU fun T hl g0 g1=>?_
 refine zW (aD hl g0 g1) ?_
 refine Y5 (tw C zF (ha.mono (zG H)) (hr.mono (zG H)) har h64 hae hrf hbt) ?_
 rintro x H2 ⟨q,rfl,⟨p,rfl,hp⟩,hk2⟩
 obtain ⟨k2,_,w2⟩:=zT H zK hk2
 have op:=hp.one
 have n2:H.next+10<=H2.next:=hk2.le
 have fr:H2.get (H.next+7)=none:=hk2.free (show H.next+7<H.next+10 by omega) (hw.fresh (b:=H.next+7) zO)
 obtain ⟨G,hG⟩:∃ G,G=((H2.up 7).put (H.next+7) (.cells [.bool false,.nilSl] ad true)).put (H.next+7) (.cells [.bool (decide (Lin.dot a r<0)),p] ad true):=⟨_,rfl⟩
 have kG:Kp H G:=by rw [hG]; exact zK
 have hpG:cr G p (Lin.dot a r).natAbs:=by
  rw [hG]
  exact hp.mono (((ZB H2 7).put fr _).put fr _)
 refine zW (aD hl g0 g1) ?_
 rw [<- hG]
 refine Y4 (pk C (x:=Lin.dot a r) kG.wf ⟨p,rfl,hpG⟩ ((pO hae hrf har h64).sm hbt)) fun H3 hk3=>?_
 have k3:Kp H H3:=kG.trans hk3
 have le_k3:=k3.le
 refine zW (aD hl g0 g1) ?_
 exact zK
theorem poly_keeps (C:Code tab) (hw:Wf H) {v w:AV} {b:Bool} {k:Nat} {a r:List Int} {e f:Nat} (ha:RowV H v a) (hr:RowV H w r) (har:a.length=r.length) (h64:a.length<=64) (hae:∀ z∈a,Bt e z) (hrf:∀ z∈r,Bt f z) (hbt:e+f+7<=8796093022208) :
  Ans tab (.fn gZ [.agg [.int .u8 (k:Int),w],.agg [v,.bool b]]) H fun x H'=>x=.bool (Lin.keepsP (a,b) (k,r))/\Kp H H':=by
 have ov:=ha.one
 have ow:=hr.one
 refine bz C.q26 zU fun T hl g0 g1=>?_
 refine zW (bS hl g0 g1 (Cx ov) (FS ow)) ?_
 refine Y4 (J9 C (e:=f) (f:=e) zF (hr.mono (zG H)) (ha.mono (zG H)) har.symm zO hrf hae zO) fun H2 hk2=>?_
 obtain ⟨k2,_,w2⟩:=zT H zK hk2
 have d1:H2.get H.next=some (.cells [.int .u8 (k:Int),w] ak true):=hk2.get (cP)
 have d2:H2.get (H.next+1)=some (.cells [v,.bool b] t_api_Con true):=hk2.get (cP)
 have hd:=Lin.dot_comm r a
 cases b with
 | true =>
  refine zW (bS hl g0 g1 d1 d2) ?_
  refine ⟨?_,zK⟩
  congr 1
  rw [UP]
  simp [Lin.keepsP,iv,hd]
 | false =>
  by_cases hk1:k=1
  ·subst hk1
   have d1:H2.get H.next=some (.cells [.int .u8 1,w] ak true):=d1
   refine zW (bS hl g0 g1 d1 d2) ?_
   refine ⟨?_,zK⟩
   congr 1
   rw [UP]
   simp [Lin.keepsP,iv,hd]
  ·have hk2':¬ (k:Int)=1:=by omega
   refine zW (dV hl g0 g1 d1 d2 hk2') ?_
   refine ⟨?_,zK⟩
   congr 1
   rw [UP]
   simp [Lin.keepsP,GA,hd,hk1]
theorem F2 {α:Type} {p:α->Bool} {l:List α} {j:Nat} (hj:j<l.length):(l.take (j+1)).all p=((l.take j).all p && p l[j]):=by
 rw [List.take_succ,TL hj,List.all_append]; simp
theorem GN (C:Code tab) (hw:Wf H) {a b:AV} {n e f:Nat} {G:List (Nat × List Int)} {K:List (List Int × Bool)} (ha:SlV genE ak H a G) (hb:SlV conE t_api_Con H b K) (hG:∀ x∈G,x.2.length=n+1/\Lin.Bd (2^e) x.2) (hK:∀ c∈K,c.1.length=n+1/\Lin.Bd (2^f) c.1) (hn:n<=60) (hlG:G.length<1099511627776) (hlK:K.length<1099511627776) (hef:e+f<=4398046511104) :
  Ans tab (.fn pB [a,b,.fn (.func gZ) [] []]) H fun v H'=>v=.bool (Lin.inP G K)/\Kp H H':=by
 refine nd C.q25 zU fun T hl g0 g1 g2=>?_
 refine zW (bS hl g0 g1 g2 ha.lenV) ?_
 refine am H [] (fun j _ _=>Lin.inP (G.take j) K=true) (a:=0) (N:=G.length) rfl (by refine zW (aX hl g0 g1 g2) ?_; rfl) (zV (aX hl g0 g1 g2)) (TY _) zO (by simp only [TH,hl]; rfl) rfl (fun _ _ _ _ h=>h) zK rfl ?_ ?_
 ·intro j T1 H1 _ hj hl1 hi1 hs1 hk1 hP
  have w1:=hk1.wf
  have le_hk1:=hk1.le
  have t11:aa T1 11=a:=(hs1.at_ 11 zU).trans (zV (aC hl g0))
  have t1:aa T1 1=b:=(hs1.at_ 1 zU).trans (zV (bS hl g0 g1 g2 g1))
  have t2:aa T1 2=.fn (.func gZ) [] []:=(hs1.at_ 2 zU).trans (zV (bS hl g0 g1 g2 g2))
  obtain ⟨_,⟨v,rfl,hr⟩,-,-,L⟩:=(ha.mono hk1.sub).at (TL hj)
  have L:bg H1 (some 2) (az a (j*2))=some (.agg [.int .u8 (G[j].1:Int),v]):=L
  have hix:cw 2 a (.int .i64 (j:Int))=some (az a (j*2)):=Zu ha .i64 j hj
  have hr:RowV H1 v G[j].2:=hr
  have ov:=hr.one
  have Lp0:=(Zm w1 L).put
  have Ll0:=(Zm w1 L).ld
  have mG:=TM hj
  simp only [TH,hl] at hl1
  refine zW (lA hl1 t11 t1 hi1 hix Lp0 Ll0 hb.lenV) ?_
  obtain ⟨H2,hH2⟩:∃ H2,H2=((H1.up 7).put (H1.next+2) (.cells [.int .u8 0,.nilSl] ak true)).put (H1.next+2) (.cells [.int .u8 (G[j].1:Int),v] ak true):=⟨_,rfl⟩
  have k12:Kp H1 H2:=by rw [hH2]; exact zK
  have le_k12:=k12.le
  have k2:Kp H H2:=hk1.trans k12
  have le_k2:=k2.le
  have w2:=k2.wf
  have d8:H2.get (H1.next+2)=some (.cells [.int .u8 (G[j].1:Int),v] ak true):=by rw [hH2]; exact aq _ _ _
  rw [<- hH2]
  refine am H2 [] (fun i _ _=>(K.take i).all (fun c=>Lin.keepsP c G[j])=true) (a:=0) (N:=K.length) rfl (by refine zW hl1 ?_; rfl) (zV hl1) (TY _) zO (by simp only [TH,hl1]; rfl) rfl (fun _ _ _ _ h=>h) zK rfl ?_ ?_
  ·intro i T2 H3 _ hi hl2 hi2 hs2 hk3 hP2
   have w3:=hk3.wf
   have le_hk3:=hk3.le
   have t17:aa T2 17=b:=(hs2.at_ 17 zU).trans (zV (aC hl1 t1))
   have t2b:aa T2 2=.fn (.func gZ) [] []:=(hs2.at_ 2 zU).trans (zV (aC hl1 t2))
   have t8:aa T2 8=.ptr (H1.next+2) 0:=(hs2.at_ 8 zU).trans (zV hl1)
   have d8':=hk3.get d8
   have lt8:=w3 _ _ d8'
   have s13:Sub H1 H3:=k12.sub.trans hk3.sub
   obtain ⟨_,⟨w,rfl,hc⟩,-,-,L'⟩:=((hb.mono hk1.sub).mono s13).at (TL hi)
   have L':bg H3 (some 2) (az b (i*2))=some (.agg [w,.bool K[i].2]):=L'
   have hiy:cw 2 b (.int .i64 (i:Int))=some (az b (i*2)):=Zu hb .i64 i hi
   have hc:RowV H3 w K[i].1:=hc
   have ow:=hc.one
   have Lp:=(Zm w3 L').put
   have Ll:=(Zm w3 L').ld
   have mK:=TM hi
   have hr3:=hr.mono s13
   simp only [TH,hl1] at hl2
   refine zW (ko hl2 t17 t2b t8 hi2 hiy Lp Ll d8') ?_
   refine Y4 (poly_keeps C (e:=f+1) (f:=e+1) (b:=K[i].2) (k:=G[j].1) (a:=K[i].1) (r:=G[j].2) zF (hc.mono (zG H3)) (hr3.mono (zG H3)) ((hK _ mK).1.trans (hG _ mG).1.symm) (by rw [(hK _ mK).1]; omega) (fun z hz=>kn (hK _ mK).2 z hz) (fun z hz=>kn (hG _ mG).2 z hz) zO) fun H4 hk4=>?_
   obtain ⟨k4,_,_⟩:=zT H2 zK hk4
   have k4':Kp H H4:=k2.trans k4
   cases hq:Lin.keepsP (K[i].1,K[i].2) (G[j].1,G[j].2) with
   | true =>
    refine zW hl2 ?_
    refine ⟨zK,?_⟩
    rw [F2 hi,hP2]
    exact hq
   | false =>
    refine zW hl2 ?_
    refine ⟨?_,zK⟩
    have:Lin.inP G K=false:=by
     cases h:Lin.inP G K with
     | false=>rfl
     | true =>
      have:=Lin.inP_iff.1 h _ mG _ mK
      exact absurd (this.symm.trans hq) zU
    rw [this]
  ·intro T2 H3 hl2 hs2 hk3 hP2
   rw [Ur] at hP2
   simp only [TH,hl1] at hl2
   have k3:Kp H H3:=k2.trans hk3
   have le_k3:=k3.le
   refine zW hl2 ?_
   refine ⟨zK,?_⟩
   unfold Lin.inP at hP ⊢
   rw [F2 hj,hP]
   exact hP2
 ·intro T1 H1 hl1 hs1 hk1 hP
  simp only [TH,hl] at hl1
  rw [Ur] at hP
  refine zW hl1 ?_
  exact ⟨by rw [hP],zK⟩
end
section
variable {tab:Nat->Option aw} {H:Heap} {s:AV}
end
section
open Lin
theorem BR {r:V} (h:∀ z∈r.map eS,z.2.length<=1):Bd (2^64) r:=fun i=>by
 unfold at_
 rw [TI]
 cases hi:r[i]? with
 | none=>simp
 | some z =>
  have h1:=h (eS z) (TN.2 ⟨z,Ua hi,rfl⟩)
  have h2:z.natAbs<B^1:=wR (n:=z.natAbs) h1
  have h3:B^1=2^64:=by decide
  simp only [Vm]
  omega
theorem uU {c:List (V × Bool)} {g:List (Nat × V)} (h:mX c g=false):(c.length<=9/\∀ x∈c,x.1.length<=5/\Bd (2^64) x.1)/\g.length<=9/\∀ x∈g,x.2.length<=5/\Bd (2^64) x.2:=by
 unfold mX at h
 rw [We] at h
 obtain ⟨h1,h2⟩:=jv h.1
 obtain ⟨h3,h4⟩:=Au h.2
 rw [TT] at h1 h3
 refine ⟨⟨h1,fun x hx=>?_⟩,h3,fun x hx=>?_⟩
 ·obtain ⟨q1,q2⟩:=h2 _ (TN.2 ⟨x,hx,rfl⟩)
  simp only [TT] at q1
  exact ⟨q1,BR q2⟩
 ·obtain ⟨q1,q2⟩:=h4 _ (TN.2 ⟨x,hx,rfl⟩)
  simp only [TT] at q1
  exact ⟨q1,BR q2⟩
theorem KC {n:Nat} {l:List (V × Bool)}:∀ x∈gensP n l,x.1=1\/x.1=2\/x.1=3:=fun x hx=>by
 unfold gensP at hx
 split at hx
 ·rcases Uc.1 hx with hx | hx
  ·obtain ⟨r,hr,rfl⟩:=TN.1 hx
   exact .inl rfl
  ·obtain ⟨r,hr,rfl⟩:=TN.1 hx
   show kindOf r=1\/kindOf r=2\/kindOf r=3
   unfold kindOf
   split <;> simp
 ·cases hx
end
section
variable {tab:Nat->Option aw} {H:Heap} {s:AV}
end
section
variable {tab:Nat->Option aw} {H:Heap} {s:AV}
structure PolyOK (n e f:Nat) (K:List (List Int × Bool)) (G:List (Nat × List Int)):Prop where
 own:Lin.Own n K G
 dim:n<=4
 few:K.length<=60\/K.length<=1022/\G.length<=60
 many:G.length<1024
 bK:∀ c∈K,Lin.Bd (2^f) c.1
 bG:∀ x∈G,Lin.Bd (2^e) x.2
 e3:e<=300000
 f3:f<=300000
section
variable {n e f:Nat} {K:List (List Int × Bool)} {G:List (Nat × List Int)}
theorem PolyOK.rowK (h:PolyOK n e f K G):∀ c∈K,c.1.length=n+1/\Lin.Bd (2^f) c.1:=fun c hc=>⟨h.own.rows c hc,h.bK c hc⟩
theorem PolyOK.rowG (h:PolyOK n e f K G):∀ x∈G,x.2.length=n+1/\Lin.Bd (2^e) x.2:=fun x hx=>⟨(h.own.valid x hx).1,h.bG x hx⟩
theorem PolyOK.kinds (h:PolyOK n e f K G):∀ x∈G,x.1=1\/x.1=2\/x.1=3:=fun x hx=>KC (n:=n) (l:=K) x (by rw [h.own.gens]; exact hx)
theorem PolyOK.smK (h:PolyOK n e f K G):∀ r∈K,r.1.length<1099511627776/\∀ z∈r.1,eY z:=fun r hr=>⟨by rw [(h.rowK r hr).1]; have:=h.dim; omega,fun z hz=>(kn (h.rowK r hr).2 z hz).sm (by have:=h.f3; omega)⟩
theorem PolyOK.smG (h:PolyOK n e f K G):∀ r∈G,r.2.length<1099511627776/\∀ z∈r.2,eY z:=fun r hr=>⟨by rw [(h.rowG r hr).1]; have:=h.dim; omega,fun z hz=>(kn (h.rowG r hr).2 z hz).sm (by have:=h.e3; omega)⟩
theorem PolyOK.lenK (h:PolyOK n e f K G):K.length<=1022:=by rcases h.few with h | h <;> omega
end
set_option maxHeartbeats 4000000 in
theorem zN (C:Code tab) (hw:Wf H) {v:AV} {n e f:Nat} {K:List (List Int × Bool)} {G:List (Nat × List Int)} (hp:PolyV H v n K G) (ho:PolyOK n e f K G) :
  Ans tab (.fn pD [v]) H fun x H'=>x=.int .i64 0/\Kp H H':=by
 obtain ⟨vc,vg,rfl,hc,hg⟩:=hp
 have oc:=hc.one
 have og:=hg.one
 have lK:=ho.lenK
 have lG:=ho.many
 have eG:Lin.gensP n K=G:=ho.own.gens
 have eK:Lin.consP n G=K:=ho.own.cons
 have e3:=ho.e3
 have f3:=ho.f3
 have smK:=ho.smK
 have smG:=ho.smG
 refine cU C.q28 zU fun T hl g0=>?_
 by_cases q1:(K.length:Int)<=60
 ·refine zW (bS hl g0 (lM oc og) hc.lenV q1) ?_
  refine Y5 (kK C (n:=n) (m:=f) (m2:=e) zF (hc.mono (zG H)) ho.dim zO ho.rowK f3 (by rw [eG]; exact ho.bG) e3) ?_
  rintro v H2 ⟨hm,hk2⟩
  obtain ⟨k2,_,w2⟩:=zT H zK hk2
  have n2:H.next+17<=H2.next:=hk2.le
  have d0:H2.get H.next=some (.cells [.int .i64 (n:Int),vc,vg] ag true):=hk2.get (cP)
  have f2:H2.get (H.next+14)=none:=hk2.free (show H.next+14<H.next+17 by omega) (by rw [aA zO]; exact hw.fresh (b:=H.next+14) zO)
  rw [eG] at hm
  unfold nP at hm
  rw [eK] at hm
  rcases hm with ⟨-,hm⟩ | ⟨p,rfl,⟨vc2,vg2,rfl,hc2,hg2⟩,-,-⟩
  ·omega
  have oc2:=hc2.one
  have og2:=hg2.one
  obtain ⟨H3,hH3⟩:∃ H3,H3=((H2.up 7).put (H.next+14) (.cells [.int .i64 0,.nilSl,.nilSl] ag true)).put (H.next+14) (.cells [.int .i64 (n:Int),vc2,vg2] ag true):=⟨_,rfl⟩
  have s23:Sub H2 H3:=by rw [hH3]; exact ((ZB H2 7).put f2 _).put f2 _
  have k3:Kp H H3:=by rw [hH3]; exact zK
  have le_k3:=k3.le
  have w3:=k3.wf
  refine zW (aX hl g0 @nt d0) ?_
  rw [<- hH3]
  refine Y4 (Cd C zF ⟨vc,vg,rfl,(hc.mono k2.sub).mono s23,(hg.mono k2.sub).mono s23⟩ ⟨vc2,vg2,rfl,hc2.mono s23,hg2.mono s23⟩ zO smK zO smG) fun H4 hk4=>?_
  have k4:Kp H H4:=k3.trans hk4
  have le_k4:=k4.le
  rw [decide_eq_true ⟨rfl,rfl,rfl⟩]
  refine zW (aC hl g0) ?_
  exact zK
 ·have q2:(G.length:Int)<=60:=by rcases ho.few with h | h <;> omega
  refine zW (gh hl g0 (lM oc og) hc.lenV q1 hg.lenV q2) ?_
  refine Y5 (vj C (n:=n) (m:=e) (m2:=f) (m3:=e) zF (hg.mono (zG H)) ho.dim zO ho.own.valid ho.kinds ho.bG e3 (by rw [eK]; exact ho.bK) f3 (by rw [eK,eG]; exact ho.bG) e3 (by rw [eK]; exact .inl lK)) ?_
  rintro v H2 ⟨hm,hk2⟩
  obtain ⟨k2,_,w2⟩:=zT H zK hk2
  have n2:H.next+21<=H2.next:=hk2.le
  have d0:H2.get H.next=some (.cells [.int .i64 (n:Int),vc,vg] ag true):=hk2.get (cP)
  have f2:H2.get (H.next+18)=none:=hk2.free (show H.next+18<H.next+21 by omega) (by rw [aA zO]; exact hw.fresh (b:=H.next+18) zO)
  unfold Bh nP at hm
  rw [eK,eG,eK] at hm
  rcases hm with ⟨-,hm⟩ | ⟨-,hm⟩ | ⟨p,rfl,⟨vc2,vg2,rfl,hc2,hg2⟩,-,-⟩
  ·omega
  ·omega
  have oc2:=hc2.one
  have og2:=hg2.one
  obtain ⟨H3,hH3⟩:∃ H3,H3=((H2.up 7).put (H.next+18) (.cells [.int .i64 0,.nilSl,.nilSl] ag true)).put (H.next+18) (.cells [.int .i64 (n:Int),vc2,vg2] ag true):=⟨_,rfl⟩
  have s23:Sub H2 H3:=by rw [hH3]; exact ((ZB H2 7).put f2 _).put f2 _
  have k3:Kp H H3:=by rw [hH3]; exact zK
  have le_k3:=k3.le
  have w3:=k3.wf
  refine zW (aX hl g0 @nt d0) ?_
  rw [<- hH3]
  refine Y4 (Cd C zF ⟨vc,vg,rfl,(hc.mono k2.sub).mono s23,(hg.mono k2.sub).mono s23⟩ ⟨vc2,vg2,rfl,hc2.mono s23,hg2.mono s23⟩ zO smK zO smG) fun H4 hk4=>?_
  have k4:Kp H H4:=k3.trans hk4
  have le_k4:=k4.le
  rw [decide_eq_true ⟨rfl,rfl,rfl⟩]
  refine zW (aC hl g0) ?_
  exact zK
end
end Go.Proofs.YtofhopjbbpihaaaGreat.Ev
