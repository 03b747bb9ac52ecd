/-
  'ConeKeeps' returns true,whatever the arguments,the world and the tape; they read behind the call as they read before: the evaluator's code of the law is walked by contracts of all that it calls,and what they make is shown to be as the law says by mathematics of cones.
  Conditions: none beyond the statement's own (what it reads is of bulk at most 1048576).
-/
import Derived.Test.YtichbdepocojaaaGreatRows
import Derived.Test.YtichbdepocojaaaGreatOpen
import Derived.Test.YtichbdepocojaaaGreatN46
import Derived.JoinedCond
import Derived.WalkKit
import Derived.ProofKit
import Derived.OpenShut
namespace Go.Proofs.YtichbdepocojaaaGreat.law
open Go.ChangeShapes Go.WideShapes Go.ChangeAt Go.RowKit
set_option linter.all false
theorem own:ownKnob Tryz.prog.godebug=none:=by kernel_rfl
theorem laidOut:laidOutB Tryz.prog=true:=by kernel_rfl
theorem globW (w:World):Ev.GlobW w:=fun g cs h=>by cases h
theorem rowTys:Ev.RowTys Tryz.prog 22 30 37 69 where
  vs:=Tryz.underlying22
  cv:=by kernel_rfl
  v:=Tryz.underlying30
  ci:=by kernel_rfl
  i:=⟨_,_,Tryz.underlying37,rfl,rfl,Tryz.underlying4,by kernel_rfl,Tryz.underlying35,by kernel_rfl⟩
  e:=Tryz.underlying69
  ce:=by kernel_rfl
theorem part_le {H:Type} {d:DataW H}:∀ {l:List (DataW H)},d∈l->Rows.uptoBulk d<=Rows.uptoBulkAll l
  | [],h=>by cases h
  | x :: r,h=>by
    unfold Rows.uptoBulkAll
    rcases List.mem_cons.1 h with rfl | h
    · omega
    · have:=part_le h; omega
theorem one_le {H:Type} (d:DataW H):1<=Rows.uptoBulk d:=by
  cases d with
  | lit l=>cases l <;> simp [Rows.uptoBulk]
  | _=>simp [Rows.uptoBulk]
theorem count_le {H:Type}:∀ l:List (DataW H),l.length<=Rows.uptoBulkAll l
  | []=>Nat.zero_le _
  | x :: r=>by
    have:=one_le x; have:=count_le r
    unfold Rows.uptoBulkAll
    rw [List.length_cons]; omega
theorem elems_le {H:Type} (d:DataW H):Rows.uptoBulkAll (Ev.elemsD d)<=Rows.uptoBulk d:=by
  cases d <;> simp only [Ev.elemsD,Rows.uptoBulk,Rows.uptoBulkAll] <;> omega
theorem parts_le {H:Type} (d:DataW H):Rows.uptoBulkAll (Ev.partsD d)<=Rows.uptoBulk d:=by
  cases d <;> simp only [Ev.partsD,Rows.uptoBulk,Rows.uptoBulkAll] <;> omega
theorem limbs_le {H:Type} {d:DataW H} {ds:List (DataW H)} {l:List (Bool × List Nat)} (u:∀ z∈l,∃ y∈Ev.elemsD d,Ev.limbsD y z) (hd:d∈ds) (hk:Rows.uptoSmall H ds=true):∀ z∈l,z.2.length<=1048576:=fun z hz=>by
  obtain ⟨y,hy,y2,hy2,hl⟩:=u z hz
  have h1:Rows.uptoBulkAll ds<=1048576:=of_decide_eq_true hk
  have:=part_le hd
  have:=elems_le d
  have:=part_le hy
  have:=parts_le y
  have:=part_le hy2
  have:=elems_le y2
  have:=count_le (Ev.elemsD y2)
  omega
set_option maxRecDepth 100000 in
theorem contract (H:Type) (enc:TypeId × Value->H) (W:World) (base:Nat) (args:Array Value) (ds gs:List (DataW H)) (before:List MemPlace)
    (hval0:∀ (j:Nat) t v,Tryz.f5.params[j]? = some t->args[j]? = some v->Value.okWide Tryz.prog W .any base t v)
    (hW:DataW.Whole enc Tryz.prog Tryz.f5.params.toList Rows.coneKeepsSpec.vars false W args.toList ds gs before) (hk:Rows.uptoSmall H (ds++gs)=true) :
    Calls Tryz.prog 5 args W fun e W'=>∃ v,e=.returned v/\Rows.coneKeepsSpec.post enc Tryz.prog Tryz.f5 false true false false W args v W':=by
  have hval:∀ (j:Nat) t v,Tryz.f5.params[j]? = some t->args[j]? = some v->Value.okWide Tryz.prog W .any base t v:=hval0
  have hW':=hW
  obtain ⟨p,q,hA0,hV,rfl,-,-⟩:=hW
  have hA:DataW.TrodAll enc Tryz.prog W 0 (fun _=>true) true Tryz.f5.params.toList args.toList ds p:=hA0
  rw [Tryz.params5] at hA hval
  obtain ⟨v0,vs0,d0,ds0,p0,q0,hargs,rfl,rfl,h0,r0⟩:=trodAll_cons hA
  obtain ⟨v1,vs1,d1,ds1,p1,q1,rfl,rfl,rfl,h1,r1⟩:=trodAll_cons r0
  obtain ⟨v2,vs2,d2,ds2,p2,q2,rfl,rfl,rfl,h2,r2⟩:=trodAll_cons r1
  obtain ⟨v3,vs3,d3,ds3,p3,q3,rfl,rfl,rfl,h3,r3⟩:=trodAll_cons r2
  obtain ⟨v4,vs4,d4,ds4,p4,q4,rfl,rfl,rfl,h4,r4⟩:=trodAll_cons r3
  obtain ⟨v5,vs5,d5,ds5,p5,q5,rfl,rfl,rfl,h5,r5⟩:=trodAll_cons r4
  obtain ⟨rfl,rfl,rfl⟩:=trodAll_nil r5
  obtain rfl:args = #[v0,v1,v2,v3,v4,v5]:=by cases args; simp_all
  obtain ⟨rfl,rfl⟩:=trodVars_none hV
  obtain ⟨a0,rfl,rfl,rfl,w0⟩:=open_int Tryz.underlying3 (hval 0 3 v0 rfl rfl) h0
  obtain ⟨av1,l1,x1,y1,z1,u1⟩:=Ev.open_rows (μ:=fun _=>none) (F:=fun c=>c<W.heap.size) (H:=Ev.Heap.nil 0) rowTys (fun _ h=>h) (hval 1 22 v1 rfl rfl) h1
  obtain ⟨av2,l2,x2,y2,z2,u2⟩:=Ev.open_rows (μ:=fun _=>none) (F:=fun c=>c<W.heap.size) (H:=Ev.Heap.nil 0) rowTys (fun _ h=>h) (hval 2 22 v2 rfl rfl) h2
  obtain ⟨av3,l3,x3,y3,z3,u3⟩:=Ev.open_vec (μ:=fun _=>none) (F:=fun c=>c<W.heap.size) (H:=Ev.Heap.nil 0) rowTys (fun _ h=>h) (hval 3 30 v3 rfl rfl) h3
  obtain ⟨a4,rfl,rfl,rfl,w4⟩:=open_int Tryz.underlying5 (hval 4 5 v4 rfl rfl) h4
  obtain ⟨a5,rfl,rfl,rfl,w5⟩:=open_int Tryz.underlying5 (hval 5 5 v5 rfl rfl) h5
  clear hA0 hval0
  simp only [List.append_nil,List.nil_append] at hW' hk
  have hlt:=hW'.lt
  refine (Ev.open_calls (vs:=[.int .i64 a0,v1,v2,v3,.int .u8 a4,.int .u8 a5]) (Checked.mixed Tryz.checked) Ev.tabOK (afn:=Ev.c_facetroomlaw20_ConeKeeps) Ev.code.facetroomlaw20_ConeKeeps rfl (globW W) (Ev.LR.cons (.int _ _) (Ev.LR.cons x1 (Ev.LR.cons x2 (Ev.LR.cons x3 (Ev.LR.cons (.int _ _) (Ev.LR.cons (.int _ _) Ev.LR.nil)))))) ((Ev.law20_ConeKeeps Ev.code Ev.wf_nil y1 y2 y3 z1 z2 z3 (limbs_le u3 (by simp) hk) (Ev.int_range w0) (Ev.u8_range w4) (Ev.u8_range w5)).mono fun _ _ h=>h.1)).mono fun e W' ⟨he,eo,ep,_,ek⟩=>?_
  subst he
  exact ⟨_,rfl,Ev.post_kept hW' (fun _ _ _=>(trodAll_cons_mk (shut_bool Tryz.underlying4 _) trodAll_mk0)) (fun sp hs=>by
      have:=(trodAll_cons_mk (shut_int Tryz.underlying3 w0) (trodAll_cons_mk (Ev.stays laidOut (by kernel_rfl) (of_decide_eq_true (by kernel_rfl)) h1 ek (fun x hx=>hlt x (by simp [hx])) (fun x hx=>hs x (by simp [hx]))) (trodAll_cons_mk (Ev.stays laidOut (by kernel_rfl) (of_decide_eq_true (by kernel_rfl)) h2 ek (fun x hx=>hlt x (by simp [hx])) (fun x hx=>hs x (by simp [hx]))) (trodAll_cons_mk (Ev.stays laidOut (by kernel_rfl) (of_decide_eq_true (by kernel_rfl)) h3 ek (fun x hx=>hlt x (by simp [hx])) (fun x hx=>hs x (by simp [hx]))) (trodAll_cons_mk (shut_int Tryz.underlying5 w4) (trodAll_cons_mk (shut_int Tryz.underlying5 w5) trodAll_mk0))))))
      simp only [List.append_nil,List.nil_append] at this
      exact this) (fun _=>rfl) eo ep ek (ok_one (by kernel_rfl) rfl (okWide_bool_mk Tryz.underlying4 _))⟩
set_option maxRecDepth 100000 in
theorem lifted (os:Os) (started:os.Started) (H:Type) (enc:TypeId × Value->H) (F:Stop.Interp) :
    ReturnsInHanded {} Tryz.checked os 5 .any ((Rows.OpenSpec.upto Rows.coneKeepsSpec).pre6 enc Tryz.prog Tryz.f5 Rows.coneKeepsUptoRow.domain false) (((Rows.OpenSpec.upto Rows.coneKeepsSpec).at F).post enc Tryz.prog Tryz.f5 false true false false):=by
  refine returnsInHanded_of_cond (C:=Tryz.checked) (s:=Rows.OpenSpec.upto Rows.coneKeepsSpec) (k:=Rows.uptoSmall) rfl own started (by kernel_rfl) Tryz.func5
    (OpenSpec.witness (enc:=enc) (C:=Tryz.checked) (s:=Rows.OpenSpec.upto Rows.coneKeepsSpec) (k:=Rows.uptoSmall) rfl false ⟨#[],#[.int .i64 0,.slice none 0 0,.slice none 0 0,.slice none 0 0,.int .u8 0,.int .u8 0],[]⟩ 8 (by kernel_rfl) (by kernel_rfl) (by kernel_rfl)
      (x:=([.lit (.int .i64 0),.nil,.nil,.nil,.lit (.int .u8 0),.lit (.int .u8 0)],[],[])) (by kernel_rfl) rfl (by kernel_rfl)) ?_
  intro W base args ds gs before hval hW _ hk _
  exact contract H enc W base args ds gs before hval hW hk
theorem over:Rows.coneKeepsUptoRow.holds Tryz.pinned (Rows.OpenSpec.upto Rows.coneKeepsSpec) :=
  OpenClaim.holds_of_cond 5 Tryz.f5 rfl rfl rfl rfl rfl rfl rfl ⟨rfl,rfl,rfl,rfl,rfl⟩ rfl rfl rfl rfl rfl (by kernel_rfl) Tryz.func5 (by kernel_rfl)
    (of_decide_eq_true (by kernel_rfl)) (by unfold Func.isWrapper; first | (rw [if_pos (by decide +kernel)]; kernel_rfl) | (rw [if_neg (by decide +kernel)]; exact ⟨rfl,rfl⟩))
    (fun os started H enc _ F=>lifted os started H enc F)
theorem proved:Rows.ConeKeepsUptoSaid :=
  over
#print axioms proved
end Go.Proofs.YtichbdepocojaaaGreat.law
