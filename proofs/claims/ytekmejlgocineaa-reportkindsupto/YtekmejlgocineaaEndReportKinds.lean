/-
  'ReportKinds' returns true,whatever the arguments,the world and the tape; they read behind the call as they read before: the evaluator's code of the law is walked by contracts of all that it calls,and what they make is shown to be as the law says by plain list mathematics.
  Conditions: none beyond the statement's own (what it reads is of bulk at most 1048576).
-/
import Derived.Test.YtekmejlgocineaaRows
import Derived.Test.YtekmejlgocineaaKG35
import Derived.JoinedCond
import Derived.WalkKit
import Derived.ProofKit
import Derived.OpenShut
namespace Go.Proofs.Ytekmejlgocineaa.law
open Go.ChangeShapes Go.WideShapes Go.ChangeAt Go.RowKit
set_option linter.all false
theorem own:ownKnob Try.prog.godebug=none:=by kernel_rfl
theorem laidOut:laidOutB Try.prog=true:=by kernel_rfl
theorem globW (w:World):Ev.GlobW w:=fun g cs h=>by cases h
theorem graphTys:Ev.GraphTys Try.prog 25 22 3 23 39 37 35 42 where
  xs:=Try.underlying35
  cx:=by kernel_rfl
  x:=⟨_,_,_,_,_,Try.underlying42,rfl,rfl,rfl,rfl,rfl,Try.underlying5,Try.underlying9,Try.underlying3,rfl,Try.underlying3,by kernel_rfl,by kernel_rfl,by kernel_rfl,by kernel_rfl,by kernel_rfl⟩
  cd:=by kernel_rfl
  d:=⟨_,_,_,_,Try.underlying37,rfl,rfl,rfl,rfl,Try.underlying5,Try.underlying3,Try.underlying5,rfl,by kernel_rfl,by kernel_rfl,by kernel_rfl,by kernel_rfl⟩
  es:=Try.underlying23
  ce:=by kernel_rfl
  e:=⟨_,_,_,_,Try.underlying39,rfl,rfl,rfl,rfl,Try.underlying3,Try.underlying3,rfl,Try.underlying3,by kernel_rfl,by kernel_rfl,by kernel_rfl⟩
  ays:=Try.underlying22
  i:=Try.underlying3
  ci:=by kernel_rfl
  cg:=by kernel_rfl
  g:=⟨_,_,_,_,_,_,Try.underlying25,rfl,rfl,rfl,rfl,rfl,rfl,Try.underlying3,rfl,Try.underlying3,Try.underlying3,Try.underlying3,rfl,by kernel_rfl,by kernel_rfl,by kernel_rfl,by kernel_rfl,by kernel_rfl,by kernel_rfl⟩
mutual
theorem bulkD_le {H:Type}:∀ d:DataW H,Ev.bulkD d<=Rows.uptoBulk d
  | .lit (.string b)=>Nat.le_refl _
  | .lit (.bool _)=>Nat.le_refl _
  | .lit (.int _ _)=>Nat.le_refl _
  | .lit (.float _ _)=>Nat.le_refl _
  | .lit .nil=>Nat.le_refl _
  | .nil=>Nat.le_refl _
  | .ptr d=>by simp only [Ev.bulkD,Rows.uptoBulk]; omega
  | .slice es sp=>by
    have h1:=bulkL_le es
    have h2:=bulkL_le sp
    simp only [Ev.bulkD,Rows.uptoBulk]; omega
  | .agg ps=>by
    have h1:=bulkL_le ps
    simp only [Ev.bulkD,Rows.uptoBulk]; omega
  | .iface _ d=>by simp only [Ev.bulkD,Rows.uptoBulk]; omega
  | .map es=>by simp only [Ev.bulkD,Rows.uptoBulk]; omega
  | .held _=>Nat.le_refl _
theorem bulkL_le {H:Type}:∀ l:List (DataW H),Ev.bulkL l<=Rows.uptoBulkAll l
  | []=>Nat.le_refl _
  | d :: l=>by
    have h1:=bulkD_le d
    have h2:=bulkL_le l
    simp only [Ev.bulkL,Rows.uptoBulkAll]; omega
end
set_option maxRecDepth 100000 in
set_option maxHeartbeats 8000000 in
theorem contract (H:Type) (enc:TypeId × Value->H) (W:World) (base:Nat) (args:Array Value) (ds gs:List (DataW H)) (before:List MemPlace)
    (hval0:∀ (j:Nat) t v,Try.f3.params[j]? = some t->args[j]? = some v->Value.okWide Try.prog W .any base t v)
    (hW:DataW.Whole enc Try.prog Try.f3.params.toList Rows.reportKindsSpec.vars false W args.toList ds gs before) (hk:Rows.uptoSmall H (ds++gs)=true) :
    Calls Try.prog 3 args W fun e W'=>∃ v,e=.returned v/\Rows.reportKindsSpec.post enc Try.prog Try.f3 false true false false W args v W':=by
  have hval:∀ (j:Nat) t v,Try.f3.params[j]? = some t->args[j]? = some v->Value.okWide Try.prog W .any base t v:=hval0
  have hW':=hW
  obtain ⟨p,q,hA0,hV,rfl,-,-⟩:=hW
  have hA:DataW.TrodAll enc Try.prog W 0 (fun _=>true) true Try.f3.params.toList args.toList ds p:=hA0
  rw [Try.params3] at hA hval
  obtain ⟨v0,vs0,d0,ds0,p0,q0,hargs,rfl,rfl,h0,r0⟩:=trodAll_cons hA
  obtain ⟨v1,vs1,d1,ds1,p1,q1,rfl,rfl,rfl,h1,r1⟩:=trodAll_cons r0
  obtain ⟨rfl,rfl,rfl⟩:=trodAll_nil r1
  obtain rfl:args = #[v0,v1]:=by cases args; simp_all
  obtain ⟨rfl,rfl⟩:=trodVars_none hV
  obtain ⟨g0,x0,y0,u0⟩:=Ev.open_graph (μ:=fun _=>none) (F:=fun c=>c<W.heap.size) graphTys (fun _ h=>h) (hval 0 25 v0 rfl rfl) h0
  obtain ⟨a1,rfl,rfl,rfl,w1⟩:=open_int Try.underlying3 (hval 1 3 v1 rfl rfl) h1
  clear hA0 hval0
  simp only [List.append_nil,List.nil_append] at hW' hk
  have hlt:=hW'.lt
  refine (Ev.open_calls (vs:=[v0,.int .i64 a1]) (Checked.mixed Try.checked) Ev.tabOK (afn:=Ev.c_facetroomlaw31_ReportKinds) Ev.code.q0 rfl (globW W) (Ev.LR.cons x0 (Ev.LR.cons (.int _ _) Ev.LR.nil)) ((Ev.law31_ReportKinds Ev.code Ev.wf_nil y0 (by have h1:Rows.uptoBulkAll _<=1048576:=of_decide_eq_true hk; have h2:=bulkD_le d0; simp only [Rows.uptoBulkAll] at h1; omega)).mono fun _ _ h=>h.1)).mono fun e W' ⟨he,eo,ep,_,ek⟩=>?_
  subst he
  exact ⟨_,rfl,Ev.post_kept hW' (fun _ _ _=>(trodAll_cons_mk (shut_bool Try.underlying4 _) trodAll_mk0)) (fun sp hs=>by
      have:=(trodAll_cons_mk (Ev.stays laidOut (by kernel_rfl) (of_decide_eq_true (by kernel_rfl)) h0 ek (fun x hx=>hlt x (by simp [hx])) (fun x hx=>hs x (by simp [hx]))) (trodAll_cons_mk (shut_int Try.underlying3 w1) trodAll_mk0))
      simp only [List.append_nil,List.nil_append] at this
      exact this) (fun _=>rfl) eo ep ek (ok_one (by kernel_rfl) rfl (okWide_bool_mk Try.underlying4 _))⟩
set_option maxRecDepth 100000 in
set_option maxHeartbeats 8000000 in
theorem lifted (os:Os) (started:os.Started) (H:Type) (enc:TypeId × Value->H) (F:Stop.Interp) :
    ReturnsInHanded {} Try.checked os 3 .any ((Rows.OpenSpec.upto Rows.reportKindsSpec).pre6 enc Try.prog Try.f3 Rows.reportKindsUptoRow.domain false) (((Rows.OpenSpec.upto Rows.reportKindsSpec).at F).post enc Try.prog Try.f3 false true false false):=by
  refine returnsInHanded_of_cond (C:=Try.checked) (s:=Rows.OpenSpec.upto Rows.reportKindsSpec) (k:=Rows.uptoSmall) rfl own started (by kernel_rfl) Try.func3
    (OpenSpec.witness (enc:=enc) (C:=Try.checked) (s:=Rows.OpenSpec.upto Rows.reportKindsSpec) (k:=Rows.uptoSmall) rfl false ⟨#[],#[.agg #[.int .i64 0,.slice none 0 0,.int .i64 0,.int .i64 0,.int .i64 0,.slice none 0 0],.int .i64 0],[]⟩ 8 (by kernel_rfl) (by kernel_rfl) (by kernel_rfl)
      (x:=([.agg [.lit (.int .i64 0),.nil,.lit (.int .i64 0),.lit (.int .i64 0),.lit (.int .i64 0),.nil],.lit (.int .i64 0)],[],[])) (by kernel_rfl) rfl (by kernel_rfl)) ?_
  intro W base args ds gs before hval hW _ hk _
  exact contract H enc W base args ds gs before hval hW hk
set_option maxHeartbeats 8000000 in
theorem over:Rows.reportKindsUptoRow.holds Try.pinned (Rows.OpenSpec.upto Rows.reportKindsSpec) :=
  OpenClaim.holds_of_cond 3 Try.f3 rfl rfl rfl rfl rfl rfl rfl ⟨rfl,rfl,rfl,rfl,rfl⟩ rfl rfl rfl rfl rfl (by kernel_rfl) Try.func3 (by kernel_rfl)
    (of_decide_eq_true (by kernel_rfl)) (by unfold Func.isWrapper; first | (rw [if_pos (by decide +kernel)]; kernel_rfl) | (rw [if_neg (by decide +kernel)]; exact ⟨rfl,rfl⟩))
    (fun os started H enc _ F=>lifted os started H enc F)
theorem proved:Rows.ReportKindsUptoSaid :=
  over
#print axioms proved
end Go.Proofs.Ytekmejlgocineaa.law
