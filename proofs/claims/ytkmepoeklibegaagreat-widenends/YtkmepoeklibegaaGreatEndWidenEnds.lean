/-
  'WidenEnds' returns true,whatever the arguments,the world and the tape; they read behind the call as they read before: the evaluator's code of the law is walked by contracts of all that it calls,and what they make is shown to be as the law says by mathematics of cones.
  Conditions: none beyond the statement's own.
-/
import Derived.Test.YtkmepoeklibegaaGreatRows
import Derived.Test.YtkmepoeklibegaaGreatN143
import Derived.WalkKit
import Derived.ProofKit
import Derived.OpenShut
namespace Go.Proofs.YtkmepoeklibegaaGreat.law
open Go.ChangeShapes Go.WideShapes Go.ChangeAt Go.RowKit
set_option linter.all false
theorem own:ownKnob Tryz.prog.godebug=none:=by kernel_rfl
theorem laidOut:laidOutB Tryz.prog=true:=by kernel_rfl
def globW (w:World):Ev.GlobW w:=fun g cs h=>by cases h
def rowTys:Ev.RowTys Tryz.prog 95 49 75 110 where
  vs:=Tryz.underlying95
  cv:=by kernel_rfl
  v:=Tryz.underlying49
  ci:=by kernel_rfl
  i:=⟨_,_,Tryz.underlying75,rfl,rfl,Tryz.underlying4,by kernel_rfl,Tryz.underlying73,by kernel_rfl⟩
  e:=Tryz.underlying110
  ce:=by kernel_rfl
def conTys:Ev.ConTys Tryz.prog 22 51 49 where
  cs:=Tryz.underlying22
  cc:=by kernel_rfl
  c:=⟨_,_,Tryz.underlying51,rfl,rfl,rfl,Tryz.underlying4,by kernel_rfl⟩
set_option maxRecDepth 100000 in
set_option maxHeartbeats 8000000 in
def lifted (os:Os) (started:os.Started) (H:Type) (enc:TypeId × Value->H) :
    ReturnsInHanded {} Tryz.checked os 3 .any (Rows.widenEndsSpec.pre6 enc Tryz.prog Tryz.f3 Rows.widenEndsRow.domain false) (Rows.widenEndsSpec.post enc Tryz.prog Tryz.f3 false true false false):=by
  refine returnsInHanded_of_change (C:=Tryz.checked) own started (by kernel_rfl) Tryz.func3
    (ChangeSpec.witness6 (enc:=enc) (C:=Tryz.checked) false ⟨#[],#[.int .i64 0,.slice none 0 0,.slice none 0 0],[]⟩ 8 (by kernel_rfl) (by kernel_rfl) (by kernel_rfl) (by kernel_rfl)) ?_
  intro W base args ds gs before hval0 hW _ _;have hval:∀ (j:Nat) t v,Tryz.f3.params[j]? = some t->args[j]? = some v->Value.okWide Tryz.prog W .any base t v:=hval0;have hW':=hW;obtain ⟨p,q,hA0,hV,rfl,-,-⟩:=hW;have hA:DataW.TrodAll enc Tryz.prog W 0 (fun _=>true) true Tryz.f3.params.toList args.toList ds p:=hA0;rw [Tryz.params3] at hA hval;obtain ⟨v0,vs0,d0,ds0,p0,q0,hargs,rfl,rfl,h0,r0⟩:=trodAll_cons hA;obtain ⟨v1,vs1,d1,ds1,p1,q1,rfl,rfl,rfl,h1,r1⟩:=trodAll_cons r0;obtain ⟨v2,vs2,d2,ds2,p2,q2,rfl,rfl,rfl,h2,r2⟩:=trodAll_cons r1;obtain ⟨rfl,rfl,rfl⟩:=trodAll_nil r2;obtain rfl:args = #[v0,v1,v2]:=by cases args; simp_all
  obtain ⟨rfl,rfl⟩:=trodVars_none hV;obtain ⟨a0,rfl,rfl,rfl,w0⟩:=open_int Tryz.underlying3 (hval 0 3 v0 rfl rfl) h0;obtain ⟨av1,l1,x1,y1,z1,u1⟩:=Ev.open_cons (μ:=fun _=>none) (F:=fun c=>c<W.heap.size) (H:=Ev.Heap.nil 0) conTys rowTys (fun _ h=>h) (hval 1 22 v1 rfl rfl) h1 Ev.t_api_Con;obtain ⟨av2,l2,x2,y2,z2,u2⟩:=Ev.open_cons (μ:=fun _=>none) (F:=fun c=>c<W.heap.size) (H:=Ev.Heap.nil 0) conTys rowTys (fun _ h=>h) (hval 2 22 v2 rfl rfl) h2 Ev.t_api_Con;clear hA0 hval0;simp only [List.append_nil,List.nil_append] at hW';have hlt:=hW'.lt;refine (Ev.open_calls (vs:=[.int .i64 a0,v1,v2]) (Checked.mixed Tryz.checked) Ev.tabOK (afn:=Ev.c_facetroomlaw25_WidenEnds) Ev.code.q1 rfl (globW W) (Ev.LR.cons (.int _ _) (Ev.LR.cons x1 (Ev.LR.cons x2 Ev.LR.nil))) ((Ev.law25_WidenEnds Ev.code Ev.wf_nil y1 y2 z1 z2 (Ev.int_range w0)).mono fun _ _ h=>h.1)).mono fun e W' ⟨he,eo,ep,_,ek⟩=>?_;subst he;exact ⟨_,rfl,Ev.post_kept hW' (fun _ _ _=>(trodAll_cons_mk (shut_bool Tryz.underlying4 _) trodAll_mk0)) (fun sp hs=>by
      have:=(trodAll_cons_mk (shut_int Tryz.underlying3 w0) (trodAll_cons_mk (Ev.stays laidOut (by kernel_rfl) (of_decide_eq_true (by kernel_rfl)) h1 ek (fun x hx=>hlt x (by simp [hx])) (fun x hx=>hs x (by simp [hx]))) (trodAll_cons_mk (Ev.stays laidOut (by kernel_rfl) (of_decide_eq_true (by kernel_rfl)) h2 ek (fun x hx=>hlt x (by simp [hx])) (fun x hx=>hs x (by simp [hx]))) trodAll_mk0)))
      simp only [List.append_nil,List.nil_append] at this;exact this) (fun _=>rfl) eo ep ek (ok_one (by kernel_rfl) rfl (okWide_bool_mk Tryz.underlying4 _))⟩
set_option maxHeartbeats 8000000 in
def over:Rows.widenEndsRow.holds Tryz.pinned (OpenSpec.ofChange Rows.widenEndsSpec) :=
  OpenClaim.holds_of_wide 3 Tryz.f3 rfl rfl rfl rfl rfl rfl rfl ⟨rfl,rfl,rfl,rfl,rfl⟩ rfl rfl rfl rfl rfl (by kernel_rfl) Tryz.func3 (by kernel_rfl)
    (of_decide_eq_true (by kernel_rfl)) (by unfold Func.isWrapper; first | (rw [if_pos (by decide +kernel)]; kernel_rfl) | (rw [if_neg (by decide +kernel)]; exact ⟨rfl,rfl⟩))
    (fun os started H enc _=>lifted os started H enc)
def proved:Rows.WidenEndsSaid :=
  over
#print axioms proved
end Go.Proofs.YtkmepoeklibegaaGreat.law
