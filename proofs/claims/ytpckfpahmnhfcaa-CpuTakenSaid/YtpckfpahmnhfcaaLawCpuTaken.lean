/- The row of CpuTaken: out of the walk of the statement and the lift of its input. Printed by wip/gen/lawp.py. -/
import Derived.Test.YtpckfpahmnhfcaaRows
import Derived.Test.YtpckfpahmnhfcaaKT
import Derived.Test.YtpckfpahmnhfcaaKQ
import Derived.Test.YtpckfpahmnhfcaaKBW
import Derived.WalkKit
import Derived.ProofKit
import Derived.OpenShut
import Derived.ShutString
import Derived.ChangeOld
import Derived.Below
import Derived.SizedLaws
namespace Go.Proofs.Ytpckfpahmnhfcaa.cpuTakenLaw
open Go.ChangeShapes Go.WideShapes Go.ChangeAt Go.RowKit Go.Proofs.Ytpckfpahmnhfcaa.G Go.Proofs.Ytpckfpahmnhfcaa.K
set_option linter.unusedVariables false
theorem own : ownKnob Try.prog.godebug = none := by kernel_rfl
theorem laidOut : laidOutB Try.prog = true := by kernel_rfl
set_option maxRecDepth 100000 in
theorem lifted (os : Os) (started : os.Started) (H : Type) (enc : TypeId × Value → H) :
    ReturnsInHanded {} Try.checked os 10 .any (Rows.cpuTakenSpec.pre6 enc Try.prog Try.f10 Rows.cpuTakenRow.domain false) (Rows.cpuTakenSpec.post enc Try.prog Try.f10 false true false false) := by
  refine returnsInHanded_of_change_sized (C := Try.checked) own started (by kernel_rfl) Try.func10
    (ChangeSpec.witness6 (enc := enc) (C := Try.checked) false ⟨#[], #[.agg #[.int .u64 0, .int .u64 0, .int .u64 0, .int .u64 0, .int .u64 0, .int .u64 0, .int .u64 0, .int .u64 0, .int .u64 0, .int .u64 0, .int .u64 0, .int .u64 0, .int .u64 0, .int .u64 0, .int .u64 0, .int .u64 0, .int .u64 0, .slice none 0 0, .int .u64 0, .int .u64 0, .int .u64 0, .int .u64 0, .int .i64 0, .int .u64 0, .int .u64 0, .int .u64 0, .int .u64 0, .bool false, .slice none 0 0, .int .u64 0, .int .u64 0, .slice none 0 0, .slice none 0 0, .slice none 0 0, .slice none 0 0], .int .u64 0], []⟩ 8 (by kernel_rfl) (by kernel_rfl) (by kernel_rfl) (by kernel_rfl)) ?_
  intro W base args ds gs before hval0 hW hcnd hsz0 _
  have hval : ∀ (j : Nat) t v, Try.f10.params[j]? = some t → args[j]? = some v → Value.okWide Try.prog W .any base t v := hval0
  have hW' := hW
  obtain ⟨p, q, hA0, hV, rfl, hfz, hnd⟩ := hW
  have hA : DataW.TrodAll enc Try.prog W 0 (fun _ => true) true Try.f10.params.toList args.toList ds p := hA0
  have hp : Try.f10.params = #[53, 23] := by kernel_rfl
  rw [hp] at hA hval
  obtain ⟨v0, vs0, d0, ds0, p0, q0, hargs, rfl, rfl, h0, r0⟩ := trodAll_cons hA
  obtain ⟨v1, vs1, d1, ds1, p1, q1, rfl, rfl, rfl, h1, r1⟩ := trodAll_cons r0
  obtain ⟨rfl, rfl, rfl⟩ := trodAll_nil r1
  obtain rfl : args = #[v0, v1] := by cases args; simp_all
  obtain ⟨rfl, rfl⟩ := trodVars_none hV
  obtain ⟨y0, t0, e0⟩ := arg_agg tok (f2 := 8) rfl (by kernel_rfl) rfl (hval 0 53 v0 rfl rfl) h0
  obtain ⟨y1, t1, e1⟩ := arg_one tok (f2 := 8) rfl (by kernel_rfl) rfl (hval 1 23 v1 rfl rfl) h1
  obtain ⟨x0, g0, k0⟩ := typR_ThreadD _ t0
  subst g0
  obtain ⟨x1, g1, k1⟩ := (typR_i .u64 (t := 23) rfl rfl) _ t1
  obtain rfl := List.head_eq_of_cons_eq g1
  have lt : ∀ (t : TypeId) (v : Value) (d : DataW H) (ps : List MemPlace), DataW.Trod enc Try.prog W 0 (fun _ => true) true t v d ps → ∀ x ∈ ps, x.block < W.heap.size := fun t v d ps h => by obtain ⟨m, hm⟩ := h; exact DataW.trod_lt m _ _ _ hm
  refine (law_true (law19_CpuTaken_w x0 x1 true (law19_CpuTaken_eq x0 x1 ⟨k0.Clear.1, k0.Alerts.1, k0.Labs.e0.1, k0.Labs.e1.1, k0.Labs.e2.1, k0.Labs.e3.1⟩)) (trel_cons e0 (trel_cons e1 trel_nil'))).mono fun e W' ⟨he, bel⟩ => ?_
  subst he
  exact ⟨_, rfl, _, _, _, [], _, [], hW', trodAll_mk1 (shut_bool Try.underlying4 _), (trodAll_cons_mk (Below.trod laidOut (by kernel_rfl) (of_decide_eq_true (by kernel_rfl)) h0 bel (lt _ _ _ _ h0)) (trodAll_cons_mk (Below.trod laidOut (by kernel_rfl) (of_decide_eq_true (by kernel_rfl)) h1 bel (lt _ _ _ _ h1)) trodAll_mk0)), rfl, bel.frame _, fun h => by cases h⟩
theorem over : Rows.cpuTakenRow.holds Try.pinned (OpenSpec.ofChange Rows.cpuTakenSpec) :=
  OpenClaim.holds_of_wide 10 Try.f10 rfl rfl rfl rfl rfl rfl rfl ⟨rfl, rfl, rfl, rfl, rfl⟩ rfl rfl rfl rfl rfl (by kernel_rfl) Try.func10 (by kernel_rfl)
    (of_decide_eq_true (by kernel_rfl)) (by unfold Func.isWrapper; first | (rw [if_pos (by decide +kernel)]; kernel_rfl) | (rw [if_neg (by decide +kernel)]; exact ⟨rfl, rfl⟩))
    (fun os started H enc _ => lifted os started H enc)
theorem proved : Rows.CpuTakenSaid := over
#print axioms proved
end Go.Proofs.Ytpckfpahmnhfcaa.cpuTakenLaw
namespace Go.Proofs.Ytpckfpahmnhfcaa
/-- The row, under a short name, for the claim. -/
theorem cpuTaken_holds : Rows.CpuTakenSaid := cpuTakenLaw.proved
end Go.Proofs.Ytpckfpahmnhfcaa
