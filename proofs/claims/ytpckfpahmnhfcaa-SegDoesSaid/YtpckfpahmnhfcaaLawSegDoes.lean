/- The row of SegDoes: out of the walk of the statement and the lift of its input. Printed by wip/gen/lawp.py. -/
import Derived.Test.YtpckfpahmnhfcaaRows
import Derived.Test.YtpckfpahmnhfcaaKT
import Derived.Test.YtpckfpahmnhfcaaKU
import Derived.Test.YtpckfpahmnhfcaaKX
import Derived.Test.YtpckfpahmnhfcaaKFW
import Derived.WalkKit
import Derived.ProofKit
import Derived.OpenShut
import Derived.ShutString
import Derived.ChangeOld
import Derived.Below
import Derived.SizedLaws
namespace Go.Proofs.Ytpckfpahmnhfcaa.segDoesLaw
open Go.ChangeShapes Go.WideShapes Go.ChangeAt Go.RowKit Go.Proofs.Ytpckfpahmnhfcaa.G Go.Proofs.Ytpckfpahmnhfcaa.K
set_option linter.unusedVariables false
theorem own : ownKnob Try.prog.godebug = none := by kernel_rfl
theorem laidOut : laidOutB Try.prog = true := by kernel_rfl
set_option maxRecDepth 100000 in
theorem lifted (os : Os) (started : os.Started) (H : Type) (enc : TypeId × Value → H) :
    ReturnsInHanded {} Try.checked os 6 .any (Rows.segDoesSpec.pre6 enc Try.prog Try.f6 Rows.segDoesRow.domain false) (Rows.segDoesSpec.post enc Try.prog Try.f6 false true false false) := by
  refine returnsInHanded_of_change_sized (C := Try.checked) own started (by kernel_rfl) Try.func6
    (ChangeSpec.witness6 (enc := enc) (C := Try.checked) false ⟨#[], #[.agg #[.int .u64 0, .int .i64 0, .slice none 0 0, .int .i64 0, .bool false, .slice none 0 0, .slice none 0 0, .slice none 0 0, .int .u64 0, .int .u64 0, .int .u64 0, .int .u64 0, .int .u64 0, .int .u64 0, .int .u64 0, .int .u64 0, .int .u64 0, .int .u64 0, .int .u64 0, .int .u64 0, .int .u64 0, .int .u64 0, .int .u64 0, .int .u64 0, .int .u64 0, .slice none 0 0, .int .u64 0, .int .u64 0, .int .u64 0, .int .u64 0, .int .i64 0, .int .u64 0, .int .u64 0, .int .u64 0, .int .u64 0, .bool false, .slice none 0 0, .int .u64 0, .int .u64 0, .slice none 0 0, .slice none 0 0, .slice none 0 0, .slice none 0 0, .slice none 0 0, .slice none 0 0, .int .u64 0, .int .u64 0, .int .u64 0, .int .u64 0, .slice none 0 0, .slice none 0 0], .int .i64 0, .int .u64 0, .int .u64 0, .slice none 0 0, .int .i64 0], []⟩ 8 (by kernel_rfl) (by kernel_rfl) (by kernel_rfl) (by kernel_rfl)) ?_
  intro W base args ds gs before hval0 hW hcnd hsz0 _
  have hval : ∀ (j : Nat) t v, Try.f6.params[j]? = some t → args[j]? = some v → Value.okWide Try.prog W .any base t v := hval0
  have hW' := hW
  obtain ⟨p, q, hA0, hV, rfl, hfz, hnd⟩ := hW
  have hA : DataW.TrodAll enc Try.prog W 0 (fun _ => true) true Try.f6.params.toList args.toList ds p := hA0
  have hp : Try.f6.params = #[57, 3, 23, 23, 42, 3] := by kernel_rfl
  rw [hp] at hA hval
  obtain ⟨v0, vs0, d0, ds0, p0, q0, hargs, rfl, rfl, h0, r0⟩ := trodAll_cons hA
  obtain ⟨v1, vs1, d1, ds1, p1, q1, rfl, rfl, rfl, h1, r1⟩ := trodAll_cons r0
  obtain ⟨v2, vs2, d2, ds2, p2, q2, rfl, rfl, rfl, h2, r2⟩ := trodAll_cons r1
  obtain ⟨v3, vs3, d3, ds3, p3, q3, rfl, rfl, rfl, h3, r3⟩ := trodAll_cons r2
  obtain ⟨v4, vs4, d4, ds4, p4, q4, rfl, rfl, rfl, h4, r4⟩ := trodAll_cons r3
  obtain ⟨v5, vs5, d5, ds5, p5, q5, rfl, rfl, rfl, h5, r5⟩ := trodAll_cons r4
  obtain ⟨rfl, rfl, rfl⟩ := trodAll_nil r5
  obtain rfl : args = #[v0, v1, v2, v3, v4, v5] := by cases args; simp_all
  obtain ⟨rfl, rfl⟩ := trodVars_none hV
  obtain ⟨y0, t0, e0⟩ := arg_agg tok (f2 := 8) rfl (by kernel_rfl) rfl (hval 0 57 v0 rfl rfl) h0
  obtain ⟨y1, t1, e1⟩ := arg_one tok (f2 := 8) rfl (by kernel_rfl) rfl (hval 1 3 v1 rfl rfl) h1
  obtain ⟨y2, t2, e2⟩ := arg_one tok (f2 := 8) rfl (by kernel_rfl) rfl (hval 2 23 v2 rfl rfl) h2
  obtain ⟨y3, t3, e3⟩ := arg_one tok (f2 := 8) rfl (by kernel_rfl) rfl (hval 3 23 v3 rfl rfl) h3
  obtain ⟨y4, t4, e4⟩ := arg_one tok (f2 := 8) rfl (by kernel_rfl) rfl (hval 4 42 v4 rfl rfl) h4
  obtain ⟨y5, t5, e5⟩ := arg_one tok (f2 := 8) rfl (by kernel_rfl) rfl (hval 5 3 v5 rfl rfl) h5
  obtain ⟨x0, g0, k0⟩ := typR_ObjectD _ t0
  subst g0
  obtain ⟨x1, g1, k1⟩ := (typR_i .i64 (t := 3) rfl rfl) _ t1
  obtain rfl := List.head_eq_of_cons_eq g1
  obtain ⟨x2, g2, k2⟩ := (typR_i .u64 (t := 23) rfl rfl) _ t2
  obtain rfl := List.head_eq_of_cons_eq g2
  obtain ⟨x3, g3, k3⟩ := (typR_i .u64 (t := 23) rfl rfl) _ t3
  obtain rfl := List.head_eq_of_cons_eq g3
  obtain ⟨x4, g4, k4⟩ := (typR_l (t := 42) rfl rfl typR_PairD) _ t4
  obtain rfl := List.head_eq_of_cons_eq g4
  obtain ⟨x5, g5, k5⟩ := (typR_i .i64 (t := 3) rfl rfl) _ t5
  obtain rfl := List.head_eq_of_cons_eq g5
  have lt : ∀ (t : TypeId) (v : Value) (d : DataW H) (ps : List MemPlace), DataW.Trod enc Try.prog W 0 (fun _ => true) true t v d ps → ∀ x ∈ ps, x.block < W.heap.size := fun t v d ps h => by obtain ⟨m, hm⟩ := h; exact DataW.trod_lt m _ _ _ hm
  refine (law_true (law16_SegDoes_w x0 x1 x2 x3 x4 x5 true (law16_SegDoes_eq x0 x1 x2 x3 x4 x5 (object_lens k0) k4.1 (u64_ge k2))) (trel_cons e0 (trel_cons e1 (trel_cons e2 (trel_cons e3 (trel_cons e4 (trel_cons e5 trel_nil'))))))).mono fun e W' ⟨he, bel⟩ => ?_
  subst he
  exact ⟨_, rfl, _, _, _, [], _, [], hW', trodAll_mk1 (shut_bool Try.underlying4 _), (trodAll_cons_mk (Below.trod laidOut (by kernel_rfl) (of_decide_eq_true (by kernel_rfl)) h0 bel (lt _ _ _ _ h0)) (trodAll_cons_mk (Below.trod laidOut (by kernel_rfl) (of_decide_eq_true (by kernel_rfl)) h1 bel (lt _ _ _ _ h1)) (trodAll_cons_mk (Below.trod laidOut (by kernel_rfl) (of_decide_eq_true (by kernel_rfl)) h2 bel (lt _ _ _ _ h2)) (trodAll_cons_mk (Below.trod laidOut (by kernel_rfl) (of_decide_eq_true (by kernel_rfl)) h3 bel (lt _ _ _ _ h3)) (trodAll_cons_mk (Below.trod laidOut (by kernel_rfl) (of_decide_eq_true (by kernel_rfl)) h4 bel (lt _ _ _ _ h4)) (trodAll_cons_mk (Below.trod laidOut (by kernel_rfl) (of_decide_eq_true (by kernel_rfl)) h5 bel (lt _ _ _ _ h5)) trodAll_mk0)))))), rfl, bel.frame _, fun h => by cases h⟩
theorem over : Rows.segDoesRow.holds Try.pinned (OpenSpec.ofChange Rows.segDoesSpec) :=
  OpenClaim.holds_of_wide 6 Try.f6 rfl rfl rfl rfl rfl rfl rfl ⟨rfl, rfl, rfl, rfl, rfl⟩ rfl rfl rfl rfl rfl (by kernel_rfl) Try.func6 (by kernel_rfl)
    (of_decide_eq_true (by kernel_rfl)) (by unfold Func.isWrapper; first | (rw [if_pos (by decide +kernel)]; kernel_rfl) | (rw [if_neg (by decide +kernel)]; exact ⟨rfl, rfl⟩))
    (fun os started H enc _ => lifted os started H enc)
theorem proved : Rows.SegDoesSaid := over
#print axioms proved
end Go.Proofs.Ytpckfpahmnhfcaa.segDoesLaw
namespace Go.Proofs.Ytpckfpahmnhfcaa
/-- The row, under a short name, for the claim. -/
theorem segDoes_holds : Rows.SegDoesSaid := segDoesLaw.proved
end Go.Proofs.Ytpckfpahmnhfcaa
