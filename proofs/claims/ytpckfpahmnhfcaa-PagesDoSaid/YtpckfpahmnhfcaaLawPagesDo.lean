/- The row of PagesDo: out of the walk of the statement (P3) and the lift of its input (G18, G19). -/
import Derived.Test.YtpckfpahmnhfcaaRows
import Derived.Test.YtpckfpahmnhfcaaP3
import Derived.Test.YtpckfpahmnhfcaaG19
import Derived.WalkKit
import Derived.ProofKit
import Derived.OpenShut
import Derived.ShutString
import Derived.ChangeOld
import Derived.Below
import Derived.SizedLaws
namespace Go.Proofs.Ytpckfpahmnhfcaa.pagesDo
open Go.ChangeShapes Go.WideShapes Go.ChangeAt Go.RowKit Go.Proofs.Ytpckfpahmnhfcaa.G Go.Proofs.Ytpckfpahmnhfcaa.F
set_option linter.unusedVariables false
theorem own : ownKnob Try.prog.godebug = none := by kernel_rfl
theorem laidOut : laidOutB Try.prog = true := by kernel_rfl

theorem typ_map {xs : List AV} (h : Typ tt 25 xs) : ∃ m : MapD, xs = encMap m := by
  obtain ⟨hl, hf⟩ := typ_struct h rfl rfl
  match xs, hl, hf with
  | [a, b, c, d, e, f], _, hf =>
    obtain ⟨n0, e0, _⟩ := typ_int (hf (0, 3) _ (by simp) rfl) rfl rfl
    obtain ⟨n1, e1, _⟩ := typ_int (hf (1, 3) _ (by simp) rfl) rfl rfl
    obtain ⟨n2, e2, _⟩ := typ_int (hf (2, 23) _ (by simp) rfl) rfl rfl
    obtain ⟨n3, e3, _⟩ := typ_int (hf (3, 23) _ (by simp) rfl) rfl rfl
    obtain ⟨n4, e4, _⟩ := typ_int (hf (4, 3) _ (by simp) rfl) rfl rfl
    obtain ⟨n5, e5⟩ := typ_bool (hf (5, 4) _ (by simp) rfl) rfl rfl
    simp at e0 e1 e2 e3 e4 e5
    subst e0 e1 e2 e3 e4 e5
    exact ⟨⟨n0, n1, n2, n3, n4, n5⟩, rfl⟩
theorem typ_maps {x : AV} (h : Typ tt 22 [x]) : ∃ l : List MapD, x = .list (l.map encMap) := by
  obtain ⟨rows, e, hr⟩ := typ_slice h rfl rfl
  simp at e
  subst e
  have key : ∀ rows : List (List AV), (∀ el, el ∈ rows → Typ tt 25 el) → ∃ l : List MapD, rows = l.map encMap := by
    intro rows
    induction rows with
    | nil => intro _; exact ⟨[], rfl⟩
    | cons r rows ih =>
      intro h
      obtain ⟨m, rfl⟩ := typ_map (h r (by simp))
      obtain ⟨l, rfl⟩ := ih fun el he => h el (by simp [he])
      exact ⟨m :: l, rfl⟩
  obtain ⟨l, rfl⟩ := key rows hr
  exact ⟨l, rfl⟩

set_option maxRecDepth 100000 in
theorem lifted (os : Os) (started : os.Started) (H : Type) (enc : TypeId × Value → H) :
    ReturnsInHanded {} Try.checked os 3 .any (Rows.pagesDoSpec.pre6 enc Try.prog Try.f3 Rows.pagesDoRow.domain false) (Rows.pagesDoSpec.post enc Try.prog Try.f3 false true false false) := by
  refine returnsInHanded_of_change_sized (C := Try.checked) own started (by kernel_rfl) Try.func3
    (ChangeSpec.witness6 (enc := enc) (C := Try.checked) false ⟨#[], #[.slice none 0 0, .slice none 0 0, .agg #[.int .i64 0, .int .i64 0, .int .u64 0, .int .u64 0, .int .i64 0, .bool false], .int .i64 0, .int .u64 0], []⟩ 8 (by kernel_rfl) (by kernel_rfl) (by kernel_rfl) (by kernel_rfl)) ?_
  intro W base args ds gs before hval0 hW hcnd hsz0 _
  have hval : ∀ (j : Nat) t v, Try.f3.params[j]? = some t → args[j]? = some v → Value.okWide Try.prog W .any base t v := hval0
  have hW' := hW
  obtain ⟨p, q, hA0, hV, rfl, hfz, hnd⟩ := hW
  have hA : DataW.TrodAll enc Try.prog W 0 (fun _ => true) true Try.f3.params.toList args.toList ds p := hA0
  have hp : Try.f3.params = #[22, 22, 25, 3, 23] := by kernel_rfl
  rw [hp] at hA hval
  obtain ⟨v0, vs0, d0, ds0, p0, q0, hargs, rfl, rfl, h0, r0⟩ := trodAll_cons hA
  obtain ⟨v1, vs1, d1, ds1, p1, q1, rfl, rfl, rfl, h1, r1⟩ := trodAll_cons r0
  obtain ⟨v2, vs2, d2, ds2, p2, q2, rfl, rfl, rfl, h2, r2⟩ := trodAll_cons r1
  obtain ⟨v3, vs3, d3, ds3, p3, q3, rfl, rfl, rfl, h3, r3⟩ := trodAll_cons r2
  obtain ⟨v4, vs4, d4, ds4, p4, q4, rfl, rfl, rfl, h4, r4⟩ := trodAll_cons r3
  obtain ⟨rfl, rfl, rfl⟩ := trodAll_nil r4
  obtain rfl : args = #[v0, v1, v2, v3, v4] := by cases args; simp_all
  obtain ⟨rfl, rfl⟩ := trodVars_none hV
  obtain ⟨x0, t0, e0⟩ := arg_one tok (f2 := 8) rfl (by kernel_rfl) rfl (hval 0 22 v0 rfl rfl) h0
  obtain ⟨x1, t1, e1⟩ := arg_one tok (f2 := 8) rfl (by kernel_rfl) rfl (hval 1 22 v1 rfl rfl) h1
  obtain ⟨x2, t2, e2⟩ := arg_agg tok (f2 := 8) rfl (by kernel_rfl) rfl (hval 2 25 v2 rfl rfl) h2
  obtain ⟨x3, t3, e3⟩ := arg_one tok (f2 := 8) rfl (by kernel_rfl) rfl (hval 3 3 v3 rfl rfl) h3
  obtain ⟨x4, t4, e4⟩ := arg_one tok (f2 := 8) rfl (by kernel_rfl) rfl (hval 4 23 v4 rfl rfl) h4
  obtain ⟨l, rfl⟩ := typ_maps t0
  obtain ⟨k, rfl⟩ := typ_maps t1
  obtain ⟨m, rfl⟩ := typ_map t2
  obtain ⟨page, e3', _⟩ := typ_int t3 rfl rfl
  obtain ⟨addr, e4', _⟩ := typ_int t4 rfl rfl
  simp at e3' e4'
  subst e3' e4'
  have lt : ∀ (t : TypeId) (v : Value) (d : DataW H) (ps : List MemPlace), DataW.Trod enc Try.prog W 0 (fun _ => true) true t v d ps → ∀ x ∈ ps, x.block < W.heap.size := fun t v d ps h => by obtain ⟨m, hm⟩ := h; exact DataW.trod_lt m _ _ _ hm
  refine (law_true (pagesDo_spec l k m page addr) (trel_cons e0 (trel_cons e1 (trel_cons e2 (trel_cons e3 (trel_cons e4 trel_nil')))))).mono fun e W' ⟨he, bel⟩ => ?_
  subst he
  exact ⟨_, rfl, _, _, _, [], _, [], hW', trodAll_mk1 (shut_bool Try.underlying4 _), (trodAll_cons_mk (Below.trod laidOut (by kernel_rfl) (of_decide_eq_true (by kernel_rfl)) h0 bel (lt _ _ _ _ h0)) (trodAll_cons_mk (Below.trod laidOut (by kernel_rfl) (of_decide_eq_true (by kernel_rfl)) h1 bel (lt _ _ _ _ h1)) (trodAll_cons_mk (Below.trod laidOut (by kernel_rfl) (of_decide_eq_true (by kernel_rfl)) h2 bel (lt _ _ _ _ h2)) (trodAll_cons_mk (Below.trod laidOut (by kernel_rfl) (of_decide_eq_true (by kernel_rfl)) h3 bel (lt _ _ _ _ h3)) (trodAll_cons_mk (Below.trod laidOut (by kernel_rfl) (of_decide_eq_true (by kernel_rfl)) h4 bel (lt _ _ _ _ h4)) trodAll_mk0))))), rfl, bel.frame _, fun h => by cases h⟩
theorem over : Rows.pagesDoRow.holds Try.pinned (OpenSpec.ofChange Rows.pagesDoSpec) :=
  OpenClaim.holds_of_wide 3 Try.f3 rfl rfl rfl rfl rfl rfl rfl ⟨rfl, rfl, rfl, rfl, rfl⟩ rfl rfl rfl rfl rfl (by kernel_rfl) Try.func3 (by kernel_rfl)
    (of_decide_eq_true (by kernel_rfl)) (by unfold Func.isWrapper; first | (rw [if_pos (by decide +kernel)]; kernel_rfl) | (rw [if_neg (by decide +kernel)]; exact ⟨rfl, rfl⟩))
    (fun os started H enc _ => lifted os started H enc)
theorem proved : Rows.PagesDoSaid := over
#print axioms proved
end Go.Proofs.Ytpckfpahmnhfcaa.pagesDo
namespace Go.Proofs.Ytpckfpahmnhfcaa
/-- The row, under a short name, for the claim. -/
theorem pagesDo_holds : Rows.PagesDoSaid := pagesDo.proved
end Go.Proofs.Ytpckfpahmnhfcaa
