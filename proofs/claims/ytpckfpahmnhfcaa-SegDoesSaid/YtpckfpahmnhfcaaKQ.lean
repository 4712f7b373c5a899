/- Plain laws: what is the same is the same, field by field; threads that take faults and alerts. -/
import Derived.Test.YtpckfpahmnhfcaaKP
import Derived.Test.YtpckfpahmnhfcaaKBF
namespace Go.Proofs.Ytpckfpahmnhfcaa.K
open Go Go.RowKit Go.Proofs.Ytpckfpahmnhfcaa.G
set_option linter.unusedVariables false
set_option linter.unusedSimpArgs false

theorem beq_dec {α : Type} [BEq α] [LawfulBEq α] [DecidableEq α] (x y : α) : (x == y) = decide (x = y) := by rw [Bool.eq_iff_iff]; simp
theorem bne_dec {α : Type} [BEq α] [LawfulBEq α] [DecidableEq α] (x y : α) : (x != y) = decide (x ≠ y) := by rw [Bool.eq_iff_iff]; simp
theorem ne_pair (x y : PairD) : (!((x.Cat == y.Cat) && ((x.Lev == y.Lev) && true))) = !decide (x = y) := by
  congr 1; rw [Bool.eq_iff_iff]; cases x; cases y; simp
theorem r02_Same_eq (a b : List PairD) (ha : a.length ≤ maxLen) : r02_Same a b = some (decide (a = b)) := by
  unfold r02_Same
  by_cases hl : a.length = b.length
  · rw [eq_rounds (step := r02_Same_L0 a b) (ne := fun x y => !((x.Cat == y.Cat) && ((x.Lev == y.Lev) && true))) ne_pair hl ha (fun rec i => rfl)]
    by_cases h : a = b <;> simp [h, hl]
  · have : a ≠ b := fun e => hl (by rw [e])
    have h2 : ((a.length : Int) != b.length) = true := by rw [bne_dec, decide_eq_true_eq]; omega
    simp [this, h2]
theorem r02_Cats_eq (a b : List Int) (ha : a.length ≤ maxLen) : r02_Cats a b = some (decide (a = b)) := by
  unfold r02_Cats
  by_cases hl : a.length = b.length
  · rw [eq_rounds (step := r02_Cats_L0 a b) (ne := fun x y => x != y) (fun x y => by rw [bne_dec]; simp) hl ha (fun rec i => rfl)]
    by_cases h : a = b <;> simp [h, hl]
  · have : a ≠ b := fun e => hl (by rw [e])
    have h2 : ((a.length : Int) != b.length) = true := by rw [bne_dec, decide_eq_true_eq]; omega
    simp [this, h2]
/-- Lists of a thread that are no longer than memory. -/
structure ThreadD.Lens (t : ThreadD) : Prop where
  clear : t.Clear.length ≤ maxLen
  alerts : t.Alerts.length ≤ maxLen
  l0 : t.Labs.e0.length ≤ maxLen
  l1 : t.Labs.e1.length ≤ maxLen
  l2 : t.Labs.e2.length ≤ maxLen
  l3 : t.Labs.e3.length ≤ maxLen
theorem labs_rounds (a b : ThreadD) (ha : a.Lens) : iter (r13_SameThread_L0 a b) fuel0 0 = some (if a.Labs = b.Labs then Sum.inr () else Sum.inl ()) := by
  have e : ∀ rec i, r13_SameThread_L0 a b rec i = bif decide (i < (4 : Int)) then Option.bind (inr 4 i) fun j4 => Option.bind (inr 4 i) fun j5 => Option.bind (r02_Same (Arr4.get a.Labs j4) (Arr4.get b.Labs j5)) fun v6 => bif (!v6) then some (Sum.inl ()) else rec (IntKind.i64.wrap (i + (1 : Int))) else some (Sum.inr ()) := fun _ _ => rfl
  have hb : a.Labs = b.Labs ↔ a.Labs.e0 = b.Labs.e0 ∧ a.Labs.e1 = b.Labs.e1 ∧ a.Labs.e2 = b.Labs.e2 ∧ a.Labs.e3 = b.Labs.e3 := by
    cases ha' : a.Labs; cases hb' : b.Labs; simp
  have w1 : IntKind.i64.wrap ((0 : Int) + 1) = 1 := by decide
  have w2 : IntKind.i64.wrap ((1 : Int) + 1) = 2 := by decide
  have w3 : IntKind.i64.wrap ((2 : Int) + 1) = 3 := by decide
  have w4 : IntKind.i64.wrap ((3 : Int) + 1) = 4 := by decide
  have i0 : inr 4 0 = some 0 := by decide
  have i1 : inr 4 1 = some 1 := by decide
  have i2 : inr 4 2 = some 2 := by decide
  have i3 : inr 4 3 = some 3 := by decide
  have hf : fuel0 = (fuel0 - 5) + 1 + 1 + 1 + 1 + 1 := by decide
  rw [hf]
  simp only [iter, e, cond_dec, i0, i1, i2, i3, w1, w2, w3, w4, Option.bind_some, Arr4.get, r02_Same_eq _ _ ha.l0, r02_Same_eq _ _ ha.l1, r02_Same_eq _ _ ha.l2, r02_Same_eq _ _ ha.l3, hb]
  by_cases h0 : a.Labs.e0 = b.Labs.e0 <;> by_cases h1 : a.Labs.e1 = b.Labs.e1 <;> by_cases h2 : a.Labs.e2 = b.Labs.e2 <;> by_cases h3 : a.Labs.e3 = b.Labs.e3 <;> simp [h0, h1, h2, h3]
theorem eq_thread (a b : ThreadD) : a = b ↔ a.Labs = b.Labs ∧ a.Regs = b.Regs ∧ a.Pc = b.Pc ∧ a.Clear = b.Clear ∧ a.Space = b.Space ∧ a.Handler = b.Handler ∧ a.Vector = b.Vector ∧ a.State = b.State ∧ a.Wait = b.Wait ∧ a.Alerts = b.Alerts ∧ a.Span = b.Span := by
  cases a; cases b; simp only [ThreadD.mk.injEq]
  constructor
  · rintro ⟨h1, h2, h3, h4, h5, h6, h7, h8, h9, h10, h11⟩; exact ⟨h11, h1, h2, h3, h4, h5, h6, h7, h8, h9, h10⟩
  · rintro ⟨h11, h1, h2, h3, h4, h5, h6, h7, h8, h9, h10⟩; exact ⟨h1, h2, h3, h4, h5, h6, h7, h8, h9, h10, h11⟩
theorem eq_regs (a b : Arr16 Int) : ((a.e0 == b.e0) && ((a.e1 == b.e1) && ((a.e2 == b.e2) && ((a.e3 == b.e3) && ((a.e4 == b.e4) && ((a.e5 == b.e5) && ((a.e6 == b.e6) && ((a.e7 == b.e7) && ((a.e8 == b.e8) && ((a.e9 == b.e9) && ((a.e10 == b.e10) && ((a.e11 == b.e11) && ((a.e12 == b.e12) && ((a.e13 == b.e13) && ((a.e14 == b.e14) && ((a.e15 == b.e15) && true)))))))))))))))) = decide (a = b) := by
  rw [Bool.eq_iff_iff]; cases a; cases b; simp
theorem eq_ref (a b : RefD) : ((a.Cont == b.Cont) && ((a.Id == b.Id) && true)) = decide (a = b) := by
  rw [Bool.eq_iff_iff]; cases a; cases b; simp
theorem eq_wait (a b : WaitD) : (((a.Ref.Cont == b.Ref.Cont) && ((a.Ref.Id == b.Ref.Id) && true)) && ((a.Index == b.Index) && ((a.Val == b.Val) && ((a.Dev == b.Dev) && true)))) = decide (a = b) := by
  rw [eq_ref, Bool.eq_iff_iff]; cases a; cases b; simp
theorem eq_span (a b : SpanD) : ((a.Lo == b.Lo) && ((a.Hi == b.Hi) && true)) = decide (a = b) := by
  rw [Bool.eq_iff_iff]; cases a; cases b; simp
theorem r13_SameThread_eq (a b : ThreadD) (ha : a.Lens) : r13_SameThread a b = some (decide (a = b)) := by
  unfold r13_SameThread
  rw [labs_rounds a b ha]
  rw [eq_wait, eq_regs, eq_ref, eq_span, r02_Same_eq _ _ ha.clear, r02_Cats_eq _ _ ha.alerts]
  simp only [beq_dec, Option.bind_some]
  rw [show decide (a = b) = decide (a.Labs = b.Labs ∧ a.Regs = b.Regs ∧ a.Pc = b.Pc ∧ a.Clear = b.Clear ∧ a.Space = b.Space ∧ a.Handler = b.Handler ∧ a.Vector = b.Vector ∧ a.State = b.State ∧ a.Wait = b.Wait ∧ a.Alerts = b.Alerts ∧ a.Span = b.Span) from by rw [decide_eq_decide]; exact eq_thread a b]
  by_cases h0 : a.Labs = b.Labs
  · by_cases h1 : a.Regs = b.Regs
    · by_cases h2 : a.Pc = b.Pc
      · by_cases h3 : a.Clear = b.Clear
        · by_cases h4 : a.Space = b.Space
          · by_cases h5 : a.Handler = b.Handler
            · by_cases h6 : a.Vector = b.Vector
              · by_cases h7 : a.State = b.State
                · by_cases h8 : a.Wait = b.Wait
                  · by_cases h9 : a.Alerts = b.Alerts <;> simp [h0, h1, h2, h3, h4, h5, h6, h7, h8, h9]
                  · simp [h0, h1, h2, h3, h4, h5, h6, h7, h8]
                · simp [h0, h1, h2, h3, h4, h5, h6, h7]
              · simp [h0, h1, h2, h3, h4, h5, h6]
            · simp [h0, h1, h2, h3, h4, h5]
          · simp [h0, h1, h2, h3, h4]
        · simp [h0, h1, h2, h3]
      · simp [h0, h1, h2]
    · simp [h0, h1]
  · simp [h0]

theorem law19_awake_eq : law19_awake = some true := by kernel_rfl
theorem alert_not (t : ThreadD) (h : t.Alerts = [] ∨ t.Vector = 0) : cpu_Alert t = some (t, false) := by
  unfold cpu_Alert
  rcases h with h | h
  · simp [h]
  · by_cases h2 : ((t.Alerts.length : Int) == 0) = true <;> simp [h, h2]
theorem alert_does (t : ThreadD) (x : Int) (r : List Int) (h : t.Alerts = x :: r) (hr : r.length ≤ 20) (hv : t.Vector ≠ 0) :
    cpu_Alert t = some (({ t with Regs := (⟨t.Regs.e0, t.Regs.e1, t.Regs.e2, t.Regs.e3, t.Regs.e4, t.Regs.e5, t.Regs.e6, t.Regs.e7, t.Regs.e8, t.Regs.e9, t.Regs.e10, t.Regs.e11, t.Regs.e12, t.Regs.e13, t.Pc, x⟩ : Arr16 Int), Pc := t.Vector, Vector := (0 : Int), Alerts := r } : ThreadD), true) := by
  unfold cpu_Alert
  have h1 : ((t.Alerts.length : Int) == 0) = false := by rw [beq_dec, decide_eq_false_iff_not, h, List.length_cons]; omega
  have h2 : (t.Vector == 0) = false := by rw [beq_dec, decide_eq_false_iff_not]; exact hv
  have h3 : idx t.Alerts 0 = some x := by rw [h]; rfl
  have h4 : cutL t.Alerts 1 t.Alerts.length = some r := by
    unfold cutL
    rw [if_pos (by rw [h, List.length_cons]; omega)]
    rw [h]; simp
  have h5 : app 8 [] r = some r := by unfold app; rw [if_pos (by simp; omega)]; rfl
  simp only [h1, h2, h3, h4, h5, cond_false, cond_true, Option.bind_some]
theorem law19_CpuTaken_eq (t : ThreadD) (why : Int) (ht : t.Lens) : law19_CpuTaken t why = some true := by
  unfold law19_CpuTaken
  rw [law19_awake_eq]
  simp only [cond_dec]
  split
  · rfl
  · rename_i hal
    have hal' : t.Alerts.length ≤ 20 := by omega
    have tail : ∀ (b : Option Unit), (Option.bind (cpu_Alert t) fun v5 =>
      Option.bind (α := Bool) (
        bif (decide ((t.Alerts.length : Int) > (0 : Int))) then
          some (t.Vector != (0 : Int))
        else
          some false) fun x7 =>
      bif (!(v5.2 == x7)) then
        some false
      else
        bif (!v5.2) then
          Option.bind (r13_SameThread v5.1 t) fun v10 =>
          bif v10 then
            Option.bind (some true) fun v12 =>
            some v12
          else
            some false
        else
          bif (v5.1.Regs.e14 == t.Pc) then
            Option.bind (idx t.Alerts (0 : Int)) fun x14 =>
            bif (v5.1.Regs.e15 == x14) then
              bif (v5.1.Pc == t.Vector) then
                bif (v5.1.Vector == (0 : Int)) then
                  bif ((v5.1.Alerts.length : Int) == (IntKind.i64.wrap ((t.Alerts.length : Int) - (1 : Int)))) then
                    Option.bind (some true) fun v19 =>
                    some v19
                  else
                    some false
                else
                  some false
              else
                some false
            else
              some false
          else
            some false) = some true := by
      intro _
      cases hA : t.Alerts with
      | nil =>
        rw [alert_not t (Or.inl hA)]
        simp [r13_SameThread_eq t t ht]
      | cons x r =>
        have hr : r.length ≤ 20 := by rw [hA, List.length_cons] at hal'; omega
        by_cases hv : t.Vector = 0
        · rw [alert_not t (Or.inr hv)]
          simp [r13_SameThread_eq t t ht, hv]
        · rw [alert_does t x r hA hr hv]
          have hw : IntKind.i64.wrap ((((x :: r).length : Nat) : Int) - 1) = (r.length : Int) := by
            rw [IntKind.wrap_i64, List.length_cons]; omega
          have h3 : idx (x :: r) 0 = some x := rfl
          have h4 : decide ((((x :: r).length : Nat) : Int) > 0) = true := by rw [List.length_cons, decide_eq_true_eq]; omega
          have h5 : (t.Vector != 0) = true := by rw [bne_dec, decide_eq_true_eq]; exact hv
          simp only [h3, h4, h5, hw, beq_self_eq_true, cond_true, cond_false, Option.bind_some, Bool.not_true]
    by_cases hh : t.Handler = 0
    · have ef : cpu_Fault t why = some ({ t with State := (2 : Int), Wait := WaitD.zero } : ThreadD) := by simp [cpu_Fault, hh]
      rw [ef]
      have h1 : (t.Handler == 0) = true := by rw [hh]; rfl
      simp only [h1, Option.bind_some, cond_true, bne_self_eq_false, cond_false, beq_self_eq_true, Bool.and_self, Bool.not_true]
      have := tail none
      simp only [Option.bind_some, cond_dec] at this ⊢
      exact this
    · have h1 : (t.Handler == 0) = false := by rw [beq_dec, decide_eq_false_iff_not]; exact hh
      have ef : cpu_Fault t why = some ({ t with Regs := (⟨t.Regs.e0, t.Regs.e1, t.Regs.e2, t.Regs.e3, t.Regs.e4, t.Regs.e5, t.Regs.e6, t.Regs.e7, t.Regs.e8, t.Regs.e9, t.Regs.e10, t.Regs.e11, t.Regs.e12, t.Regs.e13, t.Pc, why⟩ : Arr16 Int), Pc := t.Handler, Handler := (0 : Int) } : ThreadD) := by simp only [cpu_Fault, h1, cond_false]
      rw [ef]
      simp only [h1, Option.bind_some, cond_true, bne_self_eq_false, cond_false, beq_self_eq_true, Bool.and_self, Bool.not_true]
      have := tail none
      simp only [Option.bind_some, cond_dec] at this ⊢
      exact this
end Go.Proofs.Ytpckfpahmnhfcaa.K
