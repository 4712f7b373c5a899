/- Plain laws: rounds of plain functions, numbers of the machine, lists. No program in sight. -/
import Derived.Test.YtpckfpahmnhfcaaKD
namespace Go.Proofs.Ytpckfpahmnhfcaa.K
open Go Go.RowKit Go.Proofs.Ytpckfpahmnhfcaa.G
set_option linter.unusedVariables false

theorem iter_fuel {σ ρ : Type} {step : (σ → Option ρ) → σ → Option ρ} {r : ρ} (μ : σ → Nat) (I : σ → Prop) (h : ∀ s, I s → (∀ rec, step rec s = some r) ∨ ∃ s', I s' ∧ μ s' < μ s ∧ ∀ rec, step rec s = rec s') :
    ∀ (n : Nat) (s : σ), I s → μ s < n → iter step n s = some r := by
  intro n
  induction n with
  | zero => intro s _ h; omega
  | succ n ih =>
    intro s hs hn
    rcases h s hs with h1 | ⟨s', h1, h2, h3⟩
    · exact h1 _
    · show step (iter step n) s = some r
      rw [h3]
      exact ih s' h1 (by omega)
theorem iter_run {σ ρ : Type} {step : (σ → Option ρ) → σ → Option ρ} {r : ρ} {s0 : σ} (μ : σ → Nat) (I : σ → Prop) (h0 : I s0) (hf : μ s0 < 18446744073709551616) (h : ∀ s, I s → (∀ rec, step rec s = some r) ∨ ∃ s', I s' ∧ μ s' < μ s ∧ ∀ rec, step rec s = rec s') : iter step fuel0 s0 = some r :=
  iter_fuel μ I h fuel0 s0 h0 hf
theorem idx_nat {α : Type} (l : List α) (i : Nat) : idx l (i : Int) = l[i]? := by
  unfold idx; rw [if_pos (Int.natCast_nonneg i)]; simp
theorem idx_lt {α : Type} {l : List α} {i : Nat} (h : i < l.length) : idx l (i : Int) = some l[i] := by rw [idx_nat]; simp [h]
theorem maxLen_eq : maxLen = 9223372036854775807 := rfl
theorem up64 {i n : Nat} (h : i < n) (hn : n ≤ maxLen) : IntKind.i64.wrap ((i : Int) + 1) = ((i + 1 : Nat) : Int) := by
  rw [maxLen_eq] at hn; rw [IntKind.wrap_i64]; omega
@[simp] theorem cond_dec {α : Type} (p : Prop) [Decidable p] (a b : α) : (bif decide p then a else b) = if p then a else b := by by_cases h : p <;> simp [h]

/-- Rounds that compare two lists. -/
theorem eq_rounds {α : Type} [DecidableEq α] {a b : List α} {step : (Int → Option (Unit ⊕ Unit)) → Int → Option (Unit ⊕ Unit)} {ne : α → α → Bool} (hne : ∀ x y, ne x y = !decide (x = y)) (hl : a.length = b.length) (ha : a.length ≤ maxLen)
    (hs : ∀ rec i, step rec i = bif decide (i < (a.length : Int)) then Option.bind (idx a i) fun x => Option.bind (idx b i) fun y => bif ne x y then some (Sum.inl ()) else rec (IntKind.i64.wrap (i + 1)) else some (Sum.inr ())) :
    iter step fuel0 0 = some (if a = b then Sum.inr () else Sum.inl ()) := by
  refine iter_run (fun i => (a.length - i.toNat)) (fun i => ∃ k : Nat, i = k ∧ k ≤ a.length ∧ a.take k = b.take k) ⟨0, rfl, Nat.zero_le _, rfl⟩ (by rw [maxLen_eq] at ha; omega) ?_
  rintro _ ⟨k, rfl, hk, ht⟩
  by_cases hlt : k < a.length
  · have hlt' : k < b.length := hl ▸ hlt
    by_cases he : a[k] = b[k]
    · right
      refine ⟨((k + 1 : Nat) : Int), ⟨k + 1, rfl, hlt, ?_⟩, by simp only [Int.toNat_natCast]; omega, fun rec => ?_⟩
      · rw [List.take_add_one, List.take_add_one, ht, List.getElem?_eq_getElem hlt, List.getElem?_eq_getElem hlt', he]
      · rw [hs, idx_lt hlt, idx_lt hlt']
        simp only [cond_dec, Option.bind_some, hne, he, decide_true, Bool.not_true, cond_false, up64 hlt ha]
        rw [if_pos (by omega)]
    · left
      intro rec
      have hab : a ≠ b := fun e => he (by subst e; rfl)
      rw [hs, idx_lt hlt, idx_lt hlt']
      simp only [cond_dec, Option.bind_some, hne, he, decide_false, Bool.not_false, cond_true, if_neg hab]
      rw [if_pos (by omega)]
  · left
    intro rec
    have hka : k = a.length := by omega
    have hab : a = b := by rwa [hka, List.take_length, hl, List.take_length] at ht
    rw [hs]
    simp only [cond_dec, if_pos hab]
    rw [if_neg (by omega)]
end Go.Proofs.Ytpckfpahmnhfcaa.K
