/- The layer of pages, plainly: the program's answers are the reference's, and stay fit. -/
import Derived.Test.YtpckfpahmnhfcaaP0
namespace Go.Proofs.Ytpckfpahmnhfcaa.F
open Go Go.RowKit Go.Proofs.Ytpckfpahmnhfcaa.G
set_option linter.unusedVariables false
set_option linter.unusedSimpArgs false

theorem wr (n : Int) : IntKind.i64.wrap n = (n + 9223372036854775808) % 18446744073709551616 - 9223372036854775808 := by rw [IntKind.wrap_i64]
theorem one_facts {m : MapD} (h : oneL m = true) : 0 ≤ m.va ∧ m.va < 1048576 ∧ 0 ≤ m.off ∧ m.off < 1048576 ∧ 1 ≤ m.n ∧ m.va + m.n ≤ 1048576 ∧ m.off + m.n ≤ 1048576 := by
  simp only [oneL, Bool.and_eq_true, decide_eq_true_eq, wr] at h
  omega
theorem one_of {m : MapD} (h : 0 ≤ m.va ∧ m.va < 1048576 ∧ 0 ≤ m.off ∧ m.off < 1048576 ∧ 1 ≤ m.n ∧ m.va + m.n ≤ 1048576 ∧ m.off + m.n ≤ 1048576) : oneL m = true := by
  simp only [oneL, Bool.and_eq_true, decide_eq_true_eq, wr]
  omega
theorem good_one (m : MapD) : goodL m = oneL m := by
  rw [Bool.eq_iff_iff]
  constructor
  · intro h
    simp only [goodL, withinL, Bool.and_eq_true, decide_eq_true_eq, wr] at h
    exact one_of (by omega)
  · intro h
    have := one_facts h
    simp only [goodL, withinL, Bool.and_eq_true, decide_eq_true_eq, wr]
    omega
theorem good_eq : goodL = oneL := funext good_one
theorem end_one {m : MapD} (h : oneL m = true) : endL m = m.va + m.n := by
  have := one_facts h
  simp only [endL, wr]; omega

/-- Fit maps: one behind the other. -/
def Chain (l : List MapD) : Prop := (∀ x ∈ l, oneL x = true) ∧ l.Pairwise fun x y => endL x ≤ y.va

theorem fit_iff (l : List MapD) : fitL oneL l = true ↔ l.length ≤ 16 ∧ Chain l := by
  constructor
  · intro h
    simp only [fitL, Bool.and_eq_true, decide_eq_true_eq, List.all_eq_true, List.mem_range] at h
    obtain ⟨h1, h2⟩ := h
    have ha : ∀ (i : Nat) (x : MapD), l[i]? = some x → oneL x = true := fun i x hx => by
      have := h2 i (List.getElem?_eq_some_iff.1 hx).1
      simp only [okAt, hx, Bool.and_eq_true] at this
      exact this.1
    have hc : ∀ (i : Nat) (x y : MapD), l[i]? = some x → l[i + 1]? = some y → endL x ≤ y.va := fun i x y hx hy => by
      have := h2 (i + 1) (List.getElem?_eq_some_iff.1 hy).1
      simp only [okAt, hx, hy, Bool.and_eq_true, Bool.not_eq_true', decide_eq_false_iff_not] at this
      omega
    refine ⟨by omega, fun x hx => ?_, ?_⟩
    · obtain ⟨i, hi⟩ := List.mem_iff_getElem?.1 hx
      exact ha i x hi
    · have key : ∀ (d i : Nat) (x y : MapD), l[i]? = some x → l[i + d + 1]? = some y → endL x ≤ y.va := by
        intro d
        induction d with
        | zero => intro i x y hx hy; exact hc i x y hx hy
        | succ d ih =>
          intro i x y hx hy
          have hlt : i + d + 1 < l.length := by have := (List.getElem?_eq_some_iff.1 hy).1; omega
          obtain ⟨z, hz⟩ := get_lt hlt
          have e1 := ih i x z hx hz
          have e2 := hc _ z y hz hy
          have e3 := end_one (ha _ z hz)
          have := one_facts (ha _ z hz)
          omega
      rw [List.pairwise_iff_getElem]
      intro i j hi hj hij
      have := key (j - i - 1) i l[i] l[j] (List.getElem?_eq_getElem hi) (by rw [show i + (j - i - 1) + 1 = j by omega]; exact List.getElem?_eq_getElem hj)
      exact this
  · rintro ⟨h1, h2, h3⟩
    simp only [fitL, Bool.and_eq_true, decide_eq_true_eq, List.all_eq_true, List.mem_range]
    refine ⟨by omega, fun i hi => ?_⟩
    obtain ⟨x, hx⟩ := get_lt hi
    have hox := h2 x (List.mem_of_getElem? hx)
    cases i with
    | zero => simp [okAt, hx, hox]
    | succ i =>
      obtain ⟨y, hy⟩ := get_lt (show i < l.length by omega)
      exact ok_yes hx hy hox (by have := pair_get h3 (Nat.lt_succ_self i) hy hx; simp; omega)

theorem chain_va {l : List MapD} (h : Chain l) : l.Pairwise fun x y => x.va ≤ y.va := h.2.imp_of_mem fun hx hy hxy => by
  have := end_one (h.1 _ hx)
  have := one_facts (h.1 _ hx)
  omega
theorem chain_end {l : List MapD} (h : Chain l) : l.Pairwise fun x y => endL x ≤ endL y := h.2.imp_of_mem fun hx hy hxy => by
  have := end_one (h.1 _ hy)
  have := one_facts (h.1 _ hy)
  omega

theorem at_iff {α : Type} {key : α → Int} {l : List α} (hm : l.Pairwise fun x y => key x ≤ key y) (n : Int) (i : Nat) (x : α) (hx : l[i]? = some x) : i < atL key l n ↔ key x < n := by
  obtain ⟨k, hk⟩ : ∃ k, k = l.findIdx fun x => !decide (key x < n) := ⟨_, rfl⟩
  have hkl : k ≤ l.length := by rw [hk]; exact List.findIdx_le_length
  have h1 : ∀ (j : Nat) (y : α), j < k → l[j]? = some y → key y < n := fun j y hj hy => by
    obtain ⟨hl, rfl⟩ := List.getElem?_eq_some_iff.1 hy
    have := List.not_of_lt_findIdx (hk ▸ hj)
    simpa using this
  have h2 : ∀ (j : Nat) (y : α), k ≤ j → l[j]? = some y → ¬ key y < n := fun j y hj hy => by
    have hjl := (List.getElem?_eq_some_iff.1 hy).1
    have hk' : k < l.length := by omega
    obtain ⟨z, hz⟩ := get_lt hk'
    have hz' : ¬ key z < n := by
      have := List.findIdx_getElem (w := hk ▸ hk')
      obtain ⟨_, e⟩ := List.getElem?_eq_some_iff.1 hz
      subst hk
      rw [e] at this
      simpa using this
    rcases Nat.lt_or_ge k j with h | h
    · have := pair_get hm h hz hy; omega
    · have : j = k := by omega
      subst this
      rw [hz] at hy; cases hy; exact hz'
  have hat := at_done hkl h1 h2
  rw [← hat]
  constructor
  · intro h; exact h1 i x h hx
  · intro h
    rcases Nat.lt_or_ge i k with h' | h'
    · exact h'
    · exact absurd h (h2 i x h' hx)

/-! ### finding -/
theorem find_law {l : List MapD} (h : Chain l) (page : Int) : findP l page = findR l page := by
  unfold findP findR
  split
  · rename_i hp
    have : l.find? (fun x => hasL x page) = none := by
      rw [List.find?_eq_none]
      intro x hx
      have e := end_one (h.1 x hx)
      have := one_facts (h.1 x hx)
      simp [hasL, e]; omega
    rw [this]
  · rename_i hp
    split
    · rename_i h0
      have : l.find? (fun x => hasL x page) = none := by
        rw [List.find?_eq_none]
        intro x hx
        have := one_facts (h.1 x hx)
        simp [hasL]; omega
      rw [this]
    · rename_i h0
      have hw : w64 (page + 1) = page + 1 := by simp only [w64, wr]; omega
      rw [hw]
      have hat := at_iff (chain_end h) (page + 1)
      cases hk : l[atL endL l (page + 1)]? with
      | none =>
        have hkl : l.length ≤ atL endL l (page + 1) := List.getElem?_eq_none_iff.1 hk
        have : l.find? (fun x => hasL x page) = none := by
          rw [List.find?_eq_none]
          intro x hx
          obtain ⟨i, hi⟩ := List.mem_iff_getElem?.1 hx
          have hlt := (List.getElem?_eq_some_iff.1 hi).1
          have := (hat i x hi).1 (by omega)
          simp [hasL]; omega
        rw [this]
      | some x =>
        simp only
        have hbefore : ∀ j y, j < atL endL l (page + 1) → l[j]? = some y → hasL y page = false := fun j y hj hy => by
          have := (hat j y hy).1 hj
          simp [hasL]; omega
        cases hhas : hasL x page with
        | true => rw [find_here hbefore hk hhas]; rfl
        | false =>
          have hx : ¬ endL x < page + 1 := fun hlt => by have := (hat _ x hk).2 hlt; omega
          have hxv : page < x.va := by simp [hasL] at hhas; omega
          have : l.find? (fun x => hasL x page) = none := by
            rw [List.find?_eq_none]
            intro y hy
            obtain ⟨j, hj⟩ := List.mem_iff_getElem?.1 hy
            rcases Nat.lt_or_ge j (atL endL l (page + 1)) with hlt | hge
            · simp [hbefore j y hlt hj]
            · rcases Nat.lt_or_ge (atL endL l (page + 1)) j with hgt | hle
              · have := pair_get (chain_va h) hgt hk hj
                simp [hasL]; omega
              · have : j = atL endL l (page + 1) := by omega
                subst this
                rw [hk] at hj; cases hj
                simp [hhas]
          rw [this]; rfl

/-! ### taking out -/
theorem va_lt {l : List MapD} (h : Chain l) {i j : Nat} {x y : MapD} (hij : i < j) (hx : l[i]? = some x) (hy : l[j]? = some y) : x.va < y.va := by
  have e := end_one (h.1 x (List.mem_of_getElem? hx))
  have f := one_facts (h.1 x (List.mem_of_getElem? hx))
  have := pair_get h.2 hij hx hy
  omega
theorem dropTo_all (l : List MapD) (va : Int) : dropTo l va l.length = l.filter fun x => !decide (x.va = va) := by unfold dropTo; rw [List.take_length]
theorem drop_none {l : List MapD} {va : Int} (h : ∀ x ∈ l, x.va ≠ va) : dropR l va = (l, 1) := by
  unfold dropR
  rw [dropTo_all, List.filter_eq_self.2 (fun x hx => by simp [h x hx]), if_pos rfl]
theorem drop_law {l : List MapD} (h : Chain l) (va : Int) : dropP l va = dropR l va := by
  have hat : ∀ (i : Nat) (x : MapD), l[i]? = some x → (i < atL (·.va) l va ↔ x.va < va) := fun i x hx => at_iff (key := (·.va)) (chain_va h) va i x hx
  unfold dropP
  cases hk : l[atL (·.va) l va]? with
  | none =>
    have hkl : l.length ≤ atL (·.va) l va := List.getElem?_eq_none_iff.1 hk
    refine (drop_none fun x hx => ?_).symm
    obtain ⟨i, hi⟩ := List.mem_iff_getElem?.1 hx
    have hlt := (List.getElem?_eq_some_iff.1 hi).1
    have := (hat i x hi).1 (by omega)
    omega
  | some x =>
    have hkl := (List.getElem?_eq_some_iff.1 hk).1
    have hx : ¬ x.va < va := fun hlt => by have := (hat _ x hk).2 hlt; omega
    simp only
    by_cases he : x.va = va
    · rw [if_pos he]
      have e : l = l.take (atL (·.va) l va) ++ x :: l.drop (atL (·.va) l va + 1) := by
        have e1 := List.drop_eq_getElem_cons hkl
        have e2 := (List.getElem?_eq_some_iff.1 hk).2
        rw [e2] at e1
        rw [← e1, List.take_append_drop]
      have hf : l.filter (fun x => !decide (x.va = va)) = l.take (atL (·.va) l va) ++ l.drop (atL (·.va) l va + 1) := by
        conv => lhs; rw [e]
        rw [List.filter_append, List.filter_cons]
        have h1 : (l.take (atL (·.va) l va)).filter (fun x => !decide (x.va = va)) = l.take (atL (·.va) l va) := List.filter_eq_self.2 fun y hy => by
          obtain ⟨j, hj⟩ := List.mem_iff_getElem?.1 hy
          rw [List.getElem?_take] at hj
          split at hj
          · rename_i hlt
            have := (hat j y hj).1 hlt
            simp; omega
          · cases hj
        have h2 : (l.drop (atL (·.va) l va + 1)).filter (fun x => !decide (x.va = va)) = l.drop (atL (·.va) l va + 1) := List.filter_eq_self.2 fun y hy => by
          obtain ⟨j, hj⟩ := List.mem_iff_getElem?.1 hy
          rw [List.getElem?_drop] at hj
          have := va_lt h (show atL (·.va) l va < atL (·.va) l va + 1 + j by omega) hk hj
          simp; omega
        rw [h1, h2]; simp [he]
      unfold dropR
      rw [dropTo_all, hf, if_neg]
      simp; omega
    · rw [if_neg he]
      refine (drop_none fun y hy => ?_).symm
      obtain ⟨j, hj⟩ := List.mem_iff_getElem?.1 hy
      rcases Nat.lt_or_ge j (atL (·.va) l va) with hlt | hge
      · have := (hat j y hj).1 hlt; omega
      · rcases Nat.lt_or_ge (atL (·.va) l va) j with hgt | hle
        · have := va_lt h hgt hk hj; omega
        · have : j = atL (·.va) l va := by omega
          subst this
          rw [hk] at hj; cases hj; exact he
theorem drop_fit {l : List MapD} (hl : l.length ≤ 16) (h : Chain l) (va : Int) : fitL oneL (dropR l va).1 = true := by
  rw [fit_iff]
  unfold dropR
  split
  · exact ⟨hl, h⟩
  · rw [dropTo_all]
    exact ⟨Nat.le_trans (List.length_filter_le _ _) hl, fun x hx => h.1 x ((List.mem_filter.1 hx).1), h.2.sublist List.filter_sublist⟩

/-! ### laying in -/
theorem cuts_meets {m x : MapD} (hm : oneL m = true) (hx : oneL x = true) : meetsL m x = cutsR m x := by
  have a := one_facts hm
  have b := one_facts hx
  have e := end_one hm
  have f := end_one hx
  have e' : w64 (m.va + m.n) = m.va + m.n := by rw [← e]; simp only [w64, endL, wr]; omega
  have f' : w64 (x.va + x.n) = x.va + x.n := by rw [← f]; simp only [w64, endL, wr]; omega
  rw [Bool.eq_iff_iff]
  simp only [meetsL, hasL, cutsR, e, f, e', f', Bool.or_eq_true, Bool.and_eq_true, decide_eq_true_eq]
  omega
theorem cuts_no {m x : MapD} (hm : oneL m = true) (hx : oneL x = true) (h : cutsR m x = false) : endL m ≤ x.va ∨ endL x ≤ m.va := by
  have a := one_facts hm
  have b := one_facts hx
  have e := end_one hm
  have f := end_one hx
  have e' : w64 (m.va + m.n) = m.va + m.n := by rw [← e]; simp only [w64, endL, wr]; omega
  have f' : w64 (x.va + x.n) = x.va + x.n := by rw [← f]; simp only [w64, endL, wr]; omega
  simp only [cutsR, e', f', Bool.and_eq_false_iff, decide_eq_false_iff_not] at h
  omega
theorem any_cuts {l : List MapD} {m : MapD} (hm : oneL m = true) (h : Chain l) : l.any (meetsL m) = l.any (cutsR m) := by
  have : ∀ (k : List MapD), (∀ x ∈ k, oneL x = true) → k.any (meetsL m) = k.any (cutsR m) := by
    intro k
    induction k with
    | nil => intro _; rfl
    | cons x k ih => intro hk; rw [List.any_cons, List.any_cons, ih fun y hy => hk y (by simp [hy]), cuts_meets hm (hk x (by simp))]
  exact this l h.1

theorem put_walk {l : List MapD} {m : MapD} (hm : oneL m = true) (h : Chain l) (hc : l.any (cutsR m) = false) : ∀ i, i ≤ l.length → putAt l m i = if i ≤ atL (·.va) l m.va then (l.take i, false) else (l.take (atL (·.va) l m.va) ++ [m] ++ (l.take i).drop (atL (·.va) l m.va), true)
  | 0, _ => by simp [putAt]
  | i + 1, hi => by
    have hat : ∀ (i : Nat) (x : MapD), l[i]? = some x → (i < atL (·.va) l m.va ↔ x.va < m.va) := fun i x hx => at_iff (key := (·.va)) (chain_va h) m.va i x hx
    obtain ⟨x, hx⟩ := get_lt (show i < l.length by omega)
    have hxm := List.mem_of_getElem? hx
    have hcx : cutsR m x = false := by
      rw [List.any_eq_false] at hc
      simpa using hc x hxm
    have ih := put_walk hm h hc i (by omega)
    have a := one_facts hm
    have b := one_facts (h.1 x hxm)
    have e := end_one hm
    have f := end_one (h.1 x hxm)
    have hno := cuts_no hm (h.1 x hxm) hcx
    rw [put_step hx, ih]
    have ht : l.take (i + 1) = l.take i ++ [x] := by rw [List.take_add_one, hx]; rfl
    by_cases h1 : i + 1 ≤ atL (·.va) l m.va
    · have h2 := (hat i x hx).1 (by omega)
      rw [if_pos (show i ≤ atL (·.va) l m.va by omega), if_pos h1]
      have h3 : decide (x.va > m.va) = false := by simp; omega
      simp [h3, ht]
    · have h2 : ¬ x.va < m.va := fun hlt => by have := (hat i x hx).2 hlt; omega
      have h3 : decide (x.va > m.va) = true := by simp; omega
      by_cases h4 : i ≤ atL (·.va) l m.va
      · have h5 : i = atL (·.va) l m.va := by omega
        rw [if_pos h4, if_neg h1]
        simp only [h3, Bool.not_false, Bool.and_self, if_true, Bool.or_true]
        rw [← h5, ht]
        have : (l.take i ++ [x]).drop i = [x] := by
          have hl : (l.take i).length = i := by simp; omega
          conv => lhs; rw [← hl]
          simp
        rw [this]
      · rw [if_neg h4, if_neg h1]
        simp only [h3, Bool.not_true, Bool.false_and, Bool.false_eq_true, if_false, Bool.or_true]
        rw [ht, List.drop_append_of_le_length (by simp; omega), List.append_assoc]
theorem put_out {l : List MapD} {m : MapD} (hm : oneL m = true) (h : Chain l) (hc : l.any (cutsR m) = false) : putOut l m = l.take (atL (·.va) l m.va) ++ [m] ++ l.drop (atL (·.va) l m.va) := by
  have hw := put_walk hm h hc l.length (Nat.le_refl _)
  have hle := at_le (·.va) l m.va
  unfold putOut
  rw [hw]
  by_cases h1 : l.length ≤ atL (·.va) l m.va
  · rw [if_pos h1]
    have : atL (·.va) l m.va = l.length := by omega
    rw [this]; simp
  · rw [if_neg h1]; simp
theorem put_law {l : List MapD} (h : Chain l) (m : MapD) : putP l m = putR l m := by
  unfold putP putR
  rw [good_one]
  by_cases hm : oneL m = false
  · rw [if_pos hm, if_pos hm]
  · rw [if_neg hm, if_neg hm]
    have hm : oneL m = true := by simpa using hm
    rw [any_cuts hm h]
    by_cases hc : l.any (cutsR m) = true
    · rw [if_pos hc, if_pos hc]
    · rw [if_neg hc, if_neg hc]
      have ho := put_out hm h (by simpa using hc)
      have hle := at_le (·.va) l m.va
      have hlen : (putOut l m).length = l.length + 1 := by rw [ho]; simp; omega
      rw [hlen, ho]
      by_cases h16 : (l.length : Int) ≥ 16
      · rw [if_pos h16, if_pos (by omega)]
      · rw [if_neg h16, if_neg (by omega)]
theorem put_fit {l : List MapD} (hl : l.length ≤ 16) (h : Chain l) (m : MapD) : fitL oneL (putR l m).1 = true := by
  rw [fit_iff]
  unfold putR
  by_cases hm : oneL m = false
  · rw [if_pos hm]; exact ⟨hl, h⟩
  · rw [if_neg hm]
    have hm : oneL m = true := by simpa using hm
    by_cases hc : l.any (cutsR m) = true
    · rw [if_pos hc]; exact ⟨hl, h⟩
    · rw [if_neg hc]
      have hc : l.any (cutsR m) = false := by simpa using hc
      by_cases h16 : ((putOut l m).length : Int) > 16
      · rw [if_pos h16]; exact ⟨hl, h⟩
      · rw [if_neg h16]
        refine ⟨by simp only; omega, ?_⟩
        simp only
        rw [put_out hm h hc]
        have hat : ∀ (i : Nat) (x : MapD), l[i]? = some x → (i < atL (·.va) l m.va ↔ x.va < m.va) := fun i x hx => at_iff (key := (·.va)) (chain_va h) m.va i x hx
        have hnc : ∀ x ∈ l, cutsR m x = false := fun x hx => by
          rw [List.any_eq_false] at hc
          simpa using hc x hx
        have em := end_one hm
        have fm := one_facts hm
        have before : ∀ x ∈ l.take (atL (·.va) l m.va), endL x ≤ m.va := fun x hx => by
          have hxl := List.mem_of_mem_take hx
          obtain ⟨j, hj⟩ := List.mem_iff_getElem?.1 hx
          rw [List.getElem?_take] at hj
          split at hj
          · rename_i hlt
            have := (hat j x hj).1 hlt
            rcases cuts_no hm (h.1 x hxl) (hnc x hxl) with h1 | h1
            · omega
            · exact h1
          · cases hj
        have behind : ∀ x ∈ l.drop (atL (·.va) l m.va), endL m ≤ x.va := fun x hx => by
          have hxl := List.mem_of_mem_drop hx
          obtain ⟨j, hj⟩ := List.mem_iff_getElem?.1 hx
          rw [List.getElem?_drop] at hj
          have h0 : ¬ x.va < m.va := fun hlt => by have := (hat _ x hj).2 hlt; omega
          have ex := end_one (h.1 x hxl)
          have fx := one_facts (h.1 x hxl)
          rcases cuts_no hm (h.1 x hxl) (hnc x hxl) with h1 | h1
          · exact h1
          · omega
        constructor
        · intro x hx
          simp only [List.mem_append, List.mem_singleton] at hx
          rcases hx with (hx | rfl) | hx
          · exact h.1 x (List.mem_of_mem_take hx)
          · exact hm
          · exact h.1 x (List.mem_of_mem_drop hx)
        · rw [List.pairwise_append, List.pairwise_append]
          refine ⟨⟨h.2.sublist (List.take_sublist _ _), List.pairwise_singleton _ _, fun x hx y hy => ?_⟩, h.2.sublist (List.drop_sublist _ _), fun x hx y hy => ?_⟩
          · simp at hy; subst hy; exact before x hx
          · rcases List.mem_append.1 hx with hx | hx
            · have e1 := before x hx
              have e2 := behind y hy
              omega
            · simp at hx; subst hx; exact behind y hy
theorem put_length {l : List MapD} (m : MapD) (h : l.length ≤ 16) (hc : Chain l) : (putR l m).1.length ≤ 16 := ((fit_iff _).1 (put_fit h hc m)).1
theorem drop_length {l : List MapD} (va : Int) (h : l.length ≤ 16) (hc : Chain l) : (dropR l va).1.length ≤ 16 := ((fit_iff _).1 (drop_fit h hc va)).1
end Go.Proofs.Ytpckfpahmnhfcaa.F
