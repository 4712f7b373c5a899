/- Plain laws: what fits, what is sound, what is the same: the program's answers and the document's. No program in sight. -/
import Derived.Test.YtpckfpahmnhfcaaKQ
import Derived.Test.YtpckfpahmnhfcaaKFF
namespace Go.Proofs.Ytpckfpahmnhfcaa.K
open Go Go.RowKit Go.Proofs.Ytpckfpahmnhfcaa.G
set_option linter.unusedVariables false
set_option linter.unusedSimpArgs false
attribute [-simp] cond_dec

theorem bif_and (a b : Bool) : (bif a then some b else some false) = some (a && b) := by cases a <;> rfl
theorem bif_or (a b : Bool) : (bif a then some true else some b) = some (a || b) := by cases a <;> rfl
theorem bif_nor (a b : Bool) : (bif a then some false else some b) = some (!a && b) := by cases a <;> rfl
theorem bif_imp (a b : Bool) : (bif a then some b else some true) = some (!a || b) := by cases a <;> rfl
theorem bind_same {α : Type} (x : Option α) : Option.bind x (fun v => some v) = x := by cases x <;> rfl

theorem any_first {bad : Nat → Bool} : ∀ (n : Nat), (List.range n).any bad = true → ∃ i, i < n ∧ bad i = true ∧ ∀ j, j < i → bad j = false
  | 0, h => by simp at h
  | n + 1, h => by
    by_cases hn : (List.range n).any bad = true
    · obtain ⟨i, h1, h2, h3⟩ := any_first n hn
      exact ⟨i, by omega, h2, h3⟩
    · have hall : ∀ j, j < n → bad j = false := fun j hj => by
        cases hb : bad j with
        | false => rfl
        | true => exact absurd (List.any_eq_true.2 ⟨j, List.mem_range.2 hj, hb⟩) hn
      obtain ⟨i, hi, hb⟩ := List.any_eq_true.1 h
      have hi' := List.mem_range.1 hi
      have : i = n := by
        rcases Nat.lt_or_ge i n with h | h
        · rw [hall i h] at hb; cases hb
        · omega
      subst this
      exact ⟨i, by omega, hb, hall⟩
/-- Rounds that look for the first bad thing. -/
theorem scan {β : Type} {len : Nat} (hlen : len ≤ maxLen) {step : (Int → Option β) → Int → Option β} (bad : Nat → Bool) (L : Nat → β) (R : β) (h : ∀ i, i < len → ∀ rec, step rec (i : Int) = bif bad i then some (L i) else rec (IntKind.i64.wrap ((i : Int) + 1))) (hend : ∀ rec, step rec (len : Int) = some R) :
    ((List.range len).any bad = true ∧ ∃ i, i < len ∧ iter step fuel0 0 = some (L i)) ∨ ((List.range len).any bad = false ∧ iter step fuel0 0 = some R) := by
  have hm : len < 18446744073709551616 := by rw [maxLen_eq] at hlen; omega
  cases ha : (List.range len).any bad with
  | true =>
    left
    obtain ⟨i, h1, h2, h3⟩ := any_first len ha
    refine ⟨rfl, i, h1, iter_run (fun s => i - s.toNat) (fun s => ∃ k : Nat, s = k ∧ k ≤ i) ⟨0, rfl, Nat.zero_le _⟩ (by omega) ?_⟩
    rintro _ ⟨k, rfl, hk⟩
    by_cases hki : k = i
    · subst hki
      left; intro rec
      rw [h k h1, h2]; rfl
    · right
      refine ⟨((k + 1 : Nat) : Int), ⟨k + 1, rfl, by omega⟩, by simp only [Int.toNat_natCast]; omega, fun rec => ?_⟩
      rw [h k (by omega), h3 k (by omega), up64 (by omega) hlen]; rfl
  | false =>
    right
    refine ⟨rfl, iter_run (fun s => len - s.toNat) (fun s => ∃ k : Nat, s = k ∧ k ≤ len) ⟨0, rfl, Nat.zero_le _⟩ (by omega) ?_⟩
    rintro _ ⟨k, rfl, hk⟩
    by_cases hki : k = len
    · subst hki
      left; intro rec; exact hend rec
    · right
      have hb : bad k = false := by
        cases hb : bad k with
        | false => rfl
        | true =>
          have : (List.range len).any bad = true := List.any_eq_true.2 ⟨k, List.mem_range.2 (by omega), hb⟩
          rw [ha] at this; cases this
      refine ⟨((k + 1 : Nat) : Int), ⟨k + 1, rfl, by omega⟩, by simp only [Int.toNat_natCast]; omega, fun rec => ?_⟩
      rw [h k (by omega), hb, up64 (by omega) hlen]; rfl
theorem lt_dec {i n : Nat} (h : i < n) : decide ((i : Int) < (n : Int)) = true := by simpa using h
theorem lt_end (n : Nat) : decide ((n : Int) < (n : Int)) = false := by simp
theorem down64 {k : Nat} (h : k + 1 ≤ maxLen) : IntKind.i64.wrap (((k + 1 : Nat) : Int) - 1) = (k : Int) := by rw [maxLen_eq] at h; rw [IntKind.wrap_i64]; omega

/-! ### labels -/
theorem r01_Fit_eq (n : Int) : r01_Fit n = some (decide (n ≥ 0) && decide (n ≤ 5)) := by unfold r01_Fit; rw [bif_and]
theorem level_Fit_eq (n : Int) : level_Fit n = some (decide (n ≥ 0) && decide (n ≤ 5)) := by unfold level_Fit; rw [bif_and]
def badP (l : List PairD) (i : Nat) : Bool := match l[i]? with
  | none => false
  | some x => !(decide (x.Lev ≥ 0) && decide (x.Lev ≤ 5)) || (x.Lev == 2 || (match i with
    | 0 => false
    | k + 1 => match l[k]? with
      | some y => decide (y.Cat ≥ x.Cat)
      | none => false))
def fitB (l : List PairD) : Bool := !(List.range l.length).any (badP l)
theorem r02_Fit_eq (l : List PairD) (hl : l.length ≤ maxLen) : r02_Fit l = some (fitB l) := by
  unfold r02_Fit
  have := scan hl (step := r02_Fit_L0 l) (badP l) (fun _ => Sum.inl ()) (Sum.inr ()) (fun i hi rec => by
    unfold r02_Fit_L0
    simp only [lt_dec hi, cond_true, idx_lt hi, Option.bind_some, r01_Fit_eq]
    cases i with
    | zero => simp [badP, hi, bif_or]
    | succ k =>
      have hk : k < l.length := by omega
      have h0 : decide (((k + 1 : Nat) : Int) > 0) = true := by rw [decide_eq_true_eq]; omega
      rw [down64 (by omega)]
      simp only [h0, idx_lt hk, Option.bind_some, cond_true, bif_or, badP, List.getElem?_eq_getElem hi, List.getElem?_eq_getElem hk]) (fun rec => by unfold r02_Fit_L0; simp only [lt_end, cond_false])
  rcases this with ⟨h1, i, _, h2⟩ | ⟨h1, h2⟩ <;> rw [h2] <;> simp [fitB, h1]
theorem label_Fit_eq (l : List PairD) (hl : l.length ≤ maxLen) : label_Fit l = some (fitB l) := by
  unfold label_Fit
  have := scan hl (step := label_Fit_L0 l) (badP l) (fun _ => Sum.inl ()) (Sum.inr ()) (fun i hi rec => by
    unfold label_Fit_L0
    have hd : l.getD i PairD.zero = l[i] := by simp [List.getD_eq_getElem?_getD, hi]
    simp only [lt_dec hi, cond_true, idx_lt hi, Option.bind_some, level_Fit_eq, hd]
    cases i with
    | zero => simp [badP, hi, bif_or]
    | succ k =>
      have hk : k < l.length := by omega
      have h0 : decide (((k + 1 : Nat) : Int) > 0) = true := by rw [decide_eq_true_eq]; omega
      rw [down64 (by omega)]
      simp only [h0, idx_lt hk, Option.bind_some, cond_true, bif_or, badP, List.getElem?_eq_getElem hi, List.getElem?_eq_getElem hk]) (fun rec => by unfold label_Fit_L0; simp only [lt_end, cond_false])
  rcases this with ⟨h1, i, _, h2⟩ | ⟨h1, h2⟩ <;> rw [h2] <;> simp [fitB, h1]
def badK (l : List PairD) (i : Nat) : Bool := match l[i]? with
  | none => false
  | some x => x.Lev == 5
def keptB (l : List PairD) : Bool := (fitB l && decide ((l.length : Int) ≤ 16)) && !(List.range l.length).any (badK l)
theorem r13_Kept_eq (l : List PairD) (hl : l.length ≤ maxLen) : r13_Kept l = some (keptB l) := by
  unfold r13_Kept
  have := scan hl (step := r13_Kept_L0 l) (badK l) (fun _ => Sum.inl ()) (Sum.inr ()) (fun i hi rec => by
    unfold r13_Kept_L0
    simp only [lt_dec hi, cond_true, idx_lt hi, Option.bind_some, badK, List.getElem?_eq_getElem hi]) (fun rec => by unfold r13_Kept_L0; simp only [lt_end, cond_false])
  rcases this with ⟨h1, i, _, h2⟩ | ⟨h1, h2⟩ <;> rw [h2] <;> simp [keptB, h1, r02_Fit_eq l hl, Bool.and_comm, bif_and]
theorem obj_kept_eq (l : List PairD) (hl : l.length ≤ maxLen) : obj_kept l = some (keptB l) := by
  unfold obj_kept
  have := scan hl (step := obj_kept_L0 l) (badK l) (fun i => Sum.inl (i : Int)) (Sum.inr ()) (fun i hi rec => by
    unfold obj_kept_L0
    have hd : l.getD i PairD.zero = l[i] := by simp [List.getD_eq_getElem?_getD, hi]
    simp only [lt_dec hi, cond_true, idx_lt hi, Option.bind_some, badK, List.getElem?_eq_getElem hi, hd]) (fun rec => by unfold obj_kept_L0; simp only [lt_end, cond_false])
  rcases this with ⟨h1, i, _, h2⟩ | ⟨h1, h2⟩ <;> rw [h2, label_Fit_eq l hl] <;> simp [keptB, h1, bif_and]

/-- Rounds that lay one thing behind another. -/
theorem collect {β : Type} {len : Nat} (hlen : len ≤ maxLen) {step : (Int × List β → Option (List β)) → Int × List β → Option (List β)} (f : Nat → List β) (h : ∀ i, i < len → ∀ rec, step rec ((i : Int), (List.range i).flatMap f) = rec (IntKind.i64.wrap ((i : Int) + 1), (List.range i).flatMap f ++ f i)) (hend : ∀ rec acc, step rec ((len : Int), acc) = some acc) :
    iter step fuel0 ((0 : Int), []) = some ((List.range len).flatMap f) := by
  have hm : len < 18446744073709551616 := by rw [maxLen_eq] at hlen; omega
  refine iter_run (fun s => len - s.1.toNat) (fun s => ∃ k : Nat, s = ((k : Int), (List.range k).flatMap f) ∧ k ≤ len) ⟨0, rfl, Nat.zero_le _⟩ (by simp; omega) ?_
  rintro _ ⟨k, rfl, hk⟩
  by_cases hki : k = len
  · subst hki
    left; intro rec; exact hend rec _
  · right
    refine ⟨(((k + 1 : Nat) : Int), (List.range (k + 1)).flatMap f), ⟨k + 1, rfl, by omega⟩, by simp only [Int.toNat_natCast]; omega, fun rec => ?_⟩
    rw [h k (by omega), up64 (by omega) hlen, List.range_succ, List.flatMap_append]
    simp
def ownF (l : List PairD) (i : Nat) : List Int := match l[i]? with
  | none => []
  | some x => if x.Lev = 0 then [x.Cat] else []
def ownL (l : List PairD) : List Int := (List.range l.length).flatMap (ownF l)
theorem flatMap_len {β : Type} {f : Nat → List β} {c : Nat} (h : ∀ i, (f i).length ≤ c) : ∀ n : Nat, ((List.range n).flatMap f).length ≤ n * c
  | 0 => by simp
  | n + 1 => by
    have := flatMap_len h n
    have h1 := h n
    rw [List.range_succ, List.flatMap_append, List.length_append, Nat.succ_mul]
    simp at *; omega
theorem ownF_len (l : List PairD) (i : Nat) : (ownF l i).length ≤ 1 := by
  unfold ownF
  cases l[i]? with
  | none => simp
  | some x => by_cases h : x.Lev = 0 <;> simp [h]
theorem app_ok {α : Type} {b : Nat} {l r : List α} (h : (l.length + r.length) * b ≤ 140737488355328) (hb : 0 < b) : app b l r = some (l ++ r) := by unfold app; rw [if_pos ⟨h, hb⟩]
theorem r02_Owned_eq (l : List PairD) (hl : l.length ≤ 1000000) : r02_Owned l = some (ownL l) := by
  unfold r02_Owned
  rw [bind_same]
  refine collect (by rw [maxLen_eq]; omega) (ownF l) (fun i hi rec => ?_) (fun rec acc => by unfold r02_Owned_L0; simp only [lt_end, cond_false])
  have hle := flatMap_len (ownF_len l) i
  unfold r02_Owned_L0
  simp only [lt_dec hi, cond_true, idx_lt hi, Option.bind_some, ownF, List.getElem?_eq_getElem hi, beq_dec]
  by_cases h0 : l[i].Lev = 0
  · simp only [h0, decide_true, cond_true, if_true]
    rw [app_ok (by simp at *; omega) (by decide)]
    rfl
  · simp [h0]
theorem label_Owned_eq (l : List PairD) (hl : l.length ≤ 1000000) : label_Owned l = some (ownL l) := by
  unfold label_Owned
  rw [bind_same]
  refine collect (by rw [maxLen_eq]; omega) (ownF l) (fun i hi rec => ?_) (fun rec acc => by unfold label_Owned_L0; simp only [lt_end, cond_false])
  have hle := flatMap_len (ownF_len l) i
  unfold label_Owned_L0
  simp only [lt_dec hi, cond_true, idx_lt hi, Option.bind_some, ownF, List.getElem?_eq_getElem hi, beq_dec]
  by_cases h0 : l[i].Lev = 0
  · simp only [h0, decide_true, cond_true, if_true]
    rw [app_ok (by simp at *; omega) (by decide)]
    rfl
  · simp [h0]

/-! ### what is the same -/
theorem ne_map (x y : MapD) : (!((x.Va == y.Va) && ((x.N == y.N) && ((x.Cont == y.Cont) && ((x.Seg == y.Seg) && ((x.Off == y.Off) && ((x.Write == y.Write) && true))))))) = !decide (x = y) := by
  congr 1; rw [Bool.eq_iff_iff]; cases x; cases y; simp
theorem len_bne {α : Type} {a b : List α} (h : ¬ a.length = b.length) : ((a.length : Int) != b.length) = true := by rw [bne_dec, decide_eq_true_eq]; omega
theorem len_beq {α : Type} {a b : List α} (h : a.length = b.length) : ((a.length : Int) != b.length) = false := by rw [bne_dec, decide_eq_false_iff_not]; omega
theorem r12_Same_eq (a b : List MapD) (ha : a.length ≤ maxLen) : r12_Same a b = some (decide (a = b)) := by
  unfold r12_Same
  by_cases hl : a.length = b.length
  · rw [eq_rounds (step := r12_Same_L0 a b) ne_map hl ha (fun rec i => rfl), len_beq hl]
    by_cases h : a = b <;> simp [h]
  · have : a ≠ b := fun e => hl (by rw [e])
    rw [len_bne hl]; simp [this]
theorem slices_Equal_Map_eq (a b : List MapD) (ha : a.length ≤ maxLen) : slices_Equal_Map a b = some (decide (a = b)) := by
  unfold slices_Equal_Map
  by_cases hl : a.length = b.length
  · rw [eq_rounds (step := slices_Equal_Map_L0 a b) ne_map hl ha (fun rec i => rfl), len_beq hl]
    by_cases h : a = b <;> simp [h]
  · have : a ≠ b := fun e => hl (by rw [e])
    rw [len_bne hl]; simp [this]
theorem slices_Equal_Label_eq (a b : List PairD) (ha : a.length ≤ maxLen) : slices_Equal_Label a b = some (decide (a = b)) := by
  unfold slices_Equal_Label
  by_cases hl : a.length = b.length
  · rw [eq_rounds (step := slices_Equal_Label_L0 a b) ne_pair hl ha (fun rec i => rfl), len_beq hl]
    by_cases h : a = b <;> simp [h]
  · have : a ≠ b := fun e => hl (by rw [e])
    rw [len_bne hl]; simp [this]
theorem slices_Equal_u64_eq (a b : List Int) (ha : a.length ≤ maxLen) : slices_Equal_u64 a b = some (decide (a = b)) := by
  unfold slices_Equal_u64
  by_cases hl : a.length = b.length
  · rw [eq_rounds (step := slices_Equal_u64_L0 a b) (ne := fun x y => x != y) (fun x y => by rw [bne_dec]; simp) hl ha (fun rec i => rfl), len_beq hl]
    by_cases h : a = b <;> simp [h]
  · have : a ≠ b := fun e => hl (by rw [e])
    rw [len_bne hl]; simp [this]
theorem label_Same_eq (a b : List PairD) (ha : a.length ≤ maxLen) : label_Same a b = some (decide (a = b)) := by unfold label_Same; rw [bind_same, slices_Equal_Label_eq a b ha]
theorem pages_Same_eq (a b : List MapD) (ha : a.length ≤ maxLen) : pages_Same a b = some (decide (a = b)) := by unfold pages_Same; rw [bind_same, slices_Equal_Map_eq a b ha]
structure GateD.Lens (t : GateD) : Prop where
  grant : t.Grant.length ≤ maxLen
  clear : t.Clear.length ≤ maxLen
structure ObjectD.Lens (o : ObjectD) : Prop where
  label : o.Label.length ≤ maxLen
  links : o.Links.length ≤ maxLen
  data : o.Data.length ≤ maxLen
  maps : o.Maps.length ≤ maxLen
  thread : o.Thread.Lens
  gate : o.Gate.Lens
  inn : o.In.length ≤ maxLen
  out : o.Out.length ≤ maxLen
theorem eq_gate (a b : GateD) : a = b ↔ a.Grant = b.Grant ∧ a.Clear = b.Clear ∧ a.Space = b.Space ∧ a.Pc = b.Pc ∧ a.Arg = b.Arg := by cases a; cases b; simp
theorem eq_object (a b : ObjectD) : a = b ↔ a.Id = b.Id ∧ a.Kind = b.Kind ∧ a.Label = b.Label ∧ a.Quota = b.Quota ∧ a.Fixed = b.Fixed ∧ a.Links = b.Links ∧ a.Data = b.Data ∧ a.Maps = b.Maps ∧ a.Thread = b.Thread ∧ a.Gate = b.Gate ∧ a.In = b.In ∧ a.Out = b.Out := by cases a; cases b; simp
theorem r13_SameGate_eq (a b : GateD) (ha : a.Lens) : r13_SameGate a b = some (decide (a = b)) := by
  unfold r13_SameGate
  rw [eq_ref]
  simp only [r02_Same_eq _ _ ha.grant, r02_Same_eq _ _ ha.clear, Option.bind_some, bif_and, eq_ref, beq_dec]
  congr 1; rw [Bool.eq_iff_iff]; simp only [decide_eq_true_eq, Bool.and_eq_true, eq_gate a b, and_assoc]
theorem obj_sameGate_eq (a b : GateD) (ha : a.Lens) : obj_sameGate a b = some (decide (a = b)) := by
  unfold obj_sameGate
  rw [eq_ref]
  simp only [label_Same_eq _ _ ha.grant, label_Same_eq _ _ ha.clear, Option.bind_some, bif_and, eq_ref, beq_dec]
  congr 1; rw [Bool.eq_iff_iff]; simp only [decide_eq_true_eq, Bool.and_eq_true, eq_gate a b, and_assoc]
theorem labs_rounds' (a b : ThreadD) (ha : a.Lens) : iter (obj_sameThread_L0 a b) fuel0 0 = some (if a.Labs = b.Labs then Sum.inr () else Sum.inl ()) := by
  have e : obj_sameThread_L0 a b = r13_SameThread_L0 a b := by
    funext rec i
    unfold obj_sameThread_L0 r13_SameThread_L0
    cases decide (i < (4 : Int)) with
    | false => rfl
    | true =>
      simp only [cond_true]
      cases hi : inr 4 i with
      | none => rfl
      | some j =>
        simp only [Option.bind_some]
        have hj : j < 4 := inr_lt hi
        have hl : (Arr4.get a.Labs j).length ≤ maxLen := by
          match j, hj with
          | 0, _ => exact ha.l0
          | 1, _ => exact ha.l1
          | 2, _ => exact ha.l2
          | 3, _ => exact ha.l3
        rw [label_Same_eq _ _ hl, r02_Same_eq _ _ hl]
  rw [e]; exact labs_rounds a b ha
theorem obj_sameThread_eq (a b : ThreadD) (ha : a.Lens) : obj_sameThread a b = some (decide (a = b)) := by
  unfold obj_sameThread
  rw [labs_rounds' a b ha, eq_wait, eq_regs, eq_ref, eq_span, label_Same_eq _ _ ha.clear, slices_Equal_u64_eq _ _ ha.alerts]
  simp only [beq_dec, Option.bind_some, bif_and]
  by_cases h : a.Labs = b.Labs
  · rw [if_pos h]
    simp only [Option.bind_some]
    congr 1; rw [Bool.eq_iff_iff]; simp only [decide_eq_true_eq, Bool.and_eq_true, eq_thread a b, h, true_and]
    constructor
    · rintro ⟨⟨⟨⟨⟨⟨⟨⟨⟨h1, h2⟩, h3⟩, h4⟩, h5⟩, h6⟩, h7⟩, h8⟩, h9⟩, h10⟩; exact ⟨h1, h2, h9, h3, h4, h5, h6, h7, h10, h8⟩
    · rintro ⟨h1, h2, h9, h3, h4, h5, h6, h7, h10, h8⟩; exact ⟨⟨⟨⟨⟨⟨⟨⟨⟨h1, h2⟩, h3⟩, h4⟩, h5⟩, h6⟩, h7⟩, h8⟩, h9⟩, h10⟩
  · rw [if_neg h]
    have : a ≠ b := fun e => h (by rw [e])
    simp [this]
theorem r13_SameOne_eq (a b : ObjectD) (ha : a.Lens) : r13_SameOne a b = some (decide (a = b)) := by
  unfold r13_SameOne
  simp only [r02_Same_eq _ _ ha.label, r02_Cats_eq _ _ ha.links, r02_Cats_eq _ _ ha.data, r12_Same_eq _ _ ha.maps, r13_SameThread_eq _ _ ha.thread, r13_SameGate_eq _ _ ha.gate, r02_Cats_eq _ _ ha.inn, r02_Cats_eq _ _ ha.out, Option.bind_some, bif_and, bif_or, bif_nor, beq_dec, bne_dec]
  congr 1; rw [Bool.eq_iff_iff]
  simp only [decide_eq_true_eq, Bool.and_eq_true, Bool.or_eq_true, Bool.not_eq_true', Bool.not_eq_false', Bool.or_eq_false_iff, decide_eq_false_iff_not, Decidable.not_not, eq_object a b, and_assoc, ne_eq]
theorem obj_SameOne_eq (a b : ObjectD) (ha : a.Lens) : obj_SameOne a b = some (decide (a = b)) := by
  unfold obj_SameOne
  simp only [label_Same_eq _ _ ha.label, slices_Equal_u64_eq _ _ ha.links, slices_Equal_u64_eq _ _ ha.data, pages_Same_eq _ _ ha.maps, obj_sameThread_eq _ _ ha.thread, obj_sameGate_eq _ _ ha.gate, slices_Equal_u64_eq _ _ ha.inn, slices_Equal_u64_eq _ _ ha.out, Option.bind_some, bif_and, bif_or, bif_nor, beq_dec, bne_dec]
  congr 1; rw [Bool.eq_iff_iff]
  simp only [decide_eq_true_eq, Bool.and_eq_true, eq_object a b, and_assoc]
  constructor
  · rintro ⟨h1, h2, h3, h4, h5, h6, h7, h8, h9, h10, h11, h12⟩; exact ⟨h1, h2, h5, h3, h4, h6, h7, h10, h11, h12, h8, h9⟩
  · rintro ⟨h1, h2, h5, h3, h4, h6, h7, h10, h11, h12, h8, h9⟩; exact ⟨h1, h2, h3, h4, h5, h6, h7, h8, h9, h10, h11, h12⟩
/-! ### what is total -/
theorem tot_iter {β : Type} {len : Nat} (hlen : len ≤ maxLen) {step : (Int → Option β) → Int → Option β} (h : ∀ i : Nat, i < len → ∃ (b : Bool) (L : β), ∀ rec, step rec (i : Int) = bif b then some L else rec (IntKind.i64.wrap ((i : Int) + 1))) (hend : ∃ R, ∀ rec, step rec (len : Int) = some R) : ∃ v, iter step fuel0 0 = some v := by
  obtain ⟨R, hR⟩ := hend
  have h' : ∀ i : Nat, ∃ (b : Bool) (L : β), i < len → ∀ rec, step rec (i : Int) = bif b then some L else rec (IntKind.i64.wrap ((i : Int) + 1)) := fun i => by
    by_cases hi : i < len
    · obtain ⟨b, L, h⟩ := h i hi; exact ⟨b, L, fun _ => h⟩
    · exact ⟨false, R, fun h => absurd h hi⟩
  rcases scan hlen (fun i => (h' i).choose) (fun i => (h' i).choose_spec.choose) R (fun i hi => (h' i).choose_spec.choose_spec hi) hR with ⟨_, i, _, h⟩ | ⟨_, h⟩
  · exact ⟨_, h⟩
  · exact ⟨_, h⟩
theorem r02_Get_tot (l : List PairD) (c : Int) (hl : l.length ≤ maxLen) : ∃ v, r02_Get l c = some v := by
  unfold r02_Get
  obtain ⟨v, hv⟩ := tot_iter hl (step := r02_Get_L0 l c) (fun i hi => ⟨l[i].Cat == c, Sum.inl l[i].Lev, fun rec => by unfold r02_Get_L0; simp only [lt_dec hi, cond_true, idx_lt hi, Option.bind_some]⟩) ⟨Sum.inr (), fun rec => by unfold r02_Get_L0; simp only [lt_end, cond_false]⟩
  rw [hv]
  cases v <;> exact ⟨_, rfl⟩
theorem r01_Of_tot (n : Int) : ∃ v, r01_Of n = some v := by
  unfold r01_Of
  simp only [bif_or, Option.bind_some]
  cases (decide (n < 0) || decide (n > 5)) <;> exact ⟨_, rfl⟩
theorem r01_Leq_tot (a b : Int) : ∃ v, r01_Leq a b = some v := by
  obtain ⟨x, hx⟩ := r01_Of_tot a
  obtain ⟨y, hy⟩ := r01_Of_tot b
  unfold r01_Leq
  rw [hx, hy]; exact ⟨_, rfl⟩
theorem r02_Leq_tot (a b : List PairD) (ha : a.length ≤ maxLen) (hb : b.length ≤ maxLen) : ∃ v, r02_Leq a b = some v := by
  unfold r02_Leq
  obtain ⟨v, hv⟩ := tot_iter ha (step := r02_Leq_L0 a b) (fun i hi => by
    obtain ⟨x, hx⟩ := r02_Get_tot b a[i].Cat hb
    obtain ⟨y, hy⟩ := r01_Leq_tot a[i].Lev x
    exact ⟨!y, Sum.inl (), fun rec => by unfold r02_Leq_L0; simp only [lt_dec hi, cond_true, idx_lt hi, Option.bind_some, hx, hy]⟩) ⟨Sum.inr (), fun rec => by unfold r02_Leq_L0; simp only [lt_end, cond_false]⟩
  obtain ⟨u, hu⟩ := tot_iter hb (step := r02_Leq_L1 a b) (fun i hi => by
    obtain ⟨x, hx⟩ := r02_Get_tot a b[i].Cat ha
    obtain ⟨y, hy⟩ := r01_Leq_tot x b[i].Lev
    exact ⟨!y, Sum.inl (), fun rec => by unfold r02_Leq_L1; simp only [lt_dec hi, cond_true, idx_lt hi, Option.bind_some, hx, hy]⟩) ⟨Sum.inr (), fun rec => by unfold r02_Leq_L1; simp only [lt_end, cond_false]⟩
  rw [hv]
  cases v with
  | inl _ => exact ⟨_, rfl⟩
  | inr _ => simp only [Option.bind_some, hu]; cases u <;> exact ⟨_, rfl⟩
theorem r12_one_tot (m : MapD) : ∃ v, r12_one m = some v := by
  unfold r12_one
  simp only [bif_and, Option.bind_some]
  exact ⟨_, rfl⟩
theorem r12_Fit_tot (l : List MapD) : ∃ v, r12_Fit l = some v := by
  unfold r12_Fit
  by_cases hlen : (l.length : Int) > 16
  · simp only [hlen, decide_true, cond_true]; exact ⟨_, rfl⟩
  · simp only [hlen, decide_false, cond_false]
    have hl : l.length ≤ maxLen := by rw [maxLen_eq]; omega
    obtain ⟨v, hv⟩ := tot_iter hl (step := r12_Fit_L0 l) (fun i hi => by
      obtain ⟨x, hx⟩ := r12_one_tot l[i]
      cases i with
      | zero => exact ⟨!x, Sum.inl (), fun rec => by unfold r12_Fit_L0; simp only [lt_dec hi, cond_true, idx_lt hi, Option.bind_some, hx, bif_or]; cases x <;> rfl⟩
      | succ k =>
        have hk : k < l.length := by omega
        have h0 : decide (((k + 1 : Nat) : Int) > 0) = true := by rw [decide_eq_true_eq]; omega
        exact ⟨!x || decide (IntKind.i64.wrap (l[k].Va + l[k].N) > l[k + 1].Va), Sum.inl (), fun rec => by unfold r12_Fit_L0; rw [down64 (by omega)]; simp only [lt_dec hi, cond_true, idx_lt hi, idx_lt hk, Option.bind_some, hx, bif_or, h0]⟩) ⟨Sum.inr (), fun rec => by unfold r12_Fit_L0; simp only [lt_end, cond_false]⟩
    rw [hv]; cases v <;> exact ⟨_, rfl⟩
theorem r13_id_eq (n : Int) : r13_id n = some (decide (n ≥ 1) && decide (n ≤ 2305843009213693952)) := by unfold r13_id; rw [bif_and]
theorem obj_named_eq (n : Int) : obj_named n = some (decide (n ≥ 1) && decide (n ≤ 2305843009213693952)) := by
  unfold obj_named; rw [bif_and]; congr 2
theorem r13_rising_tot (l : List Int) (hl : l.length ≤ maxLen) : ∃ v, r13_rising l = some v := by
  unfold r13_rising
  obtain ⟨v, hv⟩ := tot_iter hl (step := r13_rising_L0 l) (fun i hi => by
    cases i with
    | zero => exact ⟨!(decide (l[0] ≥ 1) && decide (l[0] ≤ 2305843009213693952)), Sum.inl (), fun rec => by unfold r13_rising_L0; simp only [lt_dec hi, cond_true, idx_lt hi, Option.bind_some, r13_id_eq, bif_or]; cases (!(decide (l[0] ≥ 1) && decide (l[0] ≤ 2305843009213693952))) <;> rfl⟩
    | succ k =>
      have hk : k < l.length := by omega
      have h0 : decide (((k + 1 : Nat) : Int) > 0) = true := by rw [decide_eq_true_eq]; omega
      exact ⟨!(decide (l[k + 1] ≥ 1) && decide (l[k + 1] ≤ 2305843009213693952)) || decide (l[k] ≥ l[k + 1]), Sum.inl (), fun rec => by unfold r13_rising_L0; rw [down64 (by omega)]; simp only [lt_dec hi, cond_true, idx_lt hi, idx_lt hk, Option.bind_some, r13_id_eq, bif_or, h0]⟩) ⟨Sum.inr (), fun rec => by unfold r13_rising_L0; simp only [lt_end, cond_false]⟩
  rw [hv]; cases v <;> exact ⟨_, rfl⟩
theorem inr_ok {n i : Nat} (h : i < n) : inr n (i : Int) = some i := by unfold inr; rw [if_pos ⟨Int.natCast_nonneg i, by exact_mod_cast h⟩]; simp
theorem labs_len (t : ThreadD) (ht : t.Lens) (j : Nat) (hj : j < 4) : (Arr4.get t.Labs j).length ≤ maxLen := by
  match j, hj with
  | 0, _ => exact ht.l0
  | 1, _ => exact ht.l1
  | 2, _ => exact ht.l2
  | 3, _ => exact ht.l3
theorem r07_Fit_tot (s : SpanD) : ∃ v, r07_Fit s = some v := by unfold r07_Fit; rw [bif_and]; exact ⟨_, rfl⟩
theorem r13_thread_tot (l : List PairD) (t : ThreadD) (hl : l.length ≤ maxLen) (ht : t.Lens) : ∃ v, r13_thread l t = some v := by
  unfold r13_thread
  obtain ⟨v, hv⟩ := tot_iter (len := 4) (by decide) (step := r13_thread_L0 t) (fun i hi => by
    exact ⟨!keptB (t.Labs.get i), Sum.inl (), fun rec => by
      unfold r13_thread_L0
      have h4 : decide ((i : Int) < 4) = true := by rw [decide_eq_true_eq]; omega
      simp only [h4, cond_true, inr_ok hi, Option.bind_some, r13_Kept_eq _ (labs_len t ht i hi)]⟩) ⟨Sum.inr (), fun rec => by unfold r13_thread_L0; rfl⟩
  obtain ⟨x, hx⟩ := r02_Leq_tot l t.Clear hl ht.clear
  obtain ⟨y, hy⟩ := r07_Fit_tot t.Span
  rw [hv]
  cases v with
  | inl _ => exact ⟨_, rfl⟩
  | inr _ => simp only [Option.bind_some, hx, hy, r13_Kept_eq _ ht.clear, bif_and, bif_nor]; exact ⟨_, rfl⟩

/-! ### objects that are sound -/
theorem zero_lens : ThreadD.zero.Lens := ⟨Nat.zero_le _, Nat.zero_le _, Nat.zero_le _, Nat.zero_le _, Nat.zero_le _, Nat.zero_le _⟩
theorem gzero_lens : GateD.zero.Lens := ⟨Nat.zero_le _, Nat.zero_le _⟩
theorem nil_lens {α : Type} : ([] : List α).length ≤ maxLen := Nat.zero_le _
theorem r13_alone_tot (o : ObjectD) (ho : o.Lens) : ∃ v, r13_alone o = some v := by
  unfold r13_alone
  cases (o.Kind == 1) with
  | true => simp only [cond_true]; rw [bind_same]; exact ⟨_, r13_SameOne_eq _ _ ⟨ho.label, nil_lens, ho.data, nil_lens, zero_lens, gzero_lens, nil_lens, nil_lens⟩⟩
  | false =>
    cases (o.Kind == 2) with
    | true => simp only [cond_true, cond_false]; rw [bind_same]; exact ⟨_, r13_SameOne_eq _ _ ⟨ho.label, ho.links, nil_lens, nil_lens, zero_lens, gzero_lens, nil_lens, nil_lens⟩⟩
    | false =>
      cases (o.Kind == 3) with
      | true => simp only [cond_true, cond_false]; rw [bind_same]; exact ⟨_, r13_SameOne_eq _ _ ⟨ho.label, nil_lens, nil_lens, ho.maps, zero_lens, gzero_lens, nil_lens, nil_lens⟩⟩
      | false =>
        cases (o.Kind == 4) with
        | true => simp only [cond_true, cond_false]; rw [bind_same]; exact ⟨_, r13_SameOne_eq _ _ ⟨ho.label, nil_lens, nil_lens, nil_lens, ho.thread, gzero_lens, nil_lens, nil_lens⟩⟩
        | false =>
          cases (o.Kind == 5) with
          | true => simp only [cond_true, cond_false]; rw [bind_same]; exact ⟨_, r13_SameOne_eq _ _ ⟨ho.label, nil_lens, nil_lens, nil_lens, zero_lens, ho.gate, nil_lens, nil_lens⟩⟩
          | false =>
            cases (o.Kind == 6) with
            | true => simp only [cond_true, cond_false]; rw [bind_same]; exact ⟨_, r13_SameOne_eq _ _ ⟨ho.label, nil_lens, nil_lens, nil_lens, zero_lens, gzero_lens, ho.inn, ho.out⟩⟩
            | false => simp only [cond_false]; rw [bind_same]; exact ⟨_, r13_SameOne_eq _ _ ⟨ho.label, nil_lens, nil_lens, nil_lens, zero_lens, gzero_lens, nil_lens, nil_lens⟩⟩
theorem kept_len {l : List PairD} (h : keptB l = true) : l.length ≤ 16 := by
  unfold keptB at h
  simp only [Bool.and_eq_true, decide_eq_true_eq] at h
  omega
def idB (n : Int) : Bool := decide (n ≥ 1) && decide (n ≤ 2305843009213693952)
/-- The part of soundness that comes first. -/
def headB (o : ObjectD) (al : Bool) : Bool := ((((((!idB o.Id || decide (o.Kind < 1)) || decide (o.Kind > 6)) || !keptB o.Label) || decide (o.Quota < 1)) || decide (o.Quota > 4096)) || !al)
theorem r13_Sound_tot (o : ObjectD) (ho : o.Lens) : ∃ v, r13_Sound o = some v := by
  obtain ⟨al, hal⟩ := r13_alone_tot o ho
  unfold r13_Sound
  simp only [r13_id_eq, r13_Kept_eq _ ho.label, hal, Option.bind_some, bif_or]
  cases hh : headB o al with
  | true =>
    have : ((((((!(decide (o.Id ≥ 1) && decide (o.Id ≤ 2305843009213693952)) || decide (o.Kind < 1)) || decide (o.Kind > 6)) || !keptB o.Label) || decide (o.Quota < 1)) || decide (o.Quota > 4096)) || !al) = true := hh
    rw [this]; exact ⟨_, rfl⟩
  | false =>
    have hf : ((((((!(decide (o.Id ≥ 1) && decide (o.Id ≤ 2305843009213693952)) || decide (o.Kind < 1)) || decide (o.Kind > 6)) || !keptB o.Label) || decide (o.Quota < 1)) || decide (o.Quota > 4096)) || !al) = false := hh
    rw [hf]
    have hk : keptB o.Label = true := by
      unfold headB at hh
      simp only [Bool.or_eq_false_iff, Bool.not_eq_false'] at hh
      exact hh.1.1.1.2
    rw [r02_Owned_eq _ (by have := kept_len hk; omega)]
    obtain ⟨x1, h1⟩ := r13_rising_tot o.Links ho.links
    obtain ⟨x2, h2⟩ := r12_Fit_tot o.Maps
    obtain ⟨x3, h3⟩ := r13_thread_tot o.Label o.Thread ho.label ho.thread
    obtain ⟨x4, h4⟩ := r02_Leq_tot o.Gate.Grant o.Gate.Clear ho.gate.grant ho.gate.clear
    simp only [h1, h2, h3, h4, r13_Kept_eq _ ho.gate.grant, r13_Kept_eq _ ho.gate.clear, cond_false, Option.bind_some, bif_and]
    cases (o.Kind != 4 && decide (((ownL o.Label).length : Int) > 0)) <;> cases (o.Kind == 1) <;> cases (o.Kind == 2) <;> cases (o.Kind == 3) <;> cases (o.Kind == 4) <;> cases (o.Kind == 5) <;> exact ⟨_, rfl⟩
/-! ### segments -/
def bareS (o : ObjectD) : ObjectD := { o with Links := [], Maps := [], Thread := ThreadD.zero, Gate := GateD.zero, In := [], Out := [] }
structure Seg (o : ObjectD) : Prop where
  id : idB o.Id = true
  kept : keptB o.Label = true
  q1 : 1 ≤ o.Quota
  q2 : o.Quota ≤ 4096
  bare : bareS o = o
  owned : ownL o.Label = []
  room : (o.Data.length : Int) ≤ 16 * (o.Quota - 1)
noncomputable instance (o : ObjectD) : Decidable (Seg o) := Classical.propDecidable _
theorem room_wrap {q : Int} (h1 : 1 ≤ q) (h2 : q ≤ 4096) : IntKind.i64.wrap (16 * IntKind.i64.wrap (q - 1)) = 16 * (q - 1) ∧ IntKind.i64.wrap (IntKind.i64.wrap (q - 1) * 16) = 16 * (q - 1) := by
  simp only [IntKind.wrap_i64]; omega
theorem bareS_lens {o : ObjectD} (ho : o.Lens) : (bareS o).Lens := ⟨ho.label, nil_lens, ho.data, nil_lens, zero_lens, gzero_lens, nil_lens, nil_lens⟩
theorem r13_alone_seg (o : ObjectD) (hk : o.Kind = 1) (ho : o.Lens) : r13_alone o = some (decide (bareS o = o)) := by
  unfold r13_alone
  have : (o.Kind == 1) = true := by rw [hk]; rfl
  simp only [this, cond_true]
  rw [bind_same]; exact r13_SameOne_eq _ _ (bareS_lens ho)
theorem own_nil (l : List Int) : decide ((l.length : Int) > 0) = !decide (l = []) := by
  cases l <;> simp
theorem r13_Sound_seg (o : ObjectD) (hk : o.Kind = 1) (ho : o.Lens) : r13_Sound o = some (decide (Seg o)) := by
  unfold r13_Sound
  have k1 : (o.Kind == 1) = true := by rw [hk]; rfl
  have k2 : (o.Kind != 4) = true := by rw [hk]; rfl
  have k3 : decide (o.Kind < 1) = false := by rw [hk]; rfl
  have k4 : decide (o.Kind > 6) = false := by rw [hk]; rfl
  simp only [r13_id_eq, r13_Kept_eq _ ho.label, r13_alone_seg o hk ho, Option.bind_some, bif_or, k1, k2, k3, k4, cond_true, Bool.or_false]
  by_cases h1 : idB o.Id = true
  · by_cases h2 : keptB o.Label = true
    · by_cases h3 : 1 ≤ o.Quota
      · by_cases h4 : o.Quota ≤ 4096
        · by_cases h5 : bareS o = o
          · have e1 : (decide (o.Id ≥ 1) && decide (o.Id ≤ 2305843009213693952)) = true := h1
            have e3 : decide (o.Quota < 1) = false := by rw [decide_eq_false_iff_not]; omega
            have e4 : decide (o.Quota > 4096) = false := by rw [decide_eq_false_iff_not]; omega
            simp only [e1, h2, e3, e4, h5, decide_true, Bool.not_true, Bool.or_false, cond_false, r02_Owned_eq _ (by have := kept_len h2; omega : o.Label.length ≤ 1000000), Option.bind_some, own_nil, (room_wrap h3 h4).1, bif_nor]
            congr 1; rw [Bool.eq_iff_iff]
            simp only [Bool.and_eq_true, Bool.not_not, decide_eq_true_eq, Bool.not_eq_true']
            exact ⟨fun ⟨a, b⟩ => ⟨h1, h2, h3, h4, h5, a, b⟩, fun h => ⟨h.owned, h.room⟩⟩
          · have : ¬ Seg o := fun h => h5 h.bare
            simp [h5, this]
        · have : ¬ Seg o := fun h => h4 h.q2
          have e4 : decide (o.Quota > 4096) = true := by rw [decide_eq_true_eq]; omega
          simp [e4, this]
      · have : ¬ Seg o := fun h => h3 h.q1
        have e3 : decide (o.Quota < 1) = true := by rw [decide_eq_true_eq]; omega
        simp [e3, this]
    · have : ¬ Seg o := fun h => h2 h.kept
      simp [h2, this]
  · have : ¬ Seg o := fun h => h1 h.id
    have e1 : (decide (o.Id ≥ 1) && decide (o.Id ≤ 2305843009213693952)) = false := by simpa [idB] using h1
    simp only [e1, this, Bool.not_false, Bool.true_or, cond_true, decide_false]
theorem obj_bare_seg (o : ObjectD) (hk : o.Kind = 1) : obj_bare o = some { o with Data := [] } := by
  unfold obj_bare
  have : (o.Kind == 1) = true := by rw [hk]; rfl
  simp only [this, cond_true]
theorem obj_inner_seg (o : ObjectD) (hk : o.Kind = 1) : obj_inner o = some (decide ((o.Data.length : Int) ≤ IntKind.i64.wrap (IntKind.i64.wrap (o.Quota - 1) * 16))) := by
  unfold obj_inner
  have : (o.Kind == 1) = true := by rw [hk]; rfl
  simp only [this, cond_true]
theorem bare_iff (o : ObjectD) : (({ o with Data := [] } : ObjectD) = ({ ObjectD.zero with Id := o.Id, Kind := o.Kind, Label := o.Label, Quota := o.Quota, Fixed := o.Fixed } : ObjectD)) ↔ bareS o = o := by
  rw [eq_object, eq_object]
  simp only [bareS, ObjectD.zero, true_and]
  constructor
  · rintro ⟨h1, h2, h3, h4, h5, h6⟩; exact ⟨h1.symm, h2.symm, h3.symm, h4.symm, h5.symm, h6.symm⟩
  · rintro ⟨h1, h2, h3, h4, h5, h6⟩; exact ⟨h1.symm, h2.symm, h3.symm, h4.symm, h5.symm, h6.symm⟩
theorem obj_Sound_seg (o : ObjectD) (hk : o.Kind = 1) (ho : o.Lens) : obj_Sound o = some (decide (Seg o)) := by
  unfold obj_Sound
  have k2 : (o.Kind != 4) = true := by rw [hk]; rfl
  have k3 : decide (o.Kind < 1) = false := by rw [hk]; rfl
  have k4 : decide (o.Kind > 6) = false := by rw [hk]; rfl
  have hsame := obj_SameOne_eq ({ o with Data := [] } : ObjectD) ({ ObjectD.zero with Id := o.Id, Kind := o.Kind, Label := o.Label, Quota := o.Quota, Fixed := o.Fixed } : ObjectD) ⟨ho.label, ho.links, nil_lens, ho.maps, ho.thread, ho.gate, ho.inn, ho.out⟩
  rw [show decide (({ o with Data := [] } : ObjectD) = ({ ObjectD.zero with Id := o.Id, Kind := o.Kind, Label := o.Label, Quota := o.Quota, Fixed := o.Fixed } : ObjectD)) = decide (bareS o = o) from by rw [decide_eq_decide]; exact bare_iff o] at hsame
  simp only [obj_named_eq, obj_kept_eq _ ho.label, obj_bare_seg o hk, obj_inner_seg o hk, Option.bind_some, bif_or, k2, k3, k4, cond_true, Bool.or_false]
  by_cases h1 : idB o.Id = true
  · have e1 : (decide (o.Id ≥ 1) && decide (o.Id ≤ 2305843009213693952)) = true := h1
    simp only [e1, Bool.not_true, cond_false]
    by_cases h2 : keptB o.Label = true
    · by_cases h3 : 1 ≤ o.Quota
      · by_cases h4 : o.Quota ≤ 4096
        · have e3 : decide (o.Quota < 1) = false := by rw [decide_eq_false_iff_not]; omega
          have e4 : decide (o.Quota > 4096) = false := by rw [decide_eq_false_iff_not]; omega
          simp only [h2, e3, e4, Bool.not_true, Bool.or_false, cond_false, label_Owned_eq _ (by have := kept_len h2; omega : o.Label.length ≤ 1000000), Option.bind_some, own_nil, (room_wrap h3 h4).2]
          rw [hsame]
          simp only [Option.bind_some, bif_and, bif_nor]
          congr 1; rw [Bool.eq_iff_iff]
          simp only [Bool.and_eq_true, Bool.not_not, decide_eq_true_eq, Bool.not_eq_true']
          exact ⟨fun ⟨a, b, c⟩ => ⟨h1, h2, h3, h4, b, a, c⟩, fun h => ⟨h.owned, h.bare, h.room⟩⟩
        · have : ¬ Seg o := fun h => h4 h.q2
          have e4 : decide (o.Quota > 4096) = true := by rw [decide_eq_true_eq]; omega
          simp [e4, this]
      · have : ¬ Seg o := fun h => h3 h.q1
        have e3 : decide (o.Quota < 1) = true := by rw [decide_eq_true_eq]; omega
        simp [e3, this]
    · have : ¬ Seg o := fun h => h2 h.kept
      simp [h2, this]
  · have : ¬ Seg o := fun h => h1 h.id
    have e1 : (decide (o.Id ≥ 1) && decide (o.Id ≤ 2305843009213693952)) = false := by simpa [idB] using h1
    simp only [e1, this, Bool.not_false, Bool.true_or, cond_true, decide_false]
end Go.Proofs.Ytpckfpahmnhfcaa.K
