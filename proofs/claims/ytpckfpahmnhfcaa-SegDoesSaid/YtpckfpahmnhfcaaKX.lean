/- Plain laws: segments: SegDoes. No program in sight. -/
import Derived.Test.YtpckfpahmnhfcaaKV
namespace Go.Proofs.Ytpckfpahmnhfcaa.K
open Go Go.RowKit Go.Proofs.Ytpckfpahmnhfcaa.G
set_option linter.unusedVariables false
set_option linter.unusedSimpArgs false
attribute [-simp] cond_dec

def wordF (D : List Int) (i : Nat) : List Int := [D.getD i 0]
theorem words_eq (D : List Int) (n : Nat) : (List.range n).flatMap (wordF D) = cpyL (List.replicate n (0 : Int)) D := by
  have hm : ∀ l : List Nat, l.flatMap (wordF D) = l.map (fun i => D.getD i 0) := fun l => by
    induction l with
    | nil => rfl
    | cons x l ih => rw [List.flatMap_cons, ih]; rfl
  have h1 : ∀ n, ((List.range n).flatMap (wordF D)).length = n := fun n => by rw [hm]; simp
  have h2 : ∀ (n i : Nat), i < n → ((List.range n).flatMap (wordF D))[i]? = some (D.getD i 0) := fun n i hi => by
    rw [hm]; simp [hi]
  apply List.ext_getElem?
  intro i
  by_cases hi : i < n
  · rw [h2 n i hi]
    unfold cpyL
    rw [List.length_replicate]
    by_cases hd : i < D.length
    · rw [List.getElem?_append_left (by simp; omega), List.getElem?_take, if_pos hi, List.getElem?_eq_getElem hd, List.getD_eq_getElem?_getD, List.getElem?_eq_getElem hd]; rfl
    · rw [List.getElem?_append_right (by simp; omega), List.drop_replicate, List.getElem?_replicate, if_pos (by simp; omega), List.getD_eq_getElem?_getD, List.getElem?_eq_none (by omega)]; rfl
  · rw [List.getElem?_eq_none (by rw [h1]; omega), List.getElem?_eq_none (by rw [cpyL_length, List.length_replicate]; omega)]
theorem wordF_len (D : List Int) (i : Nat) : (wordF D i).length ≤ 1 := by simp [wordF]
theorem r16_room_eq (n q : Int) (h1 : 1 ≤ q) (h2 : q ≤ 4096) : r16_room n q = some (decide (n ≤ 16 * (q - 1))) := by unfold r16_room; rw [(room_wrap h1 h2).1]
theorem r16_Resize_eq (o : ObjectD) (n : Int) (hk : o.Kind = 1) (h1 : 1 ≤ o.Quota) (h2 : o.Quota ≤ 4096) : r16_Resize o n = some (if n < 0 then (o, 4) else if n > 16 * (o.Quota - 1) then (o, 5) else (sizeD o n, 0)) := by
  unfold r16_Resize
  have k1 : (o.Kind != 1) = false := by rw [hk]; rfl
  rw [k1, r16_room_eq _ _ h1 h2]
  by_cases h3 : n < 0
  · simp [h3]
  · by_cases h4 : n > 16 * (o.Quota - 1)
    · have : decide (n ≤ 16 * (o.Quota - 1)) = false := by rw [decide_eq_false_iff_not]; omega
      simp [h3, h4, this]
    · have h5 : decide (n ≤ 16 * (o.Quota - 1)) = true := by rw [decide_eq_true_eq]; omega
      have hnn : ((n.toNat : Nat) : Int) = n := by omega
      have hcol := collect (len := n.toNat) (by rw [maxLen_eq]; omega) (step := r16_Resize_L0 o n) (wordF o.Data) (fun i hi rec => by
        have hle := flatMap_len (wordF_len o.Data) i
        unfold r16_Resize_L0
        have e1 : decide ((i : Int) < n) = true := by rw [decide_eq_true_eq]; omega
        simp only [e1, cond_true]
        by_cases hd : i < o.Data.length
        · simp only [lt_dec hd, cond_true, idx_lt hd, Option.bind_some]
          rw [app_ok (by simp at *; omega) (by decide)]
          simp only [Option.bind_some, wordF, List.getD_eq_getElem?_getD, List.getElem?_eq_getElem hd, Option.getD_some]
        · have e2 : decide ((i : Int) < (o.Data.length : Int)) = false := by rw [decide_eq_false_iff_not]; omega
          simp only [e2, cond_false, Option.bind_some]
          rw [app_ok (by simp at *; omega) (by decide)]
          simp only [Option.bind_some, wordF, List.getD_eq_getElem?_getD, List.getElem?_eq_none (Nat.le_of_not_lt hd), Option.getD_none]) (fun rec acc => by
        unfold r16_Resize_L0
        have e1 : decide (((n.toNat : Nat) : Int) < n) = false := by rw [decide_eq_false_iff_not]; omega
        simp only [e1, cond_false])
      rw [words_eq] at hcol
      simp [h3, h4, h5, hcol, sizeD]
theorem r16_Get_eq (o : ObjectD) (i : Int) (hk : o.Kind = 1) (hl : o.Data.length ≤ 1000000) (h0 : 0 ≤ i) : r16_Get o i = some (if i < o.Data.length then (o.Data.getD i.toNat 0, 0) else (0, 13)) := by
  unfold r16_Get
  have k1 : (o.Kind != 1) = false := by rw [hk]; rfl
  rw [k1, wrap_len hl]
  by_cases h : i < (o.Data.length : Int)
  · have : decide (i ≥ (o.Data.length : Int)) = false := by rw [decide_eq_false_iff_not]; omega
    obtain ⟨x, hx, hy⟩ := idx_toNat h0 h
    simp [this, h, hx, List.getD_eq_getElem?_getD, hy]
  · have : decide (i ≥ (o.Data.length : Int)) = true := by rw [decide_eq_true_eq]; omega
    simp [this, h]
theorem r16_Put_eq (o : ObjectD) (i v : Int) (hk : o.Kind = 1) (hl : o.Data.length ≤ 1000000) (h0 : 0 ≤ i) : r16_Put o i v = some (if i < o.Data.length then (setD o i v, 0) else (o, 13)) := by
  unfold r16_Put
  rw [r16_Get_eq o i hk hl h0]
  by_cases h : i < (o.Data.length : Int)
  · obtain ⟨x, hx, _⟩ := idx_toNat h0 h
    have hc : app 8 [] o.Data = some o.Data := app_ok (by simp; omega) (by decide)
    simp [h, hc, hx, setD]
  · simp [h]
theorem r16_Copy_eq (o : ObjectD) (id_ : Int) (l : List PairD) (q : Int) (hk : o.Kind = 1) (ho : o.Lens) (hd : o.Data.length ≤ 1000000) (hl : l.length ≤ 1000000) : r16_Copy o id_ l q = some (copyE o id_ l q) := by
  unfold r16_Copy
  have k1 : (o.Kind != 1) = false := by rw [hk]; rfl
  have hs := r13_Sound_seg (copyD o id_ l q) rfl (copyD_lens ho id_ (by rw [maxLen_eq]; omega) q)
  have hs' : r13_Sound ({ ObjectD.zero with Id := id_, Kind := (1 : Int), Label := l, Quota := q, Data := o.Data } : ObjectD) = some (decide (Seg (copyD o id_ l q))) := hs
  rw [k1]
  simp only [cond_false, Option.bind_some]
  rw [hs']
  unfold copyE
  by_cases h1 : q < 1
  · simp [h1]
  · by_cases h2 : q ≤ 4096
    · rw [r16_room_eq _ q (by omega) h2]
      by_cases h3 : (o.Data.length : Int) > 16 * (q - 1)
      · have : decide ((o.Data.length : Int) ≤ 16 * (q - 1)) = false := by rw [decide_eq_false_iff_not]; omega
        simp [h1, h2, h3, this]
      · have : decide ((o.Data.length : Int) ≤ 16 * (q - 1)) = true := by rw [decide_eq_true_eq]; omega
        by_cases h4 : Seg (copyD o id_ l q)
        · simp [h1, h2, h3, h4, this]; rfl
        · simp [h1, h2, h3, h4, this]
    · by_cases h4 : Seg (copyD o id_ l q)
      · simp [h1, h2, h4]; rfl
      · simp [h1, h2, h4]
/-- Rounds over 16 places, with an array. -/
theorem page_run {step : (Int × Arr16 Int → Option (Arr16 Int)) → Int × Arr16 Int → Option (Arr16 Int)} (g : Nat → Arr16 Int) (h : ∀ i : Nat, i < 16 → ∀ rec, step rec ((i : Int), g i) = rec (IntKind.i64.wrap ((i : Int) + 1), g (i + 1))) (hend : ∀ rec a, step rec ((16 : Int), a) = some a) :
    iter step fuel0 ((0 : Int), g 0) = some (g 16) := by
  refine iter_run (fun s => 16 - s.1.toNat) (fun s => ∃ k : Nat, s = ((k : Int), g k) ∧ k ≤ 16) ⟨0, rfl, Nat.zero_le _⟩ (by simp) ?_
  rintro _ ⟨k, rfl, hk⟩
  by_cases hki : k = 16
  · subst hki
    left; intro rec; exact hend rec _
  · right
    refine ⟨(((k + 1 : Nat) : Int), g (k + 1)), ⟨k + 1, rfl, by omega⟩, by simp only [Int.toNat_natCast]; omega, fun rec => ?_⟩
    rw [h k (by omega), show IntKind.i64.wrap ((k : Int) + 1) = ((k + 1 : Nat) : Int) from by rw [IntKind.wrap_i64]; omega]
noncomputable def pageG (D : List Int) (n : Int) : Nat → Arr16 Int
  | 0 => arr16 0
  | k + 1 => if 16 * n + (k : Int) < (D.length : Int) then Arr16.set (pageG D n k) k (D.getD (16 * n + (k : Int)).toNat 0) else pageG D n k
theorem wrap_pg {n : Int} {k : Nat} (h0 : 0 ≤ n) (h1 : n < 1048576) (hk : k < 16) : IntKind.i64.wrap (IntKind.i64.wrap (n * 16) + (k : Int)) = 16 * n + k ∧ IntKind.i64.wrap (IntKind.i64.wrap (16 * n) + (k : Int)) = 16 * n + k := by
  simp only [IntKind.wrap_i64]; omega
theorem seg_Page_eq (o : ObjectD) (n : Int) (hk : o.Kind = 1) (hl : o.Data.length ≤ 1000000) : seg_Page o n = some (if 0 ≤ n ∧ n < 1048576 then pageG o.Data n 16 else arr16 0) := by
  unfold seg_Page
  have k1 : (o.Kind != 1) = false := by rw [hk]; rfl
  simp only [k1, cond_false, Option.bind_some, bif_or, Bool.false_or]
  by_cases h0 : 0 ≤ n
  · by_cases h1 : n < 1048576
    · have e1 : decide (n < 0) = false := by rw [decide_eq_false_iff_not]; omega
      have e2 : decide (n ≥ 1048576) = false := by rw [decide_eq_false_iff_not]; omega
      rw [e1, e2, if_pos ⟨h0, h1⟩]
      simp only [Bool.or_self, cond_false]
      rw [bind_same]
      refine page_run (step := seg_Page_L0 o n) (pageG o.Data n) (fun i hi rec => ?_) (fun rec a => by unfold seg_Page_L0; rfl)
      unfold seg_Page_L0
      have h4 : decide ((i : Int) < 16) = true := by rw [decide_eq_true_eq]; omega
      simp only [h4, cond_true, (wrap_pg h0 h1 hi).1]
      by_cases hd : 16 * n + (i : Int) < (o.Data.length : Int)
      · obtain ⟨x, hx, hy⟩ := idx_toNat (l := o.Data) (i := 16 * n + (i : Int)) (by omega) hd
        simp only [hd, decide_true, cond_true, hx, Option.bind_some, inr_ok hi, pageG, if_true, List.getD_eq_getElem?_getD, hy, Option.getD_some]
      · simp only [hd, decide_false, cond_false, Option.bind_some, pageG, if_false]
    · have e2 : decide (n ≥ 1048576) = true := by rw [decide_eq_true_eq]; omega
      rw [e2, if_neg (fun h => h1 h.2)]; simp
  · have e1 : decide (n < 0) = true := by rw [decide_eq_true_eq]; omega
    rw [e1, if_neg (fun h => h0 h.1)]; simp
theorem r16_Page_no (o : ObjectD) (n : Int) (h : ¬ (o.Kind = 1 ∧ 0 ≤ n ∧ n < 1048576)) : r16_Page o n = some (arr16 0) := by
  unfold r16_Page
  rw [bind_same]
  refine page_run (step := r16_Page_L0 o n) (fun _ => arr16 0) (fun i hi rec => ?_) (fun rec a => by unfold r16_Page_L0; rfl)
  unfold r16_Page_L0
  have h4 : decide ((i : Int) < 16) = true := by rw [decide_eq_true_eq]; omega
  have hf : (((o.Kind == 1) && decide (n ≥ 0)) && decide (n < 1048576)) = false := by
    rw [Bool.eq_false_iff]
    intro hc
    simp only [Bool.and_eq_true, beq_iff_eq, decide_eq_true_eq] at hc
    exact h ⟨hc.1.1, hc.1.2, hc.2⟩
  simp only [h4, cond_true, bif_and, Option.bind_some, hf, Bool.false_and, cond_false]
theorem r16_Page_eq (o : ObjectD) (n : Int) (hk : o.Kind = 1) (hl : o.Data.length ≤ 1000000) : r16_Page o n = some (if 0 ≤ n ∧ n < 1048576 then pageG o.Data n 16 else arr16 0) := by
  by_cases hr : 0 ≤ n ∧ n < 1048576
  · obtain ⟨h0, h1⟩ := hr
    rw [if_pos ⟨h0, h1⟩]
    unfold r16_Page
    rw [bind_same]
    refine page_run (step := r16_Page_L0 o n) (pageG o.Data n) (fun i hi rec => ?_) (fun rec a => by unfold r16_Page_L0; rfl)
    unfold r16_Page_L0
    have h4 : decide ((i : Int) < 16) = true := by rw [decide_eq_true_eq]; omega
    have e0 : (o.Kind == 1) = true := by rw [hk]; rfl
    have e1 : decide (n ≥ 0) = true := by rw [decide_eq_true_eq]; omega
    have e2 : decide (n < 1048576) = true := by rw [decide_eq_true_eq]; omega
    simp only [h4, cond_true, (wrap_pg h0 h1 hi).2, e0, e1, e2, Option.bind_some]
    by_cases hd : 16 * n + (i : Int) < (o.Data.length : Int)
    · obtain ⟨x, hx, hy⟩ := idx_toNat (l := o.Data) (i := 16 * n + (i : Int)) (by omega) hd
      simp only [hd, decide_true, cond_true, hx, Option.bind_some, inr_ok hi, pageG, if_true, List.getD_eq_getElem?_getD, hy, Option.getD_some]
    · simp only [hd, decide_false, cond_false, Option.bind_some, pageG, if_false]
  · rw [if_neg hr]; exact r16_Page_no o n (fun h => hr h.2)
theorem zero_obj_lens : ObjectD.zero.Lens := ⟨nil_lens, nil_lens, nil_lens, nil_lens, zero_lens, gzero_lens, nil_lens, nil_lens⟩

/-- What the program's and the document's answers come to. -/
theorem does_facts (o : ObjectD) (n i v : Int) (l : List PairD) (q : Int) (ho : o.Lens) (hi : 0 ≤ i) (hs : r13_Sound o = some true) (hd : o.Data.length ≤ 1000000) (hl : l.length ≤ 1000000) (hn : n ≤ 5000) :
    ∃ (a x p : ObjectD × Int) (g : Int × Int) (pg : Arr16 Int), seg_Resize o n = some a ∧ r16_Resize o n = some a ∧ seg_Get o i = some g ∧ r16_Get o i = some g ∧ seg_Put o i v = some x ∧ r16_Put o i v = some x ∧ seg_Copy o v l q = some p ∧ r16_Copy o v l q = some p ∧ seg_Page o n = some pg ∧ r16_Page o n = some pg ∧
      a.1.Lens ∧ x.1.Lens ∧ p.1.Lens ∧ r13_Sound a.1 = some true ∧ r13_Sound x.1 = some true ∧ (p.2 = 0 → r13_Sound p.1 = some true) := by
  by_cases hk : o.Kind = 1
  · have hseg : Seg o := by
      have := r13_Sound_seg o hk ho
      rw [hs] at this
      simpa using this.symm
    refine ⟨_, _, _, _, _, seg_Resize_eq o n hk hseg.q1 hseg.q2, r16_Resize_eq o n hk hseg.q1 hseg.q2, seg_Get_eq o i hk hd hi, r16_Get_eq o i hk hd hi, seg_Put_eq o i v hk hd hi, r16_Put_eq o i v hk hd hi, seg_Copy_eq o v l q hk ho hd hl, r16_Copy_eq o v l q hk ho hd hl, seg_Page_eq o n hk hd, r16_Page_eq o n hk hd, ?_, ?_, ?_, ?_, ?_, ?_⟩
    · by_cases h1 : n < 0
      · simpa [h1] using ho
      · by_cases h2 : n > 16 * (o.Quota - 1)
        · simpa [h1, h2] using ho
        · simp only [h1, h2, if_false]
          refine ⟨ho.label, ho.links, ?_, ho.maps, ho.thread, ho.gate, ho.inn, ho.out⟩
          show (cpyL _ _).length ≤ _
          rw [cpyL_length, List.length_replicate, maxLen_eq]; omega
    · by_cases h1 : i < (o.Data.length : Int)
      · simpa [h1] using setD_lens ho i v
      · simpa [h1] using ho
    · unfold copyE
      split
      · exact zero_obj_lens
      · split
        · exact copyD_lens ho v (by rw [maxLen_eq]; omega) q
        · exact zero_obj_lens
    · by_cases h1 : n < 0
      · simpa [h1] using hs
      · by_cases h2 : n > 16 * (o.Quota - 1)
        · simpa [h1, h2] using hs
        · simp only [h1, h2, if_false]
          have hlen : ((sizeD o n).Data.length : Int) = n := by
            show ((cpyL _ _).length : Int) = n
            rw [cpyL_length, List.length_replicate]; omega
          have hL : (sizeD o n).Lens := ⟨ho.label, ho.links, by rw [maxLen_eq]; omega, ho.maps, ho.thread, ho.gate, ho.inn, ho.out⟩
          rw [r13_Sound_seg (sizeD o n) hk hL]
          obtain ⟨f1, f2, f3, f4, f5, f6⟩ := seg_fields hseg.bare
          have : Seg (sizeD o n) := ⟨hseg.id, hseg.kept, hseg.q1, hseg.q2, by rw [eq_object]; simp [bareS, sizeD, f1, f2, f3, f4, f5, f6], hseg.owned, by rw [hlen]; show n ≤ 16 * (o.Quota - 1); omega⟩
          simp [this]
    · by_cases h1 : i < (o.Data.length : Int)
      · simp only [h1, if_true]
        rw [r13_Sound_seg (setD o i v) hk (setD_lens ho i v)]
        obtain ⟨f1, f2, f3, f4, f5, f6⟩ := seg_fields hseg.bare
        have : Seg (setD o i v) := ⟨hseg.id, hseg.kept, hseg.q1, hseg.q2, by rw [eq_object]; simp [bareS, setD, f1, f2, f3, f4, f5, f6], hseg.owned, by rw [setD_len]; exact hseg.room⟩
        simp [this]
      · simpa [h1] using hs
    · unfold copyE
      split
      · intro h; exact absurd h (by decide)
      · split
        · rename_i h
          intro _
          rw [r13_Sound_seg (copyD o v l q) rfl (copyD_lens ho v (by rw [maxLen_eq]; omega) q)]
          simp [h]
        · intro h; exact absurd h (by decide)
  · have k1 : (o.Kind != 1) = true := by rw [bne_dec, decide_eq_true_eq]; exact hk
    refine ⟨(o, 3), (o, 3), (ObjectD.zero, 3), (0, 3), arr16 0, ?_, ?_, ?_, ?_, ?_, ?_, ?_, ?_, ?_, r16_Page_no o n (fun h => hk h.1), ho, ho, zero_obj_lens, hs, hs, fun h => absurd h (by decide)⟩
    · simp [seg_Resize, k1]
    · simp [r16_Resize, k1]
    · simp [seg_Get, seg_has, k1]
    · simp [r16_Get, k1]
    · simp [seg_Put, seg_has, k1]
    · simp [r16_Put, r16_Get, k1]
    · simp [seg_Copy, k1]
    · simp [r16_Copy, k1]
    · simp [seg_Page, k1]
theorem law16_SegDoes_eq (o : ObjectD) (n i v : Int) (l : List PairD) (q : Int) (ho : o.Lens) (hl : l.length ≤ maxLen) (hi : 0 ≤ i) : law16_SegDoes o n i v l q = some true := by
  unfold law16_SegDoes
  obtain ⟨b, hb⟩ := r13_Sound_tot o ho
  have hfit : r13_FitLabel l = some (fitB l) := by unfold r13_FitLabel; rw [bind_same, r02_Fit_eq l hl]
  rw [law16_brief_eq o b hb, law16_awake_eq, hfit]
  simp only [Option.bind_some, bif_or]
  generalize hg : (((!(decide ((o.Label.length : Int) ≤ 20) && decide ((o.Data.length : Int) ≤ 200) && decide ((o.Links.length : Int) ≤ 70) && decide ((o.Maps.length : Int) ≤ 20) && b) || decide ((l.length : Int) > 20)) || !fitB l) || decide (n > 5000)) = g
  cases g with
  | true => rfl
  | false =>
    simp only [Bool.or_eq_false_iff, Bool.not_eq_false', Bool.and_eq_true, decide_eq_true_eq, decide_eq_false_iff_not] at hg
    obtain ⟨⟨⟨⟨⟨⟨⟨hg1, hg2⟩, hg3⟩, hg4⟩, hg5⟩, hg6⟩, hg7⟩, hn⟩ := hg
    subst hg5
    obtain ⟨a, x, p, g, pg, f1, f2, f3, f4, f5, f6, f7, f8, f9, f10, l1, l2, l3, s1, s2, s3⟩ := does_facts o n i v l q ho hi hb (by omega) (by omega) (by omega)
    simp only [cond_false, f1, f2, f3, f4, f5, f6, f7, f8, f9, f10, Option.bind_some, r13_SameOne_eq _ _ l1, r13_SameOne_eq _ _ l2, r13_SameOne_eq _ _ l3, decide_true, cond_true, beq_self_eq_true, Bool.and_self, s1, s2]
    by_cases hp : p.2 = 0
    · have : (p.2 != 0) = false := by rw [hp]; rfl
      simp [this, s3 hp]
    · have : (p.2 != 0) = true := by rw [bne_dec, decide_eq_true_eq]; exact hp
      simp [this]
end Go.Proofs.Ytpckfpahmnhfcaa.K
