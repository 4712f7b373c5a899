/- Plain laws: segments: SegSwaps. No program in sight. -/
import Derived.Test.YtpckfpahmnhfcaaKR
namespace Go.Proofs.Ytpckfpahmnhfcaa.K
open Go Go.RowKit Go.Proofs.Ytpckfpahmnhfcaa.G
set_option linter.unusedVariables false
set_option linter.unusedSimpArgs false
attribute [-simp] cond_dec

theorem law16_awake_eq : law16_awake = some true := by kernel_rfl
theorem wrapU (n : Int) : IntKind.u64.wrap n = n % 18446744073709551616 := by simp [IntKind.wrap, IntKind.bits, IntKind.signed]
theorem wrap_len {n : Nat} (h : n ≤ 1000000) : IntKind.u64.wrap (n : Int) = n := by rw [wrapU]; omega
theorem idx_toNat {α : Type} {l : List α} {i : Int} (h0 : 0 ≤ i) (h : i < l.length) : ∃ x, idx l i = some x ∧ l[i.toNat]? = some x := by
  have hlt : i.toNat < l.length := by omega
  exact ⟨l[i.toNat], by simp [idx, h0, hlt], by simp [hlt]⟩
def setD (o : ObjectD) (i v : Int) : ObjectD := { o with Data := o.Data.set i.toNat v }
theorem seg_has_eq (o : ObjectD) (i : Int) (hk : o.Kind = 1) (hl : o.Data.length ≤ 1000000) : seg_has o i = some (if i < o.Data.length then 0 else 13) := by
  unfold seg_has
  have k1 : (o.Kind != 1) = false := by rw [hk]; rfl
  rw [k1, wrap_len hl]
  by_cases h : i < (o.Data.length : Int)
  · have : decide (i ≥ (o.Data.length : Int)) = false := by rw [decide_eq_false_iff_not]; omega
    simp [this, h]
  · have : decide (i ≥ (o.Data.length : Int)) = true := by rw [decide_eq_true_eq]; omega
    simp [this, h]
theorem seg_Put_eq (o : ObjectD) (i v : Int) (hk : o.Kind = 1) (hl : o.Data.length ≤ 1000000) (h0 : 0 ≤ i) : seg_Put o i v = some (if i < o.Data.length then (setD o i v, 0) else (o, 13)) := by
  unfold seg_Put
  rw [seg_has_eq o i hk hl]
  by_cases h : i < (o.Data.length : Int)
  · obtain ⟨x, hx, _⟩ := idx_toNat h0 h
    have hc : cloneL 8 o.Data = some o.Data := by unfold cloneL; rw [if_pos (by omega)]
    simp [h, hc, hx, setD]
  · simp [h]
theorem seg_Get_eq (o : ObjectD) (i : Int) (hk : o.Kind = 1) (hl : o.Data.length ≤ 1000000) (h0 : 0 ≤ i) : seg_Get o i = some (if i < o.Data.length then (o.Data.getD i.toNat 0, 0) else (0, 13)) := by
  unfold seg_Get
  rw [seg_has_eq o i hk hl]
  by_cases h : i < (o.Data.length : Int)
  · obtain ⟨x, hx, hy⟩ := idx_toNat h0 h
    simp [h, hx, List.getD_eq_getElem?_getD, hy]
  · simp [h]
theorem seg_room_eq (q : Int) (h1 : 1 ≤ q) (h2 : q ≤ 4096) : seg_room q = some (16 * (q - 1)) := by
  unfold seg_room
  have e1 : decide (q < 1) = false := by rw [decide_eq_false_iff_not]; omega
  have e2 : decide (q > 4096) = false := by rw [decide_eq_false_iff_not]; omega
  simp [e1, e2, (room_wrap h1 h2).2]
theorem mkL_ok {α : Type} {b : Nat} {z : α} {n : Int} (h0 : 0 ≤ n) (h : (b : Int) * n ≤ 281474976710656) (h2 : n ≤ 9223372036854775807) : mkL b z n = some (List.replicate n.toNat z) := by unfold mkL; rw [if_pos ⟨h0, h, h2⟩]
def sizeD (o : ObjectD) (n : Int) : ObjectD := { o with Data := cpyL (List.replicate n.toNat (0 : Int)) o.Data }
theorem seg_Resize_eq (o : ObjectD) (n : Int) (hk : o.Kind = 1) (h1 : 1 ≤ o.Quota) (h2 : o.Quota ≤ 4096) : seg_Resize o n = some (if n < 0 then (o, 4) else if n > 16 * (o.Quota - 1) then (o, 5) else (sizeD o n, 0)) := by
  unfold seg_Resize
  have k1 : (o.Kind != 1) = false := by rw [hk]; rfl
  rw [k1, seg_room_eq _ h1 h2]
  by_cases h3 : n < 0
  · simp [h3]
  · by_cases h4 : n > 16 * (o.Quota - 1)
    · simp [h3, h4]
    · have : mkL 8 (0 : Int) n = some (List.replicate n.toNat 0) := mkL_ok (by omega) (by omega) (by omega)
      simp [h3, h4, this, sizeD]
theorem law16_brief_eq (o : ObjectD) (b : Bool) (hs : r13_Sound o = some b) : law16_brief o = some (decide ((o.Label.length : Int) ≤ 20) && decide ((o.Data.length : Int) ≤ 200) && decide ((o.Links.length : Int) ≤ 70) && decide ((o.Maps.length : Int) ≤ 20) && b) := by
  unfold law16_brief
  simp only [hs, bif_and, Option.bind_some]
theorem setD_comm (o : ObjectD) (i j a b : Int) (hi : 0 ≤ i) (hj : 0 ≤ j) (h : i ≠ j) : setD (setD o i a) j b = setD (setD o j b) i a := by
  unfold setD
  simp only
  rw [List.set_comm _ _ (by omega)]
theorem setD_twice (o : ObjectD) (i a b : Int) : setD (setD o i a) i b = setD o i b := by
  unfold setD; simp
theorem setD_lens {o : ObjectD} (ho : o.Lens) (i a : Int) : (setD o i a).Lens := ⟨ho.label, ho.links, by simpa [setD] using ho.data, ho.maps, ho.thread, ho.gate, ho.inn, ho.out⟩
theorem setD_len (o : ObjectD) (i a : Int) : (setD o i a).Data.length = o.Data.length := by simp [setD]
theorem setD_kind (o : ObjectD) (i a : Int) : (setD o i a).Kind = o.Kind := rfl
def copyD (o : ObjectD) (id_ : Int) (l : List PairD) (q : Int) : ObjectD := { ObjectD.zero with Id := id_, Kind := 1, Label := l, Quota := q, Data := o.Data }
theorem copyD_lens {o : ObjectD} (ho : o.Lens) (id_ : Int) {l : List PairD} (hl : l.length ≤ maxLen) (q : Int) : (copyD o id_ l q).Lens := ⟨hl, nil_lens, ho.data, nil_lens, zero_lens, gzero_lens, nil_lens, nil_lens⟩
theorem clone_ok {α : Type} {b : Nat} {l : List α} (h : l.length * b ≤ 140737488355328) : cloneL b l = some l := by unfold cloneL; rw [if_pos h]
noncomputable def copyE (o : ObjectD) (id_ : Int) (l : List PairD) (q : Int) : ObjectD × Int :=
  if q < 1 ∨ q ≤ 4096 ∧ (o.Data.length : Int) > 16 * (q - 1) then (ObjectD.zero, 5) else if Seg (copyD o id_ l q) then (copyD o id_ l q, 0) else (ObjectD.zero, 4)
theorem seg_Copy_eq (o : ObjectD) (id_ : Int) (l : List PairD) (q : Int) (hk : o.Kind = 1) (ho : o.Lens) (hd : o.Data.length ≤ 1000000) (hl : l.length ≤ 1000000) : seg_Copy o id_ l q = some (copyE o id_ l q) := by
  unfold seg_Copy
  have k1 : (o.Kind != 1) = false := by rw [hk]; rfl
  have hs := obj_Sound_seg (copyD o id_ l q) rfl (copyD_lens ho id_ (by rw [maxLen_eq]; omega) q)
  have hs' : obj_Sound ({ ObjectD.zero with Id := id_, Kind := (1 : Int), Label := l, Quota := q, Data := o.Data } : ObjectD) = some (decide (Seg (copyD o id_ l q))) := hs
  rw [k1, clone_ok (b := 16) (by omega), clone_ok (b := 8) (by omega)]
  simp only [cond_false, Option.bind_some]
  rw [hs']
  unfold copyE
  by_cases h1 : q < 1
  · simp [h1]
  · by_cases h2 : q ≤ 4096
    · rw [seg_room_eq q (by omega) h2]
      by_cases h3 : (o.Data.length : Int) > 16 * (q - 1)
      · simp [h1, h2, h3]
      · by_cases h4 : Seg (copyD o id_ l q)
        · simp [h1, h2, h3, h4]; rfl
        · simp [h1, h2, h3, h4]
    · by_cases h4 : Seg (copyD o id_ l q)
      · simp [h1, h2, h4]; rfl
      · simp [h1, h2, h4]
theorem seg_fields {o : ObjectD} (h : bareS o = o) : o.Links = [] ∧ o.Maps = [] ∧ o.Thread = ThreadD.zero ∧ o.Gate = GateD.zero ∧ o.In = [] ∧ o.Out = [] := by
  rw [eq_object] at h
  simp only [bareS, true_and] at h
  obtain ⟨h1, h2, h3, h4, h5, h6⟩ := h
  exact ⟨h1.symm, h2.symm, h3.symm, h4.symm, h5.symm, h6.symm⟩
theorem copyD_seg {o : ObjectD} (id_ : Int) {l : List PairD} {q : Int} (h1 : idB id_ = true) (h2 : keptB l = true) (h3 : 1 ≤ q) (h4 : q ≤ 4096) (h5 : ownL l = []) (h6 : (o.Data.length : Int) ≤ 16 * (q - 1)) : Seg (copyD o id_ l q) := ⟨h1, h2, h3, h4, rfl, h5, h6⟩
theorem size_take (l : List Int) (n : Nat) (h : n ≤ l.length) : cpyL (List.replicate n (0 : Int)) l = l.take n := by
  unfold cpyL; simp
  omega
theorem size_back (l : List Int) (n m : Nat) (h : n ≤ m) (hl : l.length = n) : cpyL (List.replicate m (0 : Int)) l = l ++ List.replicate (m - n) 0 := by
  unfold cpyL
  rw [List.take_of_length_le (by simp; omega), List.drop_replicate, hl]
theorem swaps_rounds (o : ObjectD) (n : Nat) (d : ObjectD) (e : Int) (hn : n ≤ o.Data.length) (hl : o.Data.length ≤ 1000000) (hd : d.Data = o.Data.take n ++ List.replicate (o.Data.length - n) 0) : iter (law16_SegSwaps_L0 o (n : Int) (d, e)) fuel0 0 = some (Sum.inr ()) := by
  have hdl : d.Data.length = o.Data.length := by rw [hd]; simp; omega
  have := scan (len := d.Data.length) (by rw [maxLen_eq]; omega) (step := law16_SegSwaps_L0 o (n : Int) (d, e)) (fun _ => false) (fun _ => Sum.inl ()) (Sum.inr ()) (fun i hi rec => by
    unfold law16_SegSwaps_L0
    have hio : i < o.Data.length := by omega
    simp only [lt_dec hi, cond_true, idx_lt hi, idx_lt hio, Option.bind_some]
    have hx : d.Data[i] = if i < n then o.Data[i] else 0 := by
      have h1 : (o.Data.take n ++ List.replicate (o.Data.length - n) 0)[i]? = some d.Data[i] := by rw [← hd]; exact List.getElem?_eq_getElem hi
      by_cases hin : i < n
      · rw [List.getElem?_append_left (by simp; omega), List.getElem?_take, if_pos hin, List.getElem?_eq_getElem hio] at h1
        rw [if_pos hin]
        exact (Option.some.inj h1).symm
      · rw [List.getElem?_append_right (by simp; omega), List.getElem?_replicate] at h1
        rw [if_neg hin]
        split at h1
        · exact (Option.some.inj h1).symm
        · cases h1
    by_cases hin : i < n
    · have h1 : decide ((i : Int) < (n : Int)) = true := by rw [decide_eq_true_eq]; omega
      have h2 : decide ((i : Int) ≥ (n : Int)) = false := by rw [decide_eq_false_iff_not]; omega
      rw [h1, h2, hx, if_pos hin]
      simp
    · have h1 : decide ((i : Int) < (n : Int)) = false := by rw [decide_eq_false_iff_not]; omega
      have h2 : decide ((i : Int) ≥ (n : Int)) = true := by rw [decide_eq_true_eq]; omega
      rw [h1, h2, hx, if_neg hin]
      simp) (fun rec => by unfold law16_SegSwaps_L0; simp only [lt_end, cond_false])
  rcases this with ⟨h1, _⟩ | ⟨_, h2⟩
  · simp at h1
  · exact h2
theorem bind_of {α β : Type} {X : Option α} {F : α → Option β} {x : α} {r : Option β} (h1 : X = some x) (h2 : F x = r) : X.bind F = r := by rw [h1]; exact h2
theorem law16_SegSwaps_eq (o : ObjectD) (i j v u n : Int) (ho : o.Lens) (hi : 0 ≤ i) (hj : 0 ≤ j) : law16_SegSwaps o i j v u n = some true := by
  unfold law16_SegSwaps
  obtain ⟨b, hb⟩ := r13_Sound_tot o ho
  rw [law16_brief_eq o b hb, law16_awake_eq]
  simp only [Option.bind_some, bif_or]
  generalize hg : ((!(decide ((o.Label.length : Int) ≤ 20) && decide ((o.Data.length : Int) ≤ 200) && decide ((o.Links.length : Int) ≤ 70) && decide ((o.Maps.length : Int) ≤ 20) && b) || o.Kind != 1) || decide (n > 5000)) = g
  cases g with
  | true => rfl
  | false =>
    simp only [Bool.or_eq_false_iff, Bool.not_eq_false', Bool.and_eq_true, decide_eq_true_eq, decide_eq_false_iff_not, bne_eq_false_iff_eq] at hg
    obtain ⟨⟨⟨⟨⟨⟨hg1, hg2⟩, hg3⟩, hg4⟩, hg5⟩, hk⟩, hn⟩ := hg
    have hs := r13_Sound_seg o hk ho
    rw [hb, hg5] at hs
    have hseg : Seg o := by simpa using hs.symm
    have hd : o.Data.length ≤ 1000000 := by omega
    simp only [cond_false]
    rw [seg_Put_eq o i v hk hd hi, seg_Put_eq o j u hk hd hj, seg_Resize_eq o n hk hseg.q1 hseg.q2]
    have part1 : (Option.bind (α := (Unit) ⊕ (Unit)) (
      Option.bind (α := Bool) (
        bif ((if i < (o.Data.length : Int) then (setD o i v, (0 : Int)) else (o, 13)).2 == (0 : Int)) then
          some ((if j < (o.Data.length : Int) then (setD o j u, (0 : Int)) else (o, 13)).2 == (0 : Int))
        else
          some false) fun x32 =>
      bif x32 then
        Option.bind (seg_Put (if i < (o.Data.length : Int) then (setD o i v, (0 : Int)) else (o, 13)).1 j u) fun v34 =>
        Option.bind (seg_Put (if j < (o.Data.length : Int) then (setD o j u, (0 : Int)) else (o, 13)).1 i v) fun v35 =>
        Option.bind (α := Bool) (
          Option.bind (α := Bool) (
            bif (i != j) then
              Option.bind (r13_SameOne v34.1 v35.1) fun v44 =>
              some (!v44)
            else
              some false) fun x39 =>
          bif x39 then
            some true
          else
            Option.bind (α := Bool) (
              bif (i == j) then
                Option.bind (r13_SameOne v34.1 (if j < (o.Data.length : Int) then (setD o j u, (0 : Int)) else (o, 13)).1) fun v43 =>
                some (!v43)
              else
                some false) fun x42 =>
            some x42) fun x36 =>
        bif x36 then
          some (Sum.inl ())
        else
          some (Sum.inr ())
      else
        some (Sum.inr ())) (fun y => some y)) = some (Sum.inr ()) := by
      by_cases h1 : i < (o.Data.length : Int)
      · by_cases h2 : j < (o.Data.length : Int)
        · simp only [if_pos h1, if_pos h2, beq_self_eq_true, cond_true, Option.bind_some]
          rw [seg_Put_eq (setD o i v) j u hk (by rw [setD_len]; exact hd) hj, seg_Put_eq (setD o j u) i v hk (by rw [setD_len]; exact hd) hi, setD_len, setD_len]
          simp only [if_pos h1, if_pos h2, Option.bind_some]
          rw [r13_SameOne_eq _ _ (setD_lens (setD_lens ho i v) j u), r13_SameOne_eq _ _ (setD_lens (setD_lens ho i v) j u)]
          by_cases hij : i = j
          · subst hij
            simp [setD_twice]
          · have e1 : (i != j) = true := by simpa using hij
            have e2 : (i == j) = false := by simpa using hij
            rw [e1, e2, setD_comm o i j v u hi hj hij]
            simp
        · simp [h1, h2]
      · simp [h1]
    rw [bind_same] at part1
    simp only [Option.bind_some]
    rw [part1]
    simp only [Option.bind_some]
    have part2 : (Option.bind (α := Bool) (
          bif ((if n < 0 then (o, (4 : Int)) else if n > 16 * (o.Quota - 1) then (o, 5) else (sizeD o n, 0)).2 == (0 : Int)) then
            some (decide (n < (o.Data.length : Int)))
          else
            some false) fun x15 =>
        bif x15 then
          Option.bind (seg_Resize (if n < 0 then (o, (4 : Int)) else if n > 16 * (o.Quota - 1) then (o, 5) else (sizeD o n, 0)).1 (o.Data.length : Int)) fun v17 =>
          Option.bind (iter (law16_SegSwaps_L0 o n v17) fuel0 (0 : Int)) fun y => match y with
          | (Sum.inl y19ret) =>
            some (Sum.inl ())
          | (Sum.inr y19exit0) =>
            bif (v17.2 != (0 : Int)) then
              some (Sum.inl ())
            else
              some (Sum.inr ())
        else
          some (Sum.inr ())) = some (Sum.inr () : Unit ⊕ Unit) := by
      by_cases h1 : n < 0
      · simp [h1]
      · by_cases h2 : n > 16 * (o.Quota - 1)
        · simp [h1, h2]
        · by_cases h3 : n < (o.Data.length : Int)
          · simp only [if_neg h1, if_neg h2, beq_self_eq_true, cond_true, Option.bind_some, h3, decide_true]
            have hz : (sizeD o n).Data = o.Data.take n.toNat := size_take _ _ (by omega)
            have hzl : (sizeD o n).Data.length = n.toNat := by rw [hz, List.length_take]; omega
            have hroom := hseg.room
            rw [seg_Resize_eq (sizeD o n) _ hk hseg.q1 hseg.q2, if_neg (by omega), if_neg (by show ¬ ((o.Data.length : Int) > 16 * (o.Quota - 1)); omega)]
            simp only [Option.bind_some]
            have hr := swaps_rounds o n.toNat (sizeD (sizeD o n) (o.Data.length : Int)) 0 (by omega) hd (by
              show cpyL (List.replicate ((o.Data.length : Int)).toNat (0 : Int)) (sizeD o n).Data = _
              rw [Int.toNat_natCast, size_back _ n.toNat _ (by omega) hzl, hz])
            rw [show ((n.toNat : Nat) : Int) = n by omega] at hr
            rw [hr]
            rfl
          · simp [h1, h2, h3]
    refine bind_of part2 ?_
    simp only
    rw [seg_Copy_eq o o.Id o.Label o.Quota hk ho hd (by omega)]
    have hsc : Seg (copyD o o.Id o.Label o.Quota) := copyD_seg o.Id hseg.id hseg.kept hseg.q1 hseg.q2 hseg.owned hseg.room
    have hce : copyE o o.Id o.Label o.Quota = (copyD o o.Id o.Label o.Quota, 0) := by
      unfold copyE
      rw [if_neg (by have := hseg.q1; have := hseg.room; omega), if_pos hsc]
    rw [hce]
    simp only [Option.bind_some]
    rw [r13_SameOne_eq _ _ (copyD_lens ho o.Id ho.label o.Quota)]
    obtain ⟨f1, f2, f3, f4, f5, f6⟩ := seg_fields hseg.bare
    have hfin : copyD o o.Id o.Label o.Quota = { o with Fixed := false } := by
      rw [eq_object]
      simp only [copyD, ObjectD.zero, f1, f2, f3, f4, f5, f6, hk, and_self]
    simp [hfin]
end Go.Proofs.Ytpckfpahmnhfcaa.K
