/- Walks of package slices' generic functions. For words, pairs and objects. Printed by wip/gen/walk.py out of wip/gen/spec_sl2.py. -/
import Derived.Test.YtpckfpahmnhfcaaS0
namespace Go.Proofs.Ytpckfpahmnhfcaa.F
open Go Go.RowKit Go.Proofs.Ytpckfpahmnhfcaa.G
set_option linter.unusedVariables false
set_option linter.unusedSimpArgs false
set_option maxRecDepth 20000
set_option maxHeartbeats 4000000

theorem clone_word_spec (xs : List (List AV)) (hx : ∀ el ∈ xs, el.length = 1) (hs : ∀ el ∈ xs, el.all AV.scal = true) (hu : AV.underL 0 xs.flatten = true) (hb : xs.length * 8 ≤ 140737488355328) : OCall Try.prog 106 [.list xs] xs 1 23 := by
  refine d_intro_h Try.func106 rfl (by decide +kernel) (ok_row hu) (Nat.zero_le _) (ts := [.list xs, .undef, .undef, .undef, .undef, .undef, .undef, .undef]) rfl fun B hB => ?_
  refine awp_seq ?_
  refine awp_region ?_
  refine d_pure tok rfl rfl (by dsimp only [putL, List.set]) ?_
  refine aops_nil ?_
  refine awp_seq ?_
  refine awp_seq ?_
  refine awp_region ?_
  refine d_pure tok rfl rfl (by dsimp only [putL, List.set]) ?_
  refine d_isnil tok rfl rfl rfl rfl rfl (by dsimp only [putL, List.set]) (by dsimp only [putL, List.set]) (fun hnil => ?_) ?_
  · refine aops_nil ?_
    refine awp_cond_true rfl ?_
    refine awp_seq ?_
    refine awp_region ?_
    refine d_pure tok rfl rfl (by dsimp only [putL, List.set]) ?_
    refine aops_nil ?_
    subst hnil
    refine c_own 2 1 23 rfl (by rw [hB]; exact Nat.zero_le _) (by dsimp only [putL, List.set]) (by dsimp only [List.nil_append, HAppend.hAppend, Append.append, List.append]) ?_
    refine awp_ret ?_
    exact qfun_of [] rfl rfl (Weak.refl _) rfl rfl
  · refine aops_nil ?_
    refine awp_cond_false rfl ?_
    refine awp_skip ?_
    refine awp_seq ?_
    refine awp_region ?_
    refine d_new rfl (head_bslice tok 0 rfl rfl rfl rfl rfl rfl rfl rfl (row := []) rfl) (by dsimp only [putL, List.set]) (by dsimp only [List.append, HAppend.hAppend, Append.append]) ?_
    refine d_pure tok rfl rfl (by dsimp only [putL, List.set]) ?_
    refine d_append (xs := []) tok rfl rfl rfl rfl rfl rfl rfl rfl rfl hx (fun el h => scal_all (hs el h)) (by simp; omega) (by simpa using hb) (by dsimp only [List.set, List.nil_append]) (by dsimp only [putL, List.set, List.nil_append]) ?_
    refine d_pure tok rfl rfl (by dsimp only [putL, List.set]) ?_
    refine aops_nil ?_
    refine awp_ret ?_
    exact qfun_of [] rfl rfl (Weak.refl _) rfl rfl

theorem clone_pair_spec (xs : List (List AV)) (hx : ∀ el ∈ xs, el.length = 2) (hs : ∀ el ∈ xs, el.all AV.scal = true) (hu : AV.underL 0 xs.flatten = true) (hb : xs.length * 16 ≤ 140737488355328) : OCall Try.prog 108 [.list xs] xs 2 111 := by
  refine d_intro_h Try.func108 rfl (by decide +kernel) (ok_row hu) (Nat.zero_le _) (ts := [.list xs, .undef, .undef, .undef, .undef, .undef, .undef, .undef]) rfl fun B hB => ?_
  refine awp_seq ?_
  refine awp_region ?_
  refine d_pure tok rfl rfl (by dsimp only [putL, List.set]) ?_
  refine aops_nil ?_
  refine awp_seq ?_
  refine awp_seq ?_
  refine awp_region ?_
  refine d_pure tok rfl rfl (by dsimp only [putL, List.set]) ?_
  refine d_isnil tok rfl rfl rfl rfl rfl (by dsimp only [putL, List.set]) (by dsimp only [putL, List.set]) (fun hnil => ?_) ?_
  · refine aops_nil ?_
    refine awp_cond_true rfl ?_
    refine awp_seq ?_
    refine awp_region ?_
    refine d_pure tok rfl rfl (by dsimp only [putL, List.set]) ?_
    refine aops_nil ?_
    subst hnil
    refine c_own 2 2 111 rfl (by rw [hB]; exact Nat.zero_le _) (by dsimp only [putL, List.set]) (by dsimp only [List.nil_append, HAppend.hAppend, Append.append, List.append]) ?_
    refine awp_ret ?_
    exact qfun_of [] rfl rfl (Weak.refl _) rfl rfl
  · refine aops_nil ?_
    refine awp_cond_false rfl ?_
    refine awp_skip ?_
    refine awp_seq ?_
    refine awp_region ?_
    refine d_new rfl (head_bslice tok 0 rfl rfl rfl rfl rfl rfl rfl rfl (row := []) rfl) (by dsimp only [putL, List.set]) (by dsimp only [List.append, HAppend.hAppend, Append.append]) ?_
    refine d_pure tok rfl rfl (by dsimp only [putL, List.set]) ?_
    refine d_append (xs := []) tok rfl rfl rfl rfl rfl rfl rfl rfl rfl hx (fun el h => scal_all (hs el h)) (by simp; omega) (by simpa using hb) (by dsimp only [List.set, List.nil_append]) (by dsimp only [putL, List.set, List.nil_append]) ?_
    refine d_pure tok rfl rfl (by dsimp only [putL, List.set]) ?_
    refine aops_nil ?_
    refine awp_ret ?_
    exact qfun_of [] rfl rfl (Weak.refl _) rfl rfl

theorem clone_obj_spec (xs : List (List AV)) (hx : ∀ el ∈ xs, el.length = 51) (hs : ∀ el ∈ xs, el.all AV.scal = true) (hu : AV.underL 0 xs.flatten = true) (hb : xs.length * 632 ≤ 140737488355328) : OCall Try.prog 140 [.list xs] xs 51 57 := by
  refine d_intro_h Try.func140 rfl (by decide +kernel) (ok_row hu) (Nat.zero_le _) (ts := [.list xs, .undef, .undef, .undef, .undef, .undef, .undef, .undef]) rfl fun B hB => ?_
  refine awp_seq ?_
  refine awp_region ?_
  refine d_pure tok rfl rfl (by dsimp only [putL, List.set]) ?_
  refine aops_nil ?_
  refine awp_seq ?_
  refine awp_seq ?_
  refine awp_region ?_
  refine d_pure tok rfl rfl (by dsimp only [putL, List.set]) ?_
  refine d_isnil tok rfl rfl rfl rfl rfl (by dsimp only [putL, List.set]) (by dsimp only [putL, List.set]) (fun hnil => ?_) ?_
  · refine aops_nil ?_
    refine awp_cond_true rfl ?_
    refine awp_seq ?_
    refine awp_region ?_
    refine d_pure tok rfl rfl (by dsimp only [putL, List.set]) ?_
    refine aops_nil ?_
    subst hnil
    refine c_own 2 51 57 rfl (by rw [hB]; exact Nat.zero_le _) (by dsimp only [putL, List.set]) (by dsimp only [List.nil_append, HAppend.hAppend, Append.append, List.append]) ?_
    refine awp_ret ?_
    exact qfun_of [] rfl rfl (Weak.refl _) rfl rfl
  · refine aops_nil ?_
    refine awp_cond_false rfl ?_
    refine awp_skip ?_
    refine awp_seq ?_
    refine awp_region ?_
    refine d_new rfl (head_bslice tok 0 rfl rfl rfl rfl rfl rfl rfl rfl (row := []) rfl) (by dsimp only [putL, List.set]) (by dsimp only [List.append, HAppend.hAppend, Append.append]) ?_
    refine d_pure tok rfl rfl (by dsimp only [putL, List.set]) ?_
    refine d_append (xs := []) tok rfl rfl rfl rfl rfl rfl rfl rfl rfl hx (fun el h => scal_all (hs el h)) (by simp; omega) (by simpa using hb) (by dsimp only [List.set, List.nil_append]) (by dsimp only [putL, List.set, List.nil_append]) ?_
    refine d_pure tok rfl rfl (by dsimp only [putL, List.set]) ?_
    refine aops_nil ?_
    refine awp_ret ?_
    exact qfun_of [] rfl rfl (Weak.refl _) rfl rfl

theorem insert_obj_spec (xs ys : List (List AV)) (i : Nat) (hx : ∀ el ∈ xs, el.length = 51) (hy : ∀ el ∈ ys, el.length = 51) (hs : ∀ el ∈ xs, el.all AV.scal = true) (hsy : ∀ el ∈ ys, el.all AV.scal = true) (hu : AV.underL 0 xs.flatten = true) (huy : AV.underL 0 ys.flatten = true) (hi : i ≤ xs.length) (hne : ys ≠ []) (hb : (xs.length + ys.length) * 632 ≤ 140737488355328) : ACall Try.prog 141 [.own 0 xs.length, .int .i64 i, .own 1 ys.length] [some (.row xs 51 57), some (.row ys 51 57)] (.ret (.list (xs.take i ++ ys ++ xs.drop i))) [none, some (.row ys 51 57)] := by
  have hm : 0 < ys.length := List.length_pos_iff.2 hne
  refine d_intro_h Try.func141 rfl (by decide +kernel) (ok_nr huy) (Nat.le_refl _) (ts := [.own 0 xs.length, .int .i64 i, .own 1 ys.length, .undef, .undef, .undef, .undef, .undef, .undef, .undef, .undef, .undef, .undef, .undef, .undef, .undef, .undef, .undef, .undef, .undef, .undef, .undef, .undef, .undef, .undef, .undef, .undef, .undef, .undef, .undef, .undef, .undef, .undef, .undef, .undef, .undef, .undef, .undef, .undef, .undef, .undef, .undef, .undef, .undef, .undef, .undef, .undef, .undef, .undef, .undef, .undef, .undef, .undef, .undef, .undef, .undef, .undef, .undef, .undef, .undef, .undef, .undef, .undef, .undef, .undef, .undef, .undef, .undef, .undef, .undef, .undef, .undef, .undef, .undef, .undef, .undef, .undef, .undef, .undef, .undef, .undef, .undef, .undef, .undef, .undef, .undef, .undef, .undef, .undef, .undef, .undef, .undef, .undef, .undef, .undef]) rfl fun B hB => ?_
  refine awp_seq ?_
  refine awp_region ?_
  refine d_pure tok rfl rfl (by dsimp only [putL, List.set]) ?_
  refine aops_nil ?_
  refine awp_seq ?_
  refine awp_region ?_
  refine d_pure tok rfl rfl (by dsimp only [putL, List.set]) ?_
  refine d_pure tok rfl rfl (by dsimp only [putL, List.set]) ?_
  refine d_head rfl (head_slice_any tok rfl rfl rfl rfl rfl rfl rfl rfl (Int.natCast_nonneg _) (by omega) (Int.le_refl _)) (by dsimp only [putL, List.set]) ?_
  refine aops_nil ?_
  refine awp_seq ?_
  refine awp_region ?_
  refine d_pure tok rfl rfl (by dsimp only [putL, List.set]) ?_
  refine d_head rfl (head_len_own tok rfl rfl rfl rfl rfl) (by dsimp only [putL, List.set]) ?_
  refine d_pure tok rfl rfl (by dsimp only [putL, List.set]) ?_
  refine aops_nil ?_
  refine awp_seq ?_
  refine awp_seq ?_
  refine awp_region ?_
  refine d_pure tok rfl rfl (by dsimp only [putL, List.set]) ?_
  refine d_split rfl (head_p tok rfl) (by dsimp only [putL, List.set]) (by dsimp only [putL, List.set]) (fun h16 => ?_) (fun h16 => ?_)
  · exact absurd (List.eq_nil_of_length_eq_zero (by simpa using h16)) hne
  · refine aops_nil ?_
    refine awp_cond_false rfl ?_
    refine awp_skip ?_
    refine awp_seq ?_
    refine awp_region ?_
    refine d_pure tok rfl rfl (by dsimp only [putL, List.set]) ?_
    refine d_head rfl (head_len_own tok rfl rfl rfl rfl rfl) (by dsimp only [putL, List.set]) ?_
    refine d_pure tok rfl rfl (by dsimp only [putL, List.set]) ?_
    refine aops_nil ?_
    refine awp_seq ?_
    refine awp_seq ?_
    refine awp_region ?_
    refine d_pure tok rfl rfl (by dsimp only [putL, List.set]) ?_
    refine d_pure tok rfl rfl (by dsimp only [putL, List.set]) ?_
    refine d_split rfl (head_p tok rfl) (by dsimp only [putL, List.set]) (by dsimp only [putL, List.set]) (fun h22 => ?_) (fun h22 => ?_)
    · have he : i = xs.length := by have h := h22; simp at h; omega
      refine aops_nil ?_
      refine awp_cond_true rfl ?_
      refine awp_seq ?_
      refine awp_region ?_
      refine d_pure tok rfl rfl (by dsimp only [putL, List.set]) ?_
      refine d_pure tok rfl rfl (by dsimp only [putL, List.set]) ?_
      refine d_append (xs := xs) (ys := ys) tok rfl rfl rfl rfl rfl rfl rfl rfl (show srcOf _ (.own 1 ys.length) = some ys by simp [srcOf]) hy (fun el h => scal_all (hsy el h)) (by omega) (by omega) (by dsimp only [List.set, AV.cellsOf]) (by dsimp only [putL, List.set]) ?_
      refine d_pure tok rfl rfl (by dsimp only [putL, List.set]) ?_
      refine aops_nil ?_
      refine c_freeze 6 0 51 rfl rfl (len_of_flat (by rw [List.flatten_append]; exact underL_app hu huy)) (by rw [hB]; exact Nat.le_refl _) (by dsimp only [putL, List.set]) (by dsimp only [putL, List.set]) ?_
      refine awp_ret ?_
      exact qfun_of [] rfl rfl (weak_eq (congrArg AV.list (by subst he; simp))) rfl rfl
    · refine aops_nil ?_
      refine awp_cond_false rfl ?_
      refine awp_skip ?_
      refine awp_seq ?_
      refine awp_seq ?_
      have hlt : i < xs.length := by have h := h22; simp at h; omega
      refine c_learn' 0 0 51 rfl rfl (fun e => by subst e; simp at hlt) fun c hc cells hcells => ?_
      have hcl : cells.length = c * 51 := cells_len hx hc hcells
      dsimp only [List.set, HAppend.hAppend, Append.append, List.append, List.length_cons, List.length_nil, Nat.reduceAdd, putL]
      refine awp_region ?_
      refine d_pure tok rfl rfl (by dsimp only [putL, List.set]) ?_
      refine d_pure tok rfl rfl (by dsimp only [putL, List.set]) ?_
      refine d_head rfl (head_eq (head_p tok rfl) (nm64 (by omega))) (by dsimp only [putL, List.set]) ?_
      refine d_pure tok rfl rfl (by dsimp only [putL, List.set]) ?_
      refine d_head rfl (head_cap_win tok rfl rfl rfl rfl rfl) (by dsimp only [putL, List.set]) ?_
      refine d_split rfl (head_p tok rfl) (by dsimp only [putL, List.set]) (by dsimp only [putL, List.set]) (fun h31 => ?_) (fun h31 => ?_)
      · have hroom : c < xs.length + ys.length := by have h := h31; simp at h; omega
        refine aops_nil ?_
        refine awp_cond_true rfl ?_
        refine awp_seq ?_
        refine awp_region ?_
        refine d_pure tok rfl rfl (by dsimp only [putL, List.set]) ?_
        refine d_pure tok rfl rfl (by dsimp only [putL, List.set]) ?_
        refine d_head rfl (head_eq (head_slice_wine tok rfl rfl rfl rfl rfl rfl rfl rfl (by omega) (by omega) (by omega)) (show _ = .win 2 0 i c by simp only [Int.toNat_natCast, Int.toNat_zero]; (first | rw [if_neg (by omega)] | rw [ite_self]); congr 1 <;> omega)) (by dsimp only [putL, List.set]) ?_
        refine d_pure tok rfl rfl (by dsimp only [putL, List.set]) ?_
        refine d_pure tok rfl rfl (by dsimp only [putL, List.set]) ?_
        refine d_head rfl (head_eq (head_p tok rfl) (nm64 (by omega))) (by dsimp only [putL, List.set]) ?_
        refine d_pure tok rfl rfl (by dsimp only [putL, List.set]) ?_
        refine d_head rfl (head_eq (head_p tok rfl) (sub64 (by omega) (by omega))) (by dsimp only [putL, List.set]) ?_
        refine d_append_zeros' tok rfl rfl rfl rfl rfl rfl rfl rfl rfl rfl (by omega) (by decide) (by simp only; omega) (by omega) (by omega) (by simp only; omega) fun c2 hc2 cells2 hcells2 => ?_
        have hcl2 : cells2.length = c2 * 51 := cells2_len (head_part hx hcells i hi) (flat_split hx i hi).2.1 (by omega) hcells2
        dsimp only [List.set, HAppend.hAppend, Append.append, List.append, List.length_cons, List.length_nil, Nat.reduceAdd, putL]
        refine d_pure tok rfl rfl (by dsimp only [putL, List.set]) ?_
        refine aops_nil ?_
        refine awp_seq ?_
        refine awp_region ?_
        refine d_pure tok rfl rfl (by dsimp only [putL, List.set]) ?_
        refine d_pure tok rfl rfl (by dsimp only [putL, List.set]) ?_
        refine d_head rfl (head_eq (head_slice_wine tok rfl rfl rfl rfl rfl rfl rfl rfl (by omega) (by omega) (by omega)) (show _ = .win 3 (i * 51) (xs.length + ys.length - i) (c2 - i) by simp only [Int.toNat_natCast, Int.toNat_zero]; (first | rw [if_neg (by omega)] | rw [ite_self]); congr 1 <;> omega)) (by dsimp only [putL, List.set]) ?_
        refine d_pure tok rfl rfl (by dsimp only [putL, List.set]) ?_
        refine d_copy (m := ys.length) (src := ys.flatten) tok rfl rfl rfl rfl rfl rfl rfl (src_of (show srcOf _ (.own 1 ys.length) = some ys by simp [srcOf])) (by rw [flatten_len hy]; congr 1; exact (Nat.min_eq_left (by omega)).symm) (scal_flat hsy) (by rw [flatten_len hy]; omega) (by dsimp only [List.set, AV.cellsOf]) (by dsimp only [putL, List.set]) ?_
        refine aops_nil ?_
        refine awp_seq ?_
        refine awp_draw 8 mixed (by decide +kernel) ?_
        refine hk_pure tok rfl rfl (by dsimp only [putL, List.set]) ?_
        refine hk_pure tok rfl rfl (by dsimp only [putL, List.set]) ?_
        refine hk_pure tok rfl rfl (by dsimp only [putL, List.set]) ?_
        refine hk_head rfl (head_eq (head_p tok rfl) (nm64 (by omega))) (by dsimp only [putL, List.set]) ?_
        refine hk_head rfl (head_eq (head_slice_wine tok rfl rfl rfl rfl rfl rfl rfl rfl (by omega) (by omega) (by omega)) (show _ = .win 3 ((i + ys.length) * 51) (xs.length - i) (c2 - (i + ys.length)) by simp only [Int.toNat_natCast, Int.toNat_zero]; (first | rw [if_neg (by omega)] | rw [ite_self]); congr 1 <;> omega)) (by dsimp only [putL, List.set]) ?_
        refine hk_pure tok rfl rfl (by dsimp only [putL, List.set]) ?_
        refine hk_pure tok rfl rfl (by dsimp only [putL, List.set]) ?_
        refine hk_head rfl (head_eq (head_slice_wine tok rfl rfl rfl rfl rfl rfl rfl rfl (by omega) (by omega) (by omega)) (show _ = .win 2 (i * 51) (xs.length - i) (c - i) by simp only [Int.toNat_natCast, Int.toNat_zero]; (first | rw [if_neg (by omega)] | rw [ite_self]); congr 1 <;> omega)) (by dsimp only [putL, List.set]) ?_
        refine .nil ?_
        refine d_copy (m := xs.length - i) (src := (xs.drop i).flatten) tok rfl rfl rfl rfl rfl rfl rfl (part_eq hx hcells i hi ▸ src_win rfl) (by rw [(flat_split hx i hi).2.2]; congr 1; exact (Nat.min_eq_left (Nat.le_refl _)).symm) (scal_drop hs i) (by rw [(flat_split hx i hi).2.2, splice_length (by rw [flatten_len hy]; omega)]; omega) (by dsimp only [List.set, AV.cellsOf]) (by dsimp only [putL, List.set]) ?_
        refine aops_nil ?_
        refine awp_seq ?_
        refine awp_region ?_
        refine d_pure tok rfl rfl (by dsimp only [putL, List.set]) ?_
        refine d_pure tok rfl rfl (by dsimp only [putL, List.set]) ?_
        refine aops_nil ?_
        have hrl : (xs.take i ++ ys ++ xs.drop i).length = i + (xs.length + ys.length - i) := by simp; omega
        refine c_freeze_win (rows := xs.take i ++ ys ++ xs.drop i) 6 3 0 51 c2 (by rw [hrl]; rfl) rfl (rows_len hx hy i) (ins_grow hx hy hcells i hi (by omega) hcells2) (by omega) (rows_under hu huy i) (by rw [hB]; exact Nat.le_of_ble_eq_true rfl) (by dsimp only [putL, List.set]) (by dsimp only [putL, List.set]) ?_
        refine awp_ret ?_
        exact qfun_of _ rfl rfl (Weak.refl _) rfl rfl
      · have hroom : xs.length + ys.length ≤ c := by have h := h31; simp at h; omega
        refine aops_nil ?_
        refine awp_cond_false rfl ?_
        refine awp_skip ?_
        refine awp_seq ?_
        refine awp_region ?_
        refine d_pure tok rfl rfl (by dsimp only [putL, List.set]) ?_
        refine d_pure tok rfl rfl (by dsimp only [putL, List.set]) ?_
        refine d_pure tok rfl rfl (by dsimp only [putL, List.set]) ?_
        refine d_head rfl (head_eq (head_p tok rfl) (nm64 (by omega))) (by dsimp only [putL, List.set]) ?_
        refine d_head rfl (head_eq (head_slice_wine tok rfl rfl rfl rfl rfl rfl rfl rfl (by omega) (by omega) (by omega)) (show _ = .win 2 0 (xs.length + ys.length) c by simp only [Int.toNat_natCast, Int.toNat_zero]; (first | rw [if_neg (by omega)] | rw [ite_self]); congr 1 <;> omega)) (by dsimp only [putL, List.set]) ?_
        refine d_pure tok rfl rfl (by dsimp only [putL, List.set]) ?_
        refine aops_nil ?_
        refine awp_seq ?_
        refine awp_seq ?_
        refine awp_region ?_
        refine d_pure tok rfl rfl (by dsimp only [putL, List.set]) ?_
        refine d_pure tok rfl rfl (by dsimp only [putL, List.set]) ?_
        refine d_pure tok rfl rfl (by dsimp only [putL, List.set]) ?_
        refine d_pure tok rfl rfl (by dsimp only [putL, List.set]) ?_
        refine d_head rfl (head_eq (head_p tok rfl) (nm64 (by omega))) (by dsimp only [putL, List.set]) ?_
        refine d_head rfl (head_eq (head_slice_wine tok rfl rfl rfl rfl rfl rfl rfl rfl (by omega) (by omega) (by omega)) (show _ = .win 2 ((i + ys.length) * 51) (xs.length - i) (c - (i + ys.length)) by simp only [Int.toNat_natCast, Int.toNat_zero]; (first | rw [if_neg (by omega)] | rw [ite_self]); congr 1 <;> omega)) (by dsimp only [putL, List.set]) ?_
        refine d_overlaps (t := 58) (tr := 4) rfl rfl rfl (by decide +kernel) rfl (by kernel_rfl) (by kernel_rfl) tok rfl rfl rfl rfl rfl hne rfl rfl (by decide) (by omega) (by dsimp only [putL, List.set]) ?_
        refine d_pure tok rfl rfl (by dsimp only [putL, List.set]) ?_
        refine aops_nil ?_
        refine awp_cond_true rfl ?_
        refine awp_seq ?_
        refine awp_draw 8 mixed (by decide +kernel) ?_
        refine hk_pure tok rfl rfl (by dsimp only [putL, List.set]) ?_
        refine hk_pure tok rfl rfl (by dsimp only [putL, List.set]) ?_
        refine hk_pure tok rfl rfl (by dsimp only [putL, List.set]) ?_
        refine hk_head rfl (head_eq (head_p tok rfl) (nm64 (by omega))) (by dsimp only [putL, List.set]) ?_
        refine hk_head rfl (head_eq (head_slice_wine tok rfl rfl rfl rfl rfl rfl rfl rfl (by omega) (by omega) (by omega)) (show _ = .win 2 ((i + ys.length) * 51) (xs.length - i) (c - (i + ys.length)) by simp only [Int.toNat_natCast, Int.toNat_zero]; (first | rw [if_neg (by omega)] | rw [ite_self]); congr 1 <;> omega)) (by dsimp only [putL, List.set]) ?_
        refine hk_pure tok rfl rfl (by dsimp only [putL, List.set]) ?_
        refine hk_pure tok rfl rfl (by dsimp only [putL, List.set]) ?_
        refine hk_head rfl (head_eq (head_slice_wine tok rfl rfl rfl rfl rfl rfl rfl rfl (by omega) (by omega) (by omega)) (show _ = .win 2 (i * 51) (xs.length + ys.length - i) (c - i) by simp only [Int.toNat_natCast, Int.toNat_zero]; (first | rw [if_neg (by omega)] | rw [ite_self]); congr 1 <;> omega)) (by dsimp only [putL, List.set]) ?_
        refine .nil ?_
        refine d_copy (m := xs.length + ys.length - i) (src := (xs.drop i).flatten) tok rfl rfl rfl rfl rfl rfl rfl (part_eq hx hcells i hi ▸ src_win rfl) (by rw [(flat_split hx i hi).2.2]; congr 1; exact (Nat.min_eq_right (by omega)).symm) (scal_drop hs i) (by rw [(flat_split hx i hi).2.2]; omega) (by dsimp only [List.set, AV.cellsOf]) (by dsimp only [putL, List.set]) ?_
        refine aops_nil ?_
        refine awp_seq ?_
        refine awp_region ?_
        refine d_pure tok rfl rfl (by dsimp only [putL, List.set]) ?_
        refine d_pure tok rfl rfl (by dsimp only [putL, List.set]) ?_
        refine d_head rfl (head_eq (head_slice_wine tok rfl rfl rfl rfl rfl rfl rfl rfl (by omega) (by omega) (by omega)) (show _ = .win 2 (i * 51) (xs.length + ys.length - i) (c - i) by simp only [Int.toNat_natCast, Int.toNat_zero]; (first | rw [if_neg (by omega)] | rw [ite_self]); congr 1 <;> omega)) (by dsimp only [putL, List.set]) ?_
        refine d_pure tok rfl rfl (by dsimp only [putL, List.set]) ?_
        refine d_copy (m := ys.length) (src := ys.flatten) tok rfl rfl rfl rfl rfl rfl rfl (src_of (show srcOf _ (.own 1 ys.length) = some ys by simp [srcOf])) (by rw [flatten_len hy]; congr 1; exact (Nat.min_eq_left (by omega)).symm) (scal_flat hsy) (by rw [flatten_len hy, splice_length (by rw [(flat_split hx i hi).2.2]; omega)]; omega) (by dsimp only [List.set, AV.cellsOf]) (by dsimp only [putL, List.set]) ?_
        refine aops_nil ?_
        refine awp_seq ?_
        refine awp_region ?_
        refine d_pure tok rfl rfl (by dsimp only [putL, List.set]) ?_
        refine d_pure tok rfl rfl (by dsimp only [putL, List.set]) ?_
        refine aops_nil ?_
        have hrl : (xs.take i ++ ys ++ xs.drop i).length = xs.length + ys.length := by simp; omega
        refine c_freeze_win (rows := xs.take i ++ ys ++ xs.drop i) 6 2 0 51 c (by rw [hrl]; rfl) rfl (rows_len hx hy i) (ins_place hx hy hroom hcells i hi) (by omega) (rows_under hu huy i) (by rw [hB]; exact Nat.le_of_ble_eq_true rfl) (by dsimp only [putL, List.set]) (by dsimp only [putL, List.set]) ?_
        refine awp_ret ?_
        exact qfun_of _ rfl rfl (Weak.refl _) rfl rfl

theorem delete_obj_spec (xs : List (List AV)) (i k : Nat) (hx : ∀ el ∈ xs, el.length = 51) (hs : ∀ el ∈ xs, el.all AV.scal = true) (hu : AV.underL 0 xs.flatten = true) (hi : i ≤ k) (hk : k ≤ xs.length) (hl : xs.length < 4611686018427387904) : ACall Try.prog 142 [.own 0 xs.length, .int .i64 i, .int .i64 k] [some (.row xs 51 57)] (.ret (.list (xs.take i ++ xs.drop k))) [none] := by
  refine d_intro_h Try.func142 rfl (by decide +kernel) ok_n (Nat.le_refl _) (ts := [.own 0 xs.length, .int .i64 i, .int .i64 k, .undef, .undef, .undef, .undef, .undef, .undef, .undef, .undef, .undef, .undef, .undef, .undef, .undef, .undef, .undef, .undef, .undef, .undef, .undef, .undef, .undef, .undef, .undef, .undef, .undef, .undef, .undef, .undef, .undef, .undef]) rfl fun B hB => ?_
  refine awp_seq ?_
  refine awp_region ?_
  refine d_pure tok rfl rfl (by dsimp only [putL, List.set]) ?_
  refine aops_nil ?_
  refine awp_seq ?_
  refine awp_region ?_
  refine d_pure tok rfl rfl (by dsimp only [putL, List.set]) ?_
  refine d_pure tok rfl rfl (by dsimp only [putL, List.set]) ?_
  refine d_pure tok rfl rfl (by dsimp only [putL, List.set]) ?_
  refine d_pure tok rfl rfl (by dsimp only [putL, List.set]) ?_
  refine d_head rfl (head_len_own tok rfl rfl rfl rfl rfl) (by dsimp only [putL, List.set]) ?_
  refine d_head rfl (head_slice_any3 tok rfl rfl rfl rfl rfl rfl rfl rfl rfl (by omega) (by omega) (by omega) (by omega)) (by dsimp only [putL, List.set]) ?_
  refine aops_nil ?_
  refine awp_seq ?_
  refine awp_seq ?_
  refine awp_region ?_
  refine d_pure tok rfl rfl (by dsimp only [putL, List.set]) ?_
  refine d_pure tok rfl rfl (by dsimp only [putL, List.set]) ?_
  refine d_split rfl (head_p tok rfl) (by dsimp only [putL, List.set]) (by dsimp only [putL, List.set]) (fun h16 => ?_) (fun h16 => ?_)
  · have he : i = k := by have h := h16; simp at h; omega
    refine aops_nil ?_
    refine awp_cond_true rfl ?_
    refine awp_seq ?_
    refine awp_region ?_
    refine d_pure tok rfl rfl (by dsimp only [putL, List.set]) ?_
    refine d_pure tok rfl rfl (by dsimp only [putL, List.set]) ?_
    refine aops_nil ?_
    refine c_freeze 6 0 51 rfl rfl (len_of_flat hu) (by rw [hB]; exact Nat.le_refl _) (by dsimp only [putL, List.set]) (by dsimp only [putL, List.set]) ?_
    refine awp_ret ?_
    exact qfun_of [] rfl rfl (weak_eq (congrArg AV.list (by subst he; simp))) rfl rfl
  · have hlt : i < k := by have h := h16; simp at h; omega
    refine aops_nil ?_
    refine awp_cond_false rfl ?_
    refine awp_skip ?_
    refine awp_seq ?_
    refine awp_region ?_
    refine d_pure tok rfl rfl (by dsimp only [putL, List.set]) ?_
    refine d_head rfl (head_len_own tok rfl rfl rfl rfl rfl) (by dsimp only [putL, List.set]) ?_
    refine d_pure tok rfl rfl (by dsimp only [putL, List.set]) ?_
    refine aops_nil ?_
    refine awp_seq ?_
    refine c_learn' 0 0 51 rfl rfl (fun e => by subst e; simp at hk; omega) fun c hc cells hcells => ?_
    have hcl : cells.length = c * 51 := cells_len hx hc hcells
    dsimp only [List.set, HAppend.hAppend, Append.append, List.append, List.length_cons, List.length_nil, Nat.reduceAdd, putL]
    refine awp_draw 6 mixed (by decide +kernel) ?_
    refine hk_pure tok rfl rfl (by dsimp only [putL, List.set]) ?_
    refine hk_pure tok rfl rfl (by dsimp only [putL, List.set]) ?_
    refine hk_head rfl (head_eq (head_slice_wine tok rfl rfl rfl rfl rfl rfl rfl rfl (by omega) (by omega) (by omega)) (show _ = .win 1 0 i c by simp only [Int.toNat_natCast, Int.toNat_zero]; (first | rw [if_neg (by omega)] | rw [ite_self]); congr 1 <;> omega)) (by dsimp only [putL, List.set]) ?_
    refine hk_pure tok rfl rfl (by dsimp only [putL, List.set]) ?_
    refine hk_pure tok rfl rfl (by dsimp only [putL, List.set]) ?_
    refine hk_head rfl (head_eq (head_slice_wine tok rfl rfl rfl rfl rfl rfl rfl rfl (by omega) (by omega) (by omega)) (show _ = .win 1 (if c = k then 0 else 0 + k * 51) (xs.length - k) (c - k) by simp only [Int.toNat_natCast])) (by dsimp only [putL, List.set]) ?_
    refine .nil ?_
    refine d_append_win (m := xs.length - k) (src := (xs.drop k).flatten) tok rfl rfl rfl rfl rfl rfl rfl (part_eq hx hcells k hk ▸ src_wine0 rfl (by omega)) (flat_split hx k hk).2.2 (scal_drop hs k) (by omega) (by rw [(flat_split hx k hk).2.2]; simp only; omega) (by dsimp only [List.set, AV.cellsOf]) (by dsimp only [putL, List.set]) ?_
    refine d_pure tok rfl rfl (by dsimp only [putL, List.set]) ?_
    refine aops_nil ?_
    refine awp_seq ?_
    refine awp_region ?_
    refine d_pure tok rfl rfl (by dsimp only [putL, List.set]) ?_
    refine d_pure tok rfl rfl (by dsimp only [putL, List.set]) ?_
    refine d_head rfl (head_len_win tok rfl rfl rfl rfl rfl) (by dsimp only [putL, List.set]) ?_
    refine d_pure tok rfl rfl (by dsimp only [putL, List.set]) ?_
    refine d_head rfl (head_eq (head_slice_wine tok rfl rfl rfl rfl rfl rfl rfl rfl (by omega) (by omega) (by omega)) (show _ = .win 1 ((i + (xs.length - k)) * 51) (k - i) (c - (i + (xs.length - k))) by simp only [Int.toNat_natCast, Int.toNat_zero]; (first | rw [if_neg (by omega)] | rw [ite_self]); congr 1 <;> omega)) (by dsimp only [putL, List.set]) ?_
    refine d_clear_win tok rfl rfl rfl rfl rfl rfl rfl rfl (fun _ => by rw [splice_length (by rw [(flat_split hx k hk).2.2]; omega)]; simp only; omega) (fun h => by omega) (by dsimp only [List.set, AV.cellsOf]) ?_
    refine aops_nil ?_
    refine awp_seq ?_
    refine awp_region ?_
    refine d_pure tok rfl rfl (by dsimp only [putL, List.set]) ?_
    refine d_pure tok rfl rfl (by dsimp only [putL, List.set]) ?_
    refine aops_nil ?_
    have hrl : (xs.take i ++ xs.drop k).length = i + (xs.length - k) := by simp; omega
    refine c_freeze_win (rows := xs.take i ++ xs.drop k) 6 1 0 51 c (by rw [hrl]; rfl) rfl (fun el he => (List.mem_append.1 he).elim (fun h => hx el (List.mem_of_mem_take h)) fun h => hx el (List.mem_of_mem_drop h)) (del_place hx hc hcells i k hi hk rfl) (by omega) (fun el he => (List.mem_append.1 he).elim (fun h => len_of_flat hu el (List.mem_of_mem_take h)) fun h => len_of_flat hu el (List.mem_of_mem_drop h)) (by rw [hB]; exact Nat.le_of_ble_eq_true rfl) (by dsimp only [putL, List.set]) (by dsimp only [putL, List.set]) ?_
    refine awp_ret ?_
    exact qfun_of _ rfl rfl (Weak.refl _) rfl rfl

end Go.Proofs.Ytpckfpahmnhfcaa.F
