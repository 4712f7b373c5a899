/- Walks of the layer of pages, on. Printed by wip/gen/walk.py out of wip/gen/spec_pages2.py. -/
import Derived.Test.YtpckfpahmnhfcaaP1
import Derived.Test.YtpckfpahmnhfcaaS1
import Derived.Test.YtpckfpahmnhfcaaG17
namespace Go.Proofs.Ytpckfpahmnhfcaa.F
open Go Go.RowKit Go.Proofs.Ytpckfpahmnhfcaa.G
set_option linter.unusedVariables false
set_option linter.unusedSimpArgs false
set_option maxRecDepth 20000
set_option maxHeartbeats 4000000

theorem one_sc {x : MapD} : ∀ el ∈ [encMap x], el.all AV.scal = true := fun el he => by simp at he; subst he; rfl
theorem flat2r {xs : List MapD} {m : MapD} {e : TypeId} : flatH [some (.row (xs.map encMap) 6 e), some (.row [encMap m] 6 e)] := fun k B hk => by
  match k, hk with
  | 0, hk => simp at hk; subst hk; exact enc_under
  | 1, hk => simp at hk; subst hk; rfl
  | k + 2, hk => simp at hk
theorem flat2n {m : MapD} {e : TypeId} : flatH [none, some (.row [encMap m] 6 e)] := fun k B hk => by
  match k, hk with
  | 0, hk => simp at hk
  | 1, hk => simp at hk; subst hk; rfl
  | k + 2, hk => simp at hk

theorem ok_vr {cs : List AV} {xs : List (List AV)} {sz : Nat} {e : TypeId} (h : AV.underL 0 cs = true) (h2 : AV.underL 0 xs.flatten = true) : AHeap.ok [some (.var cs), some (.row xs sz e)] := fun k B hk => by
  match k, hk with
  | 0, hk => simp at hk; subst hk; exact underL_mono (Nat.zero_le _) _ h
  | 1, hk => simp at hk; subst hk; exact underL_mono (Nat.zero_le _) _ h2
  | k + 2, hk => simp at hk

theorem flat1r {xs : List MapD} {e : TypeId} : flatH [some (.row (xs.map encMap) 6 e)] := fun k B hk => by
  have hlt := (List.getElem?_eq_some_iff.1 hk).1
  have : k = 0 := by simp at hlt; exact hlt
  subst this
  simp at hk; subst hk; exact enc_under
theorem flat1n : flatH [none] := fun k B hk => by
  have hlt := (List.getElem?_eq_some_iff.1 hk).1
  have : k = 0 := by simp at hlt; exact hlt
  subst this
  simp at hk

theorem put1_spec (m x : MapD) : PCall Try.prog 70 [.agg (encMap x), .fptr (encMap m)] (.bool (meetsL m x)) := by
  refine d_intro Try.func70 rfl (by decide +kernel) (ts := [.agg (encMap x), .fptr (encMap m), .undef, .undef, .undef, .undef, .undef]) rfl fun B hB => ?_
  refine awp_seq ?_
  refine awp_region ?_
  refine d_new rfl (head_box 0 rfl rfl) (by dsimp only [putL, List.set]) (by dsimp only [List.append, HAppend.hAppend, Append.append]) ?_
  refine d_pure tok rfl rfl (by dsimp only [putL, List.set]) ?_
  refine aops_nil ?_
  refine awp_seq ?_
  refine awp_region ?_
  refine d_pure tok rfl rfl (by dsimp only [putL, List.set]) ?_
  refine d_pure tok rfl rfl (by dsimp only [putL, List.set]) ?_
  refine d_head rfl (head_call rfl rfl rfl rfl (meets_spec m x)) (by dsimp only [putL, List.set]) ?_
  refine d_pure tok rfl rfl (by dsimp only [putL, List.set]) ?_
  refine aops_nil ?_
  refine awp_ret ?_
  exact qfun_ret rfl rfl (Weak.refl _) rfl

theorem ends1_spec (x : MapD) : PCall Try.prog 120 [.agg (encMap x), .fptr [.fn 66 [] []]] (.int .i64 (endL x)) := by
  refine d_intro Try.func120 rfl (by decide +kernel) (ts := [.agg (encMap x), .fptr [.fn 66 [] []], .undef, .undef, .undef, .undef, .undef]) rfl fun B hB => ?_
  refine awp_seq ?_
  refine awp_region ?_
  refine d_new rfl (head_box 0 rfl rfl) (by dsimp only [putL, List.set]) (by dsimp only [List.append, HAppend.hAppend, Append.append]) ?_
  refine d_pure tok rfl rfl (by dsimp only [putL, List.set]) ?_
  refine aops_nil ?_
  refine awp_seq ?_
  refine awp_region ?_
  refine d_pure tok rfl rfl (by dsimp only [putL, List.set]) ?_
  refine d_pure tok rfl rfl (by dsimp only [putL, List.set]) ?_
  refine d_head rfl (head_callp (end_spec x) rfl rfl rfl rfl) (by dsimp only [putL, List.set]) ?_
  refine d_pure tok rfl rfl (by dsimp only [putL, List.set]) ?_
  refine aops_nil ?_
  refine awp_ret ?_
  exact qfun_ret rfl rfl (Weak.refl _) rfl

theorem ends_spec  : PCall Try.prog 77 [.fn 66 [] []] (.fn 120 [] [.fptr [.fn 66 [] []]]) := by
  refine d_intro Try.func77 rfl (by decide +kernel) (ts := [.fn 66 [] [], .undef, .undef, .undef]) rfl fun B hB => ?_
  refine awp_seq ?_
  refine awp_region ?_
  refine d_new rfl (head_box 0 rfl rfl) (by dsimp only [putL, List.set]) (by dsimp only [List.append, HAppend.hAppend, Append.append]) ?_
  refine d_pure tok rfl rfl (by dsimp only [putL, List.set]) ?_
  refine aops_nil ?_
  refine awp_seq ?_
  refine awp_region ?_
  refine d_pure tok rfl rfl (by dsimp only [putL, List.set]) ?_
  refine d_pure tok rfl rfl (by dsimp only [putL, List.set]) ?_
  refine aops_nil ?_
  refine c_freeze_var 0 rfl rfl (by rw [hB]; exact Nat.zero_le _) (by dsimp only [AV.frzL, AV.frz, Nat.beq, List.drop]) (by dsimp only [putL, List.set]) ?_
  refine awp_ret ?_
  exact qfun_ret rfl rfl (Weak.refl _) rfl

theorem drop_spec (l : List MapD) (from_ : Int) (hl : l.length < 1000000000) (hm : l.Pairwise fun x y => x.va ≤ y.va) : PCall Try.prog 20 [.list (l.map encMap), .int .i64 from_] (encList (dropP l from_)) := by
  refine d_intro Try.func20 rfl (by decide +kernel) (ts := [.list (l.map encMap), .int .i64 from_, .undef, .undef, .undef, .undef, .undef, .undef, .undef, .undef, .undef, .undef, .undef, .undef, .undef, .undef, .undef, .undef, .undef, .undef, .undef, .undef, .undef, .undef, .undef, .undef, .undef, .undef, .undef, .undef]) rfl fun B hB => ?_
  refine awp_seq ?_
  refine awp_region ?_
  refine d_pure tok rfl rfl (by dsimp only [putL, List.set]) ?_
  refine d_pure tok rfl rfl (by dsimp only [putL, List.set]) ?_
  refine aops_nil ?_
  refine awp_seq ?_
  refine awp_region ?_
  refine d_pure tok rfl rfl (by dsimp only [putL, List.set]) ?_
  refine d_pure tok rfl rfl (by dsimp only [putL, List.set]) ?_
  refine d_head rfl (head_call rfl rfl rfl rfl (at_spec l from_ 75 [] (·.va) rfl (fun x _ => va_spec x) (by omega) hm)) (by dsimp only [putL, List.set]) ?_
  refine d_pure tok rfl rfl (by dsimp only [putL, List.set]) ?_
  refine aops_nil ?_
  refine awp_seq ?_
  refine awp_seq ?_
  refine awp_region ?_
  refine d_pure tok rfl rfl (by dsimp only [putL, List.set]) ?_
  refine d_pure tok rfl rfl (by dsimp only [putL, List.set]) ?_
  refine d_pure tok rfl rfl (by dsimp only [putL, List.set]) ?_
  refine d_split rfl (head_p tok rfl) (by dsimp only [putL, List.set]) (by dsimp only [putL, List.set]) (fun h13 => ?_) (fun h13 => ?_)
  · have hk : atL (·.va) l from_ = l.length := by have h := h13; simp at h; omega
    have hx : l[atL (·.va) l from_]? = none := by rw [hk]; simp
    refine d_pure tok rfl rfl (by dsimp only [putL, List.set]) ?_
    refine d_skip rfl (by dsimp only [putL, List.set]) ?_
    refine d_skip rfl (by dsimp only [putL, List.set]) ?_
    refine d_skip rfl (by dsimp only [putL, List.set]) ?_
    refine d_skip rfl (by dsimp only [putL, List.set]) ?_
    refine d_skip rfl (by dsimp only [putL, List.set]) ?_
    refine d_skip rfl (by dsimp only [putL, List.set]) ?_
    refine d_skip rfl (by dsimp only [putL, List.set]) ?_
    refine d_pure tok rfl rfl (by dsimp only [putL, List.set]) ?_
    refine aops_nil ?_
    refine awp_cond_true rfl ?_
    refine awp_seq ?_
    refine awp_region ?_
    refine d_pure tok rfl rfl (by dsimp only [putL, List.set]) ?_
    refine d_pure tok rfl rfl (by dsimp only [putL, List.set]) ?_
    refine d_pure tok rfl rfl (by dsimp only [putL, List.set]) ?_
    refine aops_nil ?_
    refine awp_ret ?_
    exact qfun_ret rfl rfl (weak_eq (by simp [dropP, encList, hx])) rfl
  · have hk : atL (·.va) l from_ < l.length := by have h := h13; have := at_le (·.va) l from_; simp at h; omega
    obtain ⟨x, hx⟩ := get_lt hk
    refine d_pure tok rfl rfl (by dsimp only [putL, List.set]) ?_
    refine d_pure tok rfl rfl (by dsimp only [putL, List.set]) ?_
    refine d_pure tok rfl rfl (by dsimp only [putL, List.set]) ?_
    refine d_head rfl (head_index_list tok rfl rfl rfl rfl rfl rfl (Int.natCast_nonneg _) (get_map hx) rfl) (by dsimp only [putL, List.set]) ?_
    refine d_pure tok rfl rfl (by dsimp only [putL, List.set]) ?_
    refine d_pure tok rfl rfl (by dsimp only [putL, List.set]) ?_
    refine d_pure tok rfl rfl (by dsimp only [putL, List.set]) ?_
    refine d_pure tok rfl rfl (by dsimp only [putL, List.set]) ?_
    refine d_split rfl (head_p tok rfl) (by dsimp only [putL, List.set]) (by dsimp only [putL, List.set]) (fun h22 => ?_) (fun h22 => ?_)
    · refine aops_nil ?_
      refine awp_cond_true rfl ?_
      refine awp_seq ?_
      refine awp_region ?_
      refine d_pure tok rfl rfl (by dsimp only [putL, List.set]) ?_
      refine d_pure tok rfl rfl (by dsimp only [putL, List.set]) ?_
      refine d_pure tok rfl rfl (by dsimp only [putL, List.set]) ?_
      refine aops_nil ?_
      refine awp_ret ?_
      exact qfun_ret rfl rfl (weak_eq (by simp at h22; simp [dropP, encList, hx, h22])) rfl
    · refine aops_nil ?_
      refine awp_cond_false rfl ?_
      refine awp_skip ?_
      refine awp_seq ?_
      refine awp_region ?_
      refine d_pure tok rfl rfl (by dsimp only [putL, List.set]) ?_
      refine d_new rfl (head_ocall 0 (clone_map_spec (l.map encMap) enc_len enc_scal enc_under (by rw [List.length_map]; omega)) rfl enc_under rfl rfl rfl) (by dsimp only [putL, List.set]) (by dsimp only [List.append, HAppend.hAppend, Append.append]) ?_
      refine d_pure tok rfl rfl (by dsimp only [putL, List.set]) ?_
      refine d_pure tok rfl rfl (by dsimp only [putL, List.set]) ?_
      refine d_head rfl (head_eq (head_p tok rfl) (succ64' (n := 1000000001) (by omega) (by omega))) (by dsimp only [putL, List.set]) ?_
      refine d_call (h0 := [some (.row (l.map encMap) 6 25)]) (h0' := [none]) [0] (delete_map_spec (l.map encMap) (atL (·.va) l from_) (atL (·.va) l from_ + 1) enc_len enc_scal enc_under (by omega) (by rw [List.length_map]; omega) (by rw [List.length_map]; omega)) rfl rfl (by decide) flat1r flat1n rfl rfl rfl rfl rfl rfl rfl (by dsimp only [updH, List.set]) (by dsimp only [putL, List.set, AV.ren]) ?_
      refine d_pure tok rfl rfl (by dsimp only [putL, List.set]) ?_
      refine d_pure tok rfl rfl (by dsimp only [putL, List.set]) ?_
      refine aops_nil ?_
      refine awp_ret ?_
      exact qfun_ret rfl rfl (weak_eq (by simp at h22; simp [dropP, encList, hx, h22])) rfl

theorem find_spec (l : List MapD) (page : Int) (hl : l.length < 4611686018427387904) (hm : l.Pairwise fun x y => endL x ≤ endL y) : PCall Try.prog 22 [.list (l.map encMap), .int .i64 page] (encFind (findP l page)) := by
  refine d_intro Try.func22 rfl (by decide +kernel) (ts := [.list (l.map encMap), .int .i64 page, .undef, .undef, .undef, .undef, .undef, .undef, .undef, .undef, .undef, .undef, .undef, .undef, .undef, .undef, .undef, .undef, .undef, .undef, .undef, .undef, .undef, .undef, .undef, .undef, .undef, .undef, .undef, .undef, .undef, .undef, .undef, .undef, .undef, .undef, .undef, .undef, .undef, .undef, .undef, .undef, .undef, .undef, .undef, .undef, .undef, .undef, .undef, .undef, .undef]) rfl fun B hB => ?_
  refine awp_seq ?_
  refine awp_region ?_
  refine d_new rfl (head_alloc tok 0 rfl rfl) (by dsimp only [putL, List.set]) (by dsimp only [List.append, HAppend.hAppend, Append.append]) ?_
  refine d_pure tok rfl rfl (by dsimp only [putL, List.set]) ?_
  refine d_pure tok rfl rfl (by dsimp only [putL, List.set]) ?_
  refine aops_nil ?_
  refine awp_seq ?_
  refine awp_seq ?_
  refine awp_region ?_
  refine d_pure tok rfl rfl (by dsimp only [putL, List.set]) ?_
  refine d_split rfl (head_p tok rfl) (by dsimp only [putL, List.set]) (by dsimp only [putL, List.set]) (fun h9 => ?_) (fun h9 => ?_)
  · refine aops_nil ?_
    refine awp_cond_true rfl ?_
    refine awp_seq ?_
    refine awp_region ?_
    refine d_head rfl (head_build tok rfl rfl rfl rfl rfl rfl) (by dsimp only [putL, List.set]) ?_
    refine d_store_all tok rfl rfl rfl rfl rfl rfl rfl rfl rfl (by dsimp only [List.set, AV.cellsOf]) (by dsimp only [putL, List.set]) ?_
    refine d_pure tok rfl rfl (by dsimp only [putL, List.set]) ?_
    refine d_pure tok rfl rfl (by dsimp only [putL, List.set]) ?_
    refine aops_nil ?_
    refine awp_ret ?_
    exact qfun_cells tok rfl rfl rfl (weak_eq (show encFind noMap = encFind (findP l page) by unfold findP; rw [if_pos (by simpa using h9)])) rfl
  · refine aops_nil ?_
    refine awp_cond_false rfl ?_
    refine awp_skip ?_
    refine awp_seq ?_
    refine awp_region ?_
    refine d_pure tok rfl rfl (by dsimp only [putL, List.set]) ?_
    refine d_pure tok rfl rfl (by dsimp only [putL, List.set]) ?_
    refine d_pure tok rfl rfl (by dsimp only [putL, List.set]) ?_
    refine d_head rfl (head_call rfl rfl rfl rfl ends_spec) (by dsimp only [putL, List.set]) ?_
    refine d_head rfl (head_call rfl rfl rfl rfl (at_spec l (w64 (page + 1)) 120 [.fptr [.fn 66 [] []]] endL rfl (fun x _ => ends1_spec x) hl hm)) (by dsimp only [putL, List.set]) ?_
    refine d_pure tok rfl rfl (by dsimp only [putL, List.set]) ?_
    refine aops_nil ?_
    refine awp_seq ?_
    refine awp_seq ?_
    refine awp_region ?_
    refine d_pure tok rfl rfl (by dsimp only [putL, List.set]) ?_
    refine d_split rfl (head_p tok rfl) (by dsimp only [putL, List.set]) (by dsimp only [putL, List.set]) (fun h17 => ?_) (fun h17 => ?_)
    · refine d_pure tok rfl rfl (by dsimp only [putL, List.set]) ?_
      refine d_skip rfl (by dsimp only [putL, List.set]) ?_
      refine d_skip rfl (by dsimp only [putL, List.set]) ?_
      refine d_skip rfl (by dsimp only [putL, List.set]) ?_
      refine d_skip rfl (by dsimp only [putL, List.set]) ?_
      refine d_pure tok rfl rfl (by dsimp only [putL, List.set]) ?_
      refine d_pure tok rfl rfl (by dsimp only [putL, List.set]) ?_
      refine d_skip rfl (by dsimp only [putL, List.set]) ?_
      refine d_skip rfl (by dsimp only [putL, List.set]) ?_
      refine d_skip rfl (by dsimp only [putL, List.set]) ?_
      refine d_skip rfl (by dsimp only [putL, List.set]) ?_
      refine d_skip rfl (by dsimp only [putL, List.set]) ?_
      refine d_skip rfl (by dsimp only [putL, List.set]) ?_
      refine d_skip rfl (by dsimp only [putL, List.set]) ?_
      refine d_pure tok rfl rfl (by dsimp only [putL, List.set]) ?_
      refine aops_nil ?_
      refine awp_cond_true rfl ?_
      refine awp_seq ?_
      refine awp_region ?_
      refine d_head rfl (head_build tok rfl rfl rfl rfl rfl rfl) (by dsimp only [putL, List.set]) ?_
      refine d_store_all tok rfl rfl rfl rfl rfl rfl rfl rfl rfl (by dsimp only [List.set, AV.cellsOf]) (by dsimp only [putL, List.set]) ?_
      refine d_pure tok rfl rfl (by dsimp only [putL, List.set]) ?_
      refine d_pure tok rfl rfl (by dsimp only [putL, List.set]) ?_
      refine aops_nil ?_
      refine awp_ret ?_
      exact qfun_cells tok rfl rfl rfl (weak_eq (show encFind noMap = encFind (findP l page) by unfold findP; rw [if_neg (by simpa using h9), if_pos (by simpa using h17)])) rfl
    · refine d_pure tok rfl rfl (by dsimp only [putL, List.set]) ?_
      refine d_pure tok rfl rfl (by dsimp only [putL, List.set]) ?_
      refine d_pure tok rfl rfl (by dsimp only [putL, List.set]) ?_
      refine d_pure tok rfl rfl (by dsimp only [putL, List.set]) ?_
      refine d_pure tok rfl rfl (by dsimp only [putL, List.set]) ?_
      refine d_split rfl (head_p tok rfl) (by dsimp only [putL, List.set]) (by dsimp only [putL, List.set]) (fun h23 => ?_) (fun h23 => ?_)
      · have hk : atL endL l (w64 (page + 1)) = l.length := by have h := h23; simp [w64] at h ⊢; omega
        have hx : l[atL endL l (w64 (page + 1))]? = none := by rw [hk]; simp
        refine d_pure tok rfl rfl (by dsimp only [putL, List.set]) ?_
        refine d_skip rfl (by dsimp only [putL, List.set]) ?_
        refine d_skip rfl (by dsimp only [putL, List.set]) ?_
        refine d_skip rfl (by dsimp only [putL, List.set]) ?_
        refine d_skip rfl (by dsimp only [putL, List.set]) ?_
        refine d_skip rfl (by dsimp only [putL, List.set]) ?_
        refine d_skip rfl (by dsimp only [putL, List.set]) ?_
        refine d_skip rfl (by dsimp only [putL, List.set]) ?_
        refine d_pure tok rfl rfl (by dsimp only [putL, List.set]) ?_
        refine aops_nil ?_
        refine awp_cond_true rfl ?_
        refine awp_seq ?_
        refine awp_region ?_
        refine d_head rfl (head_build tok rfl rfl rfl rfl rfl rfl) (by dsimp only [putL, List.set]) ?_
        refine d_store_all tok rfl rfl rfl rfl rfl rfl rfl rfl rfl (by dsimp only [List.set, AV.cellsOf]) (by dsimp only [putL, List.set]) ?_
        refine d_pure tok rfl rfl (by dsimp only [putL, List.set]) ?_
        refine d_pure tok rfl rfl (by dsimp only [putL, List.set]) ?_
        refine aops_nil ?_
        refine awp_ret ?_
        exact qfun_cells tok rfl rfl rfl (weak_eq (show encFind noMap = encFind (findP l page) by unfold findP; rw [if_neg (by simpa using h9), if_neg (by simpa using h17), hx])) rfl
      · have hk : atL endL l (w64 (page + 1)) < l.length := by have h := h23; have := at_le endL l (w64 (page + 1)); simp [w64] at h this ⊢; omega
        obtain ⟨x, hx⟩ := get_lt hk
        refine d_pure tok rfl rfl (by dsimp only [putL, List.set]) ?_
        refine d_pure tok rfl rfl (by dsimp only [putL, List.set]) ?_
        refine d_pure tok rfl rfl (by dsimp only [putL, List.set]) ?_
        refine d_head rfl (head_index_list tok rfl rfl rfl rfl rfl rfl (Int.natCast_nonneg _) (get_map hx) rfl) (by dsimp only [putL, List.set]) ?_
        refine d_pure tok rfl rfl (by dsimp only [putL, List.set]) ?_
        refine d_pure tok rfl rfl (by dsimp only [putL, List.set]) ?_
        refine d_head rfl (head_call rfl rfl rfl rfl (has_spec _ _)) (by dsimp only [putL, List.set]) ?_
        refine d_pure tok rfl rfl (by dsimp only [putL, List.set]) ?_
        refine d_split rfl (head_p tok rfl) (by dsimp only [putL, List.set]) (by dsimp only [putL, List.set]) (fun h32 => ?_) (fun h32 => ?_)
        · refine aops_nil ?_
          refine awp_cond_true rfl ?_
          refine awp_seq ?_
          refine awp_region ?_
          refine d_head rfl (head_build tok rfl rfl rfl rfl rfl rfl) (by dsimp only [putL, List.set]) ?_
          refine d_store_all tok rfl rfl rfl rfl rfl rfl rfl rfl rfl (by dsimp only [List.set, AV.cellsOf]) (by dsimp only [putL, List.set]) ?_
          refine d_pure tok rfl rfl (by dsimp only [putL, List.set]) ?_
          refine d_pure tok rfl rfl (by dsimp only [putL, List.set]) ?_
          refine aops_nil ?_
          refine awp_ret ?_
          exact qfun_cells tok rfl rfl rfl (weak_eq (show encFind noMap = encFind (findP l page) by unfold findP; rw [if_neg (by simpa using h9), if_neg (by simpa using h17), hx]; simp only; rw [if_neg (by simpa using h32)])) rfl
        · refine aops_nil ?_
          refine awp_cond_false rfl ?_
          refine awp_skip ?_
          refine awp_seq ?_
          refine awp_late 20 17 0 mixed (by decide +kernel) rfl (by decide) rfl (Nat.le_of_ble_eq_true rfl) (by dsimp only [List.set]) ?_
          refine hk_pure tok rfl rfl (by dsimp only [putL, List.set]) ?_
          refine hk_pure tok rfl rfl (by dsimp only [putL, List.set]) ?_
          refine hk_head rfl (head_index_list tok rfl rfl rfl rfl rfl rfl (Int.natCast_nonneg _) (get_map hx) rfl) (by dsimp only [putL, List.set]) ?_
          refine hk_pure tok rfl rfl (by dsimp only [putL, List.set]) ?_
          refine hk_pure tok rfl rfl (by dsimp only [putL, List.set]) ?_
          refine hk_pure tok rfl rfl (by dsimp only [putL, List.set]) ?_
          refine hk_head rfl (head_index_list tok rfl rfl rfl rfl rfl rfl (Int.natCast_nonneg _) (get_map hx) rfl) (by dsimp only [putL, List.set]) ?_
          refine hk_pure tok rfl rfl (by dsimp only [putL, List.set]) ?_
          refine hk_pure tok rfl rfl (by dsimp only [putL, List.set]) ?_
          refine hk_pure tok rfl rfl (by dsimp only [putL, List.set]) ?_
          refine hk_pure tok rfl rfl (by dsimp only [putL, List.set]) ?_
          refine hk_pure tok rfl rfl (by dsimp only [putL, List.set]) ?_
          refine hk_pure tok rfl rfl (by dsimp only [putL, List.set]) ?_
          refine hk_head rfl (head_index_list tok rfl rfl rfl rfl rfl rfl (Int.natCast_nonneg _) (get_map hx) rfl) (by dsimp only [putL, List.set]) ?_
          refine hk_pure tok rfl rfl (by dsimp only [putL, List.set]) ?_
          refine hk_pure tok rfl rfl (by dsimp only [putL, List.set]) ?_
          refine hk_pure tok rfl rfl (by dsimp only [putL, List.set]) ?_
          refine hk_dumb rfl ?_
          refine hk_pure tok rfl rfl (by dsimp only [putL, List.set]) ?_
          refine hk_pure tok rfl rfl (by dsimp only [putL, List.set]) ?_
          refine .nil ⟨⟨_, rfl⟩, rfl, _, astor_all tok rfl rfl rfl rfl rfl rfl rfl rfl rfl (by dsimp only [AV.cellsOf]), ?_⟩
          refine aops_nil ?_
          refine awp_ret ?_
          exact qfun_cells tok rfl rfl rfl (weak_eq (show encFind (foundAt x page) = encFind (findP l page) by unfold findP; rw [if_neg (by simpa using h9), if_neg (by simpa using h17), hx]; simp only; rw [if_pos (by simpa using h32)])) rfl

theorem rfind_spec (l : List MapD) (page : Int) (hl : l.length < 4611686018427387904) : PCall Try.prog 23 [.list (l.map encMap), .int .i64 page] (encFind (findR l page)) := by
  refine d_intro Try.func23 rfl (by decide +kernel) (ts := [.list (l.map encMap), .int .i64 page, .undef, .undef, .undef, .undef, .undef, .undef, .undef, .undef, .undef, .undef, .undef, .undef, .undef, .undef, .undef, .undef, .undef, .undef, .undef, .undef, .undef, .undef, .undef, .undef, .undef, .undef, .undef, .undef, .undef, .undef, .undef, .undef, .undef, .undef, .undef, .undef, .undef, .undef, .undef, .undef, .undef, .undef, .undef, .undef, .undef, .undef, .undef, .undef, .undef, .undef, .undef, .undef]) rfl fun B hB => ?_
  refine awp_seq ?_
  refine awp_region ?_
  refine d_new rfl (head_alloc tok 0 rfl rfl) (by dsimp only [putL, List.set]) (by dsimp only [List.append, HAppend.hAppend, Append.append]) ?_
  refine d_pure tok rfl rfl (by dsimp only [putL, List.set]) ?_
  refine d_pure tok rfl rfl (by dsimp only [putL, List.set]) ?_
  refine aops_nil ?_
  refine awp_seq ?_
  refine awp_seq ?_
  refine awp_region ?_
  refine d_pure tok rfl rfl (by dsimp only [putL, List.set]) ?_
  refine aops_nil ?_
  refine awp_block ?_
  refine awp_rounds (α := Nat) (fun i => ⟨[.list (l.map encMap), .int .i64 page, .any, .any, .ptr 0 0, .any, .any, .int .i64 i, .any, .any, .any, .any, .any, .any, .any, .any, .any, .any, .any, .any, .any, .any, .any, .any, .any, .any, .any, .any, .any, .any, .any, .any, .any, .any, .any, .any, .any, .any, .any, .any, .any, .any, .any, .any, .any, .any, .any, .any, .any, .any, .any, .any, .any, .any], [some (.var (encMap zeroMap))], []⟩) (fun i => i ≤ l.length ∧ ∀ j y, j < i → l[j]? = some y → hasL y page = false) (fun i => l.length - i) 0 (fun _ => by rw [hB]; exact Nat.zero_le _) ((sweak_tmps (.cons (weak_eq rfl) (.cons (weak_eq rfl) (.cons (.any _) (.cons (.any _) (.cons (weak_eq rfl) (.cons (.any _) (.cons (.any _) (.cons (weak_eq rfl) (.cons (.any _) (.cons (.any _) (.cons (.any _) (.cons (.any _) (.cons (.any _) (.cons (.any _) (.cons (.any _) (.cons (.any _) (.cons (.any _) (.cons (.any _) (.cons (.any _) (.cons (.any _) (.cons (.any _) (.cons (.any _) (.cons (.any _) (.cons (.any _) (.cons (.any _) (.cons (.any _) (.cons (.any _) (.cons (.any _) (.cons (.any _) (.cons (.any _) (.cons (.any _) (.cons (.any _) (.cons (.any _) (.cons (.any _) (.cons (.any _) (.cons (.any _) (.cons (.any _) (.cons (.any _) (.cons (.any _) (.cons (.any _) (.cons (.any _) (.cons (.any _) (.cons (.any _) (.cons (.any _) (.cons (.any _) (.cons (.any _) (.cons (.any _) (.cons (.any _) (.cons (.any _) (.cons (.any _) (.cons (.any _) (.cons (.any _) (.cons (.any _) (.cons (.any _) .nil)))))))))))))))))))))))))))))))))))))))))))))))))))))))) (⟨Nat.zero_le _, none0⟩) (fun i hI => ?_)
  obtain ⟨hi0, hI⟩ := hI
  refine awp_seq ?_
  refine awp_seq ?_
  refine awp_region ?_
  refine d_pure tok rfl rfl (by dsimp only [putL, List.set]) ?_
  refine d_pure tok rfl rfl (by dsimp only [putL, List.set]) ?_
  refine d_pure tok rfl rfl (by dsimp only [putL, List.set]) ?_
  refine d_split rfl (head_p tok rfl) (by dsimp only [putL, List.set]) (by dsimp only [putL, List.set]) (fun h11 => ?_) (fun h11 => ?_)
  · have hi : i < l.length := by simpa using h11
    obtain ⟨x, hx⟩ := get_lt hi
    refine aops_nil ?_
    refine awp_cond_true rfl ?_
    refine awp_skip ?_
    refine awp_seq ?_
    refine awp_block ?_
    refine awp_seq ?_
    refine awp_draw 22 mixed (by decide +kernel) ?_
    refine hk_pure tok rfl rfl (by dsimp only [putL, List.set]) ?_
    refine hk_pure tok rfl rfl (by dsimp only [putL, List.set]) ?_
    refine hk_pure tok rfl rfl (by dsimp only [putL, List.set]) ?_
    refine hk_head rfl (head_index_list tok rfl rfl rfl rfl rfl rfl (Int.natCast_nonneg _) (get_map hx) rfl) (by dsimp only [putL, List.set]) ?_
    refine hk_pure tok rfl rfl (by dsimp only [putL, List.set]) ?_
    refine hk_pure tok rfl rfl (by dsimp only [putL, List.set]) ?_
    refine hk_split rfl (head_p tok rfl) (by dsimp only [putL, List.set]) (by dsimp only [putL, List.set]) (fun h20 => ?_) (fun h20 => ?_)
    · refine hk_pure tok rfl rfl (by dsimp only [putL, List.set]) ?_
      refine hk_pure tok rfl rfl (by dsimp only [putL, List.set]) ?_
      refine hk_pure tok rfl rfl (by dsimp only [putL, List.set]) ?_
      refine hk_pure tok rfl rfl (by dsimp only [putL, List.set]) ?_
      refine hk_head rfl (head_index_list tok rfl rfl rfl rfl rfl rfl (Int.natCast_nonneg _) (get_map hx) rfl) (by dsimp only [putL, List.set]) ?_
      refine hk_pure tok rfl rfl (by dsimp only [putL, List.set]) ?_
      refine hk_pure tok rfl rfl (by dsimp only [putL, List.set]) ?_
      refine hk_pure tok rfl rfl (by dsimp only [putL, List.set]) ?_
      refine hk_pure tok rfl rfl (by dsimp only [putL, List.set]) ?_
      refine hk_head rfl (head_index_list tok rfl rfl rfl rfl rfl rfl (Int.natCast_nonneg _) (get_map hx) rfl) (by dsimp only [putL, List.set]) ?_
      refine hk_pure tok rfl rfl (by dsimp only [putL, List.set]) ?_
      refine hk_pure tok rfl rfl (by dsimp only [putL, List.set]) ?_
      refine hk_pure tok rfl rfl (by dsimp only [putL, List.set]) ?_
      refine hk_pure tok rfl rfl (by dsimp only [putL, List.set]) ?_
      refine hk_split rfl (head_p tok rfl) (by dsimp only [putL, List.set]) (by dsimp only [putL, List.set]) (fun h35 => ?_) (fun h35 => ?_)
      · refine .nil ?_
        refine aops_nil ?_
        refine awp_cond_true rfl ?_
        refine awp_seq ?_
        refine awp_late 20 17 0 mixed (by decide +kernel) rfl (by decide) rfl (Nat.le_of_ble_eq_true rfl) (by dsimp only [List.set]) ?_
        refine hk_pure tok rfl rfl (by dsimp only [putL, List.set]) ?_
        refine hk_pure tok rfl rfl (by dsimp only [putL, List.set]) ?_
        refine hk_head rfl (head_index_list tok rfl rfl rfl rfl rfl rfl (Int.natCast_nonneg _) (get_map hx) rfl) (by dsimp only [putL, List.set]) ?_
        refine hk_pure tok rfl rfl (by dsimp only [putL, List.set]) ?_
        refine hk_pure tok rfl rfl (by dsimp only [putL, List.set]) ?_
        refine hk_pure tok rfl rfl (by dsimp only [putL, List.set]) ?_
        refine hk_head rfl (head_index_list tok rfl rfl rfl rfl rfl rfl (Int.natCast_nonneg _) (get_map hx) rfl) (by dsimp only [putL, List.set]) ?_
        refine hk_pure tok rfl rfl (by dsimp only [putL, List.set]) ?_
        refine hk_pure tok rfl rfl (by dsimp only [putL, List.set]) ?_
        refine hk_pure tok rfl rfl (by dsimp only [putL, List.set]) ?_
        refine hk_pure tok rfl rfl (by dsimp only [putL, List.set]) ?_
        refine hk_pure tok rfl rfl (by dsimp only [putL, List.set]) ?_
        refine hk_pure tok rfl rfl (by dsimp only [putL, List.set]) ?_
        refine hk_head rfl (head_index_list tok rfl rfl rfl rfl rfl rfl (Int.natCast_nonneg _) (get_map hx) rfl) (by dsimp only [putL, List.set]) ?_
        refine hk_pure tok rfl rfl (by dsimp only [putL, List.set]) ?_
        refine hk_pure tok rfl rfl (by dsimp only [putL, List.set]) ?_
        refine hk_pure tok rfl rfl (by dsimp only [putL, List.set]) ?_
        refine hk_dumb rfl ?_
        refine hk_pure tok rfl rfl (by dsimp only [putL, List.set]) ?_
        refine hk_pure tok rfl rfl (by dsimp only [putL, List.set]) ?_
        refine .nil ⟨⟨_, rfl⟩, rfl, _, astor_all tok rfl rfl rfl rfl rfl rfl rfl rfl rfl (by dsimp only [AV.cellsOf]), ?_⟩
        refine aops_nil ?_
        refine awp_ret ?_
        exact qfun_cells tok rfl rfl rfl (weak_eq (show encFind (foundAt x page) = encFind (findR l page) by unfold findR; rw [find_here hI hx (by unfold hasL endL; rw [h20, h35]; rfl)])) rfl
      · refine .nil ?_
        refine aops_nil ?_
        refine awp_cond_false rfl ?_
        refine awp_skip ?_
        refine awp_region ?_
        refine d_pure tok rfl rfl (by dsimp only [putL, List.set]) ?_
        refine d_pure tok rfl rfl (by dsimp only [putL, List.set]) ?_
        refine d_pure tok rfl rfl (by dsimp only [putL, List.set]) ?_
        refine aops_nil ?_
        exact ⟨_, (sweak_tmps (.cons (weak_eq rfl) (.cons (weak_eq rfl) (.cons (.any _) (.cons (.any _) (.cons (weak_eq rfl) (.cons (.any _) (.cons (.any _) (.cons (weak_eq (succ64' hi hl)) (.cons (.any _) (.cons (.any _) (.cons (.any _) (.cons (.any _) (.cons (.any _) (.cons (.any _) (.cons (.any _) (.cons (.any _) (.cons (.any _) (.cons (.any _) (.cons (.any _) (.cons (.any _) (.cons (.any _) (.cons (.any _) (.cons (.any _) (.cons (.any _) (.cons (.any _) (.cons (.any _) (.cons (.any _) (.cons (.any _) (.cons (.any _) (.cons (.any _) (.cons (.any _) (.cons (.any _) (.cons (.any _) (.cons (.any _) (.cons (.any _) (.cons (.any _) (.cons (.any _) (.cons (.any _) (.cons (.any _) (.cons (.any _) (.cons (.any _) (.cons (.any _) (.cons (.any _) (.cons (.any _) (.cons (.any _) (.cons (.any _) (.cons (.any _) (.cons (.any _) (.cons (.any _) (.cons (.any _) (.cons (.any _) (.cons (.any _) (.cons (.any _) (.cons (.any _) .nil))))))))))))))))))))))))))))))))))))))))))))))))))))))), ⟨hi, none_step hI hx (by unfold hasL endL; rw [h20, h35]; rfl)⟩, by omega⟩
    · refine hk_pure tok rfl rfl (by dsimp only [putL, List.set]) ?_
      refine hk_skip rfl (by dsimp only [putL, List.set]) ?_
      refine hk_skip rfl (by dsimp only [putL, List.set]) ?_
      refine hk_skip rfl (by dsimp only [putL, List.set]) ?_
      refine hk_skip rfl (by dsimp only [putL, List.set]) ?_
      refine hk_skip rfl (by dsimp only [putL, List.set]) ?_
      refine hk_skip rfl (by dsimp only [putL, List.set]) ?_
      refine hk_skip rfl (by dsimp only [putL, List.set]) ?_
      refine hk_skip rfl (by dsimp only [putL, List.set]) ?_
      refine hk_skip rfl (by dsimp only [putL, List.set]) ?_
      refine hk_skip rfl (by dsimp only [putL, List.set]) ?_
      refine hk_skip rfl (by dsimp only [putL, List.set]) ?_
      refine hk_skip rfl (by dsimp only [putL, List.set]) ?_
      refine hk_skip rfl (by dsimp only [putL, List.set]) ?_
      refine hk_pure tok rfl rfl (by dsimp only [putL, List.set]) ?_
      refine .nil ?_
      refine aops_nil ?_
      refine awp_cond_false rfl ?_
      refine awp_skip ?_
      refine awp_region ?_
      refine d_pure tok rfl rfl (by dsimp only [putL, List.set]) ?_
      refine d_pure tok rfl rfl (by dsimp only [putL, List.set]) ?_
      refine d_pure tok rfl rfl (by dsimp only [putL, List.set]) ?_
      refine aops_nil ?_
      exact ⟨_, (sweak_tmps (.cons (weak_eq rfl) (.cons (weak_eq rfl) (.cons (.any _) (.cons (.any _) (.cons (weak_eq rfl) (.cons (.any _) (.cons (.any _) (.cons (weak_eq (succ64' hi hl)) (.cons (.any _) (.cons (.any _) (.cons (.any _) (.cons (.any _) (.cons (.any _) (.cons (.any _) (.cons (.any _) (.cons (.any _) (.cons (.any _) (.cons (.any _) (.cons (.any _) (.cons (.any _) (.cons (.any _) (.cons (.any _) (.cons (.any _) (.cons (.any _) (.cons (.any _) (.cons (.any _) (.cons (.any _) (.cons (.any _) (.cons (.any _) (.cons (.any _) (.cons (.any _) (.cons (.any _) (.cons (.any _) (.cons (.any _) (.cons (.any _) (.cons (.any _) (.cons (.any _) (.cons (.any _) (.cons (.any _) (.cons (.any _) (.cons (.any _) (.cons (.any _) (.cons (.any _) (.cons (.any _) (.cons (.any _) (.cons (.any _) (.cons (.any _) (.cons (.any _) (.cons (.any _) (.cons (.any _) (.cons (.any _) (.cons (.any _) (.cons (.any _) (.cons (.any _) .nil))))))))))))))))))))))))))))))))))))))))))))))))))))))), ⟨hi, none_step hI hx (by unfold hasL; rw [h20]; rfl)⟩, by omega⟩
  · refine aops_nil ?_
    refine awp_cond_false rfl ?_
    refine awp_exit ?_
    refine awp_seq ?_
    refine awp_region ?_
    refine d_head rfl (head_build tok rfl rfl rfl rfl rfl rfl) (by dsimp only [putL, List.set]) ?_
    refine d_store_all tok rfl rfl rfl rfl rfl rfl rfl rfl rfl (by dsimp only [List.set, AV.cellsOf]) (by dsimp only [putL, List.set]) ?_
    refine d_pure tok rfl rfl (by dsimp only [putL, List.set]) ?_
    refine d_pure tok rfl rfl (by dsimp only [putL, List.set]) ?_
    refine aops_nil ?_
    refine awp_ret ?_
    have hle : l.length ≤ i := by simpa using h11
    exact qfun_cells tok rfl rfl rfl (weak_eq (show encFind noMap = encFind (findR l page) by unfold findR; rw [find_none hI hle])) rfl

theorem rdrop_spec (l : List MapD) (va : Int) (hl : l.length < 1000000000) : PCall Try.prog 21 [.list (l.map encMap), .int .i64 va] (encList (dropR l va)) := by
  refine d_intro Try.func21 rfl (by decide +kernel) (ts := [.list (l.map encMap), .int .i64 va, .undef, .undef, .undef, .undef, .undef, .undef, .undef, .undef, .undef, .undef, .undef, .undef, .undef, .undef, .undef, .undef, .undef, .undef, .undef, .undef, .undef, .undef, .undef, .undef, .undef, .undef, .undef, .undef, .undef, .undef, .undef, .undef, .undef]) rfl fun B hB => ?_
  refine awp_seq ?_
  refine awp_region ?_
  refine d_pure tok rfl rfl (by dsimp only [putL, List.set]) ?_
  refine d_pure tok rfl rfl (by dsimp only [putL, List.set]) ?_
  refine aops_nil ?_
  refine awp_seq ?_
  refine awp_region ?_
  refine d_pure tok rfl rfl (by dsimp only [putL, List.set]) ?_
  refine aops_nil ?_
  refine awp_seq ?_
  refine awp_seq ?_
  refine c_own 6 6 25 rfl (by rw [hB]; exact Nat.zero_le _) (by dsimp only [putL, List.set]) (by dsimp only [List.append, HAppend.hAppend, Append.append]) ?_
  refine awp_region ?_
  refine d_pure tok rfl rfl (by dsimp only [putL, List.set]) ?_
  refine aops_nil ?_
  refine awp_block ?_
  refine awp_rounds (α := Nat) (fun i => ⟨[.list (l.map encMap), .int .i64 va, .any, .any, .any, .any, .own 0 ((dropTo l va i).map encMap).length, .int .i64 i, .any, .any, .any, .any, .any, .any, .any, .any, .any, .any, .any, .any, .any, .any, .any, .any, .any, .any, .any, .any, .any, .any, .any, .any, .any, .any, .any], [some (.row ((dropTo l va i).map encMap) 6 25)], []⟩) (fun i => i ≤ l.length) (fun i => l.length - i) 0 (fun _ => by rw [hB]; exact Nat.zero_le _) ((sweak_tmps (.cons (weak_eq rfl) (.cons (weak_eq rfl) (.cons (.any _) (.cons (.any _) (.cons (.any _) (.cons (.any _) (.cons (weak_eq rfl) (.cons (weak_eq rfl) (.cons (.any _) (.cons (.any _) (.cons (.any _) (.cons (.any _) (.cons (.any _) (.cons (.any _) (.cons (.any _) (.cons (.any _) (.cons (.any _) (.cons (.any _) (.cons (.any _) (.cons (.any _) (.cons (.any _) (.cons (.any _) (.cons (.any _) (.cons (.any _) (.cons (.any _) (.cons (.any _) (.cons (.any _) (.cons (.any _) (.cons (.any _) (.cons (.any _) (.cons (.any _) (.cons (.any _) (.cons (.any _) (.cons (.any _) (.cons (.any _) .nil))))))))))))))))))))))))))))))))))))) (Nat.zero_le _) (fun i hI => ?_)
  refine awp_seq ?_
  refine awp_seq ?_
  refine awp_region ?_
  refine d_pure tok rfl rfl (by dsimp only [putL, List.set]) ?_
  refine d_pure tok rfl rfl (by dsimp only [putL, List.set]) ?_
  refine d_pure tok rfl rfl (by dsimp only [putL, List.set]) ?_
  refine d_split rfl (head_p tok rfl) (by dsimp only [putL, List.set]) (by dsimp only [putL, List.set]) (fun h11 => ?_) (fun h11 => ?_)
  · have hi : i < l.length := by simpa using h11
    obtain ⟨x, hx⟩ := get_lt hi
    refine aops_nil ?_
    refine awp_cond_true rfl ?_
    refine awp_skip ?_
    refine awp_seq ?_
    refine awp_block ?_
    refine awp_seq ?_
    refine awp_region ?_
    refine d_pure tok rfl rfl (by dsimp only [putL, List.set]) ?_
    refine d_pure tok rfl rfl (by dsimp only [putL, List.set]) ?_
    refine d_head rfl (head_index_list tok rfl rfl rfl rfl rfl rfl (Int.natCast_nonneg _) (get_map hx) rfl) (by dsimp only [putL, List.set]) ?_
    refine d_pure tok rfl rfl (by dsimp only [putL, List.set]) ?_
    refine d_pure tok rfl rfl (by dsimp only [putL, List.set]) ?_
    refine d_pure tok rfl rfl (by dsimp only [putL, List.set]) ?_
    refine d_split rfl (head_p tok rfl) (by dsimp only [putL, List.set]) (by dsimp only [putL, List.set]) (fun h20 => ?_) (fun h20 => ?_)
    · refine aops_nil ?_
      refine awp_cond_true rfl ?_
      refine awp_region ?_
      refine d_pure tok rfl rfl (by dsimp only [putL, List.set]) ?_
      refine d_pure tok rfl rfl (by dsimp only [putL, List.set]) ?_
      refine d_pure tok rfl rfl (by dsimp only [putL, List.set]) ?_
      refine d_head rfl (head_index_list tok rfl rfl rfl rfl rfl rfl (Int.natCast_nonneg _) (get_map hx) rfl) (by dsimp only [putL, List.set]) ?_
      refine d_pure tok rfl rfl (by dsimp only [putL, List.set]) ?_
      refine d_new rfl (head_bslice tok 1 rfl rfl rfl rfl rfl rfl rfl rfl (by dsimp only [List.map, AV.cellsOf, evalL, List.getD, List.getElem?_cons_zero, List.getElem?_cons_succ, Option.getD, List.get?Internal])) (by dsimp only [putL, List.set]) (by dsimp only [List.append, HAppend.hAppend, Append.append]) ?_
      refine d_append (xs := (dropTo l va i).map encMap) (ys := [encMap x]) tok rfl rfl rfl rfl rfl rfl rfl rfl rfl one_len one_scal (by have := drop_len l va i; simp; omega) (by have := drop_len l va i; simp; omega) (by dsimp only [List.set]) (by dsimp only [putL, List.set]) ?_
      refine d_pure tok rfl rfl (by dsimp only [putL, List.set]) ?_
      refine aops_nil ?_
      refine awp_region ?_
      refine d_pure tok rfl rfl (by dsimp only [putL, List.set]) ?_
      refine d_pure tok rfl rfl (by dsimp only [putL, List.set]) ?_
      refine d_pure tok rfl rfl (by dsimp only [putL, List.set]) ?_
      refine aops_nil ?_
      have he : (dropTo l va i).map encMap ++ [encMap x] = (dropTo l va (i + 1)).map encMap := by rw [drop_step hx, if_neg (by simpa using h20)]; simp
      exact ⟨i + 1, by rw [← he]; exact (sweak_tmps (.cons (weak_eq rfl) (.cons (weak_eq rfl) (.cons (.any _) (.cons (.any _) (.cons (.any _) (.cons (.any _) (.cons (weak_eq rfl) (.cons (weak_eq (succ64' hi (by omega))) (.cons (.any _) (.cons (.any _) (.cons (.any _) (.cons (.any _) (.cons (.any _) (.cons (.any _) (.cons (.any _) (.cons (.any _) (.cons (.any _) (.cons (.any _) (.cons (.any _) (.cons (.any _) (.cons (.any _) (.cons (.any _) (.cons (.any _) (.cons (.any _) (.cons (.any _) (.cons (.any _) (.cons (.any _) (.cons (.any _) (.cons (.any _) (.cons (.any _) (.cons (.any _) (.cons (.any _) (.cons (.any _) (.cons (.any _) (.cons (.any _) .nil)))))))))))))))))))))))))))))))))))).trans (sweak_trunc (h := [some (.row ((dropTo l va i).map encMap ++ [encMap x]) 6 25)]) (l := [_]) (ok_row (by rw [List.flatten_append]; exact underL_app enc_under rfl)) rfl) (Nat.le_add_right 1 1), hi, by omega⟩
    · refine aops_nil ?_
      refine awp_cond_false rfl ?_
      refine awp_skip ?_
      refine awp_region ?_
      refine d_pure tok rfl rfl (by dsimp only [putL, List.set]) ?_
      refine d_pure tok rfl rfl (by dsimp only [putL, List.set]) ?_
      refine d_pure tok rfl rfl (by dsimp only [putL, List.set]) ?_
      refine aops_nil ?_
      have he : (dropTo l va i).map encMap = (dropTo l va (i + 1)).map encMap := by rw [drop_step hx, if_pos (by simpa using h20)]; simp
      exact ⟨i + 1, by rw [← he]; exact (sweak_tmps (.cons (weak_eq rfl) (.cons (weak_eq rfl) (.cons (.any _) (.cons (.any _) (.cons (.any _) (.cons (.any _) (.cons (weak_eq rfl) (.cons (weak_eq (succ64' hi (by omega))) (.cons (.any _) (.cons (.any _) (.cons (.any _) (.cons (.any _) (.cons (.any _) (.cons (.any _) (.cons (.any _) (.cons (.any _) (.cons (.any _) (.cons (.any _) (.cons (.any _) (.cons (.any _) (.cons (.any _) (.cons (.any _) (.cons (.any _) (.cons (.any _) (.cons (.any _) (.cons (.any _) (.cons (.any _) (.cons (.any _) (.cons (.any _) (.cons (.any _) (.cons (.any _) (.cons (.any _) (.cons (.any _) (.cons (.any _) (.cons (.any _) .nil)))))))))))))))))))))))))))))))))))), hi, by omega⟩
  · have hle : i = l.length := by have h := h11; simp at h; omega
    subst hle
    refine aops_nil ?_
    refine awp_cond_false rfl ?_
    refine awp_exit ?_
    refine awp_seq ?_
    refine awp_seq ?_
    refine awp_region ?_
    refine d_pure tok rfl rfl (by dsimp only [putL, List.set]) ?_
    refine d_head rfl (head_len_own tok rfl rfl rfl rfl rfl) (by dsimp only [putL, List.set]) ?_
    refine d_pure tok rfl rfl (by dsimp only [putL, List.set]) ?_
    refine d_pure tok rfl rfl (by dsimp only [putL, List.set]) ?_
    refine d_split rfl (head_p tok rfl) (by dsimp only [putL, List.set]) (by dsimp only [putL, List.set]) (fun h32 => ?_) (fun h32 => ?_)
    · refine aops_nil ?_
      refine awp_cond_true rfl ?_
      refine awp_seq ?_
      refine awp_region ?_
      refine d_pure tok rfl rfl (by dsimp only [putL, List.set]) ?_
      refine d_pure tok rfl rfl (by dsimp only [putL, List.set]) ?_
      refine d_pure tok rfl rfl (by dsimp only [putL, List.set]) ?_
      refine aops_nil ?_
      refine awp_ret ?_
      exact qfun_ret rfl rfl (weak_eq (show encList (l, 1) = encList (dropR l va) by unfold dropR; rw [if_pos (by have h := h32; simp at h; omega)])) rfl
    · refine aops_nil ?_
      refine awp_cond_false rfl ?_
      refine awp_skip ?_
      refine awp_seq ?_
      refine awp_region ?_
      refine d_pure tok rfl rfl (by dsimp only [putL, List.set]) ?_
      refine d_pure tok rfl rfl (by dsimp only [putL, List.set]) ?_
      refine d_pure tok rfl rfl (by dsimp only [putL, List.set]) ?_
      refine aops_nil ?_
      refine c_freeze 4 0 6 rfl rfl (len_of_flat enc_under) (by rw [hB]; exact Nat.zero_le _) (by dsimp only [putL, List.set]) (by dsimp only [List.set, AV.cellsOf]) ?_
      refine awp_ret ?_
      exact qfun_ret rfl rfl (weak_eq (show encList (dropTo l va l.length, 0) = encList (dropR l va) by unfold dropR; rw [if_neg (by have h := h32; simp at h; omega)])) rfl

theorem rput_spec (l : List MapD) (m : MapD) (hl : l.length < 1000000000) : PCall Try.prog 19 [.list (l.map encMap), .agg (encMap m)] (encList (putR l m)) := by
  refine d_intro Try.func19 rfl (by decide +kernel) (ts := [.list (l.map encMap), .agg (encMap m), .undef, .undef, .undef, .undef, .undef, .undef, .undef, .undef, .undef, .undef, .undef, .undef, .undef, .undef, .undef, .undef, .undef, .undef, .undef, .undef, .undef, .undef, .undef, .undef, .undef, .undef, .undef, .undef, .undef, .undef, .undef, .undef, .undef, .undef, .undef, .undef, .undef, .undef, .undef, .undef, .undef, .undef, .undef, .undef, .undef, .undef, .undef, .undef, .undef, .undef, .undef, .undef, .undef, .undef, .undef, .undef, .undef, .undef, .undef, .undef, .undef, .undef, .undef, .undef, .undef, .undef, .undef, .undef, .undef]) rfl fun B hB => ?_
  refine awp_seq ?_
  refine awp_region ?_
  refine d_new rfl (head_box 0 rfl rfl) (by dsimp only [putL, List.set]) (by dsimp only [List.append, HAppend.hAppend, Append.append]) ?_
  refine d_pure tok rfl rfl (by dsimp only [putL, List.set]) ?_
  refine d_pure tok rfl rfl (by dsimp only [putL, List.set]) ?_
  refine aops_nil ?_
  refine awp_seq ?_
  refine awp_seq ?_
  refine awp_region ?_
  refine d_pure tok rfl rfl (by dsimp only [putL, List.set]) ?_
  refine d_split rfl (head_call rfl rfl rfl rfl (one_spec _)) (by dsimp only [putL, List.set]) (by dsimp only [putL, List.set]) (fun h11 => ?_) (fun h11 => ?_)
  · refine d_pure tok rfl rfl (by dsimp only [putL, List.set]) ?_
    refine aops_nil ?_
    refine awp_cond_false rfl ?_
    refine awp_skip ?_
    refine awp_seq ?_
    refine awp_region ?_
    refine d_pure tok rfl rfl (by dsimp only [putL, List.set]) ?_
    refine aops_nil ?_
    refine awp_seq ?_
    refine c_own 6 6 25 rfl (by rw [hB]; exact Nat.zero_le _) (by dsimp only [putL, List.set]) (by dsimp only [List.append, HAppend.hAppend, Append.append]) ?_
    refine awp_region ?_
    refine d_pure tok rfl rfl (by dsimp only [putL, List.set]) ?_
    refine aops_nil ?_
    refine awp_seq ?_
    refine awp_seq ?_
    refine awp_region ?_
    refine d_pure tok rfl rfl (by dsimp only [putL, List.set]) ?_
    refine aops_nil ?_
    refine awp_block ?_
    refine awp_rounds (α := Nat) (fun i => ⟨[.list (l.map encMap), .any, .any, .ptr 0 0, .any, .any, .own 1 ((putAt l m i).1.map encMap).length, .bool (putAt l m i).2, .int .i64 i, .any, .any, .any, .any, .any, .any, .any, .any, .any, .any, .any, .any, .any, .any, .any, .any, .any, .any, .any, .any, .any, .any, .any, .any, .any, .any, .any, .any, .any, .any, .any, .any, .any, .any, .any, .any, .any, .any, .any, .any, .any, .any, .any, .any, .any, .any, .any, .any, .any, .any, .any, .any, .any, .any, .any, .any, .any, .any, .any, .any, .any, .any], [some (.var (encMap m)), some (.row ((putAt l m i).1.map encMap) 6 25)], []⟩) (fun i => i ≤ l.length ∧ ∀ j y, j < i → l[j]? = some y → cutsR m y = false) (fun i => l.length - i) 0 (fun _ => by rw [hB]; exact Nat.zero_le _) ((sweak_tmps (.cons (weak_eq rfl) (.cons (.any _) (.cons (.any _) (.cons (weak_eq rfl) (.cons (.any _) (.cons (.any _) (.cons (weak_eq rfl) (.cons (weak_eq rfl) (.cons (weak_eq rfl) (.cons (.any _) (.cons (.any _) (.cons (.any _) (.cons (.any _) (.cons (.any _) (.cons (.any _) (.cons (.any _) (.cons (.any _) (.cons (.any _) (.cons (.any _) (.cons (.any _) (.cons (.any _) (.cons (.any _) (.cons (.any _) (.cons (.any _) (.cons (.any _) (.cons (.any _) (.cons (.any _) (.cons (.any _) (.cons (.any _) (.cons (.any _) (.cons (.any _) (.cons (.any _) (.cons (.any _) (.cons (.any _) (.cons (.any _) (.cons (.any _) (.cons (.any _) (.cons (.any _) (.cons (.any _) (.cons (.any _) (.cons (.any _) (.cons (.any _) (.cons (.any _) (.cons (.any _) (.cons (.any _) (.cons (.any _) (.cons (.any _) (.cons (.any _) (.cons (.any _) (.cons (.any _) (.cons (.any _) (.cons (.any _) (.cons (.any _) (.cons (.any _) (.cons (.any _) (.cons (.any _) (.cons (.any _) (.cons (.any _) (.cons (.any _) (.cons (.any _) (.cons (.any _) (.cons (.any _) (.cons (.any _) (.cons (.any _) (.cons (.any _) (.cons (.any _) (.cons (.any _) (.cons (.any _) (.cons (.any _) (.cons (.any _) (.cons (.any _) .nil))))))))))))))))))))))))))))))))))))))))))))))))))))))))))))))))))))))))) (⟨Nat.zero_le _, none0⟩) (fun i hI => ?_)
    obtain ⟨hi0, hI⟩ := hI
    refine awp_seq ?_
    refine awp_seq ?_
    refine awp_region ?_
    refine d_pure tok rfl rfl (by dsimp only [putL, List.set]) ?_
    refine d_pure tok rfl rfl (by dsimp only [putL, List.set]) ?_
    refine d_pure tok rfl rfl (by dsimp only [putL, List.set]) ?_
    refine d_split rfl (head_p tok rfl) (by dsimp only [putL, List.set]) (by dsimp only [putL, List.set]) (fun h17 => ?_) (fun h17 => ?_)
    · have hi : i < l.length := by simpa using h17
      obtain ⟨x, hx⟩ := get_lt hi
      refine aops_nil ?_
      refine awp_cond_true rfl ?_
      refine awp_skip ?_
      refine awp_seq ?_
      refine awp_block ?_
      refine awp_seq ?_
      refine awp_region ?_
      refine d_pure tok rfl rfl (by dsimp only [putL, List.set]) ?_
      refine d_pure tok rfl rfl (by dsimp only [putL, List.set]) ?_
      refine d_head rfl (head_index_list tok rfl rfl rfl rfl rfl rfl (Int.natCast_nonneg _) (get_map hx) rfl) (by dsimp only [putL, List.set]) ?_
      refine d_pure tok rfl rfl (by dsimp only [putL, List.set]) ?_
      refine d_new rfl (head_alloc tok 2 rfl rfl) (by dsimp only [putL, List.set]) (by dsimp only [List.append, HAppend.hAppend, Append.append]) ?_
      refine d_store_all tok rfl rfl rfl rfl rfl rfl rfl rfl rfl (by dsimp only [List.set, AV.cellsOf]) (by dsimp only [putL, List.set]) ?_
      refine aops_nil ?_
      refine awp_seq ?_
      refine awp_seq ?_
      refine awp_region ?_
      refine d_pure tok rfl rfl (by dsimp only [putL, List.set]) ?_
      refine d_pure tok rfl rfl (by dsimp only [putL, List.set]) ?_
      refine d_pure tok rfl rfl (by dsimp only [putL, List.set]) ?_
      refine d_pure tok rfl rfl (by dsimp only [putL, List.set]) ?_
      refine d_pure tok rfl rfl (by dsimp only [putL, List.set]) ?_
      refine d_pure tok rfl rfl (by dsimp only [putL, List.set]) ?_
      refine d_pure tok rfl rfl (by dsimp only [putL, List.set]) ?_
      refine d_split rfl (head_p tok rfl) (by dsimp only [putL, List.set]) (by dsimp only [putL, List.set]) (fun h31 => ?_) (fun h31 => ?_)
      · refine d_pure tok rfl rfl (by dsimp only [putL, List.set]) ?_
        refine d_pure tok rfl rfl (by dsimp only [putL, List.set]) ?_
        refine d_pure tok rfl rfl (by dsimp only [putL, List.set]) ?_
        refine d_pure tok rfl rfl (by dsimp only [putL, List.set]) ?_
        refine d_pure tok rfl rfl (by dsimp only [putL, List.set]) ?_
        refine d_pure tok rfl rfl (by dsimp only [putL, List.set]) ?_
        refine d_pure tok rfl rfl (by dsimp only [putL, List.set]) ?_
        refine d_pure tok rfl rfl (by dsimp only [putL, List.set]) ?_
        refine d_pure tok rfl rfl (by dsimp only [putL, List.set]) ?_
        refine d_split rfl (head_p tok rfl) (by dsimp only [putL, List.set]) (by dsimp only [putL, List.set]) (fun h41 => ?_) (fun h41 => ?_)
        · refine aops_nil ?_
          refine awp_cond_true rfl ?_
          refine awp_seq ?_
          refine awp_region ?_
          refine d_pure tok rfl rfl (by dsimp only [putL, List.set]) ?_
          refine d_pure tok rfl rfl (by dsimp only [putL, List.set]) ?_
          refine d_pure tok rfl rfl (by dsimp only [putL, List.set]) ?_
          refine aops_nil ?_
          refine awp_ret ?_
          have e1 : oneL m = true := h11
          exact qfun_ret rfl rfl (weak_eq (show encList (l, 12) = encList (putR l m) by unfold putR; rw [if_neg (by simp [e1]), if_pos (any_here hx (by unfold cutsR w64; rw [h31, h41]; rfl))])) rfl
        · refine aops_nil ?_
          refine awp_cond_false rfl ?_
          refine awp_skip ?_
          refine awp_seq ?_
          refine awp_seq ?_
          refine awp_region ?_
          refine d_split rfl (head_p tok rfl) (by dsimp only [putL, List.set]) (by dsimp only [putL, List.set]) (fun h43 => ?_) (fun h43 => ?_)
          · refine d_pure tok rfl rfl (by dsimp only [putL, List.set]) ?_
            refine d_pure tok rfl rfl (by dsimp only [putL, List.set]) ?_
            refine d_skip rfl (by dsimp only [putL, List.set]) ?_
            refine d_skip rfl (by dsimp only [putL, List.set]) ?_
            refine d_skip rfl (by dsimp only [putL, List.set]) ?_
            refine d_skip rfl (by dsimp only [putL, List.set]) ?_
            refine d_skip rfl (by dsimp only [putL, List.set]) ?_
            refine d_pure tok rfl rfl (by dsimp only [putL, List.set]) ?_
            refine aops_nil ?_
            refine awp_cond_false rfl ?_
            refine awp_skip ?_
            refine awp_region ?_
            refine d_pure tok rfl rfl (by dsimp only [putL, List.set]) ?_
            refine d_pure tok rfl rfl (by dsimp only [putL, List.set]) ?_
            refine d_new rfl (head_bslice tok 3 rfl rfl rfl rfl rfl rfl rfl rfl (by dsimp only [List.map, AV.cellsOf, evalL, List.getD, List.getElem?_cons_zero, List.getElem?_cons_succ, Option.getD, List.get?Internal])) (by dsimp only [putL, List.set]) (by dsimp only [List.append, HAppend.hAppend, Append.append]) ?_
            refine d_append (ys := [encMap x]) tok rfl rfl rfl rfl rfl rfl rfl rfl rfl one_len one_scal (by have := put_len l m i; simp; omega) (by have := put_len l m i; simp; omega) (by dsimp only [List.set, AV.cellsOf]) (by dsimp only [putL, List.set]) ?_
            refine d_pure tok rfl rfl (by dsimp only [putL, List.set]) ?_
            refine aops_nil ?_
            refine awp_region ?_
            refine d_pure tok rfl rfl (by dsimp only [putL, List.set]) ?_
            refine d_pure tok rfl rfl (by dsimp only [putL, List.set]) ?_
            refine d_pure tok rfl rfl (by dsimp only [putL, List.set]) ?_
            refine aops_nil ?_
            have he : (putAt l m i).1.map encMap ++ [encMap x] = (putAt l m (i + 1)).1.map encMap := by rw [put_step hx]; simp [h43]
            exact ⟨i + 1, by rw [← he]; exact (sweak_tmps (.cons (weak_eq rfl) (.cons (.any _) (.cons (.any _) (.cons (weak_eq rfl) (.cons (.any _) (.cons (.any _) (.cons (weak_eq (congrArg (fun q : List (List AV) => AV.own 1 q.length) rfl)) (.cons (weak_eq (congrArg AV.bool (by rw [put_step hx]; simp [h43]))) (.cons (weak_eq (succ64' hi (by omega))) (.cons (.any _) (.cons (.any _) (.cons (.any _) (.cons (.any _) (.cons (.any _) (.cons (.any _) (.cons (.any _) (.cons (.any _) (.cons (.any _) (.cons (.any _) (.cons (.any _) (.cons (.any _) (.cons (.any _) (.cons (.any _) (.cons (.any _) (.cons (.any _) (.cons (.any _) (.cons (.any _) (.cons (.any _) (.cons (.any _) (.cons (.any _) (.cons (.any _) (.cons (.any _) (.cons (.any _) (.cons (.any _) (.cons (.any _) (.cons (.any _) (.cons (.any _) (.cons (.any _) (.cons (.any _) (.cons (.any _) (.cons (.any _) (.cons (.any _) (.cons (.any _) (.cons (.any _) (.cons (.any _) (.cons (.any _) (.cons (.any _) (.cons (.any _) (.cons (.any _) (.cons (.any _) (.cons (.any _) (.cons (.any _) (.cons (.any _) (.cons (.any _) (.cons (.any _) (.cons (.any _) (.cons (.any _) (.cons (.any _) (.cons (.any _) (.cons (.any _) (.cons (.any _) (.cons (.any _) (.cons (.any _) (.cons (.any _) (.cons (.any _) (.cons (.any _) (.cons (.any _) (.cons (.any _) (.cons (.any _) (.cons (.any _) (.cons (.any _) .nil)))))))))))))))))))))))))))))))))))))))))))))))))))))))))))))))))))))))).trans (sweak_trunc (h := [some (.var (encMap m)), some (.row ((putAt l m i).1.map encMap ++ [encMap x]) 6 25)]) (l := [_, _]) (ok_vr rfl (by simp only [List.flatten_append]; exact underL_app enc_under rfl)) rfl) (Nat.le_add_right 2 2), ⟨hi, none_step hI hx (by unfold cutsR w64; rw [h31, h41]; rfl)⟩, by omega⟩
          · refine d_pure tok rfl rfl (by dsimp only [putL, List.set]) ?_
            refine d_pure tok rfl rfl (by dsimp only [putL, List.set]) ?_
            refine d_pure tok rfl rfl (by dsimp only [putL, List.set]) ?_
            refine d_pure tok rfl rfl (by dsimp only [putL, List.set]) ?_
            refine d_pure tok rfl rfl (by dsimp only [putL, List.set]) ?_
            refine d_pure tok rfl rfl (by dsimp only [putL, List.set]) ?_
            refine d_pure tok rfl rfl (by dsimp only [putL, List.set]) ?_
            refine d_split rfl (head_p tok rfl) (by dsimp only [putL, List.set]) (by dsimp only [putL, List.set]) (fun h51 => ?_) (fun h51 => ?_)
            · refine aops_nil ?_
              refine awp_cond_true rfl ?_
              refine awp_seq ?_
              refine awp_region ?_
              refine d_pure tok rfl rfl (by dsimp only [putL, List.set]) ?_
              refine d_pure tok rfl rfl (by dsimp only [putL, List.set]) ?_
              refine d_new rfl (head_bslice tok 3 rfl rfl rfl rfl rfl rfl rfl rfl (by dsimp only [List.map, AV.cellsOf, evalL, List.getD, List.getElem?_cons_zero, List.getElem?_cons_succ, Option.getD, List.get?Internal])) (by dsimp only [putL, List.set]) (by dsimp only [List.append, HAppend.hAppend, Append.append]) ?_
              refine d_append (ys := [encMap m]) tok rfl rfl rfl rfl rfl rfl rfl rfl rfl one_len one_scal (by have := put_len l m i; simp; omega) (by have := put_len l m i; simp; omega) (by dsimp only [List.set, AV.cellsOf]) (by dsimp only [putL, List.set]) ?_
              refine d_pure tok rfl rfl (by dsimp only [putL, List.set]) ?_
              refine aops_nil ?_
              refine awp_region ?_
              refine d_pure tok rfl rfl (by dsimp only [putL, List.set]) ?_
              refine aops_nil ?_
              refine awp_region ?_
              refine d_pure tok rfl rfl (by dsimp only [putL, List.set]) ?_
              refine d_pure tok rfl rfl (by dsimp only [putL, List.set]) ?_
              refine d_new rfl (head_bslice tok 4 rfl rfl rfl rfl rfl rfl rfl rfl (by dsimp only [List.map, AV.cellsOf, evalL, List.getD, List.getElem?_cons_zero, List.getElem?_cons_succ, Option.getD, List.get?Internal])) (by dsimp only [putL, List.set]) (by dsimp only [List.append, HAppend.hAppend, Append.append]) ?_
              refine d_append (ys := [encMap x]) tok rfl rfl rfl rfl rfl rfl rfl rfl rfl one_len one_scal (by have := put_len l m i; simp; omega) (by have := put_len l m i; simp; omega) (by dsimp only [List.set, AV.cellsOf]) (by dsimp only [putL, List.set]) ?_
              refine d_pure tok rfl rfl (by dsimp only [putL, List.set]) ?_
              refine aops_nil ?_
              refine awp_region ?_
              refine d_pure tok rfl rfl (by dsimp only [putL, List.set]) ?_
              refine d_pure tok rfl rfl (by dsimp only [putL, List.set]) ?_
              refine d_pure tok rfl rfl (by dsimp only [putL, List.set]) ?_
              refine aops_nil ?_
              have he : (putAt l m i).1.map encMap ++ [encMap m] ++ [encMap x] = (putAt l m (i + 1)).1.map encMap := by rw [put_step hx]; simp [h43, of_decide_eq_true h51]
              exact ⟨i + 1, by rw [← he]; exact (sweak_tmps (.cons (weak_eq rfl) (.cons (.any _) (.cons (.any _) (.cons (weak_eq rfl) (.cons (.any _) (.cons (.any _) (.cons (weak_eq (congrArg (fun q : List (List AV) => AV.own 1 q.length) rfl)) (.cons (weak_eq (congrArg AV.bool (by rw [put_step hx]; simp [h43, of_decide_eq_true h51]))) (.cons (weak_eq (succ64' hi (by omega))) (.cons (.any _) (.cons (.any _) (.cons (.any _) (.cons (.any _) (.cons (.any _) (.cons (.any _) (.cons (.any _) (.cons (.any _) (.cons (.any _) (.cons (.any _) (.cons (.any _) (.cons (.any _) (.cons (.any _) (.cons (.any _) (.cons (.any _) (.cons (.any _) (.cons (.any _) (.cons (.any _) (.cons (.any _) (.cons (.any _) (.cons (.any _) (.cons (.any _) (.cons (.any _) (.cons (.any _) (.cons (.any _) (.cons (.any _) (.cons (.any _) (.cons (.any _) (.cons (.any _) (.cons (.any _) (.cons (.any _) (.cons (.any _) (.cons (.any _) (.cons (.any _) (.cons (.any _) (.cons (.any _) (.cons (.any _) (.cons (.any _) (.cons (.any _) (.cons (.any _) (.cons (.any _) (.cons (.any _) (.cons (.any _) (.cons (.any _) (.cons (.any _) (.cons (.any _) (.cons (.any _) (.cons (.any _) (.cons (.any _) (.cons (.any _) (.cons (.any _) (.cons (.any _) (.cons (.any _) (.cons (.any _) (.cons (.any _) (.cons (.any _) (.cons (.any _) (.cons (.any _) (.cons (.any _) (.cons (.any _) (.cons (.any _) (.cons (.any _) .nil)))))))))))))))))))))))))))))))))))))))))))))))))))))))))))))))))))))))).trans (sweak_trunc (h := [some (.var (encMap m)), some (.row ((putAt l m i).1.map encMap ++ [encMap m] ++ [encMap x]) 6 25)]) (l := [_, _, _]) (ok_vr rfl (by simp only [List.flatten_append]; exact underL_app (underL_app enc_under rfl) rfl)) rfl) (Nat.le_add_right 2 3), ⟨hi, none_step hI hx (by unfold cutsR w64; rw [h31, h41]; rfl)⟩, by omega⟩
            · refine aops_nil ?_
              refine awp_cond_false rfl ?_
              refine awp_skip ?_
              refine awp_region ?_
              refine d_pure tok rfl rfl (by dsimp only [putL, List.set]) ?_
              refine d_pure tok rfl rfl (by dsimp only [putL, List.set]) ?_
              refine d_new rfl (head_bslice tok 3 rfl rfl rfl rfl rfl rfl rfl rfl (by dsimp only [List.map, AV.cellsOf, evalL, List.getD, List.getElem?_cons_zero, List.getElem?_cons_succ, Option.getD, List.get?Internal])) (by dsimp only [putL, List.set]) (by dsimp only [List.append, HAppend.hAppend, Append.append]) ?_
              refine d_append (ys := [encMap x]) tok rfl rfl rfl rfl rfl rfl rfl rfl rfl one_len one_scal (by have := put_len l m i; simp; omega) (by have := put_len l m i; simp; omega) (by dsimp only [List.set, AV.cellsOf]) (by dsimp only [putL, List.set]) ?_
              refine d_pure tok rfl rfl (by dsimp only [putL, List.set]) ?_
              refine aops_nil ?_
              refine awp_region ?_
              refine d_pure tok rfl rfl (by dsimp only [putL, List.set]) ?_
              refine d_pure tok rfl rfl (by dsimp only [putL, List.set]) ?_
              refine d_pure tok rfl rfl (by dsimp only [putL, List.set]) ?_
              refine aops_nil ?_
              have he : (putAt l m i).1.map encMap ++ [encMap x] = (putAt l m (i + 1)).1.map encMap := by rw [put_step hx]; simp [h43, show ¬ m.va < x.va from of_decide_eq_false h51]
              exact ⟨i + 1, by rw [← he]; exact (sweak_tmps (.cons (weak_eq rfl) (.cons (.any _) (.cons (.any _) (.cons (weak_eq rfl) (.cons (.any _) (.cons (.any _) (.cons (weak_eq (congrArg (fun q : List (List AV) => AV.own 1 q.length) rfl)) (.cons (weak_eq (congrArg AV.bool (by rw [put_step hx]; simp [h43, show ¬ m.va < x.va from of_decide_eq_false h51]))) (.cons (weak_eq (succ64' hi (by omega))) (.cons (.any _) (.cons (.any _) (.cons (.any _) (.cons (.any _) (.cons (.any _) (.cons (.any _) (.cons (.any _) (.cons (.any _) (.cons (.any _) (.cons (.any _) (.cons (.any _) (.cons (.any _) (.cons (.any _) (.cons (.any _) (.cons (.any _) (.cons (.any _) (.cons (.any _) (.cons (.any _) (.cons (.any _) (.cons (.any _) (.cons (.any _) (.cons (.any _) (.cons (.any _) (.cons (.any _) (.cons (.any _) (.cons (.any _) (.cons (.any _) (.cons (.any _) (.cons (.any _) (.cons (.any _) (.cons (.any _) (.cons (.any _) (.cons (.any _) (.cons (.any _) (.cons (.any _) (.cons (.any _) (.cons (.any _) (.cons (.any _) (.cons (.any _) (.cons (.any _) (.cons (.any _) (.cons (.any _) (.cons (.any _) (.cons (.any _) (.cons (.any _) (.cons (.any _) (.cons (.any _) (.cons (.any _) (.cons (.any _) (.cons (.any _) (.cons (.any _) (.cons (.any _) (.cons (.any _) (.cons (.any _) (.cons (.any _) (.cons (.any _) (.cons (.any _) (.cons (.any _) (.cons (.any _) (.cons (.any _) (.cons (.any _) (.cons (.any _) .nil)))))))))))))))))))))))))))))))))))))))))))))))))))))))))))))))))))))))).trans (sweak_trunc (h := [some (.var (encMap m)), some (.row ((putAt l m i).1.map encMap ++ [encMap x]) 6 25)]) (l := [_, _]) (ok_vr rfl (by simp only [List.flatten_append]; exact underL_app enc_under rfl)) rfl) (Nat.le_add_right 2 2), ⟨hi, none_step hI hx (by unfold cutsR w64; rw [h31, h41]; rfl)⟩, by omega⟩
      · refine d_pure tok rfl rfl (by dsimp only [putL, List.set]) ?_
        refine d_skip rfl (by dsimp only [putL, List.set]) ?_
        refine d_skip rfl (by dsimp only [putL, List.set]) ?_
        refine d_skip rfl (by dsimp only [putL, List.set]) ?_
        refine d_skip rfl (by dsimp only [putL, List.set]) ?_
        refine d_skip rfl (by dsimp only [putL, List.set]) ?_
        refine d_skip rfl (by dsimp only [putL, List.set]) ?_
        refine d_skip rfl (by dsimp only [putL, List.set]) ?_
        refine d_skip rfl (by dsimp only [putL, List.set]) ?_
        refine d_pure tok rfl rfl (by dsimp only [putL, List.set]) ?_
        refine aops_nil ?_
        refine awp_cond_false rfl ?_
        refine awp_skip ?_
        refine awp_seq ?_
        refine awp_seq ?_
        refine awp_region ?_
        refine d_split rfl (head_p tok rfl) (by dsimp only [putL, List.set]) (by dsimp only [putL, List.set]) (fun h43 => ?_) (fun h43 => ?_)
        · refine d_pure tok rfl rfl (by dsimp only [putL, List.set]) ?_
          refine d_pure tok rfl rfl (by dsimp only [putL, List.set]) ?_
          refine d_skip rfl (by dsimp only [putL, List.set]) ?_
          refine d_skip rfl (by dsimp only [putL, List.set]) ?_
          refine d_skip rfl (by dsimp only [putL, List.set]) ?_
          refine d_skip rfl (by dsimp only [putL, List.set]) ?_
          refine d_skip rfl (by dsimp only [putL, List.set]) ?_
          refine d_pure tok rfl rfl (by dsimp only [putL, List.set]) ?_
          refine aops_nil ?_
          refine awp_cond_false rfl ?_
          refine awp_skip ?_
          refine awp_region ?_
          refine d_pure tok rfl rfl (by dsimp only [putL, List.set]) ?_
          refine d_pure tok rfl rfl (by dsimp only [putL, List.set]) ?_
          refine d_new rfl (head_bslice tok 3 rfl rfl rfl rfl rfl rfl rfl rfl (by dsimp only [List.map, AV.cellsOf, evalL, List.getD, List.getElem?_cons_zero, List.getElem?_cons_succ, Option.getD, List.get?Internal])) (by dsimp only [putL, List.set]) (by dsimp only [List.append, HAppend.hAppend, Append.append]) ?_
          refine d_append (ys := [encMap x]) tok rfl rfl rfl rfl rfl rfl rfl rfl rfl one_len one_scal (by have := put_len l m i; simp; omega) (by have := put_len l m i; simp; omega) (by dsimp only [List.set, AV.cellsOf]) (by dsimp only [putL, List.set]) ?_
          refine d_pure tok rfl rfl (by dsimp only [putL, List.set]) ?_
          refine aops_nil ?_
          refine awp_region ?_
          refine d_pure tok rfl rfl (by dsimp only [putL, List.set]) ?_
          refine d_pure tok rfl rfl (by dsimp only [putL, List.set]) ?_
          refine d_pure tok rfl rfl (by dsimp only [putL, List.set]) ?_
          refine aops_nil ?_
          have he : (putAt l m i).1.map encMap ++ [encMap x] = (putAt l m (i + 1)).1.map encMap := by rw [put_step hx]; simp [h43]
          exact ⟨i + 1, by rw [← he]; exact (sweak_tmps (.cons (weak_eq rfl) (.cons (.any _) (.cons (.any _) (.cons (weak_eq rfl) (.cons (.any _) (.cons (.any _) (.cons (weak_eq (congrArg (fun q : List (List AV) => AV.own 1 q.length) rfl)) (.cons (weak_eq (congrArg AV.bool (by rw [put_step hx]; simp [h43]))) (.cons (weak_eq (succ64' hi (by omega))) (.cons (.any _) (.cons (.any _) (.cons (.any _) (.cons (.any _) (.cons (.any _) (.cons (.any _) (.cons (.any _) (.cons (.any _) (.cons (.any _) (.cons (.any _) (.cons (.any _) (.cons (.any _) (.cons (.any _) (.cons (.any _) (.cons (.any _) (.cons (.any _) (.cons (.any _) (.cons (.any _) (.cons (.any _) (.cons (.any _) (.cons (.any _) (.cons (.any _) (.cons (.any _) (.cons (.any _) (.cons (.any _) (.cons (.any _) (.cons (.any _) (.cons (.any _) (.cons (.any _) (.cons (.any _) (.cons (.any _) (.cons (.any _) (.cons (.any _) (.cons (.any _) (.cons (.any _) (.cons (.any _) (.cons (.any _) (.cons (.any _) (.cons (.any _) (.cons (.any _) (.cons (.any _) (.cons (.any _) (.cons (.any _) (.cons (.any _) (.cons (.any _) (.cons (.any _) (.cons (.any _) (.cons (.any _) (.cons (.any _) (.cons (.any _) (.cons (.any _) (.cons (.any _) (.cons (.any _) (.cons (.any _) (.cons (.any _) (.cons (.any _) (.cons (.any _) (.cons (.any _) (.cons (.any _) (.cons (.any _) (.cons (.any _) (.cons (.any _) .nil)))))))))))))))))))))))))))))))))))))))))))))))))))))))))))))))))))))))).trans (sweak_trunc (h := [some (.var (encMap m)), some (.row ((putAt l m i).1.map encMap ++ [encMap x]) 6 25)]) (l := [_, _]) (ok_vr rfl (by simp only [List.flatten_append]; exact underL_app enc_under rfl)) rfl) (Nat.le_add_right 2 2), ⟨hi, none_step hI hx (by unfold cutsR w64; rw [h31]; rfl)⟩, by omega⟩
        · refine d_pure tok rfl rfl (by dsimp only [putL, List.set]) ?_
          refine d_pure tok rfl rfl (by dsimp only [putL, List.set]) ?_
          refine d_pure tok rfl rfl (by dsimp only [putL, List.set]) ?_
          refine d_pure tok rfl rfl (by dsimp only [putL, List.set]) ?_
          refine d_pure tok rfl rfl (by dsimp only [putL, List.set]) ?_
          refine d_pure tok rfl rfl (by dsimp only [putL, List.set]) ?_
          refine d_pure tok rfl rfl (by dsimp only [putL, List.set]) ?_
          refine d_split rfl (head_p tok rfl) (by dsimp only [putL, List.set]) (by dsimp only [putL, List.set]) (fun h51 => ?_) (fun h51 => ?_)
          · refine aops_nil ?_
            refine awp_cond_true rfl ?_
            refine awp_seq ?_
            refine awp_region ?_
            refine d_pure tok rfl rfl (by dsimp only [putL, List.set]) ?_
            refine d_pure tok rfl rfl (by dsimp only [putL, List.set]) ?_
            refine d_new rfl (head_bslice tok 3 rfl rfl rfl rfl rfl rfl rfl rfl (by dsimp only [List.map, AV.cellsOf, evalL, List.getD, List.getElem?_cons_zero, List.getElem?_cons_succ, Option.getD, List.get?Internal])) (by dsimp only [putL, List.set]) (by dsimp only [List.append, HAppend.hAppend, Append.append]) ?_
            refine d_append (ys := [encMap m]) tok rfl rfl rfl rfl rfl rfl rfl rfl rfl one_len one_scal (by have := put_len l m i; simp; omega) (by have := put_len l m i; simp; omega) (by dsimp only [List.set, AV.cellsOf]) (by dsimp only [putL, List.set]) ?_
            refine d_pure tok rfl rfl (by dsimp only [putL, List.set]) ?_
            refine aops_nil ?_
            refine awp_region ?_
            refine d_pure tok rfl rfl (by dsimp only [putL, List.set]) ?_
            refine aops_nil ?_
            refine awp_region ?_
            refine d_pure tok rfl rfl (by dsimp only [putL, List.set]) ?_
            refine d_pure tok rfl rfl (by dsimp only [putL, List.set]) ?_
            refine d_new rfl (head_bslice tok 4 rfl rfl rfl rfl rfl rfl rfl rfl (by dsimp only [List.map, AV.cellsOf, evalL, List.getD, List.getElem?_cons_zero, List.getElem?_cons_succ, Option.getD, List.get?Internal])) (by dsimp only [putL, List.set]) (by dsimp only [List.append, HAppend.hAppend, Append.append]) ?_
            refine d_append (ys := [encMap x]) tok rfl rfl rfl rfl rfl rfl rfl rfl rfl one_len one_scal (by have := put_len l m i; simp; omega) (by have := put_len l m i; simp; omega) (by dsimp only [List.set, AV.cellsOf]) (by dsimp only [putL, List.set]) ?_
            refine d_pure tok rfl rfl (by dsimp only [putL, List.set]) ?_
            refine aops_nil ?_
            refine awp_region ?_
            refine d_pure tok rfl rfl (by dsimp only [putL, List.set]) ?_
            refine d_pure tok rfl rfl (by dsimp only [putL, List.set]) ?_
            refine d_pure tok rfl rfl (by dsimp only [putL, List.set]) ?_
            refine aops_nil ?_
            have he : (putAt l m i).1.map encMap ++ [encMap m] ++ [encMap x] = (putAt l m (i + 1)).1.map encMap := by rw [put_step hx]; simp [h43, of_decide_eq_true h51]
            exact ⟨i + 1, by rw [← he]; exact (sweak_tmps (.cons (weak_eq rfl) (.cons (.any _) (.cons (.any _) (.cons (weak_eq rfl) (.cons (.any _) (.cons (.any _) (.cons (weak_eq (congrArg (fun q : List (List AV) => AV.own 1 q.length) rfl)) (.cons (weak_eq (congrArg AV.bool (by rw [put_step hx]; simp [h43, of_decide_eq_true h51]))) (.cons (weak_eq (succ64' hi (by omega))) (.cons (.any _) (.cons (.any _) (.cons (.any _) (.cons (.any _) (.cons (.any _) (.cons (.any _) (.cons (.any _) (.cons (.any _) (.cons (.any _) (.cons (.any _) (.cons (.any _) (.cons (.any _) (.cons (.any _) (.cons (.any _) (.cons (.any _) (.cons (.any _) (.cons (.any _) (.cons (.any _) (.cons (.any _) (.cons (.any _) (.cons (.any _) (.cons (.any _) (.cons (.any _) (.cons (.any _) (.cons (.any _) (.cons (.any _) (.cons (.any _) (.cons (.any _) (.cons (.any _) (.cons (.any _) (.cons (.any _) (.cons (.any _) (.cons (.any _) (.cons (.any _) (.cons (.any _) (.cons (.any _) (.cons (.any _) (.cons (.any _) (.cons (.any _) (.cons (.any _) (.cons (.any _) (.cons (.any _) (.cons (.any _) (.cons (.any _) (.cons (.any _) (.cons (.any _) (.cons (.any _) (.cons (.any _) (.cons (.any _) (.cons (.any _) (.cons (.any _) (.cons (.any _) (.cons (.any _) (.cons (.any _) (.cons (.any _) (.cons (.any _) (.cons (.any _) (.cons (.any _) (.cons (.any _) (.cons (.any _) (.cons (.any _) (.cons (.any _) .nil)))))))))))))))))))))))))))))))))))))))))))))))))))))))))))))))))))))))).trans (sweak_trunc (h := [some (.var (encMap m)), some (.row ((putAt l m i).1.map encMap ++ [encMap m] ++ [encMap x]) 6 25)]) (l := [_, _, _]) (ok_vr rfl (by simp only [List.flatten_append]; exact underL_app (underL_app enc_under rfl) rfl)) rfl) (Nat.le_add_right 2 3), ⟨hi, none_step hI hx (by unfold cutsR w64; rw [h31]; rfl)⟩, by omega⟩
          · refine aops_nil ?_
            refine awp_cond_false rfl ?_
            refine awp_skip ?_
            refine awp_region ?_
            refine d_pure tok rfl rfl (by dsimp only [putL, List.set]) ?_
            refine d_pure tok rfl rfl (by dsimp only [putL, List.set]) ?_
            refine d_new rfl (head_bslice tok 3 rfl rfl rfl rfl rfl rfl rfl rfl (by dsimp only [List.map, AV.cellsOf, evalL, List.getD, List.getElem?_cons_zero, List.getElem?_cons_succ, Option.getD, List.get?Internal])) (by dsimp only [putL, List.set]) (by dsimp only [List.append, HAppend.hAppend, Append.append]) ?_
            refine d_append (ys := [encMap x]) tok rfl rfl rfl rfl rfl rfl rfl rfl rfl one_len one_scal (by have := put_len l m i; simp; omega) (by have := put_len l m i; simp; omega) (by dsimp only [List.set, AV.cellsOf]) (by dsimp only [putL, List.set]) ?_
            refine d_pure tok rfl rfl (by dsimp only [putL, List.set]) ?_
            refine aops_nil ?_
            refine awp_region ?_
            refine d_pure tok rfl rfl (by dsimp only [putL, List.set]) ?_
            refine d_pure tok rfl rfl (by dsimp only [putL, List.set]) ?_
            refine d_pure tok rfl rfl (by dsimp only [putL, List.set]) ?_
            refine aops_nil ?_
            have he : (putAt l m i).1.map encMap ++ [encMap x] = (putAt l m (i + 1)).1.map encMap := by rw [put_step hx]; simp [h43, show ¬ m.va < x.va from of_decide_eq_false h51]
            exact ⟨i + 1, by rw [← he]; exact (sweak_tmps (.cons (weak_eq rfl) (.cons (.any _) (.cons (.any _) (.cons (weak_eq rfl) (.cons (.any _) (.cons (.any _) (.cons (weak_eq (congrArg (fun q : List (List AV) => AV.own 1 q.length) rfl)) (.cons (weak_eq (congrArg AV.bool (by rw [put_step hx]; simp [h43, show ¬ m.va < x.va from of_decide_eq_false h51]))) (.cons (weak_eq (succ64' hi (by omega))) (.cons (.any _) (.cons (.any _) (.cons (.any _) (.cons (.any _) (.cons (.any _) (.cons (.any _) (.cons (.any _) (.cons (.any _) (.cons (.any _) (.cons (.any _) (.cons (.any _) (.cons (.any _) (.cons (.any _) (.cons (.any _) (.cons (.any _) (.cons (.any _) (.cons (.any _) (.cons (.any _) (.cons (.any _) (.cons (.any _) (.cons (.any _) (.cons (.any _) (.cons (.any _) (.cons (.any _) (.cons (.any _) (.cons (.any _) (.cons (.any _) (.cons (.any _) (.cons (.any _) (.cons (.any _) (.cons (.any _) (.cons (.any _) (.cons (.any _) (.cons (.any _) (.cons (.any _) (.cons (.any _) (.cons (.any _) (.cons (.any _) (.cons (.any _) (.cons (.any _) (.cons (.any _) (.cons (.any _) (.cons (.any _) (.cons (.any _) (.cons (.any _) (.cons (.any _) (.cons (.any _) (.cons (.any _) (.cons (.any _) (.cons (.any _) (.cons (.any _) (.cons (.any _) (.cons (.any _) (.cons (.any _) (.cons (.any _) (.cons (.any _) (.cons (.any _) (.cons (.any _) (.cons (.any _) (.cons (.any _) (.cons (.any _) (.cons (.any _) .nil)))))))))))))))))))))))))))))))))))))))))))))))))))))))))))))))))))))))).trans (sweak_trunc (h := [some (.var (encMap m)), some (.row ((putAt l m i).1.map encMap ++ [encMap x]) 6 25)]) (l := [_, _]) (ok_vr rfl (by simp only [List.flatten_append]; exact underL_app enc_under rfl)) rfl) (Nat.le_add_right 2 2), ⟨hi, none_step hI hx (by unfold cutsR w64; rw [h31]; rfl)⟩, by omega⟩
    · have hle : i = l.length := by have h := h17; simp at h; omega
      subst hle
      refine aops_nil ?_
      refine awp_cond_false rfl ?_
      refine awp_exit ?_
      refine awp_seq ?_
      refine awp_seq ?_
      refine awp_region ?_
      refine d_split rfl (head_p tok rfl) (by dsimp only [putL, List.set]) (by dsimp only [putL, List.set]) (fun h60 => ?_) (fun h60 => ?_)
      · refine d_pure tok rfl rfl (by dsimp only [putL, List.set]) ?_
        refine aops_nil ?_
        refine awp_cond_false rfl ?_
        refine awp_skip ?_
        refine awp_seq ?_
        refine awp_seq ?_
        refine awp_region ?_
        refine d_pure tok rfl rfl (by dsimp only [putL, List.set]) ?_
        refine d_head rfl (head_len_own tok rfl rfl rfl rfl rfl) (by dsimp only [putL, List.set]) ?_
        refine d_split rfl (head_p tok rfl) (by dsimp only [putL, List.set]) (by dsimp only [putL, List.set]) (fun h68 => ?_) (fun h68 => ?_)
        · refine aops_nil ?_
          refine awp_cond_true rfl ?_
          refine awp_seq ?_
          refine awp_region ?_
          refine d_pure tok rfl rfl (by dsimp only [putL, List.set]) ?_
          refine d_pure tok rfl rfl (by dsimp only [putL, List.set]) ?_
          refine d_pure tok rfl rfl (by dsimp only [putL, List.set]) ?_
          refine aops_nil ?_
          refine awp_ret ?_
          have e1 : oneL m = true := h11
          have e2 : l.any (cutsR m) = false := any_none hI (Nat.le_refl _)
          have e3 : putOut l m = (putAt l m l.length).1 := by simp [putOut, h60]
          exact qfun_ret rfl rfl (weak_eq (show encList (l, 6) = encList (putR l m) by unfold putR; rw [if_neg (by simp [e1]), if_neg (by simp [e2]), if_pos (by rw [e3]; have h := h68; simp at h ⊢; omega)])) rfl
        · refine aops_nil ?_
          refine awp_cond_false rfl ?_
          refine awp_skip ?_
          refine awp_seq ?_
          refine awp_region ?_
          refine d_pure tok rfl rfl (by dsimp only [putL, List.set]) ?_
          refine d_pure tok rfl rfl (by dsimp only [putL, List.set]) ?_
          refine d_pure tok rfl rfl (by dsimp only [putL, List.set]) ?_
          refine aops_nil ?_
          refine c_freeze 4 1 6 rfl rfl (len_of_flat enc_under) (by rw [hB]; exact Nat.zero_le _) (by dsimp only [putL, List.set]) (by dsimp only [List.set, AV.cellsOf]) ?_
          refine awp_ret ?_
          have e1 : oneL m = true := h11
          have e2 : l.any (cutsR m) = false := any_none hI (Nat.le_refl _)
          have e3 : putOut l m = (putAt l m l.length).1 := by simp [putOut, h60]
          exact qfun_ret rfl rfl (weak_eq (show AV.tuple [.list ((putAt l m l.length).1.map encMap), .int .i64 0] = encList (putR l m) by unfold putR; rw [if_neg (by simp [e1]), if_neg (by simp [e2]), if_neg (by rw [e3]; have h := h68; simp at h ⊢; omega)]; simp [encList, e3])) rfl
      · refine d_pure tok rfl rfl (by dsimp only [putL, List.set]) ?_
        refine aops_nil ?_
        refine awp_cond_true rfl ?_
        refine awp_region ?_
        refine d_pure tok rfl rfl (by dsimp only [putL, List.set]) ?_
        refine d_pure tok rfl rfl (by dsimp only [putL, List.set]) ?_
        refine d_new rfl (head_bslice tok 2 rfl rfl rfl rfl rfl rfl rfl rfl (by dsimp only [List.map, AV.cellsOf, evalL, List.getD, List.getElem?_cons_zero, List.getElem?_cons_succ, Option.getD, List.get?Internal])) (by dsimp only [putL, List.set]) (by dsimp only [List.append, HAppend.hAppend, Append.append]) ?_
        refine d_append (ys := [encMap m]) tok rfl rfl rfl rfl rfl rfl rfl rfl rfl one_len one_scal (by have := put_len l m l.length; simp; omega) (by have := put_len l m l.length; simp; omega) (by dsimp only [List.set, AV.cellsOf]) (by dsimp only [putL, List.set]) ?_
        refine d_pure tok rfl rfl (by dsimp only [putL, List.set]) ?_
        refine aops_nil ?_
        refine awp_seq ?_
        refine awp_seq ?_
        refine awp_region ?_
        refine d_pure tok rfl rfl (by dsimp only [putL, List.set]) ?_
        refine d_head rfl (head_len_own tok rfl rfl rfl rfl rfl) (by dsimp only [putL, List.set]) ?_
        refine d_split rfl (head_p tok rfl) (by dsimp only [putL, List.set]) (by dsimp only [putL, List.set]) (fun h68 => ?_) (fun h68 => ?_)
        · refine aops_nil ?_
          refine awp_cond_true rfl ?_
          refine awp_seq ?_
          refine awp_region ?_
          refine d_pure tok rfl rfl (by dsimp only [putL, List.set]) ?_
          refine d_pure tok rfl rfl (by dsimp only [putL, List.set]) ?_
          refine d_pure tok rfl rfl (by dsimp only [putL, List.set]) ?_
          refine aops_nil ?_
          refine awp_ret ?_
          have e1 : oneL m = true := h11
          have e2 : l.any (cutsR m) = false := any_none hI (Nat.le_refl _)
          have e3 : putOut l m = (putAt l m l.length).1 ++ [m] := by simp [putOut, h60]
          exact qfun_ret rfl rfl (weak_eq (show encList (l, 6) = encList (putR l m) by unfold putR; rw [if_neg (by simp [e1]), if_neg (by simp [e2]), if_pos (by rw [e3]; have h := h68; simp at h ⊢; omega)])) rfl
        · refine aops_nil ?_
          refine awp_cond_false rfl ?_
          refine awp_skip ?_
          refine awp_seq ?_
          refine awp_region ?_
          refine d_pure tok rfl rfl (by dsimp only [putL, List.set]) ?_
          refine d_pure tok rfl rfl (by dsimp only [putL, List.set]) ?_
          refine d_pure tok rfl rfl (by dsimp only [putL, List.set]) ?_
          refine aops_nil ?_
          refine c_freeze 4 1 6 rfl rfl (len_of_flat (by rw [List.flatten_append]; exact underL_app enc_under rfl)) (by rw [hB]; exact Nat.zero_le _) (by dsimp only [putL, List.set]) (by dsimp only [List.set, AV.cellsOf]) ?_
          refine awp_ret ?_
          have e1 : oneL m = true := h11
          have e2 : l.any (cutsR m) = false := any_none hI (Nat.le_refl _)
          have e3 : putOut l m = (putAt l m l.length).1 ++ [m] := by simp [putOut, h60]
          exact qfun_ret rfl rfl (weak_eq (show AV.tuple [.list ((putAt l m l.length).1.map encMap ++ [encMap m]), .int .i64 0] = encList (putR l m) by unfold putR; rw [if_neg (by simp [e1]), if_neg (by simp [e2]), if_neg (by rw [e3]; have h := h68; simp at h ⊢; omega)]; simp [encList, e3])) rfl
  · refine d_pure tok rfl rfl (by dsimp only [putL, List.set]) ?_
    refine aops_nil ?_
    refine awp_cond_true rfl ?_
    refine awp_seq ?_
    refine awp_region ?_
    refine d_pure tok rfl rfl (by dsimp only [putL, List.set]) ?_
    refine d_pure tok rfl rfl (by dsimp only [putL, List.set]) ?_
    refine d_pure tok rfl rfl (by dsimp only [putL, List.set]) ?_
    refine aops_nil ?_
    refine awp_ret ?_
    exact qfun_ret rfl rfl (weak_eq (show encList (l, 4) = encList (putR l m) by unfold putR; rw [if_pos h11])) rfl

theorem put_spec (l : List MapD) (m : MapD) (hl : l.length < 1000000000) (hm : l.Pairwise fun x y => x.va ≤ y.va) : PCall Try.prog 18 [.list (l.map encMap), .agg (encMap m)] (encList (putP l m)) := by
  refine d_intro Try.func18 rfl (by decide +kernel) (ts := [.list (l.map encMap), .agg (encMap m), .undef, .undef, .undef, .undef, .undef, .undef, .undef, .undef, .undef, .undef, .undef, .undef, .undef, .undef, .undef, .undef, .undef, .undef, .undef, .undef, .undef, .undef, .undef, .undef, .undef, .undef, .undef, .undef, .undef, .undef]) rfl fun B hB => ?_
  refine awp_seq ?_
  refine awp_region ?_
  refine d_new rfl (head_box 0 rfl rfl) (by dsimp only [putL, List.set]) (by dsimp only [List.append, HAppend.hAppend, Append.append]) ?_
  refine d_pure tok rfl rfl (by dsimp only [putL, List.set]) ?_
  refine d_pure tok rfl rfl (by dsimp only [putL, List.set]) ?_
  refine aops_nil ?_
  refine awp_seq ?_
  refine awp_region ?_
  refine d_pure tok rfl rfl (by dsimp only [putL, List.set]) ?_
  refine d_new rfl (head_alloc tok 1 rfl rfl) (by dsimp only [putL, List.set]) (by dsimp only [List.append, HAppend.hAppend, Append.append]) ?_
  refine d_store_all tok rfl rfl rfl rfl rfl rfl rfl rfl rfl (by dsimp only [List.set, AV.cellsOf]) (by dsimp only [putL, List.set]) ?_
  refine aops_nil ?_
  refine awp_seq ?_
  refine awp_block ?_
  refine awp_seq ?_
  refine awp_region ?_
  refine d_pure tok rfl rfl (by dsimp only [putL, List.set]) ?_
  refine d_head rfl (head_call rfl rfl rfl rfl (good_spec _)) (by dsimp only [putL, List.set]) ?_
  refine d_pure tok rfl rfl (by dsimp only [putL, List.set]) ?_
  refine d_split rfl (head_p tok rfl) (by dsimp only [putL, List.set]) (by dsimp only [putL, List.set]) (fun h8 => ?_) (fun h8 => ?_)
  · refine aops_nil ?_
    refine awp_cond_true rfl ?_
    refine awp_seq ?_
    refine awp_region ?_
    refine d_pure tok rfl rfl (by dsimp only [putL, List.set]) ?_
    refine d_pure tok rfl rfl (by dsimp only [putL, List.set]) ?_
    refine d_pure tok rfl rfl (by dsimp only [putL, List.set]) ?_
    refine aops_nil ?_
    refine awp_ret ?_
    exact qfun_ret rfl rfl (weak_eq (show encList (l, 4) = encList (putP l m) by unfold putP; rw [if_pos (by simpa using h8)])) rfl
  · refine aops_nil ?_
    refine awp_cond_false rfl ?_
    refine awp_seq ?_
    refine awp_region ?_
    refine d_pure tok rfl rfl (by dsimp only [putL, List.set]) ?_
    refine d_freeze_var 1 rfl rfl (by rw [hB]; exact Nat.zero_le _) (by dsimp only [AV.frzL, AV.frz, Nat.beq, List.drop]) (by dsimp only [List.set]) ?_
    refine d_pure tok rfl rfl (by dsimp only [putL, List.set]) ?_
    refine d_head rfl (head_callp (indexfunc_map_spec_c l 70 [.fptr (encMap m)] (meetsL m) rfl (fun x _ => put1_spec m x) (by omega)) rfl rfl rfl rfl) (by dsimp only [putL, List.set]) ?_
    refine d_split rfl (head_p tok rfl) (by dsimp only [putL, List.set]) (by dsimp only [putL, List.set]) (fun h13 => ?_) (fun h13 => ?_)
    · refine aops_nil ?_
      refine awp_cond_true rfl ?_
      refine awp_seq ?_
      refine awp_region ?_
      refine d_pure tok rfl rfl (by dsimp only [putL, List.set]) ?_
      refine d_pure tok rfl rfl (by dsimp only [putL, List.set]) ?_
      refine d_pure tok rfl rfl (by dsimp only [putL, List.set]) ?_
      refine aops_nil ?_
      refine awp_ret ?_
      exact qfun_ret rfl rfl (weak_eq (show encList (l, 12) = encList (putP l m) by unfold putP; rw [if_neg (by have h := h8; simp at h; simp [h]), if_pos h13])) rfl
    · refine aops_nil ?_
      refine awp_cond_false rfl ?_
      refine awp_seq ?_
      refine awp_region ?_
      refine d_pure tok rfl rfl (by dsimp only [putL, List.set]) ?_
      refine d_pure tok rfl rfl (by dsimp only [putL, List.set]) ?_
      refine d_pure tok rfl rfl (by dsimp only [putL, List.set]) ?_
      refine d_split rfl (head_p tok rfl) (by dsimp only [putL, List.set]) (by dsimp only [putL, List.set]) (fun h18 => ?_) (fun h18 => ?_)
      · refine aops_nil ?_
        refine awp_cond_true rfl ?_
        refine awp_seq ?_
        refine awp_region ?_
        refine d_pure tok rfl rfl (by dsimp only [putL, List.set]) ?_
        refine d_pure tok rfl rfl (by dsimp only [putL, List.set]) ?_
        refine d_pure tok rfl rfl (by dsimp only [putL, List.set]) ?_
        refine aops_nil ?_
        refine awp_ret ?_
        exact qfun_ret rfl rfl (weak_eq (show encList (l, 6) = encList (putP l m) by unfold putP; rw [if_neg (by have h := h8; simp at h; simp [h]), if_neg (by simp [h13]), if_pos (by simpa using h18)])) rfl
      · refine aops_nil ?_
        refine awp_cond_false rfl ?_
        refine awp_skip ?_
        refine awp_seq ?_
        refine awp_draw 8 mixed (by decide +kernel) ?_
        refine hk_pure tok rfl rfl (by dsimp only [putL, List.set]) ?_
        refine hk_new rfl (head_ocall 2 (clone_map_spec (l.map encMap) enc_len enc_scal enc_under (by rw [List.length_map]; omega)) rfl enc_under rfl rfl rfl) (by dsimp only [putL, List.set]) ?_
        refine hk_pure tok rfl rfl (by dsimp only [putL, List.set]) ?_
        refine hk_pure tok rfl rfl (by dsimp only [putL, List.set]) ?_
        refine hk_pure tok rfl rfl (by dsimp only [putL, List.set]) ?_
        refine hk_head rfl (head_call rfl rfl rfl rfl (at_spec l m.va 75 [] (·.va) rfl (fun x _ => va_spec x) (by omega) hm)) (by dsimp only [putL, List.set]) ?_
        refine hk_pure tok rfl rfl (by dsimp only [putL, List.set]) ?_
        refine hk_new rfl (head_bslice tok 3 rfl rfl rfl rfl rfl rfl rfl rfl (by dsimp only [List.map, AV.cellsOf, evalL, List.getD, List.getElem?_cons_zero, List.getElem?_cons_succ, Option.getD, List.get?Internal])) (by dsimp only [putL, List.set]) ?_
        refine .nil ?_
        refine d_call (h0 := [some (.row (l.map encMap) 6 25), some (.row [encMap m] 6 25)]) (h0' := [none, some (.row [encMap m] 6 25)]) [2, 3] (insert_map_spec (l.map encMap) [encMap m] (atL (·.va) l m.va) enc_len one_len enc_scal one_sc enc_under rfl (by rw [List.length_map]; exact at_le _ _ _) (by simp) (by simp; omega)) rfl rfl (by decide) flat2r flat2n rfl rfl rfl rfl rfl rfl rfl rfl (by dsimp only [putL, List.set, AV.ren]) ?_
        refine d_pure tok rfl rfl (by dsimp only [putL, List.set]) ?_
        refine d_pure tok rfl rfl (by dsimp only [putL, List.set]) ?_
        refine aops_nil ?_
        refine awp_ret ?_
        exact qfun_ret rfl rfl (weak_eq (show AV.tuple [.list ((l.map encMap).take (atL (·.va) l m.va) ++ [encMap m] ++ (l.map encMap).drop (atL (·.va) l m.va)), .int .i64 0] = encList (putP l m) by unfold putP; rw [if_neg (by have h := h8; simp at h; simp [h]), if_neg (by simp [h13]), if_neg (by simpa using h18)]; simp [encList])) rfl

end Go.Proofs.Ytpckfpahmnhfcaa.F
