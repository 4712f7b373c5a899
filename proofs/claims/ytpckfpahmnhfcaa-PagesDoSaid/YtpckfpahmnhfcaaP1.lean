/- Walks of the layer of pages. Printed by wip/gen/walk.py out of wip/gen/spec_pages.py. -/
import Derived.Test.YtpckfpahmnhfcaaG12
import Derived.Test.YtpckfpahmnhfcaaP0
namespace Go.Proofs.Ytpckfpahmnhfcaa.F
open Go Go.RowKit Go.Proofs.Ytpckfpahmnhfcaa.G
set_option linter.unusedVariables false
set_option maxRecDepth 20000
set_option maxHeartbeats 4000000

theorem within_spec (a b : Int) : PCall Try.prog 116 [.int .i64 a, .int .i64 b] (.bool (withinL a b)) := by
  refine d_intro Try.func116 rfl (by decide +kernel) (ts := [.int .i64 a, .int .i64 b, .undef, .undef, .undef, .undef, .undef, .undef, .undef, .undef, .undef, .undef, .undef, .undef, .undef, .undef, .undef, .undef, .undef, .undef, .undef]) rfl fun B hB => ?_
  refine awp_seq ?_
  refine awp_region ?_
  refine d_pure tok rfl rfl (by dsimp only [putL, List.set]) ?_
  refine aops_nil ?_
  refine awp_seq ?_
  refine awp_region ?_
  refine d_pure tok rfl rfl (by dsimp only [putL, List.set]) ?_
  refine d_split rfl (head_p tok rfl) (by dsimp only [putL, List.set]) (by dsimp only [putL, List.set]) (fun h6 => ?_) (fun h6 => ?_)
  · refine d_pure tok rfl rfl (by dsimp only [putL, List.set]) ?_
    refine d_pure tok rfl rfl (by dsimp only [putL, List.set]) ?_
    refine d_pure tok rfl rfl (by dsimp only [putL, List.set]) ?_
    refine d_split rfl (head_p tok rfl) (by dsimp only [putL, List.set]) (by dsimp only [putL, List.set]) (fun h10 => ?_) (fun h10 => ?_)
    · refine d_pure tok rfl rfl (by dsimp only [putL, List.set]) ?_
      refine d_pure tok rfl rfl (by dsimp only [putL, List.set]) ?_
      refine d_pure tok rfl rfl (by dsimp only [putL, List.set]) ?_
      refine d_split rfl (head_p tok rfl) (by dsimp only [putL, List.set]) (by dsimp only [putL, List.set]) (fun h14 => ?_) (fun h14 => ?_)
      · refine d_pure tok rfl rfl (by dsimp only [putL, List.set]) ?_
        refine d_pure tok rfl rfl (by dsimp only [putL, List.set]) ?_
        refine d_pure tok rfl rfl (by dsimp only [putL, List.set]) ?_
        refine d_pure tok rfl rfl (by dsimp only [putL, List.set]) ?_
        refine d_pure tok rfl rfl (by dsimp only [putL, List.set]) ?_
        refine d_pure tok rfl rfl (by dsimp only [putL, List.set]) ?_
        refine d_pure tok rfl rfl (by dsimp only [putL, List.set]) ?_
        refine aops_nil ?_
        refine awp_ret ?_
        exact qfun_ret rfl rfl (weak_eq (by simp [withinL, *])) rfl
      · refine d_pure tok rfl rfl (by dsimp only [putL, List.set]) ?_
        refine d_skip rfl (by dsimp only [putL, List.set]) ?_
        refine d_skip rfl (by dsimp only [putL, List.set]) ?_
        refine d_skip rfl (by dsimp only [putL, List.set]) ?_
        refine d_skip rfl (by dsimp only [putL, List.set]) ?_
        refine d_pure tok rfl rfl (by dsimp only [putL, List.set]) ?_
        refine d_pure tok rfl rfl (by dsimp only [putL, List.set]) ?_
        refine aops_nil ?_
        refine awp_ret ?_
        exact qfun_ret rfl rfl (weak_eq (by simp [withinL, *])) rfl
    · refine d_pure tok rfl rfl (by dsimp only [putL, List.set]) ?_
      refine d_skip rfl (by dsimp only [putL, List.set]) ?_
      refine d_skip rfl (by dsimp only [putL, List.set]) ?_
      refine d_pure tok rfl rfl (by dsimp only [putL, List.set]) ?_
      refine d_pure tok rfl rfl (by dsimp only [putL, List.set]) ?_
      refine d_skip rfl (by dsimp only [putL, List.set]) ?_
      refine d_skip rfl (by dsimp only [putL, List.set]) ?_
      refine d_skip rfl (by dsimp only [putL, List.set]) ?_
      refine d_skip rfl (by dsimp only [putL, List.set]) ?_
      refine d_pure tok rfl rfl (by dsimp only [putL, List.set]) ?_
      refine d_pure tok rfl rfl (by dsimp only [putL, List.set]) ?_
      refine aops_nil ?_
      refine awp_ret ?_
      exact qfun_ret rfl rfl (weak_eq (by simp [withinL, *])) rfl
  · refine d_pure tok rfl rfl (by dsimp only [putL, List.set]) ?_
    refine d_skip rfl (by dsimp only [putL, List.set]) ?_
    refine d_skip rfl (by dsimp only [putL, List.set]) ?_
    refine d_pure tok rfl rfl (by dsimp only [putL, List.set]) ?_
    refine d_pure tok rfl rfl (by dsimp only [putL, List.set]) ?_
    refine d_skip rfl (by dsimp only [putL, List.set]) ?_
    refine d_skip rfl (by dsimp only [putL, List.set]) ?_
    refine d_pure tok rfl rfl (by dsimp only [putL, List.set]) ?_
    refine d_pure tok rfl rfl (by dsimp only [putL, List.set]) ?_
    refine d_skip rfl (by dsimp only [putL, List.set]) ?_
    refine d_skip rfl (by dsimp only [putL, List.set]) ?_
    refine d_skip rfl (by dsimp only [putL, List.set]) ?_
    refine d_skip rfl (by dsimp only [putL, List.set]) ?_
    refine d_pure tok rfl rfl (by dsimp only [putL, List.set]) ?_
    refine d_pure tok rfl rfl (by dsimp only [putL, List.set]) ?_
    refine aops_nil ?_
    refine awp_ret ?_
    exact qfun_ret rfl rfl (weak_eq (by simp [withinL, *])) rfl

theorem good_spec (m : MapD) : PCall Try.prog 65 [.agg (encMap m)] (.bool (goodL m)) := by
  refine d_intro Try.func65 rfl (by decide +kernel) (ts := [.agg (encMap m), .undef, .undef, .undef, .undef, .undef, .undef, .undef, .undef, .undef, .undef, .undef, .undef, .undef, .undef]) rfl fun B hB => ?_
  refine awp_seq ?_
  refine awp_region ?_
  refine d_new rfl (head_box _ rfl rfl) (by dsimp only [putL, List.set]) (by dsimp only [List.append, HAppend.hAppend, Append.append]) ?_
  refine d_pure tok rfl rfl (by dsimp only [putL, List.set]) ?_
  refine aops_nil ?_
  refine awp_seq ?_
  refine awp_region ?_
  refine d_pure tok rfl rfl (by dsimp only [putL, List.set]) ?_
  refine d_pure tok rfl rfl (by dsimp only [putL, List.set]) ?_
  refine d_pure tok rfl rfl (by dsimp only [putL, List.set]) ?_
  refine d_pure tok rfl rfl (by dsimp only [putL, List.set]) ?_
  refine d_split rfl (head_call rfl rfl rfl rfl (within_spec _ _)) (by dsimp only [putL, List.set]) (by dsimp only [putL, List.set]) (fun h7 => ?_) (fun h7 => ?_)
  · refine d_pure tok rfl rfl (by dsimp only [putL, List.set]) ?_
    refine d_pure tok rfl rfl (by dsimp only [putL, List.set]) ?_
    refine d_pure tok rfl rfl (by dsimp only [putL, List.set]) ?_
    refine d_pure tok rfl rfl (by dsimp only [putL, List.set]) ?_
    refine d_pure tok rfl rfl (by dsimp only [putL, List.set]) ?_
    refine d_head rfl (head_call rfl rfl rfl rfl (within_spec _ _)) (by dsimp only [putL, List.set]) ?_
    refine d_pure tok rfl rfl (by dsimp only [putL, List.set]) ?_
    refine d_pure tok rfl rfl (by dsimp only [putL, List.set]) ?_
    refine aops_nil ?_
    refine awp_ret ?_
    exact qfun_ret rfl rfl (weak_eq (by simp [goodL, *])) rfl
  · refine d_pure tok rfl rfl (by dsimp only [putL, List.set]) ?_
    refine d_skip rfl (by dsimp only [putL, List.set]) ?_
    refine d_skip rfl (by dsimp only [putL, List.set]) ?_
    refine d_skip rfl (by dsimp only [putL, List.set]) ?_
    refine d_skip rfl (by dsimp only [putL, List.set]) ?_
    refine d_skip rfl (by dsimp only [putL, List.set]) ?_
    refine d_pure tok rfl rfl (by dsimp only [putL, List.set]) ?_
    refine d_pure tok rfl rfl (by dsimp only [putL, List.set]) ?_
    refine aops_nil ?_
    refine awp_ret ?_
    exact qfun_ret rfl rfl (weak_eq (by simp [goodL, *])) rfl

theorem end_spec (m : MapD) : PCall Try.prog 66 [.agg (encMap m)] (.int .i64 (endL m)) := by
  refine d_intro Try.func66 rfl (by decide +kernel) (ts := [.agg (encMap m), .undef, .undef, .undef, .undef, .undef, .undef, .undef]) rfl fun B hB => ?_
  refine awp_seq ?_
  refine awp_region ?_
  refine d_new rfl (head_box _ rfl rfl) (by dsimp only [putL, List.set]) (by dsimp only [List.append, HAppend.hAppend, Append.append]) ?_
  refine d_pure tok rfl rfl (by dsimp only [putL, List.set]) ?_
  refine aops_nil ?_
  refine awp_seq ?_
  refine awp_region ?_
  refine d_pure tok rfl rfl (by dsimp only [putL, List.set]) ?_
  refine d_pure tok rfl rfl (by dsimp only [putL, List.set]) ?_
  refine d_pure tok rfl rfl (by dsimp only [putL, List.set]) ?_
  refine d_pure tok rfl rfl (by dsimp only [putL, List.set]) ?_
  refine d_pure tok rfl rfl (by dsimp only [putL, List.set]) ?_
  refine d_pure tok rfl rfl (by dsimp only [putL, List.set]) ?_
  refine aops_nil ?_
  refine awp_ret ?_
  exact qfun_ret rfl rfl (Weak.refl _) rfl

theorem has_spec (m : MapD) (p : Int) : PCall Try.prog 78 [.agg (encMap m), .int .i64 p] (.bool (hasL m p)) := by
  refine d_intro Try.func78 rfl (by decide +kernel) (ts := [.agg (encMap m), .int .i64 p, .undef, .undef, .undef, .undef, .undef, .undef, .undef, .undef, .undef, .undef, .undef, .undef, .undef]) rfl fun B hB => ?_
  refine awp_seq ?_
  refine awp_region ?_
  refine d_new rfl (head_box _ rfl rfl) (by dsimp only [putL, List.set]) (by dsimp only [List.append, HAppend.hAppend, Append.append]) ?_
  refine d_pure tok rfl rfl (by dsimp only [putL, List.set]) ?_
  refine aops_nil ?_
  refine awp_seq ?_
  refine awp_region ?_
  refine d_pure tok rfl rfl (by dsimp only [putL, List.set]) ?_
  refine d_pure tok rfl rfl (by dsimp only [putL, List.set]) ?_
  refine d_pure tok rfl rfl (by dsimp only [putL, List.set]) ?_
  refine d_split rfl (head_p tok rfl) (by dsimp only [putL, List.set]) (by dsimp only [putL, List.set]) (fun h8 => ?_) (fun h8 => ?_)
  · refine d_pure tok rfl rfl (by dsimp only [putL, List.set]) ?_
    refine d_pure tok rfl rfl (by dsimp only [putL, List.set]) ?_
    refine d_pure tok rfl rfl (by dsimp only [putL, List.set]) ?_
    refine d_head rfl (head_call rfl rfl rfl rfl (end_spec _)) (by dsimp only [putL, List.set]) ?_
    refine d_pure tok rfl rfl (by dsimp only [putL, List.set]) ?_
    refine d_pure tok rfl rfl (by dsimp only [putL, List.set]) ?_
    refine d_pure tok rfl rfl (by dsimp only [putL, List.set]) ?_
    refine aops_nil ?_
    refine awp_ret ?_
    exact qfun_ret rfl rfl (weak_eq (by simp [hasL, *])) rfl
  · refine d_pure tok rfl rfl (by dsimp only [putL, List.set]) ?_
    refine d_skip rfl (by dsimp only [putL, List.set]) ?_
    refine d_skip rfl (by dsimp only [putL, List.set]) ?_
    refine d_skip rfl (by dsimp only [putL, List.set]) ?_
    refine d_skip rfl (by dsimp only [putL, List.set]) ?_
    refine d_pure tok rfl rfl (by dsimp only [putL, List.set]) ?_
    refine d_pure tok rfl rfl (by dsimp only [putL, List.set]) ?_
    refine aops_nil ?_
    refine awp_ret ?_
    exact qfun_ret rfl rfl (weak_eq (by simp [hasL, *])) rfl

theorem meets_spec (m k : MapD) : PCall Try.prog 71 [.agg (encMap m), .agg (encMap k)] (.bool (meetsL m k)) := by
  refine d_intro Try.func71 rfl (by decide +kernel) (ts := [.agg (encMap m), .agg (encMap k), .undef, .undef, .undef, .undef, .undef, .undef, .undef, .undef, .undef, .undef, .undef, .undef, .undef]) rfl fun B hB => ?_
  refine awp_seq ?_
  refine awp_region ?_
  refine d_new rfl (head_box _ rfl rfl) (by dsimp only [putL, List.set]) (by dsimp only [List.append, HAppend.hAppend, Append.append]) ?_
  refine d_new rfl (head_box _ rfl rfl) (by dsimp only [putL, List.set]) (by dsimp only [List.append, HAppend.hAppend, Append.append]) ?_
  refine d_pure tok rfl rfl (by dsimp only [putL, List.set]) ?_
  refine aops_nil ?_
  refine awp_seq ?_
  refine awp_region ?_
  refine d_pure tok rfl rfl (by dsimp only [putL, List.set]) ?_
  refine d_pure tok rfl rfl (by dsimp only [putL, List.set]) ?_
  refine d_pure tok rfl rfl (by dsimp only [putL, List.set]) ?_
  refine d_split rfl (head_call rfl rfl rfl rfl (has_spec _ _)) (by dsimp only [putL, List.set]) (by dsimp only [putL, List.set]) (fun h8 => ?_) (fun h8 => ?_)
  · refine d_pure tok rfl rfl (by dsimp only [putL, List.set]) ?_
    refine d_skip rfl (by dsimp only [putL, List.set]) ?_
    refine d_skip rfl (by dsimp only [putL, List.set]) ?_
    refine d_skip rfl (by dsimp only [putL, List.set]) ?_
    refine d_skip rfl (by dsimp only [putL, List.set]) ?_
    refine d_pure tok rfl rfl (by dsimp only [putL, List.set]) ?_
    refine d_pure tok rfl rfl (by dsimp only [putL, List.set]) ?_
    refine aops_nil ?_
    refine awp_ret ?_
    exact qfun_ret rfl rfl (weak_eq (by simp [meetsL, *])) rfl
  · refine d_pure tok rfl rfl (by dsimp only [putL, List.set]) ?_
    refine d_pure tok rfl rfl (by dsimp only [putL, List.set]) ?_
    refine d_pure tok rfl rfl (by dsimp only [putL, List.set]) ?_
    refine d_pure tok rfl rfl (by dsimp only [putL, List.set]) ?_
    refine d_head rfl (head_call rfl rfl rfl rfl (has_spec _ _)) (by dsimp only [putL, List.set]) ?_
    refine d_pure tok rfl rfl (by dsimp only [putL, List.set]) ?_
    refine d_pure tok rfl rfl (by dsimp only [putL, List.set]) ?_
    refine aops_nil ?_
    refine awp_ret ?_
    exact qfun_ret rfl rfl (weak_eq (by simp [meetsL, *])) rfl

theorem one_spec (m : MapD) : PCall Try.prog 67 [.agg (encMap m)] (.bool (oneL m)) := by
  refine d_intro Try.func67 rfl (by decide +kernel) (ts := [.agg (encMap m), .undef, .undef, .undef, .undef, .undef, .undef, .undef, .undef, .undef, .undef, .undef, .undef, .undef, .undef, .undef, .undef, .undef, .undef, .undef, .undef, .undef, .undef, .undef, .undef, .undef, .undef, .undef, .undef, .undef, .undef, .undef, .undef, .undef, .undef, .undef, .undef, .undef, .undef, .undef, .undef, .undef, .undef, .undef, .undef, .undef, .undef]) rfl fun B hB => ?_
  refine awp_seq ?_
  refine awp_region ?_
  refine d_new rfl (head_box _ rfl rfl) (by dsimp only [putL, List.set]) (by dsimp only [List.append, HAppend.hAppend, Append.append]) ?_
  refine d_pure tok rfl rfl (by dsimp only [putL, List.set]) ?_
  refine aops_nil ?_
  refine awp_seq ?_
  refine awp_region ?_
  refine d_pure tok rfl rfl (by dsimp only [putL, List.set]) ?_
  refine d_pure tok rfl rfl (by dsimp only [putL, List.set]) ?_
  refine d_split rfl (head_p tok rfl) (by dsimp only [putL, List.set]) (by dsimp only [putL, List.set]) (fun h5 => ?_) (fun h5 => ?_)
  · refine d_pure tok rfl rfl (by dsimp only [putL, List.set]) ?_
    refine d_pure tok rfl rfl (by dsimp only [putL, List.set]) ?_
    refine d_pure tok rfl rfl (by dsimp only [putL, List.set]) ?_
    refine d_pure tok rfl rfl (by dsimp only [putL, List.set]) ?_
    refine d_split rfl (head_p tok rfl) (by dsimp only [putL, List.set]) (by dsimp only [putL, List.set]) (fun h10 => ?_) (fun h10 => ?_)
    · refine d_pure tok rfl rfl (by dsimp only [putL, List.set]) ?_
      refine d_pure tok rfl rfl (by dsimp only [putL, List.set]) ?_
      refine d_pure tok rfl rfl (by dsimp only [putL, List.set]) ?_
      refine d_pure tok rfl rfl (by dsimp only [putL, List.set]) ?_
      refine d_split rfl (head_p tok rfl) (by dsimp only [putL, List.set]) (by dsimp only [putL, List.set]) (fun h15 => ?_) (fun h15 => ?_)
      · refine d_pure tok rfl rfl (by dsimp only [putL, List.set]) ?_
        refine d_pure tok rfl rfl (by dsimp only [putL, List.set]) ?_
        refine d_pure tok rfl rfl (by dsimp only [putL, List.set]) ?_
        refine d_pure tok rfl rfl (by dsimp only [putL, List.set]) ?_
        refine d_split rfl (head_p tok rfl) (by dsimp only [putL, List.set]) (by dsimp only [putL, List.set]) (fun h20 => ?_) (fun h20 => ?_)
        · refine d_pure tok rfl rfl (by dsimp only [putL, List.set]) ?_
          refine d_pure tok rfl rfl (by dsimp only [putL, List.set]) ?_
          refine d_pure tok rfl rfl (by dsimp only [putL, List.set]) ?_
          refine d_pure tok rfl rfl (by dsimp only [putL, List.set]) ?_
          refine d_split rfl (head_p tok rfl) (by dsimp only [putL, List.set]) (by dsimp only [putL, List.set]) (fun h25 => ?_) (fun h25 => ?_)
          · refine d_pure tok rfl rfl (by dsimp only [putL, List.set]) ?_
            refine d_pure tok rfl rfl (by dsimp only [putL, List.set]) ?_
            refine d_pure tok rfl rfl (by dsimp only [putL, List.set]) ?_
            refine d_pure tok rfl rfl (by dsimp only [putL, List.set]) ?_
            refine d_split rfl (head_p tok rfl) (by dsimp only [putL, List.set]) (by dsimp only [putL, List.set]) (fun h30 => ?_) (fun h30 => ?_)
            · refine d_pure tok rfl rfl (by dsimp only [putL, List.set]) ?_
              refine d_pure tok rfl rfl (by dsimp only [putL, List.set]) ?_
              refine d_pure tok rfl rfl (by dsimp only [putL, List.set]) ?_
              refine d_pure tok rfl rfl (by dsimp only [putL, List.set]) ?_
              refine d_pure tok rfl rfl (by dsimp only [putL, List.set]) ?_
              refine d_pure tok rfl rfl (by dsimp only [putL, List.set]) ?_
              refine d_pure tok rfl rfl (by dsimp only [putL, List.set]) ?_
              refine d_split rfl (head_p tok rfl) (by dsimp only [putL, List.set]) (by dsimp only [putL, List.set]) (fun h38 => ?_) (fun h38 => ?_)
              · refine d_pure tok rfl rfl (by dsimp only [putL, List.set]) ?_
                refine d_pure tok rfl rfl (by dsimp only [putL, List.set]) ?_
                refine d_pure tok rfl rfl (by dsimp only [putL, List.set]) ?_
                refine d_pure tok rfl rfl (by dsimp only [putL, List.set]) ?_
                refine d_pure tok rfl rfl (by dsimp only [putL, List.set]) ?_
                refine d_pure tok rfl rfl (by dsimp only [putL, List.set]) ?_
                refine d_pure tok rfl rfl (by dsimp only [putL, List.set]) ?_
                refine d_pure tok rfl rfl (by dsimp only [putL, List.set]) ?_
                refine d_pure tok rfl rfl (by dsimp only [putL, List.set]) ?_
                refine aops_nil ?_
                refine awp_ret ?_
                exact qfun_ret rfl rfl (weak_eq (by simp [oneL, *])) rfl
              · refine d_pure tok rfl rfl (by dsimp only [putL, List.set]) ?_
                refine d_skip rfl (by dsimp only [putL, List.set]) ?_
                refine d_skip rfl (by dsimp only [putL, List.set]) ?_
                refine d_skip rfl (by dsimp only [putL, List.set]) ?_
                refine d_skip rfl (by dsimp only [putL, List.set]) ?_
                refine d_skip rfl (by dsimp only [putL, List.set]) ?_
                refine d_skip rfl (by dsimp only [putL, List.set]) ?_
                refine d_pure tok rfl rfl (by dsimp only [putL, List.set]) ?_
                refine d_pure tok rfl rfl (by dsimp only [putL, List.set]) ?_
                refine aops_nil ?_
                refine awp_ret ?_
                exact qfun_ret rfl rfl (weak_eq (by simp [oneL, *])) rfl
            · refine d_pure tok rfl rfl (by dsimp only [putL, List.set]) ?_
              refine d_skip rfl (by dsimp only [putL, List.set]) ?_
              refine d_skip rfl (by dsimp only [putL, List.set]) ?_
              refine d_skip rfl (by dsimp only [putL, List.set]) ?_
              refine d_skip rfl (by dsimp only [putL, List.set]) ?_
              refine d_skip rfl (by dsimp only [putL, List.set]) ?_
              refine d_skip rfl (by dsimp only [putL, List.set]) ?_
              refine d_pure tok rfl rfl (by dsimp only [putL, List.set]) ?_
              refine d_pure tok rfl rfl (by dsimp only [putL, List.set]) ?_
              refine d_skip rfl (by dsimp only [putL, List.set]) ?_
              refine d_skip rfl (by dsimp only [putL, List.set]) ?_
              refine d_skip rfl (by dsimp only [putL, List.set]) ?_
              refine d_skip rfl (by dsimp only [putL, List.set]) ?_
              refine d_skip rfl (by dsimp only [putL, List.set]) ?_
              refine d_skip rfl (by dsimp only [putL, List.set]) ?_
              refine d_pure tok rfl rfl (by dsimp only [putL, List.set]) ?_
              refine d_pure tok rfl rfl (by dsimp only [putL, List.set]) ?_
              refine aops_nil ?_
              refine awp_ret ?_
              exact qfun_ret rfl rfl (weak_eq (by simp [oneL, *])) rfl
          · refine d_pure tok rfl rfl (by dsimp only [putL, List.set]) ?_
            refine d_skip rfl (by dsimp only [putL, List.set]) ?_
            refine d_skip rfl (by dsimp only [putL, List.set]) ?_
            refine d_skip rfl (by dsimp only [putL, List.set]) ?_
            refine d_pure tok rfl rfl (by dsimp only [putL, List.set]) ?_
            refine d_pure tok rfl rfl (by dsimp only [putL, List.set]) ?_
            refine d_skip rfl (by dsimp only [putL, List.set]) ?_
            refine d_skip rfl (by dsimp only [putL, List.set]) ?_
            refine d_skip rfl (by dsimp only [putL, List.set]) ?_
            refine d_skip rfl (by dsimp only [putL, List.set]) ?_
            refine d_skip rfl (by dsimp only [putL, List.set]) ?_
            refine d_skip rfl (by dsimp only [putL, List.set]) ?_
            refine d_pure tok rfl rfl (by dsimp only [putL, List.set]) ?_
            refine d_pure tok rfl rfl (by dsimp only [putL, List.set]) ?_
            refine d_skip rfl (by dsimp only [putL, List.set]) ?_
            refine d_skip rfl (by dsimp only [putL, List.set]) ?_
            refine d_skip rfl (by dsimp only [putL, List.set]) ?_
            refine d_skip rfl (by dsimp only [putL, List.set]) ?_
            refine d_skip rfl (by dsimp only [putL, List.set]) ?_
            refine d_skip rfl (by dsimp only [putL, List.set]) ?_
            refine d_pure tok rfl rfl (by dsimp only [putL, List.set]) ?_
            refine d_pure tok rfl rfl (by dsimp only [putL, List.set]) ?_
            refine aops_nil ?_
            refine awp_ret ?_
            exact qfun_ret rfl rfl (weak_eq (by simp [oneL, *])) rfl
        · refine d_pure tok rfl rfl (by dsimp only [putL, List.set]) ?_
          refine d_skip rfl (by dsimp only [putL, List.set]) ?_
          refine d_skip rfl (by dsimp only [putL, List.set]) ?_
          refine d_skip rfl (by dsimp only [putL, List.set]) ?_
          refine d_pure tok rfl rfl (by dsimp only [putL, List.set]) ?_
          refine d_pure tok rfl rfl (by dsimp only [putL, List.set]) ?_
          refine d_skip rfl (by dsimp only [putL, List.set]) ?_
          refine d_skip rfl (by dsimp only [putL, List.set]) ?_
          refine d_skip rfl (by dsimp only [putL, List.set]) ?_
          refine d_pure tok rfl rfl (by dsimp only [putL, List.set]) ?_
          refine d_pure tok rfl rfl (by dsimp only [putL, List.set]) ?_
          refine d_skip rfl (by dsimp only [putL, List.set]) ?_
          refine d_skip rfl (by dsimp only [putL, List.set]) ?_
          refine d_skip rfl (by dsimp only [putL, List.set]) ?_
          refine d_skip rfl (by dsimp only [putL, List.set]) ?_
          refine d_skip rfl (by dsimp only [putL, List.set]) ?_
          refine d_skip rfl (by dsimp only [putL, List.set]) ?_
          refine d_pure tok rfl rfl (by dsimp only [putL, List.set]) ?_
          refine d_pure tok rfl rfl (by dsimp only [putL, List.set]) ?_
          refine d_skip rfl (by dsimp only [putL, List.set]) ?_
          refine d_skip rfl (by dsimp only [putL, List.set]) ?_
          refine d_skip rfl (by dsimp only [putL, List.set]) ?_
          refine d_skip rfl (by dsimp only [putL, List.set]) ?_
          refine d_skip rfl (by dsimp only [putL, List.set]) ?_
          refine d_skip rfl (by dsimp only [putL, List.set]) ?_
          refine d_pure tok rfl rfl (by dsimp only [putL, List.set]) ?_
          refine d_pure tok rfl rfl (by dsimp only [putL, List.set]) ?_
          refine aops_nil ?_
          refine awp_ret ?_
          exact qfun_ret rfl rfl (weak_eq (by simp [oneL, *])) rfl
      · refine d_pure tok rfl rfl (by dsimp only [putL, List.set]) ?_
        refine d_skip rfl (by dsimp only [putL, List.set]) ?_
        refine d_skip rfl (by dsimp only [putL, List.set]) ?_
        refine d_skip rfl (by dsimp only [putL, List.set]) ?_
        refine d_pure tok rfl rfl (by dsimp only [putL, List.set]) ?_
        refine d_pure tok rfl rfl (by dsimp only [putL, List.set]) ?_
        refine d_skip rfl (by dsimp only [putL, List.set]) ?_
        refine d_skip rfl (by dsimp only [putL, List.set]) ?_
        refine d_skip rfl (by dsimp only [putL, List.set]) ?_
        refine d_pure tok rfl rfl (by dsimp only [putL, List.set]) ?_
        refine d_pure tok rfl rfl (by dsimp only [putL, List.set]) ?_
        refine d_skip rfl (by dsimp only [putL, List.set]) ?_
        refine d_skip rfl (by dsimp only [putL, List.set]) ?_
        refine d_skip rfl (by dsimp only [putL, List.set]) ?_
        refine d_pure tok rfl rfl (by dsimp only [putL, List.set]) ?_
        refine d_pure tok rfl rfl (by dsimp only [putL, List.set]) ?_
        refine d_skip rfl (by dsimp only [putL, List.set]) ?_
        refine d_skip rfl (by dsimp only [putL, List.set]) ?_
        refine d_skip rfl (by dsimp only [putL, List.set]) ?_
        refine d_skip rfl (by dsimp only [putL, List.set]) ?_
        refine d_skip rfl (by dsimp only [putL, List.set]) ?_
        refine d_skip rfl (by dsimp only [putL, List.set]) ?_
        refine d_pure tok rfl rfl (by dsimp only [putL, List.set]) ?_
        refine d_pure tok rfl rfl (by dsimp only [putL, List.set]) ?_
        refine d_skip rfl (by dsimp only [putL, List.set]) ?_
        refine d_skip rfl (by dsimp only [putL, List.set]) ?_
        refine d_skip rfl (by dsimp only [putL, List.set]) ?_
        refine d_skip rfl (by dsimp only [putL, List.set]) ?_
        refine d_skip rfl (by dsimp only [putL, List.set]) ?_
        refine d_skip rfl (by dsimp only [putL, List.set]) ?_
        refine d_pure tok rfl rfl (by dsimp only [putL, List.set]) ?_
        refine d_pure tok rfl rfl (by dsimp only [putL, List.set]) ?_
        refine aops_nil ?_
        refine awp_ret ?_
        exact qfun_ret rfl rfl (weak_eq (by simp [oneL, *])) rfl
    · refine d_pure tok rfl rfl (by dsimp only [putL, List.set]) ?_
      refine d_skip rfl (by dsimp only [putL, List.set]) ?_
      refine d_skip rfl (by dsimp only [putL, List.set]) ?_
      refine d_skip rfl (by dsimp only [putL, List.set]) ?_
      refine d_pure tok rfl rfl (by dsimp only [putL, List.set]) ?_
      refine d_pure tok rfl rfl (by dsimp only [putL, List.set]) ?_
      refine d_skip rfl (by dsimp only [putL, List.set]) ?_
      refine d_skip rfl (by dsimp only [putL, List.set]) ?_
      refine d_skip rfl (by dsimp only [putL, List.set]) ?_
      refine d_pure tok rfl rfl (by dsimp only [putL, List.set]) ?_
      refine d_pure tok rfl rfl (by dsimp only [putL, List.set]) ?_
      refine d_skip rfl (by dsimp only [putL, List.set]) ?_
      refine d_skip rfl (by dsimp only [putL, List.set]) ?_
      refine d_skip rfl (by dsimp only [putL, List.set]) ?_
      refine d_pure tok rfl rfl (by dsimp only [putL, List.set]) ?_
      refine d_pure tok rfl rfl (by dsimp only [putL, List.set]) ?_
      refine d_skip rfl (by dsimp only [putL, List.set]) ?_
      refine d_skip rfl (by dsimp only [putL, List.set]) ?_
      refine d_skip rfl (by dsimp only [putL, List.set]) ?_
      refine d_pure tok rfl rfl (by dsimp only [putL, List.set]) ?_
      refine d_pure tok rfl rfl (by dsimp only [putL, List.set]) ?_
      refine d_skip rfl (by dsimp only [putL, List.set]) ?_
      refine d_skip rfl (by dsimp only [putL, List.set]) ?_
      refine d_skip rfl (by dsimp only [putL, List.set]) ?_
      refine d_skip rfl (by dsimp only [putL, List.set]) ?_
      refine d_skip rfl (by dsimp only [putL, List.set]) ?_
      refine d_skip rfl (by dsimp only [putL, List.set]) ?_
      refine d_pure tok rfl rfl (by dsimp only [putL, List.set]) ?_
      refine d_pure tok rfl rfl (by dsimp only [putL, List.set]) ?_
      refine d_skip rfl (by dsimp only [putL, List.set]) ?_
      refine d_skip rfl (by dsimp only [putL, List.set]) ?_
      refine d_skip rfl (by dsimp only [putL, List.set]) ?_
      refine d_skip rfl (by dsimp only [putL, List.set]) ?_
      refine d_skip rfl (by dsimp only [putL, List.set]) ?_
      refine d_skip rfl (by dsimp only [putL, List.set]) ?_
      refine d_pure tok rfl rfl (by dsimp only [putL, List.set]) ?_
      refine d_pure tok rfl rfl (by dsimp only [putL, List.set]) ?_
      refine aops_nil ?_
      refine awp_ret ?_
      exact qfun_ret rfl rfl (weak_eq (by simp [oneL, *])) rfl
  · refine d_pure tok rfl rfl (by dsimp only [putL, List.set]) ?_
    refine d_skip rfl (by dsimp only [putL, List.set]) ?_
    refine d_skip rfl (by dsimp only [putL, List.set]) ?_
    refine d_skip rfl (by dsimp only [putL, List.set]) ?_
    refine d_pure tok rfl rfl (by dsimp only [putL, List.set]) ?_
    refine d_pure tok rfl rfl (by dsimp only [putL, List.set]) ?_
    refine d_skip rfl (by dsimp only [putL, List.set]) ?_
    refine d_skip rfl (by dsimp only [putL, List.set]) ?_
    refine d_skip rfl (by dsimp only [putL, List.set]) ?_
    refine d_pure tok rfl rfl (by dsimp only [putL, List.set]) ?_
    refine d_pure tok rfl rfl (by dsimp only [putL, List.set]) ?_
    refine d_skip rfl (by dsimp only [putL, List.set]) ?_
    refine d_skip rfl (by dsimp only [putL, List.set]) ?_
    refine d_skip rfl (by dsimp only [putL, List.set]) ?_
    refine d_pure tok rfl rfl (by dsimp only [putL, List.set]) ?_
    refine d_pure tok rfl rfl (by dsimp only [putL, List.set]) ?_
    refine d_skip rfl (by dsimp only [putL, List.set]) ?_
    refine d_skip rfl (by dsimp only [putL, List.set]) ?_
    refine d_skip rfl (by dsimp only [putL, List.set]) ?_
    refine d_pure tok rfl rfl (by dsimp only [putL, List.set]) ?_
    refine d_pure tok rfl rfl (by dsimp only [putL, List.set]) ?_
    refine d_skip rfl (by dsimp only [putL, List.set]) ?_
    refine d_skip rfl (by dsimp only [putL, List.set]) ?_
    refine d_skip rfl (by dsimp only [putL, List.set]) ?_
    refine d_pure tok rfl rfl (by dsimp only [putL, List.set]) ?_
    refine d_pure tok rfl rfl (by dsimp only [putL, List.set]) ?_
    refine d_skip rfl (by dsimp only [putL, List.set]) ?_
    refine d_skip rfl (by dsimp only [putL, List.set]) ?_
    refine d_skip rfl (by dsimp only [putL, List.set]) ?_
    refine d_skip rfl (by dsimp only [putL, List.set]) ?_
    refine d_skip rfl (by dsimp only [putL, List.set]) ?_
    refine d_skip rfl (by dsimp only [putL, List.set]) ?_
    refine d_pure tok rfl rfl (by dsimp only [putL, List.set]) ?_
    refine d_pure tok rfl rfl (by dsimp only [putL, List.set]) ?_
    refine d_skip rfl (by dsimp only [putL, List.set]) ?_
    refine d_skip rfl (by dsimp only [putL, List.set]) ?_
    refine d_skip rfl (by dsimp only [putL, List.set]) ?_
    refine d_skip rfl (by dsimp only [putL, List.set]) ?_
    refine d_skip rfl (by dsimp only [putL, List.set]) ?_
    refine d_skip rfl (by dsimp only [putL, List.set]) ?_
    refine d_pure tok rfl rfl (by dsimp only [putL, List.set]) ?_
    refine d_pure tok rfl rfl (by dsimp only [putL, List.set]) ?_
    refine aops_nil ?_
    refine awp_ret ?_
    exact qfun_ret rfl rfl (weak_eq (by simp [oneL, *])) rfl

theorem rsplit_spec (n : Int) : PCall Try.prog 13 [.int .u64 n] (.tuple [.int .i64 (splitP n), .int .i64 (splitW n), .bool (splitOk n)]) := by
  refine d_intro Try.func13 rfl (by decide +kernel) (ts := [.int .u64 n, .undef, .undef, .undef, .undef, .undef, .undef, .undef, .undef, .undef, .undef, .undef, .undef, .undef]) rfl fun B hB => ?_
  refine awp_seq ?_
  refine awp_region ?_
  refine d_pure tok rfl rfl (by dsimp only [putL, List.set]) ?_
  refine d_pure tok rfl rfl (by dsimp only [putL, List.set]) ?_
  refine d_pure tok rfl rfl (by dsimp only [putL, List.set]) ?_
  refine aops_nil ?_
  refine awp_seq ?_
  refine awp_seq ?_
  refine awp_region ?_
  refine d_pure tok rfl rfl (by dsimp only [putL, List.set]) ?_
  refine d_pure tok rfl rfl (by dsimp only [putL, List.set]) ?_
  refine d_split rfl (head_p tok rfl) (by dsimp only [putL, List.set]) (by dsimp only [putL, List.set]) (fun h7 => ?_) (fun h7 => ?_)
  · refine aops_nil ?_
    refine awp_cond_true rfl ?_
    refine awp_seq ?_
    refine awp_region ?_
    refine d_pure tok rfl rfl (by dsimp only [putL, List.set]) ?_
    refine d_pure tok rfl rfl (by dsimp only [putL, List.set]) ?_
    refine d_pure tok rfl rfl (by dsimp only [putL, List.set]) ?_
    refine aops_nil ?_
    refine awp_ret ?_
    exact qfun_ret rfl rfl (weak_eq (by simp [splitP, splitW, splitOk, *])) rfl
  · refine aops_nil ?_
    refine awp_cond_false rfl ?_
    refine awp_skip ?_
    refine awp_seq ?_
    refine awp_region ?_
    refine d_pure tok rfl rfl (by dsimp only [putL, List.set]) ?_
    refine d_pure tok rfl rfl (by dsimp only [putL, List.set]) ?_
    refine d_pure tok rfl rfl (by dsimp only [putL, List.set]) ?_
    refine d_pure tok rfl rfl (by dsimp only [putL, List.set]) ?_
    refine d_pure tok rfl rfl (by dsimp only [putL, List.set]) ?_
    refine d_pure tok rfl rfl (by dsimp only [putL, List.set]) ?_
    refine d_pure tok rfl rfl (by dsimp only [putL, List.set]) ?_
    refine d_pure tok rfl rfl (by dsimp only [putL, List.set]) ?_
    refine d_pure tok rfl rfl (by dsimp only [putL, List.set]) ?_
    refine aops_nil ?_
    refine awp_ret ?_
    exact qfun_ret rfl rfl (weak_eq (by simp [splitP, splitW, splitOk, *])) rfl

theorem split_spec (n : Int) : PCall Try.prog 12 [.int .u64 n] (.tuple [.int .i64 (splitP n), .int .i64 (splitW n), .bool (splitOk n)]) := by
  refine d_intro Try.func12 rfl (by decide +kernel) (ts := [.int .u64 n, .undef, .undef, .undef, .undef, .undef, .undef, .undef, .undef, .undef, .undef, .undef, .undef, .undef, .undef, .undef, .undef]) rfl fun B hB => ?_
  refine awp_seq ?_
  refine awp_region ?_
  refine d_pure tok rfl rfl (by dsimp only [putL, List.set]) ?_
  refine d_pure tok rfl rfl (by dsimp only [putL, List.set]) ?_
  refine d_pure tok rfl rfl (by dsimp only [putL, List.set]) ?_
  refine aops_nil ?_
  refine awp_seq ?_
  refine awp_region ?_
  refine d_pure tok rfl rfl (by dsimp only [putL, List.set]) ?_
  refine d_pure tok rfl rfl (by dsimp only [putL, List.set]) ?_
  refine d_pure tok rfl rfl (by dsimp only [putL, List.set]) ?_
  refine d_pure tok rfl rfl (by dsimp only [putL, List.set]) ?_
  refine d_pure tok rfl rfl (by dsimp only [putL, List.set]) ?_
  refine d_pure tok rfl rfl (by dsimp only [putL, List.set]) ?_
  refine aops_nil ?_
  refine awp_seq ?_
  refine awp_seq ?_
  refine awp_region ?_
  refine d_pure tok rfl rfl (by dsimp only [putL, List.set]) ?_
  refine d_split rfl (head_p tok rfl) (by dsimp only [putL, List.set]) (by dsimp only [putL, List.set]) (fun h12 => ?_) (fun h12 => ?_)
  · refine aops_nil ?_
    refine awp_cond_true rfl ?_
    refine awp_seq ?_
    refine awp_region ?_
    refine d_pure tok rfl rfl (by dsimp only [putL, List.set]) ?_
    refine d_pure tok rfl rfl (by dsimp only [putL, List.set]) ?_
    refine d_pure tok rfl rfl (by dsimp only [putL, List.set]) ?_
    refine aops_nil ?_
    refine awp_ret ?_
    exact qfun_ret rfl rfl (weak_eq (by simp [splitP, splitW, splitOk, *])) rfl
  · refine aops_nil ?_
    refine awp_cond_false rfl ?_
    refine awp_skip ?_
    refine awp_seq ?_
    refine awp_region ?_
    refine d_pure tok rfl rfl (by dsimp only [putL, List.set]) ?_
    refine d_pure tok rfl rfl (by dsimp only [putL, List.set]) ?_
    refine d_pure tok rfl rfl (by dsimp only [putL, List.set]) ?_
    refine d_pure tok rfl rfl (by dsimp only [putL, List.set]) ?_
    refine d_pure tok rfl rfl (by dsimp only [putL, List.set]) ?_
    refine d_pure tok rfl rfl (by dsimp only [putL, List.set]) ?_
    refine d_pure tok rfl rfl (by dsimp only [putL, List.set]) ?_
    refine aops_nil ?_
    refine awp_ret ?_
    exact qfun_ret rfl rfl (weak_eq (by simp [splitP, splitW, splitOk, *])) rfl

theorem equal_map_spec (l k : List MapD) (hl : l.length < 4611686018427387904) : PCall Try.prog 68 [.list (l.map encMap), .list (k.map encMap)] (.bool (decide (l = k))) := by
  refine d_intro Try.func68 rfl (by decide +kernel) (ts := [.list (l.map encMap), .list (k.map encMap), .undef, .undef, .undef, .undef, .undef, .undef, .undef, .undef, .undef, .undef, .undef, .undef, .undef, .undef, .undef, .undef, .undef, .undef, .undef, .undef, .undef, .undef, .undef, .undef]) rfl fun B hB => ?_
  refine awp_seq ?_
  refine awp_region ?_
  refine d_pure tok rfl rfl (by dsimp only [putL, List.set]) ?_
  refine aops_nil ?_
  refine awp_seq ?_
  refine awp_seq ?_
  refine awp_region ?_
  refine d_pure tok rfl rfl (by dsimp only [putL, List.set]) ?_
  refine d_pure tok rfl rfl (by dsimp only [putL, List.set]) ?_
  refine d_pure tok rfl rfl (by dsimp only [putL, List.set]) ?_
  refine d_pure tok rfl rfl (by dsimp only [putL, List.set]) ?_
  refine d_split rfl (head_p tok rfl) (by dsimp only [putL, List.set]) (by dsimp only [putL, List.set]) (fun h10 => ?_) (fun h10 => ?_)
  · refine aops_nil ?_
    refine awp_cond_true rfl ?_
    refine awp_seq ?_
    refine awp_region ?_
    refine d_pure tok rfl rfl (by dsimp only [putL, List.set]) ?_
    refine aops_nil ?_
    refine awp_ret ?_
    refine qfun_ret rfl rfl (weak_eq (congrArg AV.bool ?_)) rfl
    have hne : l ≠ k := fun e => by subst e; simp at h10
    simp [hne]
  · have hlen : l.length = k.length := by have h := h10; simp at h; omega
    refine aops_nil ?_
    refine awp_cond_false rfl ?_
    refine awp_skip ?_
    refine awp_seq ?_
    refine awp_seq ?_
    refine awp_region ?_
    refine d_pure tok rfl rfl (by dsimp only [putL, List.set]) ?_
    refine d_pure tok rfl rfl (by dsimp only [putL, List.set]) ?_
    refine d_pure tok rfl rfl (by dsimp only [putL, List.set]) ?_
    refine aops_nil ?_
    refine awp_block ?_
    refine awp_rounds (α := Nat) (fun i => ⟨[.list (l.map encMap), .list (k.map encMap), .any, .any, .any, .any, .any, .any, .any, .any, .any, .any, .int .i64 l.length, .int .i64 i, .any, .any, .any, .any, .any, .any, .any, .any, .any, .any, .any, .any], [], []⟩) (fun i => i ≤ l.length ∧ l.take i = k.take i) (fun i => l.length - i) 0 (fun _ => by rw [hB]; exact Nat.zero_le _) ((sweak_tmps (.cons (weak_eq rfl) (.cons (weak_eq rfl) (.cons (.any _) (.cons (.any _) (.cons (.any _) (.cons (.any _) (.cons (.any _) (.cons (.any _) (.cons (.any _) (.cons (.any _) (.cons (.any _) (.cons (.any _) (.cons (weak_eq (by simp)) (.cons (weak_eq rfl) (.cons (.any _) (.cons (.any _) (.cons (.any _) (.cons (.any _) (.cons (.any _) (.cons (.any _) (.cons (.any _) (.cons (.any _) (.cons (.any _) (.cons (.any _) (.cons (.any _) (.cons (.any _) .nil)))))))))))))))))))))))))))) (⟨Nat.zero_le _, rfl⟩) (fun i hI => ?_)
    obtain ⟨hi0, hI⟩ := hI
    refine awp_seq ?_
    refine awp_region ?_
    refine d_split rfl (head_p tok rfl) (by dsimp only [putL, List.set]) (by dsimp only [putL, List.set]) (fun h14 => ?_) (fun h14 => ?_)
    · have hi : i < l.length := by simpa using h14
      obtain ⟨x, hx⟩ := get_lt hi
      obtain ⟨y, hy⟩ := get_lt (hlen ▸ hi : i < k.length)
      refine aops_nil ?_
      refine awp_seq ?_
      refine awp_cond_true rfl ?_
      refine awp_skip ?_
      refine awp_seq ?_
      refine awp_block ?_
      refine awp_seq ?_
      refine awp_region ?_
      refine d_pure tok rfl rfl (by dsimp only [putL, List.set]) ?_
      refine d_pure tok rfl rfl (by dsimp only [putL, List.set]) ?_
      refine aops_nil ?_
      refine awp_seq ?_
      refine awp_draw 9 mixed (by decide +kernel) ?_
      refine hk_pure tok rfl rfl (by dsimp only [putL, List.set]) ?_
      refine hk_pure tok rfl rfl (by dsimp only [putL, List.set]) ?_
      refine hk_head rfl (head_index_list tok rfl rfl rfl rfl rfl rfl (Int.natCast_nonneg _) (get_map hx) rfl) (by dsimp only [putL, List.set]) ?_
      refine hk_pure tok rfl rfl (by dsimp only [putL, List.set]) ?_
      refine hk_pure tok rfl rfl (by dsimp only [putL, List.set]) ?_
      refine hk_pure tok rfl rfl (by dsimp only [putL, List.set]) ?_
      refine hk_head rfl (head_index_list tok rfl rfl rfl rfl rfl rfl (Int.natCast_nonneg _) (get_map hy) rfl) (by dsimp only [putL, List.set]) ?_
      refine hk_pure tok rfl rfl (by dsimp only [putL, List.set]) ?_
      refine hk_split rfl (head_eqs tok eqAll flat1 rfl (.inr ⟨rfl, rfl⟩) rfl rfl (by kernel_rfl) rfl rfl rfl) (by dsimp only [putL, List.set]) (by dsimp only [putL, List.set]) (fun h24 => ?_) (fun h24 => ?_)
      · have hxy : x ≠ y := by rw [encEq] at h24; simpa using h24
        refine .nil ?_
        refine aops_nil ?_
        refine awp_cond_true rfl ?_
        refine awp_seq ?_
        refine awp_region ?_
        refine d_pure tok rfl rfl (by dsimp only [putL, List.set]) ?_
        refine aops_nil ?_
        refine awp_ret ?_
        refine qfun_ret rfl rfl (weak_eq (congrArg AV.bool ?_)) rfl
        simp [ne_at hxy hx hy]
      · have hxy : x = y := by rw [encEq] at h24; simpa using h24
        refine .nil ?_
        refine aops_nil ?_
        refine awp_cond_false rfl ?_
        refine awp_skip ?_
        refine awp_region ?_
        refine d_pure tok rfl rfl (by dsimp only [putL, List.set]) ?_
        refine d_pure tok rfl rfl (by dsimp only [putL, List.set]) ?_
        refine aops_nil ?_
        exact ⟨i + 1, (sweak_tmps (.cons (weak_eq rfl) (.cons (weak_eq rfl) (.cons (.any _) (.cons (.any _) (.cons (.any _) (.cons (.any _) (.cons (.any _) (.cons (.any _) (.cons (.any _) (.cons (.any _) (.cons (.any _) (.cons (.any _) (.cons (weak_eq rfl) (.cons (weak_eq (succ64' hi hl)) (.cons (.any _) (.cons (.any _) (.cons (.any _) (.cons (.any _) (.cons (.any _) (.cons (.any _) (.cons (.any _) (.cons (.any _) (.cons (.any _) (.cons (.any _) (.cons (.any _) (.cons (.any _) .nil))))))))))))))))))))))))))), ⟨hi, take_step hI hx (hxy ▸ hy)⟩, by omega⟩
    · refine aops_nil ?_
      refine awp_seq ?_
      refine awp_cond_false rfl ?_
      refine awp_exit ?_
      refine awp_seq ?_
      refine awp_region ?_
      refine d_pure tok rfl rfl (by dsimp only [putL, List.set]) ?_
      refine aops_nil ?_
      refine awp_ret ?_
      refine qfun_ret rfl rfl (weak_eq (congrArg AV.bool ?_)) rfl
      have hle : l.length ≤ i := by simpa using h14
      simp [eq_take hI hle (hlen ▸ hle)]

theorem same_spec (l k : List MapD) (hl : l.length < 4611686018427387904) : PCall Try.prog 16 [.list (l.map encMap), .list (k.map encMap)] (.bool (decide (l = k))) := by
  refine d_intro Try.func16 rfl (by decide +kernel) (ts := [.list (l.map encMap), .list (k.map encMap), .undef, .undef, .undef, .undef, .undef, .undef]) rfl fun B hB => ?_
  refine awp_seq ?_
  refine awp_region ?_
  refine d_pure tok rfl rfl (by dsimp only [putL, List.set]) ?_
  refine aops_nil ?_
  refine awp_seq ?_
  refine awp_region ?_
  refine d_pure tok rfl rfl (by dsimp only [putL, List.set]) ?_
  refine d_pure tok rfl rfl (by dsimp only [putL, List.set]) ?_
  refine d_head rfl (head_call rfl rfl rfl rfl (equal_map_spec _ _ hl)) (by dsimp only [putL, List.set]) ?_
  refine d_pure tok rfl rfl (by dsimp only [putL, List.set]) ?_
  refine aops_nil ?_
  refine awp_ret ?_
  exact qfun_ret rfl rfl (Weak.refl _) rfl

theorem indexfunc_map_spec (l : List MapD) (f : FuncId) (caps : List AV) (p : MapD → Bool) (hu : AV.underL 0 caps = true) (hf : ∀ x, x ∈ l → PCall Try.prog f (.agg (encMap x) :: caps) (.bool (p x))) (hl : l.length < 4611686018427387904) : PCall Try.prog 117 [.list (l.map encMap), .fn f [] caps] (.int .i64 (idxL p l)) := by
  refine d_intro Try.func117 rfl (by decide +kernel) (ts := [.list (l.map encMap), .fn f [] caps, .undef, .undef, .undef, .undef, .undef, .undef, .undef, .undef, .undef, .undef, .undef, .undef, .undef, .undef, .undef, .undef, .undef]) rfl fun B hB => ?_
  refine awp_seq ?_
  refine awp_region ?_
  refine d_pure tok rfl rfl (by dsimp only [putL, List.set]) ?_
  refine aops_nil ?_
  refine awp_seq ?_
  refine awp_seq ?_
  refine awp_region ?_
  refine d_pure tok rfl rfl (by dsimp only [putL, List.set]) ?_
  refine d_pure tok rfl rfl (by dsimp only [putL, List.set]) ?_
  refine d_pure tok rfl rfl (by dsimp only [putL, List.set]) ?_
  refine aops_nil ?_
  refine awp_block ?_
  refine awp_rounds (α := Nat) (fun i => ⟨[.list (l.map encMap), .fn f [] caps, .any, .any, .any, .any, .any, .int .i64 l.length, .int .i64 i, .any, .any, .any, .any, .any, .any, .any, .any, .any, .any], [], []⟩) (fun i => i ≤ l.length ∧ ∀ j y, j < i → l[j]? = some y → p y = false) (fun i => l.length - i) 0 (fun _ => by rw [hB]; exact Nat.zero_le _) ((sweak_tmps (.cons (weak_eq rfl) (.cons (weak_eq rfl) (.cons (.any _) (.cons (.any _) (.cons (.any _) (.cons (.any _) (.cons (.any _) (.cons (weak_eq (by simp)) (.cons (weak_eq rfl) (.cons (.any _) (.cons (.any _) (.cons (.any _) (.cons (.any _) (.cons (.any _) (.cons (.any _) (.cons (.any _) (.cons (.any _) (.cons (.any _) (.cons (.any _) .nil))))))))))))))))))))) (⟨Nat.zero_le _, none0⟩) (fun i hI => ?_)
  obtain ⟨hi0, hI⟩ := hI
  refine awp_seq ?_
  refine awp_region ?_
  refine d_split rfl (head_p tok rfl) (by dsimp only [putL, List.set]) (by dsimp only [putL, List.set]) (fun h9 => ?_) (fun h9 => ?_)
  · have hi : i < l.length := by simpa using h9
    obtain ⟨x, hx⟩ := get_lt hi
    refine aops_nil ?_
    refine awp_seq ?_
    refine awp_cond_true rfl ?_
    refine awp_skip ?_
    refine awp_seq ?_
    refine awp_block ?_
    refine awp_seq ?_
    refine awp_region ?_
    refine d_pure tok rfl rfl (by dsimp only [putL, List.set]) ?_
    refine d_pure tok rfl rfl (by dsimp only [putL, List.set]) ?_
    refine aops_nil ?_
    refine awp_seq ?_
    refine awp_region ?_
    refine d_pure tok rfl rfl (by dsimp only [putL, List.set]) ?_
    refine d_pure tok rfl rfl (by dsimp only [putL, List.set]) ?_
    refine d_pure tok rfl rfl (by dsimp only [putL, List.set]) ?_
    refine d_head rfl (head_index_list tok rfl rfl rfl rfl rfl rfl (Int.natCast_nonneg _) (get_map hx) rfl) (by dsimp only [putL, List.set]) ?_
    refine d_pure tok rfl rfl (by dsimp only [putL, List.set]) ?_
    refine d_split rfl (head_callp (hf x (List.mem_of_getElem? hx)) (by simp [AV.underL, AV.under, encMap, hu]) rfl rfl rfl) (by dsimp only [putL, List.set]) (by dsimp only [putL, List.set]) (fun h16 => ?_) (fun h16 => ?_)
    · refine aops_nil ?_
      refine awp_cond_true rfl ?_
      refine awp_seq ?_
      refine awp_region ?_
      refine d_pure tok rfl rfl (by dsimp only [putL, List.set]) ?_
      refine d_pure tok rfl rfl (by dsimp only [putL, List.set]) ?_
      refine aops_nil ?_
      refine awp_ret ?_
      exact qfun_ret rfl rfl (weak_eq (congrArg (AV.int .i64) (idx_here hI hx h16))) rfl
    · refine aops_nil ?_
      refine awp_cond_false rfl ?_
      refine awp_skip ?_
      refine awp_region ?_
      refine d_pure tok rfl rfl (by dsimp only [putL, List.set]) ?_
      refine d_pure tok rfl rfl (by dsimp only [putL, List.set]) ?_
      refine aops_nil ?_
      exact ⟨i + 1, (sweak_tmps (.cons (weak_eq rfl) (.cons (weak_eq rfl) (.cons (.any _) (.cons (.any _) (.cons (.any _) (.cons (.any _) (.cons (.any _) (.cons (weak_eq rfl) (.cons (weak_eq (succ64' hi hl)) (.cons (.any _) (.cons (.any _) (.cons (.any _) (.cons (.any _) (.cons (.any _) (.cons (.any _) (.cons (.any _) (.cons (.any _) (.cons (.any _) (.cons (.any _) .nil)))))))))))))))))))), ⟨hi, none_step hI hx h16⟩, by omega⟩
  · refine aops_nil ?_
    refine awp_seq ?_
    refine awp_cond_false rfl ?_
    refine awp_exit ?_
    refine awp_seq ?_
    refine awp_region ?_
    refine d_pure tok rfl rfl (by dsimp only [putL, List.set]) ?_
    refine aops_nil ?_
    refine awp_ret ?_
    have hle : l.length ≤ i := by simpa using h9
    exact qfun_ret rfl rfl (weak_eq (congrArg (AV.int .i64) (idx_none hI hle).symm)) rfl

theorem indexfunc_map_spec_c (l : List MapD) (f : FuncId) (caps : List AV) (p : MapD → Bool) (hu : AV.underL 0 caps = true) (hf : ∀ x, x ∈ l → PCall Try.prog f (.agg (encMap x) :: caps) (.bool (p x))) (hl : l.length < 4611686018427387904) : PCall Try.prog 69 [.list (l.map encMap), .fn f [] caps] (.bool (l.any p)) := by
  refine d_intro Try.func69 rfl (by decide +kernel) (ts := [.list (l.map encMap), .fn f [] caps, .undef, .undef, .undef, .undef, .undef, .undef, .undef]) rfl fun B hB => ?_
  refine awp_seq ?_
  refine awp_region ?_
  refine d_pure tok rfl rfl (by dsimp only [putL, List.set]) ?_
  refine aops_nil ?_
  refine awp_seq ?_
  refine awp_region ?_
  refine d_pure tok rfl rfl (by dsimp only [putL, List.set]) ?_
  refine d_pure tok rfl rfl (by dsimp only [putL, List.set]) ?_
  refine d_head rfl (head_callp (indexfunc_map_spec _ f caps p hu hf hl) (by simp [AV.underL, AV.under, hu]) rfl rfl rfl) (by dsimp only [putL, List.set]) ?_
  refine d_pure tok rfl rfl (by dsimp only [putL, List.set]) ?_
  refine d_pure tok rfl rfl (by dsimp only [putL, List.set]) ?_
  refine aops_nil ?_
  refine awp_ret ?_
  exact qfun_ret rfl rfl (weak_eq (congrArg AV.bool (idx_any p l))) rfl

theorem va_spec (m : MapD) : PCall Try.prog 75 [.agg (encMap m)] (.int .i64 m.va) := by
  refine d_intro Try.func75 rfl (by decide +kernel) (ts := [.agg (encMap m), .undef, .undef, .undef, .undef]) rfl fun B hB => ?_
  refine awp_seq ?_
  refine awp_region ?_
  refine d_new rfl (head_box _ rfl rfl) (by dsimp only [putL, List.set]) (by dsimp only [List.append, HAppend.hAppend, Append.append]) ?_
  refine d_pure tok rfl rfl (by dsimp only [putL, List.set]) ?_
  refine aops_nil ?_
  refine awp_seq ?_
  refine awp_region ?_
  refine d_pure tok rfl rfl (by dsimp only [putL, List.set]) ?_
  refine d_pure tok rfl rfl (by dsimp only [putL, List.set]) ?_
  refine d_pure tok rfl rfl (by dsimp only [putL, List.set]) ?_
  refine aops_nil ?_
  refine awp_ret ?_
  exact qfun_ret rfl rfl (Weak.refl _) rfl

theorem at_spec (l : List MapD) (n : Int) (f : FuncId) (caps : List AV) (key : MapD → Int) (hu : AV.underL 0 caps = true) (hf : ∀ x, x ∈ l → PCall Try.prog f (.agg (encMap x) :: caps) (.int .i64 (key x))) (hl : l.length < 4611686018427387904) (hm : l.Pairwise fun x y => key x ≤ key y) : PCall Try.prog 74 [.list (l.map encMap), .int .i64 n, .fn f [] caps] (.int .i64 (atL key l n)) := by
  refine d_intro Try.func74 rfl (by decide +kernel) (ts := [.list (l.map encMap), .int .i64 n, .fn f [] caps, .undef, .undef, .undef, .undef, .undef, .undef, .undef, .undef, .undef, .undef, .undef, .undef, .undef, .undef, .undef, .undef, .undef, .undef, .undef, .undef, .undef, .undef, .undef, .undef, .undef, .undef, .undef, .undef]) rfl fun B hB => ?_
  refine awp_seq ?_
  refine awp_region ?_
  refine d_pure tok rfl rfl (by dsimp only [putL, List.set]) ?_
  refine aops_nil ?_
  refine awp_seq ?_
  refine awp_region ?_
  refine d_pure tok rfl rfl (by dsimp only [putL, List.set]) ?_
  refine d_pure tok rfl rfl (by dsimp only [putL, List.set]) ?_
  refine d_pure tok rfl rfl (by dsimp only [putL, List.set]) ?_
  refine d_pure tok rfl rfl (by dsimp only [putL, List.set]) ?_
  refine aops_nil ?_
  refine awp_seq ?_
  refine awp_block ?_
  refine awp_rounds (α := Nat × Nat) (fun i => ⟨[.list (l.map encMap), .int .i64 n, .fn f [] caps, .any, .any, .any, .any, .int .i64 i.1, .int .i64 i.2, .any, .any, .any, .any, .any, .any, .any, .any, .any, .any, .any, .any, .any, .any, .any, .any, .any, .any, .any, .any, .any, .any], [], []⟩) (fun i => i.1 ≤ i.2 ∧ i.2 ≤ l.length ∧ (∀ j y, j < i.1 → l[j]? = some y → key y < n) ∧ (∀ j y, i.2 ≤ j → l[j]? = some y → ¬ key y < n)) (fun i => i.2 - i.1) (0, l.length) (fun _ => by rw [hB]; exact Nat.zero_le _) ((sweak_tmps (.cons (weak_eq rfl) (.cons (weak_eq rfl) (.cons (weak_eq rfl) (.cons (.any _) (.cons (.any _) (.cons (.any _) (.cons (.any _) (.cons (weak_eq rfl) (.cons (weak_eq (by simp)) (.cons (.any _) (.cons (.any _) (.cons (.any _) (.cons (.any _) (.cons (.any _) (.cons (.any _) (.cons (.any _) (.cons (.any _) (.cons (.any _) (.cons (.any _) (.cons (.any _) (.cons (.any _) (.cons (.any _) (.cons (.any _) (.cons (.any _) (.cons (.any _) (.cons (.any _) (.cons (.any _) (.cons (.any _) (.cons (.any _) (.cons (.any _) (.cons (.any _) .nil))))))))))))))))))))))))))))))))) (⟨Nat.zero_le _, Nat.le_refl _, fun j y h => by omega, fun j y h hy => by have := (List.getElem?_eq_some_iff.1 hy).1; simp at h; omega⟩) (fun i hI => ?_)
  obtain ⟨hab0, hb, hI1, hI2⟩ := hI
  refine awp_seq ?_
  refine awp_seq ?_
  refine awp_region ?_
  refine d_pure tok rfl rfl (by dsimp only [putL, List.set]) ?_
  refine d_pure tok rfl rfl (by dsimp only [putL, List.set]) ?_
  refine d_split rfl (head_p tok rfl) (by dsimp only [putL, List.set]) (by dsimp only [putL, List.set]) (fun h14 => ?_) (fun h14 => ?_)
  · have hab : i.1 < i.2 := by simpa using h14
    obtain ⟨x, hx⟩ := get_lt (show (i.1 + i.2) / 2 < l.length by omega)
    refine aops_nil ?_
    refine awp_cond_true rfl ?_
    refine awp_skip ?_
    refine awp_block ?_
    refine awp_seq ?_
    refine awp_region ?_
    refine d_pure tok rfl rfl (by dsimp only [putL, List.set]) ?_
    refine d_pure tok rfl rfl (by dsimp only [putL, List.set]) ?_
    refine d_pure tok rfl rfl (by dsimp only [putL, List.set]) ?_
    refine d_pure tok rfl rfl (by dsimp only [putL, List.set]) ?_
    refine d_pure tok rfl rfl (by dsimp only [putL, List.set]) ?_
    refine aops_nil ?_
    refine awp_seq ?_
    refine awp_region ?_
    refine d_pure tok rfl rfl (by dsimp only [putL, List.set]) ?_
    refine d_pure tok rfl rfl (by dsimp only [putL, List.set]) ?_
    refine d_pure tok rfl rfl (by dsimp only [putL, List.set]) ?_
    refine d_head rfl (head_index_list tok rfl rfl rfl rfl rfl rfl (by rw [mid64 hab hb hl]; exact Int.natCast_nonneg _) (by rw [mid64 hab hb hl]; exact get_map hx) rfl) (by dsimp only [putL, List.set]) ?_
    refine d_pure tok rfl rfl (by dsimp only [putL, List.set]) ?_
    refine d_head rfl (head_callp (hf x (List.mem_of_getElem? hx)) (by simp [AV.underL, AV.under, encMap, hu]) rfl rfl rfl) (by dsimp only [putL, List.set]) ?_
    refine d_pure tok rfl rfl (by dsimp only [putL, List.set]) ?_
    refine d_split rfl (head_p tok rfl) (by dsimp only [putL, List.set]) (by dsimp only [putL, List.set]) (fun h26 => ?_) (fun h26 => ?_)
    · refine aops_nil ?_
      refine awp_cond_true rfl ?_
      refine awp_region ?_
      refine d_pure tok rfl rfl (by dsimp only [putL, List.set]) ?_
      refine d_pure tok rfl rfl (by dsimp only [putL, List.set]) ?_
      refine d_pure tok rfl rfl (by dsimp only [putL, List.set]) ?_
      refine aops_nil ?_
      exact ⟨((i.1 + i.2) / 2 + 1, i.2), (sweak_tmps (.cons (weak_eq rfl) (.cons (weak_eq rfl) (.cons (weak_eq rfl) (.cons (.any _) (.cons (.any _) (.cons (.any _) (.cons (.any _) (.cons (weak_eq (mid1 hab hb hl)) (.cons (weak_eq rfl) (.cons (.any _) (.cons (.any _) (.cons (.any _) (.cons (.any _) (.cons (.any _) (.cons (.any _) (.cons (.any _) (.cons (.any _) (.cons (.any _) (.cons (.any _) (.cons (.any _) (.cons (.any _) (.cons (.any _) (.cons (.any _) (.cons (.any _) (.cons (.any _) (.cons (.any _) (.cons (.any _) (.cons (.any _) (.cons (.any _) (.cons (.any _) (.cons (.any _) .nil)))))))))))))))))))))))))))))))), ⟨by simp only; omega, hb, at_up hm hx (by simpa using h26), hI2⟩, by simp only; omega⟩
    · refine aops_nil ?_
      refine awp_cond_false rfl ?_
      refine awp_region ?_
      refine d_pure tok rfl rfl (by dsimp only [putL, List.set]) ?_
      refine d_pure tok rfl rfl (by dsimp only [putL, List.set]) ?_
      refine aops_nil ?_
      exact ⟨(i.1, (i.1 + i.2) / 2), (sweak_tmps (.cons (weak_eq rfl) (.cons (weak_eq rfl) (.cons (weak_eq rfl) (.cons (.any _) (.cons (.any _) (.cons (.any _) (.cons (.any _) (.cons (weak_eq rfl) (.cons (weak_eq (mid0 hab hb hl)) (.cons (.any _) (.cons (.any _) (.cons (.any _) (.cons (.any _) (.cons (.any _) (.cons (.any _) (.cons (.any _) (.cons (.any _) (.cons (.any _) (.cons (.any _) (.cons (.any _) (.cons (.any _) (.cons (.any _) (.cons (.any _) (.cons (.any _) (.cons (.any _) (.cons (.any _) (.cons (.any _) (.cons (.any _) (.cons (.any _) (.cons (.any _) (.cons (.any _) .nil)))))))))))))))))))))))))))))))), ⟨by simp only; omega, by simp only; omega, hI1, at_down hm hx (by simpa using h26)⟩, by simp only; omega⟩
  · refine aops_nil ?_
    refine awp_cond_false rfl ?_
    refine awp_exit ?_
    refine awp_seq ?_
    refine awp_region ?_
    refine d_pure tok rfl rfl (by dsimp only [putL, List.set]) ?_
    refine d_pure tok rfl rfl (by dsimp only [putL, List.set]) ?_
    refine aops_nil ?_
    refine awp_ret ?_
    have hge : i.2 ≤ i.1 := by simpa using h14
    have he : i.1 = i.2 := by omega
    exact qfun_ret rfl rfl (weak_eq (congrArg (fun q : Nat => AV.int .i64 (q : Int)) (at_done (i := i.1) (by omega) hI1 (he ▸ hI2)))) rfl

theorem fit_spec (l : List MapD) (hl : l.length < 4611686018427387904) : PCall Try.prog 14 [.list (l.map encMap)] (.bool (fitL goodL l)) := by
  refine d_intro Try.func14 rfl (by decide +kernel) (ts := [.list (l.map encMap), .undef, .undef, .undef, .undef, .undef, .undef, .undef, .undef, .undef, .undef, .undef, .undef, .undef, .undef, .undef, .undef, .undef, .undef, .undef, .undef, .undef, .undef, .undef, .undef, .undef, .undef, .undef, .undef, .undef, .undef, .undef, .undef, .undef]) rfl fun B hB => ?_
  refine awp_seq ?_
  refine awp_region ?_
  refine d_pure tok rfl rfl (by dsimp only [putL, List.set]) ?_
  refine aops_nil ?_
  refine awp_seq ?_
  refine awp_seq ?_
  refine awp_region ?_
  refine d_pure tok rfl rfl (by dsimp only [putL, List.set]) ?_
  refine d_pure tok rfl rfl (by dsimp only [putL, List.set]) ?_
  refine d_pure tok rfl rfl (by dsimp only [putL, List.set]) ?_
  refine aops_nil ?_
  refine awp_block ?_
  refine awp_rounds (α := Nat) (fun i => ⟨[.list (l.map encMap), .any, .any, .any, .any, .list (l.map encMap), .int .i64 l.length, .int .i64 i, .any, .any, .any, .any, .any, .any, .any, .any, .any, .any, .any, .any, .any, .any, .any, .any, .any, .any, .any, .any, .any, .any, .any, .any, .any, .any], [], []⟩) (fun i => i ≤ l.length ∧ ∀ j, j < i → okAt goodL l j = true) (fun i => l.length - i) 0 (fun _ => by rw [hB]; exact Nat.zero_le _) ((sweak_tmps (.cons (weak_eq rfl) (.cons (.any _) (.cons (.any _) (.cons (.any _) (.cons (.any _) (.cons (weak_eq rfl) (.cons (weak_eq (by simp)) (.cons (weak_eq rfl) (.cons (.any _) (.cons (.any _) (.cons (.any _) (.cons (.any _) (.cons (.any _) (.cons (.any _) (.cons (.any _) (.cons (.any _) (.cons (.any _) (.cons (.any _) (.cons (.any _) (.cons (.any _) (.cons (.any _) (.cons (.any _) (.cons (.any _) (.cons (.any _) (.cons (.any _) (.cons (.any _) (.cons (.any _) (.cons (.any _) (.cons (.any _) (.cons (.any _) (.cons (.any _) (.cons (.any _) (.cons (.any _) (.cons (.any _) .nil)))))))))))))))))))))))))))))))))))) (⟨Nat.zero_le _, ok_none⟩) (fun i hI => ?_)
  obtain ⟨hi0, hI⟩ := hI
  refine awp_seq ?_
  refine awp_region ?_
  refine d_split rfl (head_p tok rfl) (by dsimp only [putL, List.set]) (by dsimp only [putL, List.set]) (fun h8 => ?_) (fun h8 => ?_)
  · have hi : i < l.length := by simpa using h8
    obtain ⟨x, hx⟩ := get_lt hi
    refine aops_nil ?_
    refine awp_seq ?_
    refine awp_cond_true rfl ?_
    refine awp_skip ?_
    refine awp_seq ?_
    refine awp_block ?_
    refine awp_seq ?_
    refine awp_region ?_
    refine d_pure tok rfl rfl (by dsimp only [putL, List.set]) ?_
    refine d_head rfl (head_index_list tok rfl rfl rfl rfl rfl rfl (Int.natCast_nonneg _) (get_map hx) rfl) (by dsimp only [putL, List.set]) ?_
    refine d_pure tok rfl rfl (by dsimp only [putL, List.set]) ?_
    refine d_new rfl (head_alloc tok _ rfl rfl) (by dsimp only [putL, List.set]) (by dsimp only [List.append, HAppend.hAppend, Append.append]) ?_
    refine d_pure tok rfl rfl (by dsimp only [putL, List.set]) ?_
    refine d_store_all tok rfl rfl rfl rfl rfl rfl rfl rfl rfl (by dsimp only [List.set, AV.cellsOf]) (by dsimp only [putL, List.set]) ?_
    refine aops_nil ?_
    refine awp_seq ?_
    refine awp_draw 18 mixed (by decide +kernel) ?_
    refine hk_pure tok rfl rfl (by dsimp only [putL, List.set]) ?_
    refine hk_split rfl (head_call rfl rfl rfl rfl (good_spec _)) (by dsimp only [putL, List.set]) (by dsimp only [putL, List.set]) (fun h13 => ?_) (fun h13 => ?_)
    · refine hk_pure tok rfl rfl (by dsimp only [putL, List.set]) ?_
      refine hk_pure tok rfl rfl (by dsimp only [putL, List.set]) ?_
      refine hk_pure tok rfl rfl (by dsimp only [putL, List.set]) ?_
      refine hk_split rfl (head_p tok rfl) (by dsimp only [putL, List.set]) (by dsimp only [putL, List.set]) (fun h17 => ?_) (fun h17 => ?_)
      · obtain ⟨j, rfl⟩ := pos_pred h17
        obtain ⟨y, hy⟩ := get_lt (show j < l.length by omega)
        refine hk_pure tok rfl rfl (by dsimp only [putL, List.set]) ?_
        refine hk_pure tok rfl rfl (by dsimp only [putL, List.set]) ?_
        refine hk_pure tok rfl rfl (by dsimp only [putL, List.set]) ?_
        refine hk_pure tok rfl rfl (by dsimp only [putL, List.set]) ?_
        refine hk_head rfl (head_index_list tok rfl rfl rfl rfl rfl rfl (pred64' (by omega) hl) (get_map_pred (by omega) hl hy) rfl) (by dsimp only [putL, List.set]) ?_
        refine hk_pure tok rfl rfl (by dsimp only [putL, List.set]) ?_
        refine hk_head rfl (head_call rfl rfl rfl rfl (end_spec _)) (by dsimp only [putL, List.set]) ?_
        refine hk_pure tok rfl rfl (by dsimp only [putL, List.set]) ?_
        refine hk_pure tok rfl rfl (by dsimp only [putL, List.set]) ?_
        refine hk_pure tok rfl rfl (by dsimp only [putL, List.set]) ?_
        refine hk_pure tok rfl rfl (by dsimp only [putL, List.set]) ?_
        refine hk_split rfl (head_p tok rfl) (by dsimp only [putL, List.set]) (by dsimp only [putL, List.set]) (fun h29 => ?_) (fun h29 => ?_)
        · refine .nil ?_
          refine aops_nil ?_
          refine awp_cond_true rfl ?_
          refine awp_seq ?_
          refine awp_region ?_
          refine d_pure tok rfl rfl (by dsimp only [putL, List.set]) ?_
          refine aops_nil ?_
          refine awp_ret ?_
          refine qfun_ret rfl rfl (weak_eq (congrArg AV.bool ?_)) rfl
          exact fit_no hi (ok_no hx hy h29)
        · refine .nil ?_
          refine aops_nil ?_
          refine awp_cond_false rfl ?_
          refine awp_skip ?_
          refine awp_region ?_
          refine d_pure tok rfl rfl (by dsimp only [putL, List.set]) ?_
          refine d_pure tok rfl rfl (by dsimp only [putL, List.set]) ?_
          refine aops_nil ?_
          exact ⟨_, (sweak_tmps (.cons (weak_eq rfl) (.cons (.any _) (.cons (.any _) (.cons (.any _) (.cons (.any _) (.cons (weak_eq rfl) (.cons (weak_eq rfl) (.cons (weak_eq (succ64' hi hl)) (.cons (.any _) (.cons (.any _) (.cons (.any _) (.cons (.any _) (.cons (.any _) (.cons (.any _) (.cons (.any _) (.cons (.any _) (.cons (.any _) (.cons (.any _) (.cons (.any _) (.cons (.any _) (.cons (.any _) (.cons (.any _) (.cons (.any _) (.cons (.any _) (.cons (.any _) (.cons (.any _) (.cons (.any _) (.cons (.any _) (.cons (.any _) (.cons (.any _) (.cons (.any _) (.cons (.any _) (.cons (.any _) (.cons (.any _) .nil))))))))))))))))))))))))))))))))))).trans (sweak_trunc (h := []) ok_nil rfl) (Nat.zero_le _), ⟨hi, ok_step hI (ok_yes hx hy h13 h29)⟩, by omega⟩
      · obtain rfl := zero_of h17
        refine hk_pure tok rfl rfl (by dsimp only [putL, List.set]) ?_
        refine hk_skip rfl (by dsimp only [putL, List.set]) ?_
        refine hk_skip rfl (by dsimp only [putL, List.set]) ?_
        refine hk_skip rfl (by dsimp only [putL, List.set]) ?_
        refine hk_skip rfl (by dsimp only [putL, List.set]) ?_
        refine hk_skip rfl (by dsimp only [putL, List.set]) ?_
        refine hk_skip rfl (by dsimp only [putL, List.set]) ?_
        refine hk_skip rfl (by dsimp only [putL, List.set]) ?_
        refine hk_skip rfl (by dsimp only [putL, List.set]) ?_
        refine hk_skip rfl (by dsimp only [putL, List.set]) ?_
        refine hk_pure tok rfl rfl (by dsimp only [putL, List.set]) ?_
        refine hk_pure tok rfl rfl (by dsimp only [putL, List.set]) ?_
        refine .nil ?_
        refine aops_nil ?_
        refine awp_cond_false rfl ?_
        refine awp_skip ?_
        refine awp_region ?_
        refine d_pure tok rfl rfl (by dsimp only [putL, List.set]) ?_
        refine d_pure tok rfl rfl (by dsimp only [putL, List.set]) ?_
        refine aops_nil ?_
        exact ⟨_, (sweak_tmps (.cons (weak_eq rfl) (.cons (.any _) (.cons (.any _) (.cons (.any _) (.cons (.any _) (.cons (weak_eq rfl) (.cons (weak_eq rfl) (.cons (weak_eq (succ64' hi hl)) (.cons (.any _) (.cons (.any _) (.cons (.any _) (.cons (.any _) (.cons (.any _) (.cons (.any _) (.cons (.any _) (.cons (.any _) (.cons (.any _) (.cons (.any _) (.cons (.any _) (.cons (.any _) (.cons (.any _) (.cons (.any _) (.cons (.any _) (.cons (.any _) (.cons (.any _) (.cons (.any _) (.cons (.any _) (.cons (.any _) (.cons (.any _) (.cons (.any _) (.cons (.any _) (.cons (.any _) (.cons (.any _) (.cons (.any _) .nil))))))))))))))))))))))))))))))))))).trans (sweak_trunc (h := []) ok_nil rfl) (Nat.zero_le _), ⟨hi, ok_step hI (ok_yes0 hx h13)⟩, by omega⟩
    · refine hk_pure tok rfl rfl (by dsimp only [putL, List.set]) ?_
      refine hk_pure tok rfl rfl (by dsimp only [putL, List.set]) ?_
      refine hk_skip rfl (by dsimp only [putL, List.set]) ?_
      refine hk_skip rfl (by dsimp only [putL, List.set]) ?_
      refine hk_skip rfl (by dsimp only [putL, List.set]) ?_
      refine hk_skip rfl (by dsimp only [putL, List.set]) ?_
      refine hk_skip rfl (by dsimp only [putL, List.set]) ?_
      refine hk_skip rfl (by dsimp only [putL, List.set]) ?_
      refine hk_skip rfl (by dsimp only [putL, List.set]) ?_
      refine hk_skip rfl (by dsimp only [putL, List.set]) ?_
      refine hk_skip rfl (by dsimp only [putL, List.set]) ?_
      refine hk_skip rfl (by dsimp only [putL, List.set]) ?_
      refine hk_skip rfl (by dsimp only [putL, List.set]) ?_
      refine hk_skip rfl (by dsimp only [putL, List.set]) ?_
      refine hk_skip rfl (by dsimp only [putL, List.set]) ?_
      refine hk_pure tok rfl rfl (by dsimp only [putL, List.set]) ?_
      refine .nil ?_
      refine aops_nil ?_
      refine awp_cond_true rfl ?_
      refine awp_seq ?_
      refine awp_region ?_
      refine d_pure tok rfl rfl (by dsimp only [putL, List.set]) ?_
      refine aops_nil ?_
      refine awp_ret ?_
      refine qfun_ret rfl rfl (weak_eq (congrArg AV.bool ?_)) rfl
      exact fit_no hi (ok_no0 hx h13)
  · refine aops_nil ?_
    refine awp_seq ?_
    refine awp_cond_false rfl ?_
    refine awp_exit ?_
    refine awp_seq ?_
    refine awp_region ?_
    refine d_pure tok rfl rfl (by dsimp only [putL, List.set]) ?_
    refine d_pure tok rfl rfl (by dsimp only [putL, List.set]) ?_
    refine d_pure tok rfl rfl (by dsimp only [putL, List.set]) ?_
    refine d_pure tok rfl rfl (by dsimp only [putL, List.set]) ?_
    refine aops_nil ?_
    refine awp_ret ?_
    have hle : l.length ≤ i := by simpa using h8
    refine qfun_ret rfl rfl (weak_eq (congrArg AV.bool ?_)) rfl
    simpa using fit_end hle hI

theorem rfit_spec (l : List MapD) (hl : l.length < 4611686018427387904) : PCall Try.prog 15 [.list (l.map encMap)] (.bool (fitL oneL l)) := by
  refine d_intro Try.func15 rfl (by decide +kernel) (ts := [.list (l.map encMap), .undef, .undef, .undef, .undef, .undef, .undef, .undef, .undef, .undef, .undef, .undef, .undef, .undef, .undef, .undef, .undef, .undef, .undef, .undef, .undef, .undef, .undef, .undef, .undef, .undef, .undef, .undef, .undef, .undef, .undef, .undef, .undef, .undef, .undef, .undef, .undef, .undef, .undef, .undef, .undef, .undef, .undef, .undef]) rfl fun B hB => ?_
  refine awp_seq ?_
  refine awp_region ?_
  refine d_pure tok rfl rfl (by dsimp only [putL, List.set]) ?_
  refine aops_nil ?_
  refine awp_seq ?_
  refine awp_seq ?_
  refine awp_region ?_
  refine d_pure tok rfl rfl (by dsimp only [putL, List.set]) ?_
  refine d_pure tok rfl rfl (by dsimp only [putL, List.set]) ?_
  refine d_split rfl (head_p tok rfl) (by dsimp only [putL, List.set]) (by dsimp only [putL, List.set]) (fun h6 => ?_) (fun h6 => ?_)
  · refine aops_nil ?_
    refine awp_cond_true rfl ?_
    refine awp_seq ?_
    refine awp_region ?_
    refine d_pure tok rfl rfl (by dsimp only [putL, List.set]) ?_
    refine aops_nil ?_
    refine awp_ret ?_
    refine qfun_ret rfl rfl (weak_eq (congrArg AV.bool ?_)) rfl
    exact fit_big (by simp at h6; omega)
  · refine aops_nil ?_
    refine awp_cond_false rfl ?_
    refine awp_skip ?_
    refine awp_seq ?_
    refine awp_seq ?_
    refine awp_region ?_
    refine d_pure tok rfl rfl (by dsimp only [putL, List.set]) ?_
    refine aops_nil ?_
    refine awp_block ?_
    refine awp_rounds (α := Nat) (fun i => ⟨[.list (l.map encMap), .any, .any, .int .i64 i, .any, .any, .any, .any, .any, .any, .any, .any, .any, .any, .any, .any, .any, .any, .any, .any, .any, .any, .any, .any, .any, .any, .any, .any, .any, .any, .any, .any, .any, .any, .any, .any, .any, .any, .any, .any, .any, .any, .any, .any], [], []⟩) (fun i => i ≤ l.length ∧ ∀ j, j < i → okAt oneL l j = true) (fun i => l.length - i) 0 (fun _ => by rw [hB]; exact Nat.zero_le _) ((sweak_tmps (.cons (weak_eq rfl) (.cons (.any _) (.cons (.any _) (.cons (weak_eq rfl) (.cons (.any _) (.cons (.any _) (.cons (.any _) (.cons (.any _) (.cons (.any _) (.cons (.any _) (.cons (.any _) (.cons (.any _) (.cons (.any _) (.cons (.any _) (.cons (.any _) (.cons (.any _) (.cons (.any _) (.cons (.any _) (.cons (.any _) (.cons (.any _) (.cons (.any _) (.cons (.any _) (.cons (.any _) (.cons (.any _) (.cons (.any _) (.cons (.any _) (.cons (.any _) (.cons (.any _) (.cons (.any _) (.cons (.any _) (.cons (.any _) (.cons (.any _) (.cons (.any _) (.cons (.any _) (.cons (.any _) (.cons (.any _) (.cons (.any _) (.cons (.any _) (.cons (.any _) (.cons (.any _) (.cons (.any _) (.cons (.any _) (.cons (.any _) (.cons (.any _) .nil)))))))))))))))))))))))))))))))))))))))))))))) (⟨Nat.zero_le _, ok_none⟩) (fun i hI => ?_)
    obtain ⟨hi0, hI⟩ := hI
    refine awp_seq ?_
    refine awp_seq ?_
    refine awp_region ?_
    refine d_pure tok rfl rfl (by dsimp only [putL, List.set]) ?_
    refine d_pure tok rfl rfl (by dsimp only [putL, List.set]) ?_
    refine d_pure tok rfl rfl (by dsimp only [putL, List.set]) ?_
    refine d_split rfl (head_p tok rfl) (by dsimp only [putL, List.set]) (by dsimp only [putL, List.set]) (fun h10 => ?_) (fun h10 => ?_)
    · have hi : i < l.length := by simpa using h10
      obtain ⟨x, hx⟩ := get_lt hi
      refine aops_nil ?_
      refine awp_cond_true rfl ?_
      refine awp_skip ?_
      refine awp_seq ?_
      refine awp_block ?_
      refine awp_seq ?_
      refine awp_draw 31 mixed (by decide +kernel) ?_
      refine hk_pure tok rfl rfl (by dsimp only [putL, List.set]) ?_
      refine hk_pure tok rfl rfl (by dsimp only [putL, List.set]) ?_
      refine hk_head rfl (head_index_list tok rfl rfl rfl rfl rfl rfl (Int.natCast_nonneg _) (get_map hx) rfl) (by dsimp only [putL, List.set]) ?_
      refine hk_pure tok rfl rfl (by dsimp only [putL, List.set]) ?_
      refine hk_split rfl (head_call rfl rfl rfl rfl (one_spec _)) (by dsimp only [putL, List.set]) (by dsimp only [putL, List.set]) (fun h17 => ?_) (fun h17 => ?_)
      · refine hk_pure tok rfl rfl (by dsimp only [putL, List.set]) ?_
        refine hk_pure tok rfl rfl (by dsimp only [putL, List.set]) ?_
        refine hk_pure tok rfl rfl (by dsimp only [putL, List.set]) ?_
        refine hk_split rfl (head_p tok rfl) (by dsimp only [putL, List.set]) (by dsimp only [putL, List.set]) (fun h21 => ?_) (fun h21 => ?_)
        · obtain ⟨j, rfl⟩ := pos_pred h21
          obtain ⟨y, hy⟩ := get_lt (show j < l.length by omega)
          refine hk_pure tok rfl rfl (by dsimp only [putL, List.set]) ?_
          refine hk_pure tok rfl rfl (by dsimp only [putL, List.set]) ?_
          refine hk_pure tok rfl rfl (by dsimp only [putL, List.set]) ?_
          refine hk_pure tok rfl rfl (by dsimp only [putL, List.set]) ?_
          refine hk_head rfl (head_index_list tok rfl rfl rfl rfl rfl rfl (pred64' (by omega) hl) (get_map_pred (by omega) hl hy) rfl) (by dsimp only [putL, List.set]) ?_
          refine hk_pure tok rfl rfl (by dsimp only [putL, List.set]) ?_
          refine hk_pure tok rfl rfl (by dsimp only [putL, List.set]) ?_
          refine hk_pure tok rfl rfl (by dsimp only [putL, List.set]) ?_
          refine hk_pure tok rfl rfl (by dsimp only [putL, List.set]) ?_
          refine hk_pure tok rfl rfl (by dsimp only [putL, List.set]) ?_
          refine hk_head rfl (head_index_list tok rfl rfl rfl rfl rfl rfl (pred64' (by omega) hl) (get_map_pred (by omega) hl hy) rfl) (by dsimp only [putL, List.set]) ?_
          refine hk_pure tok rfl rfl (by dsimp only [putL, List.set]) ?_
          refine hk_pure tok rfl rfl (by dsimp only [putL, List.set]) ?_
          refine hk_pure tok rfl rfl (by dsimp only [putL, List.set]) ?_
          refine hk_pure tok rfl rfl (by dsimp only [putL, List.set]) ?_
          refine hk_pure tok rfl rfl (by dsimp only [putL, List.set]) ?_
          refine hk_head rfl (head_index_list tok rfl rfl rfl rfl rfl rfl (Int.natCast_nonneg _) (get_map hx) rfl) (by dsimp only [putL, List.set]) ?_
          refine hk_pure tok rfl rfl (by dsimp only [putL, List.set]) ?_
          refine hk_pure tok rfl rfl (by dsimp only [putL, List.set]) ?_
          refine hk_pure tok rfl rfl (by dsimp only [putL, List.set]) ?_
          refine hk_pure tok rfl rfl (by dsimp only [putL, List.set]) ?_
          refine hk_split rfl (head_p tok rfl) (by dsimp only [putL, List.set]) (by dsimp only [putL, List.set]) (fun h43 => ?_) (fun h43 => ?_)
          · refine .nil ?_
            refine aops_nil ?_
            refine awp_cond_true rfl ?_
            refine awp_seq ?_
            refine awp_region ?_
            refine d_pure tok rfl rfl (by dsimp only [putL, List.set]) ?_
            refine aops_nil ?_
            refine awp_ret ?_
            refine qfun_ret rfl rfl (weak_eq (congrArg AV.bool ?_)) rfl
            exact fit_no hi (ok_no hx hy h43)
          · refine .nil ?_
            refine aops_nil ?_
            refine awp_cond_false rfl ?_
            refine awp_skip ?_
            refine awp_region ?_
            refine d_pure tok rfl rfl (by dsimp only [putL, List.set]) ?_
            refine d_pure tok rfl rfl (by dsimp only [putL, List.set]) ?_
            refine d_pure tok rfl rfl (by dsimp only [putL, List.set]) ?_
            refine aops_nil ?_
            exact ⟨_, (sweak_tmps (.cons (weak_eq rfl) (.cons (.any _) (.cons (.any _) (.cons (weak_eq (succ64' hi hl)) (.cons (.any _) (.cons (.any _) (.cons (.any _) (.cons (.any _) (.cons (.any _) (.cons (.any _) (.cons (.any _) (.cons (.any _) (.cons (.any _) (.cons (.any _) (.cons (.any _) (.cons (.any _) (.cons (.any _) (.cons (.any _) (.cons (.any _) (.cons (.any _) (.cons (.any _) (.cons (.any _) (.cons (.any _) (.cons (.any _) (.cons (.any _) (.cons (.any _) (.cons (.any _) (.cons (.any _) (.cons (.any _) (.cons (.any _) (.cons (.any _) (.cons (.any _) (.cons (.any _) (.cons (.any _) (.cons (.any _) (.cons (.any _) (.cons (.any _) (.cons (.any _) (.cons (.any _) (.cons (.any _) (.cons (.any _) (.cons (.any _) (.cons (.any _) (.cons (.any _) .nil))))))))))))))))))))))))))))))))))))))))))))), ⟨hi, ok_step hI (ok_yes hx hy h17 h43)⟩, by omega⟩
        · obtain rfl := zero_of h21
          refine hk_pure tok rfl rfl (by dsimp only [putL, List.set]) ?_
          refine hk_skip rfl (by dsimp only [putL, List.set]) ?_
          refine hk_skip rfl (by dsimp only [putL, List.set]) ?_
          refine hk_skip rfl (by dsimp only [putL, List.set]) ?_
          refine hk_skip rfl (by dsimp only [putL, List.set]) ?_
          refine hk_skip rfl (by dsimp only [putL, List.set]) ?_
          refine hk_skip rfl (by dsimp only [putL, List.set]) ?_
          refine hk_skip rfl (by dsimp only [putL, List.set]) ?_
          refine hk_skip rfl (by dsimp only [putL, List.set]) ?_
          refine hk_skip rfl (by dsimp only [putL, List.set]) ?_
          refine hk_skip rfl (by dsimp only [putL, List.set]) ?_
          refine hk_skip rfl (by dsimp only [putL, List.set]) ?_
          refine hk_skip rfl (by dsimp only [putL, List.set]) ?_
          refine hk_skip rfl (by dsimp only [putL, List.set]) ?_
          refine hk_skip rfl (by dsimp only [putL, List.set]) ?_
          refine hk_skip rfl (by dsimp only [putL, List.set]) ?_
          refine hk_skip rfl (by dsimp only [putL, List.set]) ?_
          refine hk_skip rfl (by dsimp only [putL, List.set]) ?_
          refine hk_skip rfl (by dsimp only [putL, List.set]) ?_
          refine hk_skip rfl (by dsimp only [putL, List.set]) ?_
          refine hk_pure tok rfl rfl (by dsimp only [putL, List.set]) ?_
          refine hk_pure tok rfl rfl (by dsimp only [putL, List.set]) ?_
          refine .nil ?_
          refine aops_nil ?_
          refine awp_cond_false rfl ?_
          refine awp_skip ?_
          refine awp_region ?_
          refine d_pure tok rfl rfl (by dsimp only [putL, List.set]) ?_
          refine d_pure tok rfl rfl (by dsimp only [putL, List.set]) ?_
          refine d_pure tok rfl rfl (by dsimp only [putL, List.set]) ?_
          refine aops_nil ?_
          exact ⟨_, (sweak_tmps (.cons (weak_eq rfl) (.cons (.any _) (.cons (.any _) (.cons (weak_eq (succ64' hi hl)) (.cons (.any _) (.cons (.any _) (.cons (.any _) (.cons (.any _) (.cons (.any _) (.cons (.any _) (.cons (.any _) (.cons (.any _) (.cons (.any _) (.cons (.any _) (.cons (.any _) (.cons (.any _) (.cons (.any _) (.cons (.any _) (.cons (.any _) (.cons (.any _) (.cons (.any _) (.cons (.any _) (.cons (.any _) (.cons (.any _) (.cons (.any _) (.cons (.any _) (.cons (.any _) (.cons (.any _) (.cons (.any _) (.cons (.any _) (.cons (.any _) (.cons (.any _) (.cons (.any _) (.cons (.any _) (.cons (.any _) (.cons (.any _) (.cons (.any _) (.cons (.any _) (.cons (.any _) (.cons (.any _) (.cons (.any _) (.cons (.any _) (.cons (.any _) (.cons (.any _) .nil))))))))))))))))))))))))))))))))))))))))))))), ⟨hi, ok_step hI (ok_yes0 hx h17)⟩, by omega⟩
      · refine hk_pure tok rfl rfl (by dsimp only [putL, List.set]) ?_
        refine hk_pure tok rfl rfl (by dsimp only [putL, List.set]) ?_
        refine hk_skip rfl (by dsimp only [putL, List.set]) ?_
        refine hk_skip rfl (by dsimp only [putL, List.set]) ?_
        refine hk_skip rfl (by dsimp only [putL, List.set]) ?_
        refine hk_skip rfl (by dsimp only [putL, List.set]) ?_
        refine hk_skip rfl (by dsimp only [putL, List.set]) ?_
        refine hk_skip rfl (by dsimp only [putL, List.set]) ?_
        refine hk_skip rfl (by dsimp only [putL, List.set]) ?_
        refine hk_skip rfl (by dsimp only [putL, List.set]) ?_
        refine hk_skip rfl (by dsimp only [putL, List.set]) ?_
        refine hk_skip rfl (by dsimp only [putL, List.set]) ?_
        refine hk_skip rfl (by dsimp only [putL, List.set]) ?_
        refine hk_skip rfl (by dsimp only [putL, List.set]) ?_
        refine hk_skip rfl (by dsimp only [putL, List.set]) ?_
        refine hk_skip rfl (by dsimp only [putL, List.set]) ?_
        refine hk_skip rfl (by dsimp only [putL, List.set]) ?_
        refine hk_skip rfl (by dsimp only [putL, List.set]) ?_
        refine hk_skip rfl (by dsimp only [putL, List.set]) ?_
        refine hk_skip rfl (by dsimp only [putL, List.set]) ?_
        refine hk_skip rfl (by dsimp only [putL, List.set]) ?_
        refine hk_skip rfl (by dsimp only [putL, List.set]) ?_
        refine hk_skip rfl (by dsimp only [putL, List.set]) ?_
        refine hk_skip rfl (by dsimp only [putL, List.set]) ?_
        refine hk_skip rfl (by dsimp only [putL, List.set]) ?_
        refine hk_pure tok rfl rfl (by dsimp only [putL, List.set]) ?_
        refine .nil ?_
        refine aops_nil ?_
        refine awp_cond_true rfl ?_
        refine awp_seq ?_
        refine awp_region ?_
        refine d_pure tok rfl rfl (by dsimp only [putL, List.set]) ?_
        refine aops_nil ?_
        refine awp_ret ?_
        refine qfun_ret rfl rfl (weak_eq (congrArg AV.bool ?_)) rfl
        exact fit_no hi (ok_no0 hx h17)
    · refine aops_nil ?_
      refine awp_cond_false rfl ?_
      refine awp_exit ?_
      refine awp_seq ?_
      refine awp_region ?_
      refine d_pure tok rfl rfl (by dsimp only [putL, List.set]) ?_
      refine aops_nil ?_
      refine awp_ret ?_
      have hle : l.length ≤ i := by simpa using h10
      refine qfun_ret rfl rfl (weak_eq (congrArg AV.bool ?_)) rfl
      rw [← fit_end hle hI]; simp at h6 ⊢; omega

theorem rsame_spec (l k : List MapD) (hl : l.length < 4611686018427387904) : PCall Try.prog 17 [.list (l.map encMap), .list (k.map encMap)] (.bool (decide (l = k))) := by
  refine d_intro Try.func17 rfl (by decide +kernel) (ts := [.list (l.map encMap), .list (k.map encMap), .undef, .undef, .undef, .undef, .undef, .undef, .undef, .undef, .undef, .undef, .undef, .undef, .undef, .undef, .undef, .undef, .undef, .undef, .undef, .undef, .undef, .undef, .undef, .undef]) rfl fun B hB => ?_
  refine awp_seq ?_
  refine awp_region ?_
  refine d_pure tok rfl rfl (by dsimp only [putL, List.set]) ?_
  refine aops_nil ?_
  refine awp_seq ?_
  refine awp_seq ?_
  refine awp_region ?_
  refine d_pure tok rfl rfl (by dsimp only [putL, List.set]) ?_
  refine d_pure tok rfl rfl (by dsimp only [putL, List.set]) ?_
  refine d_pure tok rfl rfl (by dsimp only [putL, List.set]) ?_
  refine d_pure tok rfl rfl (by dsimp only [putL, List.set]) ?_
  refine d_split rfl (head_p tok rfl) (by dsimp only [putL, List.set]) (by dsimp only [putL, List.set]) (fun h10 => ?_) (fun h10 => ?_)
  · refine aops_nil ?_
    refine awp_cond_true rfl ?_
    refine awp_seq ?_
    refine awp_region ?_
    refine d_pure tok rfl rfl (by dsimp only [putL, List.set]) ?_
    refine aops_nil ?_
    refine awp_ret ?_
    refine qfun_ret rfl rfl (weak_eq (congrArg AV.bool ?_)) rfl
    have hne : l ≠ k := fun e => by subst e; simp at h10
    simp [hne]
  · have hlen : l.length = k.length := by have h := h10; simp at h; omega
    refine aops_nil ?_
    refine awp_cond_false rfl ?_
    refine awp_skip ?_
    refine awp_seq ?_
    refine awp_seq ?_
    refine awp_region ?_
    refine d_pure tok rfl rfl (by dsimp only [putL, List.set]) ?_
    refine aops_nil ?_
    refine awp_block ?_
    refine awp_rounds (α := Nat) (fun i => ⟨[.list (l.map encMap), .list (k.map encMap), .any, .any, .any, .int .i64 i, .any, .any, .any, .any, .any, .any, .any, .any, .any, .any, .any, .any, .any, .any, .any, .any, .any, .any, .any, .any], [], []⟩) (fun i => i ≤ l.length ∧ l.take i = k.take i) (fun i => l.length - i) 0 (fun _ => by rw [hB]; exact Nat.zero_le _) ((sweak_tmps (.cons (weak_eq rfl) (.cons (weak_eq rfl) (.cons (.any _) (.cons (.any _) (.cons (.any _) (.cons (weak_eq rfl) (.cons (.any _) (.cons (.any _) (.cons (.any _) (.cons (.any _) (.cons (.any _) (.cons (.any _) (.cons (.any _) (.cons (.any _) (.cons (.any _) (.cons (.any _) (.cons (.any _) (.cons (.any _) (.cons (.any _) (.cons (.any _) (.cons (.any _) (.cons (.any _) (.cons (.any _) (.cons (.any _) (.cons (.any _) (.cons (.any _) .nil)))))))))))))))))))))))))))) (⟨Nat.zero_le _, rfl⟩) (fun i hI => ?_)
    obtain ⟨hi0, hI⟩ := hI
    refine awp_seq ?_
    refine awp_seq ?_
    refine awp_region ?_
    refine d_pure tok rfl rfl (by dsimp only [putL, List.set]) ?_
    refine d_pure tok rfl rfl (by dsimp only [putL, List.set]) ?_
    refine d_pure tok rfl rfl (by dsimp only [putL, List.set]) ?_
    refine d_split rfl (head_p tok rfl) (by dsimp only [putL, List.set]) (by dsimp only [putL, List.set]) (fun h14 => ?_) (fun h14 => ?_)
    · have hi : i < l.length := by simpa using h14
      obtain ⟨x, hx⟩ := get_lt hi
      obtain ⟨y, hy⟩ := get_lt (hlen ▸ hi : i < k.length)
      refine aops_nil ?_
      refine awp_cond_true rfl ?_
      refine awp_skip ?_
      refine awp_seq ?_
      refine awp_block ?_
      refine awp_seq ?_
      refine awp_draw 9 mixed (by decide +kernel) ?_
      refine hk_pure tok rfl rfl (by dsimp only [putL, List.set]) ?_
      refine hk_pure tok rfl rfl (by dsimp only [putL, List.set]) ?_
      refine hk_head rfl (head_index_list tok rfl rfl rfl rfl rfl rfl (Int.natCast_nonneg _) (get_map hx) rfl) (by dsimp only [putL, List.set]) ?_
      refine hk_pure tok rfl rfl (by dsimp only [putL, List.set]) ?_
      refine hk_pure tok rfl rfl (by dsimp only [putL, List.set]) ?_
      refine hk_pure tok rfl rfl (by dsimp only [putL, List.set]) ?_
      refine hk_head rfl (head_index_list tok rfl rfl rfl rfl rfl rfl (Int.natCast_nonneg _) (get_map hy) rfl) (by dsimp only [putL, List.set]) ?_
      refine hk_pure tok rfl rfl (by dsimp only [putL, List.set]) ?_
      refine hk_split rfl (head_eqs tok eqAll flat1 rfl (.inr ⟨rfl, rfl⟩) rfl rfl (by kernel_rfl) rfl rfl rfl) (by dsimp only [putL, List.set]) (by dsimp only [putL, List.set]) (fun h25 => ?_) (fun h25 => ?_)
      · have hxy : x ≠ y := by rw [encEq] at h25; simpa using h25
        refine .nil ?_
        refine aops_nil ?_
        refine awp_cond_true rfl ?_
        refine awp_seq ?_
        refine awp_region ?_
        refine d_pure tok rfl rfl (by dsimp only [putL, List.set]) ?_
        refine aops_nil ?_
        refine awp_ret ?_
        refine qfun_ret rfl rfl (weak_eq (congrArg AV.bool ?_)) rfl
        simp [ne_at hxy hx hy]
      · have hxy : x = y := by rw [encEq] at h25; simpa using h25
        refine .nil ?_
        refine aops_nil ?_
        refine awp_cond_false rfl ?_
        refine awp_skip ?_
        refine awp_region ?_
        refine d_pure tok rfl rfl (by dsimp only [putL, List.set]) ?_
        refine d_pure tok rfl rfl (by dsimp only [putL, List.set]) ?_
        refine d_pure tok rfl rfl (by dsimp only [putL, List.set]) ?_
        refine aops_nil ?_
        exact ⟨i + 1, (sweak_tmps (.cons (weak_eq rfl) (.cons (weak_eq rfl) (.cons (.any _) (.cons (.any _) (.cons (.any _) (.cons (weak_eq (succ64' hi hl)) (.cons (.any _) (.cons (.any _) (.cons (.any _) (.cons (.any _) (.cons (.any _) (.cons (.any _) (.cons (.any _) (.cons (.any _) (.cons (.any _) (.cons (.any _) (.cons (.any _) (.cons (.any _) (.cons (.any _) (.cons (.any _) (.cons (.any _) (.cons (.any _) (.cons (.any _) (.cons (.any _) (.cons (.any _) (.cons (.any _) .nil))))))))))))))))))))))))))), ⟨hi, take_step hI hx (hxy ▸ hy)⟩, by omega⟩
    · refine aops_nil ?_
      refine awp_cond_false rfl ?_
      refine awp_exit ?_
      refine awp_seq ?_
      refine awp_region ?_
      refine d_pure tok rfl rfl (by dsimp only [putL, List.set]) ?_
      refine aops_nil ?_
      refine awp_ret ?_
      refine qfun_ret rfl rfl (weak_eq (congrArg AV.bool ?_)) rfl
      have hle : l.length ≤ i := by simpa using h14
      simp [eq_take hI hle (hlen ▸ hle)]

end Go.Proofs.Ytpckfpahmnhfcaa.F
