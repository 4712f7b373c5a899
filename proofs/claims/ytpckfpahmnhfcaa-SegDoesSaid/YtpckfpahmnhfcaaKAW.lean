/- Walks: what functions of the program compute. Printed by wip/gen/pwrun.py. -/
import Derived.Test.YtpckfpahmnhfcaaKAF
import Derived.Test.YtpckfpahmnhfcaaG26
namespace Go.Proofs.Ytpckfpahmnhfcaa.K
open Go Go.RowKit Go.Proofs.Ytpckfpahmnhfcaa.G
set_option linter.unusedVariables false
set_option maxRecDepth 20000
set_option maxHeartbeats 4000000
theorem level_Fit_w (n : Int) (r : Bool) (h : level_Fit n = some r) : PCall Try.prog 150 [.int .i64 n] (.bool r) := by
  replace h : post (level_Fit n) (fun v => v = r) := ⟨_, h, rfl⟩
  unfold level_Fit at h
  refine d_intro Try.func150 rfl (by decide +kernel) (ts := .int .i64 n :: un 8) rfl fun B hB => ?_
  refine lc ?_ (by dsimp only [un])
  refine awp_seq ?_
  refine awp_region ?_
  refine dp rfl rfl ?_
  refine aops_nil ?_
  refine awp_seq ?_
  refine awp_region ?_
  iterate 2 refine dp rfl rfl ?_
  refine di h rfl (hpr rfl) (fun h => ?_) (fun h => ?_)
  · refine dp rfl rfl ?_
    iterate 3 refine dp rfl rfl ?_
    refine aops_nil ?_
    refine awp_ret ?_
    obtain rfl := pe h
    exact qfun_ret rfl rfl (Weak.refl _) rfl
  · refine dk rfl ?_
    refine dk rfl ?_
    iterate 2 refine dp rfl rfl ?_
    refine aops_nil ?_
    refine awp_ret ?_
    obtain rfl := pe h
    exact qfun_ret rfl rfl (Weak.refl _) rfl

theorem level_of_w (n : Int) (r : Int) (h : level_of n = some r) : PCall Try.prog 157 [.int .i64 n] (.int .i64 r) := by
  replace h : post (level_of n) (fun v => v = r) := ⟨_, h, rfl⟩
  unfold level_of at h
  refine d_intro Try.func157 rfl (by decide +kernel) (ts := .int .i64 n :: un 5) rfl fun B hB => ?_
  refine lc ?_ (by dsimp only [un])
  refine awp_seq ?_
  refine awp_region ?_
  refine dp rfl rfl ?_
  refine aops_nil ?_
  iterate 2 refine awp_seq ?_
  refine awp_region ?_
  refine dp rfl rfl ?_
  obtain ⟨v1, hv1, h⟩ := pb h
  refine dh rfl (head_callp (level_Fit_w _ _ hv1) rfl rfl rfl rfl) ?_
  refine aops_nil ?_
  refine cc h rfl (fun h => ?_) (fun h => ?_)
  · refine awp_seq ?_
    refine awp_region ?_
    iterate 2 refine dp rfl rfl ?_
    refine aops_nil ?_
    refine awp_ret ?_
    obtain rfl := pe h
    exact qfun_ret rfl rfl (Weak.refl _) rfl
  · refine awp_skip ?_
    refine awp_seq ?_
    refine awp_region ?_
    refine dp rfl rfl ?_
    refine aops_nil ?_
    refine awp_ret ?_
    obtain rfl := pe h
    exact qfun_ret rfl rfl (Weak.refl _) rfl

theorem level_Leq_w (a : Int) (b : Int) (r : Bool) (h : level_Leq a b = some r) : PCall Try.prog 155 [.int .i64 a, .int .i64 b] (.bool r) := by
  replace h : post (level_Leq a b) (fun v => v = r) := ⟨_, h, rfl⟩
  unfold level_Leq at h
  refine d_intro Try.func155 rfl (by decide +kernel) (ts := .int .i64 a :: .int .i64 b :: un 8) rfl fun B hB => ?_
  refine lc ?_ (by dsimp only [un])
  refine awp_seq ?_
  refine awp_region ?_
  refine dp rfl rfl ?_
  refine aops_nil ?_
  refine awp_seq ?_
  refine awp_region ?_
  refine dp rfl rfl ?_
  obtain ⟨v1, hv1, h⟩ := pb h
  refine dh rfl (head_callp (level_of_w _ _ hv1) rfl rfl rfl rfl) ?_
  refine dp rfl rfl ?_
  obtain ⟨v2, hv2, h⟩ := pb h
  refine dh rfl (head_callp (level_of_w _ _ hv2) rfl rfl rfl rfl) ?_
  iterate 2 refine dp rfl rfl ?_
  refine aops_nil ?_
  refine awp_ret ?_
  obtain rfl := pe h
  exact qfun_ret rfl rfl (Weak.refl _) rfl

theorem level_Raise_w (n : Int) (r : Int) (h : level_Raise n = some r) : PCall Try.prog 137 [.int .i64 n] (.int .i64 r) := by
  replace h : post (level_Raise n) (fun v => v = r) := ⟨_, h, rfl⟩
  unfold level_Raise at h
  refine d_intro Try.func137 rfl (by decide +kernel) (ts := .int .i64 n :: un 7) rfl fun B hB => ?_
  refine lc ?_ (by dsimp only [un])
  refine awp_seq ?_
  refine awp_region ?_
  refine dp rfl rfl ?_
  refine aops_nil ?_
  iterate 2 refine awp_seq ?_
  refine awp_region ?_
  refine dp rfl rfl ?_
  obtain ⟨v1, hv1, h⟩ := pb h
  refine dh rfl (head_callp (level_of_w _ _ hv1) rfl rfl rfl rfl) ?_
  refine dp rfl rfl ?_
  refine aops_nil ?_
  refine awp_seq ?_
  refine awp_region ?_
  iterate 2 refine dp rfl rfl ?_
  refine aops_nil ?_
  refine cc h rfl (fun h => ?_) (fun h => ?_)
  · refine awp_seq ?_
    refine awp_region ?_
    iterate 2 refine dp rfl rfl ?_
    refine aops_nil ?_
    refine awp_ret ?_
    obtain rfl := pe h
    exact qfun_ret rfl rfl (Weak.refl _) rfl
  · refine awp_skip ?_
    refine awp_seq ?_
    refine awp_region ?_
    refine dp rfl rfl ?_
    refine aops_nil ?_
    refine awp_ret ?_
    obtain rfl := pe h
    exact qfun_ret rfl rfl (Weak.refl _) rfl

theorem r01_Fit_w (n : Int) (r : Bool) (h : r01_Fit n = some r) : PCall Try.prog 139 [.int .i64 n] (.bool r) := by
  replace h : post (r01_Fit n) (fun v => v = r) := ⟨_, h, rfl⟩
  unfold r01_Fit at h
  refine d_intro Try.func139 rfl (by decide +kernel) (ts := .int .i64 n :: un 8) rfl fun B hB => ?_
  refine lc ?_ (by dsimp only [un])
  refine awp_seq ?_
  refine awp_region ?_
  refine dp rfl rfl ?_
  refine aops_nil ?_
  refine awp_seq ?_
  refine awp_region ?_
  iterate 2 refine dp rfl rfl ?_
  refine di h rfl (hpr rfl) (fun h => ?_) (fun h => ?_)
  · refine dp rfl rfl ?_
    iterate 3 refine dp rfl rfl ?_
    refine aops_nil ?_
    refine awp_ret ?_
    obtain rfl := pe h
    exact qfun_ret rfl rfl (Weak.refl _) rfl
  · refine dk rfl ?_
    refine dk rfl ?_
    iterate 2 refine dp rfl rfl ?_
    refine aops_nil ?_
    refine awp_ret ?_
    obtain rfl := pe h
    exact qfun_ret rfl rfl (Weak.refl _) rfl

theorem r01_Of_w (n : Int) (r : Int) (h : r01_Of n = some r) : PCall Try.prog 156 [.int .i64 n] (.int .i64 r) := by
  replace h : post (r01_Of n) (fun v => v = r) := ⟨_, h, rfl⟩
  unfold r01_Of at h
  refine d_intro Try.func156 rfl (by decide +kernel) (ts := .int .i64 n :: un 9) rfl fun B hB => ?_
  refine lc ?_ (by dsimp only [un])
  refine awp_seq ?_
  refine awp_region ?_
  refine dp rfl rfl ?_
  refine aops_nil ?_
  refine awp_seq ?_
  refine cw h (fun x1 => ⟨.int .i64 n :: an 7 (.bool x1 :: an 1 []), [], []⟩) (fun x1 h => ?_) (fun h => ?_)
  · refine lc ?_
    refine cc h rfl (fun h => ?_) (fun h => ?_)
    · refine awp_seq ?_
      refine awp_region ?_
      refine dp rfl rfl ?_
      refine aops_nil ?_
      refine awp_ret ?_
      obtain rfl := pe h
      exact qfun_ret rfl rfl (Weak.refl _) rfl
    · refine awp_skip ?_
      refine awp_seq ?_
      refine awp_region ?_
      iterate 2 refine dp rfl rfl ?_
      refine aops_nil ?_
      refine awp_ret ?_
      obtain rfl := pe h
      exact qfun_ret rfl rfl (Weak.refl _) rfl
  · refine awp_region ?_
    iterate 2 refine dp rfl rfl ?_
    refine di h rfl (hpr rfl) (fun h => ?_) (fun h => ?_)
    · refine dk rfl ?_
      refine dk rfl ?_
      refine dp rfl rfl ?_
      refine aops_nil ?_
      exact ⟨true, (sk [0, 8] [] rfl), (pe h :)⟩
    · refine dp rfl rfl ?_
      iterate 2 refine dp rfl rfl ?_
      refine aops_nil ?_
      exact ⟨(decide (n > (5 : Int))), (sk [0, 8] [] rfl), (pe h :)⟩

theorem r01_Leq_w (a : Int) (b : Int) (r : Bool) (h : r01_Leq a b = some r) : PCall Try.prog 131 [.int .i64 a, .int .i64 b] (.bool r) := by
  replace h : post (r01_Leq a b) (fun v => v = r) := ⟨_, h, rfl⟩
  unfold r01_Leq at h
  refine d_intro Try.func131 rfl (by decide +kernel) (ts := .int .i64 a :: .int .i64 b :: un 8) rfl fun B hB => ?_
  refine lc ?_ (by dsimp only [un])
  refine awp_seq ?_
  refine awp_region ?_
  refine dp rfl rfl ?_
  refine aops_nil ?_
  refine awp_seq ?_
  refine awp_region ?_
  refine dp rfl rfl ?_
  obtain ⟨v1, hv1, h⟩ := pb h
  refine dh rfl (head_callp (r01_Of_w _ _ hv1) rfl rfl rfl rfl) ?_
  refine dp rfl rfl ?_
  obtain ⟨v2, hv2, h⟩ := pb h
  refine dh rfl (head_callp (r01_Of_w _ _ hv2) rfl rfl rfl rfl) ?_
  iterate 2 refine dp rfl rfl ?_
  refine aops_nil ?_
  refine awp_ret ?_
  obtain rfl := pe h
  exact qfun_ret rfl rfl (Weak.refl _) rfl

theorem r01_Raise_w (n : Int) (r : Int) (h : r01_Raise n = some r) : PCall Try.prog 138 [.int .i64 n] (.int .i64 r) := by
  replace h : post (r01_Raise n) (fun v => v = r) := ⟨_, h, rfl⟩
  unfold r01_Raise at h
  refine d_intro Try.func138 rfl (by decide +kernel) (ts := .int .i64 n :: un 7) rfl fun B hB => ?_
  refine lc ?_ (by dsimp only [un])
  refine awp_seq ?_
  refine awp_region ?_
  refine dp rfl rfl ?_
  refine aops_nil ?_
  iterate 2 refine awp_seq ?_
  refine awp_region ?_
  refine dp rfl rfl ?_
  obtain ⟨v1, hv1, h⟩ := pb h
  refine dh rfl (head_callp (r01_Of_w _ _ hv1) rfl rfl rfl rfl) ?_
  refine dp rfl rfl ?_
  refine aops_nil ?_
  refine cc h rfl (fun h => ?_) (fun h => ?_)
  · refine awp_seq ?_
    refine awp_region ?_
    refine dp rfl rfl ?_
    refine aops_nil ?_
    refine awp_ret ?_
    obtain rfl := pe h
    exact qfun_ret rfl rfl (Weak.refl _) rfl
  · refine awp_skip ?_
    refine awp_seq ?_
    refine awp_region ?_
    refine dp rfl rfl ?_
    obtain ⟨v3, hv3, h⟩ := pb h
    refine dh rfl (head_callp (r01_Of_w _ _ hv3) rfl rfl rfl rfl) ?_
    refine dp rfl rfl ?_
    refine aops_nil ?_
    refine awp_ret ?_
    obtain rfl := pe h
    exact qfun_ret rfl rfl (Weak.refl _) rfl

theorem obj_named_w (id_ : Int) (r : Bool) (h : obj_named id_ = some r) : PCall Try.prog 79 [.int .u64 id_] (.bool r) := by
  replace h : post (obj_named id_) (fun v => v = r) := ⟨_, h, rfl⟩
  unfold obj_named at h
  refine d_intro Try.func79 rfl (by decide +kernel) (ts := .int .u64 id_ :: un 8) rfl fun B hB => ?_
  refine lc ?_ (by dsimp only [un])
  refine awp_seq ?_
  refine awp_region ?_
  refine dp rfl rfl ?_
  refine aops_nil ?_
  refine awp_seq ?_
  refine awp_region ?_
  iterate 2 refine dp rfl rfl ?_
  refine di h rfl (hpr rfl) (fun h => ?_) (fun h => ?_)
  · refine dp rfl rfl ?_
    iterate 3 refine dp rfl rfl ?_
    refine aops_nil ?_
    refine awp_ret ?_
    obtain rfl := pe h
    exact qfun_ret rfl rfl (Weak.refl _) rfl
  · refine dk rfl ?_
    refine dk rfl ?_
    iterate 2 refine dp rfl rfl ?_
    refine aops_nil ?_
    refine awp_ret ?_
    obtain rfl := pe h
    exact qfun_ret rfl rfl (Weak.refl _) rfl

theorem r13_id_w (n : Int) (r : Bool) (h : r13_id n = some r) : PCall Try.prog 84 [.int .u64 n] (.bool r) := by
  replace h : post (r13_id n) (fun v => v = r) := ⟨_, h, rfl⟩
  unfold r13_id at h
  refine d_intro Try.func84 rfl (by decide +kernel) (ts := .int .u64 n :: un 8) rfl fun B hB => ?_
  refine lc ?_ (by dsimp only [un])
  refine awp_seq ?_
  refine awp_region ?_
  refine dp rfl rfl ?_
  refine aops_nil ?_
  refine awp_seq ?_
  refine awp_region ?_
  iterate 2 refine dp rfl rfl ?_
  refine di h rfl (hpr rfl) (fun h => ?_) (fun h => ?_)
  · refine dp rfl rfl ?_
    iterate 3 refine dp rfl rfl ?_
    refine aops_nil ?_
    refine awp_ret ?_
    obtain rfl := pe h
    exact qfun_ret rfl rfl (Weak.refl _) rfl
  · refine dk rfl ?_
    refine dk rfl ?_
    iterate 2 refine dp rfl rfl ?_
    refine aops_nil ?_
    refine awp_ret ?_
    obtain rfl := pe h
    exact qfun_ret rfl rfl (Weak.refl _) rfl

theorem serial_Fit_w (s : SpanD) (r : Bool) (h : serial_Fit s = some r) : PCall Try.prog 153 [.agg (encSpanD s)] (.bool r) := by
  replace h : post (serial_Fit s) (fun v => v = r) := ⟨_, h, rfl⟩
  unfold serial_Fit at h
  refine d_intro Try.func153 rfl (by decide +kernel) (ts := .agg (encSpanD s) :: un 12) rfl fun B hB => ?_
  refine lc ?_ (by dsimp only [un])
  refine awp_seq ?_
  refine awp_region ?_
  refine dn rfl (hbx (cs := (encSpanD s)) 0 rfl rfl rfl) ?_
  refine dp rfl rfl ?_
  refine aops_nil ?_
  refine awp_seq ?_
  refine awp_region ?_
  iterate 5 refine dp rfl rfl ?_
  refine di h rfl (hpr rfl) (fun h => ?_) (fun h => ?_)
  · refine dp rfl rfl ?_
    iterate 4 refine dp rfl rfl ?_
    refine aops_nil ?_
    refine awp_ret ?_
    obtain rfl := pe h
    exact qfun_ret rfl rfl (Weak.refl _) rfl
  · refine dk rfl ?_
    iterate 2 refine dk rfl ?_
    iterate 2 refine dp rfl rfl ?_
    refine aops_nil ?_
    refine awp_ret ?_
    obtain rfl := pe h
    exact qfun_ret rfl rfl (Weak.refl _) rfl

theorem r07_Fit_w (s : SpanD) (r : Bool) (h : r07_Fit s = some r) : PCall Try.prog 130 [.agg (encSpanD s)] (.bool r) := by
  replace h : post (r07_Fit s) (fun v => v = r) := ⟨_, h, rfl⟩
  unfold r07_Fit at h
  refine d_intro Try.func130 rfl (by decide +kernel) (ts := .agg (encSpanD s) :: un 12) rfl fun B hB => ?_
  refine lc ?_ (by dsimp only [un])
  refine awp_seq ?_
  refine awp_region ?_
  refine dn rfl (hbx (cs := (encSpanD s)) 0 rfl rfl rfl) ?_
  refine dp rfl rfl ?_
  refine aops_nil ?_
  refine awp_seq ?_
  refine awp_region ?_
  iterate 5 refine dp rfl rfl ?_
  refine di h rfl (hpr rfl) (fun h => ?_) (fun h => ?_)
  · refine dp rfl rfl ?_
    iterate 4 refine dp rfl rfl ?_
    refine aops_nil ?_
    refine awp_ret ?_
    obtain rfl := pe h
    exact qfun_ret rfl rfl (Weak.refl _) rfl
  · refine dk rfl ?_
    iterate 2 refine dk rfl ?_
    iterate 2 refine dp rfl rfl ?_
    refine aops_nil ?_
    refine awp_ret ?_
    obtain rfl := pe h
    exact qfun_ret rfl rfl (Weak.refl _) rfl

theorem r02_Get_w (l : List PairD) (cat : Int) (r : Int) (h : r02_Get l cat = some r) : PCall Try.prog 132 [.list (List.map encPairD l), .int .u64 cat] (.int .i64 r) := by
  replace h : post (r02_Get l cat) (fun v => v = r) := ⟨_, h, rfl⟩
  unfold r02_Get at h
  refine d_intro Try.func132 rfl (by decide +kernel) (ts := .list (List.map encPairD l) :: .int .u64 cat :: un 22) rfl fun B hB => ?_
  refine lc ?_ (by dsimp only [un])
  refine awp_seq ?_
  refine awp_region ?_
  refine dp rfl rfl ?_
  refine aops_nil ?_
  iterate 2 refine awp_seq ?_
  refine awp_region ?_
  refine dp rfl rfl ?_
  refine aops_nil ?_
  refine awp_block ?_
  refine cl h (fun x1 => ⟨.list (List.map encPairD l) :: .int .u64 cat :: an 3 (.int .i64 x1 :: an 18 []), [], []⟩) (sk [0, 1, 5] [] rfl) (fun rec x1 h => ?_)
  unfold r02_Get_L0 at h
  refine lc ?_
  iterate 2 refine awp_seq ?_
  refine awp_region ?_
  iterate 2 refine dp rfl rfl ?_
  refine dh rfl (head_len_map tok rfl rfl rfl rfl) ?_
  refine dp rfl rfl ?_
  refine aops_nil ?_
  refine cc h rfl (fun h => ?_) (fun h => ?_)
  · refine awp_skip ?_
    refine awp_seq ?_
    refine awp_block ?_
    refine awp_seq ?_
    refine awp_region ?_
    iterate 2 refine dp rfl rfl ?_
    obtain ⟨x4, hx4, h⟩ := pb h
    refine dh rfl (head_index_map tok hx4 rfl rfl rfl rfl rfl rfl rfl) ?_
    iterate 4 refine dp rfl rfl ?_
    refine aops_nil ?_
    refine cc h rfl (fun h => ?_) (fun h => ?_)
    · refine awp_seq ?_
      refine awp_region ?_
      iterate 2 refine dp rfl rfl ?_
      obtain ⟨x6, hx6, h⟩ := pb h
      refine dh rfl (head_index_map tok hx6 rfl rfl rfl rfl rfl rfl rfl) ?_
      iterate 3 refine dp rfl rfl ?_
      refine aops_nil ?_
      replace h := pe h
      let y2ret : Int := x6.Lev
      refine awp_ret ?_
      obtain rfl := pe h
      exact qfun_ret rfl rfl (Weak.refl _) rfl
    · refine awp_skip ?_
      refine awp_region ?_
      iterate 3 refine dp rfl rfl ?_
      refine aops_nil ?_
      exact ⟨(IntKind.i64.wrap (x1 + (1 : Int))), (sk [0, 1, 5] [] rfl), h⟩
  · refine awp_exit ?_
    replace h := pe h
    refine awp_seq ?_
    refine awp_region ?_
    refine dp rfl rfl ?_
    refine aops_nil ?_
    refine awp_ret ?_
    obtain rfl := pe h
    exact qfun_ret rfl rfl (Weak.refl _) rfl

theorem r02_Fit_w (l : List PairD) (r : Bool) (h : r02_Fit l = some r) : PCall Try.prog 109 [.list (List.map encPairD l)] (.bool r) := by
  replace h : post (r02_Fit l) (fun v => v = r) := ⟨_, h, rfl⟩
  unfold r02_Fit at h
  refine d_intro Try.func109 rfl (by decide +kernel) (ts := .list (List.map encPairD l) :: un 42) rfl fun B hB => ?_
  refine lc ?_ (by dsimp only [un])
  refine awp_seq ?_
  refine awp_region ?_
  refine dp rfl rfl ?_
  refine aops_nil ?_
  iterate 2 refine awp_seq ?_
  refine awp_region ?_
  refine dp rfl rfl ?_
  refine aops_nil ?_
  refine awp_block ?_
  refine cl h (fun x1 => ⟨.list (List.map encPairD l) :: an 2 (.int .i64 x1 :: an 39 []), [], []⟩) (sk [0, 3] [] rfl) (fun rec x1 h => ?_)
  unfold r02_Fit_L0 at h
  refine lc ?_
  iterate 2 refine awp_seq ?_
  refine awp_region ?_
  iterate 2 refine dp rfl rfl ?_
  refine dh rfl (head_len_map tok rfl rfl rfl rfl) ?_
  refine dp rfl rfl ?_
  refine aops_nil ?_
  refine cc h rfl (fun h => ?_) (fun h => ?_)
  · refine awp_skip ?_
    refine awp_seq ?_
    refine awp_block ?_
    refine cw h (fun x4 => ⟨.list (List.map encPairD l) :: an 2 (.int .i64 x1 :: an 38 (.bool x4 :: [])), [], []⟩) (fun x4 h => ?_) (fun h => ?_)
    · refine lc ?_
      refine cc h rfl (fun h => ?_) (fun h => ?_)
      · refine awp_seq ?_
        refine awp_region ?_
        refine dp rfl rfl ?_
        refine aops_nil ?_
        replace h := pe h
        refine awp_ret ?_
        obtain rfl := pe h
        exact qfun_ret rfl rfl (Weak.refl _) rfl
      · refine awp_skip ?_
        refine awp_region ?_
        iterate 3 refine dp rfl rfl ?_
        refine aops_nil ?_
        exact ⟨(IntKind.i64.wrap (x1 + (1 : Int))), (sk [0, 3] [] rfl), h⟩
    · refine awp_draw 33 mixed (by decide +kernel) ?_
      iterate 2 refine kp rfl rfl ?_
      obtain ⟨x6, hx6, h⟩ := pb h
      refine kh rfl (head_index_map tok hx6 rfl rfl rfl rfl rfl rfl rfl) ?_
      iterate 2 refine kp rfl rfl ?_
      obtain ⟨v7, hv7, h⟩ := pb h
      refine kh rfl (head_callp (r01_Fit_w _ _ hv7) rfl rfl rfl rfl) ?_
      refine kp rfl rfl ?_
      refine ki h rfl (hpr rfl) (fun h => ?_) (fun h => ?_)
      · refine kk rfl ?_
        iterate 5 refine kk rfl ?_
        iterate 2 refine kp rfl rfl ?_
        iterate 16 refine kk rfl ?_
        refine kp rfl rfl ?_
        refine .nil ?_
        refine aops_nil ?_
        exact ⟨true, (sk [0, 3, 42] [] rfl), (pe h :)⟩
      · refine kp rfl rfl ?_
        refine kp rfl rfl ?_
        obtain ⟨x9, hx9, h⟩ := pb h
        refine kh rfl (head_index_map tok hx9 rfl rfl rfl rfl rfl rfl rfl) ?_
        iterate 4 refine kp rfl rfl ?_
        refine ki h rfl (hpr rfl) (fun h => ?_) (fun h => ?_)
        · refine kk rfl ?_
          iterate 15 refine kk rfl ?_
          refine kp rfl rfl ?_
          refine .nil ?_
          refine aops_nil ?_
          exact ⟨true, (sk [0, 3, 42] [] rfl), (pe h :)⟩
        · refine kp rfl rfl ?_
          refine kp rfl rfl ?_
          refine ki h rfl (hpr rfl) (fun h => ?_) (fun h => ?_)
          · refine kp rfl rfl ?_
            iterate 2 refine kp rfl rfl ?_
            obtain ⟨x12, hx12, h⟩ := pb h
            refine kh rfl (head_index_map tok hx12 rfl rfl rfl rfl rfl rfl rfl) ?_
            iterate 4 refine kp rfl rfl ?_
            obtain ⟨x13, hx13, h⟩ := pb h
            refine kh rfl (head_index_map tok hx13 rfl rfl rfl rfl rfl rfl rfl) ?_
            iterate 5 refine kp rfl rfl ?_
            refine .nil ?_
            refine aops_nil ?_
            exact ⟨(decide (x12.Cat ≥ x13.Cat)), (sk [0, 3, 42] [] rfl), (pe h :)⟩
          · refine kk rfl ?_
            iterate 11 refine kk rfl ?_
            iterate 2 refine kp rfl rfl ?_
            refine .nil ?_
            refine aops_nil ?_
            exact ⟨false, (sk [0, 3, 42] [] rfl), (pe h :)⟩
  · refine awp_exit ?_
    replace h := pe h
    refine awp_seq ?_
    refine awp_region ?_
    refine dp rfl rfl ?_
    refine aops_nil ?_
    refine awp_ret ?_
    obtain rfl := pe h
    exact qfun_ret rfl rfl (Weak.refl _) rfl

theorem r02_Same_w (a : List PairD) (b : List PairD) (r : Bool) (h : r02_Same a b = some r) : PCall Try.prog 99 [.list (List.map encPairD a), .list (List.map encPairD b)] (.bool r) := by
  replace h : post (r02_Same a b) (fun v => v = r) := ⟨_, h, rfl⟩
  unfold r02_Same at h
  refine d_intro Try.func99 rfl (by decide +kernel) (ts := .list (List.map encPairD a) :: .list (List.map encPairD b) :: un 24) rfl fun B hB => ?_
  refine lc ?_ (by dsimp only [un])
  refine awp_seq ?_
  refine awp_region ?_
  refine dp rfl rfl ?_
  refine aops_nil ?_
  iterate 2 refine awp_seq ?_
  refine awp_region ?_
  refine dp rfl rfl ?_
  refine dh rfl (head_len_map tok rfl rfl rfl rfl) ?_
  refine dp rfl rfl ?_
  refine dh rfl (head_len_map tok rfl rfl rfl rfl) ?_
  refine dp rfl rfl ?_
  refine aops_nil ?_
  refine cc h rfl (fun h => ?_) (fun h => ?_)
  · refine awp_seq ?_
    refine awp_region ?_
    refine dp rfl rfl ?_
    refine aops_nil ?_
    refine awp_ret ?_
    obtain rfl := pe h
    exact qfun_ret rfl rfl (Weak.refl _) rfl
  · refine awp_skip ?_
    iterate 2 refine awp_seq ?_
    refine awp_region ?_
    refine dp rfl rfl ?_
    refine aops_nil ?_
    refine awp_block ?_
    refine cl h (fun x2 => ⟨.list (List.map encPairD a) :: .list (List.map encPairD b) :: an 3 (.int .i64 x2 :: an 20 []), [], []⟩) (sk [0, 1, 5] [] rfl) (fun rec x2 h => ?_)
    unfold r02_Same_L0 at h
    refine lc ?_
    iterate 2 refine awp_seq ?_
    refine awp_region ?_
    iterate 2 refine dp rfl rfl ?_
    refine dh rfl (head_len_map tok rfl rfl rfl rfl) ?_
    refine dp rfl rfl ?_
    refine aops_nil ?_
    refine cc h rfl (fun h => ?_) (fun h => ?_)
    · refine awp_skip ?_
      refine awp_seq ?_
      refine awp_block ?_
      refine awp_seq ?_
      refine awp_draw 9 mixed (by decide +kernel) ?_
      iterate 2 refine kp rfl rfl ?_
      obtain ⟨x5, hx5, h⟩ := pb h
      refine kh rfl (head_index_map tok hx5 rfl rfl rfl rfl rfl rfl rfl) ?_
      iterate 3 refine kp rfl rfl ?_
      obtain ⟨x6, hx6, h⟩ := pb h
      refine kh rfl (head_index_map tok hx6 rfl rfl rfl rfl rfl rfl rfl) ?_
      refine kp rfl rfl ?_
      refine kh rfl (head_eqs tok eqAll flat1 rfl (.inr ⟨rfl, rfl⟩) rfl rfl (by kernel_rfl) rfl rfl rfl) ?_
      refine .nil ?_
      refine aops_nil ?_
      refine cc h rfl (fun h => ?_) (fun h => ?_)
      · refine awp_seq ?_
        refine awp_region ?_
        refine dp rfl rfl ?_
        refine aops_nil ?_
        replace h := pe h
        refine awp_ret ?_
        obtain rfl := pe h
        exact qfun_ret rfl rfl (Weak.refl _) rfl
      · refine awp_skip ?_
        refine awp_region ?_
        iterate 3 refine dp rfl rfl ?_
        refine aops_nil ?_
        exact ⟨(IntKind.i64.wrap (x2 + (1 : Int))), (sk [0, 1, 5] [] rfl), h⟩
    · refine awp_exit ?_
      replace h := pe h
      refine awp_seq ?_
      refine awp_region ?_
      refine dp rfl rfl ?_
      refine aops_nil ?_
      refine awp_ret ?_
      obtain rfl := pe h
      exact qfun_ret rfl rfl (Weak.refl _) rfl

theorem r02_Cats_w (a : List Int) (b : List Int) (r : Bool) (h : r02_Cats a b = some r) : PCall Try.prog 100 [.list (List.map (encI .u64) a), .list (List.map (encI .u64) b)] (.bool r) := by
  replace h : post (r02_Cats a b) (fun v => v = r) := ⟨_, h, rfl⟩
  unfold r02_Cats at h
  refine d_intro Try.func100 rfl (by decide +kernel) (ts := .list (List.map (encI .u64) a) :: .list (List.map (encI .u64) b) :: un 24) rfl fun B hB => ?_
  refine lc ?_ (by dsimp only [un])
  refine awp_seq ?_
  refine awp_region ?_
  refine dp rfl rfl ?_
  refine aops_nil ?_
  iterate 2 refine awp_seq ?_
  refine awp_region ?_
  refine dp rfl rfl ?_
  refine dh rfl (head_len_map tok rfl rfl rfl rfl) ?_
  refine dp rfl rfl ?_
  refine dh rfl (head_len_map tok rfl rfl rfl rfl) ?_
  refine dp rfl rfl ?_
  refine aops_nil ?_
  refine cc h rfl (fun h => ?_) (fun h => ?_)
  · refine awp_seq ?_
    refine awp_region ?_
    refine dp rfl rfl ?_
    refine aops_nil ?_
    refine awp_ret ?_
    obtain rfl := pe h
    exact qfun_ret rfl rfl (Weak.refl _) rfl
  · refine awp_skip ?_
    iterate 2 refine awp_seq ?_
    refine awp_region ?_
    refine dp rfl rfl ?_
    refine aops_nil ?_
    refine awp_block ?_
    refine cl h (fun x2 => ⟨.list (List.map (encI .u64) a) :: .list (List.map (encI .u64) b) :: an 3 (.int .i64 x2 :: an 20 []), [], []⟩) (sk [0, 1, 5] [] rfl) (fun rec x2 h => ?_)
    unfold r02_Cats_L0 at h
    refine lc ?_
    iterate 2 refine awp_seq ?_
    refine awp_region ?_
    iterate 2 refine dp rfl rfl ?_
    refine dh rfl (head_len_map tok rfl rfl rfl rfl) ?_
    refine dp rfl rfl ?_
    refine aops_nil ?_
    refine cc h rfl (fun h => ?_) (fun h => ?_)
    · refine awp_skip ?_
      refine awp_seq ?_
      refine awp_block ?_
      refine awp_seq ?_
      refine awp_draw 9 mixed (by decide +kernel) ?_
      iterate 2 refine kp rfl rfl ?_
      obtain ⟨x5, hx5, h⟩ := pb h
      refine kh rfl (head_index_map tok hx5 rfl rfl rfl rfl rfl rfl rfl) ?_
      iterate 3 refine kp rfl rfl ?_
      obtain ⟨x6, hx6, h⟩ := pb h
      refine kh rfl (head_index_map tok hx6 rfl rfl rfl rfl rfl rfl rfl) ?_
      iterate 2 refine kp rfl rfl ?_
      refine .nil ?_
      refine aops_nil ?_
      refine cc h rfl (fun h => ?_) (fun h => ?_)
      · refine awp_seq ?_
        refine awp_region ?_
        refine dp rfl rfl ?_
        refine aops_nil ?_
        replace h := pe h
        refine awp_ret ?_
        obtain rfl := pe h
        exact qfun_ret rfl rfl (Weak.refl _) rfl
      · refine awp_skip ?_
        refine awp_region ?_
        iterate 3 refine dp rfl rfl ?_
        refine aops_nil ?_
        exact ⟨(IntKind.i64.wrap (x2 + (1 : Int))), (sk [0, 1, 5] [] rfl), h⟩
    · refine awp_exit ?_
      replace h := pe h
      refine awp_seq ?_
      refine awp_region ?_
      refine dp rfl rfl ?_
      refine aops_nil ?_
      refine awp_ret ?_
      obtain rfl := pe h
      exact qfun_ret rfl rfl (Weak.refl _) rfl

theorem r02_Owned_w (l : List PairD) (r : List Int) (h : r02_Owned l = some r) : PCall Try.prog 87 [.list (List.map encPairD l)] (.list (List.map (encI .u64) r)) := by
  replace h : post (r02_Owned l) (fun v => v = r) := ⟨_, h, rfl⟩
  unfold r02_Owned at h
  refine d_intro Try.func87 rfl (by decide +kernel) (ts := .list (List.map encPairD l) :: un 25) rfl fun B hB => ?_
  refine lc ?_ (by dsimp only [un])
  refine awp_seq ?_
  refine awp_region ?_
  refine dp rfl rfl ?_
  refine aops_nil ?_
  refine awp_seq ?_
  refine awp_region ?_
  refine dp rfl rfl ?_
  refine aops_nil ?_
  iterate 2 refine awp_seq ?_
  refine awp_region ?_
  refine dp rfl rfl ?_
  refine aops_nil ?_
  refine awp_block ?_
  refine oc 3 1 23 rfl ?_
  refine cl h (fun x1 => ⟨.list (List.map encPairD l) :: an 2 (.own 0 (List.map (encI .u64) x1.2).length :: .int .i64 x1.1 :: an 21 []), [some (.row (List.map (encI .u64) x1.2) 1 23)], []⟩) (sk [0, 3, 4] [] rfl) (fun rec x1 h => ?_)
  unfold r02_Owned_L0 at h
  refine lc ?_
  iterate 2 refine awp_seq ?_
  refine awp_region ?_
  iterate 2 refine dp rfl rfl ?_
  refine dh rfl (head_len_map tok rfl rfl rfl rfl) ?_
  refine dp rfl rfl ?_
  refine aops_nil ?_
  refine cc h rfl (fun h => ?_) (fun h => ?_)
  · refine awp_skip ?_
    refine cw h (fun x4 => ⟨.list (List.map encPairD l) :: an 2 (.own 0 (List.map (encI .u64) x4).length :: .int .i64 x1.1 :: an 21 []), [some (.row (List.map (encI .u64) x4) 1 23)], []⟩) (fun x4 h => ?_) (fun h => ?_)
    · refine lc ?_
      refine awp_region ?_
      iterate 3 refine dp rfl rfl ?_
      refine aops_nil ?_
      exact ⟨((IntKind.i64.wrap (x1.1 + (1 : Int))), x4), (sk [0, 3, 4] [] rfl), h⟩
    · refine awp_block ?_
      refine awp_seq ?_
      refine awp_region ?_
      iterate 2 refine dp rfl rfl ?_
      obtain ⟨x5, hx5, h⟩ := pb h
      refine dh rfl (head_index_map tok hx5 rfl rfl rfl rfl rfl rfl rfl) ?_
      iterate 3 refine dp rfl rfl ?_
      refine aops_nil ?_
      refine cc h rfl (fun h => ?_) (fun h => ?_)
      · refine awp_region ?_
        iterate 3 refine dp rfl rfl ?_
        obtain ⟨x7, hx7, h⟩ := pb h
        refine dh rfl (head_index_map tok hx7 rfl rfl rfl rfl rfl rfl rfl) ?_
        iterate 2 refine dp rfl rfl ?_
        refine dn rfl (head_bslice (row := (List.map (encI .u64) [x7.Cat])) tok 1 rfl rfl rfl rfl rfl rfl rfl rfl rfl) ?_
        obtain ⟨x8, hx8, h⟩ := pb h
        refine d_append_map tok hx8 rfl rfl rfl rfl rfl rfl rfl rfl rfl (fun _ => rfl) (fun _ => rfl) (by dsimp only [List.set, AV.cellsOf]) (by dsimp only [putL, List.set]) ?_
        refine dp rfl rfl ?_
        refine aops_nil ?_
        exact ⟨x8, (SWeak.trans (sk [0, 3, 4] [] rfl) (sweak_cut 1 rfl (ok_of ⟨flat_under (fun _ => rfl) _ _, trivial⟩) rfl) (Nat.le_of_ble_eq_true rfl)), (pe h :)⟩
      · refine awp_skip ?_
        exact ⟨x1.2, (sk [0, 3, 4] [] rfl), (pe h :)⟩
  · refine awp_exit ?_
    replace h := pe h
    let y2exit0 : List Int := x1.2
    refine awp_seq ?_
    refine awp_region ?_
    iterate 2 refine dp rfl rfl ?_
    refine aops_nil ?_
    refine fc 2 0 1 rfl rfl (fun _ => rfl) ?_
    refine awp_ret ?_
    obtain rfl := pe h
    exact qfun_ret rfl rfl (Weak.refl _) rfl

theorem r02_Raise_w (l : List PairD) (r : List PairD) (h : r02_Raise l = some r) : PCall Try.prog 104 [.list (List.map encPairD l)] (.list (List.map encPairD r)) := by
  replace h : post (r02_Raise l) (fun v => v = r) := ⟨_, h, rfl⟩
  unfold r02_Raise at h
  refine d_intro Try.func104 rfl (by decide +kernel) (ts := .list (List.map encPairD l) :: un 26) rfl fun B hB => ?_
  refine lc ?_ (by dsimp only [un])
  refine awp_seq ?_
  refine awp_region ?_
  refine dp rfl rfl ?_
  refine aops_nil ?_
  refine awp_seq ?_
  refine awp_region ?_
  refine dp rfl rfl ?_
  refine aops_nil ?_
  iterate 2 refine awp_seq ?_
  refine awp_region ?_
  refine dp rfl rfl ?_
  refine aops_nil ?_
  refine awp_block ?_
  refine oc 3 2 111 rfl ?_
  refine cl h (fun x1 => ⟨.list (List.map encPairD l) :: an 2 (.own 0 (List.map encPairD x1.2).length :: .int .i64 x1.1 :: an 22 []), [some (.row (List.map encPairD x1.2) 2 111)], []⟩) (sk [0, 3, 4] [] rfl) (fun rec x1 h => ?_)
  unfold r02_Raise_L0 at h
  refine lc ?_
  iterate 2 refine awp_seq ?_
  refine awp_region ?_
  iterate 2 refine dp rfl rfl ?_
  refine dh rfl (head_len_map tok rfl rfl rfl rfl) ?_
  refine dp rfl rfl ?_
  refine aops_nil ?_
  refine cc h rfl (fun h => ?_) (fun h => ?_)
  · refine awp_skip ?_
    refine awp_seq ?_
    refine awp_block ?_
    refine awp_draw 14 mixed (by decide +kernel) ?_
    iterate 3 refine kp rfl rfl ?_
    obtain ⟨x4, hx4, h⟩ := pb h
    refine kh rfl (head_index_map tok hx4 rfl rfl rfl rfl rfl rfl rfl) ?_
    iterate 4 refine kp rfl rfl ?_
    obtain ⟨x5, hx5, h⟩ := pb h
    refine kh rfl (head_index_map tok hx5 rfl rfl rfl rfl rfl rfl rfl) ?_
    iterate 2 refine kp rfl rfl ?_
    obtain ⟨v6, hv6, h⟩ := pb h
    refine kh rfl (head_callp (r01_Raise_w _ _ hv6) rfl rfl rfl rfl) ?_
    refine kh rfl (head_build (r := (encPairD (⟨x4.Cat, v6⟩ : PairD))) tok rfl rfl rfl rfl rfl rfl) ?_
    refine kn rfl (head_bslice (row := (List.map encPairD [(⟨x4.Cat, v6⟩ : PairD)])) tok 1 rfl rfl rfl rfl rfl rfl rfl rfl rfl) ?_
    refine .nil ?_
    obtain ⟨x7, hx7, h⟩ := pb h
    refine d_append_map tok hx7 rfl rfl rfl rfl rfl rfl rfl rfl rfl (fun _ => rfl) (fun _ => rfl) (by dsimp only [List.set, AV.cellsOf]) (by dsimp only [putL, List.set]) ?_
    refine dp rfl rfl ?_
    refine aops_nil ?_
    refine awp_region ?_
    iterate 3 refine dp rfl rfl ?_
    refine aops_nil ?_
    exact ⟨((IntKind.i64.wrap (x1.1 + (1 : Int))), x7), (SWeak.trans (sk [0, 3, 4] [] rfl) (sweak_cut 1 rfl (ok_of ⟨flat_under (fun _ => rfl) _ _, trivial⟩) rfl) (Nat.le_of_ble_eq_true rfl)), h⟩
  · refine awp_exit ?_
    replace h := pe h
    let y2exit0 : List PairD := x1.2
    refine awp_seq ?_
    refine awp_region ?_
    iterate 2 refine dp rfl rfl ?_
    refine aops_nil ?_
    refine fc 2 0 2 rfl rfl (fun _ => rfl) ?_
    refine awp_ret ?_
    obtain rfl := pe h
    exact qfun_ret rfl rfl (Weak.refl _) rfl

theorem r02_Leq_w (a : List PairD) (b : List PairD) (r : Bool) (h : r02_Leq a b = some r) : PCall Try.prog 90 [.list (List.map encPairD a), .list (List.map encPairD b)] (.bool r) := by
  replace h : post (r02_Leq a b) (fun v => v = r) := ⟨_, h, rfl⟩
  unfold r02_Leq at h
  refine d_intro Try.func90 rfl (by decide +kernel) (ts := .list (List.map encPairD a) :: .list (List.map encPairD b) :: un 45) rfl fun B hB => ?_
  refine lc ?_ (by dsimp only [un])
  refine awp_seq ?_
  refine awp_region ?_
  refine dp rfl rfl ?_
  refine aops_nil ?_
  iterate 2 refine awp_seq ?_
  refine awp_region ?_
  refine dp rfl rfl ?_
  refine aops_nil ?_
  refine awp_block ?_
  refine cl h (fun x1 => ⟨.list (List.map encPairD a) :: .list (List.map encPairD b) :: an 3 (.int .i64 x1 :: an 41 []), [], []⟩) (sk [0, 1, 5] [] rfl) (fun rec x1 h => ?_)
  unfold r02_Leq_L0 at h
  refine lc ?_
  iterate 2 refine awp_seq ?_
  refine awp_region ?_
  iterate 2 refine dp rfl rfl ?_
  refine dh rfl (head_len_map tok rfl rfl rfl rfl) ?_
  refine dp rfl rfl ?_
  refine aops_nil ?_
  refine cc h rfl (fun h => ?_) (fun h => ?_)
  · refine awp_skip ?_
    refine awp_seq ?_
    refine awp_block ?_
    refine awp_seq ?_
    refine awp_draw 14 mixed (by decide +kernel) ?_
    iterate 2 refine kp rfl rfl ?_
    obtain ⟨x4, hx4, h⟩ := pb h
    refine kh rfl (head_index_map tok hx4 rfl rfl rfl rfl rfl rfl rfl) ?_
    iterate 5 refine kp rfl rfl ?_
    obtain ⟨x5, hx5, h⟩ := pb h
    refine kh rfl (head_index_map tok hx5 rfl rfl rfl rfl rfl rfl rfl) ?_
    iterate 2 refine kp rfl rfl ?_
    obtain ⟨v6, hv6, h⟩ := pb h
    refine kh rfl (head_callp (r02_Get_w _ _ _ hv6) rfl rfl rfl rfl) ?_
    obtain ⟨v7, hv7, h⟩ := pb h
    refine kh rfl (head_callp (r01_Leq_w _ _ _ hv7) rfl rfl rfl rfl) ?_
    refine kp rfl rfl ?_
    refine .nil ?_
    refine aops_nil ?_
    refine cc h rfl (fun h => ?_) (fun h => ?_)
    · refine awp_seq ?_
      refine awp_region ?_
      refine dp rfl rfl ?_
      refine aops_nil ?_
      replace h := pe h
      refine awp_ret ?_
      obtain rfl := pe h
      exact qfun_ret rfl rfl (Weak.refl _) rfl
    · refine awp_skip ?_
      refine awp_region ?_
      iterate 3 refine dp rfl rfl ?_
      refine aops_nil ?_
      exact ⟨(IntKind.i64.wrap (x1 + (1 : Int))), (sk [0, 1, 5] [] rfl), h⟩
  · refine awp_exit ?_
    replace h := pe h
    iterate 2 refine awp_seq ?_
    refine awp_region ?_
    refine dp rfl rfl ?_
    refine aops_nil ?_
    refine awp_block ?_
    refine cl h (fun x9 => ⟨.list (List.map encPairD a) :: .list (List.map encPairD b) :: an 4 (.int .i64 x9 :: an 40 []), [], []⟩) (sk [0, 1, 6] [] rfl) (fun rec x9 h => ?_)
    unfold r02_Leq_L1 at h
    refine lc ?_
    iterate 2 refine awp_seq ?_
    refine awp_region ?_
    iterate 2 refine dp rfl rfl ?_
    refine dh rfl (head_len_map tok rfl rfl rfl rfl) ?_
    refine dp rfl rfl ?_
    refine aops_nil ?_
    refine cc h rfl (fun h => ?_) (fun h => ?_)
    · refine awp_skip ?_
      refine awp_seq ?_
      refine awp_block ?_
      refine awp_seq ?_
      refine awp_draw 14 mixed (by decide +kernel) ?_
      iterate 3 refine kp rfl rfl ?_
      obtain ⟨x12, hx12, h⟩ := pb h
      refine kh rfl (head_index_map tok hx12 rfl rfl rfl rfl rfl rfl rfl) ?_
      iterate 2 refine kp rfl rfl ?_
      obtain ⟨v13, hv13, h⟩ := pb h
      refine kh rfl (head_callp (r02_Get_w _ _ _ hv13) rfl rfl rfl rfl) ?_
      iterate 2 refine kp rfl rfl ?_
      obtain ⟨x14, hx14, h⟩ := pb h
      refine kh rfl (head_index_map tok hx14 rfl rfl rfl rfl rfl rfl rfl) ?_
      iterate 2 refine kp rfl rfl ?_
      obtain ⟨v15, hv15, h⟩ := pb h
      refine kh rfl (head_callp (r01_Leq_w _ _ _ hv15) rfl rfl rfl rfl) ?_
      refine kp rfl rfl ?_
      refine .nil ?_
      refine aops_nil ?_
      refine cc h rfl (fun h => ?_) (fun h => ?_)
      · refine awp_seq ?_
        refine awp_region ?_
        refine dp rfl rfl ?_
        refine aops_nil ?_
        replace h := pe h
        refine awp_ret ?_
        obtain rfl := pe h
        exact qfun_ret rfl rfl (Weak.refl _) rfl
      · refine awp_skip ?_
        refine awp_region ?_
        iterate 3 refine dp rfl rfl ?_
        refine aops_nil ?_
        exact ⟨(IntKind.i64.wrap (x9 + (1 : Int))), (sk [0, 1, 6] [] rfl), h⟩
    · refine awp_exit ?_
      replace h := pe h
      refine awp_seq ?_
      refine awp_region ?_
      refine dp rfl rfl ?_
      refine aops_nil ?_
      refine awp_ret ?_
      obtain rfl := pe h
      exact qfun_ret rfl rfl (Weak.refl _) rfl

theorem r12_Same_w (a : List MapD) (b : List MapD) (r : Bool) (h : r12_Same a b = some r) : PCall Try.prog 17 [.list (List.map encMapD a), .list (List.map encMapD b)] (.bool r) := by
  replace h : post (r12_Same a b) (fun v => v = r) := ⟨_, h, rfl⟩
  unfold r12_Same at h
  refine d_intro Try.func17 rfl (by decide +kernel) (ts := .list (List.map encMapD a) :: .list (List.map encMapD b) :: un 24) rfl fun B hB => ?_
  refine lc ?_ (by dsimp only [un])
  refine awp_seq ?_
  refine awp_region ?_
  refine dp rfl rfl ?_
  refine aops_nil ?_
  iterate 2 refine awp_seq ?_
  refine awp_region ?_
  refine dp rfl rfl ?_
  refine dh rfl (head_len_map tok rfl rfl rfl rfl) ?_
  refine dp rfl rfl ?_
  refine dh rfl (head_len_map tok rfl rfl rfl rfl) ?_
  refine dp rfl rfl ?_
  refine aops_nil ?_
  refine cc h rfl (fun h => ?_) (fun h => ?_)
  · refine awp_seq ?_
    refine awp_region ?_
    refine dp rfl rfl ?_
    refine aops_nil ?_
    refine awp_ret ?_
    obtain rfl := pe h
    exact qfun_ret rfl rfl (Weak.refl _) rfl
  · refine awp_skip ?_
    iterate 2 refine awp_seq ?_
    refine awp_region ?_
    refine dp rfl rfl ?_
    refine aops_nil ?_
    refine awp_block ?_
    refine cl h (fun x2 => ⟨.list (List.map encMapD a) :: .list (List.map encMapD b) :: an 3 (.int .i64 x2 :: an 20 []), [], []⟩) (sk [0, 1, 5] [] rfl) (fun rec x2 h => ?_)
    unfold r12_Same_L0 at h
    refine lc ?_
    iterate 2 refine awp_seq ?_
    refine awp_region ?_
    iterate 2 refine dp rfl rfl ?_
    refine dh rfl (head_len_map tok rfl rfl rfl rfl) ?_
    refine dp rfl rfl ?_
    refine aops_nil ?_
    refine cc h rfl (fun h => ?_) (fun h => ?_)
    · refine awp_skip ?_
      refine awp_seq ?_
      refine awp_block ?_
      refine awp_seq ?_
      refine awp_draw 9 mixed (by decide +kernel) ?_
      iterate 2 refine kp rfl rfl ?_
      obtain ⟨x5, hx5, h⟩ := pb h
      refine kh rfl (head_index_map tok hx5 rfl rfl rfl rfl rfl rfl rfl) ?_
      iterate 3 refine kp rfl rfl ?_
      obtain ⟨x6, hx6, h⟩ := pb h
      refine kh rfl (head_index_map tok hx6 rfl rfl rfl rfl rfl rfl rfl) ?_
      refine kp rfl rfl ?_
      refine kh rfl (head_eqs tok eqAll flat1 rfl (.inr ⟨rfl, rfl⟩) rfl rfl (by kernel_rfl) rfl rfl rfl) ?_
      refine .nil ?_
      refine aops_nil ?_
      refine cc h rfl (fun h => ?_) (fun h => ?_)
      · refine awp_seq ?_
        refine awp_region ?_
        refine dp rfl rfl ?_
        refine aops_nil ?_
        replace h := pe h
        refine awp_ret ?_
        obtain rfl := pe h
        exact qfun_ret rfl rfl (Weak.refl _) rfl
      · refine awp_skip ?_
        refine awp_region ?_
        iterate 3 refine dp rfl rfl ?_
        refine aops_nil ?_
        exact ⟨(IntKind.i64.wrap (x2 + (1 : Int))), (sk [0, 1, 5] [] rfl), h⟩
    · refine awp_exit ?_
      replace h := pe h
      refine awp_seq ?_
      refine awp_region ?_
      refine dp rfl rfl ?_
      refine aops_nil ?_
      refine awp_ret ?_
      obtain rfl := pe h
      exact qfun_ret rfl rfl (Weak.refl _) rfl

theorem r12_one_w (m : MapD) (r : Bool) (h : r12_one m = some r) : PCall Try.prog 67 [.agg (encMapD m)] (.bool r) := by
  replace h : post (r12_one m) (fun v => v = r) := ⟨_, h, rfl⟩
  unfold r12_one at h
  refine d_intro Try.func67 rfl (by decide +kernel) (ts := .agg (encMapD m) :: un 46) rfl fun B hB => ?_
  refine lc ?_ (by dsimp only [un])
  refine awp_seq ?_
  refine awp_region ?_
  refine dn rfl (hbx (cs := (encMapD m)) 0 rfl rfl rfl) ?_
  refine dp rfl rfl ?_
  refine aops_nil ?_
  refine awp_seq ?_
  refine awp_region ?_
  iterate 3 refine dp rfl rfl ?_
  refine ca h 5 (fun x2 => ⟨an 1 (.ptr 0 0 :: an 8 (.bool x2 :: an 36 [])), [some (.var (encMapD m))], []⟩) (fun x2 h => ?_) (fun h => ?_)
  · refine lo ?_
    refine ca h 5 (fun x4 => ⟨an 1 (.ptr 0 0 :: an 13 (.bool x4 :: an 31 [])), [some (.var (encMapD m))], []⟩) (fun x4 h => ?_) (fun h => ?_)
    · refine lo ?_
      refine ca h 5 (fun x6 => ⟨an 1 (.ptr 0 0 :: an 18 (.bool x6 :: an 26 [])), [some (.var (encMapD m))], []⟩) (fun x6 h => ?_) (fun h => ?_)
      · refine lo ?_
        refine ca h 5 (fun x8 => ⟨an 1 (.ptr 0 0 :: an 23 (.bool x8 :: an 21 [])), [some (.var (encMapD m))], []⟩) (fun x8 h => ?_) (fun h => ?_)
        · refine lo ?_
          refine ca h 5 (fun x10 => ⟨an 1 (.ptr 0 0 :: an 28 (.bool x10 :: an 16 [])), [some (.var (encMapD m))], []⟩) (fun x10 h => ?_) (fun h => ?_)
          · refine lo ?_
            refine ca h 8 (fun x12 => ⟨an 1 (.ptr 0 0 :: an 36 (.bool x12 :: an 8 [])), [some (.var (encMapD m))], []⟩) (fun x12 h => ?_) (fun h => ?_)
            · refine lo ?_
              refine di h rfl (hpr rfl) (fun h => ?_) (fun h => ?_)
              · refine dp rfl rfl ?_
                iterate 7 refine dp rfl rfl ?_
                refine aops_nil ?_
                refine awp_ret ?_
                obtain rfl := pe h
                exact qfun_ret rfl rfl (Weak.refl _) rfl
              · refine dk rfl ?_
                iterate 5 refine dk rfl ?_
                iterate 2 refine dp rfl rfl ?_
                refine aops_nil ?_
                refine awp_ret ?_
                obtain rfl := pe h
                exact qfun_ret rfl rfl (Weak.refl _) rfl
            · refine di h rfl (hpr rfl) (fun h => ?_) (fun h => ?_)
              · refine dp rfl rfl ?_
                iterate 6 refine dp rfl rfl ?_
                refine aops_nil ?_
                exact ⟨(decide (m.N ≤ (IntKind.i64.wrap ((1048576 : Int) - m.Va)))), (sk [1, 38] [] rfl), (pe h :)⟩
              · refine dk rfl ?_
                iterate 5 refine dk rfl ?_
                refine dp rfl rfl ?_
                refine aops_nil ?_
                exact ⟨false, (sk [1, 38] [] rfl), (pe h :)⟩
          · refine di h rfl (hpr rfl) (fun h => ?_) (fun h => ?_)
            · refine dp rfl rfl ?_
              iterate 3 refine dp rfl rfl ?_
              refine aops_nil ?_
              exact ⟨(decide (m.N ≤ (1048576 : Int))), (sk [1, 30] [] rfl), (pe h :)⟩
            · refine dk rfl ?_
              iterate 2 refine dk rfl ?_
              refine dp rfl rfl ?_
              refine aops_nil ?_
              exact ⟨false, (sk [1, 30] [] rfl), (pe h :)⟩
        · refine di h rfl (hpr rfl) (fun h => ?_) (fun h => ?_)
          · refine dp rfl rfl ?_
            iterate 3 refine dp rfl rfl ?_
            refine aops_nil ?_
            exact ⟨(decide (m.N ≥ (1 : Int))), (sk [1, 25] [] rfl), (pe h :)⟩
          · refine dk rfl ?_
            iterate 2 refine dk rfl ?_
            refine dp rfl rfl ?_
            refine aops_nil ?_
            exact ⟨false, (sk [1, 25] [] rfl), (pe h :)⟩
      · refine di h rfl (hpr rfl) (fun h => ?_) (fun h => ?_)
        · refine dp rfl rfl ?_
          iterate 3 refine dp rfl rfl ?_
          refine aops_nil ?_
          exact ⟨(decide (m.Off < (1048576 : Int))), (sk [1, 20] [] rfl), (pe h :)⟩
        · refine dk rfl ?_
          iterate 2 refine dk rfl ?_
          refine dp rfl rfl ?_
          refine aops_nil ?_
          exact ⟨false, (sk [1, 20] [] rfl), (pe h :)⟩
    · refine di h rfl (hpr rfl) (fun h => ?_) (fun h => ?_)
      · refine dp rfl rfl ?_
        iterate 3 refine dp rfl rfl ?_
        refine aops_nil ?_
        exact ⟨(decide (m.Off ≥ (0 : Int))), (sk [1, 15] [] rfl), (pe h :)⟩
      · refine dk rfl ?_
        iterate 2 refine dk rfl ?_
        refine dp rfl rfl ?_
        refine aops_nil ?_
        exact ⟨false, (sk [1, 15] [] rfl), (pe h :)⟩
  · refine di h rfl (hpr rfl) (fun h => ?_) (fun h => ?_)
    · refine dp rfl rfl ?_
      iterate 3 refine dp rfl rfl ?_
      refine aops_nil ?_
      exact ⟨(decide (m.Va < (1048576 : Int))), (sk [1, 10] [] rfl), (pe h :)⟩
    · refine dk rfl ?_
      iterate 2 refine dk rfl ?_
      refine dp rfl rfl ?_
      refine aops_nil ?_
      exact ⟨false, (sk [1, 10] [] rfl), (pe h :)⟩

theorem r12_Fit_w (l : List MapD) (r : Bool) (h : r12_Fit l = some r) : PCall Try.prog 15 [.list (List.map encMapD l)] (.bool r) := by
  replace h : post (r12_Fit l) (fun v => v = r) := ⟨_, h, rfl⟩
  unfold r12_Fit at h
  refine d_intro Try.func15 rfl (by decide +kernel) (ts := .list (List.map encMapD l) :: un 43) rfl fun B hB => ?_
  refine lc ?_ (by dsimp only [un])
  refine awp_seq ?_
  refine awp_region ?_
  refine dp rfl rfl ?_
  refine aops_nil ?_
  iterate 2 refine awp_seq ?_
  refine awp_region ?_
  refine dp rfl rfl ?_
  refine dh rfl (head_len_map tok rfl rfl rfl rfl) ?_
  refine dp rfl rfl ?_
  refine aops_nil ?_
  refine cc h rfl (fun h => ?_) (fun h => ?_)
  · refine awp_seq ?_
    refine awp_region ?_
    refine dp rfl rfl ?_
    refine aops_nil ?_
    refine awp_ret ?_
    obtain rfl := pe h
    exact qfun_ret rfl rfl (Weak.refl _) rfl
  · refine awp_skip ?_
    iterate 2 refine awp_seq ?_
    refine awp_region ?_
    refine dp rfl rfl ?_
    refine aops_nil ?_
    refine awp_block ?_
    refine cl h (fun x2 => ⟨.list (List.map encMapD l) :: an 2 (.int .i64 x2 :: an 40 []), [], []⟩) (sk [0, 3] [] rfl) (fun rec x2 h => ?_)
    unfold r12_Fit_L0 at h
    refine lc ?_
    iterate 2 refine awp_seq ?_
    refine awp_region ?_
    iterate 2 refine dp rfl rfl ?_
    refine dh rfl (head_len_map tok rfl rfl rfl rfl) ?_
    refine dp rfl rfl ?_
    refine aops_nil ?_
    refine cc h rfl (fun h => ?_) (fun h => ?_)
    · refine awp_skip ?_
      refine awp_seq ?_
      refine awp_block ?_
      refine cw h (fun x5 => ⟨.list (List.map encMapD l) :: an 2 (.int .i64 x2 :: an 39 (.bool x5 :: [])), [], []⟩) (fun x5 h => ?_) (fun h => ?_)
      · refine lc ?_
        refine cc h rfl (fun h => ?_) (fun h => ?_)
        · refine awp_seq ?_
          refine awp_region ?_
          refine dp rfl rfl ?_
          refine aops_nil ?_
          replace h := pe h
          refine awp_ret ?_
          obtain rfl := pe h
          exact qfun_ret rfl rfl (Weak.refl _) rfl
        · refine awp_skip ?_
          refine awp_region ?_
          iterate 3 refine dp rfl rfl ?_
          refine aops_nil ?_
          exact ⟨(IntKind.i64.wrap (x2 + (1 : Int))), (sk [0, 3] [] rfl), h⟩
      · refine awp_draw 31 mixed (by decide +kernel) ?_
        iterate 2 refine kp rfl rfl ?_
        obtain ⟨x7, hx7, h⟩ := pb h
        refine kh rfl (head_index_map tok hx7 rfl rfl rfl rfl rfl rfl rfl) ?_
        refine kp rfl rfl ?_
        obtain ⟨v8, hv8, h⟩ := pb h
        refine kh rfl (head_callp (r12_one_w _ _ hv8) rfl rfl rfl rfl) ?_
        refine kp rfl rfl ?_
        refine ki h rfl (hpr rfl) (fun h => ?_) (fun h => ?_)
        · refine kk rfl ?_
          iterate 22 refine kk rfl ?_
          refine kp rfl rfl ?_
          refine .nil ?_
          refine aops_nil ?_
          exact ⟨true, (sk [0, 3, 43] [] rfl), (pe h :)⟩
        · refine kp rfl rfl ?_
          refine kp rfl rfl ?_
          refine ki h rfl (hpr rfl) (fun h => ?_) (fun h => ?_)
          · refine kp rfl rfl ?_
            iterate 2 refine kp rfl rfl ?_
            obtain ⟨x11, hx11, h⟩ := pb h
            refine kh rfl (head_index_map tok hx11 rfl rfl rfl rfl rfl rfl rfl) ?_
            iterate 5 refine kp rfl rfl ?_
            obtain ⟨x12, hx12, h⟩ := pb h
            refine kh rfl (head_index_map tok hx12 rfl rfl rfl rfl rfl rfl rfl) ?_
            iterate 5 refine kp rfl rfl ?_
            obtain ⟨x13, hx13, h⟩ := pb h
            refine kh rfl (head_index_map tok hx13 rfl rfl rfl rfl rfl rfl rfl) ?_
            iterate 5 refine kp rfl rfl ?_
            refine .nil ?_
            refine aops_nil ?_
            exact ⟨(decide ((IntKind.i64.wrap (x11.Va + x12.N)) > x13.Va)), (sk [0, 3, 43] [] rfl), (pe h :)⟩
          · refine kk rfl ?_
            iterate 18 refine kk rfl ?_
            iterate 2 refine kp rfl rfl ?_
            refine .nil ?_
            refine aops_nil ?_
            exact ⟨false, (sk [0, 3, 43] [] rfl), (pe h :)⟩
    · refine awp_exit ?_
      replace h := pe h
      refine awp_seq ?_
      refine awp_region ?_
      refine dp rfl rfl ?_
      refine aops_nil ?_
      refine awp_ret ?_
      obtain rfl := pe h
      exact qfun_ret rfl rfl (Weak.refl _) rfl

theorem r13_SameThread_w (a : ThreadD) (b : ThreadD) (r : Bool) (h : r13_SameThread a b = some r) : PCall Try.prog 64 [.agg (encThreadD a), .agg (encThreadD b)] (.bool r) := by
  replace h : post (r13_SameThread a b) (fun v => v = r) := ⟨_, h, rfl⟩
  unfold r13_SameThread at h
  refine d_intro Try.func64 rfl (by decide +kernel) (ts := .agg (encThreadD a) :: .agg (encThreadD b) :: un 86) rfl fun B hB => ?_
  refine lc ?_ (by dsimp only [un])
  refine awp_seq ?_
  refine awp_region ?_
  refine dn rfl (hbx (cs := (encThreadD a)) 0 rfl rfl rfl) ?_
  refine dn rfl (hbx (cs := (encThreadD b)) 1 rfl rfl rfl) ?_
  refine dp rfl rfl ?_
  refine aops_nil ?_
  iterate 2 refine awp_seq ?_
  refine awp_region ?_
  refine dp rfl rfl ?_
  refine aops_nil ?_
  refine awp_block ?_
  refine cl h (fun x1 => ⟨an 2 (.ptr 0 0 :: .ptr 1 0 :: an 1 (.int .i64 x1 :: an 82 [])), [some (.var (encThreadD a)), some (.var (encThreadD b))], []⟩) (sk [2, 3, 5] [] rfl) (fun rec x1 h => ?_)
  unfold r13_SameThread_L0 at h
  refine lc ?_
  iterate 2 refine awp_seq ?_
  refine awp_region ?_
  iterate 2 refine dp rfl rfl ?_
  refine aops_nil ?_
  refine cc h rfl (fun h => ?_) (fun h => ?_)
  · refine awp_skip ?_
    refine awp_seq ?_
    refine awp_block ?_
    refine awp_seq ?_
    refine awp_draw 10 mixed (by decide +kernel) ?_
    iterate 2 refine kp rfl rfl ?_
    obtain ⟨j4, hj4, h⟩ := pb h
    have j4_lt := inr_lt hj4
    refine kh rfl (head_index_arrn tok hj4 rfl rfl rfl rfl rfl rfl rfl) ?_
    refine kh rfl (head_load_at tok rfl rfl rfl rfl rfl rfl (nat4 (P := fun j4 => (_ : List AV)[31 + j4]? = some (.list (List.map encPairD (Arr4.get a.Labs j4)))) ⟨rfl, rfl, rfl, rfl⟩ j4_lt)) ?_
    iterate 2 refine kp rfl rfl ?_
    obtain ⟨j5, hj5, h⟩ := pb h
    have j5_lt := inr_lt hj5
    refine kh rfl (head_index_arrn tok hj5 rfl rfl rfl rfl rfl rfl rfl) ?_
    refine kh rfl (head_load_at tok rfl rfl rfl rfl rfl rfl (nat4 (P := fun j5 => (_ : List AV)[31 + j5]? = some (.list (List.map encPairD (Arr4.get b.Labs j5)))) ⟨rfl, rfl, rfl, rfl⟩ j5_lt)) ?_
    obtain ⟨v6, hv6, h⟩ := pb h
    refine kh rfl (head_callp (r02_Same_w _ _ _ hv6) rfl rfl rfl rfl) ?_
    refine kp rfl rfl ?_
    refine .nil ?_
    refine aops_nil ?_
    refine cc h rfl (fun h => ?_) (fun h => ?_)
    · refine awp_seq ?_
      refine awp_region ?_
      refine dp rfl rfl ?_
      refine aops_nil ?_
      replace h := pe h
      refine awp_ret ?_
      obtain rfl := pe h
      exact qfun_ret rfl rfl (Weak.refl _) rfl
    · refine awp_skip ?_
      refine awp_region ?_
      iterate 3 refine dp rfl rfl ?_
      refine aops_nil ?_
      exact ⟨(IntKind.i64.wrap (x1 + (1 : Int))), (sk [2, 3, 5] [] rfl), h⟩
  · refine awp_exit ?_
    replace h := pe h
    refine awp_seq ?_
    refine awp_region ?_
    iterate 4 refine dp rfl rfl ?_
    refine dh rfl (head_eqs tok eqAll flat1 rfl (.inl ⟨rfl, rfl⟩) rfl rfl (by kernel_rfl) rfl rfl rfl) ?_
    refine ca h 7 (fun x9 => ⟨an 2 (.ptr 0 0 :: .ptr 1 0 :: an 27 (.bool x9 :: an 56 [])), [some (.var (encThreadD a)), some (.var (encThreadD b))], []⟩) (fun x9 h => ?_) (fun h => ?_)
    · refine lo ?_
      refine ca h 7 (fun x11 => ⟨an 2 (.ptr 0 0 :: .ptr 1 0 :: an 34 (.bool x11 :: an 49 [])), [some (.var (encThreadD a)), some (.var (encThreadD b))], []⟩) (fun x11 h => ?_) (fun h => ?_)
      · refine lo ?_
        refine ca h 7 (fun x13 => ⟨an 2 (.ptr 0 0 :: .ptr 1 0 :: an 41 (.bool x13 :: an 42 [])), [some (.var (encThreadD a)), some (.var (encThreadD b))], []⟩) (fun x13 h => ?_) (fun h => ?_)
        · refine lo ?_
          refine ca h 7 (fun x15 => ⟨an 2 (.ptr 0 0 :: .ptr 1 0 :: an 48 (.bool x15 :: an 35 [])), [some (.var (encThreadD a)), some (.var (encThreadD b))], []⟩) (fun x15 h => ?_) (fun h => ?_)
          · refine lo ?_
            refine ca h 7 (fun x17 => ⟨an 2 (.ptr 0 0 :: .ptr 1 0 :: an 55 (.bool x17 :: an 28 [])), [some (.var (encThreadD a)), some (.var (encThreadD b))], []⟩) (fun x17 h => ?_) (fun h => ?_)
            · refine lo ?_
              refine ca h 7 (fun x19 => ⟨an 2 (.ptr 0 0 :: .ptr 1 0 :: an 62 (.bool x19 :: an 21 [])), [some (.var (encThreadD a)), some (.var (encThreadD b))], []⟩) (fun x19 h => ?_) (fun h => ?_)
              · refine lo ?_
                refine ca h 7 (fun x21 => ⟨an 2 (.ptr 0 0 :: .ptr 1 0 :: an 69 (.bool x21 :: an 14 [])), [some (.var (encThreadD a)), some (.var (encThreadD b))], []⟩) (fun x21 h => ?_) (fun h => ?_)
                · refine lo ?_
                  refine ca h 7 (fun x23 => ⟨an 2 (.ptr 0 0 :: .ptr 1 0 :: an 76 (.bool x23 :: an 7 [])), [some (.var (encThreadD a)), some (.var (encThreadD b))], []⟩) (fun x23 h => ?_) (fun h => ?_)
                  · refine lo ?_
                    refine di h rfl (hpr rfl) (fun h => ?_) (fun h => ?_)
                    · refine dp rfl rfl ?_
                      iterate 3 refine dp rfl rfl ?_
                      refine dh rfl (head_eqs tok eqAll flat1 rfl (.inl ⟨rfl, rfl⟩) rfl rfl (by kernel_rfl) rfl rfl rfl) ?_
                      iterate 2 refine dp rfl rfl ?_
                      refine aops_nil ?_
                      refine awp_ret ?_
                      obtain rfl := pe h
                      exact qfun_ret rfl rfl (Weak.refl _) rfl
                    · refine dk rfl ?_
                      iterate 4 refine dk rfl ?_
                      iterate 2 refine dp rfl rfl ?_
                      refine aops_nil ?_
                      refine awp_ret ?_
                      obtain rfl := pe h
                      exact qfun_ret rfl rfl (Weak.refl _) rfl
                  · refine di h rfl (hpr rfl) (fun h => ?_) (fun h => ?_)
                    · refine dp rfl rfl ?_
                      iterate 3 refine dp rfl rfl ?_
                      obtain ⟨v25, hv25, h⟩ := pb h
                      refine dh rfl (head_callp (r02_Cats_w _ _ _ hv25) rfl rfl rfl rfl) ?_
                      refine dp rfl rfl ?_
                      refine aops_nil ?_
                      exact ⟨v25, (sk [2, 3, 80] [] rfl), (pe h :)⟩
                    · refine dk rfl ?_
                      iterate 4 refine dk rfl ?_
                      refine dp rfl rfl ?_
                      refine aops_nil ?_
                      exact ⟨false, (sk [2, 3, 80] [] rfl), (pe h :)⟩
                · refine di h rfl (hpr rfl) (fun h => ?_) (fun h => ?_)
                  · refine dp rfl rfl ?_
                    iterate 3 refine dp rfl rfl ?_
                    refine dh rfl (head_eqs tok eqAll flat1 rfl (.inl ⟨rfl, rfl⟩) rfl rfl (by kernel_rfl) rfl rfl rfl) ?_
                    refine dp rfl rfl ?_
                    refine aops_nil ?_
                    exact ⟨(((a.Wait.Ref.Cont == b.Wait.Ref.Cont) && ((a.Wait.Ref.Id == b.Wait.Ref.Id) && true)) && ((a.Wait.Index == b.Wait.Index) && ((a.Wait.Val == b.Wait.Val) && ((a.Wait.Dev == b.Wait.Dev) && true)))), (sk [2, 3, 73] [] rfl), (pe h :)⟩
                  · refine dk rfl ?_
                    iterate 4 refine dk rfl ?_
                    refine dp rfl rfl ?_
                    refine aops_nil ?_
                    exact ⟨false, (sk [2, 3, 73] [] rfl), (pe h :)⟩
              · refine di h rfl (hpr rfl) (fun h => ?_) (fun h => ?_)
                · refine dp rfl rfl ?_
                  iterate 5 refine dp rfl rfl ?_
                  refine aops_nil ?_
                  exact ⟨(a.State == b.State), (sk [2, 3, 66] [] rfl), (pe h :)⟩
                · refine dk rfl ?_
                  iterate 4 refine dk rfl ?_
                  refine dp rfl rfl ?_
                  refine aops_nil ?_
                  exact ⟨false, (sk [2, 3, 66] [] rfl), (pe h :)⟩
            · refine di h rfl (hpr rfl) (fun h => ?_) (fun h => ?_)
              · refine dp rfl rfl ?_
                iterate 5 refine dp rfl rfl ?_
                refine aops_nil ?_
                exact ⟨(a.Vector == b.Vector), (sk [2, 3, 59] [] rfl), (pe h :)⟩
              · refine dk rfl ?_
                iterate 4 refine dk rfl ?_
                refine dp rfl rfl ?_
                refine aops_nil ?_
                exact ⟨false, (sk [2, 3, 59] [] rfl), (pe h :)⟩
          · refine di h rfl (hpr rfl) (fun h => ?_) (fun h => ?_)
            · refine dp rfl rfl ?_
              iterate 5 refine dp rfl rfl ?_
              refine aops_nil ?_
              exact ⟨(a.Handler == b.Handler), (sk [2, 3, 52] [] rfl), (pe h :)⟩
            · refine dk rfl ?_
              iterate 4 refine dk rfl ?_
              refine dp rfl rfl ?_
              refine aops_nil ?_
              exact ⟨false, (sk [2, 3, 52] [] rfl), (pe h :)⟩
        · refine di h rfl (hpr rfl) (fun h => ?_) (fun h => ?_)
          · refine dp rfl rfl ?_
            iterate 3 refine dp rfl rfl ?_
            refine dh rfl (head_eqs tok eqAll flat1 rfl (.inl ⟨rfl, rfl⟩) rfl rfl (by kernel_rfl) rfl rfl rfl) ?_
            refine dp rfl rfl ?_
            refine aops_nil ?_
            exact ⟨((a.Space.Cont == b.Space.Cont) && ((a.Space.Id == b.Space.Id) && true)), (sk [2, 3, 45] [] rfl), (pe h :)⟩
          · refine dk rfl ?_
            iterate 4 refine dk rfl ?_
            refine dp rfl rfl ?_
            refine aops_nil ?_
            exact ⟨false, (sk [2, 3, 45] [] rfl), (pe h :)⟩
      · refine di h rfl (hpr rfl) (fun h => ?_) (fun h => ?_)
        · refine dp rfl rfl ?_
          iterate 3 refine dp rfl rfl ?_
          obtain ⟨v26, hv26, h⟩ := pb h
          refine dh rfl (head_callp (r02_Same_w _ _ _ hv26) rfl rfl rfl rfl) ?_
          refine dp rfl rfl ?_
          refine aops_nil ?_
          exact ⟨v26, (sk [2, 3, 38] [] rfl), (pe h :)⟩
        · refine dk rfl ?_
          iterate 4 refine dk rfl ?_
          refine dp rfl rfl ?_
          refine aops_nil ?_
          exact ⟨false, (sk [2, 3, 38] [] rfl), (pe h :)⟩
    · refine di h rfl (hpr rfl) (fun h => ?_) (fun h => ?_)
      · refine dp rfl rfl ?_
        iterate 5 refine dp rfl rfl ?_
        refine aops_nil ?_
        exact ⟨(a.Pc == b.Pc), (sk [2, 3, 31] [] rfl), (pe h :)⟩
      · refine dk rfl ?_
        iterate 4 refine dk rfl ?_
        refine dp rfl rfl ?_
        refine aops_nil ?_
        exact ⟨false, (sk [2, 3, 31] [] rfl), (pe h :)⟩

theorem r13_SameGate_w (a : GateD) (b : GateD) (r : Bool) (h : r13_SameGate a b = some r) : PCall Try.prog 101 [.agg (encGateD a), .agg (encGateD b)] (.bool r) := by
  replace h : post (r13_SameGate a b) (fun v => v = r) := ⟨_, h, rfl⟩
  unfold r13_SameGate at h
  refine d_intro Try.func101 rfl (by decide +kernel) (ts := .agg (encGateD a) :: .agg (encGateD b) :: un 36) rfl fun B hB => ?_
  refine lc ?_ (by dsimp only [un])
  refine awp_seq ?_
  refine awp_region ?_
  refine dn rfl (hbx (cs := (encGateD a)) 0 rfl rfl rfl) ?_
  refine dn rfl (hbx (cs := (encGateD b)) 1 rfl rfl rfl) ?_
  refine dp rfl rfl ?_
  refine aops_nil ?_
  refine awp_seq ?_
  refine awp_region ?_
  iterate 4 refine dp rfl rfl ?_
  obtain ⟨v1, hv1, h⟩ := pb h
  refine dh rfl (head_callp (r02_Same_w _ _ _ hv1) rfl rfl rfl rfl) ?_
  refine ca h 7 (fun x3 => ⟨an 2 (.ptr 0 0 :: .ptr 1 0 :: an 12 (.bool x3 :: an 21 [])), [some (.var (encGateD a)), some (.var (encGateD b))], []⟩) (fun x3 h => ?_) (fun h => ?_)
  · refine lo ?_
    refine ca h 7 (fun x5 => ⟨an 2 (.ptr 0 0 :: .ptr 1 0 :: an 19 (.bool x5 :: an 14 [])), [some (.var (encGateD a)), some (.var (encGateD b))], []⟩) (fun x5 h => ?_) (fun h => ?_)
    · refine lo ?_
      refine ca h 7 (fun x7 => ⟨an 2 (.ptr 0 0 :: .ptr 1 0 :: an 26 (.bool x7 :: an 7 [])), [some (.var (encGateD a)), some (.var (encGateD b))], []⟩) (fun x7 h => ?_) (fun h => ?_)
      · refine lo ?_
        refine di h rfl (hpr rfl) (fun h => ?_) (fun h => ?_)
        · refine dp rfl rfl ?_
          iterate 6 refine dp rfl rfl ?_
          refine aops_nil ?_
          refine awp_ret ?_
          obtain rfl := pe h
          exact qfun_ret rfl rfl (Weak.refl _) rfl
        · refine dk rfl ?_
          iterate 4 refine dk rfl ?_
          iterate 2 refine dp rfl rfl ?_
          refine aops_nil ?_
          refine awp_ret ?_
          obtain rfl := pe h
          exact qfun_ret rfl rfl (Weak.refl _) rfl
      · refine di h rfl (hpr rfl) (fun h => ?_) (fun h => ?_)
        · refine dp rfl rfl ?_
          iterate 5 refine dp rfl rfl ?_
          refine aops_nil ?_
          exact ⟨(a.Pc == b.Pc), (sk [2, 3, 30] [] rfl), (pe h :)⟩
        · refine dk rfl ?_
          iterate 4 refine dk rfl ?_
          refine dp rfl rfl ?_
          refine aops_nil ?_
          exact ⟨false, (sk [2, 3, 30] [] rfl), (pe h :)⟩
    · refine di h rfl (hpr rfl) (fun h => ?_) (fun h => ?_)
      · refine dp rfl rfl ?_
        iterate 3 refine dp rfl rfl ?_
        refine dh rfl (head_eqs tok eqAll flat1 rfl (.inl ⟨rfl, rfl⟩) rfl rfl (by kernel_rfl) rfl rfl rfl) ?_
        refine dp rfl rfl ?_
        refine aops_nil ?_
        exact ⟨((a.Space.Cont == b.Space.Cont) && ((a.Space.Id == b.Space.Id) && true)), (sk [2, 3, 23] [] rfl), (pe h :)⟩
      · refine dk rfl ?_
        iterate 4 refine dk rfl ?_
        refine dp rfl rfl ?_
        refine aops_nil ?_
        exact ⟨false, (sk [2, 3, 23] [] rfl), (pe h :)⟩
  · refine di h rfl (hpr rfl) (fun h => ?_) (fun h => ?_)
    · refine dp rfl rfl ?_
      iterate 3 refine dp rfl rfl ?_
      obtain ⟨v9, hv9, h⟩ := pb h
      refine dh rfl (head_callp (r02_Same_w _ _ _ hv9) rfl rfl rfl rfl) ?_
      refine dp rfl rfl ?_
      refine aops_nil ?_
      exact ⟨v9, (sk [2, 3, 16] [] rfl), (pe h :)⟩
    · refine dk rfl ?_
      iterate 4 refine dk rfl ?_
      refine dp rfl rfl ?_
      refine aops_nil ?_
      exact ⟨false, (sk [2, 3, 16] [] rfl), (pe h :)⟩

theorem r13_SameOne_w (a : ObjectD) (b : ObjectD) (r : Bool) (h : r13_SameOne a b = some r) : PCall Try.prog 32 [.agg (encObjectD a), .agg (encObjectD b)] (.bool r) := by
  replace h : post (r13_SameOne a b) (fun v => v = r) := ⟨_, h, rfl⟩
  unfold r13_SameOne at h
  refine d_intro Try.func32 rfl (by decide +kernel) (ts := .agg (encObjectD a) :: .agg (encObjectD b) :: un 84) rfl fun B hB => ?_
  refine lc ?_ (by dsimp only [un])
  refine awp_seq ?_
  refine awp_region ?_
  refine dn rfl (hbx (cs := (encObjectD a)) 0 rfl rfl rfl) ?_
  refine dn rfl (hbx (cs := (encObjectD b)) 1 rfl rfl rfl) ?_
  refine dp rfl rfl ?_
  refine aops_nil ?_
  refine awp_seq ?_
  refine cw h (fun x1 => ⟨an 2 (.ptr 0 0 :: .ptr 1 0 :: an 34 (.bool x1 :: an 47 [])), [some (.var (encObjectD a)), some (.var (encObjectD b))], []⟩) (fun x1 h => ?_) (fun h => ?_)
  · refine lc ?_
    refine cc h rfl (fun h => ?_) (fun h => ?_)
    · refine awp_seq ?_
      refine awp_region ?_
      refine dp rfl rfl ?_
      refine aops_nil ?_
      refine awp_ret ?_
      obtain rfl := pe h
      exact qfun_ret rfl rfl (Weak.refl _) rfl
    · refine awp_skip ?_
      refine awp_seq ?_
      refine awp_region ?_
      iterate 4 refine dp rfl rfl ?_
      obtain ⟨v3, hv3, h⟩ := pb h
      refine dh rfl (head_callp (r02_Cats_w _ _ _ hv3) rfl rfl rfl rfl) ?_
      refine ca h 7 (fun x5 => ⟨an 2 (.ptr 0 0 :: .ptr 1 0 :: an 46 (.bool x5 :: an 35 [])), [some (.var (encObjectD a)), some (.var (encObjectD b))], []⟩) (fun x5 h => ?_) (fun h => ?_)
      · refine lo ?_
        refine ca h 7 (fun x7 => ⟨an 2 (.ptr 0 0 :: .ptr 1 0 :: an 53 (.bool x7 :: an 28 [])), [some (.var (encObjectD a)), some (.var (encObjectD b))], []⟩) (fun x7 h => ?_) (fun h => ?_)
        · refine lo ?_
          refine ca h 7 (fun x9 => ⟨an 2 (.ptr 0 0 :: .ptr 1 0 :: an 60 (.bool x9 :: an 21 [])), [some (.var (encObjectD a)), some (.var (encObjectD b))], []⟩) (fun x9 h => ?_) (fun h => ?_)
          · refine lo ?_
            refine ca h 7 (fun x11 => ⟨an 2 (.ptr 0 0 :: .ptr 1 0 :: an 67 (.bool x11 :: an 14 [])), [some (.var (encObjectD a)), some (.var (encObjectD b))], []⟩) (fun x11 h => ?_) (fun h => ?_)
            · refine lo ?_
              refine ca h 7 (fun x13 => ⟨an 2 (.ptr 0 0 :: .ptr 1 0 :: an 74 (.bool x13 :: an 7 [])), [some (.var (encObjectD a)), some (.var (encObjectD b))], []⟩) (fun x13 h => ?_) (fun h => ?_)
              · refine lo ?_
                refine di h rfl (hpr rfl) (fun h => ?_) (fun h => ?_)
                · refine dp rfl rfl ?_
                  iterate 3 refine dp rfl rfl ?_
                  obtain ⟨v15, hv15, h⟩ := pb h
                  refine dh rfl (head_callp (r02_Cats_w _ _ _ hv15) rfl rfl rfl rfl) ?_
                  iterate 2 refine dp rfl rfl ?_
                  refine aops_nil ?_
                  refine awp_ret ?_
                  obtain rfl := pe h
                  exact qfun_ret rfl rfl (Weak.refl _) rfl
                · refine dk rfl ?_
                  iterate 4 refine dk rfl ?_
                  iterate 2 refine dp rfl rfl ?_
                  refine aops_nil ?_
                  refine awp_ret ?_
                  obtain rfl := pe h
                  exact qfun_ret rfl rfl (Weak.refl _) rfl
              · refine di h rfl (hpr rfl) (fun h => ?_) (fun h => ?_)
                · refine dp rfl rfl ?_
                  iterate 3 refine dp rfl rfl ?_
                  obtain ⟨v16, hv16, h⟩ := pb h
                  refine dh rfl (head_callp (r02_Cats_w _ _ _ hv16) rfl rfl rfl rfl) ?_
                  refine dp rfl rfl ?_
                  refine aops_nil ?_
                  exact ⟨v16, (sk [2, 3, 78] [] rfl), (pe h :)⟩
                · refine dk rfl ?_
                  iterate 4 refine dk rfl ?_
                  refine dp rfl rfl ?_
                  refine aops_nil ?_
                  exact ⟨false, (sk [2, 3, 78] [] rfl), (pe h :)⟩
            · refine di h rfl (hpr rfl) (fun h => ?_) (fun h => ?_)
              · refine dp rfl rfl ?_
                iterate 3 refine dp rfl rfl ?_
                obtain ⟨v17, hv17, h⟩ := pb h
                refine dh rfl (head_callp (r13_SameGate_w _ _ _ hv17) rfl rfl rfl rfl) ?_
                refine dp rfl rfl ?_
                refine aops_nil ?_
                exact ⟨v17, (sk [2, 3, 71] [] rfl), (pe h :)⟩
              · refine dk rfl ?_
                iterate 4 refine dk rfl ?_
                refine dp rfl rfl ?_
                refine aops_nil ?_
                exact ⟨false, (sk [2, 3, 71] [] rfl), (pe h :)⟩
          · refine di h rfl (hpr rfl) (fun h => ?_) (fun h => ?_)
            · refine dp rfl rfl ?_
              iterate 3 refine dp rfl rfl ?_
              obtain ⟨v18, hv18, h⟩ := pb h
              refine dh rfl (head_callp (r13_SameThread_w _ _ _ hv18) rfl rfl rfl rfl) ?_
              refine dp rfl rfl ?_
              refine aops_nil ?_
              exact ⟨v18, (sk [2, 3, 64] [] rfl), (pe h :)⟩
            · refine dk rfl ?_
              iterate 4 refine dk rfl ?_
              refine dp rfl rfl ?_
              refine aops_nil ?_
              exact ⟨false, (sk [2, 3, 64] [] rfl), (pe h :)⟩
        · refine di h rfl (hpr rfl) (fun h => ?_) (fun h => ?_)
          · refine dp rfl rfl ?_
            iterate 3 refine dp rfl rfl ?_
            obtain ⟨v19, hv19, h⟩ := pb h
            refine dh rfl (head_callp (r12_Same_w _ _ _ hv19) rfl rfl rfl rfl) ?_
            refine dp rfl rfl ?_
            refine aops_nil ?_
            exact ⟨v19, (sk [2, 3, 57] [] rfl), (pe h :)⟩
          · refine dk rfl ?_
            iterate 4 refine dk rfl ?_
            refine dp rfl rfl ?_
            refine aops_nil ?_
            exact ⟨false, (sk [2, 3, 57] [] rfl), (pe h :)⟩
      · refine di h rfl (hpr rfl) (fun h => ?_) (fun h => ?_)
        · refine dp rfl rfl ?_
          iterate 3 refine dp rfl rfl ?_
          obtain ⟨v20, hv20, h⟩ := pb h
          refine dh rfl (head_callp (r02_Cats_w _ _ _ hv20) rfl rfl rfl rfl) ?_
          refine dp rfl rfl ?_
          refine aops_nil ?_
          exact ⟨v20, (sk [2, 3, 50] [] rfl), (pe h :)⟩
        · refine dk rfl ?_
          iterate 4 refine dk rfl ?_
          refine dp rfl rfl ?_
          refine aops_nil ?_
          exact ⟨false, (sk [2, 3, 50] [] rfl), (pe h :)⟩
  · refine awp_region ?_
    iterate 5 refine dp rfl rfl ?_
    refine ca h 7 (fun x22 => ⟨an 2 (.ptr 0 0 :: .ptr 1 0 :: an 12 (.bool x22 :: an 69 [])), [some (.var (encObjectD a)), some (.var (encObjectD b))], []⟩) (fun x22 h => ?_) (fun h => ?_)
    · refine lo ?_
      refine ca h 8 (fun x24 => ⟨an 2 (.ptr 0 0 :: .ptr 1 0 :: an 20 (.bool x24 :: an 61 [])), [some (.var (encObjectD a)), some (.var (encObjectD b))], []⟩) (fun x24 h => ?_) (fun h => ?_)
      · refine lo ?_
        refine ca h 7 (fun x26 => ⟨an 2 (.ptr 0 0 :: .ptr 1 0 :: an 27 (.bool x26 :: an 54 [])), [some (.var (encObjectD a)), some (.var (encObjectD b))], []⟩) (fun x26 h => ?_) (fun h => ?_)
        · refine lo ?_
          refine di h rfl (hpr rfl) (fun h => ?_) (fun h => ?_)
          · refine dk rfl ?_
            iterate 4 refine dk rfl ?_
            refine dp rfl rfl ?_
            refine aops_nil ?_
            exact ⟨true, (sk [2, 3, 38] [] rfl), (pe h :)⟩
          · refine dp rfl rfl ?_
            iterate 5 refine dp rfl rfl ?_
            refine aops_nil ?_
            exact ⟨(!(a.Fixed == b.Fixed)), (sk [2, 3, 38] [] rfl), (pe h :)⟩
        · refine di h rfl (hpr rfl) (fun h => ?_) (fun h => ?_)
          · refine dk rfl ?_
            iterate 4 refine dk rfl ?_
            refine dp rfl rfl ?_
            refine aops_nil ?_
            exact ⟨true, (sk [2, 3, 31] [] rfl), (pe h :)⟩
          · refine dp rfl rfl ?_
            iterate 5 refine dp rfl rfl ?_
            refine aops_nil ?_
            exact ⟨(a.Quota != b.Quota), (sk [2, 3, 31] [] rfl), (pe h :)⟩
      · refine di h rfl (hpr rfl) (fun h => ?_) (fun h => ?_)
        · refine dk rfl ?_
          iterate 5 refine dk rfl ?_
          refine dp rfl rfl ?_
          refine aops_nil ?_
          exact ⟨true, (sk [2, 3, 24] [] rfl), (pe h :)⟩
        · refine dp rfl rfl ?_
          iterate 3 refine dp rfl rfl ?_
          obtain ⟨v28, hv28, h⟩ := pb h
          refine dh rfl (head_callp (r02_Same_w _ _ _ hv28) rfl rfl rfl rfl) ?_
          iterate 2 refine dp rfl rfl ?_
          refine aops_nil ?_
          exact ⟨(!v28), (sk [2, 3, 24] [] rfl), (pe h :)⟩
    · refine di h rfl (hpr rfl) (fun h => ?_) (fun h => ?_)
      · refine dk rfl ?_
        iterate 4 refine dk rfl ?_
        refine dp rfl rfl ?_
        refine aops_nil ?_
        exact ⟨true, (sk [2, 3, 16] [] rfl), (pe h :)⟩
      · refine dp rfl rfl ?_
        iterate 5 refine dp rfl rfl ?_
        refine aops_nil ?_
        exact ⟨(a.Kind != b.Kind), (sk [2, 3, 16] [] rfl), (pe h :)⟩

theorem r13_Same_w (a : WorldD) (b : WorldD) (r : Bool) (h : r13_Same a b = some r) : PCall Try.prog 34 [.agg (encWorldD a), .agg (encWorldD b)] (.bool r) := by
  replace h : post (r13_Same a b) (fun v => v = r) := ⟨_, h, rfl⟩
  unfold r13_Same at h
  refine d_intro Try.func34 rfl (by decide +kernel) (ts := .agg (encWorldD a) :: .agg (encWorldD b) :: un 51) rfl fun B hB => ?_
  refine lc ?_ (by dsimp only [un])
  refine awp_seq ?_
  refine awp_region ?_
  refine dn rfl (hbx (cs := (encWorldD a)) 0 rfl rfl rfl) ?_
  refine dn rfl (hbx (cs := (encWorldD b)) 1 rfl rfl rfl) ?_
  refine dp rfl rfl ?_
  refine aops_nil ?_
  refine awp_seq ?_
  refine cw h (fun x1 => ⟨an 2 (.ptr 0 0 :: .ptr 1 0 :: an 29 (.bool x1 :: an 19 [])), [some (.var (encWorldD a)), some (.var (encWorldD b))], []⟩) (fun x1 h => ?_) (fun h => ?_)
  · refine lc ?_
    refine cc h rfl (fun h => ?_) (fun h => ?_)
    · refine awp_seq ?_
      refine awp_region ?_
      refine dp rfl rfl ?_
      refine aops_nil ?_
      refine awp_ret ?_
      obtain rfl := pe h
      exact qfun_ret rfl rfl (Weak.refl _) rfl
    · refine awp_skip ?_
      iterate 2 refine awp_seq ?_
      refine awp_region ?_
      refine dp rfl rfl ?_
      refine aops_nil ?_
      refine awp_block ?_
      refine cl h (fun x3 => ⟨an 2 (.ptr 0 0 :: .ptr 1 0 :: an 1 (.int .i64 x3 :: an 47 [])), [some (.var (encWorldD a)), some (.var (encWorldD b))], []⟩) (sk [2, 3, 5] [] rfl) (fun rec x3 h => ?_)
      unfold r13_Same_L0 at h
      refine lc ?_
      iterate 2 refine awp_seq ?_
      refine awp_region ?_
      iterate 3 refine dp rfl rfl ?_
      refine dh rfl (head_len_map tok rfl rfl rfl rfl) ?_
      refine dp rfl rfl ?_
      refine aops_nil ?_
      refine cc h rfl (fun h => ?_) (fun h => ?_)
      · refine awp_skip ?_
        refine awp_seq ?_
        refine awp_block ?_
        refine awp_seq ?_
        refine awp_draw 12 mixed (by decide +kernel) ?_
        iterate 3 refine kp rfl rfl ?_
        obtain ⟨x6, hx6, h⟩ := pb h
        refine kh rfl (head_index_map tok hx6 rfl rfl rfl rfl rfl rfl rfl) ?_
        iterate 4 refine kp rfl rfl ?_
        obtain ⟨x7, hx7, h⟩ := pb h
        refine kh rfl (head_index_map tok hx7 rfl rfl rfl rfl rfl rfl rfl) ?_
        refine kp rfl rfl ?_
        obtain ⟨v8, hv8, h⟩ := pb h
        refine kh rfl (head_callp (r13_SameOne_w _ _ _ hv8) rfl rfl rfl rfl) ?_
        refine kp rfl rfl ?_
        refine .nil ?_
        refine aops_nil ?_
        refine cc h rfl (fun h => ?_) (fun h => ?_)
        · refine awp_seq ?_
          refine awp_region ?_
          refine dp rfl rfl ?_
          refine aops_nil ?_
          replace h := pe h
          refine awp_ret ?_
          obtain rfl := pe h
          exact qfun_ret rfl rfl (Weak.refl _) rfl
        · refine awp_skip ?_
          refine awp_region ?_
          iterate 3 refine dp rfl rfl ?_
          refine aops_nil ?_
          exact ⟨(IntKind.i64.wrap (x3 + (1 : Int))), (sk [2, 3, 5] [] rfl), h⟩
      · refine awp_exit ?_
        replace h := pe h
        refine awp_seq ?_
        refine awp_region ?_
        refine dp rfl rfl ?_
        refine aops_nil ?_
        refine awp_ret ?_
        obtain rfl := pe h
        exact qfun_ret rfl rfl (Weak.refl _) rfl
  · refine awp_region ?_
    iterate 5 refine dp rfl rfl ?_
    refine ca h 7 (fun x11 => ⟨an 2 (.ptr 0 0 :: .ptr 1 0 :: an 13 (.bool x11 :: an 35 [])), [some (.var (encWorldD a)), some (.var (encWorldD b))], []⟩) (fun x11 h => ?_) (fun h => ?_)
    · refine lo ?_
      refine ca h 7 (fun x13 => ⟨an 2 (.ptr 0 0 :: .ptr 1 0 :: an 20 (.bool x13 :: an 28 [])), [some (.var (encWorldD a)), some (.var (encWorldD b))], []⟩) (fun x13 h => ?_) (fun h => ?_)
      · refine lo ?_
        refine di h rfl (hpr rfl) (fun h => ?_) (fun h => ?_)
        · refine dk rfl ?_
          iterate 6 refine dk rfl ?_
          refine dp rfl rfl ?_
          refine aops_nil ?_
          exact ⟨true, (sk [2, 3, 33] [] rfl), (pe h :)⟩
        · refine dp rfl rfl ?_
          refine dp rfl rfl ?_
          refine dh rfl (head_len_map tok rfl rfl rfl rfl) ?_
          iterate 2 refine dp rfl rfl ?_
          refine dh rfl (head_len_map tok rfl rfl rfl rfl) ?_
          iterate 2 refine dp rfl rfl ?_
          refine aops_nil ?_
          exact ⟨((a.Objects.length : Int) != (b.Objects.length : Int)), (sk [2, 3, 33] [] rfl), (pe h :)⟩
      · refine di h rfl (hpr rfl) (fun h => ?_) (fun h => ?_)
        · refine dk rfl ?_
          iterate 4 refine dk rfl ?_
          refine dp rfl rfl ?_
          refine aops_nil ?_
          exact ⟨true, (sk [2, 3, 24] [] rfl), (pe h :)⟩
        · refine dp rfl rfl ?_
          iterate 5 refine dp rfl rfl ?_
          refine aops_nil ?_
          exact ⟨(a.Root != b.Root), (sk [2, 3, 24] [] rfl), (pe h :)⟩
    · refine di h rfl (hpr rfl) (fun h => ?_) (fun h => ?_)
      · refine dk rfl ?_
        iterate 4 refine dk rfl ?_
        refine dp rfl rfl ?_
        refine aops_nil ?_
        exact ⟨true, (sk [2, 3, 17] [] rfl), (pe h :)⟩
      · refine dp rfl rfl ?_
        iterate 5 refine dp rfl rfl ?_
        refine aops_nil ?_
        exact ⟨(a.Key != b.Key), (sk [2, 3, 17] [] rfl), (pe h :)⟩

end Go.Proofs.Ytpckfpahmnhfcaa.K
