/- Walks: what functions of the program compute. Printed by wip/gen/pwrun.py. -/
import Derived.Test.YtpckfpahmnhfcaaKCF
import Derived.Test.YtpckfpahmnhfcaaKAW
namespace Go.Proofs.Ytpckfpahmnhfcaa.K
open Go Go.RowKit Go.Proofs.Ytpckfpahmnhfcaa.G
set_option linter.unusedVariables false
set_option maxRecDepth 20000
set_option maxHeartbeats 4000000
theorem r13_Kept_w (l : List PairD) (r : Bool) (h : r13_Kept l = some r) : PCall Try.prog 85 [.list (List.map encPairD l)] (.bool r) := by
  replace h : post (r13_Kept l) (fun v => v = r) := ⟨_, h, rfl⟩
  unfold r13_Kept at h
  refine d_intro Try.func85 rfl (by decide +kernel) (ts := .list (List.map encPairD l) :: un 22) rfl fun B hB => ?_
  refine lc ?_ (by dsimp only [un])
  refine awp_seq ?_
  refine awp_region ?_
  refine dp rfl rfl ?_
  refine aops_nil ?_
  iterate 2 refine awp_seq ?_
  refine awp_region ?_
  refine dp rfl rfl ?_
  refine aops_nil ?_
  refine awp_block ?_
  refine cl h (fun x1 => ⟨.list (List.map encPairD l) :: an 2 (.int .i64 x1 :: an 19 []), [], []⟩) (sk [0, 3] [] rfl) (fun rec x1 h => ?_)
  unfold r13_Kept_L0 at h
  refine lc ?_
  iterate 2 refine awp_seq ?_
  refine awp_region ?_
  iterate 2 refine dp rfl rfl ?_
  refine dh rfl (head_len_map tok rfl rfl rfl rfl) ?_
  refine dp rfl rfl ?_
  refine aops_nil ?_
  refine cc h rfl (fun h => ?_) (fun h => ?_)
  · refine awp_skip ?_
    refine awp_seq ?_
    refine awp_block ?_
    refine awp_seq ?_
    refine awp_region ?_
    iterate 2 refine dp rfl rfl ?_
    obtain ⟨x4, hx4, h⟩ := pb h
    refine dh rfl (head_index_map tok hx4 rfl rfl rfl rfl rfl rfl rfl) ?_
    iterate 3 refine dp rfl rfl ?_
    refine aops_nil ?_
    refine cc h rfl (fun h => ?_) (fun h => ?_)
    · refine awp_seq ?_
      refine awp_region ?_
      refine dp rfl rfl ?_
      refine aops_nil ?_
      replace h := pe h
      refine awp_ret ?_
      obtain rfl := pe h
      exact qfun_ret rfl rfl (Weak.refl _) rfl
    · refine awp_skip ?_
      refine awp_region ?_
      iterate 3 refine dp rfl rfl ?_
      refine aops_nil ?_
      exact ⟨(IntKind.i64.wrap (x1 + (1 : Int))), (sk [0, 3] [] rfl), h⟩
  · refine awp_exit ?_
    replace h := pe h
    refine awp_seq ?_
    refine awp_region ?_
    refine dp rfl rfl ?_
    refine dh rfl (head_len_map tok rfl rfl rfl rfl) ?_
    refine dp rfl rfl ?_
    refine di h rfl (hpr rfl) (fun h => ?_) (fun h => ?_)
    · refine dp rfl rfl ?_
      obtain ⟨v7, hv7, h⟩ := pb h
      refine dh rfl (head_callp (r02_Fit_w _ _ hv7) rfl rfl rfl rfl) ?_
      iterate 2 refine dp rfl rfl ?_
      refine aops_nil ?_
      refine awp_ret ?_
      obtain rfl := pe h
      exact qfun_ret rfl rfl (Weak.refl _) rfl
    · refine dk rfl ?_
      refine dk rfl ?_
      iterate 2 refine dp rfl rfl ?_
      refine aops_nil ?_
      refine awp_ret ?_
      obtain rfl := pe h
      exact qfun_ret rfl rfl (Weak.refl _) rfl

theorem r13_alone_w (o : ObjectD) (r : Bool) (h : r13_alone o = some r) : PCall Try.prog 86 [.agg (encObjectD o)] (.bool r) := by
  replace h : post (r13_alone o) (fun v => v = r) := ⟨_, h, rfl⟩
  unfold r13_alone at h
  refine d_intro Try.func86 rfl (by decide +kernel) (ts := .agg (encObjectD o) :: un 52) rfl fun B hB => ?_
  refine lc ?_ (by dsimp only [un])
  refine awp_seq ?_
  refine awp_region ?_
  refine dn rfl (hbx (cs := (encObjectD o)) 0 rfl rfl rfl) ?_
  refine dp rfl rfl ?_
  refine aops_nil ?_
  refine awp_seq ?_
  refine awp_region ?_
  iterate 10 refine dp rfl rfl ?_
  refine dh rfl (head_build (r := (encObjectD ({ ObjectD.zero with Id := o.Id, Kind := o.Kind, Label := o.Label, Quota := o.Quota, Fixed := o.Fixed } : ObjectD))) tok rfl rfl rfl rfl rfl rfl) ?_
  refine dn rfl (head_alloc tok 1 rfl rfl) ?_
  refine d_store_all tok rfl rfl rfl rfl rfl rfl rfl rfl rfl (by dsimp only [List.set, AV.cellsOf]) (by dsimp only [putL, List.set]) ?_
  refine aops_nil ?_
  iterate 2 refine awp_seq ?_
  refine awp_region ?_
  iterate 2 refine dp rfl rfl ?_
  refine aops_nil ?_
  refine awp_block ?_
  refine awp_seq ?_
  refine awp_region ?_
  iterate 2 refine dp rfl rfl ?_
  refine aops_nil ?_
  refine cc h rfl (fun h => ?_) (fun h => ?_)
  · refine awp_region ?_
    iterate 3 refine dp rfl rfl ?_
    refine d_store (cs' := (encObjectD ({ o with Links := [], Maps := [], Thread := ThreadD.zero, Gate := GateD.zero, In := [], Out := [] } : ObjectD))) tok rfl rfl rfl rfl rfl rfl rfl rfl rfl rfl (by dsimp only [List.set, AV.cellsOf]) (by dsimp only [putL, List.set]) ?_
    refine aops_nil ?_
    refine awp_seq ?_
    refine awp_region ?_
    iterate 2 refine dp rfl rfl ?_
    obtain ⟨v2, hv2, h⟩ := pb h
    refine dh rfl (head_callp (r13_SameOne_w _ _ _ hv2) rfl rfl rfl rfl) ?_
    refine dp rfl rfl ?_
    refine aops_nil ?_
    refine awp_ret ?_
    obtain rfl := pe h
    exact qfun_ret rfl rfl (Weak.refl _) rfl
  · refine awp_seq ?_
    refine awp_region ?_
    iterate 2 refine dp rfl rfl ?_
    refine aops_nil ?_
    refine cc h rfl (fun h => ?_) (fun h => ?_)
    · refine awp_region ?_
      iterate 3 refine dp rfl rfl ?_
      refine d_store (cs' := (encObjectD ({ o with Data := [], Maps := [], Thread := ThreadD.zero, Gate := GateD.zero, In := [], Out := [] } : ObjectD))) tok rfl rfl rfl rfl rfl rfl rfl rfl rfl rfl (by dsimp only [List.set, AV.cellsOf]) (by dsimp only [putL, List.set]) ?_
      refine aops_nil ?_
      refine awp_seq ?_
      refine awp_region ?_
      iterate 2 refine dp rfl rfl ?_
      obtain ⟨v4, hv4, h⟩ := pb h
      refine dh rfl (head_callp (r13_SameOne_w _ _ _ hv4) rfl rfl rfl rfl) ?_
      refine dp rfl rfl ?_
      refine aops_nil ?_
      refine awp_ret ?_
      obtain rfl := pe h
      exact qfun_ret rfl rfl (Weak.refl _) rfl
    · refine awp_seq ?_
      refine awp_region ?_
      iterate 2 refine dp rfl rfl ?_
      refine aops_nil ?_
      refine cc h rfl (fun h => ?_) (fun h => ?_)
      · refine awp_region ?_
        iterate 3 refine dp rfl rfl ?_
        refine d_store (cs' := (encObjectD ({ o with Links := [], Data := [], Thread := ThreadD.zero, Gate := GateD.zero, In := [], Out := [] } : ObjectD))) tok rfl rfl rfl rfl rfl rfl rfl rfl rfl rfl (by dsimp only [List.set, AV.cellsOf]) (by dsimp only [putL, List.set]) ?_
        refine aops_nil ?_
        refine awp_seq ?_
        refine awp_region ?_
        iterate 2 refine dp rfl rfl ?_
        obtain ⟨v6, hv6, h⟩ := pb h
        refine dh rfl (head_callp (r13_SameOne_w _ _ _ hv6) rfl rfl rfl rfl) ?_
        refine dp rfl rfl ?_
        refine aops_nil ?_
        refine awp_ret ?_
        obtain rfl := pe h
        exact qfun_ret rfl rfl (Weak.refl _) rfl
      · refine awp_seq ?_
        refine awp_region ?_
        iterate 2 refine dp rfl rfl ?_
        refine aops_nil ?_
        refine cc h rfl (fun h => ?_) (fun h => ?_)
        · refine awp_region ?_
          iterate 3 refine dp rfl rfl ?_
          refine d_store (cs' := (encObjectD ({ o with Links := [], Data := [], Maps := [], Gate := GateD.zero, In := [], Out := [] } : ObjectD))) tok rfl rfl rfl rfl rfl rfl rfl rfl rfl rfl (by dsimp only [List.set, AV.cellsOf]) (by dsimp only [putL, List.set]) ?_
          refine aops_nil ?_
          refine awp_seq ?_
          refine awp_region ?_
          iterate 2 refine dp rfl rfl ?_
          obtain ⟨v8, hv8, h⟩ := pb h
          refine dh rfl (head_callp (r13_SameOne_w _ _ _ hv8) rfl rfl rfl rfl) ?_
          refine dp rfl rfl ?_
          refine aops_nil ?_
          refine awp_ret ?_
          obtain rfl := pe h
          exact qfun_ret rfl rfl (Weak.refl _) rfl
        · refine awp_seq ?_
          refine awp_region ?_
          iterate 2 refine dp rfl rfl ?_
          refine aops_nil ?_
          refine cc h rfl (fun h => ?_) (fun h => ?_)
          · refine awp_region ?_
            iterate 3 refine dp rfl rfl ?_
            refine d_store (cs' := (encObjectD ({ o with Links := [], Data := [], Maps := [], Thread := ThreadD.zero, In := [], Out := [] } : ObjectD))) tok rfl rfl rfl rfl rfl rfl rfl rfl rfl rfl (by dsimp only [List.set, AV.cellsOf]) (by dsimp only [putL, List.set]) ?_
            refine aops_nil ?_
            refine awp_seq ?_
            refine awp_region ?_
            iterate 2 refine dp rfl rfl ?_
            obtain ⟨v10, hv10, h⟩ := pb h
            refine dh rfl (head_callp (r13_SameOne_w _ _ _ hv10) rfl rfl rfl rfl) ?_
            refine dp rfl rfl ?_
            refine aops_nil ?_
            refine awp_ret ?_
            obtain rfl := pe h
            exact qfun_ret rfl rfl (Weak.refl _) rfl
          · refine awp_seq ?_
            refine awp_region ?_
            iterate 2 refine dp rfl rfl ?_
            refine aops_nil ?_
            refine cc h rfl (fun h => ?_) (fun h => ?_)
            · refine awp_seq ?_
              refine awp_region ?_
              iterate 3 refine dp rfl rfl ?_
              refine d_store (cs' := (encObjectD ({ o with Links := [], Data := [], Maps := [], Thread := ThreadD.zero, Gate := GateD.zero, Out := [] } : ObjectD))) tok rfl rfl rfl rfl rfl rfl rfl rfl rfl rfl (by dsimp only [List.set, AV.cellsOf]) (by dsimp only [putL, List.set]) ?_
              refine aops_nil ?_
              refine awp_region ?_
              iterate 3 refine dp rfl rfl ?_
              refine d_store (cs' := (encObjectD ({ o with Links := [], Data := [], Maps := [], Thread := ThreadD.zero, Gate := GateD.zero } : ObjectD))) tok rfl rfl rfl rfl rfl rfl rfl rfl rfl rfl (by dsimp only [List.set, AV.cellsOf]) (by dsimp only [putL, List.set]) ?_
              refine aops_nil ?_
              refine awp_seq ?_
              refine awp_region ?_
              iterate 2 refine dp rfl rfl ?_
              obtain ⟨v12, hv12, h⟩ := pb h
              refine dh rfl (head_callp (r13_SameOne_w _ _ _ hv12) rfl rfl rfl rfl) ?_
              refine dp rfl rfl ?_
              refine aops_nil ?_
              refine awp_ret ?_
              obtain rfl := pe h
              exact qfun_ret rfl rfl (Weak.refl _) rfl
            · refine awp_skip ?_
              refine awp_seq ?_
              refine awp_region ?_
              iterate 2 refine dp rfl rfl ?_
              obtain ⟨v13, hv13, h⟩ := pb h
              refine dh rfl (head_callp (r13_SameOne_w _ _ _ hv13) rfl rfl rfl rfl) ?_
              refine dp rfl rfl ?_
              refine aops_nil ?_
              refine awp_ret ?_
              obtain rfl := pe h
              exact qfun_ret rfl rfl (Weak.refl _) rfl

theorem r13_rising_w (l : List Int) (r : Bool) (h : r13_rising l = some r) : PCall Try.prog 88 [.list (List.map (encI .u64) l)] (.bool r) := by
  replace h : post (r13_rising l) (fun v => v = r) := ⟨_, h, rfl⟩
  unfold r13_rising at h
  refine d_intro Try.func88 rfl (by decide +kernel) (ts := .list (List.map (encI .u64) l) :: un 31) rfl fun B hB => ?_
  refine lc ?_ (by dsimp only [un])
  refine awp_seq ?_
  refine awp_region ?_
  refine dp rfl rfl ?_
  refine aops_nil ?_
  iterate 2 refine awp_seq ?_
  refine awp_region ?_
  refine dp rfl rfl ?_
  refine aops_nil ?_
  refine awp_block ?_
  refine cl h (fun x1 => ⟨.list (List.map (encI .u64) l) :: an 2 (.int .i64 x1 :: an 28 []), [], []⟩) (sk [0, 3] [] rfl) (fun rec x1 h => ?_)
  unfold r13_rising_L0 at h
  refine lc ?_
  iterate 2 refine awp_seq ?_
  refine awp_region ?_
  iterate 2 refine dp rfl rfl ?_
  refine dh rfl (head_len_map tok rfl rfl rfl rfl) ?_
  refine dp rfl rfl ?_
  refine aops_nil ?_
  refine cc h rfl (fun h => ?_) (fun h => ?_)
  · refine awp_skip ?_
    refine awp_seq ?_
    refine awp_block ?_
    refine cw h (fun x4 => ⟨.list (List.map (encI .u64) l) :: an 2 (.int .i64 x1 :: an 27 (.bool x4 :: [])), [], []⟩) (fun x4 h => ?_) (fun h => ?_)
    · refine lc ?_
      refine cc h rfl (fun h => ?_) (fun h => ?_)
      · refine awp_seq ?_
        refine awp_region ?_
        refine dp rfl rfl ?_
        refine aops_nil ?_
        replace h := pe h
        refine awp_ret ?_
        obtain rfl := pe h
        exact qfun_ret rfl rfl (Weak.refl _) rfl
      · refine awp_skip ?_
        refine awp_region ?_
        iterate 3 refine dp rfl rfl ?_
        refine aops_nil ?_
        exact ⟨(IntKind.i64.wrap (x1 + (1 : Int))), (sk [0, 3] [] rfl), h⟩
    · refine awp_draw 22 mixed (by decide +kernel) ?_
      iterate 2 refine kp rfl rfl ?_
      obtain ⟨x6, hx6, h⟩ := pb h
      refine kh rfl (head_index_map tok hx6 rfl rfl rfl rfl rfl rfl rfl) ?_
      refine kp rfl rfl ?_
      obtain ⟨v7, hv7, h⟩ := pb h
      refine kh rfl (head_callp (r13_id_w _ _ hv7) rfl rfl rfl rfl) ?_
      refine kp rfl rfl ?_
      refine ki h rfl (hpr rfl) (fun h => ?_) (fun h => ?_)
      · refine kk rfl ?_
        iterate 13 refine kk rfl ?_
        refine kp rfl rfl ?_
        refine .nil ?_
        refine aops_nil ?_
        exact ⟨true, (sk [0, 3, 31] [] rfl), (pe h :)⟩
      · refine kp rfl rfl ?_
        refine kp rfl rfl ?_
        refine ki h rfl (hpr rfl) (fun h => ?_) (fun h => ?_)
        · refine kp rfl rfl ?_
          iterate 2 refine kp rfl rfl ?_
          obtain ⟨x10, hx10, h⟩ := pb h
          refine kh rfl (head_index_map tok hx10 rfl rfl rfl rfl rfl rfl rfl) ?_
          iterate 3 refine kp rfl rfl ?_
          obtain ⟨x11, hx11, h⟩ := pb h
          refine kh rfl (head_index_map tok hx11 rfl rfl rfl rfl rfl rfl rfl) ?_
          iterate 4 refine kp rfl rfl ?_
          refine .nil ?_
          refine aops_nil ?_
          exact ⟨(decide (x10 ≥ x11)), (sk [0, 3, 31] [] rfl), (pe h :)⟩
        · refine kk rfl ?_
          iterate 9 refine kk rfl ?_
          iterate 2 refine kp rfl rfl ?_
          refine .nil ?_
          refine aops_nil ?_
          exact ⟨false, (sk [0, 3, 31] [] rfl), (pe h :)⟩
  · refine awp_exit ?_
    replace h := pe h
    refine awp_seq ?_
    refine awp_region ?_
    refine dp rfl rfl ?_
    refine aops_nil ?_
    refine awp_ret ?_
    obtain rfl := pe h
    exact qfun_ret rfl rfl (Weak.refl _) rfl

theorem r13_thread_w (l : List PairD) (t : ThreadD) (r : Bool) (h : r13_thread l t = some r) : PCall Try.prog 89 [.list (List.map encPairD l), .agg (encThreadD t)] (.bool r) := by
  replace h : post (r13_thread l t) (fun v => v = r) := ⟨_, h, rfl⟩
  unfold r13_thread at h
  refine d_intro Try.func89 rfl (by decide +kernel) (ts := .list (List.map encPairD l) :: .agg (encThreadD t) :: un 53) rfl fun B hB => ?_
  refine lc ?_ (by dsimp only [un])
  refine awp_seq ?_
  refine awp_region ?_
  refine dn rfl (hbx (cs := (encThreadD t)) 0 rfl rfl rfl) ?_
  refine dp rfl rfl ?_
  refine aops_nil ?_
  iterate 2 refine awp_seq ?_
  refine awp_region ?_
  refine dp rfl rfl ?_
  refine aops_nil ?_
  refine awp_block ?_
  refine cl h (fun x1 => ⟨.list (List.map encPairD l) :: an 2 (.ptr 0 0 :: an 1 (.int .i64 x1 :: an 49 [])), [some (.var (encThreadD t))], []⟩) (sk [0, 3, 5] [] rfl) (fun rec x1 h => ?_)
  unfold r13_thread_L0 at h
  refine lc ?_
  iterate 2 refine awp_seq ?_
  refine awp_region ?_
  iterate 2 refine dp rfl rfl ?_
  refine aops_nil ?_
  refine cc h rfl (fun h => ?_) (fun h => ?_)
  · refine awp_skip ?_
    refine awp_seq ?_
    refine awp_block ?_
    refine awp_seq ?_
    refine awp_region ?_
    iterate 2 refine dp rfl rfl ?_
    obtain ⟨j4, hj4, h⟩ := pb h
    have j4_lt := inr_lt hj4
    refine dh rfl (head_index_arrn tok hj4 rfl rfl rfl rfl rfl rfl rfl) ?_
    refine dh rfl (head_load_at tok rfl rfl rfl rfl rfl rfl (nat4 (P := fun j4 => (_ : List AV)[31 + j4]? = some (.list (List.map encPairD (Arr4.get t.Labs j4)))) ⟨rfl, rfl, rfl, rfl⟩ j4_lt)) ?_
    obtain ⟨v5, hv5, h⟩ := pb h
    refine dh rfl (head_callp (r13_Kept_w _ _ hv5) rfl rfl rfl rfl) ?_
    refine dp rfl rfl ?_
    refine aops_nil ?_
    refine cc h rfl (fun h => ?_) (fun h => ?_)
    · refine awp_seq ?_
      refine awp_region ?_
      refine dp rfl rfl ?_
      refine aops_nil ?_
      replace h := pe h
      refine awp_ret ?_
      obtain rfl := pe h
      exact qfun_ret rfl rfl (Weak.refl _) rfl
    · refine awp_skip ?_
      refine awp_region ?_
      iterate 3 refine dp rfl rfl ?_
      refine aops_nil ?_
      exact ⟨(IntKind.i64.wrap (x1 + (1 : Int))), (sk [0, 3, 5] [] rfl), h⟩
  · refine awp_exit ?_
    replace h := pe h
    refine awp_seq ?_
    refine cw h (fun x7 => ⟨.list (List.map encPairD l) :: an 2 (.ptr 0 0 :: an 20 (.bool x7 :: an 30 [])), [some (.var (encThreadD t))], []⟩) (fun x7 h => ?_) (fun h => ?_)
    · refine lc ?_
      refine cc h rfl (fun h => ?_) (fun h => ?_)
      · refine awp_seq ?_
        refine awp_region ?_
        refine dp rfl rfl ?_
        refine aops_nil ?_
        refine awp_ret ?_
        obtain rfl := pe h
        exact qfun_ret rfl rfl (Weak.refl _) rfl
      · refine awp_skip ?_
        refine awp_seq ?_
        refine awp_region ?_
        iterate 2 refine dp rfl rfl ?_
        obtain ⟨v9, hv9, h⟩ := pb h
        refine dh rfl (head_callp (r13_Kept_w _ _ hv9) rfl rfl rfl rfl) ?_
        refine ca h 6 (fun x11 => ⟨an 3 (.ptr 0 0 :: an 29 (.bool x11 :: an 21 [])), [some (.var (encThreadD t))], []⟩) (fun x11 h => ?_) (fun h => ?_)
        · refine lo ?_
          refine ca h 5 (fun x13 => ⟨an 3 (.ptr 0 0 :: an 34 (.bool x13 :: an 16 [])), [some (.var (encThreadD t))], []⟩) (fun x13 h => ?_) (fun h => ?_)
          · refine lo ?_
            refine ca h 5 (fun x15 => ⟨an 3 (.ptr 0 0 :: an 39 (.bool x15 :: an 11 [])), [some (.var (encThreadD t))], []⟩) (fun x15 h => ?_) (fun h => ?_)
            · refine lo ?_
              refine ca h 6 (fun x17 => ⟨an 3 (.ptr 0 0 :: an 45 (.bool x17 :: an 5 [])), [some (.var (encThreadD t))], []⟩) (fun x17 h => ?_) (fun h => ?_)
              · refine lo ?_
                refine di h rfl (hpr rfl) (fun h => ?_) (fun h => ?_)
                · refine dp rfl rfl ?_
                  refine dp rfl rfl ?_
                  obtain ⟨v19, hv19, h⟩ := pb h
                  refine dh rfl (head_callp (r07_Fit_w _ _ hv19) rfl rfl rfl rfl) ?_
                  iterate 2 refine dp rfl rfl ?_
                  refine aops_nil ?_
                  refine awp_ret ?_
                  obtain rfl := pe h
                  exact qfun_ret rfl rfl (Weak.refl _) rfl
                · refine dk rfl ?_
                  iterate 2 refine dk rfl ?_
                  iterate 2 refine dp rfl rfl ?_
                  refine aops_nil ?_
                  refine awp_ret ?_
                  obtain rfl := pe h
                  exact qfun_ret rfl rfl (Weak.refl _) rfl
              · refine di h rfl (hpr rfl) (fun h => ?_) (fun h => ?_)
                · refine dp rfl rfl ?_
                  refine dp rfl rfl ?_
                  refine dh rfl (head_len_map tok rfl rfl rfl rfl) ?_
                  iterate 2 refine dp rfl rfl ?_
                  refine aops_nil ?_
                  exact ⟨(decide ((t.Alerts.length : Int) ≤ (8 : Int))), (sk [3, 49] [] rfl), (pe h :)⟩
                · refine dk rfl ?_
                  iterate 3 refine dk rfl ?_
                  refine dp rfl rfl ?_
                  refine aops_nil ?_
                  exact ⟨false, (sk [3, 49] [] rfl), (pe h :)⟩
            · refine di h rfl (hpr rfl) (fun h => ?_) (fun h => ?_)
              · refine dp rfl rfl ?_
                iterate 3 refine dp rfl rfl ?_
                refine aops_nil ?_
                exact ⟨(decide (t.State ≤ (2 : Int))), (sk [3, 43] [] rfl), (pe h :)⟩
              · refine dk rfl ?_
                iterate 2 refine dk rfl ?_
                refine dp rfl rfl ?_
                refine aops_nil ?_
                exact ⟨false, (sk [3, 43] [] rfl), (pe h :)⟩
          · refine di h rfl (hpr rfl) (fun h => ?_) (fun h => ?_)
            · refine dp rfl rfl ?_
              iterate 3 refine dp rfl rfl ?_
              refine aops_nil ?_
              exact ⟨(decide (t.State ≥ (0 : Int))), (sk [3, 38] [] rfl), (pe h :)⟩
            · refine dk rfl ?_
              iterate 2 refine dk rfl ?_
              refine dp rfl rfl ?_
              refine aops_nil ?_
              exact ⟨false, (sk [3, 38] [] rfl), (pe h :)⟩
        · refine di h rfl (hpr rfl) (fun h => ?_) (fun h => ?_)
          · refine dp rfl rfl ?_
            iterate 2 refine dp rfl rfl ?_
            obtain ⟨v20, hv20, h⟩ := pb h
            refine dh rfl (head_callp (r02_Leq_w _ _ _ hv20) rfl rfl rfl rfl) ?_
            refine dp rfl rfl ?_
            refine aops_nil ?_
            exact ⟨v20, (sk [3, 33] [] rfl), (pe h :)⟩
          · refine dk rfl ?_
            iterate 3 refine dk rfl ?_
            refine dp rfl rfl ?_
            refine aops_nil ?_
            exact ⟨false, (sk [3, 33] [] rfl), (pe h :)⟩
    · refine awp_region ?_
      iterate 3 refine dp rfl rfl ?_
      refine di h rfl (hpr rfl) (fun h => ?_) (fun h => ?_)
      · refine dp rfl rfl ?_
        refine dp rfl rfl ?_
        refine dh rfl (head_build (r := (encWaitD WaitD.zero)) tok rfl rfl rfl rfl rfl rfl) ?_
        refine dh rfl (head_eqs tok eqAll flat1 rfl (.inr ⟨rfl, rfl⟩) rfl rfl (by kernel_rfl) rfl rfl rfl) ?_
        refine dp rfl rfl ?_
        refine aops_nil ?_
        exact ⟨(!(((t.Wait.Ref.Cont == (0 : Int)) && ((t.Wait.Ref.Id == (0 : Int)) && true)) && ((t.Wait.Index == (0 : Int)) && ((t.Wait.Val == (0 : Int)) && ((t.Wait.Dev == false) && true))))), (sk [0, 3, 24] [] rfl), (pe h :)⟩
      · refine dk rfl ?_
        iterate 3 refine dk rfl ?_
        refine dp rfl rfl ?_
        refine aops_nil ?_
        exact ⟨false, (sk [0, 3, 24] [] rfl), (pe h :)⟩

theorem r13_Sound_w (o : ObjectD) (r : Bool) (h : r13_Sound o = some r) : PCall Try.prog 28 [.agg (encObjectD o)] (.bool r) := by
  replace h : post (r13_Sound o) (fun v => v = r) := ⟨_, h, rfl⟩
  unfold r13_Sound at h
  refine d_intro Try.func28 rfl (by decide +kernel) (ts := .agg (encObjectD o) :: un 118) rfl fun B hB => ?_
  refine lc ?_ (by dsimp only [un])
  refine awp_seq ?_
  refine awp_region ?_
  refine dn rfl (hbx (cs := (encObjectD o)) 0 rfl rfl rfl) ?_
  refine dp rfl rfl ?_
  refine aops_nil ?_
  refine awp_seq ?_
  refine cw h (fun x1 => ⟨an 1 (.ptr 0 0 :: an 35 (.bool x1 :: an 81 [])), [some (.var (encObjectD o))], []⟩) (fun x1 h => ?_) (fun h => ?_)
  · refine lc ?_
    refine cc h rfl (fun h => ?_) (fun h => ?_)
    · refine awp_seq ?_
      refine awp_region ?_
      refine dp rfl rfl ?_
      refine aops_nil ?_
      refine awp_ret ?_
      obtain rfl := pe h
      exact qfun_ret rfl rfl (Weak.refl _) rfl
    · refine awp_skip ?_
      refine awp_seq ?_
      refine cw h (fun x3 => ⟨an 1 (.ptr 0 0 :: an 45 (.bool x3 :: an 71 [])), [some (.var (encObjectD o))], []⟩) (fun x3 h => ?_) (fun h => ?_)
      · refine lc ?_
        refine cc h rfl (fun h => ?_) (fun h => ?_)
        · refine awp_seq ?_
          refine awp_region ?_
          refine dp rfl rfl ?_
          refine aops_nil ?_
          refine awp_ret ?_
          obtain rfl := pe h
          exact qfun_ret rfl rfl (Weak.refl _) rfl
        · refine awp_skip ?_
          iterate 2 refine awp_seq ?_
          refine awp_region ?_
          iterate 2 refine dp rfl rfl ?_
          refine aops_nil ?_
          refine awp_block ?_
          refine awp_seq ?_
          refine awp_region ?_
          iterate 2 refine dp rfl rfl ?_
          refine aops_nil ?_
          refine cc h rfl (fun h => ?_) (fun h => ?_)
          · refine awp_seq ?_
            refine awp_region ?_
            iterate 2 refine dp rfl rfl ?_
            refine dh rfl (head_len_map tok rfl rfl rfl rfl) ?_
            iterate 6 refine dp rfl rfl ?_
            refine aops_nil ?_
            refine awp_ret ?_
            obtain rfl := pe h
            exact qfun_ret rfl rfl (Weak.refl _) rfl
          · refine awp_seq ?_
            refine awp_region ?_
            iterate 2 refine dp rfl rfl ?_
            refine aops_nil ?_
            refine cc h rfl (fun h => ?_) (fun h => ?_)
            · refine awp_seq ?_
              refine awp_region ?_
              iterate 2 refine dp rfl rfl ?_
              refine dh rfl (head_len_map tok rfl rfl rfl rfl) ?_
              refine dp rfl rfl ?_
              refine di h rfl (hpr rfl) (fun h => ?_) (fun h => ?_)
              · refine dp rfl rfl ?_
                refine dp rfl rfl ?_
                obtain ⟨v8, hv8, h⟩ := pb h
                refine dh rfl (head_callp (r13_rising_w _ _ hv8) rfl rfl rfl rfl) ?_
                iterate 2 refine dp rfl rfl ?_
                refine aops_nil ?_
                refine awp_ret ?_
                obtain rfl := pe h
                exact qfun_ret rfl rfl (Weak.refl _) rfl
              · refine dk rfl ?_
                iterate 2 refine dk rfl ?_
                iterate 2 refine dp rfl rfl ?_
                refine aops_nil ?_
                refine awp_ret ?_
                obtain rfl := pe h
                exact qfun_ret rfl rfl (Weak.refl _) rfl
            · refine awp_seq ?_
              refine awp_region ?_
              iterate 2 refine dp rfl rfl ?_
              refine aops_nil ?_
              refine cc h rfl (fun h => ?_) (fun h => ?_)
              · refine awp_seq ?_
                refine awp_region ?_
                iterate 2 refine dp rfl rfl ?_
                obtain ⟨v10, hv10, h⟩ := pb h
                refine dh rfl (head_callp (r12_Fit_w _ _ hv10) rfl rfl rfl rfl) ?_
                refine dp rfl rfl ?_
                refine aops_nil ?_
                refine awp_ret ?_
                obtain rfl := pe h
                exact qfun_ret rfl rfl (Weak.refl _) rfl
              · refine awp_seq ?_
                refine awp_region ?_
                iterate 2 refine dp rfl rfl ?_
                refine aops_nil ?_
                refine cc h rfl (fun h => ?_) (fun h => ?_)
                · refine awp_seq ?_
                  refine awp_region ?_
                  iterate 4 refine dp rfl rfl ?_
                  obtain ⟨v12, hv12, h⟩ := pb h
                  refine dh rfl (head_callp (r13_thread_w _ _ _ hv12) rfl rfl rfl rfl) ?_
                  refine di h rfl (hpr rfl) (fun h => ?_) (fun h => ?_)
                  · refine dp rfl rfl ?_
                    iterate 4 refine dp rfl rfl ?_
                    refine aops_nil ?_
                    refine awp_ret ?_
                    obtain rfl := pe h
                    exact qfun_ret rfl rfl (Weak.refl _) rfl
                  · refine dk rfl ?_
                    iterate 2 refine dk rfl ?_
                    iterate 2 refine dp rfl rfl ?_
                    refine aops_nil ?_
                    refine awp_ret ?_
                    obtain rfl := pe h
                    exact qfun_ret rfl rfl (Weak.refl _) rfl
                · refine awp_seq ?_
                  refine awp_region ?_
                  iterate 2 refine dp rfl rfl ?_
                  refine aops_nil ?_
                  refine cc h rfl (fun h => ?_) (fun h => ?_)
                  · refine awp_seq ?_
                    refine awp_region ?_
                    iterate 3 refine dp rfl rfl ?_
                    obtain ⟨v15, hv15, h⟩ := pb h
                    refine dh rfl (head_callp (r13_Kept_w _ _ hv15) rfl rfl rfl rfl) ?_
                    refine ca h 6 (fun x17 => ⟨an 1 (.ptr 0 0 :: an 97 (.bool x17 :: an 19 [])), [some (.var (encObjectD o))], []⟩) (fun x17 h => ?_) (fun h => ?_)
                    · refine lo ?_
                      refine di h rfl (hpr rfl) (fun h => ?_) (fun h => ?_)
                      · refine dp rfl rfl ?_
                        iterate 5 refine dp rfl rfl ?_
                        obtain ⟨v19, hv19, h⟩ := pb h
                        refine dh rfl (head_callp (r02_Leq_w _ _ _ hv19) rfl rfl rfl rfl) ?_
                        iterate 2 refine dp rfl rfl ?_
                        refine aops_nil ?_
                        refine awp_ret ?_
                        obtain rfl := pe h
                        exact qfun_ret rfl rfl (Weak.refl _) rfl
                      · refine dk rfl ?_
                        iterate 6 refine dk rfl ?_
                        iterate 2 refine dp rfl rfl ?_
                        refine aops_nil ?_
                        refine awp_ret ?_
                        obtain rfl := pe h
                        exact qfun_ret rfl rfl (Weak.refl _) rfl
                    · refine di h rfl (hpr rfl) (fun h => ?_) (fun h => ?_)
                      · refine dp rfl rfl ?_
                        iterate 2 refine dp rfl rfl ?_
                        obtain ⟨v20, hv20, h⟩ := pb h
                        refine dh rfl (head_callp (r13_Kept_w _ _ hv20) rfl rfl rfl rfl) ?_
                        refine dp rfl rfl ?_
                        refine aops_nil ?_
                        exact ⟨v20, (sk [1, 99] [] rfl), (pe h :)⟩
                      · refine dk rfl ?_
                        iterate 3 refine dk rfl ?_
                        refine dp rfl rfl ?_
                        refine aops_nil ?_
                        exact ⟨false, (sk [1, 99] [] rfl), (pe h :)⟩
                  · refine awp_skip ?_
                    refine awp_seq ?_
                    refine awp_region ?_
                    iterate 2 refine dp rfl rfl ?_
                    refine dh rfl (head_len_map tok rfl rfl rfl rfl) ?_
                    refine dp rfl rfl ?_
                    refine di h rfl (hpr rfl) (fun h => ?_) (fun h => ?_)
                    · refine dp rfl rfl ?_
                      refine dp rfl rfl ?_
                      refine dh rfl (head_len_map tok rfl rfl rfl rfl) ?_
                      iterate 3 refine dp rfl rfl ?_
                      refine aops_nil ?_
                      refine awp_ret ?_
                      obtain rfl := pe h
                      exact qfun_ret rfl rfl (Weak.refl _) rfl
                    · refine dk rfl ?_
                      iterate 3 refine dk rfl ?_
                      iterate 2 refine dp rfl rfl ?_
                      refine aops_nil ?_
                      refine awp_ret ?_
                      obtain rfl := pe h
                      exact qfun_ret rfl rfl (Weak.refl _) rfl
      · refine awp_region ?_
        iterate 3 refine dp rfl rfl ?_
        refine di h rfl (hpr rfl) (fun h => ?_) (fun h => ?_)
        · refine dp rfl rfl ?_
          refine dp rfl rfl ?_
          obtain ⟨v23, hv23, h⟩ := pb h
          refine dh rfl (head_callp (r02_Owned_w _ _ hv23) rfl rfl rfl rfl) ?_
          refine dh rfl (head_len_map tok rfl rfl rfl rfl) ?_
          iterate 2 refine dp rfl rfl ?_
          refine aops_nil ?_
          exact ⟨(decide ((v23.length : Int) > (0 : Int))), (sk [1, 47] [] rfl), (pe h :)⟩
        · refine dk rfl ?_
          iterate 4 refine dk rfl ?_
          refine dp rfl rfl ?_
          refine aops_nil ?_
          exact ⟨false, (sk [1, 47] [] rfl), (pe h :)⟩
  · refine awp_region ?_
    iterate 2 refine dp rfl rfl ?_
    obtain ⟨v24, hv24, h⟩ := pb h
    refine dh rfl (head_callp (r13_id_w _ _ hv24) rfl rfl rfl rfl) ?_
    refine dp rfl rfl ?_
    refine ca h 5 (fun x26 => ⟨an 1 (.ptr 0 0 :: an 9 (.bool x26 :: an 107 [])), [some (.var (encObjectD o))], []⟩) (fun x26 h => ?_) (fun h => ?_)
    · refine lo ?_
      refine ca h 5 (fun x28 => ⟨an 1 (.ptr 0 0 :: an 14 (.bool x28 :: an 102 [])), [some (.var (encObjectD o))], []⟩) (fun x28 h => ?_) (fun h => ?_)
      · refine lo ?_
        refine ca h 6 (fun x30 => ⟨an 1 (.ptr 0 0 :: an 20 (.bool x30 :: an 96 [])), [some (.var (encObjectD o))], []⟩) (fun x30 h => ?_) (fun h => ?_)
        · refine lo ?_
          refine ca h 5 (fun x32 => ⟨an 1 (.ptr 0 0 :: an 25 (.bool x32 :: an 91 [])), [some (.var (encObjectD o))], []⟩) (fun x32 h => ?_) (fun h => ?_)
          · refine lo ?_
            refine ca h 5 (fun x34 => ⟨an 1 (.ptr 0 0 :: an 30 (.bool x34 :: an 86 [])), [some (.var (encObjectD o))], []⟩) (fun x34 h => ?_) (fun h => ?_)
            · refine lo ?_
              refine di h rfl (hpr rfl) (fun h => ?_) (fun h => ?_)
              · refine dk rfl ?_
                iterate 2 refine dk rfl ?_
                refine dp rfl rfl ?_
                refine aops_nil ?_
                exact ⟨true, (sk [1, 37] [] rfl), (pe h :)⟩
              · refine dp rfl rfl ?_
                obtain ⟨v36, hv36, h⟩ := pb h
                refine dh rfl (head_callp (r13_alone_w _ _ hv36) rfl rfl rfl rfl) ?_
                iterate 2 refine dp rfl rfl ?_
                refine aops_nil ?_
                exact ⟨(!v36), (sk [1, 37] [] rfl), (pe h :)⟩
            · refine di h rfl (hpr rfl) (fun h => ?_) (fun h => ?_)
              · refine dk rfl ?_
                iterate 2 refine dk rfl ?_
                refine dp rfl rfl ?_
                refine aops_nil ?_
                exact ⟨true, (sk [1, 32] [] rfl), (pe h :)⟩
              · refine dp rfl rfl ?_
                iterate 3 refine dp rfl rfl ?_
                refine aops_nil ?_
                exact ⟨(decide (o.Quota > (4096 : Int))), (sk [1, 32] [] rfl), (pe h :)⟩
          · refine di h rfl (hpr rfl) (fun h => ?_) (fun h => ?_)
            · refine dk rfl ?_
              iterate 2 refine dk rfl ?_
              refine dp rfl rfl ?_
              refine aops_nil ?_
              exact ⟨true, (sk [1, 27] [] rfl), (pe h :)⟩
            · refine dp rfl rfl ?_
              iterate 3 refine dp rfl rfl ?_
              refine aops_nil ?_
              exact ⟨(decide (o.Quota < (1 : Int))), (sk [1, 27] [] rfl), (pe h :)⟩
        · refine di h rfl (hpr rfl) (fun h => ?_) (fun h => ?_)
          · refine dk rfl ?_
            iterate 3 refine dk rfl ?_
            refine dp rfl rfl ?_
            refine aops_nil ?_
            exact ⟨true, (sk [1, 22] [] rfl), (pe h :)⟩
          · refine dp rfl rfl ?_
            refine dp rfl rfl ?_
            obtain ⟨v37, hv37, h⟩ := pb h
            refine dh rfl (head_callp (r13_Kept_w _ _ hv37) rfl rfl rfl rfl) ?_
            iterate 2 refine dp rfl rfl ?_
            refine aops_nil ?_
            exact ⟨(!v37), (sk [1, 22] [] rfl), (pe h :)⟩
      · refine di h rfl (hpr rfl) (fun h => ?_) (fun h => ?_)
        · refine dk rfl ?_
          iterate 2 refine dk rfl ?_
          refine dp rfl rfl ?_
          refine aops_nil ?_
          exact ⟨true, (sk [1, 16] [] rfl), (pe h :)⟩
        · refine dp rfl rfl ?_
          iterate 3 refine dp rfl rfl ?_
          refine aops_nil ?_
          exact ⟨(decide (o.Kind > (6 : Int))), (sk [1, 16] [] rfl), (pe h :)⟩
    · refine di h rfl (hpr rfl) (fun h => ?_) (fun h => ?_)
      · refine dk rfl ?_
        iterate 2 refine dk rfl ?_
        refine dp rfl rfl ?_
        refine aops_nil ?_
        exact ⟨true, (sk [1, 11] [] rfl), (pe h :)⟩
      · refine dp rfl rfl ?_
        iterate 3 refine dp rfl rfl ?_
        refine aops_nil ?_
        exact ⟨(decide (o.Kind < (1 : Int))), (sk [1, 11] [] rfl), (pe h :)⟩

theorem r13_FitLabel_w (l : List PairD) (r : Bool) (h : r13_FitLabel l = some r) : PCall Try.prog 47 [.list (List.map encPairD l)] (.bool r) := by
  replace h : post (r13_FitLabel l) (fun v => v = r) := ⟨_, h, rfl⟩
  unfold r13_FitLabel at h
  refine d_intro Try.func47 rfl (by decide +kernel) (ts := .list (List.map encPairD l) :: un 4) rfl fun B hB => ?_
  refine lc ?_ (by dsimp only [un])
  refine awp_seq ?_
  refine awp_region ?_
  refine dp rfl rfl ?_
  refine aops_nil ?_
  refine awp_seq ?_
  refine awp_region ?_
  refine dp rfl rfl ?_
  obtain ⟨v1, hv1, h⟩ := pb h
  refine dh rfl (head_callp (r02_Fit_w _ _ hv1) rfl rfl rfl rfl) ?_
  refine dp rfl rfl ?_
  refine aops_nil ?_
  refine awp_ret ?_
  obtain rfl := pe h
  exact qfun_ret rfl rfl (Weak.refl _) rfl

theorem slices_Equal_Label_w (s1 : List PairD) (s2 : List PairD) (r : Bool) (h : slices_Equal_Label s1 s2 = some r) : PCall Try.prog 134 [.list (List.map encPairD s1), .list (List.map encPairD s2)] (.bool r) := by
  replace h : post (slices_Equal_Label s1 s2) (fun v => v = r) := ⟨_, h, rfl⟩
  unfold slices_Equal_Label at h
  refine d_intro Try.func134 rfl (by decide +kernel) (ts := .list (List.map encPairD s1) :: .list (List.map encPairD s2) :: un 24) rfl fun B hB => ?_
  refine lc ?_ (by dsimp only [un])
  refine awp_seq ?_
  refine awp_region ?_
  refine dp rfl rfl ?_
  refine aops_nil ?_
  iterate 2 refine awp_seq ?_
  refine awp_region ?_
  refine dp rfl rfl ?_
  refine dh rfl (head_len_map tok rfl rfl rfl rfl) ?_
  refine dp rfl rfl ?_
  refine dh rfl (head_len_map tok rfl rfl rfl rfl) ?_
  refine dp rfl rfl ?_
  refine aops_nil ?_
  refine cc h rfl (fun h => ?_) (fun h => ?_)
  · refine awp_seq ?_
    refine awp_region ?_
    refine dp rfl rfl ?_
    refine aops_nil ?_
    refine awp_ret ?_
    obtain rfl := pe h
    exact qfun_ret rfl rfl (Weak.refl _) rfl
  · refine awp_skip ?_
    iterate 2 refine awp_seq ?_
    refine awp_region ?_
    refine dp rfl rfl ?_
    refine dh rfl (head_len_map tok rfl rfl rfl rfl) ?_
    refine dp rfl rfl ?_
    refine aops_nil ?_
    refine awp_block ?_
    refine cl h (fun x2 => ⟨.list (List.map encPairD s1) :: .list (List.map encPairD s2) :: an 10 (.int .i64 (s1.length : Int) :: .int .i64 x2 :: an 12 []), [], []⟩) (sk [0, 1, 12, 13] [] rfl) (fun rec x2 h => ?_)
    unfold slices_Equal_Label_L0 at h
    refine lc ?_
    refine awp_seq ?_
    refine awp_region ?_
    refine dp rfl rfl ?_
    refine aops_nil ?_
    refine awp_seq ?_
    refine cc h rfl (fun h => ?_) (fun h => ?_)
    · refine awp_skip ?_
      refine awp_seq ?_
      refine awp_block ?_
      refine awp_seq ?_
      refine awp_region ?_
      iterate 2 refine dp rfl rfl ?_
      refine aops_nil ?_
      refine awp_seq ?_
      refine awp_draw 9 mixed (by decide +kernel) ?_
      iterate 2 refine kp rfl rfl ?_
      obtain ⟨x5, hx5, h⟩ := pb h
      refine kh rfl (head_index_map tok hx5 rfl rfl rfl rfl rfl rfl rfl) ?_
      iterate 3 refine kp rfl rfl ?_
      obtain ⟨x6, hx6, h⟩ := pb h
      refine kh rfl (head_index_map tok hx6 rfl rfl rfl rfl rfl rfl rfl) ?_
      refine kp rfl rfl ?_
      refine kh rfl (head_eqs tok eqAll flat1 rfl (.inr ⟨rfl, rfl⟩) rfl rfl (by kernel_rfl) rfl rfl rfl) ?_
      refine .nil ?_
      refine aops_nil ?_
      refine cc h rfl (fun h => ?_) (fun h => ?_)
      · refine awp_seq ?_
        refine awp_region ?_
        refine dp rfl rfl ?_
        refine aops_nil ?_
        replace h := pe h
        refine awp_ret ?_
        obtain rfl := pe h
        exact qfun_ret rfl rfl (Weak.refl _) rfl
      · refine awp_skip ?_
        refine awp_region ?_
        iterate 2 refine dp rfl rfl ?_
        refine aops_nil ?_
        exact ⟨(IntKind.i64.wrap (x2 + (1 : Int))), (sk [0, 1, 12, 13] [] rfl), h⟩
    · refine awp_exit ?_
      replace h := pe h
      refine awp_seq ?_
      refine awp_region ?_
      refine dp rfl rfl ?_
      refine aops_nil ?_
      refine awp_ret ?_
      obtain rfl := pe h
      exact qfun_ret rfl rfl (Weak.refl _) rfl

theorem slices_Equal_u64_w (s1 : List Int) (s2 : List Int) (r : Bool) (h : slices_Equal_u64 s1 s2 = some r) : PCall Try.prog 96 [.list (List.map (encI .u64) s1), .list (List.map (encI .u64) s2)] (.bool r) := by
  replace h : post (slices_Equal_u64 s1 s2) (fun v => v = r) := ⟨_, h, rfl⟩
  unfold slices_Equal_u64 at h
  refine d_intro Try.func96 rfl (by decide +kernel) (ts := .list (List.map (encI .u64) s1) :: .list (List.map (encI .u64) s2) :: un 24) rfl fun B hB => ?_
  refine lc ?_ (by dsimp only [un])
  refine awp_seq ?_
  refine awp_region ?_
  refine dp rfl rfl ?_
  refine aops_nil ?_
  iterate 2 refine awp_seq ?_
  refine awp_region ?_
  refine dp rfl rfl ?_
  refine dh rfl (head_len_map tok rfl rfl rfl rfl) ?_
  refine dp rfl rfl ?_
  refine dh rfl (head_len_map tok rfl rfl rfl rfl) ?_
  refine dp rfl rfl ?_
  refine aops_nil ?_
  refine cc h rfl (fun h => ?_) (fun h => ?_)
  · refine awp_seq ?_
    refine awp_region ?_
    refine dp rfl rfl ?_
    refine aops_nil ?_
    refine awp_ret ?_
    obtain rfl := pe h
    exact qfun_ret rfl rfl (Weak.refl _) rfl
  · refine awp_skip ?_
    iterate 2 refine awp_seq ?_
    refine awp_region ?_
    refine dp rfl rfl ?_
    refine dh rfl (head_len_map tok rfl rfl rfl rfl) ?_
    refine dp rfl rfl ?_
    refine aops_nil ?_
    refine awp_block ?_
    refine cl h (fun x2 => ⟨.list (List.map (encI .u64) s1) :: .list (List.map (encI .u64) s2) :: an 10 (.int .i64 (s1.length : Int) :: .int .i64 x2 :: an 12 []), [], []⟩) (sk [0, 1, 12, 13] [] rfl) (fun rec x2 h => ?_)
    unfold slices_Equal_u64_L0 at h
    refine lc ?_
    refine awp_seq ?_
    refine awp_region ?_
    refine dp rfl rfl ?_
    refine aops_nil ?_
    refine awp_seq ?_
    refine cc h rfl (fun h => ?_) (fun h => ?_)
    · refine awp_skip ?_
      refine awp_seq ?_
      refine awp_block ?_
      refine awp_seq ?_
      refine awp_region ?_
      iterate 2 refine dp rfl rfl ?_
      refine aops_nil ?_
      refine awp_seq ?_
      refine awp_draw 9 mixed (by decide +kernel) ?_
      iterate 2 refine kp rfl rfl ?_
      obtain ⟨x5, hx5, h⟩ := pb h
      refine kh rfl (head_index_map tok hx5 rfl rfl rfl rfl rfl rfl rfl) ?_
      iterate 3 refine kp rfl rfl ?_
      obtain ⟨x6, hx6, h⟩ := pb h
      refine kh rfl (head_index_map tok hx6 rfl rfl rfl rfl rfl rfl rfl) ?_
      iterate 2 refine kp rfl rfl ?_
      refine .nil ?_
      refine aops_nil ?_
      refine cc h rfl (fun h => ?_) (fun h => ?_)
      · refine awp_seq ?_
        refine awp_region ?_
        refine dp rfl rfl ?_
        refine aops_nil ?_
        replace h := pe h
        refine awp_ret ?_
        obtain rfl := pe h
        exact qfun_ret rfl rfl (Weak.refl _) rfl
      · refine awp_skip ?_
        refine awp_region ?_
        iterate 2 refine dp rfl rfl ?_
        refine aops_nil ?_
        exact ⟨(IntKind.i64.wrap (x2 + (1 : Int))), (sk [0, 1, 12, 13] [] rfl), h⟩
    · refine awp_exit ?_
      replace h := pe h
      refine awp_seq ?_
      refine awp_region ?_
      refine dp rfl rfl ?_
      refine aops_nil ?_
      refine awp_ret ?_
      obtain rfl := pe h
      exact qfun_ret rfl rfl (Weak.refl _) rfl

theorem slices_Equal_Map_w (s1 : List MapD) (s2 : List MapD) (r : Bool) (h : slices_Equal_Map s1 s2 = some r) : PCall Try.prog 68 [.list (List.map encMapD s1), .list (List.map encMapD s2)] (.bool r) := by
  replace h : post (slices_Equal_Map s1 s2) (fun v => v = r) := ⟨_, h, rfl⟩
  unfold slices_Equal_Map at h
  refine d_intro Try.func68 rfl (by decide +kernel) (ts := .list (List.map encMapD s1) :: .list (List.map encMapD s2) :: un 24) rfl fun B hB => ?_
  refine lc ?_ (by dsimp only [un])
  refine awp_seq ?_
  refine awp_region ?_
  refine dp rfl rfl ?_
  refine aops_nil ?_
  iterate 2 refine awp_seq ?_
  refine awp_region ?_
  refine dp rfl rfl ?_
  refine dh rfl (head_len_map tok rfl rfl rfl rfl) ?_
  refine dp rfl rfl ?_
  refine dh rfl (head_len_map tok rfl rfl rfl rfl) ?_
  refine dp rfl rfl ?_
  refine aops_nil ?_
  refine cc h rfl (fun h => ?_) (fun h => ?_)
  · refine awp_seq ?_
    refine awp_region ?_
    refine dp rfl rfl ?_
    refine aops_nil ?_
    refine awp_ret ?_
    obtain rfl := pe h
    exact qfun_ret rfl rfl (Weak.refl _) rfl
  · refine awp_skip ?_
    iterate 2 refine awp_seq ?_
    refine awp_region ?_
    refine dp rfl rfl ?_
    refine dh rfl (head_len_map tok rfl rfl rfl rfl) ?_
    refine dp rfl rfl ?_
    refine aops_nil ?_
    refine awp_block ?_
    refine cl h (fun x2 => ⟨.list (List.map encMapD s1) :: .list (List.map encMapD s2) :: an 10 (.int .i64 (s1.length : Int) :: .int .i64 x2 :: an 12 []), [], []⟩) (sk [0, 1, 12, 13] [] rfl) (fun rec x2 h => ?_)
    unfold slices_Equal_Map_L0 at h
    refine lc ?_
    refine awp_seq ?_
    refine awp_region ?_
    refine dp rfl rfl ?_
    refine aops_nil ?_
    refine awp_seq ?_
    refine cc h rfl (fun h => ?_) (fun h => ?_)
    · refine awp_skip ?_
      refine awp_seq ?_
      refine awp_block ?_
      refine awp_seq ?_
      refine awp_region ?_
      iterate 2 refine dp rfl rfl ?_
      refine aops_nil ?_
      refine awp_seq ?_
      refine awp_draw 9 mixed (by decide +kernel) ?_
      iterate 2 refine kp rfl rfl ?_
      obtain ⟨x5, hx5, h⟩ := pb h
      refine kh rfl (head_index_map tok hx5 rfl rfl rfl rfl rfl rfl rfl) ?_
      iterate 3 refine kp rfl rfl ?_
      obtain ⟨x6, hx6, h⟩ := pb h
      refine kh rfl (head_index_map tok hx6 rfl rfl rfl rfl rfl rfl rfl) ?_
      refine kp rfl rfl ?_
      refine kh rfl (head_eqs tok eqAll flat1 rfl (.inr ⟨rfl, rfl⟩) rfl rfl (by kernel_rfl) rfl rfl rfl) ?_
      refine .nil ?_
      refine aops_nil ?_
      refine cc h rfl (fun h => ?_) (fun h => ?_)
      · refine awp_seq ?_
        refine awp_region ?_
        refine dp rfl rfl ?_
        refine aops_nil ?_
        replace h := pe h
        refine awp_ret ?_
        obtain rfl := pe h
        exact qfun_ret rfl rfl (Weak.refl _) rfl
      · refine awp_skip ?_
        refine awp_region ?_
        iterate 2 refine dp rfl rfl ?_
        refine aops_nil ?_
        exact ⟨(IntKind.i64.wrap (x2 + (1 : Int))), (sk [0, 1, 12, 13] [] rfl), h⟩
    · refine awp_exit ?_
      replace h := pe h
      refine awp_seq ?_
      refine awp_region ?_
      refine dp rfl rfl ?_
      refine aops_nil ?_
      refine awp_ret ?_
      obtain rfl := pe h
      exact qfun_ret rfl rfl (Weak.refl _) rfl

theorem label_Same_w (a : List PairD) (b : List PairD) (r : Bool) (h : label_Same a b = some r) : PCall Try.prog 95 [.list (List.map encPairD a), .list (List.map encPairD b)] (.bool r) := by
  replace h : post (label_Same a b) (fun v => v = r) := ⟨_, h, rfl⟩
  unfold label_Same at h
  refine d_intro Try.func95 rfl (by decide +kernel) (ts := .list (List.map encPairD a) :: .list (List.map encPairD b) :: un 6) rfl fun B hB => ?_
  refine lc ?_ (by dsimp only [un])
  refine awp_seq ?_
  refine awp_region ?_
  refine dp rfl rfl ?_
  refine aops_nil ?_
  refine awp_seq ?_
  refine awp_region ?_
  iterate 2 refine dp rfl rfl ?_
  obtain ⟨v1, hv1, h⟩ := pb h
  refine dh rfl (head_callp (slices_Equal_Label_w _ _ _ hv1) rfl rfl rfl rfl) ?_
  refine dp rfl rfl ?_
  refine aops_nil ?_
  refine awp_ret ?_
  obtain rfl := pe h
  exact qfun_ret rfl rfl (Weak.refl _) rfl

theorem pages_Same_w (a : List MapD) (b : List MapD) (r : Bool) (h : pages_Same a b = some r) : PCall Try.prog 16 [.list (List.map encMapD a), .list (List.map encMapD b)] (.bool r) := by
  replace h : post (pages_Same a b) (fun v => v = r) := ⟨_, h, rfl⟩
  unfold pages_Same at h
  refine d_intro Try.func16 rfl (by decide +kernel) (ts := .list (List.map encMapD a) :: .list (List.map encMapD b) :: un 6) rfl fun B hB => ?_
  refine lc ?_ (by dsimp only [un])
  refine awp_seq ?_
  refine awp_region ?_
  refine dp rfl rfl ?_
  refine aops_nil ?_
  refine awp_seq ?_
  refine awp_region ?_
  iterate 2 refine dp rfl rfl ?_
  obtain ⟨v1, hv1, h⟩ := pb h
  refine dh rfl (head_callp (slices_Equal_Map_w _ _ _ hv1) rfl rfl rfl rfl) ?_
  refine dp rfl rfl ?_
  refine aops_nil ?_
  refine awp_ret ?_
  obtain rfl := pe h
  exact qfun_ret rfl rfl (Weak.refl _) rfl

theorem obj_sameThread_w (a : ThreadD) (b : ThreadD) (r : Bool) (h : obj_sameThread a b = some r) : PCall Try.prog 97 [.agg (encThreadD a), .agg (encThreadD b)] (.bool r) := by
  replace h : post (obj_sameThread a b) (fun v => v = r) := ⟨_, h, rfl⟩
  unfold obj_sameThread at h
  refine d_intro Try.func97 rfl (by decide +kernel) (ts := .agg (encThreadD a) :: .agg (encThreadD b) :: un 88) rfl fun B hB => ?_
  refine lc ?_ (by dsimp only [un])
  refine awp_seq ?_
  refine awp_region ?_
  refine dn rfl (hbx (cs := (encThreadD a)) 0 rfl rfl rfl) ?_
  refine dn rfl (hbx (cs := (encThreadD b)) 1 rfl rfl rfl) ?_
  refine dp rfl rfl ?_
  refine aops_nil ?_
  iterate 2 refine awp_seq ?_
  refine awp_region ?_
  refine dp rfl rfl ?_
  refine aops_nil ?_
  refine awp_block ?_
  refine cl h (fun x1 => ⟨an 2 (.ptr 0 0 :: .ptr 1 0 :: an 3 (.int .i64 x1 :: an 82 [])), [some (.var (encThreadD a)), some (.var (encThreadD b))], []⟩) (sk [2, 3, 7] [] rfl) (fun rec x1 h => ?_)
  unfold obj_sameThread_L0 at h
  refine lc ?_
  refine awp_seq ?_
  refine awp_region ?_
  refine dp rfl rfl ?_
  refine aops_nil ?_
  refine awp_seq ?_
  refine cc h rfl (fun h => ?_) (fun h => ?_)
  · refine awp_skip ?_
    refine awp_seq ?_
    refine awp_block ?_
    refine awp_seq ?_
    refine awp_region ?_
    iterate 2 refine dp rfl rfl ?_
    refine aops_nil ?_
    refine awp_seq ?_
    refine awp_draw 10 mixed (by decide +kernel) ?_
    iterate 2 refine kp rfl rfl ?_
    obtain ⟨j4, hj4, h⟩ := pb h
    have j4_lt := inr_lt hj4
    refine kh rfl (head_index_arrn tok hj4 rfl rfl rfl rfl rfl rfl rfl) ?_
    refine kh rfl (head_load_at tok rfl rfl rfl rfl rfl rfl (nat4 (P := fun j4 => (_ : List AV)[31 + j4]? = some (.list (List.map encPairD (Arr4.get a.Labs j4)))) ⟨rfl, rfl, rfl, rfl⟩ j4_lt)) ?_
    iterate 2 refine kp rfl rfl ?_
    obtain ⟨j5, hj5, h⟩ := pb h
    have j5_lt := inr_lt hj5
    refine kh rfl (head_index_arrn tok hj5 rfl rfl rfl rfl rfl rfl rfl) ?_
    refine kh rfl (head_load_at tok rfl rfl rfl rfl rfl rfl (nat4 (P := fun j5 => (_ : List AV)[31 + j5]? = some (.list (List.map encPairD (Arr4.get b.Labs j5)))) ⟨rfl, rfl, rfl, rfl⟩ j5_lt)) ?_
    obtain ⟨v6, hv6, h⟩ := pb h
    refine kh rfl (head_callp (label_Same_w _ _ _ hv6) rfl rfl rfl rfl) ?_
    refine kp rfl rfl ?_
    refine .nil ?_
    refine aops_nil ?_
    refine cc h rfl (fun h => ?_) (fun h => ?_)
    · refine awp_seq ?_
      refine awp_region ?_
      refine dp rfl rfl ?_
      refine aops_nil ?_
      replace h := pe h
      refine awp_ret ?_
      obtain rfl := pe h
      exact qfun_ret rfl rfl (Weak.refl _) rfl
    · refine awp_skip ?_
      refine awp_region ?_
      iterate 2 refine dp rfl rfl ?_
      refine aops_nil ?_
      exact ⟨(IntKind.i64.wrap (x1 + (1 : Int))), (sk [2, 3, 7] [] rfl), h⟩
  · refine awp_exit ?_
    replace h := pe h
    refine cw h (fun x8 => ⟨an 2 (.ptr 0 0 :: .ptr 1 0 :: an 2 (.bool x8 :: an 83 [])), [some (.var (encThreadD a)), some (.var (encThreadD b))], []⟩) (fun x8 h => ?_) (fun h => ?_)
    · refine lc ?_
      refine awp_seq ?_
      refine awp_region ?_
      refine dp rfl rfl ?_
      refine ca h 7 (fun x10 => ⟨an 2 (.ptr 0 0 :: .ptr 1 0 :: an 57 (.bool x10 :: an 28 [])), [some (.var (encThreadD a)), some (.var (encThreadD b))], []⟩) (fun x10 h => ?_) (fun h => ?_)
      · refine lo ?_
        refine ca h 7 (fun x12 => ⟨an 2 (.ptr 0 0 :: .ptr 1 0 :: an 64 (.bool x12 :: an 21 [])), [some (.var (encThreadD a)), some (.var (encThreadD b))], []⟩) (fun x12 h => ?_) (fun h => ?_)
        · refine lo ?_
          refine ca h 7 (fun x14 => ⟨an 2 (.ptr 0 0 :: .ptr 1 0 :: an 71 (.bool x14 :: an 14 [])), [some (.var (encThreadD a)), some (.var (encThreadD b))], []⟩) (fun x14 h => ?_) (fun h => ?_)
          · refine lo ?_
            refine ca h 7 (fun x16 => ⟨an 2 (.ptr 0 0 :: .ptr 1 0 :: an 78 (.bool x16 :: an 7 [])), [some (.var (encThreadD a)), some (.var (encThreadD b))], []⟩) (fun x16 h => ?_) (fun h => ?_)
            · refine lo ?_
              refine di h rfl (hpr rfl) (fun h => ?_) (fun h => ?_)
              · refine dp rfl rfl ?_
                iterate 3 refine dp rfl rfl ?_
                obtain ⟨v18, hv18, h⟩ := pb h
                refine dh rfl (head_callp (slices_Equal_u64_w _ _ _ hv18) rfl rfl rfl rfl) ?_
                iterate 2 refine dp rfl rfl ?_
                refine aops_nil ?_
                refine awp_ret ?_
                obtain rfl := pe h
                exact qfun_ret rfl rfl (Weak.refl _) rfl
              · refine dk rfl ?_
                iterate 4 refine dk rfl ?_
                iterate 2 refine dp rfl rfl ?_
                refine aops_nil ?_
                refine awp_ret ?_
                obtain rfl := pe h
                exact qfun_ret rfl rfl (Weak.refl _) rfl
            · refine di h rfl (hpr rfl) (fun h => ?_) (fun h => ?_)
              · refine dp rfl rfl ?_
                iterate 3 refine dp rfl rfl ?_
                obtain ⟨v19, hv19, h⟩ := pb h
                refine dh rfl (head_callp (label_Same_w _ _ _ hv19) rfl rfl rfl rfl) ?_
                refine dp rfl rfl ?_
                refine aops_nil ?_
                exact ⟨v19, (sk [2, 3, 82] [] rfl), (pe h :)⟩
              · refine dk rfl ?_
                iterate 4 refine dk rfl ?_
                refine dp rfl rfl ?_
                refine aops_nil ?_
                exact ⟨false, (sk [2, 3, 82] [] rfl), (pe h :)⟩
          · refine di h rfl (hpr rfl) (fun h => ?_) (fun h => ?_)
            · refine dp rfl rfl ?_
              iterate 3 refine dp rfl rfl ?_
              refine dh rfl (head_eqs tok eqAll flat1 rfl (.inl ⟨rfl, rfl⟩) rfl rfl (by kernel_rfl) rfl rfl rfl) ?_
              refine dp rfl rfl ?_
              refine aops_nil ?_
              exact ⟨((a.Span.Lo == b.Span.Lo) && ((a.Span.Hi == b.Span.Hi) && true)), (sk [2, 3, 75] [] rfl), (pe h :)⟩
            · refine dk rfl ?_
              iterate 4 refine dk rfl ?_
              refine dp rfl rfl ?_
              refine aops_nil ?_
              exact ⟨false, (sk [2, 3, 75] [] rfl), (pe h :)⟩
        · refine di h rfl (hpr rfl) (fun h => ?_) (fun h => ?_)
          · refine dp rfl rfl ?_
            iterate 3 refine dp rfl rfl ?_
            refine dh rfl (head_eqs tok eqAll flat1 rfl (.inl ⟨rfl, rfl⟩) rfl rfl (by kernel_rfl) rfl rfl rfl) ?_
            refine dp rfl rfl ?_
            refine aops_nil ?_
            exact ⟨(((a.Wait.Ref.Cont == b.Wait.Ref.Cont) && ((a.Wait.Ref.Id == b.Wait.Ref.Id) && true)) && ((a.Wait.Index == b.Wait.Index) && ((a.Wait.Val == b.Wait.Val) && ((a.Wait.Dev == b.Wait.Dev) && true)))), (sk [2, 3, 68] [] rfl), (pe h :)⟩
          · refine dk rfl ?_
            iterate 4 refine dk rfl ?_
            refine dp rfl rfl ?_
            refine aops_nil ?_
            exact ⟨false, (sk [2, 3, 68] [] rfl), (pe h :)⟩
      · refine di h rfl (hpr rfl) (fun h => ?_) (fun h => ?_)
        · refine dp rfl rfl ?_
          iterate 5 refine dp rfl rfl ?_
          refine aops_nil ?_
          exact ⟨(a.State == b.State), (sk [2, 3, 61] [] rfl), (pe h :)⟩
        · refine dk rfl ?_
          iterate 4 refine dk rfl ?_
          refine dp rfl rfl ?_
          refine aops_nil ?_
          exact ⟨false, (sk [2, 3, 61] [] rfl), (pe h :)⟩
    · refine awp_region ?_
      iterate 4 refine dp rfl rfl ?_
      refine dh rfl (head_eqs tok eqAll flat1 rfl (.inl ⟨rfl, rfl⟩) rfl rfl (by kernel_rfl) rfl rfl rfl) ?_
      refine ca h 7 (fun x21 => ⟨an 2 (.ptr 0 0 :: .ptr 1 0 :: an 28 (.bool x21 :: an 57 [])), [some (.var (encThreadD a)), some (.var (encThreadD b))], []⟩) (fun x21 h => ?_) (fun h => ?_)
      · refine lo ?_
        refine ca h 7 (fun x23 => ⟨an 2 (.ptr 0 0 :: .ptr 1 0 :: an 35 (.bool x23 :: an 50 [])), [some (.var (encThreadD a)), some (.var (encThreadD b))], []⟩) (fun x23 h => ?_) (fun h => ?_)
        · refine lo ?_
          refine ca h 7 (fun x25 => ⟨an 2 (.ptr 0 0 :: .ptr 1 0 :: an 42 (.bool x25 :: an 43 [])), [some (.var (encThreadD a)), some (.var (encThreadD b))], []⟩) (fun x25 h => ?_) (fun h => ?_)
          · refine lo ?_
            refine di h rfl (hpr rfl) (fun h => ?_) (fun h => ?_)
            · refine dp rfl rfl ?_
              iterate 6 refine dp rfl rfl ?_
              refine aops_nil ?_
              exact ⟨(a.Vector == b.Vector), (sk [2, 3, 6] [] rfl), (pe h :)⟩
            · refine dk rfl ?_
              iterate 4 refine dk rfl ?_
              iterate 2 refine dp rfl rfl ?_
              refine aops_nil ?_
              exact ⟨false, (sk [2, 3, 6] [] rfl), (pe h :)⟩
          · refine di h rfl (hpr rfl) (fun h => ?_) (fun h => ?_)
            · refine dp rfl rfl ?_
              iterate 5 refine dp rfl rfl ?_
              refine aops_nil ?_
              exact ⟨(a.Handler == b.Handler), (sk [2, 3, 46] [] rfl), (pe h :)⟩
            · refine dk rfl ?_
              iterate 4 refine dk rfl ?_
              refine dp rfl rfl ?_
              refine aops_nil ?_
              exact ⟨false, (sk [2, 3, 46] [] rfl), (pe h :)⟩
        · refine di h rfl (hpr rfl) (fun h => ?_) (fun h => ?_)
          · refine dp rfl rfl ?_
            iterate 3 refine dp rfl rfl ?_
            refine dh rfl (head_eqs tok eqAll flat1 rfl (.inl ⟨rfl, rfl⟩) rfl rfl (by kernel_rfl) rfl rfl rfl) ?_
            refine dp rfl rfl ?_
            refine aops_nil ?_
            exact ⟨((a.Space.Cont == b.Space.Cont) && ((a.Space.Id == b.Space.Id) && true)), (sk [2, 3, 39] [] rfl), (pe h :)⟩
          · refine dk rfl ?_
            iterate 4 refine dk rfl ?_
            refine dp rfl rfl ?_
            refine aops_nil ?_
            exact ⟨false, (sk [2, 3, 39] [] rfl), (pe h :)⟩
      · refine di h rfl (hpr rfl) (fun h => ?_) (fun h => ?_)
        · refine dp rfl rfl ?_
          iterate 5 refine dp rfl rfl ?_
          refine aops_nil ?_
          exact ⟨(a.Pc == b.Pc), (sk [2, 3, 32] [] rfl), (pe h :)⟩
        · refine dk rfl ?_
          iterate 4 refine dk rfl ?_
          refine dp rfl rfl ?_
          refine aops_nil ?_
          exact ⟨false, (sk [2, 3, 32] [] rfl), (pe h :)⟩

theorem obj_sameGate_w (a : GateD) (b : GateD) (r : Bool) (h : obj_sameGate a b = some r) : PCall Try.prog 98 [.agg (encGateD a), .agg (encGateD b)] (.bool r) := by
  replace h : post (obj_sameGate a b) (fun v => v = r) := ⟨_, h, rfl⟩
  unfold obj_sameGate at h
  refine d_intro Try.func98 rfl (by decide +kernel) (ts := .agg (encGateD a) :: .agg (encGateD b) :: un 36) rfl fun B hB => ?_
  refine lc ?_ (by dsimp only [un])
  refine awp_seq ?_
  refine awp_region ?_
  refine dn rfl (hbx (cs := (encGateD a)) 0 rfl rfl rfl) ?_
  refine dn rfl (hbx (cs := (encGateD b)) 1 rfl rfl rfl) ?_
  refine dp rfl rfl ?_
  refine aops_nil ?_
  refine awp_seq ?_
  refine awp_region ?_
  iterate 4 refine dp rfl rfl ?_
  obtain ⟨v1, hv1, h⟩ := pb h
  refine dh rfl (head_callp (label_Same_w _ _ _ hv1) rfl rfl rfl rfl) ?_
  refine ca h 7 (fun x3 => ⟨an 2 (.ptr 0 0 :: .ptr 1 0 :: an 12 (.bool x3 :: an 21 [])), [some (.var (encGateD a)), some (.var (encGateD b))], []⟩) (fun x3 h => ?_) (fun h => ?_)
  · refine lo ?_
    refine ca h 7 (fun x5 => ⟨an 2 (.ptr 0 0 :: .ptr 1 0 :: an 19 (.bool x5 :: an 14 [])), [some (.var (encGateD a)), some (.var (encGateD b))], []⟩) (fun x5 h => ?_) (fun h => ?_)
    · refine lo ?_
      refine ca h 7 (fun x7 => ⟨an 2 (.ptr 0 0 :: .ptr 1 0 :: an 26 (.bool x7 :: an 7 [])), [some (.var (encGateD a)), some (.var (encGateD b))], []⟩) (fun x7 h => ?_) (fun h => ?_)
      · refine lo ?_
        refine di h rfl (hpr rfl) (fun h => ?_) (fun h => ?_)
        · refine dp rfl rfl ?_
          iterate 6 refine dp rfl rfl ?_
          refine aops_nil ?_
          refine awp_ret ?_
          obtain rfl := pe h
          exact qfun_ret rfl rfl (Weak.refl _) rfl
        · refine dk rfl ?_
          iterate 4 refine dk rfl ?_
          iterate 2 refine dp rfl rfl ?_
          refine aops_nil ?_
          refine awp_ret ?_
          obtain rfl := pe h
          exact qfun_ret rfl rfl (Weak.refl _) rfl
      · refine di h rfl (hpr rfl) (fun h => ?_) (fun h => ?_)
        · refine dp rfl rfl ?_
          iterate 5 refine dp rfl rfl ?_
          refine aops_nil ?_
          exact ⟨(a.Pc == b.Pc), (sk [2, 3, 30] [] rfl), (pe h :)⟩
        · refine dk rfl ?_
          iterate 4 refine dk rfl ?_
          refine dp rfl rfl ?_
          refine aops_nil ?_
          exact ⟨false, (sk [2, 3, 30] [] rfl), (pe h :)⟩
    · refine di h rfl (hpr rfl) (fun h => ?_) (fun h => ?_)
      · refine dp rfl rfl ?_
        iterate 3 refine dp rfl rfl ?_
        refine dh rfl (head_eqs tok eqAll flat1 rfl (.inl ⟨rfl, rfl⟩) rfl rfl (by kernel_rfl) rfl rfl rfl) ?_
        refine dp rfl rfl ?_
        refine aops_nil ?_
        exact ⟨((a.Space.Cont == b.Space.Cont) && ((a.Space.Id == b.Space.Id) && true)), (sk [2, 3, 23] [] rfl), (pe h :)⟩
      · refine dk rfl ?_
        iterate 4 refine dk rfl ?_
        refine dp rfl rfl ?_
        refine aops_nil ?_
        exact ⟨false, (sk [2, 3, 23] [] rfl), (pe h :)⟩
  · refine di h rfl (hpr rfl) (fun h => ?_) (fun h => ?_)
    · refine dp rfl rfl ?_
      iterate 3 refine dp rfl rfl ?_
      obtain ⟨v9, hv9, h⟩ := pb h
      refine dh rfl (head_callp (label_Same_w _ _ _ hv9) rfl rfl rfl rfl) ?_
      refine dp rfl rfl ?_
      refine aops_nil ?_
      exact ⟨v9, (sk [2, 3, 16] [] rfl), (pe h :)⟩
    · refine dk rfl ?_
      iterate 4 refine dk rfl ?_
      refine dp rfl rfl ?_
      refine aops_nil ?_
      exact ⟨false, (sk [2, 3, 16] [] rfl), (pe h :)⟩

theorem obj_SameOne_w (a : ObjectD) (b : ObjectD) (r : Bool) (h : obj_SameOne a b = some r) : PCall Try.prog 31 [.agg (encObjectD a), .agg (encObjectD b)] (.bool r) := by
  replace h : post (obj_SameOne a b) (fun v => v = r) := ⟨_, h, rfl⟩
  unfold obj_SameOne at h
  refine d_intro Try.func31 rfl (by decide +kernel) (ts := .agg (encObjectD a) :: .agg (encObjectD b) :: un 89) rfl fun B hB => ?_
  refine lc ?_ (by dsimp only [un])
  refine awp_seq ?_
  refine awp_region ?_
  refine dn rfl (hbx (cs := (encObjectD a)) 0 rfl rfl rfl) ?_
  refine dn rfl (hbx (cs := (encObjectD b)) 1 rfl rfl rfl) ?_
  refine dp rfl rfl ?_
  refine aops_nil ?_
  refine cw h (fun x1 => ⟨an 2 (.ptr 0 0 :: .ptr 1 0 :: an 1 (.bool x1 :: an 85 [])), [some (.var (encObjectD a)), some (.var (encObjectD b))], []⟩) (fun x1 h => ?_) (fun h => ?_)
  · refine lc ?_
    refine cw h (fun x2 => ⟨an 2 (.ptr 0 0 :: .ptr 1 0 :: an 1 (.bool x1 :: .bool x2 :: an 84 [])), [some (.var (encObjectD a)), some (.var (encObjectD b))], []⟩) (fun x2 h => ?_) (fun h => ?_)
    · refine lc ?_
      refine awp_seq ?_
      refine awp_region ?_
      refine dp rfl rfl ?_
      refine ca h 3 (fun x4 => ⟨an 2 (.ptr 0 0 :: .ptr 1 0 :: an 65 (.bool x4 :: an 21 [])), [some (.var (encObjectD a)), some (.var (encObjectD b))], []⟩) (fun x4 h => ?_) (fun h => ?_)
      · refine lo ?_
        refine ca h 7 (fun x6 => ⟨an 2 (.ptr 0 0 :: .ptr 1 0 :: an 72 (.bool x6 :: an 14 [])), [some (.var (encObjectD a)), some (.var (encObjectD b))], []⟩) (fun x6 h => ?_) (fun h => ?_)
        · refine lo ?_
          refine ca h 7 (fun x8 => ⟨an 2 (.ptr 0 0 :: .ptr 1 0 :: an 79 (.bool x8 :: an 7 [])), [some (.var (encObjectD a)), some (.var (encObjectD b))], []⟩) (fun x8 h => ?_) (fun h => ?_)
          · refine lo ?_
            refine di h rfl (hpr rfl) (fun h => ?_) (fun h => ?_)
            · refine dp rfl rfl ?_
              iterate 3 refine dp rfl rfl ?_
              obtain ⟨v10, hv10, h⟩ := pb h
              refine dh rfl (head_callp (obj_sameGate_w _ _ _ hv10) rfl rfl rfl rfl) ?_
              iterate 2 refine dp rfl rfl ?_
              refine aops_nil ?_
              refine awp_ret ?_
              obtain rfl := pe h
              exact qfun_ret rfl rfl (Weak.refl _) rfl
            · refine dk rfl ?_
              iterate 4 refine dk rfl ?_
              iterate 2 refine dp rfl rfl ?_
              refine aops_nil ?_
              refine awp_ret ?_
              obtain rfl := pe h
              exact qfun_ret rfl rfl (Weak.refl _) rfl
          · refine di h rfl (hpr rfl) (fun h => ?_) (fun h => ?_)
            · refine dp rfl rfl ?_
              iterate 3 refine dp rfl rfl ?_
              obtain ⟨v11, hv11, h⟩ := pb h
              refine dh rfl (head_callp (obj_sameThread_w _ _ _ hv11) rfl rfl rfl rfl) ?_
              refine dp rfl rfl ?_
              refine aops_nil ?_
              exact ⟨v11, (sk [2, 3, 83] [] rfl), (pe h :)⟩
            · refine dk rfl ?_
              iterate 4 refine dk rfl ?_
              refine dp rfl rfl ?_
              refine aops_nil ?_
              exact ⟨false, (sk [2, 3, 83] [] rfl), (pe h :)⟩
        · refine di h rfl (hpr rfl) (fun h => ?_) (fun h => ?_)
          · refine dp rfl rfl ?_
            iterate 3 refine dp rfl rfl ?_
            obtain ⟨v12, hv12, h⟩ := pb h
            refine dh rfl (head_callp (pages_Same_w _ _ _ hv12) rfl rfl rfl rfl) ?_
            refine dp rfl rfl ?_
            refine aops_nil ?_
            exact ⟨v12, (sk [2, 3, 76] [] rfl), (pe h :)⟩
          · refine dk rfl ?_
            iterate 4 refine dk rfl ?_
            refine dp rfl rfl ?_
            refine aops_nil ?_
            exact ⟨false, (sk [2, 3, 76] [] rfl), (pe h :)⟩
      · refine di h rfl (hpr rfl) (fun h => ?_) (fun h => ?_)
        · refine dp rfl rfl ?_
          refine dp rfl rfl ?_
          refine aops_nil ?_
          exact ⟨x2, (sk [2, 3, 69] [] rfl), (pe h :)⟩
        · refine dk rfl ?_
          refine dp rfl rfl ?_
          refine aops_nil ?_
          exact ⟨false, (sk [2, 3, 69] [] rfl), (pe h :)⟩
    · refine awp_region ?_
      iterate 4 refine dp rfl rfl ?_
      obtain ⟨v13, hv13, h⟩ := pb h
      refine dh rfl (head_callp (slices_Equal_u64_w _ _ _ hv13) rfl rfl rfl rfl) ?_
      refine ca h 7 (fun x15 => ⟨an 2 (.ptr 0 0 :: .ptr 1 0 :: an 1 (.bool x1 :: an 45 (.bool x15 :: an 39 []))), [some (.var (encObjectD a)), some (.var (encObjectD b))], []⟩) (fun x15 h => ?_) (fun h => ?_)
      · refine lo ?_
        refine ca h 7 (fun x17 => ⟨an 2 (.ptr 0 0 :: .ptr 1 0 :: an 1 (.bool x1 :: an 52 (.bool x17 :: an 32 []))), [some (.var (encObjectD a)), some (.var (encObjectD b))], []⟩) (fun x17 h => ?_) (fun h => ?_)
        · refine lo ?_
          refine di h rfl (hpr rfl) (fun h => ?_) (fun h => ?_)
          · refine dp rfl rfl ?_
            iterate 3 refine dp rfl rfl ?_
            obtain ⟨v19, hv19, h⟩ := pb h
            refine dh rfl (head_callp (slices_Equal_u64_w _ _ _ hv19) rfl rfl rfl rfl) ?_
            iterate 2 refine dp rfl rfl ?_
            refine aops_nil ?_
            exact ⟨v19, (sk [2, 3, 5, 6] [] rfl), (pe h :)⟩
          · refine dk rfl ?_
            iterate 4 refine dk rfl ?_
            iterate 2 refine dp rfl rfl ?_
            refine aops_nil ?_
            exact ⟨false, (sk [2, 3, 5, 6] [] rfl), (pe h :)⟩
        · refine di h rfl (hpr rfl) (fun h => ?_) (fun h => ?_)
          · refine dp rfl rfl ?_
            iterate 3 refine dp rfl rfl ?_
            obtain ⟨v20, hv20, h⟩ := pb h
            refine dh rfl (head_callp (slices_Equal_u64_w _ _ _ hv20) rfl rfl rfl rfl) ?_
            refine dp rfl rfl ?_
            refine aops_nil ?_
            exact ⟨v20, (sk [2, 3, 5, 58] [] rfl), (pe h :)⟩
          · refine dk rfl ?_
            iterate 4 refine dk rfl ?_
            refine dp rfl rfl ?_
            refine aops_nil ?_
            exact ⟨false, (sk [2, 3, 5, 58] [] rfl), (pe h :)⟩
      · refine di h rfl (hpr rfl) (fun h => ?_) (fun h => ?_)
        · refine dp rfl rfl ?_
          iterate 3 refine dp rfl rfl ?_
          obtain ⟨v21, hv21, h⟩ := pb h
          refine dh rfl (head_callp (slices_Equal_u64_w _ _ _ hv21) rfl rfl rfl rfl) ?_
          refine dp rfl rfl ?_
          refine aops_nil ?_
          exact ⟨v21, (sk [2, 3, 5, 51] [] rfl), (pe h :)⟩
        · refine dk rfl ?_
          iterate 4 refine dk rfl ?_
          refine dp rfl rfl ?_
          refine aops_nil ?_
          exact ⟨false, (sk [2, 3, 5, 51] [] rfl), (pe h :)⟩
  · refine awp_region ?_
    iterate 5 refine dp rfl rfl ?_
    refine ca h 7 (fun x23 => ⟨an 2 (.ptr 0 0 :: .ptr 1 0 :: an 14 (.bool x23 :: an 72 [])), [some (.var (encObjectD a)), some (.var (encObjectD b))], []⟩) (fun x23 h => ?_) (fun h => ?_)
    · refine lo ?_
      refine ca h 7 (fun x25 => ⟨an 2 (.ptr 0 0 :: .ptr 1 0 :: an 21 (.bool x25 :: an 65 [])), [some (.var (encObjectD a)), some (.var (encObjectD b))], []⟩) (fun x25 h => ?_) (fun h => ?_)
      · refine lo ?_
        refine ca h 7 (fun x27 => ⟨an 2 (.ptr 0 0 :: .ptr 1 0 :: an 28 (.bool x27 :: an 58 [])), [some (.var (encObjectD a)), some (.var (encObjectD b))], []⟩) (fun x27 h => ?_) (fun h => ?_)
        · refine lo ?_
          refine di h rfl (hpr rfl) (fun h => ?_) (fun h => ?_)
          · refine dp rfl rfl ?_
            iterate 3 refine dp rfl rfl ?_
            obtain ⟨v29, hv29, h⟩ := pb h
            refine dh rfl (head_callp (label_Same_w _ _ _ hv29) rfl rfl rfl rfl) ?_
            iterate 2 refine dp rfl rfl ?_
            refine aops_nil ?_
            exact ⟨v29, (sk [2, 3, 5] [] rfl), (pe h :)⟩
          · refine dk rfl ?_
            iterate 4 refine dk rfl ?_
            iterate 2 refine dp rfl rfl ?_
            refine aops_nil ?_
            exact ⟨false, (sk [2, 3, 5] [] rfl), (pe h :)⟩
        · refine di h rfl (hpr rfl) (fun h => ?_) (fun h => ?_)
          · refine dp rfl rfl ?_
            iterate 5 refine dp rfl rfl ?_
            refine aops_nil ?_
            exact ⟨(a.Fixed == b.Fixed), (sk [2, 3, 32] [] rfl), (pe h :)⟩
          · refine dk rfl ?_
            iterate 4 refine dk rfl ?_
            refine dp rfl rfl ?_
            refine aops_nil ?_
            exact ⟨false, (sk [2, 3, 32] [] rfl), (pe h :)⟩
      · refine di h rfl (hpr rfl) (fun h => ?_) (fun h => ?_)
        · refine dp rfl rfl ?_
          iterate 5 refine dp rfl rfl ?_
          refine aops_nil ?_
          exact ⟨(a.Quota == b.Quota), (sk [2, 3, 25] [] rfl), (pe h :)⟩
        · refine dk rfl ?_
          iterate 4 refine dk rfl ?_
          refine dp rfl rfl ?_
          refine aops_nil ?_
          exact ⟨false, (sk [2, 3, 25] [] rfl), (pe h :)⟩
    · refine di h rfl (hpr rfl) (fun h => ?_) (fun h => ?_)
      · refine dp rfl rfl ?_
        iterate 5 refine dp rfl rfl ?_
        refine aops_nil ?_
        exact ⟨(a.Kind == b.Kind), (sk [2, 3, 18] [] rfl), (pe h :)⟩
      · refine dk rfl ?_
        iterate 4 refine dk rfl ?_
        refine dp rfl rfl ?_
        refine aops_nil ?_
        exact ⟨false, (sk [2, 3, 18] [] rfl), (pe h :)⟩

theorem label_Fit_w (l : List PairD) (r : Bool) (h : label_Fit l = some r) : PCall Try.prog 122 [.list (List.map encPairD l)] (.bool r) := by
  replace h : post (label_Fit l) (fun v => v = r) := ⟨_, h, rfl⟩
  unfold label_Fit at h
  refine d_intro Try.func122 rfl (by decide +kernel) (ts := .list (List.map encPairD l) :: un 36) rfl fun B hB => ?_
  refine lc ?_ (by dsimp only [un])
  refine awp_seq ?_
  refine awp_region ?_
  refine dp rfl rfl ?_
  refine aops_nil ?_
  iterate 2 refine awp_seq ?_
  refine awp_region ?_
  refine dp rfl rfl ?_
  refine dh rfl (head_len_map tok rfl rfl rfl rfl) ?_
  refine dp rfl rfl ?_
  refine aops_nil ?_
  refine awp_block ?_
  refine cl h (fun x1 => ⟨.list (List.map encPairD l) :: an 4 (.list (List.map encPairD l) :: .int .i64 (l.length : Int) :: .int .i64 x1 :: an 29 []), [], []⟩) (sk [0, 5, 6, 7] [] rfl) (fun rec x1 h => ?_)
  unfold label_Fit_L0 at h
  refine lc ?_
  refine awp_seq ?_
  refine awp_region ?_
  refine dp rfl rfl ?_
  refine aops_nil ?_
  refine awp_seq ?_
  refine cc h rfl (fun h => ?_) (fun h => ?_)
  · refine awp_skip ?_
    refine awp_seq ?_
    refine awp_block ?_
    refine awp_seq ?_
    refine awp_region ?_
    refine dp rfl rfl ?_
    obtain ⟨x4, hx4, h⟩ := pb h
    refine dh rfl (head_index_map tok hx4 rfl rfl rfl rfl rfl rfl rfl) ?_
    refine dp rfl rfl ?_
    refine dn rfl (head_alloc tok 0 rfl rfl) ?_
    refine dp rfl rfl ?_
    refine d_store_all tok rfl rfl rfl rfl rfl rfl rfl rfl rfl (by dsimp only [List.set, AV.cellsOf]) (by dsimp only [putL, List.set]) ?_
    refine aops_nil ?_
    refine cw h (fun x5 => ⟨.list (List.map encPairD l) :: an 4 (.list (List.map encPairD l) :: .int .i64 (l.length : Int) :: .int .i64 x1 :: an 27 (.bool x5 :: an 1 [])), [none], []⟩) (fun x5 h => ?_) (fun h => ?_)
    · refine lc ?_
      refine cc h rfl (fun h => ?_) (fun h => ?_)
      · refine awp_seq ?_
        refine awp_region ?_
        refine dp rfl rfl ?_
        refine aops_nil ?_
        replace h := pe h
        refine awp_ret ?_
        obtain rfl := pe h
        exact qfun_ret rfl rfl (Weak.refl _) rfl
      · refine awp_skip ?_
        refine awp_region ?_
        iterate 2 refine dp rfl rfl ?_
        refine aops_nil ?_
        exact ⟨(IntKind.i64.wrap (x1 + (1 : Int))), (SWeak.trans (sk [0, 5, 6, 7] [] rfl) (sweak_cut 0 rfl (ok_of trivial) rfl) (Nat.le_of_ble_eq_true rfl)), h⟩
    · refine awp_draw 24 mixed (by decide +kernel) ?_
      iterate 2 refine kp rfl rfl ?_
      obtain ⟨v7, hv7, h⟩ := pb h
      refine kh rfl (head_callp (level_Fit_w _ _ hv7) rfl rfl rfl rfl) ?_
      refine kp rfl rfl ?_
      refine ki h rfl (hpr rfl) (fun h => ?_) (fun h => ?_)
      · refine kk rfl ?_
        iterate 2 refine kk rfl ?_
        iterate 2 refine kp rfl rfl ?_
        iterate 13 refine kk rfl ?_
        refine kp rfl rfl ?_
        refine .nil ?_
        refine aops_nil ?_
        exact ⟨true, (SWeak.trans (sk [0, 5, 6, 7, 35] [] rfl) (sweak_kill 0 rfl) (Nat.le_of_ble_eq_true rfl)), (pe h :)⟩
      · refine kp rfl rfl ?_
        iterate 3 refine kp rfl rfl ?_
        refine ki h rfl (hpr rfl) (fun h => ?_) (fun h => ?_)
        · refine kk rfl ?_
          iterate 12 refine kk rfl ?_
          refine kp rfl rfl ?_
          refine .nil ?_
          refine aops_nil ?_
          exact ⟨true, (SWeak.trans (sk [0, 5, 6, 7, 35] [] rfl) (sweak_kill 0 rfl) (Nat.le_of_ble_eq_true rfl)), (pe h :)⟩
        · refine kp rfl rfl ?_
          refine kp rfl rfl ?_
          refine ki h rfl (hpr rfl) (fun h => ?_) (fun h => ?_)
          · refine kp rfl rfl ?_
            iterate 2 refine kp rfl rfl ?_
            obtain ⟨x11, hx11, h⟩ := pb h
            refine kh rfl (head_index_map tok hx11 rfl rfl rfl rfl rfl rfl rfl) ?_
            iterate 7 refine kp rfl rfl ?_
            refine .nil ?_
            refine aops_nil ?_
            exact ⟨(decide (x11.Cat ≥ x4.Cat)), (SWeak.trans (sk [0, 5, 6, 7, 35] [] rfl) (sweak_kill 0 rfl) (Nat.le_of_ble_eq_true rfl)), (pe h :)⟩
          · refine kk rfl ?_
            iterate 8 refine kk rfl ?_
            iterate 2 refine kp rfl rfl ?_
            refine .nil ?_
            refine aops_nil ?_
            exact ⟨false, (SWeak.trans (sk [0, 5, 6, 7, 35] [] rfl) (sweak_kill 0 rfl) (Nat.le_of_ble_eq_true rfl)), (pe h :)⟩
  · refine awp_exit ?_
    replace h := pe h
    refine awp_seq ?_
    refine awp_region ?_
    refine dp rfl rfl ?_
    refine aops_nil ?_
    refine awp_ret ?_
    obtain rfl := pe h
    exact qfun_ret rfl rfl (Weak.refl _) rfl

theorem obj_kept_w (l : List PairD) (r : Bool) (h : obj_kept l = some r) : PCall Try.prog 80 [.list (List.map encPairD l)] (.bool r) := by
  replace h : post (obj_kept l) (fun v => v = r) := ⟨_, h, rfl⟩
  unfold obj_kept at h
  refine d_intro Try.func80 rfl (by decide +kernel) (ts := .list (List.map encPairD l) :: un 16) rfl fun B hB => ?_
  refine lc ?_ (by dsimp only [un])
  refine awp_seq ?_
  refine awp_region ?_
  refine dp rfl rfl ?_
  refine aops_nil ?_
  refine awp_seq ?_
  refine awp_region ?_
  refine dp rfl rfl ?_
  refine aops_nil ?_
  refine awp_seq ?_
  refine awp_region ?_
  refine dp rfl rfl ?_
  obtain ⟨v1, hv1, h⟩ := pb h
  refine dh rfl (head_callp (label_Fit_w _ _ hv1) rfl rfl rfl rfl) ?_
  refine ca h 5 (fun x3 => ⟨.list (List.map encPairD l) :: an 2 (.fn 121 [] [] :: an 6 (.bool x3 :: an 6 [])), [], []⟩) (fun x3 h => ?_) (fun h => ?_)
  · refine lo ?_
    refine di h rfl (hpr rfl) (fun h => ?_) (fun h => ?_)
    · refine dp rfl rfl ?_
      refine dp rfl rfl ?_
      refine d_callK rfl rfl rfl rfl ?_
      refine d_introK Try.func123 rfl (by decide +kernel) (ts := [.list (List.map encPairD l), .fn 121 [] [], .undef, .undef, .undef, .undef, .undef, .undef, .undef]) rfl fun B1 hB1 => ?_
      refine awp_seq ?_
      refine awp_region ?_
      refine dp rfl rfl ?_
      refine aops_nil ?_
      refine awp_seq ?_
      refine awp_region ?_
      iterate 2 refine dp rfl rfl ?_
      refine d_callK rfl rfl rfl rfl ?_
      refine acallK_cut (α := Int) id h (fun x5 => .int .i64 x5) (fun x5 => []) (fun x5 h => ?_) (fun h => ?_)
      · refine d_after (by dsimp only [putL, List.set]) ?_
        iterate 2 refine dp rfl rfl ?_
        refine aops_nil ?_
        refine awp_ret ?_
        refine (qfunK_ret (r := .bool (decide (x5 ≥ (0 : Int)))) rfl rfl (weak_eq rfl) ?_)
        refine d_after (by dsimp only [putL, List.set]) ?_
        iterate 3 refine dp rfl rfl ?_
        refine aops_nil ?_
        refine awp_ret ?_
        obtain rfl := pe h
        exact qfun_ret rfl rfl (Weak.refl _) rfl
      · refine d_introK Try.func151 rfl (by decide +kernel) (ts := [.list (List.map encPairD l), .fn 121 [] [], .undef, .undef, .undef, .undef, .undef, .undef, .undef, .undef, .undef, .undef, .undef, .undef, .undef, .undef, .undef, .undef, .undef]) rfl fun B2 hB2 => ?_
        refine awp_seq ?_
        refine awp_region ?_
        refine dp rfl rfl ?_
        refine aops_nil ?_
        iterate 2 refine awp_seq ?_
        refine awp_region ?_
        refine dp rfl rfl ?_
        refine dh rfl (head_len_map tok rfl rfl rfl rfl) ?_
        refine dp rfl rfl ?_
        refine aops_nil ?_
        refine awp_block ?_
        refine cl h (fun x6 => ⟨.list (List.map encPairD l) :: .fn 121 [] [] :: an 5 (.int .i64 (l.length : Int) :: .int .i64 x6 :: an 10 []), [], []⟩) (sk [0, 1, 7, 8] [] rfl) (fun rec x6 h => ?_)
        unfold obj_kept_L0 at h
        refine lc ?_
        refine awp_seq ?_
        refine awp_region ?_
        refine dp rfl rfl ?_
        refine aops_nil ?_
        refine awp_seq ?_
        refine cc h rfl (fun h => ?_) (fun h => ?_)
        · refine awp_skip ?_
          refine awp_seq ?_
          refine awp_block ?_
          refine awp_seq ?_
          refine awp_region ?_
          iterate 2 refine dp rfl rfl ?_
          refine aops_nil ?_
          refine awp_seq ?_
          refine awp_region ?_
          iterate 3 refine dp rfl rfl ?_
          obtain ⟨x9, hx9, h⟩ := pb h
          refine dh rfl (head_index_map tok hx9 rfl rfl rfl rfl rfl rfl rfl) ?_
          refine dp rfl rfl ?_
          refine d_callK rfl rfl rfl rfl ?_
          refine d_introK Try.func121 rfl (by decide +kernel) (ts := [.agg [.int .u64 x9.Cat, .int .i64 x9.Lev], .undef, .undef, .undef, .undef, .undef]) rfl fun B3 hB3 => ?_
          refine awp_seq ?_
          refine awp_region ?_
          refine dn rfl (hbx (cs := (encPairD x9)) 0 rfl rfl rfl) ?_
          refine dp rfl rfl ?_
          refine aops_nil ?_
          refine awp_seq ?_
          refine awp_region ?_
          iterate 4 refine dp rfl rfl ?_
          refine aops_nil ?_
          refine awp_ret ?_
          refine (qfunK_ret (r := .bool (x9.Lev == (5 : Int))) rfl rfl (weak_eq rfl) ?_)
          refine d_after (by dsimp only [putL, List.set]) ?_
          refine aops_nil ?_
          refine cc h rfl (fun h => ?_) (fun h => ?_)
          · refine awp_seq ?_
            refine awp_region ?_
            iterate 2 refine dp rfl rfl ?_
            refine aops_nil ?_
            replace h := pe h
            let y7ret : Int := x6
            refine tc [4] 0 ?_ rfl rfl (ok_of trivial) rfl
            refine awp_ret ?_
            repeat (first | with_reducible refine ib_ret ?_ | with_reducible refine at_ret ?_)
            exact (qfunK_ret rfl rfl (weak_eq rfl) (.inl ⟨y7ret, rfl, rfl, (pe h :)⟩))
          · refine awp_skip ?_
            refine awp_region ?_
            iterate 2 refine dp rfl rfl ?_
            refine aops_nil ?_
            exact ⟨(IntKind.i64.wrap (x6 + (1 : Int))), (SWeak.trans (sk [0, 1, 7, 8] [] rfl) (sweak_cut 0 rfl (ok_of trivial) rfl) (Nat.le_of_ble_eq_true rfl)), h⟩
        · refine awp_exit ?_
          replace h := pe h
          refine awp_seq ?_
          refine awp_region ?_
          refine dp rfl rfl ?_
          refine aops_nil ?_
          refine awp_ret ?_
          repeat (first | with_reducible refine ib_ret ?_ | with_reducible refine at_ret ?_)
          exact (qfunK_ret rfl rfl (weak_eq rfl) (.inl ⟨(-1 : Int), rfl, rfl, (pe h :)⟩))
    · refine dk rfl ?_
      iterate 3 refine dk rfl ?_
      iterate 2 refine dp rfl rfl ?_
      refine aops_nil ?_
      refine awp_ret ?_
      obtain rfl := pe h
      exact qfun_ret rfl rfl (Weak.refl _) rfl
  · refine di h rfl (hpr rfl) (fun h => ?_) (fun h => ?_)
    · refine dp rfl rfl ?_
      refine dh rfl (head_len_map tok rfl rfl rfl rfl) ?_
      iterate 2 refine dp rfl rfl ?_
      refine aops_nil ?_
      exact ⟨(decide ((l.length : Int) ≤ (16 : Int))), (sk [0, 3, 10] [] rfl), (pe h :)⟩
    · refine dk rfl ?_
      iterate 2 refine dk rfl ?_
      refine dp rfl rfl ?_
      refine aops_nil ?_
      exact ⟨false, (sk [0, 3, 10] [] rfl), (pe h :)⟩

theorem label_Owned_w (l : List PairD) (r : List Int) (h : label_Owned l = some r) : PCall Try.prog 81 [.list (List.map encPairD l)] (.list (List.map (encI .u64) r)) := by
  replace h : post (label_Owned l) (fun v => v = r) := ⟨_, h, rfl⟩
  unfold label_Owned at h
  refine d_intro Try.func81 rfl (by decide +kernel) (ts := .list (List.map encPairD l) :: un 21) rfl fun B hB => ?_
  refine lc ?_ (by dsimp only [un])
  refine awp_seq ?_
  refine awp_region ?_
  refine dp rfl rfl ?_
  refine aops_nil ?_
  refine awp_seq ?_
  refine awp_region ?_
  refine dp rfl rfl ?_
  refine aops_nil ?_
  iterate 2 refine awp_seq ?_
  refine awp_region ?_
  refine dp rfl rfl ?_
  refine dh rfl (head_len_map tok rfl rfl rfl rfl) ?_
  refine dp rfl rfl ?_
  refine aops_nil ?_
  refine awp_block ?_
  refine oc 3 1 23 rfl ?_
  refine cl h (fun x1 => ⟨an 3 (.own 0 (List.map (encI .u64) x1.2).length :: an 2 (.list (List.map encPairD l) :: .int .i64 (l.length : Int) :: .int .i64 x1.1 :: an 13 [])), [some (.row (List.map (encI .u64) x1.2) 1 23)], []⟩) (sk [3, 6, 7, 8] [] rfl) (fun rec x1 h => ?_)
  unfold label_Owned_L0 at h
  refine lc ?_
  refine awp_seq ?_
  refine awp_region ?_
  refine dp rfl rfl ?_
  refine aops_nil ?_
  refine awp_seq ?_
  refine cc h rfl (fun h => ?_) (fun h => ?_)
  · refine awp_skip ?_
    refine cw h (fun x4 => ⟨an 3 (.own 0 (List.map (encI .u64) x4).length :: an 2 (.list (List.map encPairD l) :: .int .i64 (l.length : Int) :: .int .i64 x1.1 :: an 13 [])), [some (.row (List.map (encI .u64) x4) 1 23), none], []⟩) (fun x4 h => ?_) (fun h => ?_)
    · refine lc ?_
      refine awp_region ?_
      iterate 2 refine dp rfl rfl ?_
      refine aops_nil ?_
      exact ⟨((IntKind.i64.wrap (x1.1 + (1 : Int))), x4), (SWeak.trans (sk [3, 6, 7, 8] [] rfl) (sweak_cut 1 rfl (ok_of ⟨flat_under (fun _ => rfl) _ _, trivial⟩) rfl) (Nat.le_of_ble_eq_true rfl)), h⟩
    · refine awp_block ?_
      refine awp_seq ?_
      refine awp_region ?_
      obtain ⟨x5, hx5, h⟩ := pb h
      refine dh rfl (head_index_map tok hx5 rfl rfl rfl rfl rfl rfl rfl) ?_
      refine dp rfl rfl ?_
      refine dn rfl (head_alloc tok 1 rfl rfl) ?_
      refine d_store_all tok rfl rfl rfl rfl rfl rfl rfl rfl rfl (by dsimp only [List.set, AV.cellsOf]) (by dsimp only [putL, List.set]) ?_
      refine aops_nil ?_
      refine awp_seq ?_
      refine awp_region ?_
      iterate 3 refine dp rfl rfl ?_
      refine aops_nil ?_
      refine cc h rfl (fun h => ?_) (fun h => ?_)
      · refine awp_region ?_
        iterate 3 refine dp rfl rfl ?_
        refine dn rfl (head_bslice (row := (List.map (encI .u64) [x5.Cat])) tok 2 rfl rfl rfl rfl rfl rfl rfl rfl rfl) ?_
        obtain ⟨x7, hx7, h⟩ := pb h
        refine d_append_map tok hx7 rfl rfl rfl rfl rfl rfl rfl rfl rfl (fun _ => rfl) (fun _ => rfl) (by dsimp only [List.set, AV.cellsOf]) (by dsimp only [putL, List.set]) ?_
        refine dp rfl rfl ?_
        refine aops_nil ?_
        exact ⟨x7, (SWeak.trans (SWeak.trans (sk [3, 6, 7, 8] [] rfl) (sweak_cut 2 rfl (ok_of ⟨flat_under (fun _ => rfl) _ _, ⟨rfl, trivial⟩⟩) rfl) (Nat.le_of_ble_eq_true rfl)) (sweak_kill 1 rfl) (Nat.le_of_ble_eq_true rfl)), (pe h :)⟩
      · refine awp_skip ?_
        exact ⟨x1.2, (SWeak.trans (sk [3, 6, 7, 8] [] rfl) (sweak_kill 1 rfl) (Nat.le_of_ble_eq_true rfl)), (pe h :)⟩
  · refine awp_exit ?_
    replace h := pe h
    let y2exit0 : List Int := x1.2
    refine awp_seq ?_
    refine awp_region ?_
    iterate 2 refine dp rfl rfl ?_
    refine aops_nil ?_
    refine fc 2 0 1 rfl rfl (fun _ => rfl) ?_
    refine awp_ret ?_
    obtain rfl := pe h
    exact qfun_ret rfl rfl (Weak.refl _) rfl

theorem obj_bare_w (o : ObjectD) (r : ObjectD) (h : obj_bare o = some r) : PCall Try.prog 82 [.agg (encObjectD o)] (.agg (encObjectD r)) := by
  replace h : post (obj_bare o) (fun v => v = r) := ⟨_, h, rfl⟩
  unfold obj_bare at h
  refine d_intro Try.func82 rfl (by decide +kernel) (ts := .agg (encObjectD o) :: un 26) rfl fun B hB => ?_
  refine lc ?_ (by dsimp only [un])
  refine awp_seq ?_
  refine awp_region ?_
  refine dn rfl (hbx (cs := (encObjectD o)) 0 rfl rfl rfl) ?_
  refine dn rfl (head_alloc tok 1 rfl rfl) ?_
  refine aops_nil ?_
  iterate 2 refine awp_seq ?_
  refine awp_region ?_
  iterate 2 refine dp rfl rfl ?_
  refine aops_nil ?_
  refine awp_block ?_
  refine awp_seq ?_
  refine awp_region ?_
  iterate 2 refine dp rfl rfl ?_
  refine aops_nil ?_
  refine cc h rfl (fun h => ?_) (fun h => ?_)
  · refine awp_region ?_
    refine dp rfl rfl ?_
    refine d_store (cs' := [.int .u64 o.Id, .int .i64 o.Kind, .list (List.map encPairD o.Label), .int .i64 o.Quota, .bool o.Fixed, .list (List.map (encI .u64) o.Links), .nilsl, .list (List.map encMapD o.Maps), .int .u64 o.Thread.Regs.e0, .int .u64 o.Thread.Regs.e1, .int .u64 o.Thread.Regs.e2, .int .u64 o.Thread.Regs.e3, .int .u64 o.Thread.Regs.e4, .int .u64 o.Thread.Regs.e5, .int .u64 o.Thread.Regs.e6, .int .u64 o.Thread.Regs.e7, .int .u64 o.Thread.Regs.e8, .int .u64 o.Thread.Regs.e9, .int .u64 o.Thread.Regs.e10, .int .u64 o.Thread.Regs.e11, .int .u64 o.Thread.Regs.e12, .int .u64 o.Thread.Regs.e13, .int .u64 o.Thread.Regs.e14, .int .u64 o.Thread.Regs.e15, .int .u64 o.Thread.Pc, .list (List.map encPairD o.Thread.Clear), .int .u64 o.Thread.Space.Cont, .int .u64 o.Thread.Space.Id, .int .u64 o.Thread.Handler, .int .u64 o.Thread.Vector, .int .i64 o.Thread.State, .int .u64 o.Thread.Wait.Ref.Cont, .int .u64 o.Thread.Wait.Ref.Id, .int .u64 o.Thread.Wait.Index, .int .u64 o.Thread.Wait.Val, .bool o.Thread.Wait.Dev, .list (List.map (encI .u64) o.Thread.Alerts), .int .u64 o.Thread.Span.Lo, .int .u64 o.Thread.Span.Hi, .list (List.map encPairD o.Thread.Labs.e0), .list (List.map encPairD o.Thread.Labs.e1), .list (List.map encPairD o.Thread.Labs.e2), .list (List.map encPairD o.Thread.Labs.e3), .list (List.map encPairD o.Gate.Grant), .list (List.map encPairD o.Gate.Clear), .int .u64 o.Gate.Space.Cont, .int .u64 o.Gate.Space.Id, .int .u64 o.Gate.Pc, .int .u64 o.Gate.Arg, .list (List.map (encI .u64) o.In), .list (List.map (encI .u64) o.Out)]) tok rfl rfl rfl rfl rfl rfl rfl rfl rfl rfl (by dsimp only [List.set, AV.cellsOf]) (by dsimp only [putL, List.set]) ?_
    refine d_nrm 0 (cs' := (encObjectD ({ o with Data := [] } : ObjectD))) rfl rfl (by dsimp only [List.set, AV.cellsOf]) ?_
    refine aops_nil ?_
    refine awp_seq ?_
    refine awp_region ?_
    refine dp rfl rfl ?_
    refine d_store_all tok rfl rfl rfl rfl rfl rfl rfl rfl rfl (by dsimp only [List.set, AV.cellsOf]) (by dsimp only [putL, List.set]) ?_
    refine aops_nil ?_
    refine awp_ret ?_
    obtain rfl := pe h
    exact qfun_ret_of rfl (ares_cell1 tok rfl rfl rfl rfl) (Weak.refl _) rfl
  · refine awp_seq ?_
    refine awp_region ?_
    iterate 2 refine dp rfl rfl ?_
    refine aops_nil ?_
    refine cc h rfl (fun h => ?_) (fun h => ?_)
    · refine awp_region ?_
      refine dp rfl rfl ?_
      refine d_store (cs' := [.int .u64 o.Id, .int .i64 o.Kind, .list (List.map encPairD o.Label), .int .i64 o.Quota, .bool o.Fixed, .nilsl, .list (List.map (encI .u64) o.Data), .list (List.map encMapD o.Maps), .int .u64 o.Thread.Regs.e0, .int .u64 o.Thread.Regs.e1, .int .u64 o.Thread.Regs.e2, .int .u64 o.Thread.Regs.e3, .int .u64 o.Thread.Regs.e4, .int .u64 o.Thread.Regs.e5, .int .u64 o.Thread.Regs.e6, .int .u64 o.Thread.Regs.e7, .int .u64 o.Thread.Regs.e8, .int .u64 o.Thread.Regs.e9, .int .u64 o.Thread.Regs.e10, .int .u64 o.Thread.Regs.e11, .int .u64 o.Thread.Regs.e12, .int .u64 o.Thread.Regs.e13, .int .u64 o.Thread.Regs.e14, .int .u64 o.Thread.Regs.e15, .int .u64 o.Thread.Pc, .list (List.map encPairD o.Thread.Clear), .int .u64 o.Thread.Space.Cont, .int .u64 o.Thread.Space.Id, .int .u64 o.Thread.Handler, .int .u64 o.Thread.Vector, .int .i64 o.Thread.State, .int .u64 o.Thread.Wait.Ref.Cont, .int .u64 o.Thread.Wait.Ref.Id, .int .u64 o.Thread.Wait.Index, .int .u64 o.Thread.Wait.Val, .bool o.Thread.Wait.Dev, .list (List.map (encI .u64) o.Thread.Alerts), .int .u64 o.Thread.Span.Lo, .int .u64 o.Thread.Span.Hi, .list (List.map encPairD o.Thread.Labs.e0), .list (List.map encPairD o.Thread.Labs.e1), .list (List.map encPairD o.Thread.Labs.e2), .list (List.map encPairD o.Thread.Labs.e3), .list (List.map encPairD o.Gate.Grant), .list (List.map encPairD o.Gate.Clear), .int .u64 o.Gate.Space.Cont, .int .u64 o.Gate.Space.Id, .int .u64 o.Gate.Pc, .int .u64 o.Gate.Arg, .list (List.map (encI .u64) o.In), .list (List.map (encI .u64) o.Out)]) tok rfl rfl rfl rfl rfl rfl rfl rfl rfl rfl (by dsimp only [List.set, AV.cellsOf]) (by dsimp only [putL, List.set]) ?_
      refine d_nrm 0 (cs' := (encObjectD ({ o with Links := [] } : ObjectD))) rfl rfl (by dsimp only [List.set, AV.cellsOf]) ?_
      refine aops_nil ?_
      refine awp_seq ?_
      refine awp_region ?_
      refine dp rfl rfl ?_
      refine d_store_all tok rfl rfl rfl rfl rfl rfl rfl rfl rfl (by dsimp only [List.set, AV.cellsOf]) (by dsimp only [putL, List.set]) ?_
      refine aops_nil ?_
      refine awp_ret ?_
      obtain rfl := pe h
      exact qfun_ret_of rfl (ares_cell1 tok rfl rfl rfl rfl) (Weak.refl _) rfl
    · refine awp_seq ?_
      refine awp_region ?_
      iterate 2 refine dp rfl rfl ?_
      refine aops_nil ?_
      refine cc h rfl (fun h => ?_) (fun h => ?_)
      · refine awp_region ?_
        refine dp rfl rfl ?_
        refine d_store (cs' := [.int .u64 o.Id, .int .i64 o.Kind, .list (List.map encPairD o.Label), .int .i64 o.Quota, .bool o.Fixed, .list (List.map (encI .u64) o.Links), .list (List.map (encI .u64) o.Data), .nilsl, .int .u64 o.Thread.Regs.e0, .int .u64 o.Thread.Regs.e1, .int .u64 o.Thread.Regs.e2, .int .u64 o.Thread.Regs.e3, .int .u64 o.Thread.Regs.e4, .int .u64 o.Thread.Regs.e5, .int .u64 o.Thread.Regs.e6, .int .u64 o.Thread.Regs.e7, .int .u64 o.Thread.Regs.e8, .int .u64 o.Thread.Regs.e9, .int .u64 o.Thread.Regs.e10, .int .u64 o.Thread.Regs.e11, .int .u64 o.Thread.Regs.e12, .int .u64 o.Thread.Regs.e13, .int .u64 o.Thread.Regs.e14, .int .u64 o.Thread.Regs.e15, .int .u64 o.Thread.Pc, .list (List.map encPairD o.Thread.Clear), .int .u64 o.Thread.Space.Cont, .int .u64 o.Thread.Space.Id, .int .u64 o.Thread.Handler, .int .u64 o.Thread.Vector, .int .i64 o.Thread.State, .int .u64 o.Thread.Wait.Ref.Cont, .int .u64 o.Thread.Wait.Ref.Id, .int .u64 o.Thread.Wait.Index, .int .u64 o.Thread.Wait.Val, .bool o.Thread.Wait.Dev, .list (List.map (encI .u64) o.Thread.Alerts), .int .u64 o.Thread.Span.Lo, .int .u64 o.Thread.Span.Hi, .list (List.map encPairD o.Thread.Labs.e0), .list (List.map encPairD o.Thread.Labs.e1), .list (List.map encPairD o.Thread.Labs.e2), .list (List.map encPairD o.Thread.Labs.e3), .list (List.map encPairD o.Gate.Grant), .list (List.map encPairD o.Gate.Clear), .int .u64 o.Gate.Space.Cont, .int .u64 o.Gate.Space.Id, .int .u64 o.Gate.Pc, .int .u64 o.Gate.Arg, .list (List.map (encI .u64) o.In), .list (List.map (encI .u64) o.Out)]) tok rfl rfl rfl rfl rfl rfl rfl rfl rfl rfl (by dsimp only [List.set, AV.cellsOf]) (by dsimp only [putL, List.set]) ?_
        refine d_nrm 0 (cs' := (encObjectD ({ o with Maps := [] } : ObjectD))) rfl rfl (by dsimp only [List.set, AV.cellsOf]) ?_
        refine aops_nil ?_
        refine awp_seq ?_
        refine awp_region ?_
        refine dp rfl rfl ?_
        refine d_store_all tok rfl rfl rfl rfl rfl rfl rfl rfl rfl (by dsimp only [List.set, AV.cellsOf]) (by dsimp only [putL, List.set]) ?_
        refine aops_nil ?_
        refine awp_ret ?_
        obtain rfl := pe h
        exact qfun_ret_of rfl (ares_cell1 tok rfl rfl rfl rfl) (Weak.refl _) rfl
      · refine awp_seq ?_
        refine awp_region ?_
        iterate 2 refine dp rfl rfl ?_
        refine aops_nil ?_
        refine cc h rfl (fun h => ?_) (fun h => ?_)
        · refine awp_region ?_
          refine dh rfl (head_build (r := (encThreadD ThreadD.zero)) tok rfl rfl rfl rfl rfl rfl) ?_
          refine dp rfl rfl ?_
          refine d_store (cs' := (encObjectD ({ o with Thread := ThreadD.zero } : ObjectD))) tok rfl rfl rfl rfl rfl rfl rfl rfl rfl rfl (by dsimp only [List.set, AV.cellsOf]) (by dsimp only [putL, List.set]) ?_
          refine aops_nil ?_
          refine awp_seq ?_
          refine awp_region ?_
          refine dp rfl rfl ?_
          refine d_store_all tok rfl rfl rfl rfl rfl rfl rfl rfl rfl (by dsimp only [List.set, AV.cellsOf]) (by dsimp only [putL, List.set]) ?_
          refine aops_nil ?_
          refine awp_ret ?_
          obtain rfl := pe h
          exact qfun_ret_of rfl (ares_cell1 tok rfl rfl rfl rfl) (Weak.refl _) rfl
        · refine awp_seq ?_
          refine awp_region ?_
          iterate 2 refine dp rfl rfl ?_
          refine aops_nil ?_
          refine cc h rfl (fun h => ?_) (fun h => ?_)
          · refine awp_region ?_
            refine dh rfl (head_build (r := (encGateD GateD.zero)) tok rfl rfl rfl rfl rfl rfl) ?_
            refine dp rfl rfl ?_
            refine d_store (cs' := (encObjectD ({ o with Gate := GateD.zero } : ObjectD))) tok rfl rfl rfl rfl rfl rfl rfl rfl rfl rfl (by dsimp only [List.set, AV.cellsOf]) (by dsimp only [putL, List.set]) ?_
            refine aops_nil ?_
            refine awp_seq ?_
            refine awp_region ?_
            refine dp rfl rfl ?_
            refine d_store_all tok rfl rfl rfl rfl rfl rfl rfl rfl rfl (by dsimp only [List.set, AV.cellsOf]) (by dsimp only [putL, List.set]) ?_
            refine aops_nil ?_
            refine awp_ret ?_
            obtain rfl := pe h
            exact qfun_ret_of rfl (ares_cell1 tok rfl rfl rfl rfl) (Weak.refl _) rfl
          · refine awp_seq ?_
            refine awp_region ?_
            iterate 2 refine dp rfl rfl ?_
            refine aops_nil ?_
            refine cc h rfl (fun h => ?_) (fun h => ?_)
            · refine awp_region ?_
              refine dp rfl rfl ?_
              refine d_store (cs' := [.int .u64 o.Id, .int .i64 o.Kind, .list (List.map encPairD o.Label), .int .i64 o.Quota, .bool o.Fixed, .list (List.map (encI .u64) o.Links), .list (List.map (encI .u64) o.Data), .list (List.map encMapD o.Maps), .int .u64 o.Thread.Regs.e0, .int .u64 o.Thread.Regs.e1, .int .u64 o.Thread.Regs.e2, .int .u64 o.Thread.Regs.e3, .int .u64 o.Thread.Regs.e4, .int .u64 o.Thread.Regs.e5, .int .u64 o.Thread.Regs.e6, .int .u64 o.Thread.Regs.e7, .int .u64 o.Thread.Regs.e8, .int .u64 o.Thread.Regs.e9, .int .u64 o.Thread.Regs.e10, .int .u64 o.Thread.Regs.e11, .int .u64 o.Thread.Regs.e12, .int .u64 o.Thread.Regs.e13, .int .u64 o.Thread.Regs.e14, .int .u64 o.Thread.Regs.e15, .int .u64 o.Thread.Pc, .list (List.map encPairD o.Thread.Clear), .int .u64 o.Thread.Space.Cont, .int .u64 o.Thread.Space.Id, .int .u64 o.Thread.Handler, .int .u64 o.Thread.Vector, .int .i64 o.Thread.State, .int .u64 o.Thread.Wait.Ref.Cont, .int .u64 o.Thread.Wait.Ref.Id, .int .u64 o.Thread.Wait.Index, .int .u64 o.Thread.Wait.Val, .bool o.Thread.Wait.Dev, .list (List.map (encI .u64) o.Thread.Alerts), .int .u64 o.Thread.Span.Lo, .int .u64 o.Thread.Span.Hi, .list (List.map encPairD o.Thread.Labs.e0), .list (List.map encPairD o.Thread.Labs.e1), .list (List.map encPairD o.Thread.Labs.e2), .list (List.map encPairD o.Thread.Labs.e3), .list (List.map encPairD o.Gate.Grant), .list (List.map encPairD o.Gate.Clear), .int .u64 o.Gate.Space.Cont, .int .u64 o.Gate.Space.Id, .int .u64 o.Gate.Pc, .int .u64 o.Gate.Arg, .nilsl, .list (List.map (encI .u64) o.Out)]) tok rfl rfl rfl rfl rfl rfl rfl rfl rfl rfl (by dsimp only [List.set, AV.cellsOf]) (by dsimp only [putL, List.set]) ?_
              refine d_nrm 0 (cs' := (encObjectD ({ o with In := [] } : ObjectD))) rfl rfl (by dsimp only [List.set, AV.cellsOf]) ?_
              refine dp rfl rfl ?_
              refine d_store (cs' := [.int .u64 o.Id, .int .i64 o.Kind, .list (List.map encPairD o.Label), .int .i64 o.Quota, .bool o.Fixed, .list (List.map (encI .u64) o.Links), .list (List.map (encI .u64) o.Data), .list (List.map encMapD o.Maps), .int .u64 o.Thread.Regs.e0, .int .u64 o.Thread.Regs.e1, .int .u64 o.Thread.Regs.e2, .int .u64 o.Thread.Regs.e3, .int .u64 o.Thread.Regs.e4, .int .u64 o.Thread.Regs.e5, .int .u64 o.Thread.Regs.e6, .int .u64 o.Thread.Regs.e7, .int .u64 o.Thread.Regs.e8, .int .u64 o.Thread.Regs.e9, .int .u64 o.Thread.Regs.e10, .int .u64 o.Thread.Regs.e11, .int .u64 o.Thread.Regs.e12, .int .u64 o.Thread.Regs.e13, .int .u64 o.Thread.Regs.e14, .int .u64 o.Thread.Regs.e15, .int .u64 o.Thread.Pc, .list (List.map encPairD o.Thread.Clear), .int .u64 o.Thread.Space.Cont, .int .u64 o.Thread.Space.Id, .int .u64 o.Thread.Handler, .int .u64 o.Thread.Vector, .int .i64 o.Thread.State, .int .u64 o.Thread.Wait.Ref.Cont, .int .u64 o.Thread.Wait.Ref.Id, .int .u64 o.Thread.Wait.Index, .int .u64 o.Thread.Wait.Val, .bool o.Thread.Wait.Dev, .list (List.map (encI .u64) o.Thread.Alerts), .int .u64 o.Thread.Span.Lo, .int .u64 o.Thread.Span.Hi, .list (List.map encPairD o.Thread.Labs.e0), .list (List.map encPairD o.Thread.Labs.e1), .list (List.map encPairD o.Thread.Labs.e2), .list (List.map encPairD o.Thread.Labs.e3), .list (List.map encPairD o.Gate.Grant), .list (List.map encPairD o.Gate.Clear), .int .u64 o.Gate.Space.Cont, .int .u64 o.Gate.Space.Id, .int .u64 o.Gate.Pc, .int .u64 o.Gate.Arg, .list (List.map (encI .u64) ([])), .nilsl]) tok rfl rfl rfl rfl rfl rfl rfl rfl rfl rfl (by dsimp only [List.set, AV.cellsOf]) (by dsimp only [putL, List.set]) ?_
              refine d_nrm 0 (cs' := (encObjectD ({ o with In := [], Out := [] } : ObjectD))) rfl rfl (by dsimp only [List.set, AV.cellsOf]) ?_
              refine aops_nil ?_
              refine awp_seq ?_
              refine awp_region ?_
              refine dp rfl rfl ?_
              refine d_store_all tok rfl rfl rfl rfl rfl rfl rfl rfl rfl (by dsimp only [List.set, AV.cellsOf]) (by dsimp only [putL, List.set]) ?_
              refine aops_nil ?_
              refine awp_ret ?_
              obtain rfl := pe h
              exact qfun_ret_of rfl (ares_cell1 tok rfl rfl rfl rfl) (Weak.refl _) rfl
            · refine awp_skip ?_
              refine awp_seq ?_
              refine awp_region ?_
              refine dp rfl rfl ?_
              refine d_store_all tok rfl rfl rfl rfl rfl rfl rfl rfl rfl (by dsimp only [List.set, AV.cellsOf]) (by dsimp only [putL, List.set]) ?_
              refine aops_nil ?_
              refine awp_ret ?_
              obtain rfl := pe h
              exact qfun_ret_of rfl (ares_cell1 tok rfl rfl rfl rfl) (Weak.refl _) rfl

end Go.Proofs.Ytpckfpahmnhfcaa.K
