/- Walks: what functions of the program compute. Printed by wip/gen/pwrun.py. -/
import Derived.Test.YtpckfpahmnhfcaaKEF
import Derived.Test.YtpckfpahmnhfcaaKCW
import Derived.Test.YtpckfpahmnhfcaaKS
namespace Go.Proofs.Ytpckfpahmnhfcaa.K
open Go Go.RowKit Go.Proofs.Ytpckfpahmnhfcaa.G
set_option linter.unusedVariables false
set_option maxRecDepth 20000
set_option maxHeartbeats 4000000
theorem obj_inner_w (o : ObjectD) (r : Bool) (h : obj_inner o = some r) : PCall Try.prog 83 [.agg (encObjectD o)] (.bool r) := by
  replace h : post (obj_inner o) (fun v => v = r) := ⟨_, h, rfl⟩
  unfold obj_inner at h
  refine d_intro Try.func83 rfl (by decide +kernel) (ts := .agg (encObjectD o) :: un 71) rfl fun B hB => ?_
  refine lc ?_ (by dsimp only [un])
  refine awp_seq ?_
  refine awp_region ?_
  refine dn rfl (hbx (cs := (encObjectD o)) 0 rfl rfl rfl) ?_
  refine dp rfl rfl ?_
  refine aops_nil ?_
  iterate 2 refine awp_seq ?_
  refine awp_region ?_
  iterate 2 refine dp rfl rfl ?_
  refine aops_nil ?_
  refine awp_block ?_
  refine awp_seq ?_
  refine awp_region ?_
  iterate 2 refine dp rfl rfl ?_
  refine aops_nil ?_
  refine cc h rfl (fun h => ?_) (fun h => ?_)
  · refine awp_seq ?_
    refine awp_region ?_
    iterate 2 refine dp rfl rfl ?_
    refine dh rfl (head_len_map tok rfl rfl rfl rfl) ?_
    iterate 6 refine dp rfl rfl ?_
    refine aops_nil ?_
    refine awp_ret ?_
    obtain rfl := pe h
    exact qfun_ret rfl rfl (Weak.refl _) rfl
  · refine awp_seq ?_
    refine awp_region ?_
    iterate 2 refine dp rfl rfl ?_
    refine aops_nil ?_
    refine cc h rfl (fun h => ?_) (fun h => ?_)
    · refine awp_seq ?_
      exact pno h
    · refine awp_seq ?_
      refine awp_region ?_
      iterate 2 refine dp rfl rfl ?_
      refine aops_nil ?_
      refine cc h rfl (fun h => ?_) (fun h => ?_)
      · refine awp_seq ?_
        exact pno h
      · refine awp_seq ?_
        refine awp_region ?_
        iterate 2 refine dp rfl rfl ?_
        refine aops_nil ?_
        refine cc h rfl (fun h => ?_) (fun h => ?_)
        · refine awp_seq ?_
          exact pno h
        · refine awp_seq ?_
          refine awp_region ?_
          iterate 2 refine dp rfl rfl ?_
          refine aops_nil ?_
          refine cc h rfl (fun h => ?_) (fun h => ?_)
          · refine awp_seq ?_
            exact pno h
          · refine awp_skip ?_
            refine awp_seq ?_
            exact pno h

theorem obj_Sound_w (o : ObjectD) (r : Bool) (h : obj_Sound o = some r) : PCall Try.prog 27 [.agg (encObjectD o)] (.bool r) := by
  replace h : post (obj_Sound o) (fun v => v = r) := ⟨_, h, rfl⟩
  unfold obj_Sound at h
  refine d_intro Try.func27 rfl (by decide +kernel) (ts := .agg (encObjectD o) :: un 63) rfl fun B hB => ?_
  refine lc ?_ (by dsimp only [un])
  refine awp_seq ?_
  refine awp_region ?_
  refine dn rfl (hbx (cs := (encObjectD o)) 0 rfl rfl rfl) ?_
  refine dp rfl rfl ?_
  refine aops_nil ?_
  refine awp_seq ?_
  refine awp_region ?_
  iterate 10 refine dp rfl rfl ?_
  refine dh rfl (head_build (r := (encObjectD ({ ObjectD.zero with Id := o.Id, Kind := o.Kind, Label := o.Label, Quota := o.Quota, Fixed := o.Fixed } : ObjectD))) tok rfl rfl rfl rfl rfl rfl) ?_
  refine dn rfl (head_alloc tok 1 rfl rfl) ?_
  refine d_store_all tok rfl rfl rfl rfl rfl rfl rfl rfl rfl (by dsimp only [List.set, AV.cellsOf]) (by dsimp only [putL, List.set]) ?_
  refine aops_nil ?_
  refine awp_seq ?_
  refine awp_block ?_
  refine cw h (fun x1 => ⟨an 1 (.ptr 0 0 :: an 1 (.ptr 1 0 :: an 11 (.bool x1 :: an 48 []))), [some (.var (encObjectD o)), some (.var (encObjectD ({ ObjectD.zero with Id := o.Id, Kind := o.Kind, Label := o.Label, Quota := o.Quota, Fixed := o.Fixed } : ObjectD)))], []⟩) (fun x1 h => ?_) (fun h => ?_)
  · refine lc ?_
    refine cc h rfl (fun h => ?_) (fun h => ?_)
    · refine awp_seq ?_
      refine awp_region ?_
      refine dp rfl rfl ?_
      refine aops_nil ?_
      refine awp_ret ?_
      obtain rfl := pe h
      exact qfun_ret rfl rfl (Weak.refl _) rfl
    · refine cw h (fun x3 => ⟨an 1 (.ptr 0 0 :: an 1 (.ptr 1 0 :: an 26 (.bool x3 :: an 33 []))), [some (.var (encObjectD o)), some (.var (encObjectD ({ ObjectD.zero with Id := o.Id, Kind := o.Kind, Label := o.Label, Quota := o.Quota, Fixed := o.Fixed } : ObjectD)))], []⟩) (fun x3 h => ?_) (fun h => ?_)
      · refine lc ?_
        refine cc h rfl (fun h => ?_) (fun h => ?_)
        · refine awp_seq ?_
          refine awp_region ?_
          refine dp rfl rfl ?_
          refine aops_nil ?_
          refine awp_ret ?_
          obtain rfl := pe h
          exact qfun_ret rfl rfl (Weak.refl _) rfl
        · refine cw h (fun x5 => ⟨an 1 (.ptr 0 0 :: an 1 (.ptr 1 0 :: an 41 (.bool x5 :: an 18 []))), [some (.var (encObjectD o)), some (.var (encObjectD ({ ObjectD.zero with Id := o.Id, Kind := o.Kind, Label := o.Label, Quota := o.Quota, Fixed := o.Fixed } : ObjectD)))], []⟩) (fun x5 h => ?_) (fun h => ?_)
          · refine lc ?_
            refine cc h rfl (fun h => ?_) (fun h => ?_)
            · refine awp_seq ?_
              refine awp_region ?_
              refine dp rfl rfl ?_
              refine aops_nil ?_
              refine awp_ret ?_
              obtain rfl := pe h
              exact qfun_ret rfl rfl (Weak.refl _) rfl
            · refine awp_skip ?_
              refine awp_seq ?_
              refine awp_draw 8 mixed (by decide +kernel) ?_
              refine kp rfl rfl ?_
              obtain ⟨v7, hv7, h⟩ := pb h
              refine kh rfl (head_callp (obj_bare_w _ _ hv7) rfl rfl rfl rfl) ?_
              refine kp rfl rfl ?_
              obtain ⟨v8, hv8, h⟩ := pb h
              refine kh rfl (head_callp (obj_SameOne_w _ _ _ hv8) rfl rfl rfl rfl) ?_
              refine ki h rfl (hpr rfl) (fun h => ?_) (fun h => ?_)
              · refine kp rfl rfl ?_
                obtain ⟨v10, hv10, h⟩ := pb h
                refine kh rfl (head_callp (obj_inner_w _ _ hv10) rfl rfl rfl rfl) ?_
                refine kp rfl rfl ?_
                refine .nil ?_
                refine dp rfl rfl ?_
                refine aops_nil ?_
                refine awp_ret ?_
                obtain rfl := pe h
                exact qfun_ret rfl rfl (Weak.refl _) rfl
              · refine kk rfl ?_
                refine kk rfl ?_
                refine kp rfl rfl ?_
                refine .nil ?_
                refine dp rfl rfl ?_
                refine aops_nil ?_
                refine awp_ret ?_
                obtain rfl := pe h
                exact qfun_ret rfl rfl (Weak.refl _) rfl
          · refine awp_region ?_
            iterate 3 refine dp rfl rfl ?_
            refine di h rfl (hpr rfl) (fun h => ?_) (fun h => ?_)
            · refine dp rfl rfl ?_
              refine dp rfl rfl ?_
              obtain ⟨v12, hv12, h⟩ := pb h
              refine dh rfl (head_callp (label_Owned_w _ _ hv12) rfl rfl rfl rfl) ?_
              refine dh rfl (head_len_map tok rfl rfl rfl rfl) ?_
              iterate 3 refine dp rfl rfl ?_
              refine aops_nil ?_
              exact ⟨(decide ((v12.length : Int) > (0 : Int))), (sk [1, 3, 45] [] rfl), (pe h :)⟩
            · refine dk rfl ?_
              iterate 4 refine dk rfl ?_
              iterate 2 refine dp rfl rfl ?_
              refine aops_nil ?_
              exact ⟨false, (sk [1, 3, 45] [] rfl), (pe h :)⟩
      · refine awp_region ?_
        iterate 2 refine dp rfl rfl ?_
        obtain ⟨v13, hv13, h⟩ := pb h
        refine dh rfl (head_callp (obj_kept_w _ _ hv13) rfl rfl rfl rfl) ?_
        refine dp rfl rfl ?_
        refine ca h 5 (fun x15 => ⟨an 1 (.ptr 0 0 :: an 1 (.ptr 1 0 :: an 35 (.bool x15 :: an 24 []))), [some (.var (encObjectD o)), some (.var (encObjectD ({ ObjectD.zero with Id := o.Id, Kind := o.Kind, Label := o.Label, Quota := o.Quota, Fixed := o.Fixed } : ObjectD)))], []⟩) (fun x15 h => ?_) (fun h => ?_)
        · refine lo ?_
          refine di h rfl (hpr rfl) (fun h => ?_) (fun h => ?_)
          · refine dk rfl ?_
            iterate 2 refine dk rfl ?_
            iterate 2 refine dp rfl rfl ?_
            refine aops_nil ?_
            exact ⟨true, (sk [1, 3, 30] [] rfl), (pe h :)⟩
          · refine dp rfl rfl ?_
            iterate 4 refine dp rfl rfl ?_
            refine aops_nil ?_
            exact ⟨(decide (o.Quota > (4096 : Int))), (sk [1, 3, 30] [] rfl), (pe h :)⟩
        · refine di h rfl (hpr rfl) (fun h => ?_) (fun h => ?_)
          · refine dk rfl ?_
            iterate 2 refine dk rfl ?_
            refine dp rfl rfl ?_
            refine aops_nil ?_
            exact ⟨true, (sk [1, 3, 39] [] rfl), (pe h :)⟩
          · refine dp rfl rfl ?_
            iterate 3 refine dp rfl rfl ?_
            refine aops_nil ?_
            exact ⟨(decide (o.Quota < (1 : Int))), (sk [1, 3, 39] [] rfl), (pe h :)⟩
  · refine awp_region ?_
    iterate 2 refine dp rfl rfl ?_
    obtain ⟨v17, hv17, h⟩ := pb h
    refine dh rfl (head_callp (obj_named_w _ _ hv17) rfl rfl rfl rfl) ?_
    refine dp rfl rfl ?_
    refine ca h 5 (fun x19 => ⟨an 1 (.ptr 0 0 :: an 1 (.ptr 1 0 :: an 20 (.bool x19 :: an 39 []))), [some (.var (encObjectD o)), some (.var (encObjectD ({ ObjectD.zero with Id := o.Id, Kind := o.Kind, Label := o.Label, Quota := o.Quota, Fixed := o.Fixed } : ObjectD)))], []⟩) (fun x19 h => ?_) (fun h => ?_)
    · refine lo ?_
      refine di h rfl (hpr rfl) (fun h => ?_) (fun h => ?_)
      · refine dk rfl ?_
        iterate 2 refine dk rfl ?_
        iterate 2 refine dp rfl rfl ?_
        refine aops_nil ?_
        exact ⟨true, (sk [1, 3, 15] [] rfl), (pe h :)⟩
      · refine dp rfl rfl ?_
        iterate 4 refine dp rfl rfl ?_
        refine aops_nil ?_
        exact ⟨(decide (o.Kind > (6 : Int))), (sk [1, 3, 15] [] rfl), (pe h :)⟩
    · refine di h rfl (hpr rfl) (fun h => ?_) (fun h => ?_)
      · refine dk rfl ?_
        iterate 2 refine dk rfl ?_
        refine dp rfl rfl ?_
        refine aops_nil ?_
        exact ⟨true, (sk [1, 3, 24] [] rfl), (pe h :)⟩
      · refine dp rfl rfl ?_
        iterate 3 refine dp rfl rfl ?_
        refine aops_nil ?_
        exact ⟨(decide (o.Kind < (1 : Int))), (sk [1, 3, 24] [] rfl), (pe h :)⟩

theorem seg_room_w (quota : Int) (r : Int) (h : seg_room quota = some r) : PCall Try.prog 107 [.int .i64 quota] (.int .i64 r) := by
  replace h : post (seg_room quota) (fun v => v = r) := ⟨_, h, rfl⟩
  unfold seg_room at h
  refine d_intro Try.func107 rfl (by decide +kernel) (ts := .int .i64 quota :: un 11) rfl fun B hB => ?_
  refine lc ?_ (by dsimp only [un])
  refine awp_seq ?_
  refine awp_region ?_
  refine dp rfl rfl ?_
  refine aops_nil ?_
  refine awp_seq ?_
  refine cw h (fun x1 => ⟨.int .i64 quota :: an 7 (.bool x1 :: an 3 []), [], []⟩) (fun x1 h => ?_) (fun h => ?_)
  · refine lc ?_
    refine cc h rfl (fun h => ?_) (fun h => ?_)
    · refine awp_seq ?_
      refine awp_region ?_
      refine dp rfl rfl ?_
      refine aops_nil ?_
      refine awp_ret ?_
      obtain rfl := pe h
      exact qfun_ret rfl rfl (Weak.refl _) rfl
    · refine awp_skip ?_
      refine awp_seq ?_
      refine awp_region ?_
      iterate 4 refine dp rfl rfl ?_
      refine aops_nil ?_
      refine awp_ret ?_
      obtain rfl := pe h
      exact qfun_ret rfl rfl (Weak.refl _) rfl
  · refine awp_region ?_
    iterate 2 refine dp rfl rfl ?_
    refine di h rfl (hpr rfl) (fun h => ?_) (fun h => ?_)
    · refine dk rfl ?_
      refine dk rfl ?_
      refine dp rfl rfl ?_
      refine aops_nil ?_
      exact ⟨true, (sk [0, 8] [] rfl), (pe h :)⟩
    · refine dp rfl rfl ?_
      iterate 2 refine dp rfl rfl ?_
      refine aops_nil ?_
      exact ⟨(decide (quota > (4096 : Int))), (sk [0, 8] [] rfl), (pe h :)⟩

theorem seg_has_w (o : ObjectD) (at_ : Int) (r : Int) (h : seg_has o at_ = some r) : PCall Try.prog 105 [.agg (encObjectD o), .int .u64 at_] (.int .i64 r) := by
  replace h : post (seg_has o at_) (fun v => v = r) := ⟨_, h, rfl⟩
  unfold seg_has at h
  refine d_intro Try.func105 rfl (by decide +kernel) (ts := .agg (encObjectD o) :: .int .u64 at_ :: un 14) rfl fun B hB => ?_
  refine lc ?_ (by dsimp only [un])
  refine awp_seq ?_
  refine awp_region ?_
  refine dn rfl (hbx (cs := (encObjectD o)) 0 rfl rfl rfl) ?_
  refine dp rfl rfl ?_
  refine aops_nil ?_
  refine awp_seq ?_
  refine awp_block ?_
  refine awp_seq ?_
  refine awp_region ?_
  iterate 4 refine dp rfl rfl ?_
  refine aops_nil ?_
  refine cc h rfl (fun h => ?_) (fun h => ?_)
  · refine awp_seq ?_
    refine awp_region ?_
    refine dp rfl rfl ?_
    refine aops_nil ?_
    refine awp_ret ?_
    obtain rfl := pe h
    exact qfun_ret rfl rfl (Weak.refl _) rfl
  · refine awp_seq ?_
    refine awp_region ?_
    iterate 3 refine dp rfl rfl ?_
    refine dh rfl (head_len_map tok rfl rfl rfl rfl) ?_
    iterate 3 refine dp rfl rfl ?_
    refine aops_nil ?_
    refine cc h rfl (fun h => ?_) (fun h => ?_)
    · refine awp_seq ?_
      refine awp_region ?_
      refine dp rfl rfl ?_
      refine aops_nil ?_
      refine awp_ret ?_
      obtain rfl := pe h
      exact qfun_ret rfl rfl (Weak.refl _) rfl
    · refine awp_skip ?_
      refine awp_seq ?_
      refine awp_region ?_
      refine dp rfl rfl ?_
      refine aops_nil ?_
      refine awp_ret ?_
      obtain rfl := pe h
      exact qfun_ret rfl rfl (Weak.refl _) rfl

theorem seg_Resize_w (o : ObjectD) (n : Int) (r : ObjectD × Int) (h : seg_Resize o n = some r) : PCall Try.prog 45 [.agg (encObjectD o), .int .i64 n] (.tuple [.agg [.int .u64 r.1.Id, .int .i64 r.1.Kind, .list (List.map encPairD r.1.Label), .int .i64 r.1.Quota, .bool r.1.Fixed, .list (List.map (encI .u64) r.1.Links), .list (List.map (encI .u64) r.1.Data), .list (List.map encMapD r.1.Maps), .int .u64 r.1.Thread.Regs.e0, .int .u64 r.1.Thread.Regs.e1, .int .u64 r.1.Thread.Regs.e2, .int .u64 r.1.Thread.Regs.e3, .int .u64 r.1.Thread.Regs.e4, .int .u64 r.1.Thread.Regs.e5, .int .u64 r.1.Thread.Regs.e6, .int .u64 r.1.Thread.Regs.e7, .int .u64 r.1.Thread.Regs.e8, .int .u64 r.1.Thread.Regs.e9, .int .u64 r.1.Thread.Regs.e10, .int .u64 r.1.Thread.Regs.e11, .int .u64 r.1.Thread.Regs.e12, .int .u64 r.1.Thread.Regs.e13, .int .u64 r.1.Thread.Regs.e14, .int .u64 r.1.Thread.Regs.e15, .int .u64 r.1.Thread.Pc, .list (List.map encPairD r.1.Thread.Clear), .int .u64 r.1.Thread.Space.Cont, .int .u64 r.1.Thread.Space.Id, .int .u64 r.1.Thread.Handler, .int .u64 r.1.Thread.Vector, .int .i64 r.1.Thread.State, .int .u64 r.1.Thread.Wait.Ref.Cont, .int .u64 r.1.Thread.Wait.Ref.Id, .int .u64 r.1.Thread.Wait.Index, .int .u64 r.1.Thread.Wait.Val, .bool r.1.Thread.Wait.Dev, .list (List.map (encI .u64) r.1.Thread.Alerts), .int .u64 r.1.Thread.Span.Lo, .int .u64 r.1.Thread.Span.Hi, .list (List.map encPairD r.1.Thread.Labs.e0), .list (List.map encPairD r.1.Thread.Labs.e1), .list (List.map encPairD r.1.Thread.Labs.e2), .list (List.map encPairD r.1.Thread.Labs.e3), .list (List.map encPairD r.1.Gate.Grant), .list (List.map encPairD r.1.Gate.Clear), .int .u64 r.1.Gate.Space.Cont, .int .u64 r.1.Gate.Space.Id, .int .u64 r.1.Gate.Pc, .int .u64 r.1.Gate.Arg, .list (List.map (encI .u64) r.1.In), .list (List.map (encI .u64) r.1.Out)], .int .i64 r.2]) := by
  replace h : post (seg_Resize o n) (fun v => v = r) := ⟨_, h, rfl⟩
  unfold seg_Resize at h
  refine d_intro Try.func45 rfl (by decide +kernel) (ts := .agg (encObjectD o) :: .int .i64 n :: un 30) rfl fun B hB => ?_
  refine lc ?_ (by dsimp only [un])
  refine awp_seq ?_
  refine awp_region ?_
  refine dn rfl (hbx (cs := (encObjectD o)) 0 rfl rfl rfl) ?_
  refine dn rfl (head_alloc tok 1 rfl rfl) ?_
  refine dp rfl rfl ?_
  refine aops_nil ?_
  refine awp_seq ?_
  refine awp_block ?_
  refine awp_seq ?_
  refine awp_region ?_
  iterate 4 refine dp rfl rfl ?_
  refine aops_nil ?_
  refine cc h rfl (fun h => ?_) (fun h => ?_)
  · refine awp_seq ?_
    refine awp_region ?_
    refine dp rfl rfl ?_
    refine d_store_all tok rfl rfl rfl rfl rfl rfl rfl rfl rfl (by dsimp only [List.set, AV.cellsOf]) (by dsimp only [putL, List.set]) ?_
    refine dp rfl rfl ?_
    refine aops_nil ?_
    refine awp_ret ?_
    obtain rfl := pe h
    exact qfun_ret_of rfl (ares_cells2 tok rfl rfl) (Weak.refl _) rfl
  · refine awp_seq ?_
    refine awp_region ?_
    iterate 3 refine dp rfl rfl ?_
    refine aops_nil ?_
    refine cc h rfl (fun h => ?_) (fun h => ?_)
    · refine awp_seq ?_
      refine awp_region ?_
      refine dp rfl rfl ?_
      refine d_store_all tok rfl rfl rfl rfl rfl rfl rfl rfl rfl (by dsimp only [List.set, AV.cellsOf]) (by dsimp only [putL, List.set]) ?_
      refine dp rfl rfl ?_
      refine aops_nil ?_
      refine awp_ret ?_
      obtain rfl := pe h
      exact qfun_ret_of rfl (ares_cells2 tok rfl rfl) (Weak.refl _) rfl
    · refine awp_seq ?_
      refine awp_region ?_
      iterate 3 refine dp rfl rfl ?_
      obtain ⟨v3, hv3, h⟩ := pb h
      refine dh rfl (head_callp (seg_room_w _ _ hv3) rfl rfl rfl rfl) ?_
      iterate 2 refine dp rfl rfl ?_
      refine aops_nil ?_
      refine cc h rfl (fun h => ?_) (fun h => ?_)
      · refine awp_seq ?_
        refine awp_region ?_
        refine dp rfl rfl ?_
        refine d_store_all tok rfl rfl rfl rfl rfl rfl rfl rfl rfl (by dsimp only [List.set, AV.cellsOf]) (by dsimp only [putL, List.set]) ?_
        refine dp rfl rfl ?_
        refine aops_nil ?_
        refine awp_ret ?_
        obtain rfl := pe h
        exact qfun_ret_of rfl (ares_cells2 tok rfl rfl) (Weak.refl _) rfl
      · refine awp_skip ?_
        refine awp_seq ?_
        refine awp_region ?_
        refine dp rfl rfl ?_
        obtain ⟨x5, hx5, h⟩ := pb h
        refine dn rfl (head_mslice (enc := (encI .u64)) tok 2 1 hx5 rfl rfl rfl rfl rfl rfl rfl rfl rfl rfl) ?_
        refine dp rfl rfl ?_
        refine aops_nil ?_
        refine awp_seq ?_
        refine awp_region ?_
        iterate 3 refine dp rfl rfl ?_
        refine d_copy_ownm tok rfl rfl rfl rfl rfl rfl rfl rfl rfl (fun _ => rfl) (fun _ => rfl) (by dsimp only [List.set, AV.cellsOf]) (by dsimp only [putL, List.set]) ?_
        refine lov 2 3 [6, 24, 25] [0, 1, 2, 3, 4, 5, 6, 7, 8, 9, 10, 11, 12, 13, 14, 15, 16, 17, 18, 19, 20, 21, 22, 23, 24, 25, 26, 27, 28, 29, 30, 31] [some (.var (encObjectD o)), some (.var (encObjectD ObjectD.zero)), some (.row (List.map (encI .u64) (cpyL x5 o.Data)) 1 23)] (.agg [.int .u64 o.Id, .int .i64 o.Kind, .list (List.map encPairD o.Label), .int .i64 o.Quota, .bool o.Fixed, .list (List.map (encI .u64) o.Links), .list (List.map (encI .u64) o.Data), .list (List.map encMapD o.Maps), .int .u64 o.Thread.Regs.e0, .int .u64 o.Thread.Regs.e1, .int .u64 o.Thread.Regs.e2, .int .u64 o.Thread.Regs.e3, .int .u64 o.Thread.Regs.e4, .int .u64 o.Thread.Regs.e5, .int .u64 o.Thread.Regs.e6, .int .u64 o.Thread.Regs.e7, .int .u64 o.Thread.Regs.e8, .int .u64 o.Thread.Regs.e9, .int .u64 o.Thread.Regs.e10, .int .u64 o.Thread.Regs.e11, .int .u64 o.Thread.Regs.e12, .int .u64 o.Thread.Regs.e13, .int .u64 o.Thread.Regs.e14, .int .u64 o.Thread.Regs.e15, .int .u64 o.Thread.Pc, .list (List.map encPairD o.Thread.Clear), .int .u64 o.Thread.Space.Cont, .int .u64 o.Thread.Space.Id, .int .u64 o.Thread.Handler, .int .u64 o.Thread.Vector, .int .i64 o.Thread.State, .int .u64 o.Thread.Wait.Ref.Cont, .int .u64 o.Thread.Wait.Ref.Id, .int .u64 o.Thread.Wait.Index, .int .u64 o.Thread.Wait.Val, .bool o.Thread.Wait.Dev, .list (List.map (encI .u64) o.Thread.Alerts), .int .u64 o.Thread.Span.Lo, .int .u64 o.Thread.Span.Hi, .list (List.map encPairD o.Thread.Labs.e0), .list (List.map encPairD o.Thread.Labs.e1), .list (List.map encPairD o.Thread.Labs.e2), .list (List.map encPairD o.Thread.Labs.e3), .list (List.map encPairD o.Gate.Grant), .list (List.map encPairD o.Gate.Clear), .int .u64 o.Gate.Space.Cont, .int .u64 o.Gate.Space.Id, .int .u64 o.Gate.Pc, .int .u64 o.Gate.Arg, .list (List.map (encI .u64) o.In), .list (List.map (encI .u64) o.Out)] :: .int .i64 n :: .ptr 0 0 :: .undef :: .ptr 1 0 :: .int .i64 (0 : Int) :: .own 2 (List.map (encI .u64) (cpyL x5 o.Data)).length :: .bool (o.Kind != (1 : Int)) :: .ptr 0 1 :: .int .i64 o.Kind :: .bool (o.Kind != (1 : Int)) :: .undef :: .bool (decide (n < (0 : Int))) :: .int .i64 n :: .bool (decide (n < (0 : Int))) :: .undef :: .bool (decide (n > v3)) :: .int .i64 n :: .ptr 0 3 :: .int .i64 o.Quota :: .int .i64 v3 :: .bool (decide (n > v3)) :: .undef :: .int .i64 n :: .own 2 (List.map (encI .u64) (cpyL x5 o.Data)).length :: .own 2 (List.map (encI .u64) (cpyL x5 o.Data)).length :: .ptr 0 6 :: .list (List.map (encI .u64) o.Data) :: .int .i64 ((Nat.min o.Data.length x5.length : Nat) : Int) :: .undef :: .undef :: .undef :: []) (by simp [cpyL_length]) rfl rfl rfl ?_
        refine lo ?_
        refine aops_nil ?_
        refine awp_seq ?_
        refine awp_region ?_
        iterate 2 refine dp rfl rfl ?_
        refine fz 29 2 1 rfl rfl (fun _ => rfl) ?_
        refine d_store (cs' := (encObjectD ({ o with Data := (cpyL x5 o.Data) } : ObjectD))) tok rfl rfl rfl rfl rfl rfl rfl rfl rfl rfl (by dsimp only [List.set, AV.cellsOf]) (by dsimp only [putL, List.set]) ?_
        refine aops_nil ?_
        refine awp_seq ?_
        refine awp_region ?_
        refine dp rfl rfl ?_
        refine d_store_all tok rfl rfl rfl rfl rfl rfl rfl rfl rfl (by dsimp only [List.set, AV.cellsOf]) (by dsimp only [putL, List.set]) ?_
        refine dp rfl rfl ?_
        refine aops_nil ?_
        refine awp_ret ?_
        obtain rfl := pe h
        exact qfun_ret_of rfl (ares_cells2 tok rfl rfl) (Weak.refl _) rfl

theorem seg_Get_w (o : ObjectD) (at_ : Int) (r : Int × Int) (h : seg_Get o at_ = some r) : PCall Try.prog 49 [.agg (encObjectD o), .int .u64 at_] (.tuple [.int .u64 r.1, .int .i64 r.2]) := by
  replace h : post (seg_Get o at_) (fun v => v = r) := ⟨_, h, rfl⟩
  unfold seg_Get at h
  refine d_intro Try.func49 rfl (by decide +kernel) (ts := .agg (encObjectD o) :: .int .u64 at_ :: un 16) rfl fun B hB => ?_
  refine lc ?_ (by dsimp only [un])
  refine awp_seq ?_
  refine awp_region ?_
  refine dn rfl (hbx (cs := (encObjectD o)) 0 rfl rfl rfl) ?_
  iterate 2 refine dp rfl rfl ?_
  refine aops_nil ?_
  iterate 2 refine awp_seq ?_
  refine awp_region ?_
  iterate 2 refine dp rfl rfl ?_
  obtain ⟨v1, hv1, h⟩ := pb h
  refine dh rfl (head_callp (seg_has_w _ _ _ hv1) rfl rfl rfl rfl) ?_
  refine dp rfl rfl ?_
  refine aops_nil ?_
  refine awp_seq ?_
  refine awp_region ?_
  iterate 2 refine dp rfl rfl ?_
  refine aops_nil ?_
  refine cc h rfl (fun h => ?_) (fun h => ?_)
  · refine awp_seq ?_
    refine awp_region ?_
    iterate 3 refine dp rfl rfl ?_
    refine aops_nil ?_
    refine awp_ret ?_
    obtain rfl := pe h
    exact qfun_ret rfl rfl (Weak.refl _) rfl
  · refine awp_skip ?_
    refine awp_seq ?_
    refine awp_region ?_
    iterate 3 refine dp rfl rfl ?_
    obtain ⟨x3, hx3, h⟩ := pb h
    refine dh rfl (head_index_map tok hx3 rfl rfl rfl rfl rfl rfl rfl) ?_
    iterate 3 refine dp rfl rfl ?_
    refine aops_nil ?_
    refine awp_ret ?_
    obtain rfl := pe h
    exact qfun_ret rfl rfl (Weak.refl _) rfl

theorem seg_Put_w (o : ObjectD) (at_ : Int) (v : Int) (r : ObjectD × Int) (h : seg_Put o at_ v = some r) : PCall Try.prog 44 [.agg (encObjectD o), .int .u64 at_, .int .u64 v] (.tuple [.agg [.int .u64 r.1.Id, .int .i64 r.1.Kind, .list (List.map encPairD r.1.Label), .int .i64 r.1.Quota, .bool r.1.Fixed, .list (List.map (encI .u64) r.1.Links), .list (List.map (encI .u64) r.1.Data), .list (List.map encMapD r.1.Maps), .int .u64 r.1.Thread.Regs.e0, .int .u64 r.1.Thread.Regs.e1, .int .u64 r.1.Thread.Regs.e2, .int .u64 r.1.Thread.Regs.e3, .int .u64 r.1.Thread.Regs.e4, .int .u64 r.1.Thread.Regs.e5, .int .u64 r.1.Thread.Regs.e6, .int .u64 r.1.Thread.Regs.e7, .int .u64 r.1.Thread.Regs.e8, .int .u64 r.1.Thread.Regs.e9, .int .u64 r.1.Thread.Regs.e10, .int .u64 r.1.Thread.Regs.e11, .int .u64 r.1.Thread.Regs.e12, .int .u64 r.1.Thread.Regs.e13, .int .u64 r.1.Thread.Regs.e14, .int .u64 r.1.Thread.Regs.e15, .int .u64 r.1.Thread.Pc, .list (List.map encPairD r.1.Thread.Clear), .int .u64 r.1.Thread.Space.Cont, .int .u64 r.1.Thread.Space.Id, .int .u64 r.1.Thread.Handler, .int .u64 r.1.Thread.Vector, .int .i64 r.1.Thread.State, .int .u64 r.1.Thread.Wait.Ref.Cont, .int .u64 r.1.Thread.Wait.Ref.Id, .int .u64 r.1.Thread.Wait.Index, .int .u64 r.1.Thread.Wait.Val, .bool r.1.Thread.Wait.Dev, .list (List.map (encI .u64) r.1.Thread.Alerts), .int .u64 r.1.Thread.Span.Lo, .int .u64 r.1.Thread.Span.Hi, .list (List.map encPairD r.1.Thread.Labs.e0), .list (List.map encPairD r.1.Thread.Labs.e1), .list (List.map encPairD r.1.Thread.Labs.e2), .list (List.map encPairD r.1.Thread.Labs.e3), .list (List.map encPairD r.1.Gate.Grant), .list (List.map encPairD r.1.Gate.Clear), .int .u64 r.1.Gate.Space.Cont, .int .u64 r.1.Gate.Space.Id, .int .u64 r.1.Gate.Pc, .int .u64 r.1.Gate.Arg, .list (List.map (encI .u64) r.1.In), .list (List.map (encI .u64) r.1.Out)], .int .i64 r.2]) := by
  replace h : post (seg_Put o at_ v) (fun v => v = r) := ⟨_, h, rfl⟩
  unfold seg_Put at h
  refine d_intro Try.func44 rfl (by decide +kernel) (ts := .agg (encObjectD o) :: .int .u64 at_ :: .int .u64 v :: un 23) rfl fun B hB => ?_
  refine lc ?_ (by dsimp only [un])
  refine awp_seq ?_
  refine awp_region ?_
  refine dn rfl (hbx (cs := (encObjectD o)) 0 rfl rfl rfl) ?_
  refine dn rfl (head_alloc tok 1 rfl rfl) ?_
  refine dp rfl rfl ?_
  refine aops_nil ?_
  iterate 2 refine awp_seq ?_
  refine awp_region ?_
  iterate 2 refine dp rfl rfl ?_
  obtain ⟨v1, hv1, h⟩ := pb h
  refine dh rfl (head_callp (seg_has_w _ _ _ hv1) rfl rfl rfl rfl) ?_
  refine dp rfl rfl ?_
  refine aops_nil ?_
  refine awp_seq ?_
  refine awp_region ?_
  iterate 2 refine dp rfl rfl ?_
  refine aops_nil ?_
  refine cc h rfl (fun h => ?_) (fun h => ?_)
  · refine awp_seq ?_
    refine awp_region ?_
    iterate 2 refine dp rfl rfl ?_
    refine d_store_all tok rfl rfl rfl rfl rfl rfl rfl rfl rfl (by dsimp only [List.set, AV.cellsOf]) (by dsimp only [putL, List.set]) ?_
    refine dp rfl rfl ?_
    refine aops_nil ?_
    refine awp_ret ?_
    obtain rfl := pe h
    exact qfun_ret_of rfl (ares_cells2 tok rfl rfl) (Weak.refl _) rfl
  · refine awp_skip ?_
    refine awp_seq ?_
    refine awp_region ?_
    iterate 2 refine dp rfl rfl ?_
    obtain ⟨x3, hx3, h⟩ := pb h
    refine dn rfl (head_ocall 2 (clone_u64_o hx3) rfl (flat_under (fun _ => rfl) _ _) rfl rfl rfl) ?_
    refine dp rfl rfl ?_
    refine d_store (cs' := [.int .u64 o.Id, .int .i64 o.Kind, .list (List.map encPairD o.Label), .int .i64 o.Quota, .bool o.Fixed, .list (List.map (encI .u64) o.Links), .own 2 (List.map (encI .u64) x3).length, .list (List.map encMapD o.Maps), .int .u64 o.Thread.Regs.e0, .int .u64 o.Thread.Regs.e1, .int .u64 o.Thread.Regs.e2, .int .u64 o.Thread.Regs.e3, .int .u64 o.Thread.Regs.e4, .int .u64 o.Thread.Regs.e5, .int .u64 o.Thread.Regs.e6, .int .u64 o.Thread.Regs.e7, .int .u64 o.Thread.Regs.e8, .int .u64 o.Thread.Regs.e9, .int .u64 o.Thread.Regs.e10, .int .u64 o.Thread.Regs.e11, .int .u64 o.Thread.Regs.e12, .int .u64 o.Thread.Regs.e13, .int .u64 o.Thread.Regs.e14, .int .u64 o.Thread.Regs.e15, .int .u64 o.Thread.Pc, .list (List.map encPairD o.Thread.Clear), .int .u64 o.Thread.Space.Cont, .int .u64 o.Thread.Space.Id, .int .u64 o.Thread.Handler, .int .u64 o.Thread.Vector, .int .i64 o.Thread.State, .int .u64 o.Thread.Wait.Ref.Cont, .int .u64 o.Thread.Wait.Ref.Id, .int .u64 o.Thread.Wait.Index, .int .u64 o.Thread.Wait.Val, .bool o.Thread.Wait.Dev, .list (List.map (encI .u64) o.Thread.Alerts), .int .u64 o.Thread.Span.Lo, .int .u64 o.Thread.Span.Hi, .list (List.map encPairD o.Thread.Labs.e0), .list (List.map encPairD o.Thread.Labs.e1), .list (List.map encPairD o.Thread.Labs.e2), .list (List.map encPairD o.Thread.Labs.e3), .list (List.map encPairD o.Gate.Grant), .list (List.map encPairD o.Gate.Clear), .int .u64 o.Gate.Space.Cont, .int .u64 o.Gate.Space.Id, .int .u64 o.Gate.Pc, .int .u64 o.Gate.Arg, .list (List.map (encI .u64) o.In), .list (List.map (encI .u64) o.Out)]) tok rfl rfl rfl rfl rfl rfl rfl rfl rfl rfl (by dsimp only [List.set, AV.cellsOf]) (by dsimp only [putL, List.set]) ?_
    refine aops_nil ?_
    refine awp_seq ?_
    refine awp_region ?_
    iterate 4 refine dp rfl rfl ?_
    obtain ⟨x4, hx4, h⟩ := pb h
    refine dh rfl (head_index_ownm tok hx4 rfl rfl rfl rfl rfl rfl rfl rfl) ?_
    refine d_store_rowm (enc := (encI .u64)) (y := v) (i := at_) tok hx4 rfl rfl rfl rfl rfl rfl rfl rfl rfl (by dsimp only [List.set, AV.cellsOf]) (by dsimp only [putL, List.set]) ?_
    refine lov 2 3 [18, 21] [0, 1, 2, 3, 4, 5, 6, 7, 8, 9, 10, 11, 12, 13, 14, 15, 16, 17, 18, 19, 20, 21, 22, 23, 25] [some (.var [.int .u64 o.Id, .int .i64 o.Kind, .list (List.map encPairD o.Label), .int .i64 o.Quota, .bool o.Fixed, .list (List.map (encI .u64) o.Links), .own 2 (List.map (encI .u64) (x3.set at_.toNat v)).length, .list (List.map encMapD o.Maps), .int .u64 o.Thread.Regs.e0, .int .u64 o.Thread.Regs.e1, .int .u64 o.Thread.Regs.e2, .int .u64 o.Thread.Regs.e3, .int .u64 o.Thread.Regs.e4, .int .u64 o.Thread.Regs.e5, .int .u64 o.Thread.Regs.e6, .int .u64 o.Thread.Regs.e7, .int .u64 o.Thread.Regs.e8, .int .u64 o.Thread.Regs.e9, .int .u64 o.Thread.Regs.e10, .int .u64 o.Thread.Regs.e11, .int .u64 o.Thread.Regs.e12, .int .u64 o.Thread.Regs.e13, .int .u64 o.Thread.Regs.e14, .int .u64 o.Thread.Regs.e15, .int .u64 o.Thread.Pc, .list (List.map encPairD o.Thread.Clear), .int .u64 o.Thread.Space.Cont, .int .u64 o.Thread.Space.Id, .int .u64 o.Thread.Handler, .int .u64 o.Thread.Vector, .int .i64 o.Thread.State, .int .u64 o.Thread.Wait.Ref.Cont, .int .u64 o.Thread.Wait.Ref.Id, .int .u64 o.Thread.Wait.Index, .int .u64 o.Thread.Wait.Val, .bool o.Thread.Wait.Dev, .list (List.map (encI .u64) o.Thread.Alerts), .int .u64 o.Thread.Span.Lo, .int .u64 o.Thread.Span.Hi, .list (List.map encPairD o.Thread.Labs.e0), .list (List.map encPairD o.Thread.Labs.e1), .list (List.map encPairD o.Thread.Labs.e2), .list (List.map encPairD o.Thread.Labs.e3), .list (List.map encPairD o.Gate.Grant), .list (List.map encPairD o.Gate.Clear), .int .u64 o.Gate.Space.Cont, .int .u64 o.Gate.Space.Id, .int .u64 o.Gate.Pc, .int .u64 o.Gate.Arg, .list (List.map (encI .u64) o.In), .list (List.map (encI .u64) o.Out)]), some (.var (encObjectD ObjectD.zero)), some (.row (List.map (encI .u64) (x3.set at_.toNat v)) 1 23)] (.agg [.int .u64 o.Id, .int .i64 o.Kind, .list (List.map encPairD o.Label), .int .i64 o.Quota, .bool o.Fixed, .list (List.map (encI .u64) o.Links), .list (List.map (encI .u64) o.Data), .list (List.map encMapD o.Maps), .int .u64 o.Thread.Regs.e0, .int .u64 o.Thread.Regs.e1, .int .u64 o.Thread.Regs.e2, .int .u64 o.Thread.Regs.e3, .int .u64 o.Thread.Regs.e4, .int .u64 o.Thread.Regs.e5, .int .u64 o.Thread.Regs.e6, .int .u64 o.Thread.Regs.e7, .int .u64 o.Thread.Regs.e8, .int .u64 o.Thread.Regs.e9, .int .u64 o.Thread.Regs.e10, .int .u64 o.Thread.Regs.e11, .int .u64 o.Thread.Regs.e12, .int .u64 o.Thread.Regs.e13, .int .u64 o.Thread.Regs.e14, .int .u64 o.Thread.Regs.e15, .int .u64 o.Thread.Pc, .list (List.map encPairD o.Thread.Clear), .int .u64 o.Thread.Space.Cont, .int .u64 o.Thread.Space.Id, .int .u64 o.Thread.Handler, .int .u64 o.Thread.Vector, .int .i64 o.Thread.State, .int .u64 o.Thread.Wait.Ref.Cont, .int .u64 o.Thread.Wait.Ref.Id, .int .u64 o.Thread.Wait.Index, .int .u64 o.Thread.Wait.Val, .bool o.Thread.Wait.Dev, .list (List.map (encI .u64) o.Thread.Alerts), .int .u64 o.Thread.Span.Lo, .int .u64 o.Thread.Span.Hi, .list (List.map encPairD o.Thread.Labs.e0), .list (List.map encPairD o.Thread.Labs.e1), .list (List.map encPairD o.Thread.Labs.e2), .list (List.map encPairD o.Thread.Labs.e3), .list (List.map encPairD o.Gate.Grant), .list (List.map encPairD o.Gate.Clear), .int .u64 o.Gate.Space.Cont, .int .u64 o.Gate.Space.Id, .int .u64 o.Gate.Pc, .int .u64 o.Gate.Arg, .list (List.map (encI .u64) o.In), .list (List.map (encI .u64) o.Out)] :: .int .u64 at_ :: .int .u64 v :: .ptr 0 0 :: .undef :: .undef :: .ptr 1 0 :: .int .i64 (0 : Int) :: .int .i64 v1 :: .agg [.int .u64 o.Id, .int .i64 o.Kind, .list (List.map encPairD o.Label), .int .i64 o.Quota, .bool o.Fixed, .list (List.map (encI .u64) o.Links), .list (List.map (encI .u64) o.Data), .list (List.map encMapD o.Maps), .int .u64 o.Thread.Regs.e0, .int .u64 o.Thread.Regs.e1, .int .u64 o.Thread.Regs.e2, .int .u64 o.Thread.Regs.e3, .int .u64 o.Thread.Regs.e4, .int .u64 o.Thread.Regs.e5, .int .u64 o.Thread.Regs.e6, .int .u64 o.Thread.Regs.e7, .int .u64 o.Thread.Regs.e8, .int .u64 o.Thread.Regs.e9, .int .u64 o.Thread.Regs.e10, .int .u64 o.Thread.Regs.e11, .int .u64 o.Thread.Regs.e12, .int .u64 o.Thread.Regs.e13, .int .u64 o.Thread.Regs.e14, .int .u64 o.Thread.Regs.e15, .int .u64 o.Thread.Pc, .list (List.map encPairD o.Thread.Clear), .int .u64 o.Thread.Space.Cont, .int .u64 o.Thread.Space.Id, .int .u64 o.Thread.Handler, .int .u64 o.Thread.Vector, .int .i64 o.Thread.State, .int .u64 o.Thread.Wait.Ref.Cont, .int .u64 o.Thread.Wait.Ref.Id, .int .u64 o.Thread.Wait.Index, .int .u64 o.Thread.Wait.Val, .bool o.Thread.Wait.Dev, .list (List.map (encI .u64) o.Thread.Alerts), .int .u64 o.Thread.Span.Lo, .int .u64 o.Thread.Span.Hi, .list (List.map encPairD o.Thread.Labs.e0), .list (List.map encPairD o.Thread.Labs.e1), .list (List.map encPairD o.Thread.Labs.e2), .list (List.map encPairD o.Thread.Labs.e3), .list (List.map encPairD o.Gate.Grant), .list (List.map encPairD o.Gate.Clear), .int .u64 o.Gate.Space.Cont, .int .u64 o.Gate.Space.Id, .int .u64 o.Gate.Pc, .int .u64 o.Gate.Arg, .list (List.map (encI .u64) o.In), .list (List.map (encI .u64) o.Out)] :: .int .u64 at_ :: .int .i64 v1 :: .int .i64 v1 :: .bool (v1 != (0 : Int)) :: .undef :: .undef :: .ptr 0 6 :: .list (List.map (encI .u64) o.Data) :: .own 2 (List.map (encI .u64) (x3.set at_.toNat v)).length :: .ptr 0 6 :: .ptr 0 6 :: .own 2 (List.map (encI .u64) (x3.set at_.toNat v)).length :: .int .u64 at_ :: .int .u64 v :: an 1 (.undef :: [])) (by simp) rfl rfl rfl ?_
    refine lo ?_
    refine aops_nil ?_
    refine awp_seq ?_
    refine awp_region ?_
    refine dp rfl rfl ?_
    refine d_store_all tok rfl rfl rfl rfl rfl rfl rfl rfl rfl (by dsimp only [List.set, AV.cellsOf]) (by dsimp only [putL, List.set]) ?_
    refine dp rfl rfl ?_
    refine aops_nil ?_
    refine fcv 2 1 5 [18, 21, 25] [0, 1, 2, 3, 4, 5, 6, 7, 8, 9, 10, 11, 12, 13, 14, 15, 16, 17, 18, 19, 20, 21, 22, 23, 25] [some (.var (encObjectD ({ o with Data := (x3.set at_.toNat v) } : ObjectD))), some (.var (encObjectD ({ o with Data := (x3.set at_.toNat v) } : ObjectD))), none] (.agg [.int .u64 o.Id, .int .i64 o.Kind, .list (List.map encPairD o.Label), .int .i64 o.Quota, .bool o.Fixed, .list (List.map (encI .u64) o.Links), .list (List.map (encI .u64) o.Data), .list (List.map encMapD o.Maps), .int .u64 o.Thread.Regs.e0, .int .u64 o.Thread.Regs.e1, .int .u64 o.Thread.Regs.e2, .int .u64 o.Thread.Regs.e3, .int .u64 o.Thread.Regs.e4, .int .u64 o.Thread.Regs.e5, .int .u64 o.Thread.Regs.e6, .int .u64 o.Thread.Regs.e7, .int .u64 o.Thread.Regs.e8, .int .u64 o.Thread.Regs.e9, .int .u64 o.Thread.Regs.e10, .int .u64 o.Thread.Regs.e11, .int .u64 o.Thread.Regs.e12, .int .u64 o.Thread.Regs.e13, .int .u64 o.Thread.Regs.e14, .int .u64 o.Thread.Regs.e15, .int .u64 o.Thread.Pc, .list (List.map encPairD o.Thread.Clear), .int .u64 o.Thread.Space.Cont, .int .u64 o.Thread.Space.Id, .int .u64 o.Thread.Handler, .int .u64 o.Thread.Vector, .int .i64 o.Thread.State, .int .u64 o.Thread.Wait.Ref.Cont, .int .u64 o.Thread.Wait.Ref.Id, .int .u64 o.Thread.Wait.Index, .int .u64 o.Thread.Wait.Val, .bool o.Thread.Wait.Dev, .list (List.map (encI .u64) o.Thread.Alerts), .int .u64 o.Thread.Span.Lo, .int .u64 o.Thread.Span.Hi, .list (List.map encPairD o.Thread.Labs.e0), .list (List.map encPairD o.Thread.Labs.e1), .list (List.map encPairD o.Thread.Labs.e2), .list (List.map encPairD o.Thread.Labs.e3), .list (List.map encPairD o.Gate.Grant), .list (List.map encPairD o.Gate.Clear), .int .u64 o.Gate.Space.Cont, .int .u64 o.Gate.Space.Id, .int .u64 o.Gate.Pc, .int .u64 o.Gate.Arg, .list (List.map (encI .u64) o.In), .list (List.map (encI .u64) o.Out)] :: .int .u64 at_ :: .int .u64 v :: .ptr 0 0 :: .undef :: .undef :: .ptr 1 0 :: .int .i64 (0 : Int) :: .int .i64 v1 :: .agg [.int .u64 o.Id, .int .i64 o.Kind, .list (List.map encPairD o.Label), .int .i64 o.Quota, .bool o.Fixed, .list (List.map (encI .u64) o.Links), .list (List.map (encI .u64) o.Data), .list (List.map encMapD o.Maps), .int .u64 o.Thread.Regs.e0, .int .u64 o.Thread.Regs.e1, .int .u64 o.Thread.Regs.e2, .int .u64 o.Thread.Regs.e3, .int .u64 o.Thread.Regs.e4, .int .u64 o.Thread.Regs.e5, .int .u64 o.Thread.Regs.e6, .int .u64 o.Thread.Regs.e7, .int .u64 o.Thread.Regs.e8, .int .u64 o.Thread.Regs.e9, .int .u64 o.Thread.Regs.e10, .int .u64 o.Thread.Regs.e11, .int .u64 o.Thread.Regs.e12, .int .u64 o.Thread.Regs.e13, .int .u64 o.Thread.Regs.e14, .int .u64 o.Thread.Regs.e15, .int .u64 o.Thread.Pc, .list (List.map encPairD o.Thread.Clear), .int .u64 o.Thread.Space.Cont, .int .u64 o.Thread.Space.Id, .int .u64 o.Thread.Handler, .int .u64 o.Thread.Vector, .int .i64 o.Thread.State, .int .u64 o.Thread.Wait.Ref.Cont, .int .u64 o.Thread.Wait.Ref.Id, .int .u64 o.Thread.Wait.Index, .int .u64 o.Thread.Wait.Val, .bool o.Thread.Wait.Dev, .list (List.map (encI .u64) o.Thread.Alerts), .int .u64 o.Thread.Span.Lo, .int .u64 o.Thread.Span.Hi, .list (List.map encPairD o.Thread.Labs.e0), .list (List.map encPairD o.Thread.Labs.e1), .list (List.map encPairD o.Thread.Labs.e2), .list (List.map encPairD o.Thread.Labs.e3), .list (List.map encPairD o.Gate.Grant), .list (List.map encPairD o.Gate.Clear), .int .u64 o.Gate.Space.Cont, .int .u64 o.Gate.Space.Id, .int .u64 o.Gate.Pc, .int .u64 o.Gate.Arg, .list (List.map (encI .u64) o.In), .list (List.map (encI .u64) o.Out)] :: .int .u64 at_ :: .int .i64 v1 :: .int .i64 v1 :: .bool (v1 != (0 : Int)) :: .undef :: .undef :: .ptr 0 6 :: .list (List.map (encI .u64) o.Data) :: .list (List.map (encI .u64) (x3.set at_.toNat v)) :: .ptr 0 6 :: .ptr 0 6 :: .list (List.map (encI .u64) (x3.set at_.toNat v)) :: .int .u64 at_ :: .int .u64 v :: an 1 (.agg [.int .u64 o.Id, .int .i64 o.Kind, .list (List.map encPairD o.Label), .int .i64 o.Quota, .bool o.Fixed, .list (List.map (encI .u64) o.Links), .list (List.map (encI .u64) (x3.set at_.toNat v)), .list (List.map encMapD o.Maps), .int .u64 o.Thread.Regs.e0, .int .u64 o.Thread.Regs.e1, .int .u64 o.Thread.Regs.e2, .int .u64 o.Thread.Regs.e3, .int .u64 o.Thread.Regs.e4, .int .u64 o.Thread.Regs.e5, .int .u64 o.Thread.Regs.e6, .int .u64 o.Thread.Regs.e7, .int .u64 o.Thread.Regs.e8, .int .u64 o.Thread.Regs.e9, .int .u64 o.Thread.Regs.e10, .int .u64 o.Thread.Regs.e11, .int .u64 o.Thread.Regs.e12, .int .u64 o.Thread.Regs.e13, .int .u64 o.Thread.Regs.e14, .int .u64 o.Thread.Regs.e15, .int .u64 o.Thread.Pc, .list (List.map encPairD o.Thread.Clear), .int .u64 o.Thread.Space.Cont, .int .u64 o.Thread.Space.Id, .int .u64 o.Thread.Handler, .int .u64 o.Thread.Vector, .int .i64 o.Thread.State, .int .u64 o.Thread.Wait.Ref.Cont, .int .u64 o.Thread.Wait.Ref.Id, .int .u64 o.Thread.Wait.Index, .int .u64 o.Thread.Wait.Val, .bool o.Thread.Wait.Dev, .list (List.map (encI .u64) o.Thread.Alerts), .int .u64 o.Thread.Span.Lo, .int .u64 o.Thread.Span.Hi, .list (List.map encPairD o.Thread.Labs.e0), .list (List.map encPairD o.Thread.Labs.e1), .list (List.map encPairD o.Thread.Labs.e2), .list (List.map encPairD o.Thread.Labs.e3), .list (List.map encPairD o.Gate.Grant), .list (List.map encPairD o.Gate.Clear), .int .u64 o.Gate.Space.Cont, .int .u64 o.Gate.Space.Id, .int .u64 o.Gate.Pc, .int .u64 o.Gate.Arg, .list (List.map (encI .u64) o.In), .list (List.map (encI .u64) o.Out)] :: [])) rfl (fun _ => rfl) rfl rfl rfl ?_
    refine lc ?_
    refine awp_ret ?_
    obtain rfl := pe h
    exact qfun_ret_of rfl (ares_cells2 tok rfl rfl) (Weak.refl _) rfl

theorem seg_Copy_w (o : ObjectD) (id_ : Int) (l : List PairD) (quota : Int) (r : ObjectD × Int) (h : seg_Copy o id_ l quota = some r) : PCall Try.prog 46 [.agg (encObjectD o), .int .u64 id_, .list (List.map encPairD l), .int .i64 quota] (.tuple [.agg [.int .u64 r.1.Id, .int .i64 r.1.Kind, .list (List.map encPairD r.1.Label), .int .i64 r.1.Quota, .bool r.1.Fixed, .list (List.map (encI .u64) r.1.Links), .list (List.map (encI .u64) r.1.Data), .list (List.map encMapD r.1.Maps), .int .u64 r.1.Thread.Regs.e0, .int .u64 r.1.Thread.Regs.e1, .int .u64 r.1.Thread.Regs.e2, .int .u64 r.1.Thread.Regs.e3, .int .u64 r.1.Thread.Regs.e4, .int .u64 r.1.Thread.Regs.e5, .int .u64 r.1.Thread.Regs.e6, .int .u64 r.1.Thread.Regs.e7, .int .u64 r.1.Thread.Regs.e8, .int .u64 r.1.Thread.Regs.e9, .int .u64 r.1.Thread.Regs.e10, .int .u64 r.1.Thread.Regs.e11, .int .u64 r.1.Thread.Regs.e12, .int .u64 r.1.Thread.Regs.e13, .int .u64 r.1.Thread.Regs.e14, .int .u64 r.1.Thread.Regs.e15, .int .u64 r.1.Thread.Pc, .list (List.map encPairD r.1.Thread.Clear), .int .u64 r.1.Thread.Space.Cont, .int .u64 r.1.Thread.Space.Id, .int .u64 r.1.Thread.Handler, .int .u64 r.1.Thread.Vector, .int .i64 r.1.Thread.State, .int .u64 r.1.Thread.Wait.Ref.Cont, .int .u64 r.1.Thread.Wait.Ref.Id, .int .u64 r.1.Thread.Wait.Index, .int .u64 r.1.Thread.Wait.Val, .bool r.1.Thread.Wait.Dev, .list (List.map (encI .u64) r.1.Thread.Alerts), .int .u64 r.1.Thread.Span.Lo, .int .u64 r.1.Thread.Span.Hi, .list (List.map encPairD r.1.Thread.Labs.e0), .list (List.map encPairD r.1.Thread.Labs.e1), .list (List.map encPairD r.1.Thread.Labs.e2), .list (List.map encPairD r.1.Thread.Labs.e3), .list (List.map encPairD r.1.Gate.Grant), .list (List.map encPairD r.1.Gate.Clear), .int .u64 r.1.Gate.Space.Cont, .int .u64 r.1.Gate.Space.Id, .int .u64 r.1.Gate.Pc, .int .u64 r.1.Gate.Arg, .list (List.map (encI .u64) r.1.In), .list (List.map (encI .u64) r.1.Out)], .int .i64 r.2]) := by
  replace h : post (seg_Copy o id_ l quota) (fun v => v = r) := ⟨_, h, rfl⟩
  unfold seg_Copy at h
  refine d_intro Try.func46 rfl (by decide +kernel) (ts := .agg (encObjectD o) :: .int .u64 id_ :: .list (List.map encPairD l) :: .int .i64 quota :: un 41) rfl fun B hB => ?_
  refine lc ?_ (by dsimp only [un])
  refine awp_seq ?_
  refine awp_region ?_
  refine dn rfl (hbx (cs := (encObjectD o)) 0 rfl rfl rfl) ?_
  refine dn rfl (head_alloc tok 1 rfl rfl) ?_
  refine dp rfl rfl ?_
  refine aops_nil ?_
  refine awp_seq ?_
  refine awp_block ?_
  refine awp_seq ?_
  refine awp_region ?_
  iterate 4 refine dp rfl rfl ?_
  refine aops_nil ?_
  refine cc h rfl (fun h => ?_) (fun h => ?_)
  · refine awp_seq ?_
    refine awp_region ?_
    refine dh rfl (head_build (r := (encObjectD ObjectD.zero)) tok rfl rfl rfl rfl rfl rfl) ?_
    refine d_store_all tok rfl rfl rfl rfl rfl rfl rfl rfl rfl (by dsimp only [List.set, AV.cellsOf]) (by dsimp only [putL, List.set]) ?_
    refine dp rfl rfl ?_
    refine aops_nil ?_
    refine awp_ret ?_
    obtain rfl := pe h
    exact qfun_ret_of rfl (ares_cells2 tok rfl rfl) (Weak.refl _) rfl
  · refine cw h (fun x2 => ⟨an 1 (.int .u64 id_ :: .list (List.map encPairD l) :: .int .i64 quota :: .ptr 0 0 :: an 3 (.ptr 1 0 :: an 7 (.bool x2 :: an 28 []))), [some (.var (encObjectD o)), some (.var (encObjectD ObjectD.zero))], []⟩) (fun x2 h => ?_) (fun h => ?_)
    · refine lc ?_
      refine cc h rfl (fun h => ?_) (fun h => ?_)
      · refine awp_seq ?_
        refine awp_region ?_
        refine dh rfl (head_build (r := (encObjectD ObjectD.zero)) tok rfl rfl rfl rfl rfl rfl) ?_
        refine d_store_all tok rfl rfl rfl rfl rfl rfl rfl rfl rfl (by dsimp only [List.set, AV.cellsOf]) (by dsimp only [putL, List.set]) ?_
        refine dp rfl rfl ?_
        refine aops_nil ?_
        refine awp_ret ?_
        obtain rfl := pe h
        exact qfun_ret_of rfl (ares_cells2 tok rfl rfl) (Weak.refl _) rfl
      · refine awp_skip ?_
        refine awp_seq ?_
        refine awp_draw 9 mixed (by decide +kernel) ?_
        iterate 2 refine kp rfl rfl ?_
        obtain ⟨x4, hx4, h⟩ := pb h
        refine kh rfl (head_callp (clone_pair_p hx4) rfl rfl rfl rfl) ?_
        iterate 3 refine kp rfl rfl ?_
        obtain ⟨x5, hx5, h⟩ := pb h
        refine kh rfl (head_callp (clone_u64_p hx5) rfl rfl rfl rfl) ?_
        refine kh rfl (head_build (r := (encObjectD ({ ObjectD.zero with Id := id_, Kind := (1 : Int), Label := x4, Quota := quota, Data := x5 } : ObjectD))) tok rfl rfl rfl rfl rfl rfl) ?_
        refine kn rfl (head_alloc tok 2 rfl rfl) ?_
        refine .nil ?_
        refine d_store_all tok rfl rfl rfl rfl rfl rfl rfl rfl rfl (by dsimp only [List.set, AV.cellsOf]) (by dsimp only [putL, List.set]) ?_
        refine aops_nil ?_
        iterate 2 refine awp_seq ?_
        refine awp_region ?_
        refine dp rfl rfl ?_
        obtain ⟨v6, hv6, h⟩ := pb h
        refine dh rfl (head_callp (obj_Sound_w _ _ hv6) rfl rfl rfl rfl) ?_
        refine dp rfl rfl ?_
        refine aops_nil ?_
        refine cc h rfl (fun h => ?_) (fun h => ?_)
        · refine awp_seq ?_
          refine awp_region ?_
          refine dh rfl (head_build (r := (encObjectD ObjectD.zero)) tok rfl rfl rfl rfl rfl rfl) ?_
          refine d_store_all tok rfl rfl rfl rfl rfl rfl rfl rfl rfl (by dsimp only [List.set, AV.cellsOf]) (by dsimp only [putL, List.set]) ?_
          refine dp rfl rfl ?_
          refine aops_nil ?_
          refine awp_ret ?_
          obtain rfl := pe h
          exact qfun_ret_of rfl (ares_cells2 tok rfl rfl) (Weak.refl _) rfl
        · refine awp_skip ?_
          refine awp_seq ?_
          refine awp_region ?_
          refine dp rfl rfl ?_
          refine d_store_all tok rfl rfl rfl rfl rfl rfl rfl rfl rfl (by dsimp only [List.set, AV.cellsOf]) (by dsimp only [putL, List.set]) ?_
          refine dp rfl rfl ?_
          refine aops_nil ?_
          refine awp_ret ?_
          obtain rfl := pe h
          exact qfun_ret_of rfl (ares_cells2 tok rfl rfl) (Weak.refl _) rfl
    · refine awp_draw 14 mixed (by decide +kernel) ?_
      iterate 2 refine kp rfl rfl ?_
      refine ki h rfl (hpr rfl) (fun h => ?_) (fun h => ?_)
      · refine kk rfl ?_
        iterate 9 refine kk rfl ?_
        refine kp rfl rfl ?_
        refine .nil ?_
        refine dp rfl rfl ?_
        refine aops_nil ?_
        exact ⟨true, (sk [1, 2, 3, 4, 8, 16] [] rfl), (pe h :)⟩
      · refine kp rfl rfl ?_
        refine kp rfl rfl ?_
        refine ki h rfl (hpr rfl) (fun h => ?_) (fun h => ?_)
        · refine kp rfl rfl ?_
          refine kp rfl rfl ?_
          refine kh rfl (head_len_map tok rfl rfl rfl rfl) ?_
          refine kp rfl rfl ?_
          obtain ⟨v10, hv10, h⟩ := pb h
          refine kh rfl (head_callp (seg_room_w _ _ hv10) rfl rfl rfl rfl) ?_
          iterate 3 refine kp rfl rfl ?_
          refine .nil ?_
          refine dp rfl rfl ?_
          refine aops_nil ?_
          exact ⟨(decide ((o.Data.length : Int) > v10)), (sk [1, 2, 3, 4, 8, 16] [] rfl), (pe h :)⟩
        · refine kk rfl ?_
          iterate 5 refine kk rfl ?_
          iterate 2 refine kp rfl rfl ?_
          refine .nil ?_
          refine dp rfl rfl ?_
          refine aops_nil ?_
          exact ⟨false, (sk [1, 2, 3, 4, 8, 16] [] rfl), (pe h :)⟩

theorem seg_Page_w (o : ObjectD) (n : Int) (r : Arr16 Int) (h : seg_Page o n = some r) : PCall Try.prog 53 [.agg (encObjectD o), .int .i64 n] (.agg [.int .u64 r.e0, .int .u64 r.e1, .int .u64 r.e2, .int .u64 r.e3, .int .u64 r.e4, .int .u64 r.e5, .int .u64 r.e6, .int .u64 r.e7, .int .u64 r.e8, .int .u64 r.e9, .int .u64 r.e10, .int .u64 r.e11, .int .u64 r.e12, .int .u64 r.e13, .int .u64 r.e14, .int .u64 r.e15]) := by
  replace h : post (seg_Page o n) (fun v => v = r) := ⟨_, h, rfl⟩
  unfold seg_Page at h
  refine d_intro Try.func53 rfl (by decide +kernel) (ts := .agg (encObjectD o) :: .int .i64 n :: un 38) rfl fun B hB => ?_
  refine lc ?_ (by dsimp only [un])
  refine awp_seq ?_
  refine awp_region ?_
  refine dn rfl (hbx (cs := (encObjectD o)) 0 rfl rfl rfl) ?_
  refine dn rfl (head_alloc tok 1 rfl rfl) ?_
  refine aops_nil ?_
  refine awp_seq ?_
  refine cw h (fun x1 => ⟨an 1 (.int .i64 n :: .ptr 0 0 :: an 1 (.ptr 1 0 :: an 12 (.bool x1 :: an 22 []))), [some (.var (encObjectD o)), some (.var [.int .u64 (0 : Int), .int .u64 (0 : Int), .int .u64 (0 : Int), .int .u64 (0 : Int), .int .u64 (0 : Int), .int .u64 (0 : Int), .int .u64 (0 : Int), .int .u64 (0 : Int), .int .u64 (0 : Int), .int .u64 (0 : Int), .int .u64 (0 : Int), .int .u64 (0 : Int), .int .u64 (0 : Int), .int .u64 (0 : Int), .int .u64 (0 : Int), .int .u64 (0 : Int)])], []⟩) (fun x1 h => ?_) (fun h => ?_)
  · refine lc ?_
    refine cc h rfl (fun h => ?_) (fun h => ?_)
    · refine awp_seq ?_
      refine awp_region ?_
      refine dp rfl rfl ?_
      refine d_store_all tok rfl rfl rfl rfl rfl rfl rfl rfl rfl (by dsimp only [List.set, AV.cellsOf]) (by dsimp only [putL, List.set]) ?_
      refine aops_nil ?_
      refine awp_ret ?_
      obtain rfl := pe h
      exact qfun_ret_of rfl (ares_cell1 tok rfl rfl rfl rfl) (Weak.refl _) rfl
    · refine awp_skip ?_
      iterate 2 refine awp_seq ?_
      refine awp_region ?_
      refine dp rfl rfl ?_
      refine aops_nil ?_
      refine awp_block ?_
      refine cl h (fun x3 => ⟨an 1 (.int .i64 n :: .ptr 0 0 :: an 1 (.ptr 1 0 :: an 14 (.int .i64 x3.1 :: an 20 []))), [some (.var (encObjectD o)), some (.var [.int .u64 x3.2.e0, .int .u64 x3.2.e1, .int .u64 x3.2.e2, .int .u64 x3.2.e3, .int .u64 x3.2.e4, .int .u64 x3.2.e5, .int .u64 x3.2.e6, .int .u64 x3.2.e7, .int .u64 x3.2.e8, .int .u64 x3.2.e9, .int .u64 x3.2.e10, .int .u64 x3.2.e11, .int .u64 x3.2.e12, .int .u64 x3.2.e13, .int .u64 x3.2.e14, .int .u64 x3.2.e15])], []⟩) (sk [1, 2, 4, 19] [] rfl) (fun rec x3 h => ?_)
      unfold seg_Page_L0 at h
      refine lc ?_
      refine awp_seq ?_
      refine awp_region ?_
      refine dp rfl rfl ?_
      refine aops_nil ?_
      refine awp_seq ?_
      refine cc h rfl (fun h => ?_) (fun h => ?_)
      · refine awp_skip ?_
        refine cw h (fun x6 => ⟨an 1 (.int .i64 n :: .ptr 0 0 :: an 1 (.ptr 1 0 :: an 14 (.int .i64 x3.1 :: an 20 []))), [some (.var (encObjectD o)), some (.var [.int .u64 x6.e0, .int .u64 x6.e1, .int .u64 x6.e2, .int .u64 x6.e3, .int .u64 x6.e4, .int .u64 x6.e5, .int .u64 x6.e6, .int .u64 x6.e7, .int .u64 x6.e8, .int .u64 x6.e9, .int .u64 x6.e10, .int .u64 x6.e11, .int .u64 x6.e12, .int .u64 x6.e13, .int .u64 x6.e14, .int .u64 x6.e15])], []⟩) (fun x6 h => ?_) (fun h => ?_)
        · refine lc ?_
          refine awp_region ?_
          iterate 2 refine dp rfl rfl ?_
          refine aops_nil ?_
          exact ⟨((IntKind.i64.wrap (x3.1 + (1 : Int))), x6), (sk [1, 2, 4, 19] [] rfl), h⟩
        · refine awp_block ?_
          refine awp_seq ?_
          refine awp_region ?_
          iterate 2 refine dp rfl rfl ?_
          refine aops_nil ?_
          refine awp_seq ?_
          refine awp_region ?_
          iterate 5 refine dp rfl rfl ?_
          refine aops_nil ?_
          refine awp_seq ?_
          refine awp_region ?_
          iterate 3 refine dp rfl rfl ?_
          refine dh rfl (head_len_map tok rfl rfl rfl rfl) ?_
          refine dp rfl rfl ?_
          refine aops_nil ?_
          refine cc h rfl (fun h => ?_) (fun h => ?_)
          · refine awp_region ?_
            iterate 4 refine dp rfl rfl ?_
            obtain ⟨x8, hx8, h⟩ := pb h
            refine dh rfl (head_index_map tok hx8 rfl rfl rfl rfl rfl rfl rfl) ?_
            refine dp rfl rfl ?_
            obtain ⟨j9, hj9, h⟩ := pb h
            have j9_lt := inr_lt hj9
            refine dh rfl (head_index_arrn tok hj9 rfl rfl rfl rfl rfl rfl rfl) ?_
            refine d_store (cs' := [.int .u64 ((Arr16.set x3.2 j9 x8).e0), .int .u64 ((Arr16.set x3.2 j9 x8).e1), .int .u64 ((Arr16.set x3.2 j9 x8).e2), .int .u64 ((Arr16.set x3.2 j9 x8).e3), .int .u64 ((Arr16.set x3.2 j9 x8).e4), .int .u64 ((Arr16.set x3.2 j9 x8).e5), .int .u64 ((Arr16.set x3.2 j9 x8).e6), .int .u64 ((Arr16.set x3.2 j9 x8).e7), .int .u64 ((Arr16.set x3.2 j9 x8).e8), .int .u64 ((Arr16.set x3.2 j9 x8).e9), .int .u64 ((Arr16.set x3.2 j9 x8).e10), .int .u64 ((Arr16.set x3.2 j9 x8).e11), .int .u64 ((Arr16.set x3.2 j9 x8).e12), .int .u64 ((Arr16.set x3.2 j9 x8).e13), .int .u64 ((Arr16.set x3.2 j9 x8).e14), .int .u64 ((Arr16.set x3.2 j9 x8).e15)]) tok rfl rfl rfl rfl rfl rfl rfl (nat16 (P := fun j9 => Nat.ble (0 + j9 + 1) 16 = true) ⟨rfl, rfl, rfl, rfl, rfl, rfl, rfl, rfl, rfl, rfl, rfl, rfl, rfl, rfl, rfl, rfl⟩ j9_lt) rfl (nat16 (P := fun j9 => splice (0 + j9) [.int .u64 x8] [.int .u64 x3.2.e0, .int .u64 x3.2.e1, .int .u64 x3.2.e2, .int .u64 x3.2.e3, .int .u64 x3.2.e4, .int .u64 x3.2.e5, .int .u64 x3.2.e6, .int .u64 x3.2.e7, .int .u64 x3.2.e8, .int .u64 x3.2.e9, .int .u64 x3.2.e10, .int .u64 x3.2.e11, .int .u64 x3.2.e12, .int .u64 x3.2.e13, .int .u64 x3.2.e14, .int .u64 x3.2.e15] = [.int .u64 ((Arr16.set x3.2 j9 x8).e0), .int .u64 ((Arr16.set x3.2 j9 x8).e1), .int .u64 ((Arr16.set x3.2 j9 x8).e2), .int .u64 ((Arr16.set x3.2 j9 x8).e3), .int .u64 ((Arr16.set x3.2 j9 x8).e4), .int .u64 ((Arr16.set x3.2 j9 x8).e5), .int .u64 ((Arr16.set x3.2 j9 x8).e6), .int .u64 ((Arr16.set x3.2 j9 x8).e7), .int .u64 ((Arr16.set x3.2 j9 x8).e8), .int .u64 ((Arr16.set x3.2 j9 x8).e9), .int .u64 ((Arr16.set x3.2 j9 x8).e10), .int .u64 ((Arr16.set x3.2 j9 x8).e11), .int .u64 ((Arr16.set x3.2 j9 x8).e12), .int .u64 ((Arr16.set x3.2 j9 x8).e13), .int .u64 ((Arr16.set x3.2 j9 x8).e14), .int .u64 ((Arr16.set x3.2 j9 x8).e15)]) ⟨rfl, rfl, rfl, rfl, rfl, rfl, rfl, rfl, rfl, rfl, rfl, rfl, rfl, rfl, rfl, rfl⟩ j9_lt) (by dsimp only [List.set, AV.cellsOf]) (by dsimp only [putL, List.set]) ?_
            refine aops_nil ?_
            exact ⟨(Arr16.set x3.2 j9 x8), (sk [1, 2, 4, 19] [] rfl), (pe h :)⟩
          · refine awp_skip ?_
            exact ⟨x3.2, (sk [1, 2, 4, 19] [] rfl), (pe h :)⟩
      · refine awp_exit ?_
        replace h := pe h
        let y4exit0 : Arr16 Int := x3.2
        refine awp_seq ?_
        refine awp_region ?_
        refine dp rfl rfl ?_
        refine d_store_all tok rfl rfl rfl rfl rfl rfl rfl rfl rfl (by dsimp only [List.set, AV.cellsOf]) (by dsimp only [putL, List.set]) ?_
        refine aops_nil ?_
        refine awp_ret ?_
        obtain rfl := pe h
        exact qfun_ret_of rfl (ares_cell1 tok rfl rfl rfl rfl) (Weak.refl _) rfl
  · refine awp_region ?_
    iterate 3 refine dp rfl rfl ?_
    refine ca h 4 (fun x11 => ⟨an 1 (.int .i64 n :: .ptr 0 0 :: an 1 (.ptr 1 0 :: an 8 (.bool x11 :: an 26 []))), [some (.var (encObjectD o)), some (.var [.int .u64 (0 : Int), .int .u64 (0 : Int), .int .u64 (0 : Int), .int .u64 (0 : Int), .int .u64 (0 : Int), .int .u64 (0 : Int), .int .u64 (0 : Int), .int .u64 (0 : Int), .int .u64 (0 : Int), .int .u64 (0 : Int), .int .u64 (0 : Int), .int .u64 (0 : Int), .int .u64 (0 : Int), .int .u64 (0 : Int), .int .u64 (0 : Int), .int .u64 (0 : Int)])], []⟩) (fun x11 h => ?_) (fun h => ?_)
    · refine lo ?_
      refine di h rfl (hpr rfl) (fun h => ?_) (fun h => ?_)
      · refine dk rfl ?_
        refine dk rfl ?_
        refine dp rfl rfl ?_
        refine aops_nil ?_
        exact ⟨true, (sk [1, 2, 4, 17] [] rfl), (pe h :)⟩
      · refine dp rfl rfl ?_
        iterate 2 refine dp rfl rfl ?_
        refine aops_nil ?_
        exact ⟨(decide (n ≥ (1048576 : Int))), (sk [1, 2, 4, 17] [] rfl), (pe h :)⟩
    · refine di h rfl (hpr rfl) (fun h => ?_) (fun h => ?_)
      · refine dk rfl ?_
        refine dk rfl ?_
        refine dp rfl rfl ?_
        refine aops_nil ?_
        exact ⟨true, (sk [1, 2, 4, 13] [] rfl), (pe h :)⟩
      · refine dp rfl rfl ?_
        iterate 2 refine dp rfl rfl ?_
        refine aops_nil ?_
        exact ⟨(decide (n < (0 : Int))), (sk [1, 2, 4, 13] [] rfl), (pe h :)⟩

theorem law16_brief_w (o : ObjectD) (r : Bool) (h : law16_brief o = some r) : PCall Try.prog 42 [.agg (encObjectD o)] (.bool r) := by
  replace h : post (law16_brief o) (fun v => v = r) := ⟨_, h, rfl⟩
  unfold law16_brief at h
  refine d_intro Try.func42 rfl (by decide +kernel) (ts := .agg (encObjectD o) :: un 28) rfl fun B hB => ?_
  refine lc ?_ (by dsimp only [un])
  refine awp_seq ?_
  refine awp_region ?_
  refine dn rfl (hbx (cs := (encObjectD o)) 0 rfl rfl rfl) ?_
  refine dp rfl rfl ?_
  refine aops_nil ?_
  refine awp_seq ?_
  refine awp_region ?_
  iterate 2 refine dp rfl rfl ?_
  refine dh rfl (head_len_map tok rfl rfl rfl rfl) ?_
  refine dp rfl rfl ?_
  refine ca h 6 (fun x2 => ⟨an 1 (.ptr 0 0 :: an 10 (.bool x2 :: an 16 [])), [some (.var (encObjectD o))], []⟩) (fun x2 h => ?_) (fun h => ?_)
  · refine lo ?_
    refine ca h 6 (fun x4 => ⟨an 1 (.ptr 0 0 :: an 16 (.bool x4 :: an 10 [])), [some (.var (encObjectD o))], []⟩) (fun x4 h => ?_) (fun h => ?_)
    · refine lo ?_
      refine ca h 6 (fun x6 => ⟨an 1 (.ptr 0 0 :: an 22 (.bool x6 :: an 4 [])), [some (.var (encObjectD o))], []⟩) (fun x6 h => ?_) (fun h => ?_)
      · refine lo ?_
        refine di h rfl (hpr rfl) (fun h => ?_) (fun h => ?_)
        · refine dp rfl rfl ?_
          obtain ⟨v8, hv8, h⟩ := pb h
          refine dh rfl (head_callp (r13_Sound_w _ _ hv8) rfl rfl rfl rfl) ?_
          iterate 2 refine dp rfl rfl ?_
          refine aops_nil ?_
          refine awp_ret ?_
          obtain rfl := pe h
          exact qfun_ret rfl rfl (Weak.refl _) rfl
        · refine dk rfl ?_
          refine dk rfl ?_
          iterate 2 refine dp rfl rfl ?_
          refine aops_nil ?_
          refine awp_ret ?_
          obtain rfl := pe h
          exact qfun_ret rfl rfl (Weak.refl _) rfl
      · refine di h rfl (hpr rfl) (fun h => ?_) (fun h => ?_)
        · refine dp rfl rfl ?_
          refine dp rfl rfl ?_
          refine dh rfl (head_len_map tok rfl rfl rfl rfl) ?_
          iterate 2 refine dp rfl rfl ?_
          refine aops_nil ?_
          exact ⟨(decide ((o.Maps.length : Int) ≤ (20 : Int))), (sk [1, 24] [] rfl), (pe h :)⟩
        · refine dk rfl ?_
          iterate 3 refine dk rfl ?_
          refine dp rfl rfl ?_
          refine aops_nil ?_
          exact ⟨false, (sk [1, 24] [] rfl), (pe h :)⟩
    · refine di h rfl (hpr rfl) (fun h => ?_) (fun h => ?_)
      · refine dp rfl rfl ?_
        refine dp rfl rfl ?_
        refine dh rfl (head_len_map tok rfl rfl rfl rfl) ?_
        iterate 2 refine dp rfl rfl ?_
        refine aops_nil ?_
        exact ⟨(decide ((o.Links.length : Int) ≤ (70 : Int))), (sk [1, 18] [] rfl), (pe h :)⟩
      · refine dk rfl ?_
        iterate 3 refine dk rfl ?_
        refine dp rfl rfl ?_
        refine aops_nil ?_
        exact ⟨false, (sk [1, 18] [] rfl), (pe h :)⟩
  · refine di h rfl (hpr rfl) (fun h => ?_) (fun h => ?_)
    · refine dp rfl rfl ?_
      refine dp rfl rfl ?_
      refine dh rfl (head_len_map tok rfl rfl rfl rfl) ?_
      iterate 2 refine dp rfl rfl ?_
      refine aops_nil ?_
      exact ⟨(decide ((o.Data.length : Int) ≤ (200 : Int))), (sk [1, 12] [] rfl), (pe h :)⟩
    · refine dk rfl ?_
      iterate 3 refine dk rfl ?_
      refine dp rfl rfl ?_
      refine aops_nil ?_
      exact ⟨false, (sk [1, 12] [] rfl), (pe h :)⟩

theorem law16_awake_w  (r : Bool) (h : law16_awake = some r) : PCall Try.prog 43 [] (.bool r) := by
  replace h : post (law16_awake) (fun v => v = r) := ⟨_, h, rfl⟩
  unfold law16_awake at h
  refine d_intro Try.func43 rfl (by decide +kernel) (ts := un 40) rfl fun B hB => ?_
  refine lc ?_ (by dsimp only [un])
  refine awp_seq ?_
  refine awp_region ?_
  refine dp rfl rfl ?_
  refine aops_nil ?_
  refine awp_seq ?_
  refine awp_region ?_
  refine dh rfl (head_build (r := (encObjectD ({ ObjectD.zero with Id := (2 : Int), Kind := (1 : Int), Quota := (2 : Int) } : ObjectD))) tok rfl rfl rfl rfl rfl rfl) ?_
  refine dn rfl (head_alloc tok 0 rfl rfl) ?_
  refine d_store_all tok rfl rfl rfl rfl rfl rfl rfl rfl rfl (by dsimp only [List.set, AV.cellsOf]) (by dsimp only [putL, List.set]) ?_
  refine aops_nil ?_
  refine awp_seq ?_
  refine awp_region ?_
  refine dp rfl rfl ?_
  obtain ⟨v1, hv1, h⟩ := pb h
  refine dh rfl (head_callp (seg_Resize_w _ _ _ hv1) rfl rfl rfl rfl) ?_
  iterate 3 refine dp rfl rfl ?_
  refine dn rfl (head_alloc tok 1 rfl rfl) ?_
  refine d_store_all tok rfl rfl rfl rfl rfl rfl rfl rfl rfl (by dsimp only [List.set, AV.cellsOf]) (by dsimp only [putL, List.set]) ?_
  refine dp rfl rfl ?_
  refine aops_nil ?_
  refine awp_seq ?_
  refine awp_region ?_
  refine dp rfl rfl ?_
  obtain ⟨v2, hv2, h⟩ := pb h
  refine dh rfl (head_callp (seg_Resize_w _ _ _ hv2) rfl rfl rfl rfl) ?_
  iterate 3 refine dp rfl rfl ?_
  refine dn rfl (head_alloc tok 2 rfl rfl) ?_
  refine d_store_all tok rfl rfl rfl rfl rfl rfl rfl rfl rfl (by dsimp only [List.set, AV.cellsOf]) (by dsimp only [putL, List.set]) ?_
  refine dp rfl rfl ?_
  refine aops_nil ?_
  refine awp_seq ?_
  refine awp_region ?_
  refine dp rfl rfl ?_
  obtain ⟨v3, hv3, h⟩ := pb h
  refine dh rfl (head_callp (seg_Get_w _ _ _ hv3) rfl rfl rfl rfl) ?_
  iterate 5 refine dp rfl rfl ?_
  refine aops_nil ?_
  refine awp_seq ?_
  refine awp_region ?_
  iterate 2 refine dp rfl rfl ?_
  refine ca h 4 (fun x5 => ⟨an 4 (.ptr 2 0 :: an 2 (.int .i64 v3.2 :: an 21 (.bool x5 :: an 10 []))), [none, none, some (.var (encObjectD v2.1))], []⟩) (fun x5 h => ?_) (fun h => ?_)
  · refine lo ?_
    refine ca h 6 (fun x7 => ⟨an 7 (.int .i64 v3.2 :: an 27 (.bool x7 :: an 4 [])), [none, none, none], []⟩) (fun x7 h => ?_) (fun h => ?_)
    · refine lo ?_
      refine di h rfl (hpr rfl) (fun h => ?_) (fun h => ?_)
      · refine dp rfl rfl ?_
        iterate 3 refine dp rfl rfl ?_
        refine aops_nil ?_
        refine awp_ret ?_
        obtain rfl := pe h
        exact qfun_ret rfl rfl (Weak.refl _) rfl
      · refine dk rfl ?_
        refine dk rfl ?_
        iterate 2 refine dp rfl rfl ?_
        refine aops_nil ?_
        refine awp_ret ?_
        obtain rfl := pe h
        exact qfun_ret rfl rfl (Weak.refl _) rfl
    · refine di h rfl (hpr rfl) (fun h => ?_) (fun h => ?_)
      · refine dp rfl rfl ?_
        refine dp rfl rfl ?_
        refine dh rfl (head_len_map tok rfl rfl rfl rfl) ?_
        iterate 2 refine dp rfl rfl ?_
        refine aops_nil ?_
        exact ⟨((v2.1.Data.length : Int) == (3 : Int)), (SWeak.trans (sk [7, 35] [] rfl) (sweak_kill 2 rfl) (Nat.le_of_ble_eq_true rfl)), (pe h :)⟩
      · refine dk rfl ?_
        iterate 3 refine dk rfl ?_
        refine dp rfl rfl ?_
        refine aops_nil ?_
        exact ⟨false, (SWeak.trans (sk [7, 35] [] rfl) (sweak_kill 2 rfl) (Nat.le_of_ble_eq_true rfl)), (pe h :)⟩
  · refine di h rfl (hpr rfl) (fun h => ?_) (fun h => ?_)
    · refine dp rfl rfl ?_
      iterate 2 refine dp rfl rfl ?_
      refine aops_nil ?_
      exact ⟨(v2.2 == (0 : Int)), (SWeak.trans (SWeak.trans (sk [4, 7, 29] [] rfl) (sweak_kill 0 rfl) (Nat.le_of_ble_eq_true rfl)) (sweak_kill 1 rfl) (Nat.le_of_ble_eq_true rfl)), (pe h :)⟩
    · refine dk rfl ?_
      refine dk rfl ?_
      refine dp rfl rfl ?_
      refine aops_nil ?_
      exact ⟨false, (SWeak.trans (SWeak.trans (sk [4, 7, 29] [] rfl) (sweak_kill 0 rfl) (Nat.le_of_ble_eq_true rfl)) (sweak_kill 1 rfl) (Nat.le_of_ble_eq_true rfl)), (pe h :)⟩

theorem law16_SegSwaps_w (o : ObjectD) (at_ : Int) (to_ : Int) (v : Int) (u : Int) (n : Int) (r : Bool) (h : law16_SegSwaps o at_ to_ v u n = some r) : PCall Try.prog 5 [.agg (encObjectD o), .int .u64 at_, .int .u64 to_, .int .u64 v, .int .u64 u, .int .i64 n] (.bool r) := by
  replace h : post (law16_SegSwaps o at_ to_ v u n) (fun v => v = r) := ⟨_, h, rfl⟩
  unfold law16_SegSwaps at h
  refine d_intro Try.func5 rfl (by decide +kernel) (ts := .agg (encObjectD o) :: .int .u64 at_ :: .int .u64 to_ :: .int .u64 v :: .int .u64 u :: .int .i64 n :: un 167) rfl fun B hB => ?_
  refine lc ?_ (by dsimp only [un])
  refine awp_seq ?_
  refine awp_region ?_
  refine dn rfl (hbx (cs := (encObjectD o)) 0 rfl rfl rfl) ?_
  refine dp rfl rfl ?_
  refine aops_nil ?_
  refine awp_seq ?_
  refine cw h (fun x1 => ⟨an 1 (.int .u64 at_ :: .int .u64 to_ :: .int .u64 v :: .int .u64 u :: .int .i64 n :: .ptr 0 0 :: an 33 (.bool x1 :: an 132 [])), [some (.var (encObjectD o))], []⟩) (fun x1 h => ?_) (fun h => ?_)
  · refine lc ?_
    refine cc h rfl (fun h => ?_) (fun h => ?_)
    · refine awp_seq ?_
      refine awp_region ?_
      obtain ⟨v3, hv3, h⟩ := pb h
      refine dh rfl (head_callp (law16_awake_w _ hv3) rfl rfl rfl rfl) ?_
      refine dp rfl rfl ?_
      refine aops_nil ?_
      refine awp_ret ?_
      obtain rfl := pe h
      exact qfun_ret rfl rfl (Weak.refl _) rfl
    · refine awp_skip ?_
      refine awp_seq ?_
      refine awp_region ?_
      iterate 3 refine dp rfl rfl ?_
      obtain ⟨v4, hv4, h⟩ := pb h
      refine dh rfl (head_callp (seg_Put_w _ _ _ _ hv4) rfl rfl rfl rfl) ?_
      iterate 3 refine dp rfl rfl ?_
      refine dn rfl (head_alloc tok 1 rfl rfl) ?_
      refine d_store_all tok rfl rfl rfl rfl rfl rfl rfl rfl rfl (by dsimp only [List.set, AV.cellsOf]) (by dsimp only [putL, List.set]) ?_
      refine dp rfl rfl ?_
      refine aops_nil ?_
      refine awp_seq ?_
      refine awp_region ?_
      iterate 3 refine dp rfl rfl ?_
      obtain ⟨v5, hv5, h⟩ := pb h
      refine dh rfl (head_callp (seg_Put_w _ _ _ _ hv5) rfl rfl rfl rfl) ?_
      iterate 3 refine dp rfl rfl ?_
      refine dn rfl (head_alloc tok 2 rfl rfl) ?_
      refine d_store_all tok rfl rfl rfl rfl rfl rfl rfl rfl rfl (by dsimp only [List.set, AV.cellsOf]) (by dsimp only [putL, List.set]) ?_
      refine dp rfl rfl ?_
      refine aops_nil ?_
      refine ce (α := Unit) (γ := (Unit) ⊕ (Unit)) (fun q => (Sum.inr q)) h (fun x6 => ⟨an 5 (.int .i64 n :: .ptr 0 0 :: an 166 []), [some (.var (encObjectD o)), none, none], []⟩) (fun x6 h => ?_) (fun h => ?_)
      · refine lc ?_
        refine ce (α := Unit) (γ := (Unit) ⊕ (Unit)) (fun q => (Sum.inr q)) h (fun x7 => ⟨an 6 (.ptr 0 0 :: an 166 []), [some (.var (encObjectD o)), none, none, none], []⟩) (fun x7 h => ?_) (fun h => ?_)
        · refine lc ?_
          refine awp_seq ?_
          refine awp_region ?_
          iterate 7 refine dp rfl rfl ?_
          obtain ⟨v8, hv8, h⟩ := pb h
          refine dh rfl (head_callp (seg_Copy_w _ _ _ _ _ hv8) rfl rfl rfl rfl) ?_
          iterate 3 refine dp rfl rfl ?_
          refine dn rfl (head_alloc tok 4 rfl rfl) ?_
          refine d_store_all tok rfl rfl rfl rfl rfl rfl rfl rfl rfl (by dsimp only [List.set, AV.cellsOf]) (by dsimp only [putL, List.set]) ?_
          refine dp rfl rfl ?_
          refine aops_nil ?_
          refine awp_seq ?_
          refine awp_region ?_
          refine dp rfl rfl ?_
          refine d_store (cs' := (encObjectD ({ o with Fixed := false } : ObjectD))) tok rfl rfl rfl rfl rfl rfl rfl rfl rfl rfl (by dsimp only [List.set, AV.cellsOf]) (by dsimp only [putL, List.set]) ?_
          refine aops_nil ?_
          refine awp_seq ?_
          refine awp_region ?_
          iterate 2 refine dp rfl rfl ?_
          refine ca h 5 (fun x10 => ⟨an 169 (.bool x10 :: an 3 []), [none, none, none, none, none], []⟩) (fun x10 h => ?_) (fun h => ?_)
          · refine lo ?_
            refine di h rfl (hpr rfl) (fun h => ?_) (fun h => ?_)
            · obtain ⟨v12, hv12, h⟩ := pb h
              refine dh rfl (head_callp (law16_awake_w _ hv12) rfl rfl rfl rfl) ?_
              iterate 2 refine dp rfl rfl ?_
              refine aops_nil ?_
              refine awp_ret ?_
              obtain rfl := pe h
              exact qfun_ret rfl rfl (Weak.refl _) rfl
            · refine dk rfl ?_
              iterate 2 refine dp rfl rfl ?_
              refine aops_nil ?_
              refine awp_ret ?_
              obtain rfl := pe h
              exact qfun_ret rfl rfl (Weak.refl _) rfl
          · refine di h rfl (hpr rfl) (fun h => ?_) (fun h => ?_)
            · refine dp rfl rfl ?_
              refine dp rfl rfl ?_
              obtain ⟨v13, hv13, h⟩ := pb h
              refine dh rfl (head_callp (r13_SameOne_w _ _ _ hv13) rfl rfl rfl rfl) ?_
              refine dp rfl rfl ?_
              refine aops_nil ?_
              exact ⟨v13, (SWeak.trans (SWeak.trans (sk [169] [] rfl) (sweak_kill 0 rfl) (Nat.le_of_ble_eq_true rfl)) (sweak_kill 4 rfl) (Nat.le_of_ble_eq_true rfl)), (pe h :)⟩
            · refine dk rfl ?_
              iterate 2 refine dk rfl ?_
              refine dp rfl rfl ?_
              refine aops_nil ?_
              exact ⟨false, (SWeak.trans (SWeak.trans (sk [169] [] rfl) (sweak_kill 0 rfl) (Nat.le_of_ble_eq_true rfl)) (sweak_kill 4 rfl) (Nat.le_of_ble_eq_true rfl)), (pe h :)⟩
        · refine awp_seq ?_
          refine awp_region ?_
          iterate 2 refine dp rfl rfl ?_
          obtain ⟨v14, hv14, h⟩ := pb h
          refine dh rfl (head_callp (seg_Resize_w _ _ _ hv14) rfl rfl rfl rfl) ?_
          iterate 3 refine dp rfl rfl ?_
          refine dn rfl (head_alloc tok 3 rfl rfl) ?_
          refine d_store_all tok rfl rfl rfl rfl rfl rfl rfl rfl rfl (by dsimp only [List.set, AV.cellsOf]) (by dsimp only [putL, List.set]) ?_
          refine dp rfl rfl ?_
          refine aops_nil ?_
          refine cw h (fun x15 => ⟨an 5 (.int .i64 n :: .ptr 0 0 :: an 14 (.ptr 3 0 :: an 88 (.bool x15 :: an 62 []))), [some (.var (encObjectD o)), none, none, some (.var (encObjectD v14.1))], []⟩) (fun x15 h => ?_) (fun h => ?_)
          · refine lc ?_
            refine cc h rfl (fun h => ?_) (fun h => ?_)
            · refine awp_seq ?_
              refine awp_region ?_
              iterate 3 refine dp rfl rfl ?_
              refine dh rfl (head_len_map tok rfl rfl rfl rfl) ?_
              obtain ⟨v17, hv17, h⟩ := pb h
              refine dh rfl (head_callp (seg_Resize_w _ _ _ hv17) rfl rfl rfl rfl) ?_
              iterate 3 refine dp rfl rfl ?_
              refine dn rfl (head_alloc tok 4 rfl rfl) ?_
              refine d_store_all tok rfl rfl rfl rfl rfl rfl rfl rfl rfl (by dsimp only [List.set, AV.cellsOf]) (by dsimp only [putL, List.set]) ?_
              refine dp rfl rfl ?_
              refine aops_nil ?_
              iterate 2 refine awp_seq ?_
              refine awp_region ?_
              iterate 2 refine dp rfl rfl ?_
              refine dh rfl (head_len_map tok rfl rfl rfl rfl) ?_
              refine dp rfl rfl ?_
              refine aops_nil ?_
              refine awp_block ?_
              refine cl h (fun x18 => ⟨an 5 (.int .i64 n :: .ptr 0 0 :: an 17 (.int .i64 v17.2 :: an 95 (.list (List.map (encI .u64) v17.1.Data) :: .int .i64 (v17.1.Data.length : Int) :: .int .i64 x18 :: an 50 []))), [some (.var (encObjectD o)), none, none, none, none], []⟩) (SWeak.trans (SWeak.trans (sk [5, 6, 24, 120, 121, 122] [] rfl) (sweak_kill 3 rfl) (Nat.le_of_ble_eq_true rfl)) (sweak_kill 4 rfl) (Nat.le_of_ble_eq_true rfl)) (fun rec x18 h => ?_)
              unfold law16_SegSwaps_L0 at h
              refine lc ?_
              refine awp_seq ?_
              refine awp_region ?_
              refine dp rfl rfl ?_
              refine aops_nil ?_
              refine awp_seq ?_
              refine cc h rfl (fun h => ?_) (fun h => ?_)
              · refine awp_skip ?_
                refine awp_seq ?_
                refine awp_block ?_
                refine awp_seq ?_
                refine awp_region ?_
                refine dp rfl rfl ?_
                obtain ⟨x21, hx21, h⟩ := pb h
                refine dh rfl (head_index_map tok hx21 rfl rfl rfl rfl rfl rfl rfl) ?_
                iterate 3 refine dp rfl rfl ?_
                refine aops_nil ?_
                refine cw h (fun x22 => ⟨an 5 (.int .i64 n :: .ptr 0 0 :: an 17 (.int .i64 v17.2 :: an 95 (.list (List.map (encI .u64) v17.1.Data) :: .int .i64 (v17.1.Data.length : Int) :: .int .i64 x18 :: an 24 (.bool x22 :: an 25 [])))), [some (.var (encObjectD o)), none, none, none, none], []⟩) (fun x22 h => ?_) (fun h => ?_)
                · refine lc ?_
                  refine cc h rfl (fun h => ?_) (fun h => ?_)
                  · refine awp_seq ?_
                    refine awp_region ?_
                    refine dp rfl rfl ?_
                    refine aops_nil ?_
                    iterate 2 replace h := pe h
                    refine awp_ret ?_
                    obtain rfl := pe h
                    exact qfun_ret rfl rfl (Weak.refl _) rfl
                  · refine awp_skip ?_
                    refine awp_region ?_
                    iterate 2 refine dp rfl rfl ?_
                    refine aops_nil ?_
                    exact ⟨(IntKind.i64.wrap (x18 + (1 : Int))), (sk [5, 6, 24, 120, 121, 122] [] rfl), h⟩
                · refine awp_region ?_
                  iterate 3 refine dp rfl rfl ?_
                  refine ca h 9 (fun x25 => ⟨an 5 (.int .i64 n :: .ptr 0 0 :: an 17 (.int .i64 v17.2 :: .int .i64 x18 :: .int .u64 x21 :: an 93 (.list (List.map (encI .u64) v17.1.Data) :: .int .i64 (v17.1.Data.length : Int) :: .int .i64 x18 :: an 15 (.bool x25 :: an 34 [])))), [some (.var (encObjectD o)), none, none, none, none], []⟩) (fun x25 h => ?_) (fun h => ?_)
                  · refine lo ?_
                    refine di h rfl (hpr rfl) (fun h => ?_) (fun h => ?_)
                    · refine dk rfl ?_
                      iterate 6 refine dk rfl ?_
                      refine dp rfl rfl ?_
                      refine aops_nil ?_
                      exact ⟨true, (sk [5, 6, 24, 120, 121, 122, 147] [] rfl), (pe h :)⟩
                    · refine dp rfl rfl ?_
                      iterate 2 refine dp rfl rfl ?_
                      refine ca h 4 (fun x28 => ⟨an 5 (.int .i64 n :: .ptr 0 0 :: an 17 (.int .i64 v17.2 :: an 95 (.list (List.map (encI .u64) v17.1.Data) :: .int .i64 (v17.1.Data.length : Int) :: .int .i64 x18 :: an 16 (.bool false :: an 6 (.bool x28 :: an 26 []))))), [some (.var (encObjectD o)), none, none, none, none], []⟩) (fun x28 h => ?_) (fun h => ?_)
                      · refine lo ?_
                        refine dp rfl rfl ?_
                        refine aops_nil ?_
                        exact ⟨x28, (sk [5, 6, 24, 120, 121, 122, 147] [] rfl), (pe h :)⟩
                      · refine di h rfl (hpr rfl) (fun h => ?_) (fun h => ?_)
                        · refine dp rfl rfl ?_
                          iterate 2 refine dp rfl rfl ?_
                          refine aops_nil ?_
                          exact ⟨(x21 != (0 : Int)), (sk [5, 6, 24, 120, 121, 122, 139, 146] [] rfl), (pe h :)⟩
                        · refine dk rfl ?_
                          refine dk rfl ?_
                          refine dp rfl rfl ?_
                          refine aops_nil ?_
                          exact ⟨false, (sk [5, 6, 24, 120, 121, 122, 139, 146] [] rfl), (pe h :)⟩
                  · refine di h rfl (hpr rfl) (fun h => ?_) (fun h => ?_)
                    · refine dp rfl rfl ?_
                      iterate 3 refine dp rfl rfl ?_
                      obtain ⟨x29, hx29, h⟩ := pb h
                      refine dh rfl (head_index_map tok hx29 rfl rfl rfl rfl rfl rfl rfl) ?_
                      iterate 3 refine dp rfl rfl ?_
                      refine aops_nil ?_
                      exact ⟨(x21 != x29), (sk [5, 6, 24, 25, 26, 120, 121, 122, 138] [] rfl), (pe h :)⟩
                    · refine dk rfl ?_
                      iterate 6 refine dk rfl ?_
                      refine dp rfl rfl ?_
                      refine aops_nil ?_
                      exact ⟨false, (sk [5, 6, 24, 25, 26, 120, 121, 122, 138] [] rfl), (pe h :)⟩
              · refine awp_exit ?_
                replace h := pe h
                refine awp_seq ?_
                refine awp_region ?_
                iterate 2 refine dp rfl rfl ?_
                refine aops_nil ?_
                refine cc h rfl (fun h => ?_) (fun h => ?_)
                · refine awp_seq ?_
                  refine awp_region ?_
                  refine dp rfl rfl ?_
                  refine aops_nil ?_
                  replace h := pe h
                  refine awp_ret ?_
                  obtain rfl := pe h
                  exact qfun_ret rfl rfl (Weak.refl _) rfl
                · refine awp_skip ?_
                  exact ⟨(), (SWeak.trans (sk [6] [] rfl) (sweak_cut 4 rfl (ok_of ⟨rfl, trivial⟩) rfl) (Nat.le_of_ble_eq_true rfl)), (pe h :)⟩
            · refine awp_skip ?_
              exact ⟨(), (SWeak.trans (sk [6] [] rfl) (sweak_kill 3 rfl) (Nat.le_of_ble_eq_true rfl)), (pe h :)⟩
          · refine awp_region ?_
            iterate 2 refine dp rfl rfl ?_
            refine di h rfl (hpr rfl) (fun h => ?_) (fun h => ?_)
            · refine dp rfl rfl ?_
              iterate 2 refine dp rfl rfl ?_
              refine dh rfl (head_len_map tok rfl rfl rfl rfl) ?_
              iterate 2 refine dp rfl rfl ?_
              refine aops_nil ?_
              exact ⟨(decide (n < (o.Data.length : Int))), (sk [5, 6, 21, 110] [] rfl), (pe h :)⟩
            · refine dk rfl ?_
              iterate 4 refine dk rfl ?_
              refine dp rfl rfl ?_
              refine aops_nil ?_
              exact ⟨false, (sk [5, 6, 21, 110] [] rfl), (pe h :)⟩
      · refine cw h (fun x32 => ⟨an 1 (.int .u64 at_ :: .int .u64 to_ :: .int .u64 v :: .int .u64 u :: .int .i64 n :: .ptr 0 0 :: an 6 (.ptr 1 0 :: an 1 (.ptr 2 0 :: an 45 (.bool x32 :: an 111 [])))), [some (.var (encObjectD o)), some (.var (encObjectD v4.1)), some (.var (encObjectD v5.1))], []⟩) (fun x32 h => ?_) (fun h => ?_)
        · refine lc ?_
          refine cc h rfl (fun h => ?_) (fun h => ?_)
          · refine awp_seq ?_
            refine awp_region ?_
            iterate 3 refine dp rfl rfl ?_
            obtain ⟨v34, hv34, h⟩ := pb h
            refine dh rfl (head_callp (seg_Put_w _ _ _ _ hv34) rfl rfl rfl rfl) ?_
            iterate 3 refine dp rfl rfl ?_
            refine dn rfl (head_alloc tok 3 rfl rfl) ?_
            refine d_store_all tok rfl rfl rfl rfl rfl rfl rfl rfl rfl (by dsimp only [List.set, AV.cellsOf]) (by dsimp only [putL, List.set]) ?_
            refine dp rfl rfl ?_
            refine aops_nil ?_
            refine awp_seq ?_
            refine awp_region ?_
            iterate 3 refine dp rfl rfl ?_
            obtain ⟨v35, hv35, h⟩ := pb h
            refine dh rfl (head_callp (seg_Put_w _ _ _ _ hv35) rfl rfl rfl rfl) ?_
            iterate 3 refine dp rfl rfl ?_
            refine dn rfl (head_alloc tok 4 rfl rfl) ?_
            refine d_store_all tok rfl rfl rfl rfl rfl rfl rfl rfl rfl (by dsimp only [List.set, AV.cellsOf]) (by dsimp only [putL, List.set]) ?_
            refine dp rfl rfl ?_
            refine aops_nil ?_
            refine cw h (fun x36 => ⟨an 5 (.int .i64 n :: .ptr 0 0 :: an 88 (.bool x36 :: an 77 [])), [some (.var (encObjectD o)), none, none, none, none], []⟩) (fun x36 h => ?_) (fun h => ?_)
            · refine lc ?_
              refine cc h rfl (fun h => ?_) (fun h => ?_)
              · refine awp_seq ?_
                refine awp_region ?_
                refine dp rfl rfl ?_
                refine aops_nil ?_
                replace h := pe h
                refine awp_ret ?_
                obtain rfl := pe h
                exact qfun_ret rfl rfl (Weak.refl _) rfl
              · refine awp_skip ?_
                exact ⟨(), (SWeak.trans (sk [5, 6] [] rfl) (sweak_cut 3 rfl (ok_of ⟨rfl, trivial⟩) rfl) (Nat.le_of_ble_eq_true rfl)), (pe h :)⟩
            · refine awp_region ?_
              iterate 3 refine dp rfl rfl ?_
              refine ca h 6 (fun x39 => ⟨an 1 (.int .u64 at_ :: .int .u64 to_ :: an 2 (.int .i64 n :: .ptr 0 0 :: an 8 (.ptr 2 0 :: an 1 (.ptr 3 0 :: an 66 (.bool x39 :: an 88 []))))), [some (.var (encObjectD o)), none, some (.var (encObjectD v5.1)), some (.var (encObjectD v34.1)), none], []⟩) (fun x39 h => ?_) (fun h => ?_)
              · refine lo ?_
                refine di h rfl (hpr rfl) (fun h => ?_) (fun h => ?_)
                · refine dk rfl ?_
                  iterate 8 refine dk rfl ?_
                  refine dp rfl rfl ?_
                  refine aops_nil ?_
                  exact ⟨true, (SWeak.trans (SWeak.trans (sk [5, 6, 95] [] rfl) (sweak_kill 2 rfl) (Nat.le_of_ble_eq_true rfl)) (sweak_kill 3 rfl) (Nat.le_of_ble_eq_true rfl)), (pe h :)⟩
                · refine dp rfl rfl ?_
                  iterate 2 refine dp rfl rfl ?_
                  refine ca h 6 (fun x42 => ⟨an 5 (.int .i64 n :: .ptr 0 0 :: an 78 (.bool false :: an 8 (.bool x42 :: an 78 []))), [some (.var (encObjectD o)), none, none, none, none], []⟩) (fun x42 h => ?_) (fun h => ?_)
                  · refine lo ?_
                    refine dp rfl rfl ?_
                    refine aops_nil ?_
                    exact ⟨x42, (sk [5, 6, 95] [] rfl), (pe h :)⟩
                  · refine di h rfl (hpr rfl) (fun h => ?_) (fun h => ?_)
                    · refine dp rfl rfl ?_
                      refine dp rfl rfl ?_
                      obtain ⟨v43, hv43, h⟩ := pb h
                      refine dh rfl (head_callp (r13_SameOne_w _ _ _ hv43) rfl rfl rfl rfl) ?_
                      iterate 2 refine dp rfl rfl ?_
                      refine aops_nil ?_
                      exact ⟨(!v43), (SWeak.trans (SWeak.trans (sk [5, 6, 85, 94] [] rfl) (sweak_kill 2 rfl) (Nat.le_of_ble_eq_true rfl)) (sweak_kill 3 rfl) (Nat.le_of_ble_eq_true rfl)), (pe h :)⟩
                    · refine dk rfl ?_
                      iterate 3 refine dk rfl ?_
                      refine dp rfl rfl ?_
                      refine aops_nil ?_
                      exact ⟨false, (SWeak.trans (SWeak.trans (sk [5, 6, 85, 94] [] rfl) (sweak_kill 2 rfl) (Nat.le_of_ble_eq_true rfl)) (sweak_kill 3 rfl) (Nat.le_of_ble_eq_true rfl)), (pe h :)⟩
              · refine di h rfl (hpr rfl) (fun h => ?_) (fun h => ?_)
                · refine dp rfl rfl ?_
                  refine dp rfl rfl ?_
                  obtain ⟨v44, hv44, h⟩ := pb h
                  refine dh rfl (head_callp (r13_SameOne_w _ _ _ hv44) rfl rfl rfl rfl) ?_
                  iterate 2 refine dp rfl rfl ?_
                  refine aops_nil ?_
                  exact ⟨(!v44), (SWeak.trans (SWeak.trans (sk [1, 2, 5, 6, 15, 17, 84] [] rfl) (sweak_kill 1 rfl) (Nat.le_of_ble_eq_true rfl)) (sweak_kill 4 rfl) (Nat.le_of_ble_eq_true rfl)), (pe h :)⟩
                · refine dk rfl ?_
                  iterate 3 refine dk rfl ?_
                  refine dp rfl rfl ?_
                  refine aops_nil ?_
                  exact ⟨false, (SWeak.trans (SWeak.trans (sk [1, 2, 5, 6, 15, 17, 84] [] rfl) (sweak_kill 1 rfl) (Nat.le_of_ble_eq_true rfl)) (sweak_kill 4 rfl) (Nat.le_of_ble_eq_true rfl)), (pe h :)⟩
          · refine awp_skip ?_
            exact ⟨(), (SWeak.trans (SWeak.trans (sk [5, 6] [] rfl) (sweak_kill 1 rfl) (Nat.le_of_ble_eq_true rfl)) (sweak_kill 2 rfl) (Nat.le_of_ble_eq_true rfl)), (pe h :)⟩
        · refine awp_region ?_
          iterate 2 refine dp rfl rfl ?_
          refine di h rfl (hpr rfl) (fun h => ?_) (fun h => ?_)
          · refine dp rfl rfl ?_
            iterate 2 refine dp rfl rfl ?_
            refine aops_nil ?_
            exact ⟨(v5.2 == (0 : Int)), (sk [1, 2, 3, 4, 5, 6, 13, 15, 61] [] rfl), (pe h :)⟩
          · refine dk rfl ?_
            refine dk rfl ?_
            refine dp rfl rfl ?_
            refine aops_nil ?_
            exact ⟨false, (sk [1, 2, 3, 4, 5, 6, 13, 15, 61] [] rfl), (pe h :)⟩
  · refine awp_region ?_
    refine dp rfl rfl ?_
    obtain ⟨v46, hv46, h⟩ := pb h
    refine dh rfl (head_callp (law16_brief_w _ _ hv46) rfl rfl rfl rfl) ?_
    refine dp rfl rfl ?_
    refine ca h 5 (fun x48 => ⟨an 1 (.int .u64 at_ :: .int .u64 to_ :: .int .u64 v :: .int .u64 u :: .int .i64 n :: .ptr 0 0 :: an 29 (.bool x48 :: an 136 [])), [some (.var (encObjectD o))], []⟩) (fun x48 h => ?_) (fun h => ?_)
    · refine lo ?_
      refine di h rfl (hpr rfl) (fun h => ?_) (fun h => ?_)
      · refine dk rfl ?_
        refine dk rfl ?_
        refine dp rfl rfl ?_
        refine aops_nil ?_
        exact ⟨true, (sk [1, 2, 3, 4, 5, 6, 40] [] rfl), (pe h :)⟩
      · refine dp rfl rfl ?_
        iterate 2 refine dp rfl rfl ?_
        refine aops_nil ?_
        exact ⟨(decide (n > (5000 : Int))), (sk [1, 2, 3, 4, 5, 6, 40] [] rfl), (pe h :)⟩
    · refine di h rfl (hpr rfl) (fun h => ?_) (fun h => ?_)
      · refine dk rfl ?_
        iterate 2 refine dk rfl ?_
        refine dp rfl rfl ?_
        refine aops_nil ?_
        exact ⟨true, (sk [1, 2, 3, 4, 5, 6, 36] [] rfl), (pe h :)⟩
      · refine dp rfl rfl ?_
        iterate 3 refine dp rfl rfl ?_
        refine aops_nil ?_
        exact ⟨(o.Kind != (1 : Int)), (sk [1, 2, 3, 4, 5, 6, 36] [] rfl), (pe h :)⟩

end Go.Proofs.Ytpckfpahmnhfcaa.K
