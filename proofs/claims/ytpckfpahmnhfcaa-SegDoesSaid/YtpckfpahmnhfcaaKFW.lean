/- Walks: what functions of the program compute. Printed by wip/gen/pwrun.py. -/
import Derived.Test.YtpckfpahmnhfcaaKFF
import Derived.Test.YtpckfpahmnhfcaaKEW
namespace Go.Proofs.Ytpckfpahmnhfcaa.K
open Go Go.RowKit Go.Proofs.Ytpckfpahmnhfcaa.G
set_option linter.unusedVariables false
set_option maxRecDepth 20000
set_option maxHeartbeats 4000000
theorem r16_room_w (n : Int) (quota : Int) (r : Bool) (h : r16_room n quota = some r) : PCall Try.prog 110 [.int .i64 n, .int .i64 quota] (.bool r) := by
  replace h : post (r16_room n quota) (fun v => v = r) := ⟨_, h, rfl⟩
  unfold r16_room at h
  refine d_intro Try.func110 rfl (by decide +kernel) (ts := .int .i64 n :: .int .i64 quota :: un 8) rfl fun B hB => ?_
  refine lc ?_ (by dsimp only [un])
  refine awp_seq ?_
  refine awp_region ?_
  refine dp rfl rfl ?_
  refine aops_nil ?_
  refine awp_seq ?_
  refine awp_region ?_
  iterate 6 refine dp rfl rfl ?_
  refine aops_nil ?_
  refine awp_ret ?_
  obtain rfl := pe h
  exact qfun_ret rfl rfl (Weak.refl _) rfl

theorem r16_Resize_w (o : ObjectD) (n : Int) (r : ObjectD × Int) (h : r16_Resize o n = some r) : PCall Try.prog 48 [.agg (encObjectD o), .int .i64 n] (.tuple [.agg [.int .u64 r.1.Id, .int .i64 r.1.Kind, .list (List.map encPairD r.1.Label), .int .i64 r.1.Quota, .bool r.1.Fixed, .list (List.map (encI .u64) r.1.Links), .list (List.map (encI .u64) r.1.Data), .list (List.map encMapD r.1.Maps), .int .u64 r.1.Thread.Regs.e0, .int .u64 r.1.Thread.Regs.e1, .int .u64 r.1.Thread.Regs.e2, .int .u64 r.1.Thread.Regs.e3, .int .u64 r.1.Thread.Regs.e4, .int .u64 r.1.Thread.Regs.e5, .int .u64 r.1.Thread.Regs.e6, .int .u64 r.1.Thread.Regs.e7, .int .u64 r.1.Thread.Regs.e8, .int .u64 r.1.Thread.Regs.e9, .int .u64 r.1.Thread.Regs.e10, .int .u64 r.1.Thread.Regs.e11, .int .u64 r.1.Thread.Regs.e12, .int .u64 r.1.Thread.Regs.e13, .int .u64 r.1.Thread.Regs.e14, .int .u64 r.1.Thread.Regs.e15, .int .u64 r.1.Thread.Pc, .list (List.map encPairD r.1.Thread.Clear), .int .u64 r.1.Thread.Space.Cont, .int .u64 r.1.Thread.Space.Id, .int .u64 r.1.Thread.Handler, .int .u64 r.1.Thread.Vector, .int .i64 r.1.Thread.State, .int .u64 r.1.Thread.Wait.Ref.Cont, .int .u64 r.1.Thread.Wait.Ref.Id, .int .u64 r.1.Thread.Wait.Index, .int .u64 r.1.Thread.Wait.Val, .bool r.1.Thread.Wait.Dev, .list (List.map (encI .u64) r.1.Thread.Alerts), .int .u64 r.1.Thread.Span.Lo, .int .u64 r.1.Thread.Span.Hi, .list (List.map encPairD r.1.Thread.Labs.e0), .list (List.map encPairD r.1.Thread.Labs.e1), .list (List.map encPairD r.1.Thread.Labs.e2), .list (List.map encPairD r.1.Thread.Labs.e3), .list (List.map encPairD r.1.Gate.Grant), .list (List.map encPairD r.1.Gate.Clear), .int .u64 r.1.Gate.Space.Cont, .int .u64 r.1.Gate.Space.Id, .int .u64 r.1.Gate.Pc, .int .u64 r.1.Gate.Arg, .list (List.map (encI .u64) r.1.In), .list (List.map (encI .u64) r.1.Out)], .int .i64 r.2]) := by
  replace h : post (r16_Resize o n) (fun v => v = r) := ⟨_, h, rfl⟩
  unfold r16_Resize at h
  refine d_intro Try.func48 rfl (by decide +kernel) (ts := .agg (encObjectD o) :: .int .i64 n :: un 42) rfl fun B hB => ?_
  refine lc ?_ (by dsimp only [un])
  refine awp_seq ?_
  refine awp_region ?_
  refine dn rfl (hbx (cs := (encObjectD o)) 0 rfl rfl rfl) ?_
  refine dn rfl (head_alloc tok 1 rfl rfl) ?_
  refine dp rfl rfl ?_
  refine aops_nil ?_
  iterate 2 refine awp_seq ?_
  refine awp_region ?_
  iterate 3 refine dp rfl rfl ?_
  refine aops_nil ?_
  refine cc h rfl (fun h => ?_) (fun h => ?_)
  · refine awp_seq ?_
    refine awp_region ?_
    refine dp rfl rfl ?_
    refine d_store_all tok rfl rfl rfl rfl rfl rfl rfl rfl rfl (by dsimp only [List.set, AV.cellsOf]) (by dsimp only [putL, List.set]) ?_
    refine dp rfl rfl ?_
    refine aops_nil ?_
    refine awp_ret ?_
    obtain rfl := pe h
    exact qfun_ret_of rfl (ares_cells2 tok rfl rfl) (Weak.refl _) rfl
  · refine awp_skip ?_
    iterate 2 refine awp_seq ?_
    refine awp_region ?_
    iterate 2 refine dp rfl rfl ?_
    refine aops_nil ?_
    refine cc h rfl (fun h => ?_) (fun h => ?_)
    · refine awp_seq ?_
      refine awp_region ?_
      refine dp rfl rfl ?_
      refine d_store_all tok rfl rfl rfl rfl rfl rfl rfl rfl rfl (by dsimp only [List.set, AV.cellsOf]) (by dsimp only [putL, List.set]) ?_
      refine dp rfl rfl ?_
      refine aops_nil ?_
      refine awp_ret ?_
      obtain rfl := pe h
      exact qfun_ret_of rfl (ares_cells2 tok rfl rfl) (Weak.refl _) rfl
    · refine awp_skip ?_
      iterate 2 refine awp_seq ?_
      refine awp_region ?_
      iterate 3 refine dp rfl rfl ?_
      obtain ⟨v3, hv3, h⟩ := pb h
      refine dh rfl (head_callp (r16_room_w _ _ _ hv3) rfl rfl rfl rfl) ?_
      refine dp rfl rfl ?_
      refine aops_nil ?_
      refine cc h rfl (fun h => ?_) (fun h => ?_)
      · refine awp_seq ?_
        refine awp_region ?_
        refine dp rfl rfl ?_
        refine d_store_all tok rfl rfl rfl rfl rfl rfl rfl rfl rfl (by dsimp only [List.set, AV.cellsOf]) (by dsimp only [putL, List.set]) ?_
        refine dp rfl rfl ?_
        refine aops_nil ?_
        refine awp_ret ?_
        obtain rfl := pe h
        exact qfun_ret_of rfl (ares_cells2 tok rfl rfl) (Weak.refl _) rfl
      · refine awp_skip ?_
        refine awp_seq ?_
        refine awp_region ?_
        refine dp rfl rfl ?_
        refine aops_nil ?_
        iterate 2 refine awp_seq ?_
        refine awp_region ?_
        refine dp rfl rfl ?_
        refine aops_nil ?_
        refine awp_block ?_
        refine oc 6 1 23 rfl ?_
        refine cl h (fun x5 => ⟨an 1 (.int .i64 n :: .ptr 0 0 :: an 1 (.ptr 1 0 :: an 1 (.own 2 (List.map (encI .u64) x5.2).length :: .int .i64 x5.1 :: an 36 []))), [some (.var (encObjectD o)), some (.var (encObjectD ObjectD.zero)), some (.row (List.map (encI .u64) x5.2) 1 23)], []⟩) (sk [1, 2, 4, 6, 7] [] rfl) (fun rec x5 h => ?_)
        unfold r16_Resize_L0 at h
        refine lc ?_
        iterate 2 refine awp_seq ?_
        refine awp_region ?_
        iterate 3 refine dp rfl rfl ?_
        refine aops_nil ?_
        refine cc h rfl (fun h => ?_) (fun h => ?_)
        · refine awp_skip ?_
          refine awp_seq ?_
          refine awp_block ?_
          refine awp_seq ?_
          refine awp_region ?_
          refine dp rfl rfl ?_
          refine aops_nil ?_
          refine cw h (fun x8 => ⟨an 1 (.int .i64 n :: .ptr 0 0 :: an 1 (.ptr 1 0 :: an 1 (.own 2 (List.map (encI .u64) x5.2).length :: .int .i64 x5.1 :: .int .u64 x8 :: an 35 []))), [some (.var (encObjectD o)), some (.var (encObjectD ObjectD.zero)), some (.row (List.map (encI .u64) x5.2) 1 23)], []⟩) (fun x8 h => ?_) (fun h => ?_)
          · refine lc ?_
            refine awp_region ?_
            iterate 2 refine dp rfl rfl ?_
            refine dn rfl (head_bslice (row := (List.map (encI .u64) [x8])) tok 3 rfl rfl rfl rfl rfl rfl rfl rfl rfl) ?_
            obtain ⟨x9, hx9, h⟩ := pb h
            refine d_append_map tok hx9 rfl rfl rfl rfl rfl rfl rfl rfl rfl (fun _ => rfl) (fun _ => rfl) (by dsimp only [List.set, AV.cellsOf]) (by dsimp only [putL, List.set]) ?_
            refine dp rfl rfl ?_
            refine aops_nil ?_
            refine awp_region ?_
            iterate 3 refine dp rfl rfl ?_
            refine aops_nil ?_
            exact ⟨((IntKind.i64.wrap (x5.1 + (1 : Int))), x9), (SWeak.trans (sk [1, 2, 4, 6, 7] [] rfl) (sweak_cut 3 rfl (ok_of ⟨rfl, ⟨rfl, ⟨flat_under (fun _ => rfl) _ _, trivial⟩⟩⟩) rfl) (Nat.le_of_ble_eq_true rfl)), h⟩
          · refine awp_seq ?_
            refine awp_region ?_
            iterate 3 refine dp rfl rfl ?_
            refine dh rfl (head_len_map tok rfl rfl rfl rfl) ?_
            refine dp rfl rfl ?_
            refine aops_nil ?_
            refine cc h rfl (fun h => ?_) (fun h => ?_)
            · refine awp_region ?_
              iterate 3 refine dp rfl rfl ?_
              obtain ⟨x11, hx11, h⟩ := pb h
              refine dh rfl (head_index_map tok hx11 rfl rfl rfl rfl rfl rfl rfl) ?_
              iterate 2 refine dp rfl rfl ?_
              refine aops_nil ?_
              exact ⟨x11, (sk [1, 2, 4, 6, 7, 8] [] rfl), (pe h :)⟩
            · refine awp_skip ?_
              exact ⟨(0 : Int), (sk [1, 2, 4, 6, 7, 8] [] rfl), (pe h :)⟩
        · refine awp_exit ?_
          replace h := pe h
          let y6exit0 : List Int := x5.2
          refine awp_seq ?_
          refine awp_region ?_
          iterate 2 refine dp rfl rfl ?_
          refine fz 41 2 1 rfl rfl (fun _ => rfl) ?_
          refine d_store (cs' := (encObjectD ({ o with Data := y6exit0 } : ObjectD))) tok rfl rfl rfl rfl rfl rfl rfl rfl rfl rfl (by dsimp only [List.set, AV.cellsOf]) (by dsimp only [putL, List.set]) ?_
          refine aops_nil ?_
          refine awp_seq ?_
          refine awp_region ?_
          refine dp rfl rfl ?_
          refine d_store_all tok rfl rfl rfl rfl rfl rfl rfl rfl rfl (by dsimp only [List.set, AV.cellsOf]) (by dsimp only [putL, List.set]) ?_
          refine dp rfl rfl ?_
          refine aops_nil ?_
          refine awp_ret ?_
          obtain rfl := pe h
          exact qfun_ret_of rfl (ares_cells2 tok rfl rfl) (Weak.refl _) rfl

theorem r16_Get_w (o : ObjectD) (at_ : Int) (r : Int × Int) (h : r16_Get o at_ = some r) : PCall Try.prog 50 [.agg (encObjectD o), .int .u64 at_] (.tuple [.int .u64 r.1, .int .i64 r.2]) := by
  replace h : post (r16_Get o at_) (fun v => v = r) := ⟨_, h, rfl⟩
  unfold r16_Get at h
  refine d_intro Try.func50 rfl (by decide +kernel) (ts := .agg (encObjectD o) :: .int .u64 at_ :: un 18) rfl fun B hB => ?_
  refine lc ?_ (by dsimp only [un])
  refine awp_seq ?_
  refine awp_region ?_
  refine dn rfl (hbx (cs := (encObjectD o)) 0 rfl rfl rfl) ?_
  iterate 2 refine dp rfl rfl ?_
  refine aops_nil ?_
  iterate 2 refine awp_seq ?_
  refine awp_region ?_
  iterate 3 refine dp rfl rfl ?_
  refine aops_nil ?_
  refine cc h rfl (fun h => ?_) (fun h => ?_)
  · refine awp_seq ?_
    refine awp_region ?_
    iterate 2 refine dp rfl rfl ?_
    refine aops_nil ?_
    refine awp_ret ?_
    obtain rfl := pe h
    exact qfun_ret rfl rfl (Weak.refl _) rfl
  · refine awp_skip ?_
    iterate 2 refine awp_seq ?_
    refine awp_region ?_
    iterate 3 refine dp rfl rfl ?_
    refine dh rfl (head_len_map tok rfl rfl rfl rfl) ?_
    iterate 2 refine dp rfl rfl ?_
    refine aops_nil ?_
    refine cc h rfl (fun h => ?_) (fun h => ?_)
    · refine awp_seq ?_
      refine awp_region ?_
      iterate 2 refine dp rfl rfl ?_
      refine aops_nil ?_
      refine awp_ret ?_
      obtain rfl := pe h
      exact qfun_ret rfl rfl (Weak.refl _) rfl
    · refine awp_skip ?_
      refine awp_seq ?_
      refine awp_region ?_
      iterate 3 refine dp rfl rfl ?_
      obtain ⟨x3, hx3, h⟩ := pb h
      refine dh rfl (head_index_map tok hx3 rfl rfl rfl rfl rfl rfl rfl) ?_
      iterate 3 refine dp rfl rfl ?_
      refine aops_nil ?_
      refine awp_ret ?_
      obtain rfl := pe h
      exact qfun_ret rfl rfl (Weak.refl _) rfl

theorem r16_Put_w (o : ObjectD) (at_ : Int) (v : Int) (r : ObjectD × Int) (h : r16_Put o at_ v = some r) : PCall Try.prog 51 [.agg (encObjectD o), .int .u64 at_, .int .u64 v] (.tuple [.agg [.int .u64 r.1.Id, .int .i64 r.1.Kind, .list (List.map encPairD r.1.Label), .int .i64 r.1.Quota, .bool r.1.Fixed, .list (List.map (encI .u64) r.1.Links), .list (List.map (encI .u64) r.1.Data), .list (List.map encMapD r.1.Maps), .int .u64 r.1.Thread.Regs.e0, .int .u64 r.1.Thread.Regs.e1, .int .u64 r.1.Thread.Regs.e2, .int .u64 r.1.Thread.Regs.e3, .int .u64 r.1.Thread.Regs.e4, .int .u64 r.1.Thread.Regs.e5, .int .u64 r.1.Thread.Regs.e6, .int .u64 r.1.Thread.Regs.e7, .int .u64 r.1.Thread.Regs.e8, .int .u64 r.1.Thread.Regs.e9, .int .u64 r.1.Thread.Regs.e10, .int .u64 r.1.Thread.Regs.e11, .int .u64 r.1.Thread.Regs.e12, .int .u64 r.1.Thread.Regs.e13, .int .u64 r.1.Thread.Regs.e14, .int .u64 r.1.Thread.Regs.e15, .int .u64 r.1.Thread.Pc, .list (List.map encPairD r.1.Thread.Clear), .int .u64 r.1.Thread.Space.Cont, .int .u64 r.1.Thread.Space.Id, .int .u64 r.1.Thread.Handler, .int .u64 r.1.Thread.Vector, .int .i64 r.1.Thread.State, .int .u64 r.1.Thread.Wait.Ref.Cont, .int .u64 r.1.Thread.Wait.Ref.Id, .int .u64 r.1.Thread.Wait.Index, .int .u64 r.1.Thread.Wait.Val, .bool r.1.Thread.Wait.Dev, .list (List.map (encI .u64) r.1.Thread.Alerts), .int .u64 r.1.Thread.Span.Lo, .int .u64 r.1.Thread.Span.Hi, .list (List.map encPairD r.1.Thread.Labs.e0), .list (List.map encPairD r.1.Thread.Labs.e1), .list (List.map encPairD r.1.Thread.Labs.e2), .list (List.map encPairD r.1.Thread.Labs.e3), .list (List.map encPairD r.1.Gate.Grant), .list (List.map encPairD r.1.Gate.Clear), .int .u64 r.1.Gate.Space.Cont, .int .u64 r.1.Gate.Space.Id, .int .u64 r.1.Gate.Pc, .int .u64 r.1.Gate.Arg, .list (List.map (encI .u64) r.1.In), .list (List.map (encI .u64) r.1.Out)], .int .i64 r.2]) := by
  replace h : post (r16_Put o at_ v) (fun v => v = r) := ⟨_, h, rfl⟩
  unfold r16_Put at h
  refine d_intro Try.func51 rfl (by decide +kernel) (ts := .agg (encObjectD o) :: .int .u64 at_ :: .int .u64 v :: un 29) rfl fun B hB => ?_
  refine lc ?_ (by dsimp only [un])
  refine awp_seq ?_
  refine awp_region ?_
  refine dn rfl (hbx (cs := (encObjectD o)) 0 rfl rfl rfl) ?_
  refine dn rfl (head_alloc tok 1 rfl rfl) ?_
  refine dp rfl rfl ?_
  refine aops_nil ?_
  refine awp_seq ?_
  refine awp_region ?_
  iterate 2 refine dp rfl rfl ?_
  obtain ⟨v1, hv1, h⟩ := pb h
  refine dh rfl (head_callp (r16_Get_w _ _ _ hv1) rfl rfl rfl rfl) ?_
  iterate 5 refine dp rfl rfl ?_
  refine aops_nil ?_
  iterate 2 refine awp_seq ?_
  refine awp_region ?_
  iterate 2 refine dp rfl rfl ?_
  refine aops_nil ?_
  refine cc h rfl (fun h => ?_) (fun h => ?_)
  · refine awp_seq ?_
    refine awp_region ?_
    iterate 2 refine dp rfl rfl ?_
    refine d_store_all tok rfl rfl rfl rfl rfl rfl rfl rfl rfl (by dsimp only [List.set, AV.cellsOf]) (by dsimp only [putL, List.set]) ?_
    refine dp rfl rfl ?_
    refine aops_nil ?_
    refine awp_ret ?_
    obtain rfl := pe h
    exact qfun_ret_of rfl (ares_cells2 tok rfl rfl) (Weak.refl _) rfl
  · refine awp_skip ?_
    refine awp_seq ?_
    refine awp_region ?_
    refine dp rfl rfl ?_
    refine aops_nil ?_
    refine awp_seq ?_
    refine awp_region ?_
    iterate 3 refine dp rfl rfl ?_
    obtain ⟨x3, hx3, h⟩ := pb h
    refine d_append_nilm tok hx3 rfl rfl rfl rfl rfl rfl rfl rfl (fun _ => rfl) (fun _ => rfl) (by dsimp only [List.append, HAppend.hAppend, Append.append]) (by dsimp only [putL, List.set]) ?_
    refine dp rfl rfl ?_
    refine aops_nil ?_
    refine awp_seq ?_
    refine awp_region ?_
    iterate 3 refine dp rfl rfl ?_
    obtain ⟨x4, hx4, h⟩ := pb h
    refine dh rfl (head_index_ownm tok hx4 rfl rfl rfl rfl rfl rfl rfl rfl) ?_
    refine d_store_rowm (enc := (encI .u64)) (y := v) (i := at_) tok hx4 rfl rfl rfl rfl rfl rfl rfl rfl rfl (by dsimp only [List.set, AV.cellsOf]) (by dsimp only [putL, List.set]) ?_
    refine lov 2 3 [10, 24, 25] [0, 1, 2, 3, 4, 5, 6, 7, 8, 9, 10, 11, 12, 13, 14, 15, 16, 17, 18, 19, 20, 21, 22, 23, 24, 25, 26, 27, 29, 30, 31] [some (.var (encObjectD o)), some (.var (encObjectD ObjectD.zero)), some (.row (List.map (encI .u64) (x3.set at_.toNat v)) 1 23)] (.agg [.int .u64 o.Id, .int .i64 o.Kind, .list (List.map encPairD o.Label), .int .i64 o.Quota, .bool o.Fixed, .list (List.map (encI .u64) o.Links), .list (List.map (encI .u64) o.Data), .list (List.map encMapD o.Maps), .int .u64 o.Thread.Regs.e0, .int .u64 o.Thread.Regs.e1, .int .u64 o.Thread.Regs.e2, .int .u64 o.Thread.Regs.e3, .int .u64 o.Thread.Regs.e4, .int .u64 o.Thread.Regs.e5, .int .u64 o.Thread.Regs.e6, .int .u64 o.Thread.Regs.e7, .int .u64 o.Thread.Regs.e8, .int .u64 o.Thread.Regs.e9, .int .u64 o.Thread.Regs.e10, .int .u64 o.Thread.Regs.e11, .int .u64 o.Thread.Regs.e12, .int .u64 o.Thread.Regs.e13, .int .u64 o.Thread.Regs.e14, .int .u64 o.Thread.Regs.e15, .int .u64 o.Thread.Pc, .list (List.map encPairD o.Thread.Clear), .int .u64 o.Thread.Space.Cont, .int .u64 o.Thread.Space.Id, .int .u64 o.Thread.Handler, .int .u64 o.Thread.Vector, .int .i64 o.Thread.State, .int .u64 o.Thread.Wait.Ref.Cont, .int .u64 o.Thread.Wait.Ref.Id, .int .u64 o.Thread.Wait.Index, .int .u64 o.Thread.Wait.Val, .bool o.Thread.Wait.Dev, .list (List.map (encI .u64) o.Thread.Alerts), .int .u64 o.Thread.Span.Lo, .int .u64 o.Thread.Span.Hi, .list (List.map encPairD o.Thread.Labs.e0), .list (List.map encPairD o.Thread.Labs.e1), .list (List.map encPairD o.Thread.Labs.e2), .list (List.map encPairD o.Thread.Labs.e3), .list (List.map encPairD o.Gate.Grant), .list (List.map encPairD o.Gate.Clear), .int .u64 o.Gate.Space.Cont, .int .u64 o.Gate.Space.Id, .int .u64 o.Gate.Pc, .int .u64 o.Gate.Arg, .list (List.map (encI .u64) o.In), .list (List.map (encI .u64) o.Out)] :: .int .u64 at_ :: .int .u64 v :: .ptr 0 0 :: .undef :: .undef :: .ptr 1 0 :: .int .i64 (0 : Int) :: .int .u64 v1.1 :: .int .i64 v1.2 :: .own 2 (List.map (encI .u64) (x3.set at_.toNat v)).length :: .tuple [.int .u64 v1.1, .int .i64 v1.2] :: .agg [.int .u64 o.Id, .int .i64 o.Kind, .list (List.map encPairD o.Label), .int .i64 o.Quota, .bool o.Fixed, .list (List.map (encI .u64) o.Links), .list (List.map (encI .u64) o.Data), .list (List.map encMapD o.Maps), .int .u64 o.Thread.Regs.e0, .int .u64 o.Thread.Regs.e1, .int .u64 o.Thread.Regs.e2, .int .u64 o.Thread.Regs.e3, .int .u64 o.Thread.Regs.e4, .int .u64 o.Thread.Regs.e5, .int .u64 o.Thread.Regs.e6, .int .u64 o.Thread.Regs.e7, .int .u64 o.Thread.Regs.e8, .int .u64 o.Thread.Regs.e9, .int .u64 o.Thread.Regs.e10, .int .u64 o.Thread.Regs.e11, .int .u64 o.Thread.Regs.e12, .int .u64 o.Thread.Regs.e13, .int .u64 o.Thread.Regs.e14, .int .u64 o.Thread.Regs.e15, .int .u64 o.Thread.Pc, .list (List.map encPairD o.Thread.Clear), .int .u64 o.Thread.Space.Cont, .int .u64 o.Thread.Space.Id, .int .u64 o.Thread.Handler, .int .u64 o.Thread.Vector, .int .i64 o.Thread.State, .int .u64 o.Thread.Wait.Ref.Cont, .int .u64 o.Thread.Wait.Ref.Id, .int .u64 o.Thread.Wait.Index, .int .u64 o.Thread.Wait.Val, .bool o.Thread.Wait.Dev, .list (List.map (encI .u64) o.Thread.Alerts), .int .u64 o.Thread.Span.Lo, .int .u64 o.Thread.Span.Hi, .list (List.map encPairD o.Thread.Labs.e0), .list (List.map encPairD o.Thread.Labs.e1), .list (List.map encPairD o.Thread.Labs.e2), .list (List.map encPairD o.Thread.Labs.e3), .list (List.map encPairD o.Gate.Grant), .list (List.map encPairD o.Gate.Clear), .int .u64 o.Gate.Space.Cont, .int .u64 o.Gate.Space.Id, .int .u64 o.Gate.Pc, .int .u64 o.Gate.Arg, .list (List.map (encI .u64) o.In), .list (List.map (encI .u64) o.Out)] :: .int .u64 at_ :: .tuple [.int .u64 v1.1, .int .i64 v1.2] :: .int .u64 v1.1 :: .int .i64 v1.2 :: .int .i64 v1.2 :: .bool (v1.2 != (0 : Int)) :: .undef :: .undef :: .nilsl :: .ptr 0 6 :: .list (List.map (encI .u64) o.Data) :: .own 2 (List.map (encI .u64) (x3.set at_.toNat v)).length :: .own 2 (List.map (encI .u64) (x3.set at_.toNat v)).length :: .int .u64 at_ :: .int .u64 v :: an 1 (.undef :: .undef :: .undef :: [])) (by simp) rfl rfl rfl ?_
    refine lo ?_
    refine aops_nil ?_
    refine awp_seq ?_
    refine awp_region ?_
    iterate 2 refine dp rfl rfl ?_
    refine fz 29 2 1 rfl rfl (fun _ => rfl) ?_
    refine d_store (cs' := (encObjectD ({ o with Data := (x3.set at_.toNat v) } : ObjectD))) tok rfl rfl rfl rfl rfl rfl rfl rfl rfl rfl (by dsimp only [List.set, AV.cellsOf]) (by dsimp only [putL, List.set]) ?_
    refine aops_nil ?_
    refine awp_seq ?_
    refine awp_region ?_
    refine dp rfl rfl ?_
    refine d_store_all tok rfl rfl rfl rfl rfl rfl rfl rfl rfl (by dsimp only [List.set, AV.cellsOf]) (by dsimp only [putL, List.set]) ?_
    refine dp rfl rfl ?_
    refine aops_nil ?_
    refine awp_ret ?_
    obtain rfl := pe h
    exact qfun_ret_of rfl (ares_cells2 tok rfl rfl) (Weak.refl _) rfl

theorem r16_Copy_w (o : ObjectD) (id_ : Int) (l : List PairD) (quota : Int) (r : ObjectD × Int) (h : r16_Copy o id_ l quota = some r) : PCall Try.prog 52 [.agg (encObjectD o), .int .u64 id_, .list (List.map encPairD l), .int .i64 quota] (.tuple [.agg [.int .u64 r.1.Id, .int .i64 r.1.Kind, .list (List.map encPairD r.1.Label), .int .i64 r.1.Quota, .bool r.1.Fixed, .list (List.map (encI .u64) r.1.Links), .list (List.map (encI .u64) r.1.Data), .list (List.map encMapD r.1.Maps), .int .u64 r.1.Thread.Regs.e0, .int .u64 r.1.Thread.Regs.e1, .int .u64 r.1.Thread.Regs.e2, .int .u64 r.1.Thread.Regs.e3, .int .u64 r.1.Thread.Regs.e4, .int .u64 r.1.Thread.Regs.e5, .int .u64 r.1.Thread.Regs.e6, .int .u64 r.1.Thread.Regs.e7, .int .u64 r.1.Thread.Regs.e8, .int .u64 r.1.Thread.Regs.e9, .int .u64 r.1.Thread.Regs.e10, .int .u64 r.1.Thread.Regs.e11, .int .u64 r.1.Thread.Regs.e12, .int .u64 r.1.Thread.Regs.e13, .int .u64 r.1.Thread.Regs.e14, .int .u64 r.1.Thread.Regs.e15, .int .u64 r.1.Thread.Pc, .list (List.map encPairD r.1.Thread.Clear), .int .u64 r.1.Thread.Space.Cont, .int .u64 r.1.Thread.Space.Id, .int .u64 r.1.Thread.Handler, .int .u64 r.1.Thread.Vector, .int .i64 r.1.Thread.State, .int .u64 r.1.Thread.Wait.Ref.Cont, .int .u64 r.1.Thread.Wait.Ref.Id, .int .u64 r.1.Thread.Wait.Index, .int .u64 r.1.Thread.Wait.Val, .bool r.1.Thread.Wait.Dev, .list (List.map (encI .u64) r.1.Thread.Alerts), .int .u64 r.1.Thread.Span.Lo, .int .u64 r.1.Thread.Span.Hi, .list (List.map encPairD r.1.Thread.Labs.e0), .list (List.map encPairD r.1.Thread.Labs.e1), .list (List.map encPairD r.1.Thread.Labs.e2), .list (List.map encPairD r.1.Thread.Labs.e3), .list (List.map encPairD r.1.Gate.Grant), .list (List.map encPairD r.1.Gate.Clear), .int .u64 r.1.Gate.Space.Cont, .int .u64 r.1.Gate.Space.Id, .int .u64 r.1.Gate.Pc, .int .u64 r.1.Gate.Arg, .list (List.map (encI .u64) r.1.In), .list (List.map (encI .u64) r.1.Out)], .int .i64 r.2]) := by
  replace h : post (r16_Copy o id_ l quota) (fun v => v = r) := ⟨_, h, rfl⟩
  unfold r16_Copy at h
  refine d_intro Try.func52 rfl (by decide +kernel) (ts := .agg (encObjectD o) :: .int .u64 id_ :: .list (List.map encPairD l) :: .int .i64 quota :: un 37) rfl fun B hB => ?_
  refine lc ?_ (by dsimp only [un])
  refine awp_seq ?_
  refine awp_region ?_
  refine dn rfl (hbx (cs := (encObjectD o)) 0 rfl rfl rfl) ?_
  refine dn rfl (head_alloc tok 1 rfl rfl) ?_
  refine dp rfl rfl ?_
  refine aops_nil ?_
  iterate 2 refine awp_seq ?_
  refine awp_region ?_
  iterate 3 refine dp rfl rfl ?_
  refine aops_nil ?_
  refine cc h rfl (fun h => ?_) (fun h => ?_)
  · refine awp_seq ?_
    refine awp_region ?_
    refine dh rfl (head_build (r := (encObjectD ObjectD.zero)) tok rfl rfl rfl rfl rfl rfl) ?_
    refine d_store_all tok rfl rfl rfl rfl rfl rfl rfl rfl rfl (by dsimp only [List.set, AV.cellsOf]) (by dsimp only [putL, List.set]) ?_
    refine dp rfl rfl ?_
    refine aops_nil ?_
    refine awp_ret ?_
    obtain rfl := pe h
    exact qfun_ret_of rfl (ares_cells2 tok rfl rfl) (Weak.refl _) rfl
  · refine awp_skip ?_
    refine awp_seq ?_
    refine cw h (fun x2 => ⟨an 1 (.int .u64 id_ :: .list (List.map encPairD l) :: .int .i64 quota :: .ptr 0 0 :: an 3 (.ptr 1 0 :: an 19 (.bool x2 :: an 12 []))), [some (.var (encObjectD o)), some (.var (encObjectD ObjectD.zero))], []⟩) (fun x2 h => ?_) (fun h => ?_)
    · refine lc ?_
      refine cc h rfl (fun h => ?_) (fun h => ?_)
      · refine awp_seq ?_
        refine awp_region ?_
        refine dh rfl (head_build (r := (encObjectD ObjectD.zero)) tok rfl rfl rfl rfl rfl rfl) ?_
        refine d_store_all tok rfl rfl rfl rfl rfl rfl rfl rfl rfl (by dsimp only [List.set, AV.cellsOf]) (by dsimp only [putL, List.set]) ?_
        refine dp rfl rfl ?_
        refine aops_nil ?_
        refine awp_ret ?_
        obtain rfl := pe h
        exact qfun_ret_of rfl (ares_cells2 tok rfl rfl) (Weak.refl _) rfl
      · refine awp_skip ?_
        refine awp_seq ?_
        refine awp_region ?_
        iterate 5 refine dp rfl rfl ?_
        refine dh rfl (head_build (r := (encObjectD ({ ObjectD.zero with Id := id_, Kind := (1 : Int), Label := l, Quota := quota, Data := o.Data } : ObjectD))) tok rfl rfl rfl rfl rfl rfl) ?_
        refine dn rfl (head_alloc tok 2 rfl rfl) ?_
        refine d_store_all tok rfl rfl rfl rfl rfl rfl rfl rfl rfl (by dsimp only [List.set, AV.cellsOf]) (by dsimp only [putL, List.set]) ?_
        refine aops_nil ?_
        iterate 2 refine awp_seq ?_
        refine awp_region ?_
        refine dp rfl rfl ?_
        obtain ⟨v4, hv4, h⟩ := pb h
        refine dh rfl (head_callp (r13_Sound_w _ _ hv4) rfl rfl rfl rfl) ?_
        refine dp rfl rfl ?_
        refine aops_nil ?_
        refine cc h rfl (fun h => ?_) (fun h => ?_)
        · refine awp_seq ?_
          refine awp_region ?_
          refine dh rfl (head_build (r := (encObjectD ObjectD.zero)) tok rfl rfl rfl rfl rfl rfl) ?_
          refine d_store_all tok rfl rfl rfl rfl rfl rfl rfl rfl rfl (by dsimp only [List.set, AV.cellsOf]) (by dsimp only [putL, List.set]) ?_
          refine dp rfl rfl ?_
          refine aops_nil ?_
          refine awp_ret ?_
          obtain rfl := pe h
          exact qfun_ret_of rfl (ares_cells2 tok rfl rfl) (Weak.refl _) rfl
        · refine awp_skip ?_
          refine awp_seq ?_
          refine awp_region ?_
          refine dp rfl rfl ?_
          refine d_store_all tok rfl rfl rfl rfl rfl rfl rfl rfl rfl (by dsimp only [List.set, AV.cellsOf]) (by dsimp only [putL, List.set]) ?_
          refine dp rfl rfl ?_
          refine aops_nil ?_
          refine awp_ret ?_
          obtain rfl := pe h
          exact qfun_ret_of rfl (ares_cells2 tok rfl rfl) (Weak.refl _) rfl
    · refine awp_region ?_
      iterate 2 refine dp rfl rfl ?_
      refine di h rfl (hpr rfl) (fun h => ?_) (fun h => ?_)
      · refine dk rfl ?_
        iterate 9 refine dk rfl ?_
        refine dp rfl rfl ?_
        refine aops_nil ?_
        exact ⟨true, (sk [1, 2, 3, 4, 8, 28] [] rfl), (pe h :)⟩
      · refine dp rfl rfl ?_
        refine dp rfl rfl ?_
        refine ca h 8 (fun x8 => ⟨an 1 (.int .u64 id_ :: .list (List.map encPairD l) :: .int .i64 quota :: .ptr 0 0 :: an 3 (.ptr 1 0 :: an 8 (.bool false :: an 9 (.bool x8 :: an 13 [])))), [some (.var (encObjectD o)), some (.var (encObjectD ObjectD.zero))], []⟩) (fun x8 h => ?_) (fun h => ?_)
        · refine lo ?_
          refine dp rfl rfl ?_
          refine aops_nil ?_
          exact ⟨x8, (sk [1, 2, 3, 4, 8, 28] [] rfl), (pe h :)⟩
        · refine di h rfl (hpr rfl) (fun h => ?_) (fun h => ?_)
          · refine dp rfl rfl ?_
            refine dp rfl rfl ?_
            refine dh rfl (head_len_map tok rfl rfl rfl rfl) ?_
            refine dp rfl rfl ?_
            obtain ⟨v9, hv9, h⟩ := pb h
            refine dh rfl (head_callp (r16_room_w _ _ _ hv9) rfl rfl rfl rfl) ?_
            iterate 2 refine dp rfl rfl ?_
            refine aops_nil ?_
            exact ⟨(!v9), (sk [1, 2, 3, 4, 8, 17, 27] [] rfl), (pe h :)⟩
          · refine dk rfl ?_
            iterate 5 refine dk rfl ?_
            refine dp rfl rfl ?_
            refine aops_nil ?_
            exact ⟨false, (sk [1, 2, 3, 4, 8, 17, 27] [] rfl), (pe h :)⟩

theorem r16_Page_w (o : ObjectD) (n : Int) (r : Arr16 Int) (h : r16_Page o n = some r) : PCall Try.prog 54 [.agg (encObjectD o), .int .i64 n] (.agg [.int .u64 r.e0, .int .u64 r.e1, .int .u64 r.e2, .int .u64 r.e3, .int .u64 r.e4, .int .u64 r.e5, .int .u64 r.e6, .int .u64 r.e7, .int .u64 r.e8, .int .u64 r.e9, .int .u64 r.e10, .int .u64 r.e11, .int .u64 r.e12, .int .u64 r.e13, .int .u64 r.e14, .int .u64 r.e15]) := by
  replace h : post (r16_Page o n) (fun v => v = r) := ⟨_, h, rfl⟩
  unfold r16_Page at h
  refine d_intro Try.func54 rfl (by decide +kernel) (ts := .agg (encObjectD o) :: .int .i64 n :: un 41) rfl fun B hB => ?_
  refine lc ?_ (by dsimp only [un])
  refine awp_seq ?_
  refine awp_region ?_
  refine dn rfl (hbx (cs := (encObjectD o)) 0 rfl rfl rfl) ?_
  refine dn rfl (head_alloc tok 1 rfl rfl) ?_
  refine aops_nil ?_
  refine awp_seq ?_
  refine awp_region ?_
  refine dn rfl (head_alloc tok 2 rfl rfl) ?_
  refine aops_nil ?_
  iterate 2 refine awp_seq ?_
  refine awp_region ?_
  refine dp rfl rfl ?_
  refine aops_nil ?_
  refine awp_block ?_
  refine cl h (fun x1 => ⟨an 1 (.int .i64 n :: .ptr 0 0 :: an 1 (.ptr 1 0 :: .ptr 2 0 :: .int .i64 x1.1 :: an 36 [])), [some (.var (encObjectD o)), some (.var [.int .u64 (0 : Int), .int .u64 (0 : Int), .int .u64 (0 : Int), .int .u64 (0 : Int), .int .u64 (0 : Int), .int .u64 (0 : Int), .int .u64 (0 : Int), .int .u64 (0 : Int), .int .u64 (0 : Int), .int .u64 (0 : Int), .int .u64 (0 : Int), .int .u64 (0 : Int), .int .u64 (0 : Int), .int .u64 (0 : Int), .int .u64 (0 : Int), .int .u64 (0 : Int)]), some (.var [.int .u64 x1.2.e0, .int .u64 x1.2.e1, .int .u64 x1.2.e2, .int .u64 x1.2.e3, .int .u64 x1.2.e4, .int .u64 x1.2.e5, .int .u64 x1.2.e6, .int .u64 x1.2.e7, .int .u64 x1.2.e8, .int .u64 x1.2.e9, .int .u64 x1.2.e10, .int .u64 x1.2.e11, .int .u64 x1.2.e12, .int .u64 x1.2.e13, .int .u64 x1.2.e14, .int .u64 x1.2.e15])], []⟩) (sk [1, 2, 4, 5, 6] [] rfl) (fun rec x1 h => ?_)
  unfold r16_Page_L0 at h
  refine lc ?_
  iterate 2 refine awp_seq ?_
  refine awp_region ?_
  iterate 2 refine dp rfl rfl ?_
  refine aops_nil ?_
  refine cc h rfl (fun h => ?_) (fun h => ?_)
  · refine awp_skip ?_
    refine cw h (fun x4 => ⟨an 1 (.int .i64 n :: .ptr 0 0 :: an 1 (.ptr 1 0 :: .ptr 2 0 :: .int .i64 x1.1 :: an 36 [])), [some (.var (encObjectD o)), some (.var [.int .u64 (0 : Int), .int .u64 (0 : Int), .int .u64 (0 : Int), .int .u64 (0 : Int), .int .u64 (0 : Int), .int .u64 (0 : Int), .int .u64 (0 : Int), .int .u64 (0 : Int), .int .u64 (0 : Int), .int .u64 (0 : Int), .int .u64 (0 : Int), .int .u64 (0 : Int), .int .u64 (0 : Int), .int .u64 (0 : Int), .int .u64 (0 : Int), .int .u64 (0 : Int)]), some (.var [.int .u64 x4.e0, .int .u64 x4.e1, .int .u64 x4.e2, .int .u64 x4.e3, .int .u64 x4.e4, .int .u64 x4.e5, .int .u64 x4.e6, .int .u64 x4.e7, .int .u64 x4.e8, .int .u64 x4.e9, .int .u64 x4.e10, .int .u64 x4.e11, .int .u64 x4.e12, .int .u64 x4.e13, .int .u64 x4.e14, .int .u64 x4.e15])], []⟩) (fun x4 h => ?_) (fun h => ?_)
    · refine lc ?_
      refine awp_region ?_
      iterate 3 refine dp rfl rfl ?_
      refine aops_nil ?_
      exact ⟨((IntKind.i64.wrap (x1.1 + (1 : Int))), x4), (sk [1, 2, 4, 5, 6] [] rfl), h⟩
    · refine awp_block ?_
      refine cw h (fun x5 => ⟨an 1 (.int .i64 n :: .ptr 0 0 :: an 1 (.ptr 1 0 :: .ptr 2 0 :: .int .i64 x1.1 :: an 24 (.bool x5 :: an 11 []))), [some (.var (encObjectD o)), some (.var [.int .u64 (0 : Int), .int .u64 (0 : Int), .int .u64 (0 : Int), .int .u64 (0 : Int), .int .u64 (0 : Int), .int .u64 (0 : Int), .int .u64 (0 : Int), .int .u64 (0 : Int), .int .u64 (0 : Int), .int .u64 (0 : Int), .int .u64 (0 : Int), .int .u64 (0 : Int), .int .u64 (0 : Int), .int .u64 (0 : Int), .int .u64 (0 : Int), .int .u64 (0 : Int)]), some (.var [.int .u64 x1.2.e0, .int .u64 x1.2.e1, .int .u64 x1.2.e2, .int .u64 x1.2.e3, .int .u64 x1.2.e4, .int .u64 x1.2.e5, .int .u64 x1.2.e6, .int .u64 x1.2.e7, .int .u64 x1.2.e8, .int .u64 x1.2.e9, .int .u64 x1.2.e10, .int .u64 x1.2.e11, .int .u64 x1.2.e12, .int .u64 x1.2.e13, .int .u64 x1.2.e14, .int .u64 x1.2.e15])], []⟩) (fun x5 h => ?_) (fun h => ?_)
      · refine lc ?_
        refine cc h rfl (fun h => ?_) (fun h => ?_)
        · refine awp_region ?_
          iterate 7 refine dp rfl rfl ?_
          obtain ⟨x7, hx7, h⟩ := pb h
          refine dh rfl (head_index_map tok hx7 rfl rfl rfl rfl rfl rfl rfl) ?_
          refine dp rfl rfl ?_
          obtain ⟨j8, hj8, h⟩ := pb h
          have j8_lt := inr_lt hj8
          refine dh rfl (head_index_arrn tok hj8 rfl rfl rfl rfl rfl rfl rfl) ?_
          refine d_store (cs' := [.int .u64 ((Arr16.set x1.2 j8 x7).e0), .int .u64 ((Arr16.set x1.2 j8 x7).e1), .int .u64 ((Arr16.set x1.2 j8 x7).e2), .int .u64 ((Arr16.set x1.2 j8 x7).e3), .int .u64 ((Arr16.set x1.2 j8 x7).e4), .int .u64 ((Arr16.set x1.2 j8 x7).e5), .int .u64 ((Arr16.set x1.2 j8 x7).e6), .int .u64 ((Arr16.set x1.2 j8 x7).e7), .int .u64 ((Arr16.set x1.2 j8 x7).e8), .int .u64 ((Arr16.set x1.2 j8 x7).e9), .int .u64 ((Arr16.set x1.2 j8 x7).e10), .int .u64 ((Arr16.set x1.2 j8 x7).e11), .int .u64 ((Arr16.set x1.2 j8 x7).e12), .int .u64 ((Arr16.set x1.2 j8 x7).e13), .int .u64 ((Arr16.set x1.2 j8 x7).e14), .int .u64 ((Arr16.set x1.2 j8 x7).e15)]) tok rfl rfl rfl rfl rfl rfl rfl (nat16 (P := fun j8 => Nat.ble (0 + j8 + 1) 16 = true) ⟨rfl, rfl, rfl, rfl, rfl, rfl, rfl, rfl, rfl, rfl, rfl, rfl, rfl, rfl, rfl, rfl⟩ j8_lt) rfl (nat16 (P := fun j8 => splice (0 + j8) [.int .u64 x7] [.int .u64 x1.2.e0, .int .u64 x1.2.e1, .int .u64 x1.2.e2, .int .u64 x1.2.e3, .int .u64 x1.2.e4, .int .u64 x1.2.e5, .int .u64 x1.2.e6, .int .u64 x1.2.e7, .int .u64 x1.2.e8, .int .u64 x1.2.e9, .int .u64 x1.2.e10, .int .u64 x1.2.e11, .int .u64 x1.2.e12, .int .u64 x1.2.e13, .int .u64 x1.2.e14, .int .u64 x1.2.e15] = [.int .u64 ((Arr16.set x1.2 j8 x7).e0), .int .u64 ((Arr16.set x1.2 j8 x7).e1), .int .u64 ((Arr16.set x1.2 j8 x7).e2), .int .u64 ((Arr16.set x1.2 j8 x7).e3), .int .u64 ((Arr16.set x1.2 j8 x7).e4), .int .u64 ((Arr16.set x1.2 j8 x7).e5), .int .u64 ((Arr16.set x1.2 j8 x7).e6), .int .u64 ((Arr16.set x1.2 j8 x7).e7), .int .u64 ((Arr16.set x1.2 j8 x7).e8), .int .u64 ((Arr16.set x1.2 j8 x7).e9), .int .u64 ((Arr16.set x1.2 j8 x7).e10), .int .u64 ((Arr16.set x1.2 j8 x7).e11), .int .u64 ((Arr16.set x1.2 j8 x7).e12), .int .u64 ((Arr16.set x1.2 j8 x7).e13), .int .u64 ((Arr16.set x1.2 j8 x7).e14), .int .u64 ((Arr16.set x1.2 j8 x7).e15)]) ⟨rfl, rfl, rfl, rfl, rfl, rfl, rfl, rfl, rfl, rfl, rfl, rfl, rfl, rfl, rfl, rfl⟩ j8_lt) (by dsimp only [List.set, AV.cellsOf]) (by dsimp only [putL, List.set]) ?_
          refine aops_nil ?_
          exact ⟨(Arr16.set x1.2 j8 x7), (sk [1, 2, 4, 5, 6] [] rfl), (pe h :)⟩
        · refine awp_skip ?_
          exact ⟨x1.2, (sk [1, 2, 4, 5, 6] [] rfl), (pe h :)⟩
      · refine awp_region ?_
        iterate 3 refine dp rfl rfl ?_
        refine ca h 4 (fun x10 => ⟨an 1 (.int .i64 n :: .ptr 0 0 :: an 1 (.ptr 1 0 :: .ptr 2 0 :: .int .i64 x1.1 :: an 10 (.bool x10 :: an 25 []))), [some (.var (encObjectD o)), some (.var [.int .u64 (0 : Int), .int .u64 (0 : Int), .int .u64 (0 : Int), .int .u64 (0 : Int), .int .u64 (0 : Int), .int .u64 (0 : Int), .int .u64 (0 : Int), .int .u64 (0 : Int), .int .u64 (0 : Int), .int .u64 (0 : Int), .int .u64 (0 : Int), .int .u64 (0 : Int), .int .u64 (0 : Int), .int .u64 (0 : Int), .int .u64 (0 : Int), .int .u64 (0 : Int)]), some (.var [.int .u64 x1.2.e0, .int .u64 x1.2.e1, .int .u64 x1.2.e2, .int .u64 x1.2.e3, .int .u64 x1.2.e4, .int .u64 x1.2.e5, .int .u64 x1.2.e6, .int .u64 x1.2.e7, .int .u64 x1.2.e8, .int .u64 x1.2.e9, .int .u64 x1.2.e10, .int .u64 x1.2.e11, .int .u64 x1.2.e12, .int .u64 x1.2.e13, .int .u64 x1.2.e14, .int .u64 x1.2.e15])], []⟩) (fun x10 h => ?_) (fun h => ?_)
        · refine lo ?_
          refine ca h 4 (fun x12 => ⟨an 1 (.int .i64 n :: .ptr 0 0 :: an 1 (.ptr 1 0 :: .ptr 2 0 :: .int .i64 x1.1 :: an 14 (.bool x12 :: an 21 []))), [some (.var (encObjectD o)), some (.var [.int .u64 (0 : Int), .int .u64 (0 : Int), .int .u64 (0 : Int), .int .u64 (0 : Int), .int .u64 (0 : Int), .int .u64 (0 : Int), .int .u64 (0 : Int), .int .u64 (0 : Int), .int .u64 (0 : Int), .int .u64 (0 : Int), .int .u64 (0 : Int), .int .u64 (0 : Int), .int .u64 (0 : Int), .int .u64 (0 : Int), .int .u64 (0 : Int), .int .u64 (0 : Int)]), some (.var [.int .u64 x1.2.e0, .int .u64 x1.2.e1, .int .u64 x1.2.e2, .int .u64 x1.2.e3, .int .u64 x1.2.e4, .int .u64 x1.2.e5, .int .u64 x1.2.e6, .int .u64 x1.2.e7, .int .u64 x1.2.e8, .int .u64 x1.2.e9, .int .u64 x1.2.e10, .int .u64 x1.2.e11, .int .u64 x1.2.e12, .int .u64 x1.2.e13, .int .u64 x1.2.e14, .int .u64 x1.2.e15])], []⟩) (fun x12 h => ?_) (fun h => ?_)
          · refine lo ?_
            refine di h rfl (hpr rfl) (fun h => ?_) (fun h => ?_)
            · refine dp rfl rfl ?_
              iterate 5 refine dp rfl rfl ?_
              refine dh rfl (head_len_map tok rfl rfl rfl rfl) ?_
              iterate 2 refine dp rfl rfl ?_
              refine aops_nil ?_
              exact ⟨(decide ((IntKind.i64.wrap ((IntKind.i64.wrap ((16 : Int) * n)) + x1.1)) < (o.Data.length : Int))), (sk [1, 2, 4, 5, 6, 31] [] rfl), (pe h :)⟩
            · refine dk rfl ?_
              iterate 7 refine dk rfl ?_
              refine dp rfl rfl ?_
              refine aops_nil ?_
              exact ⟨false, (sk [1, 2, 4, 5, 6, 31] [] rfl), (pe h :)⟩
          · refine di h rfl (hpr rfl) (fun h => ?_) (fun h => ?_)
            · refine dp rfl rfl ?_
              iterate 2 refine dp rfl rfl ?_
              refine aops_nil ?_
              exact ⟨(decide (n < (1048576 : Int))), (sk [1, 2, 4, 5, 6, 21] [] rfl), (pe h :)⟩
            · refine dk rfl ?_
              refine dk rfl ?_
              refine dp rfl rfl ?_
              refine aops_nil ?_
              exact ⟨false, (sk [1, 2, 4, 5, 6, 21] [] rfl), (pe h :)⟩
        · refine di h rfl (hpr rfl) (fun h => ?_) (fun h => ?_)
          · refine dp rfl rfl ?_
            iterate 2 refine dp rfl rfl ?_
            refine aops_nil ?_
            exact ⟨(decide (n ≥ (0 : Int))), (sk [1, 2, 4, 5, 6, 17] [] rfl), (pe h :)⟩
          · refine dk rfl ?_
            refine dk rfl ?_
            refine dp rfl rfl ?_
            refine aops_nil ?_
            exact ⟨false, (sk [1, 2, 4, 5, 6, 17] [] rfl), (pe h :)⟩
  · refine awp_exit ?_
    replace h := pe h
    let y2exit0 : Arr16 Int := x1.2
    refine awp_seq ?_
    refine awp_region ?_
    refine dp rfl rfl ?_
    refine d_store_all tok rfl rfl rfl rfl rfl rfl rfl rfl rfl (by dsimp only [List.set, AV.cellsOf]) (by dsimp only [putL, List.set]) ?_
    refine aops_nil ?_
    refine awp_ret ?_
    obtain rfl := pe h
    exact qfun_ret_of rfl (ares_cell1 tok rfl rfl rfl rfl) (Weak.refl _) rfl

theorem law16_SegDoes_w (o : ObjectD) (n : Int) (at_ : Int) (v : Int) (l : List PairD) (quota : Int) (r : Bool) (h : law16_SegDoes o n at_ v l quota = some r) : PCall Try.prog 6 [.agg (encObjectD o), .int .i64 n, .int .u64 at_, .int .u64 v, .list (List.map encPairD l), .int .i64 quota] (.bool r) := by
  replace h : post (law16_SegDoes o n at_ v l quota) (fun v => v = r) := ⟨_, h, rfl⟩
  unfold law16_SegDoes at h
  refine d_intro Try.func6 rfl (by decide +kernel) (ts := .agg (encObjectD o) :: .int .i64 n :: .int .u64 at_ :: .int .u64 v :: .list (List.map encPairD l) :: .int .i64 quota :: un 161) rfl fun B hB => ?_
  refine lc ?_ (by dsimp only [un])
  refine awp_seq ?_
  refine awp_region ?_
  refine dn rfl (hbx (cs := (encObjectD o)) 0 rfl rfl rfl) ?_
  refine dp rfl rfl ?_
  refine aops_nil ?_
  refine awp_seq ?_
  refine cw h (fun x1 => ⟨an 1 (.int .i64 n :: .int .u64 at_ :: .int .u64 v :: .list (List.map encPairD l) :: .int .i64 quota :: .ptr 0 0 :: an 38 (.bool x1 :: an 121 [])), [some (.var (encObjectD o))], []⟩) (fun x1 h => ?_) (fun h => ?_)
  · refine lc ?_
    refine cc h rfl (fun h => ?_) (fun h => ?_)
    · refine awp_seq ?_
      refine awp_region ?_
      obtain ⟨v3, hv3, h⟩ := pb h
      refine dh rfl (head_callp (law16_awake_w _ hv3) rfl rfl rfl rfl) ?_
      refine dp rfl rfl ?_
      refine aops_nil ?_
      refine awp_ret ?_
      obtain rfl := pe h
      exact qfun_ret rfl rfl (Weak.refl _) rfl
    · refine awp_skip ?_
      refine awp_seq ?_
      refine awp_region ?_
      iterate 2 refine dp rfl rfl ?_
      obtain ⟨v4, hv4, h⟩ := pb h
      refine dh rfl (head_callp (seg_Resize_w _ _ _ hv4) rfl rfl rfl rfl) ?_
      iterate 3 refine dp rfl rfl ?_
      refine dn rfl (head_alloc tok 1 rfl rfl) ?_
      refine d_store_all tok rfl rfl rfl rfl rfl rfl rfl rfl rfl (by dsimp only [List.set, AV.cellsOf]) (by dsimp only [putL, List.set]) ?_
      refine dp rfl rfl ?_
      refine aops_nil ?_
      refine awp_seq ?_
      refine awp_region ?_
      iterate 2 refine dp rfl rfl ?_
      obtain ⟨v5, hv5, h⟩ := pb h
      refine dh rfl (head_callp (r16_Resize_w _ _ _ hv5) rfl rfl rfl rfl) ?_
      iterate 3 refine dp rfl rfl ?_
      refine dn rfl (head_alloc tok 2 rfl rfl) ?_
      refine d_store_all tok rfl rfl rfl rfl rfl rfl rfl rfl rfl (by dsimp only [List.set, AV.cellsOf]) (by dsimp only [putL, List.set]) ?_
      refine dp rfl rfl ?_
      refine aops_nil ?_
      refine awp_seq ?_
      refine awp_region ?_
      iterate 2 refine dp rfl rfl ?_
      obtain ⟨v6, hv6, h⟩ := pb h
      refine dh rfl (head_callp (seg_Get_w _ _ _ hv6) rfl rfl rfl rfl) ?_
      iterate 5 refine dp rfl rfl ?_
      refine aops_nil ?_
      refine awp_seq ?_
      refine awp_region ?_
      iterate 2 refine dp rfl rfl ?_
      obtain ⟨v7, hv7, h⟩ := pb h
      refine dh rfl (head_callp (r16_Get_w _ _ _ hv7) rfl rfl rfl rfl) ?_
      iterate 5 refine dp rfl rfl ?_
      refine aops_nil ?_
      refine awp_seq ?_
      refine awp_region ?_
      iterate 3 refine dp rfl rfl ?_
      obtain ⟨v8, hv8, h⟩ := pb h
      refine dh rfl (head_callp (seg_Put_w _ _ _ _ hv8) rfl rfl rfl rfl) ?_
      iterate 3 refine dp rfl rfl ?_
      refine dn rfl (head_alloc tok 3 rfl rfl) ?_
      refine d_store_all tok rfl rfl rfl rfl rfl rfl rfl rfl rfl (by dsimp only [List.set, AV.cellsOf]) (by dsimp only [putL, List.set]) ?_
      refine dp rfl rfl ?_
      refine aops_nil ?_
      refine awp_seq ?_
      refine awp_region ?_
      iterate 3 refine dp rfl rfl ?_
      obtain ⟨v9, hv9, h⟩ := pb h
      refine dh rfl (head_callp (r16_Put_w _ _ _ _ hv9) rfl rfl rfl rfl) ?_
      iterate 3 refine dp rfl rfl ?_
      refine dn rfl (head_alloc tok 4 rfl rfl) ?_
      refine d_store_all tok rfl rfl rfl rfl rfl rfl rfl rfl rfl (by dsimp only [List.set, AV.cellsOf]) (by dsimp only [putL, List.set]) ?_
      refine dp rfl rfl ?_
      refine aops_nil ?_
      refine awp_seq ?_
      refine awp_region ?_
      iterate 4 refine dp rfl rfl ?_
      obtain ⟨v10, hv10, h⟩ := pb h
      refine dh rfl (head_callp (seg_Copy_w _ _ _ _ _ hv10) rfl rfl rfl rfl) ?_
      iterate 3 refine dp rfl rfl ?_
      refine dn rfl (head_alloc tok 5 rfl rfl) ?_
      refine d_store_all tok rfl rfl rfl rfl rfl rfl rfl rfl rfl (by dsimp only [List.set, AV.cellsOf]) (by dsimp only [putL, List.set]) ?_
      refine dp rfl rfl ?_
      refine aops_nil ?_
      refine awp_seq ?_
      refine awp_region ?_
      iterate 4 refine dp rfl rfl ?_
      obtain ⟨v11, hv11, h⟩ := pb h
      refine dh rfl (head_callp (r16_Copy_w _ _ _ _ _ hv11) rfl rfl rfl rfl) ?_
      iterate 3 refine dp rfl rfl ?_
      refine dn rfl (head_alloc tok 6 rfl rfl) ?_
      refine d_store_all tok rfl rfl rfl rfl rfl rfl rfl rfl rfl (by dsimp only [List.set, AV.cellsOf]) (by dsimp only [putL, List.set]) ?_
      refine dp rfl rfl ?_
      refine aops_nil ?_
      refine awp_seq ?_
      refine awp_draw 66 mixed (by decide +kernel) ?_
      iterate 2 refine kp rfl rfl ?_
      obtain ⟨v12, hv12, h⟩ := pb h
      refine kh rfl (head_callp (r13_SameOne_w _ _ _ hv12) rfl rfl rfl rfl) ?_
      refine ki h rfl (hpr rfl) (fun h => ?_) (fun h => ?_)
      · refine kp rfl rfl ?_
        iterate 3 refine kp rfl rfl ?_
        refine ki h rfl (hpr rfl) (fun h => ?_) (fun h => ?_)
        · refine kp rfl rfl ?_
          iterate 3 refine kp rfl rfl ?_
          refine ki h rfl (hpr rfl) (fun h => ?_) (fun h => ?_)
          · refine kp rfl rfl ?_
            iterate 3 refine kp rfl rfl ?_
            refine ki h rfl (hpr rfl) (fun h => ?_) (fun h => ?_)
            · refine kp rfl rfl ?_
              refine kp rfl rfl ?_
              obtain ⟨v17, hv17, h⟩ := pb h
              refine kh rfl (head_callp (r13_SameOne_w _ _ _ hv17) rfl rfl rfl rfl) ?_
              refine kp rfl rfl ?_
              refine ki h rfl (hpr rfl) (fun h => ?_) (fun h => ?_)
              · refine kp rfl rfl ?_
                iterate 3 refine kp rfl rfl ?_
                refine ki h rfl (hpr rfl) (fun h => ?_) (fun h => ?_)
                · refine kp rfl rfl ?_
                  refine kp rfl rfl ?_
                  obtain ⟨v20, hv20, h⟩ := pb h
                  refine kh rfl (head_callp (r13_SameOne_w _ _ _ hv20) rfl rfl rfl rfl) ?_
                  refine kp rfl rfl ?_
                  refine ki h rfl (hpr rfl) (fun h => ?_) (fun h => ?_)
                  · refine kp rfl rfl ?_
                    iterate 3 refine kp rfl rfl ?_
                    refine ki h rfl (hpr rfl) (fun h => ?_) (fun h => ?_)
                    · refine kp rfl rfl ?_
                      refine kp rfl rfl ?_
                      obtain ⟨v23, hv23, h⟩ := pb h
                      refine kh rfl (head_callp (seg_Page_w _ _ _ hv23) rfl rfl rfl rfl) ?_
                      iterate 2 refine kp rfl rfl ?_
                      obtain ⟨v24, hv24, h⟩ := pb h
                      refine kh rfl (head_callp (r16_Page_w _ _ _ hv24) rfl rfl rfl rfl) ?_
                      refine kh rfl (head_eqs tok eqAll flat1 rfl (.inl ⟨rfl, rfl⟩) rfl rfl (by kernel_rfl) rfl rfl rfl) ?_
                      refine kp rfl rfl ?_
                      refine ki h rfl (hpr rfl) (fun h => ?_) (fun h => ?_)
                      · refine kp rfl rfl ?_
                        obtain ⟨v26, hv26, h⟩ := pb h
                        refine kh rfl (head_callp (r13_Sound_w _ _ hv26) rfl rfl rfl rfl) ?_
                        refine kp rfl rfl ?_
                        refine ki h rfl (hpr rfl) (fun h => ?_) (fun h => ?_)
                        · refine kp rfl rfl ?_
                          obtain ⟨v28, hv28, h⟩ := pb h
                          refine kh rfl (head_callp (r13_Sound_w _ _ hv28) rfl rfl rfl rfl) ?_
                          refine kp rfl rfl ?_
                          refine ki h rfl (hpr rfl) (fun h => ?_) (fun h => ?_)
                          · refine kp rfl rfl ?_
                            refine kp rfl rfl ?_
                            refine ki h rfl (hpr rfl) (fun h => ?_) (fun h => ?_)
                            · refine kk rfl ?_
                              refine kk rfl ?_
                              iterate 3 refine kp rfl rfl ?_
                              obtain ⟨v31, hv31, h⟩ := pb h
                              refine kh rfl (head_callp (law16_awake_w _ hv31) rfl rfl rfl rfl) ?_
                              refine kp rfl rfl ?_
                              refine .nil ?_
                              refine dp rfl rfl ?_
                              refine aops_nil ?_
                              refine awp_ret ?_
                              obtain rfl := pe h
                              exact qfun_ret rfl rfl (Weak.refl _) rfl
                            · refine kp rfl rfl ?_
                              obtain ⟨v32, hv32, h⟩ := pb h
                              refine kh rfl (head_callp (r13_Sound_w _ _ hv32) rfl rfl rfl rfl) ?_
                              iterate 2 refine kp rfl rfl ?_
                              refine ki h rfl (hpr rfl) (fun h => ?_) (fun h => ?_)
                              · obtain ⟨v34, hv34, h⟩ := pb h
                                refine kh rfl (head_callp (law16_awake_w _ hv34) rfl rfl rfl rfl) ?_
                                refine kp rfl rfl ?_
                                refine .nil ?_
                                refine dp rfl rfl ?_
                                refine aops_nil ?_
                                refine awp_ret ?_
                                obtain rfl := pe h
                                exact qfun_ret rfl rfl (Weak.refl _) rfl
                              · refine kk rfl ?_
                                refine kp rfl rfl ?_
                                refine .nil ?_
                                refine dp rfl rfl ?_
                                refine aops_nil ?_
                                refine awp_ret ?_
                                obtain rfl := pe h
                                exact qfun_ret rfl rfl (Weak.refl _) rfl
                          · refine kk rfl ?_
                            iterate 5 refine kk rfl ?_
                            iterate 2 refine kp rfl rfl ?_
                            refine kk rfl ?_
                            refine kp rfl rfl ?_
                            refine .nil ?_
                            refine dp rfl rfl ?_
                            refine aops_nil ?_
                            refine awp_ret ?_
                            obtain rfl := pe h
                            exact qfun_ret rfl rfl (Weak.refl _) rfl
                        · refine kk rfl ?_
                          refine kk rfl ?_
                          iterate 2 refine kp rfl rfl ?_
                          iterate 6 refine kk rfl ?_
                          iterate 2 refine kp rfl rfl ?_
                          refine kk rfl ?_
                          refine kp rfl rfl ?_
                          refine .nil ?_
                          refine dp rfl rfl ?_
                          refine aops_nil ?_
                          refine awp_ret ?_
                          obtain rfl := pe h
                          exact qfun_ret rfl rfl (Weak.refl _) rfl
                      · refine kk rfl ?_
                        refine kk rfl ?_
                        iterate 2 refine kp rfl rfl ?_
                        iterate 2 refine kk rfl ?_
                        iterate 2 refine kp rfl rfl ?_
                        iterate 6 refine kk rfl ?_
                        iterate 2 refine kp rfl rfl ?_
                        refine kk rfl ?_
                        refine kp rfl rfl ?_
                        refine .nil ?_
                        refine dp rfl rfl ?_
                        refine aops_nil ?_
                        refine awp_ret ?_
                        obtain rfl := pe h
                        exact qfun_ret rfl rfl (Weak.refl _) rfl
                    · refine kk rfl ?_
                      iterate 6 refine kk rfl ?_
                      iterate 2 refine kp rfl rfl ?_
                      iterate 2 refine kk rfl ?_
                      iterate 2 refine kp rfl rfl ?_
                      iterate 2 refine kk rfl ?_
                      iterate 2 refine kp rfl rfl ?_
                      iterate 6 refine kk rfl ?_
                      iterate 2 refine kp rfl rfl ?_
                      refine kk rfl ?_
                      refine kp rfl rfl ?_
                      refine .nil ?_
                      refine dp rfl rfl ?_
                      refine aops_nil ?_
                      refine awp_ret ?_
                      obtain rfl := pe h
                      exact qfun_ret rfl rfl (Weak.refl _) rfl
                  · refine kk rfl ?_
                    iterate 2 refine kk rfl ?_
                    iterate 2 refine kp rfl rfl ?_
                    iterate 7 refine kk rfl ?_
                    iterate 2 refine kp rfl rfl ?_
                    iterate 2 refine kk rfl ?_
                    iterate 2 refine kp rfl rfl ?_
                    iterate 2 refine kk rfl ?_
                    iterate 2 refine kp rfl rfl ?_
                    iterate 6 refine kk rfl ?_
                    iterate 2 refine kp rfl rfl ?_
                    refine kk rfl ?_
                    refine kp rfl rfl ?_
                    refine .nil ?_
                    refine dp rfl rfl ?_
                    refine aops_nil ?_
                    refine awp_ret ?_
                    obtain rfl := pe h
                    exact qfun_ret rfl rfl (Weak.refl _) rfl
                · refine kk rfl ?_
                  iterate 2 refine kk rfl ?_
                  iterate 2 refine kp rfl rfl ?_
                  iterate 3 refine kk rfl ?_
                  iterate 2 refine kp rfl rfl ?_
                  iterate 7 refine kk rfl ?_
                  iterate 2 refine kp rfl rfl ?_
                  iterate 2 refine kk rfl ?_
                  iterate 2 refine kp rfl rfl ?_
                  iterate 2 refine kk rfl ?_
                  iterate 2 refine kp rfl rfl ?_
                  iterate 6 refine kk rfl ?_
                  iterate 2 refine kp rfl rfl ?_
                  refine kk rfl ?_
                  refine kp rfl rfl ?_
                  refine .nil ?_
                  refine dp rfl rfl ?_
                  refine aops_nil ?_
                  refine awp_ret ?_
                  obtain rfl := pe h
                  exact qfun_ret rfl rfl (Weak.refl _) rfl
              · refine kk rfl ?_
                iterate 2 refine kk rfl ?_
                iterate 2 refine kp rfl rfl ?_
                iterate 3 refine kk rfl ?_
                iterate 2 refine kp rfl rfl ?_
                iterate 3 refine kk rfl ?_
                iterate 2 refine kp rfl rfl ?_
                iterate 7 refine kk rfl ?_
                iterate 2 refine kp rfl rfl ?_
                iterate 2 refine kk rfl ?_
                iterate 2 refine kp rfl rfl ?_
                iterate 2 refine kk rfl ?_
                iterate 2 refine kp rfl rfl ?_
                iterate 6 refine kk rfl ?_
                iterate 2 refine kp rfl rfl ?_
                refine kk rfl ?_
                refine kp rfl rfl ?_
                refine .nil ?_
                refine dp rfl rfl ?_
                refine aops_nil ?_
                refine awp_ret ?_
                obtain rfl := pe h
                exact qfun_ret rfl rfl (Weak.refl _) rfl
            · refine kk rfl ?_
              iterate 2 refine kk rfl ?_
              iterate 2 refine kp rfl rfl ?_
              iterate 3 refine kk rfl ?_
              iterate 2 refine kp rfl rfl ?_
              iterate 3 refine kk rfl ?_
              iterate 2 refine kp rfl rfl ?_
              iterate 3 refine kk rfl ?_
              iterate 2 refine kp rfl rfl ?_
              iterate 7 refine kk rfl ?_
              iterate 2 refine kp rfl rfl ?_
              iterate 2 refine kk rfl ?_
              iterate 2 refine kp rfl rfl ?_
              iterate 2 refine kk rfl ?_
              iterate 2 refine kp rfl rfl ?_
              iterate 6 refine kk rfl ?_
              iterate 2 refine kp rfl rfl ?_
              refine kk rfl ?_
              refine kp rfl rfl ?_
              refine .nil ?_
              refine dp rfl rfl ?_
              refine aops_nil ?_
              refine awp_ret ?_
              obtain rfl := pe h
              exact qfun_ret rfl rfl (Weak.refl _) rfl
          · refine kk rfl ?_
            iterate 2 refine kk rfl ?_
            iterate 2 refine kp rfl rfl ?_
            iterate 3 refine kk rfl ?_
            iterate 2 refine kp rfl rfl ?_
            iterate 3 refine kk rfl ?_
            iterate 2 refine kp rfl rfl ?_
            iterate 3 refine kk rfl ?_
            iterate 2 refine kp rfl rfl ?_
            iterate 3 refine kk rfl ?_
            iterate 2 refine kp rfl rfl ?_
            iterate 7 refine kk rfl ?_
            iterate 2 refine kp rfl rfl ?_
            iterate 2 refine kk rfl ?_
            iterate 2 refine kp rfl rfl ?_
            iterate 2 refine kk rfl ?_
            iterate 2 refine kp rfl rfl ?_
            iterate 6 refine kk rfl ?_
            iterate 2 refine kp rfl rfl ?_
            refine kk rfl ?_
            refine kp rfl rfl ?_
            refine .nil ?_
            refine dp rfl rfl ?_
            refine aops_nil ?_
            refine awp_ret ?_
            obtain rfl := pe h
            exact qfun_ret rfl rfl (Weak.refl _) rfl
        · refine kk rfl ?_
          iterate 2 refine kk rfl ?_
          iterate 2 refine kp rfl rfl ?_
          iterate 3 refine kk rfl ?_
          iterate 2 refine kp rfl rfl ?_
          iterate 3 refine kk rfl ?_
          iterate 2 refine kp rfl rfl ?_
          iterate 3 refine kk rfl ?_
          iterate 2 refine kp rfl rfl ?_
          iterate 3 refine kk rfl ?_
          iterate 2 refine kp rfl rfl ?_
          iterate 3 refine kk rfl ?_
          iterate 2 refine kp rfl rfl ?_
          iterate 7 refine kk rfl ?_
          iterate 2 refine kp rfl rfl ?_
          iterate 2 refine kk rfl ?_
          iterate 2 refine kp rfl rfl ?_
          iterate 2 refine kk rfl ?_
          iterate 2 refine kp rfl rfl ?_
          iterate 6 refine kk rfl ?_
          iterate 2 refine kp rfl rfl ?_
          refine kk rfl ?_
          refine kp rfl rfl ?_
          refine .nil ?_
          refine dp rfl rfl ?_
          refine aops_nil ?_
          refine awp_ret ?_
          obtain rfl := pe h
          exact qfun_ret rfl rfl (Weak.refl _) rfl
      · refine kk rfl ?_
        iterate 2 refine kk rfl ?_
        iterate 2 refine kp rfl rfl ?_
        iterate 3 refine kk rfl ?_
        iterate 2 refine kp rfl rfl ?_
        iterate 3 refine kk rfl ?_
        iterate 2 refine kp rfl rfl ?_
        iterate 3 refine kk rfl ?_
        iterate 2 refine kp rfl rfl ?_
        iterate 3 refine kk rfl ?_
        iterate 2 refine kp rfl rfl ?_
        iterate 3 refine kk rfl ?_
        iterate 2 refine kp rfl rfl ?_
        iterate 3 refine kk rfl ?_
        iterate 2 refine kp rfl rfl ?_
        iterate 7 refine kk rfl ?_
        iterate 2 refine kp rfl rfl ?_
        iterate 2 refine kk rfl ?_
        iterate 2 refine kp rfl rfl ?_
        iterate 2 refine kk rfl ?_
        iterate 2 refine kp rfl rfl ?_
        iterate 6 refine kk rfl ?_
        iterate 2 refine kp rfl rfl ?_
        refine kk rfl ?_
        refine kp rfl rfl ?_
        refine .nil ?_
        refine dp rfl rfl ?_
        refine aops_nil ?_
        refine awp_ret ?_
        obtain rfl := pe h
        exact qfun_ret rfl rfl (Weak.refl _) rfl
  · refine awp_region ?_
    refine dp rfl rfl ?_
    obtain ⟨v35, hv35, h⟩ := pb h
    refine dh rfl (head_callp (law16_brief_w _ _ hv35) rfl rfl rfl rfl) ?_
    refine dp rfl rfl ?_
    refine ca h 5 (fun x37 => ⟨an 1 (.int .i64 n :: .int .u64 at_ :: .int .u64 v :: .list (List.map encPairD l) :: .int .i64 quota :: .ptr 0 0 :: an 29 (.bool x37 :: an 130 [])), [some (.var (encObjectD o))], []⟩) (fun x37 h => ?_) (fun h => ?_)
    · refine lo ?_
      refine ca h 5 (fun x39 => ⟨an 1 (.int .i64 n :: .int .u64 at_ :: .int .u64 v :: .list (List.map encPairD l) :: .int .i64 quota :: .ptr 0 0 :: an 34 (.bool x39 :: an 125 [])), [some (.var (encObjectD o))], []⟩) (fun x39 h => ?_) (fun h => ?_)
      · refine lo ?_
        refine di h rfl (hpr rfl) (fun h => ?_) (fun h => ?_)
        · refine dk rfl ?_
          refine dk rfl ?_
          refine dp rfl rfl ?_
          refine aops_nil ?_
          exact ⟨true, (sk [1, 2, 3, 4, 5, 6, 45] [] rfl), (pe h :)⟩
        · refine dp rfl rfl ?_
          iterate 2 refine dp rfl rfl ?_
          refine aops_nil ?_
          exact ⟨(decide (n > (5000 : Int))), (sk [1, 2, 3, 4, 5, 6, 45] [] rfl), (pe h :)⟩
      · refine di h rfl (hpr rfl) (fun h => ?_) (fun h => ?_)
        · refine dk rfl ?_
          iterate 2 refine dk rfl ?_
          refine dp rfl rfl ?_
          refine aops_nil ?_
          exact ⟨true, (sk [1, 2, 3, 4, 5, 6, 41] [] rfl), (pe h :)⟩
        · refine dp rfl rfl ?_
          obtain ⟨v41, hv41, h⟩ := pb h
          refine dh rfl (head_callp (r13_FitLabel_w _ _ hv41) rfl rfl rfl rfl) ?_
          iterate 2 refine dp rfl rfl ?_
          refine aops_nil ?_
          exact ⟨(!v41), (sk [1, 2, 3, 4, 5, 6, 41] [] rfl), (pe h :)⟩
    · refine di h rfl (hpr rfl) (fun h => ?_) (fun h => ?_)
      · refine dk rfl ?_
        iterate 2 refine dk rfl ?_
        refine dp rfl rfl ?_
        refine aops_nil ?_
        exact ⟨true, (sk [1, 2, 3, 4, 5, 6, 36] [] rfl), (pe h :)⟩
      · refine dp rfl rfl ?_
        refine dh rfl (head_len_map tok rfl rfl rfl rfl) ?_
        iterate 2 refine dp rfl rfl ?_
        refine aops_nil ?_
        exact ⟨(decide ((l.length : Int) > (20 : Int))), (sk [1, 2, 3, 4, 5, 6, 36] [] rfl), (pe h :)⟩

end Go.Proofs.Ytpckfpahmnhfcaa.K
