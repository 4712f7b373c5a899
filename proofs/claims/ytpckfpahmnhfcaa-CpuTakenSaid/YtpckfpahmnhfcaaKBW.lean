/- Walks: what functions of the program compute. Printed by wip/gen/pwrun.py. -/
import Derived.Test.YtpckfpahmnhfcaaKBF
import Derived.Test.YtpckfpahmnhfcaaKAW
namespace Go.Proofs.Ytpckfpahmnhfcaa.K
open Go Go.RowKit Go.Proofs.Ytpckfpahmnhfcaa.G
set_option linter.unusedVariables false
set_option maxRecDepth 20000
set_option maxHeartbeats 4000000
theorem cmp_isNaN_u64_w (x : Int) (r : Bool) (h : cmp_isNaN_u64 x = some r) : PCall Try.prog 160 [.int .u64 x] (.bool r) := by
  replace h : post (cmp_isNaN_u64 x) (fun v => v = r) := ⟨_, h, rfl⟩
  unfold cmp_isNaN_u64 at h
  refine d_intro Try.func160 rfl (by decide +kernel) (ts := .int .u64 x :: un 5) rfl fun B hB => ?_
  refine lc ?_ (by dsimp only [un])
  refine awp_seq ?_
  refine awp_region ?_
  refine dp rfl rfl ?_
  refine aops_nil ?_
  refine awp_seq ?_
  refine awp_region ?_
  iterate 4 refine dp rfl rfl ?_
  refine aops_nil ?_
  refine awp_ret ?_
  obtain rfl := pe h
  exact qfun_ret rfl rfl (Weak.refl _) rfl

theorem cmp_Compare_u64_w (x : Int) (y : Int) (r : Int) (h : cmp_Compare_u64 x y = some r) : PCall Try.prog 145 [.int .u64 x, .int .u64 y] (.int .i64 r) := by
  replace h : post (cmp_Compare_u64 x y) (fun v => v = r) := ⟨_, h, rfl⟩
  unfold cmp_Compare_u64 at h
  refine d_intro Try.func145 rfl (by decide +kernel) (ts := .int .u64 x :: .int .u64 y :: un 18) rfl fun B hB => ?_
  refine lc ?_ (by dsimp only [un])
  refine awp_seq ?_
  refine awp_region ?_
  refine dp rfl rfl ?_
  refine aops_nil ?_
  refine awp_seq ?_
  refine awp_region ?_
  refine dp rfl rfl ?_
  obtain ⟨v1, hv1, h⟩ := pb h
  refine dh rfl (head_callp (cmp_isNaN_u64_w _ _ hv1) rfl rfl rfl rfl) ?_
  refine dp rfl rfl ?_
  refine aops_nil ?_
  refine awp_seq ?_
  refine awp_region ?_
  refine dp rfl rfl ?_
  obtain ⟨v2, hv2, h⟩ := pb h
  refine dh rfl (head_callp (cmp_isNaN_u64_w _ _ hv2) rfl rfl rfl rfl) ?_
  refine dp rfl rfl ?_
  refine aops_nil ?_
  iterate 2 refine awp_seq ?_
  refine awp_region ?_
  refine dp rfl rfl ?_
  refine aops_nil ?_
  refine cc h rfl (fun h => ?_) (fun h => ?_)
  · refine awp_seq ?_
    refine awp_seq ?_
    refine awp_region ?_
    refine dp rfl rfl ?_
    refine aops_nil ?_
    refine cc h rfl (fun h => ?_) (fun h => ?_)
    · refine awp_seq ?_
      refine awp_region ?_
      refine dp rfl rfl ?_
      refine aops_nil ?_
      refine awp_ret ?_
      obtain rfl := pe h
      exact qfun_ret rfl rfl (Weak.refl _) rfl
    · refine awp_skip ?_
      refine awp_seq ?_
      refine awp_region ?_
      refine dp rfl rfl ?_
      refine aops_nil ?_
      refine awp_ret ?_
      obtain rfl := pe h
      exact qfun_ret rfl rfl (Weak.refl _) rfl
  · refine awp_skip ?_
    iterate 2 refine awp_seq ?_
    refine awp_region ?_
    refine dp rfl rfl ?_
    refine aops_nil ?_
    refine cc h rfl (fun h => ?_) (fun h => ?_)
    · refine awp_seq ?_
      refine awp_region ?_
      refine dp rfl rfl ?_
      refine aops_nil ?_
      refine awp_ret ?_
      obtain rfl := pe h
      exact qfun_ret rfl rfl (Weak.refl _) rfl
    · refine awp_skip ?_
      iterate 2 refine awp_seq ?_
      refine awp_region ?_
      iterate 3 refine dp rfl rfl ?_
      refine aops_nil ?_
      refine cc h rfl (fun h => ?_) (fun h => ?_)
      · refine awp_seq ?_
        refine awp_region ?_
        refine dp rfl rfl ?_
        refine aops_nil ?_
        refine awp_ret ?_
        obtain rfl := pe h
        exact qfun_ret rfl rfl (Weak.refl _) rfl
      · refine awp_skip ?_
        iterate 2 refine awp_seq ?_
        refine awp_region ?_
        iterate 3 refine dp rfl rfl ?_
        refine aops_nil ?_
        refine cc h rfl (fun h => ?_) (fun h => ?_)
        · refine awp_seq ?_
          refine awp_region ?_
          refine dp rfl rfl ?_
          refine aops_nil ?_
          refine awp_ret ?_
          obtain rfl := pe h
          exact qfun_ret rfl rfl (Weak.refl _) rfl
        · refine awp_skip ?_
          refine awp_seq ?_
          refine awp_region ?_
          refine dp rfl rfl ?_
          refine aops_nil ?_
          refine awp_ret ?_
          obtain rfl := pe h
          exact qfun_ret rfl rfl (Weak.refl _) rfl

theorem obj_idOf_w (o : ObjectD) (r : Int) (h : obj_idOf o = some r) : PCall Try.prog 93 [.agg (encObjectD o)] (.int .u64 r) := by
  replace h : post (obj_idOf o) (fun v => v = r) := ⟨_, h, rfl⟩
  unfold obj_idOf at h
  refine d_intro Try.func93 rfl (by decide +kernel) (ts := .agg (encObjectD o) :: un 4) rfl fun B hB => ?_
  refine lc ?_ (by dsimp only [un])
  refine awp_seq ?_
  refine awp_region ?_
  refine dn rfl (hbx (cs := (encObjectD o)) 0 rfl rfl rfl) ?_
  refine dp rfl rfl ?_
  refine aops_nil ?_
  refine awp_seq ?_
  refine awp_region ?_
  iterate 3 refine dp rfl rfl ?_
  refine aops_nil ?_
  refine awp_ret ?_
  obtain rfl := pe h
  exact qfun_ret rfl rfl (Weak.refl _) rfl

theorem cpu_Fault_w (t : ThreadD) (why : Int) (r : ThreadD) (h : cpu_Fault t why = some r) : PCall Try.prog 62 [.agg (encThreadD t), .int .u64 why] (.agg (encThreadD r)) := by
  replace h : post (cpu_Fault t why) (fun v => v = r) := ⟨_, h, rfl⟩
  unfold cpu_Fault at h
  refine d_intro Try.func62 rfl (by decide +kernel) (ts := .agg (encThreadD t) :: .int .u64 why :: un 22) rfl fun B hB => ?_
  refine lc ?_ (by dsimp only [un])
  refine awp_seq ?_
  refine awp_region ?_
  refine dn rfl (hbx (cs := (encThreadD t)) 0 rfl rfl rfl) ?_
  refine dn rfl (head_alloc tok 1 rfl rfl) ?_
  refine aops_nil ?_
  iterate 2 refine awp_seq ?_
  refine awp_region ?_
  iterate 3 refine dp rfl rfl ?_
  refine aops_nil ?_
  refine cc h rfl (fun h => ?_) (fun h => ?_)
  · refine awp_seq ?_
    refine awp_region ?_
    refine dh rfl (head_build (r := (encWaitD WaitD.zero)) tok rfl rfl rfl rfl rfl rfl) ?_
    refine dp rfl rfl ?_
    refine d_store (cs' := (encThreadD ({ t with State := (2 : Int) } : ThreadD))) tok rfl rfl rfl rfl rfl rfl rfl rfl rfl rfl (by dsimp only [List.set, AV.cellsOf]) (by dsimp only [putL, List.set]) ?_
    refine dp rfl rfl ?_
    refine d_store (cs' := (encThreadD ({ t with State := (2 : Int), Wait := WaitD.zero } : ThreadD))) tok rfl rfl rfl rfl rfl rfl rfl rfl rfl rfl (by dsimp only [List.set, AV.cellsOf]) (by dsimp only [putL, List.set]) ?_
    refine aops_nil ?_
    refine awp_seq ?_
    refine awp_region ?_
    refine dp rfl rfl ?_
    refine d_store_all tok rfl rfl rfl rfl rfl rfl rfl rfl rfl (by dsimp only [List.set, AV.cellsOf]) (by dsimp only [putL, List.set]) ?_
    refine aops_nil ?_
    refine awp_ret ?_
    obtain rfl := pe h
    exact qfun_ret_of rfl (ares_cell1 tok rfl rfl rfl rfl) (Weak.refl _) rfl
  · refine awp_skip ?_
    refine awp_seq ?_
    refine awp_region ?_
    iterate 4 refine dp rfl rfl ?_
    refine dh rfl (head_index_arr tok rfl rfl rfl rfl rfl rfl rfl (by decide) (by decide)) ?_
    refine d_store (cs' := [.int .u64 t.Regs.e0, .int .u64 t.Regs.e1, .int .u64 t.Regs.e2, .int .u64 t.Regs.e3, .int .u64 t.Regs.e4, .int .u64 t.Regs.e5, .int .u64 t.Regs.e6, .int .u64 t.Regs.e7, .int .u64 t.Regs.e8, .int .u64 t.Regs.e9, .int .u64 t.Regs.e10, .int .u64 t.Regs.e11, .int .u64 t.Regs.e12, .int .u64 t.Regs.e13, .int .u64 t.Pc, .int .u64 t.Regs.e15, .int .u64 t.Pc, .list (List.map encPairD t.Clear), .int .u64 t.Space.Cont, .int .u64 t.Space.Id, .int .u64 t.Handler, .int .u64 t.Vector, .int .i64 t.State, .int .u64 t.Wait.Ref.Cont, .int .u64 t.Wait.Ref.Id, .int .u64 t.Wait.Index, .int .u64 t.Wait.Val, .bool t.Wait.Dev, .list (List.map (encI .u64) t.Alerts), .int .u64 t.Span.Lo, .int .u64 t.Span.Hi, .list (List.map encPairD t.Labs.e0), .list (List.map encPairD t.Labs.e1), .list (List.map encPairD t.Labs.e2), .list (List.map encPairD t.Labs.e3)]) tok rfl rfl rfl rfl rfl rfl rfl rfl rfl rfl (by dsimp only [List.set, AV.cellsOf]) (by dsimp only [putL, List.set]) ?_
    refine dp rfl rfl ?_
    refine dh rfl (head_index_arr tok rfl rfl rfl rfl rfl rfl rfl (by decide) (by decide)) ?_
    refine d_store (cs' := [.int .u64 t.Regs.e0, .int .u64 t.Regs.e1, .int .u64 t.Regs.e2, .int .u64 t.Regs.e3, .int .u64 t.Regs.e4, .int .u64 t.Regs.e5, .int .u64 t.Regs.e6, .int .u64 t.Regs.e7, .int .u64 t.Regs.e8, .int .u64 t.Regs.e9, .int .u64 t.Regs.e10, .int .u64 t.Regs.e11, .int .u64 t.Regs.e12, .int .u64 t.Regs.e13, .int .u64 t.Pc, .int .u64 why, .int .u64 t.Pc, .list (List.map encPairD t.Clear), .int .u64 t.Space.Cont, .int .u64 t.Space.Id, .int .u64 t.Handler, .int .u64 t.Vector, .int .i64 t.State, .int .u64 t.Wait.Ref.Cont, .int .u64 t.Wait.Ref.Id, .int .u64 t.Wait.Index, .int .u64 t.Wait.Val, .bool t.Wait.Dev, .list (List.map (encI .u64) t.Alerts), .int .u64 t.Span.Lo, .int .u64 t.Span.Hi, .list (List.map encPairD t.Labs.e0), .list (List.map encPairD t.Labs.e1), .list (List.map encPairD t.Labs.e2), .list (List.map encPairD t.Labs.e3)]) tok rfl rfl rfl rfl rfl rfl rfl rfl rfl rfl (by dsimp only [List.set, AV.cellsOf]) (by dsimp only [putL, List.set]) ?_
    refine aops_nil ?_
    refine awp_seq ?_
    refine awp_region ?_
    iterate 3 refine dp rfl rfl ?_
    refine d_store (cs' := [.int .u64 t.Regs.e0, .int .u64 t.Regs.e1, .int .u64 t.Regs.e2, .int .u64 t.Regs.e3, .int .u64 t.Regs.e4, .int .u64 t.Regs.e5, .int .u64 t.Regs.e6, .int .u64 t.Regs.e7, .int .u64 t.Regs.e8, .int .u64 t.Regs.e9, .int .u64 t.Regs.e10, .int .u64 t.Regs.e11, .int .u64 t.Regs.e12, .int .u64 t.Regs.e13, .int .u64 t.Pc, .int .u64 why, .int .u64 t.Handler, .list (List.map encPairD t.Clear), .int .u64 t.Space.Cont, .int .u64 t.Space.Id, .int .u64 t.Handler, .int .u64 t.Vector, .int .i64 t.State, .int .u64 t.Wait.Ref.Cont, .int .u64 t.Wait.Ref.Id, .int .u64 t.Wait.Index, .int .u64 t.Wait.Val, .bool t.Wait.Dev, .list (List.map (encI .u64) t.Alerts), .int .u64 t.Span.Lo, .int .u64 t.Span.Hi, .list (List.map encPairD t.Labs.e0), .list (List.map encPairD t.Labs.e1), .list (List.map encPairD t.Labs.e2), .list (List.map encPairD t.Labs.e3)]) tok rfl rfl rfl rfl rfl rfl rfl rfl rfl rfl (by dsimp only [List.set, AV.cellsOf]) (by dsimp only [putL, List.set]) ?_
    refine dp rfl rfl ?_
    refine d_store (cs' := [.int .u64 t.Regs.e0, .int .u64 t.Regs.e1, .int .u64 t.Regs.e2, .int .u64 t.Regs.e3, .int .u64 t.Regs.e4, .int .u64 t.Regs.e5, .int .u64 t.Regs.e6, .int .u64 t.Regs.e7, .int .u64 t.Regs.e8, .int .u64 t.Regs.e9, .int .u64 t.Regs.e10, .int .u64 t.Regs.e11, .int .u64 t.Regs.e12, .int .u64 t.Regs.e13, .int .u64 t.Pc, .int .u64 why, .int .u64 t.Handler, .list (List.map encPairD t.Clear), .int .u64 t.Space.Cont, .int .u64 t.Space.Id, .int .u64 (0 : Int), .int .u64 t.Vector, .int .i64 t.State, .int .u64 t.Wait.Ref.Cont, .int .u64 t.Wait.Ref.Id, .int .u64 t.Wait.Index, .int .u64 t.Wait.Val, .bool t.Wait.Dev, .list (List.map (encI .u64) t.Alerts), .int .u64 t.Span.Lo, .int .u64 t.Span.Hi, .list (List.map encPairD t.Labs.e0), .list (List.map encPairD t.Labs.e1), .list (List.map encPairD t.Labs.e2), .list (List.map encPairD t.Labs.e3)]) tok rfl rfl rfl rfl rfl rfl rfl rfl rfl rfl (by dsimp only [List.set, AV.cellsOf]) (by dsimp only [putL, List.set]) ?_
    refine aops_nil ?_
    refine awp_seq ?_
    refine awp_region ?_
    refine dp rfl rfl ?_
    refine d_store_all tok rfl rfl rfl rfl rfl rfl rfl rfl rfl (by dsimp only [List.set, AV.cellsOf]) (by dsimp only [putL, List.set]) ?_
    refine aops_nil ?_
    refine awp_ret ?_
    obtain rfl := pe h
    exact qfun_ret_of rfl (ares_cell1 tok rfl rfl rfl rfl) (Weak.refl _) rfl

theorem cpu_Alert_w (t : ThreadD) (r : ThreadD × Bool) (h : cpu_Alert t = some r) : PCall Try.prog 63 [.agg (encThreadD t)] (.tuple [.agg [.int .u64 r.1.Regs.e0, .int .u64 r.1.Regs.e1, .int .u64 r.1.Regs.e2, .int .u64 r.1.Regs.e3, .int .u64 r.1.Regs.e4, .int .u64 r.1.Regs.e5, .int .u64 r.1.Regs.e6, .int .u64 r.1.Regs.e7, .int .u64 r.1.Regs.e8, .int .u64 r.1.Regs.e9, .int .u64 r.1.Regs.e10, .int .u64 r.1.Regs.e11, .int .u64 r.1.Regs.e12, .int .u64 r.1.Regs.e13, .int .u64 r.1.Regs.e14, .int .u64 r.1.Regs.e15, .int .u64 r.1.Pc, .list (List.map encPairD r.1.Clear), .int .u64 r.1.Space.Cont, .int .u64 r.1.Space.Id, .int .u64 r.1.Handler, .int .u64 r.1.Vector, .int .i64 r.1.State, .int .u64 r.1.Wait.Ref.Cont, .int .u64 r.1.Wait.Ref.Id, .int .u64 r.1.Wait.Index, .int .u64 r.1.Wait.Val, .bool r.1.Wait.Dev, .list (List.map (encI .u64) r.1.Alerts), .int .u64 r.1.Span.Lo, .int .u64 r.1.Span.Hi, .list (List.map encPairD r.1.Labs.e0), .list (List.map encPairD r.1.Labs.e1), .list (List.map encPairD r.1.Labs.e2), .list (List.map encPairD r.1.Labs.e3)], .bool r.2]) := by
  replace h : post (cpu_Alert t) (fun v => v = r) := ⟨_, h, rfl⟩
  unfold cpu_Alert at h
  refine d_intro Try.func63 rfl (by decide +kernel) (ts := .agg (encThreadD t) :: un 33) rfl fun B hB => ?_
  refine lc ?_ (by dsimp only [un])
  refine awp_seq ?_
  refine awp_region ?_
  refine dn rfl (hbx (cs := (encThreadD t)) 0 rfl rfl rfl) ?_
  refine dn rfl (head_alloc tok 1 rfl rfl) ?_
  refine dp rfl rfl ?_
  refine aops_nil ?_
  refine awp_seq ?_
  refine cw h (fun x1 => ⟨an 1 (.ptr 0 0 :: .ptr 1 0 :: an 9 (.bool x1 :: an 21 [])), [some (.var (encThreadD t)), some (.var (encThreadD ThreadD.zero))], []⟩) (fun x1 h => ?_) (fun h => ?_)
  · refine lc ?_
    refine cc h rfl (fun h => ?_) (fun h => ?_)
    · refine awp_seq ?_
      refine awp_region ?_
      refine dp rfl rfl ?_
      refine d_store_all tok rfl rfl rfl rfl rfl rfl rfl rfl rfl (by dsimp only [List.set, AV.cellsOf]) (by dsimp only [putL, List.set]) ?_
      refine dp rfl rfl ?_
      refine aops_nil ?_
      refine awp_ret ?_
      obtain rfl := pe h
      exact qfun_ret_of rfl (ares_cells2 tok rfl rfl) (Weak.refl _) rfl
    · refine awp_skip ?_
      refine awp_seq ?_
      refine awp_sto (hp' := [some (.var [.int .u64 t.Regs.e0, .int .u64 t.Regs.e1, .int .u64 t.Regs.e2, .int .u64 t.Regs.e3, .int .u64 t.Regs.e4, .int .u64 t.Regs.e5, .int .u64 t.Regs.e6, .int .u64 t.Regs.e7, .int .u64 t.Regs.e8, .int .u64 t.Regs.e9, .int .u64 t.Regs.e10, .int .u64 t.Regs.e11, .int .u64 t.Regs.e12, .int .u64 t.Regs.e13, .any, .any, .int .u64 t.Pc, .list (List.map encPairD t.Clear), .int .u64 t.Space.Cont, .int .u64 t.Space.Id, .int .u64 t.Handler, .int .u64 t.Vector, .int .i64 t.State, .int .u64 t.Wait.Ref.Cont, .int .u64 t.Wait.Ref.Id, .int .u64 t.Wait.Index, .int .u64 t.Wait.Val, .bool t.Wait.Dev, .list (List.map (encI .u64) t.Alerts), .int .u64 t.Span.Lo, .int .u64 t.Span.Hi, .list (List.map encPairD t.Labs.e0), .list (List.map encPairD t.Labs.e1), .list (List.map encPairD t.Labs.e2), .list (List.map encPairD t.Labs.e3)]), some (.var (encThreadD ThreadD.zero))]) 12 [(8, 0, 14, 1), (11, 0, 15, 1)] mixed (by decide +kernel) rfl rfl ?_
      iterate 4 refine kq rfl (kp rfl rfl ?_)
      obtain ⟨x3, hx3, h⟩ := pb h
      refine kq rfl (kh rfl (head_index_map tok hx3 rfl rfl rfl rfl rfl rfl rfl) ?_)
      iterate 2 refine kq rfl (kp rfl rfl ?_)
      refine kq rfl (kh rfl (head_index_arr tok rfl rfl rfl rfl rfl rfl rfl (by decide) (by decide)) ?_)
      refine kw rfl (kd rfl ?_)
      refine kq rfl (kp rfl rfl ?_)
      refine kq rfl (kh rfl (head_index_arr tok rfl rfl rfl rfl rfl rfl rfl (by decide) (by decide)) ?_)
      refine kw rfl (kd rfl ?_)
      refine .nil ⟨[⟨8, 0, 14, [.int .u64 t.Pc]⟩, ⟨11, 0, 15, [.int .u64 x3]⟩], [some (.var [.int .u64 t.Regs.e0, .int .u64 t.Regs.e1, .int .u64 t.Regs.e2, .int .u64 t.Regs.e3, .int .u64 t.Regs.e4, .int .u64 t.Regs.e5, .int .u64 t.Regs.e6, .int .u64 t.Regs.e7, .int .u64 t.Regs.e8, .int .u64 t.Regs.e9, .int .u64 t.Regs.e10, .int .u64 t.Regs.e11, .int .u64 t.Regs.e12, .int .u64 t.Regs.e13, .int .u64 t.Pc, .int .u64 x3, .int .u64 t.Pc, .list (List.map encPairD t.Clear), .int .u64 t.Space.Cont, .int .u64 t.Space.Id, .int .u64 t.Handler, .int .u64 t.Vector, .int .i64 t.State, .int .u64 t.Wait.Ref.Cont, .int .u64 t.Wait.Ref.Id, .int .u64 t.Wait.Index, .int .u64 t.Wait.Val, .bool t.Wait.Dev, .list (List.map (encI .u64) t.Alerts), .int .u64 t.Span.Lo, .int .u64 t.Span.Hi, .list (List.map encPairD t.Labs.e0), .list (List.map encPairD t.Labs.e1), .list (List.map encPairD t.Labs.e2), .list (List.map encPairD t.Labs.e3)]), some (.var (encThreadD ThreadD.zero))], rfl, ⟨gso rfl rfl rfl rfl rfl (asto tok rfl rfl rfl rfl rfl rfl rfl rfl) rfl rfl, gso rfl rfl rfl rfl rfl (asto tok rfl rfl rfl rfl rfl rfl rfl rfl) rfl rfl, trivial⟩, rfl, ?_⟩
      refine aops_nil ?_
      refine awp_seq ?_
      refine awp_region ?_
      iterate 2 refine dp rfl rfl ?_
      obtain ⟨x4, hx4, h⟩ := pb h
      refine dh rfl (head_slice_map tok hx4 rfl rfl rfl rfl rfl (fun _ => rfl) rfl rfl) ?_
      obtain ⟨x5, hx5, h⟩ := pb h
      refine d_append_nilm tok hx5 rfl rfl rfl rfl rfl rfl rfl rfl (fun _ => rfl) (fun _ => rfl) (by dsimp only [List.append, HAppend.hAppend, Append.append]) (by dsimp only [putL, List.set]) ?_
      refine dp rfl rfl ?_
      refine fz 27 2 1 rfl rfl (fun _ => rfl) ?_
      refine d_store (cs' := [.int .u64 t.Regs.e0, .int .u64 t.Regs.e1, .int .u64 t.Regs.e2, .int .u64 t.Regs.e3, .int .u64 t.Regs.e4, .int .u64 t.Regs.e5, .int .u64 t.Regs.e6, .int .u64 t.Regs.e7, .int .u64 t.Regs.e8, .int .u64 t.Regs.e9, .int .u64 t.Regs.e10, .int .u64 t.Regs.e11, .int .u64 t.Regs.e12, .int .u64 t.Regs.e13, .int .u64 t.Pc, .int .u64 x3, .int .u64 t.Pc, .list (List.map encPairD t.Clear), .int .u64 t.Space.Cont, .int .u64 t.Space.Id, .int .u64 t.Handler, .int .u64 t.Vector, .int .i64 t.State, .int .u64 t.Wait.Ref.Cont, .int .u64 t.Wait.Ref.Id, .int .u64 t.Wait.Index, .int .u64 t.Wait.Val, .bool t.Wait.Dev, .list (List.map (encI .u64) x5), .int .u64 t.Span.Lo, .int .u64 t.Span.Hi, .list (List.map encPairD t.Labs.e0), .list (List.map encPairD t.Labs.e1), .list (List.map encPairD t.Labs.e2), .list (List.map encPairD t.Labs.e3)]) tok rfl rfl rfl rfl rfl rfl rfl rfl rfl rfl (by dsimp only [List.set, AV.cellsOf]) (by dsimp only [putL, List.set]) ?_
      refine aops_nil ?_
      refine awp_seq ?_
      refine awp_region ?_
      iterate 3 refine dp rfl rfl ?_
      refine d_store (cs' := [.int .u64 t.Regs.e0, .int .u64 t.Regs.e1, .int .u64 t.Regs.e2, .int .u64 t.Regs.e3, .int .u64 t.Regs.e4, .int .u64 t.Regs.e5, .int .u64 t.Regs.e6, .int .u64 t.Regs.e7, .int .u64 t.Regs.e8, .int .u64 t.Regs.e9, .int .u64 t.Regs.e10, .int .u64 t.Regs.e11, .int .u64 t.Regs.e12, .int .u64 t.Regs.e13, .int .u64 t.Pc, .int .u64 x3, .int .u64 t.Vector, .list (List.map encPairD t.Clear), .int .u64 t.Space.Cont, .int .u64 t.Space.Id, .int .u64 t.Handler, .int .u64 t.Vector, .int .i64 t.State, .int .u64 t.Wait.Ref.Cont, .int .u64 t.Wait.Ref.Id, .int .u64 t.Wait.Index, .int .u64 t.Wait.Val, .bool t.Wait.Dev, .list (List.map (encI .u64) x5), .int .u64 t.Span.Lo, .int .u64 t.Span.Hi, .list (List.map encPairD t.Labs.e0), .list (List.map encPairD t.Labs.e1), .list (List.map encPairD t.Labs.e2), .list (List.map encPairD t.Labs.e3)]) tok rfl rfl rfl rfl rfl rfl rfl rfl rfl rfl (by dsimp only [List.set, AV.cellsOf]) (by dsimp only [putL, List.set]) ?_
      refine dp rfl rfl ?_
      refine d_store (cs' := [.int .u64 t.Regs.e0, .int .u64 t.Regs.e1, .int .u64 t.Regs.e2, .int .u64 t.Regs.e3, .int .u64 t.Regs.e4, .int .u64 t.Regs.e5, .int .u64 t.Regs.e6, .int .u64 t.Regs.e7, .int .u64 t.Regs.e8, .int .u64 t.Regs.e9, .int .u64 t.Regs.e10, .int .u64 t.Regs.e11, .int .u64 t.Regs.e12, .int .u64 t.Regs.e13, .int .u64 t.Pc, .int .u64 x3, .int .u64 t.Vector, .list (List.map encPairD t.Clear), .int .u64 t.Space.Cont, .int .u64 t.Space.Id, .int .u64 t.Handler, .int .u64 (0 : Int), .int .i64 t.State, .int .u64 t.Wait.Ref.Cont, .int .u64 t.Wait.Ref.Id, .int .u64 t.Wait.Index, .int .u64 t.Wait.Val, .bool t.Wait.Dev, .list (List.map (encI .u64) x5), .int .u64 t.Span.Lo, .int .u64 t.Span.Hi, .list (List.map encPairD t.Labs.e0), .list (List.map encPairD t.Labs.e1), .list (List.map encPairD t.Labs.e2), .list (List.map encPairD t.Labs.e3)]) tok rfl rfl rfl rfl rfl rfl rfl rfl rfl rfl (by dsimp only [List.set, AV.cellsOf]) (by dsimp only [putL, List.set]) ?_
      refine aops_nil ?_
      refine awp_seq ?_
      refine awp_region ?_
      refine dp rfl rfl ?_
      refine d_store_all tok rfl rfl rfl rfl rfl rfl rfl rfl rfl (by dsimp only [List.set, AV.cellsOf]) (by dsimp only [putL, List.set]) ?_
      refine dp rfl rfl ?_
      refine aops_nil ?_
      refine awp_ret ?_
      obtain rfl := pe h
      exact qfun_ret_of rfl (ares_cells2 tok rfl rfl) (Weak.refl _) rfl
  · refine awp_region ?_
    iterate 2 refine dp rfl rfl ?_
    refine dh rfl (head_len_map tok rfl rfl rfl rfl) ?_
    refine dp rfl rfl ?_
    refine di h rfl (hpr rfl) (fun h => ?_) (fun h => ?_)
    · refine dk rfl ?_
      iterate 2 refine dk rfl ?_
      refine dp rfl rfl ?_
      refine aops_nil ?_
      exact ⟨true, (sk [1, 2, 12] [] rfl), (pe h :)⟩
    · refine dp rfl rfl ?_
      iterate 3 refine dp rfl rfl ?_
      refine aops_nil ?_
      exact ⟨(t.Vector == (0 : Int)), (sk [1, 2, 12] [] rfl), (pe h :)⟩

theorem obj_Find_w (w : WorldD) (id_ : Int) (r : ObjectD × Bool) (h : obj_Find w id_ = some r) : PCall Try.prog 57 [.agg (encWorldD w), .int .u64 id_] (.tuple [.agg [.int .u64 r.1.Id, .int .i64 r.1.Kind, .list (List.map encPairD r.1.Label), .int .i64 r.1.Quota, .bool r.1.Fixed, .list (List.map (encI .u64) r.1.Links), .list (List.map (encI .u64) r.1.Data), .list (List.map encMapD r.1.Maps), .int .u64 r.1.Thread.Regs.e0, .int .u64 r.1.Thread.Regs.e1, .int .u64 r.1.Thread.Regs.e2, .int .u64 r.1.Thread.Regs.e3, .int .u64 r.1.Thread.Regs.e4, .int .u64 r.1.Thread.Regs.e5, .int .u64 r.1.Thread.Regs.e6, .int .u64 r.1.Thread.Regs.e7, .int .u64 r.1.Thread.Regs.e8, .int .u64 r.1.Thread.Regs.e9, .int .u64 r.1.Thread.Regs.e10, .int .u64 r.1.Thread.Regs.e11, .int .u64 r.1.Thread.Regs.e12, .int .u64 r.1.Thread.Regs.e13, .int .u64 r.1.Thread.Regs.e14, .int .u64 r.1.Thread.Regs.e15, .int .u64 r.1.Thread.Pc, .list (List.map encPairD r.1.Thread.Clear), .int .u64 r.1.Thread.Space.Cont, .int .u64 r.1.Thread.Space.Id, .int .u64 r.1.Thread.Handler, .int .u64 r.1.Thread.Vector, .int .i64 r.1.Thread.State, .int .u64 r.1.Thread.Wait.Ref.Cont, .int .u64 r.1.Thread.Wait.Ref.Id, .int .u64 r.1.Thread.Wait.Index, .int .u64 r.1.Thread.Wait.Val, .bool r.1.Thread.Wait.Dev, .list (List.map (encI .u64) r.1.Thread.Alerts), .int .u64 r.1.Thread.Span.Lo, .int .u64 r.1.Thread.Span.Hi, .list (List.map encPairD r.1.Thread.Labs.e0), .list (List.map encPairD r.1.Thread.Labs.e1), .list (List.map encPairD r.1.Thread.Labs.e2), .list (List.map encPairD r.1.Thread.Labs.e3), .list (List.map encPairD r.1.Gate.Grant), .list (List.map encPairD r.1.Gate.Clear), .int .u64 r.1.Gate.Space.Cont, .int .u64 r.1.Gate.Space.Id, .int .u64 r.1.Gate.Pc, .int .u64 r.1.Gate.Arg, .list (List.map (encI .u64) r.1.In), .list (List.map (encI .u64) r.1.Out)], .bool r.2]) := by
  replace h : post (obj_Find w id_) (fun v => v = r) := ⟨_, h, rfl⟩
  unfold obj_Find at h
  refine d_intro Try.func57 rfl (by decide +kernel) (ts := .agg (encWorldD w) :: .int .u64 id_ :: un 21) rfl fun B hB => ?_
  refine lc ?_ (by dsimp only [un])
  refine awp_seq ?_
  refine awp_region ?_
  refine dn rfl (hbx (cs := (encWorldD w)) 0 rfl rfl rfl) ?_
  refine dn rfl (head_alloc tok 1 rfl rfl) ?_
  refine dp rfl rfl ?_
  refine aops_nil ?_
  refine awp_seq ?_
  refine awp_region ?_
  refine dp rfl rfl ?_
  refine d_callK rfl rfl rfl rfl ?_
  refine d_introK Try.func111 rfl (by decide +kernel) (ts := [.agg [.int .i64 w.Time, .int .u64 w.Key, .int .u64 w.Root, .list (List.map encObjectD w.Objects)], .undef, .undef, .undef, .undef, .undef]) rfl fun B1 hB1 => ?_
  refine awp_seq ?_
  refine awp_region ?_
  refine dn rfl (hbx (cs := (encWorldD w)) 2 rfl rfl rfl) ?_
  refine dn rfl (head_alloc tok 3 rfl rfl) ?_
  refine aops_nil ?_
  refine awp_seq ?_
  refine awp_region ?_
  iterate 2 refine dp rfl rfl ?_
  refine dh rfl (head_build (r := [.list (List.map encObjectD w.Objects), .fn 93 [] []]) tok rfl rfl rfl rfl rfl rfl) ?_
  refine d_store_all tok rfl rfl rfl rfl rfl rfl rfl rfl rfl (by dsimp only [List.set, AV.cellsOf]) (by dsimp only [putL, List.set]) ?_
  refine aops_nil ?_
  refine awp_ret ?_
  refine (qfunK_ret_of (r := .agg [.list (List.map encObjectD w.Objects), .fn 93 [] []]) rfl (ares_cell1 tok rfl rfl rfl rfl) (weak_eq rfl) ?_)
  refine d_after (by dsimp only [putL, List.set]) ?_
  refine dp rfl rfl ?_
  refine d_callK rfl rfl rfl rfl ?_
  refine d_introK Try.func114 rfl (by decide +kernel) (ts := [.agg [.list (List.map encObjectD w.Objects), .fn 93 [] []], .int .u64 id_, .undef, .undef, .undef, .undef, .undef, .undef, .undef, .undef, .undef, .undef, .undef]) rfl fun B2 hB2 => ?_
  refine awp_seq ?_
  refine awp_region ?_
  refine dn rfl (hbx (cs := [.list (List.map encObjectD w.Objects), .fn 93 [] []]) 4 rfl rfl rfl) ?_
  iterate 2 refine dp rfl rfl ?_
  refine aops_nil ?_
  refine awp_seq ?_
  refine awp_region ?_
  iterate 3 refine dp rfl rfl ?_
  refine dp (x := .fn 144 [] [.ptr 4 0]) rfl rfl ?_
  refine d_callK rfl rfl rfl rfl ?_
  refine acallK_cut (α := Int × Bool) id h (fun x1 => .tuple [.int .i64 x1.1, .bool x1.2]) (fun x1 => [some (.var (encWorldD w)), some (.var (encObjectD ObjectD.zero)), some (.var (encWorldD w)), some (.var [.list (List.map encObjectD w.Objects), .fn 93 [] []]), some (.var [.list (List.map encObjectD w.Objects), .fn 93 [] []])]) (fun x1 h => ?_) (fun h => ?_)
  · refine d_after (by dsimp only [putL, List.set]) ?_
    iterate 4 refine dp rfl rfl ?_
    refine aops_nil ?_
    refine awp_ret ?_
    refine (qfunK_ret (r := .tuple [.int .i64 x1.1, .bool x1.2]) rfl rfl (weak_eq rfl) ?_)
    refine d_after (by dsimp only [putL, List.set]) ?_
    iterate 5 refine dp rfl rfl ?_
    refine aops_nil ?_
    iterate 2 refine awp_seq ?_
    refine awp_region ?_
    iterate 2 refine dp rfl rfl ?_
    refine aops_nil ?_
    refine cc h rfl (fun h => ?_) (fun h => ?_)
    · refine awp_seq ?_
      refine awp_region ?_
      refine dh rfl (head_build (r := (encObjectD ObjectD.zero)) tok rfl rfl rfl rfl rfl rfl) ?_
      refine d_store_all tok rfl rfl rfl rfl rfl rfl rfl rfl rfl (by dsimp only [List.set, AV.cellsOf]) (by dsimp only [putL, List.set]) ?_
      refine dp rfl rfl ?_
      refine aops_nil ?_
      refine awp_ret ?_
      obtain rfl := pe h
      exact qfun_ret_of rfl (ares_cells2 tok rfl rfl) (Weak.refl _) rfl
    · refine awp_skip ?_
      refine awp_seq ?_
      refine awp_region ?_
      iterate 3 refine dp rfl rfl ?_
      obtain ⟨x3, hx3, h⟩ := pb h
      refine dh rfl (head_index_map tok hx3 rfl rfl rfl rfl rfl rfl rfl) ?_
      refine dp rfl rfl ?_
      refine d_store_all tok rfl rfl rfl rfl rfl rfl rfl rfl rfl (by dsimp only [List.set, AV.cellsOf]) (by dsimp only [putL, List.set]) ?_
      refine dp rfl rfl ?_
      refine aops_nil ?_
      refine awp_ret ?_
      obtain rfl := pe h
      exact qfun_ret_of rfl (ares_cells2 tok rfl rfl) (Weak.refl _) rfl
  · refine d_introK Try.func143 rfl (by decide +kernel) (ts := [.list (List.map encObjectD w.Objects), .int .u64 id_, .fn 144 [] [.ptr 4 0], .undef, .undef, .undef, .undef, .undef, .undef, .undef, .undef, .undef, .undef, .undef, .undef, .undef, .undef, .undef, .undef, .undef, .undef, .undef, .undef, .undef, .undef, .undef, .undef, .undef, .undef, .undef, .undef, .undef, .undef, .undef, .undef, .undef, .undef, .undef, .undef, .undef, .undef, .undef, .undef, .undef, .undef, .undef, .undef, .undef, .undef]) rfl fun B3 hB3 => ?_
    refine awp_seq ?_
    refine awp_region ?_
    iterate 2 refine dp rfl rfl ?_
    refine aops_nil ?_
    refine awp_seq ?_
    refine awp_region ?_
    refine dp rfl rfl ?_
    refine dh rfl (head_len_map tok rfl rfl rfl rfl) ?_
    refine dp rfl rfl ?_
    refine aops_nil ?_
    refine awp_seq ?_
    refine awp_region ?_
    iterate 3 refine dp rfl rfl ?_
    refine aops_nil ?_
    refine awp_seq ?_
    refine awp_block ?_
    refine cl h (fun x4 => ⟨.list (List.map encObjectD w.Objects) :: .int .u64 id_ :: .fn 144 [] [.ptr 4 0] :: an 5 (.int .i64 (w.Objects.length : Int) :: .int .i64 x4.1 :: .int .i64 x4.2 :: an 38 []), [some (.var (encWorldD w)), some (.var (encObjectD ObjectD.zero)), some (.var (encWorldD w)), some (.var [.list (List.map encObjectD w.Objects), .fn 93 [] []]), some (.var [.list (List.map encObjectD w.Objects), .fn 93 [] []])], []⟩) (sk [0, 1, 2, 8, 9, 10] [] rfl) (fun rec x4 h => ?_)
    unfold obj_Find_L0 at h
    refine lc ?_
    iterate 2 refine awp_seq ?_
    refine awp_region ?_
    iterate 3 refine dp rfl rfl ?_
    refine aops_nil ?_
    refine cc h rfl (fun h => ?_) (fun h => ?_)
    · refine awp_skip ?_
      refine awp_block ?_
      refine awp_seq ?_
      refine awp_region ?_
      iterate 7 refine dp rfl rfl ?_
      refine aops_nil ?_
      refine awp_seq ?_
      refine awp_region ?_
      iterate 3 refine dp rfl rfl ?_
      obtain ⟨x7, hx7, h⟩ := pb h
      refine dh rfl (head_index_map tok hx7 rfl rfl rfl rfl rfl rfl rfl) ?_
      iterate 2 refine dp rfl rfl ?_
      refine d_callK rfl rfl rfl rfl ?_
      refine d_introK Try.func144 rfl (by decide +kernel) (ts := [.agg [.int .u64 x7.Id, .int .i64 x7.Kind, .list (List.map encPairD x7.Label), .int .i64 x7.Quota, .bool x7.Fixed, .list (List.map (encI .u64) x7.Links), .list (List.map (encI .u64) x7.Data), .list (List.map encMapD x7.Maps), .int .u64 x7.Thread.Regs.e0, .int .u64 x7.Thread.Regs.e1, .int .u64 x7.Thread.Regs.e2, .int .u64 x7.Thread.Regs.e3, .int .u64 x7.Thread.Regs.e4, .int .u64 x7.Thread.Regs.e5, .int .u64 x7.Thread.Regs.e6, .int .u64 x7.Thread.Regs.e7, .int .u64 x7.Thread.Regs.e8, .int .u64 x7.Thread.Regs.e9, .int .u64 x7.Thread.Regs.e10, .int .u64 x7.Thread.Regs.e11, .int .u64 x7.Thread.Regs.e12, .int .u64 x7.Thread.Regs.e13, .int .u64 x7.Thread.Regs.e14, .int .u64 x7.Thread.Regs.e15, .int .u64 x7.Thread.Pc, .list (List.map encPairD x7.Thread.Clear), .int .u64 x7.Thread.Space.Cont, .int .u64 x7.Thread.Space.Id, .int .u64 x7.Thread.Handler, .int .u64 x7.Thread.Vector, .int .i64 x7.Thread.State, .int .u64 x7.Thread.Wait.Ref.Cont, .int .u64 x7.Thread.Wait.Ref.Id, .int .u64 x7.Thread.Wait.Index, .int .u64 x7.Thread.Wait.Val, .bool x7.Thread.Wait.Dev, .list (List.map (encI .u64) x7.Thread.Alerts), .int .u64 x7.Thread.Span.Lo, .int .u64 x7.Thread.Span.Hi, .list (List.map encPairD x7.Thread.Labs.e0), .list (List.map encPairD x7.Thread.Labs.e1), .list (List.map encPairD x7.Thread.Labs.e2), .list (List.map encPairD x7.Thread.Labs.e3), .list (List.map encPairD x7.Gate.Grant), .list (List.map encPairD x7.Gate.Clear), .int .u64 x7.Gate.Space.Cont, .int .u64 x7.Gate.Space.Id, .int .u64 x7.Gate.Pc, .int .u64 x7.Gate.Arg, .list (List.map (encI .u64) x7.In), .list (List.map (encI .u64) x7.Out)], .int .u64 id_, .ptr 4 0, .undef, .undef, .undef, .undef, .undef, .undef, .undef, .undef, .undef]) rfl fun B4 hB4 => ?_
      refine awp_seq ?_
      refine awp_region ?_
      refine dn rfl (hbx (cs := (encObjectD x7)) 5 rfl rfl rfl) ?_
      refine dp rfl rfl ?_
      refine aops_nil ?_
      refine awp_seq ?_
      refine awp_region ?_
      iterate 3 refine dp rfl rfl ?_
      obtain ⟨v8, hv8, h⟩ := pb h
      refine dh rfl (head_callp (obj_idOf_w _ _ hv8) rfl rfl rfl rfl) ?_
      refine dp rfl rfl ?_
      obtain ⟨v9, hv9, h⟩ := pb h
      refine dh rfl (head_callp (cmp_Compare_u64_w _ _ _ hv9) rfl rfl rfl rfl) ?_
      refine dp rfl rfl ?_
      refine aops_nil ?_
      refine awp_ret ?_
      refine (qfunK_ret (r := .int .i64 v9) rfl rfl (weak_eq rfl) ?_)
      refine d_after (by dsimp only [putL, List.set]) ?_
      refine dp rfl rfl ?_
      refine aops_nil ?_
      refine cc h rfl (fun h => ?_) (fun h => ?_)
      · refine awp_region ?_
        iterate 3 refine dp rfl rfl ?_
        refine aops_nil ?_
        exact ⟨((IntKind.i64.wrap ((IntKind.i64.wrap ((IntKind.u64.wrap (IntKind.i64.wrap (x4.1 + x4.2))).fdiv (2 ^ (min (1 : Int).toNat (IntKind.bits .u64))))) + (1 : Int))), x4.2), (SWeak.trans (sk [0, 1, 2, 8, 9, 10] [] rfl) (sweak_cut 5 rfl (ok_of ⟨rfl, ⟨rfl, ⟨rfl, ⟨rfl, ⟨rfl, trivial⟩⟩⟩⟩⟩) rfl) (Nat.le_of_ble_eq_true rfl)), h⟩
      · refine awp_region ?_
        iterate 2 refine dp rfl rfl ?_
        refine aops_nil ?_
        exact ⟨(x4.1, (IntKind.i64.wrap ((IntKind.u64.wrap (IntKind.i64.wrap (x4.1 + x4.2))).fdiv (2 ^ (min (1 : Int).toNat (IntKind.bits .u64)))))), (SWeak.trans (sk [0, 1, 2, 8, 9, 10] [] rfl) (sweak_cut 5 rfl (ok_of ⟨rfl, ⟨rfl, ⟨rfl, ⟨rfl, ⟨rfl, trivial⟩⟩⟩⟩⟩) rfl) (Nat.le_of_ble_eq_true rfl)), h⟩
    · refine awp_exit ?_
      replace h := pe h
      let y5exit0 : Int := x4.1
      refine awp_seq ?_
      refine awp_region ?_
      iterate 4 refine dp rfl rfl ?_
      refine di h rfl (hpr rfl) (fun h => ?_) (fun h => ?_)
      · refine dp rfl rfl ?_
        iterate 2 refine dp rfl rfl ?_
        obtain ⟨x12, hx12, h⟩ := pb h
        refine dh rfl (head_index_map tok hx12 rfl rfl rfl rfl rfl rfl rfl) ?_
        iterate 2 refine dp rfl rfl ?_
        refine d_callK rfl rfl rfl rfl ?_
        refine d_introK Try.func144 rfl (by decide +kernel) (ts := [.agg [.int .u64 x12.Id, .int .i64 x12.Kind, .list (List.map encPairD x12.Label), .int .i64 x12.Quota, .bool x12.Fixed, .list (List.map (encI .u64) x12.Links), .list (List.map (encI .u64) x12.Data), .list (List.map encMapD x12.Maps), .int .u64 x12.Thread.Regs.e0, .int .u64 x12.Thread.Regs.e1, .int .u64 x12.Thread.Regs.e2, .int .u64 x12.Thread.Regs.e3, .int .u64 x12.Thread.Regs.e4, .int .u64 x12.Thread.Regs.e5, .int .u64 x12.Thread.Regs.e6, .int .u64 x12.Thread.Regs.e7, .int .u64 x12.Thread.Regs.e8, .int .u64 x12.Thread.Regs.e9, .int .u64 x12.Thread.Regs.e10, .int .u64 x12.Thread.Regs.e11, .int .u64 x12.Thread.Regs.e12, .int .u64 x12.Thread.Regs.e13, .int .u64 x12.Thread.Regs.e14, .int .u64 x12.Thread.Regs.e15, .int .u64 x12.Thread.Pc, .list (List.map encPairD x12.Thread.Clear), .int .u64 x12.Thread.Space.Cont, .int .u64 x12.Thread.Space.Id, .int .u64 x12.Thread.Handler, .int .u64 x12.Thread.Vector, .int .i64 x12.Thread.State, .int .u64 x12.Thread.Wait.Ref.Cont, .int .u64 x12.Thread.Wait.Ref.Id, .int .u64 x12.Thread.Wait.Index, .int .u64 x12.Thread.Wait.Val, .bool x12.Thread.Wait.Dev, .list (List.map (encI .u64) x12.Thread.Alerts), .int .u64 x12.Thread.Span.Lo, .int .u64 x12.Thread.Span.Hi, .list (List.map encPairD x12.Thread.Labs.e0), .list (List.map encPairD x12.Thread.Labs.e1), .list (List.map encPairD x12.Thread.Labs.e2), .list (List.map encPairD x12.Thread.Labs.e3), .list (List.map encPairD x12.Gate.Grant), .list (List.map encPairD x12.Gate.Clear), .int .u64 x12.Gate.Space.Cont, .int .u64 x12.Gate.Space.Id, .int .u64 x12.Gate.Pc, .int .u64 x12.Gate.Arg, .list (List.map (encI .u64) x12.In), .list (List.map (encI .u64) x12.Out)], .int .u64 id_, .ptr 4 0, .undef, .undef, .undef, .undef, .undef, .undef, .undef, .undef, .undef]) rfl fun B5 hB5 => ?_
        refine awp_seq ?_
        refine awp_region ?_
        refine dn rfl (hbx (cs := (encObjectD x12)) 5 rfl rfl rfl) ?_
        refine dp rfl rfl ?_
        refine aops_nil ?_
        refine awp_seq ?_
        refine awp_region ?_
        iterate 3 refine dp rfl rfl ?_
        obtain ⟨v13, hv13, h⟩ := pb h
        refine dh rfl (head_callp (obj_idOf_w _ _ hv13) rfl rfl rfl rfl) ?_
        refine dp rfl rfl ?_
        obtain ⟨v14, hv14, h⟩ := pb h
        refine dh rfl (head_callp (cmp_Compare_u64_w _ _ _ hv14) rfl rfl rfl rfl) ?_
        refine dp rfl rfl ?_
        refine aops_nil ?_
        refine awp_ret ?_
        refine (qfunK_ret (r := .int .i64 v14) rfl rfl (weak_eq rfl) ?_)
        refine d_after (by dsimp only [putL, List.set]) ?_
        iterate 4 refine dp rfl rfl ?_
        refine aops_nil ?_
        refine tc [6, 7] 5 ?_ rfl rfl (ok_of ⟨rfl, ⟨rfl, ⟨rfl, ⟨rfl, ⟨rfl, trivial⟩⟩⟩⟩⟩) rfl
        refine awp_ret ?_
        exact (qfunK_ret rfl rfl (weak_eq rfl) (.inl ⟨(y5exit0, (v14 == (0 : Int))), rfl, rfl, (pe h :)⟩))
      · refine dk rfl ?_
        iterate 7 refine dk rfl ?_
        iterate 3 refine dp rfl rfl ?_
        refine aops_nil ?_
        refine awp_ret ?_
        exact (qfunK_ret rfl rfl (weak_eq rfl) (.inl ⟨(y5exit0, false), rfl, rfl, (pe h :)⟩))

theorem law19_awake_w  (r : Bool) (h : law19_awake = some r) : PCall Try.prog 61 [] (.bool r) := by
  replace h : post (law19_awake) (fun v => v = r) := ⟨_, h, rfl⟩
  unfold law19_awake at h
  refine d_intro Try.func61 rfl (by decide +kernel) (ts := un 16) rfl fun B hB => ?_
  refine lc ?_ (by dsimp only [un])
  refine awp_seq ?_
  refine awp_region ?_
  refine dp rfl rfl ?_
  refine aops_nil ?_
  refine awp_seq ?_
  refine awp_region ?_
  refine dh rfl (head_build (r := (encWorldD WorldD.zero)) tok rfl rfl rfl rfl rfl rfl) ?_
  refine d_callK rfl rfl rfl rfl ?_
  refine d_introK Try.func115 rfl (by decide +kernel) (ts := [.agg [.int .i64 (0 : Int), .int .u64 (0 : Int), .int .u64 (0 : Int), .list (List.map encObjectD ([]))], .int .u64 (5 : Int), .undef, .undef, .undef, .undef, .undef, .undef, .undef, .undef, .undef, .undef, .undef, .undef, .undef, .undef, .undef, .undef, .undef, .undef, .undef, .undef, .undef, .undef, .undef, .undef, .undef, .undef, .undef, .undef, .undef, .undef, .undef, .undef, .undef, .undef, .undef, .undef, .undef, .undef, .undef, .undef, .undef, .undef, .undef, .undef, .undef, .undef, .undef, .undef, .undef, .undef, .undef, .undef, .undef, .undef, .undef, .undef, .undef]) rfl fun B1 hB1 => ?_
  refine awp_seq ?_
  refine awp_region ?_
  refine dn rfl (hbx (cs := (encWorldD WorldD.zero)) 0 rfl rfl rfl) ?_
  refine dn rfl (head_alloc tok 1 rfl rfl) ?_
  refine dp rfl rfl ?_
  refine aops_nil ?_
  refine awp_seq ?_
  refine awp_region ?_
  iterate 2 refine dp rfl rfl ?_
  obtain ⟨v1, hv1, h⟩ := pb h
  refine dh rfl (head_callp (obj_Find_w _ _ _ hv1) rfl rfl rfl rfl) ?_
  iterate 3 refine dp rfl rfl ?_
  refine dn rfl (head_alloc tok 2 rfl rfl) ?_
  refine d_store_all tok rfl rfl rfl rfl rfl rfl rfl rfl rfl (by dsimp only [List.set, AV.cellsOf]) (by dsimp only [putL, List.set]) ?_
  refine dp rfl rfl ?_
  refine aops_nil ?_
  refine awp_seq ?_
  refine cw h (fun x2 => ⟨an 2 (.ptr 0 0 :: an 1 (.ptr 1 0 :: an 1 (.ptr 2 0 :: an 21 (.bool x2 :: an 30 [])))), [some (.var (encWorldD WorldD.zero)), some (.var (encWorldD WorldD.zero)), some (.var (encObjectD v1.1))], []⟩) (fun x2 h => ?_) (fun h => ?_)
  · refine lc ?_
    refine cc h rfl (fun h => ?_) (fun h => ?_)
    · refine awp_seq ?_
      refine awp_region ?_
      refine dp rfl rfl ?_
      refine d_store_all tok rfl rfl rfl rfl rfl rfl rfl rfl rfl (by dsimp only [List.set, AV.cellsOf]) (by dsimp only [putL, List.set]) ?_
      refine dp rfl rfl ?_
      refine aops_nil ?_
      refine awp_ret ?_
      refine (qfunK_ret_of (r := .tuple [.agg [.int .i64 (0 : Int), .int .u64 (0 : Int), .int .u64 (0 : Int), .list (List.map encObjectD ([]))], .int .i64 (-1 : Int)]) rfl (ares_cells2 tok rfl rfl) (weak_eq rfl) ?_)
      refine d_after (by dsimp only [putL, List.set]) ?_
      iterate 3 refine dp rfl rfl ?_
      refine dn rfl (head_alloc tok 3 rfl rfl) ?_
      refine d_store_all tok rfl rfl rfl rfl rfl rfl rfl rfl rfl (by dsimp only [List.set, AV.cellsOf]) (by dsimp only [putL, List.set]) ?_
      refine dp rfl rfl ?_
      refine aops_nil ?_
      refine awp_seq ?_
      refine awp_region ?_
      refine dp rfl rfl ?_
      refine dp (x := .bool true) rfl rfl ?_
      refine dp rfl rfl ?_
      refine dh rfl (head_build (r := (encThreadD ThreadD.zero)) tok rfl rfl rfl rfl rfl rfl) ?_
      obtain ⟨v4, hv4, h⟩ := pb h
      refine dh rfl (head_callp (cpu_Fault_w _ _ _ hv4) rfl rfl rfl rfl) ?_
      iterate 4 refine dp rfl rfl ?_
      refine aops_nil ?_
      refine awp_ret ?_
      obtain rfl := pe h
      exact qfun_ret rfl rfl (Weak.refl _) rfl
    · refine awp_skip ?_
      refine awp_seq ?_
      exact pno h
  · refine awp_region ?_
    iterate 2 refine dp rfl rfl ?_
    refine ca h 5 (fun x6 => ⟨an 2 (.ptr 0 0 :: an 1 (.ptr 1 0 :: an 1 (.ptr 2 0 :: an 15 (.bool x6 :: an 36 [])))), [some (.var (encWorldD WorldD.zero)), some (.var (encWorldD WorldD.zero)), some (.var (encObjectD v1.1))], []⟩) (fun x6 h => ?_) (fun h => ?_)
    · refine lo ?_
      refine di h rfl (hpr rfl) (fun h => ?_) (fun h => ?_)
      · refine dk rfl ?_
        iterate 3 refine dk rfl ?_
        refine dp rfl rfl ?_
        refine aops_nil ?_
        exact ⟨true, (sk [2, 4, 6, 28] [] rfl), (pe h :)⟩
      · refine dp rfl rfl ?_
        iterate 4 refine dp rfl rfl ?_
        refine aops_nil ?_
        exact ⟨(v1.1.Thread.State != (0 : Int)), (sk [2, 4, 6, 28] [] rfl), (pe h :)⟩
    · refine di h rfl (hpr rfl) (fun h => ?_) (fun h => ?_)
      · refine dk rfl ?_
        iterate 2 refine dk rfl ?_
        refine dp rfl rfl ?_
        refine aops_nil ?_
        exact ⟨true, (sk [2, 4, 6, 22] [] rfl), (pe h :)⟩
      · refine dp rfl rfl ?_
        iterate 3 refine dp rfl rfl ?_
        refine aops_nil ?_
        exact ⟨(v1.1.Kind != (4 : Int)), (sk [2, 4, 6, 22] [] rfl), (pe h :)⟩

theorem law19_CpuTaken_w (t : ThreadD) (why : Int) (r : Bool) (h : law19_CpuTaken t why = some r) : PCall Try.prog 10 [.agg (encThreadD t), .int .u64 why] (.bool r) := by
  replace h : post (law19_CpuTaken t why) (fun v => v = r) := ⟨_, h, rfl⟩
  unfold law19_CpuTaken at h
  refine d_intro Try.func10 rfl (by decide +kernel) (ts := .agg (encThreadD t) :: .int .u64 why :: un 131) rfl fun B hB => ?_
  refine lc ?_ (by dsimp only [un])
  refine awp_seq ?_
  refine awp_region ?_
  refine dn rfl (hbx (cs := (encThreadD t)) 0 rfl rfl rfl) ?_
  refine dp rfl rfl ?_
  refine aops_nil ?_
  iterate 2 refine awp_seq ?_
  refine awp_region ?_
  iterate 2 refine dp rfl rfl ?_
  refine dh rfl (head_len_map tok rfl rfl rfl rfl) ?_
  refine dp rfl rfl ?_
  refine aops_nil ?_
  refine cc h rfl (fun h => ?_) (fun h => ?_)
  · refine awp_seq ?_
    refine awp_region ?_
    obtain ⟨v2, hv2, h⟩ := pb h
    refine dh rfl (head_callp (law19_awake_w _ hv2) rfl rfl rfl rfl) ?_
    refine dp rfl rfl ?_
    refine aops_nil ?_
    refine awp_ret ?_
    obtain rfl := pe h
    exact qfun_ret rfl rfl (Weak.refl _) rfl
  · refine awp_skip ?_
    refine awp_seq ?_
    refine awp_region ?_
    iterate 2 refine dp rfl rfl ?_
    obtain ⟨v3, hv3, h⟩ := pb h
    refine dh rfl (head_callp (cpu_Fault_w _ _ _ hv3) rfl rfl rfl rfl) ?_
    refine dn rfl (head_alloc tok 1 rfl rfl) ?_
    refine d_store_all tok rfl rfl rfl rfl rfl rfl rfl rfl rfl (by dsimp only [List.set, AV.cellsOf]) (by dsimp only [putL, List.set]) ?_
    refine aops_nil ?_
    refine ce (α := Unit) (γ := (Unit) ⊕ (Unit)) (fun q => (Sum.inr q)) h (fun x4 => ⟨an 2 (.ptr 0 0 :: an 130 []), [some (.var (encThreadD t)), some (.var (encThreadD v3))], []⟩) (fun x4 h => ?_) (fun h => ?_)
    · refine lc ?_
      refine awp_seq ?_
      refine awp_region ?_
      refine dp rfl rfl ?_
      obtain ⟨v5, hv5, h⟩ := pb h
      refine dh rfl (head_callp (cpu_Alert_w _ _ hv5) rfl rfl rfl rfl) ?_
      iterate 3 refine dp rfl rfl ?_
      refine dn rfl (head_alloc tok 2 rfl rfl) ?_
      refine d_store_all tok rfl rfl rfl rfl rfl rfl rfl rfl rfl (by dsimp only [List.set, AV.cellsOf]) (by dsimp only [putL, List.set]) ?_
      refine dp rfl rfl ?_
      refine aops_nil ?_
      iterate 2 refine awp_seq ?_
      refine awp_region ?_
      iterate 3 refine dp rfl rfl ?_
      refine dh rfl (head_len_map tok rfl rfl rfl rfl) ?_
      refine dp rfl rfl ?_
      refine ca h 5 (fun x7 => ⟨an 2 (.ptr 0 0 :: an 3 (.ptr 2 0 :: .bool v5.2 :: an 65 (.bool v5.2 :: an 8 (.bool x7 :: an 50 [])))), [some (.var (encThreadD t)), some (.var (encThreadD v3)), some (.var (encThreadD v5.1))], []⟩) (fun x7 h => ?_) (fun h => ?_)
      · refine lo ?_
        refine dp rfl rfl ?_
        refine aops_nil ?_
        refine cc h rfl (fun h => ?_) (fun h => ?_)
        · refine awp_seq ?_
          refine awp_region ?_
          refine dp rfl rfl ?_
          refine aops_nil ?_
          refine awp_ret ?_
          obtain rfl := pe h
          exact qfun_ret rfl rfl (Weak.refl _) rfl
        · refine awp_skip ?_
          iterate 2 refine awp_seq ?_
          refine awp_region ?_
          iterate 2 refine dp rfl rfl ?_
          refine aops_nil ?_
          refine cc h rfl (fun h => ?_) (fun h => ?_)
          · refine awp_seq ?_
            refine awp_region ?_
            iterate 2 refine dp rfl rfl ?_
            obtain ⟨v10, hv10, h⟩ := pb h
            refine dh rfl (head_callp (r13_SameThread_w _ _ _ hv10) rfl rfl rfl rfl) ?_
            refine di h rfl (hpr rfl) (fun h => ?_) (fun h => ?_)
            · obtain ⟨v12, hv12, h⟩ := pb h
              refine dh rfl (head_callp (law19_awake_w _ hv12) rfl rfl rfl rfl) ?_
              iterate 2 refine dp rfl rfl ?_
              refine aops_nil ?_
              refine awp_ret ?_
              obtain rfl := pe h
              exact qfun_ret rfl rfl (Weak.refl _) rfl
            · refine dk rfl ?_
              iterate 2 refine dp rfl rfl ?_
              refine aops_nil ?_
              refine awp_ret ?_
              obtain rfl := pe h
              exact qfun_ret rfl rfl (Weak.refl _) rfl
          · refine awp_skip ?_
            refine awp_seq ?_
            refine awp_draw 41 mixed (by decide +kernel) ?_
            refine kp rfl rfl ?_
            refine kh rfl (head_index_arr tok rfl rfl rfl rfl rfl rfl rfl (by decide) (by decide)) ?_
            iterate 4 refine kp rfl rfl ?_
            refine ki h rfl (hpr rfl) (fun h => ?_) (fun h => ?_)
            · refine kp rfl rfl ?_
              refine kh rfl (head_index_arr tok rfl rfl rfl rfl rfl rfl rfl (by decide) (by decide)) ?_
              iterate 3 refine kp rfl rfl ?_
              obtain ⟨x14, hx14, h⟩ := pb h
              refine kh rfl (head_index_map tok hx14 rfl rfl rfl rfl rfl rfl rfl) ?_
              iterate 3 refine kp rfl rfl ?_
              refine ki h rfl (hpr rfl) (fun h => ?_) (fun h => ?_)
              · refine kp rfl rfl ?_
                iterate 5 refine kp rfl rfl ?_
                refine ki h rfl (hpr rfl) (fun h => ?_) (fun h => ?_)
                · refine kp rfl rfl ?_
                  iterate 3 refine kp rfl rfl ?_
                  refine ki h rfl (hpr rfl) (fun h => ?_) (fun h => ?_)
                  · refine kp rfl rfl ?_
                    refine kp rfl rfl ?_
                    refine kh rfl (head_len_map tok rfl rfl rfl rfl) ?_
                    iterate 2 refine kp rfl rfl ?_
                    refine kh rfl (head_len_map tok rfl rfl rfl rfl) ?_
                    iterate 3 refine kp rfl rfl ?_
                    refine ki h rfl (hpr rfl) (fun h => ?_) (fun h => ?_)
                    · obtain ⟨v19, hv19, h⟩ := pb h
                      refine kh rfl (head_callp (law19_awake_w _ hv19) rfl rfl rfl rfl) ?_
                      refine kp rfl rfl ?_
                      refine .nil ?_
                      refine dp rfl rfl ?_
                      refine aops_nil ?_
                      refine awp_ret ?_
                      obtain rfl := pe h
                      exact qfun_ret rfl rfl (Weak.refl _) rfl
                    · refine kk rfl ?_
                      refine kp rfl rfl ?_
                      refine .nil ?_
                      refine dp rfl rfl ?_
                      refine aops_nil ?_
                      refine awp_ret ?_
                      obtain rfl := pe h
                      exact qfun_ret rfl rfl (Weak.refl _) rfl
                  · refine kk rfl ?_
                    iterate 7 refine kk rfl ?_
                    iterate 2 refine kp rfl rfl ?_
                    refine kk rfl ?_
                    refine kp rfl rfl ?_
                    refine .nil ?_
                    refine dp rfl rfl ?_
                    refine aops_nil ?_
                    refine awp_ret ?_
                    obtain rfl := pe h
                    exact qfun_ret rfl rfl (Weak.refl _) rfl
                · refine kk rfl ?_
                  iterate 2 refine kk rfl ?_
                  iterate 2 refine kp rfl rfl ?_
                  iterate 8 refine kk rfl ?_
                  iterate 2 refine kp rfl rfl ?_
                  refine kk rfl ?_
                  refine kp rfl rfl ?_
                  refine .nil ?_
                  refine dp rfl rfl ?_
                  refine aops_nil ?_
                  refine awp_ret ?_
                  obtain rfl := pe h
                  exact qfun_ret rfl rfl (Weak.refl _) rfl
              · refine kk rfl ?_
                iterate 4 refine kk rfl ?_
                iterate 2 refine kp rfl rfl ?_
                iterate 3 refine kk rfl ?_
                iterate 2 refine kp rfl rfl ?_
                iterate 8 refine kk rfl ?_
                iterate 2 refine kp rfl rfl ?_
                refine kk rfl ?_
                refine kp rfl rfl ?_
                refine .nil ?_
                refine dp rfl rfl ?_
                refine aops_nil ?_
                refine awp_ret ?_
                obtain rfl := pe h
                exact qfun_ret rfl rfl (Weak.refl _) rfl
            · refine kk rfl ?_
              iterate 7 refine kk rfl ?_
              iterate 2 refine kp rfl rfl ?_
              iterate 5 refine kk rfl ?_
              iterate 2 refine kp rfl rfl ?_
              iterate 3 refine kk rfl ?_
              iterate 2 refine kp rfl rfl ?_
              iterate 8 refine kk rfl ?_
              iterate 2 refine kp rfl rfl ?_
              refine kk rfl ?_
              refine kp rfl rfl ?_
              refine .nil ?_
              refine dp rfl rfl ?_
              refine aops_nil ?_
              refine awp_ret ?_
              obtain rfl := pe h
              exact qfun_ret rfl rfl (Weak.refl _) rfl
      · refine di h rfl (hpr rfl) (fun h => ?_) (fun h => ?_)
        · refine dp rfl rfl ?_
          iterate 3 refine dp rfl rfl ?_
          refine aops_nil ?_
          exact ⟨(t.Vector != (0 : Int)), (sk [2, 6, 7, 73, 82] [] rfl), (pe h :)⟩
        · refine dk rfl ?_
          iterate 2 refine dk rfl ?_
          refine dp rfl rfl ?_
          refine aops_nil ?_
          exact ⟨false, (sk [2, 6, 7, 73, 82] [] rfl), (pe h :)⟩
    · refine awp_seq ?_
      refine awp_region ?_
      iterate 3 refine dp rfl rfl ?_
      refine aops_nil ?_
      refine cc h rfl (fun h => ?_) (fun h => ?_)
      · refine cw h (fun x21 => ⟨an 2 (.ptr 0 0 :: an 32 (.bool x21 :: an 97 [])), [some (.var (encThreadD t)), some (.var (encThreadD v3))], []⟩) (fun x21 h => ?_) (fun h => ?_)
        · refine lc ?_
          refine cc h rfl (fun h => ?_) (fun h => ?_)
          · refine awp_seq ?_
            refine awp_region ?_
            refine dp rfl rfl ?_
            refine aops_nil ?_
            replace h := pe h
            refine awp_ret ?_
            obtain rfl := pe h
            exact qfun_ret rfl rfl (Weak.refl _) rfl
          · refine awp_skip ?_
            exact ⟨(), (sk [2] [] rfl), (pe h :)⟩
        · refine awp_region ?_
          iterate 3 refine dp rfl rfl ?_
          refine ca h 7 (fun x24 => ⟨an 2 (.ptr 0 0 :: an 2 (.ptr 1 0 :: an 22 (.bool x24 :: an 104 []))), [some (.var (encThreadD t)), some (.var (encThreadD v3))], []⟩) (fun x24 h => ?_) (fun h => ?_)
          · refine lo ?_
            refine di h rfl (hpr rfl) (fun h => ?_) (fun h => ?_)
            · refine dk rfl ?_
              iterate 4 refine dk rfl ?_
              refine dp rfl rfl ?_
              refine aops_nil ?_
              exact ⟨true, (sk [2, 35] [] rfl), (pe h :)⟩
            · refine dp rfl rfl ?_
              iterate 5 refine dp rfl rfl ?_
              refine aops_nil ?_
              exact ⟨(v3.Pc != t.Pc), (sk [2, 35] [] rfl), (pe h :)⟩
          · refine di h rfl (hpr rfl) (fun h => ?_) (fun h => ?_)
            · refine dk rfl ?_
              iterate 4 refine dk rfl ?_
              refine dp rfl rfl ?_
              refine aops_nil ?_
              exact ⟨true, (sk [2, 5, 28] [] rfl), (pe h :)⟩
            · refine dp rfl rfl ?_
              iterate 3 refine dp rfl rfl ?_
              refine dh rfl (head_eqs tok eqAll flat1 rfl (.inr ⟨rfl, rfl⟩) rfl rfl (by kernel_rfl) rfl rfl rfl) ?_
              refine dp rfl rfl ?_
              refine aops_nil ?_
              exact ⟨(!((v3.Regs.e0 == t.Regs.e0) && ((v3.Regs.e1 == t.Regs.e1) && ((v3.Regs.e2 == t.Regs.e2) && ((v3.Regs.e3 == t.Regs.e3) && ((v3.Regs.e4 == t.Regs.e4) && ((v3.Regs.e5 == t.Regs.e5) && ((v3.Regs.e6 == t.Regs.e6) && ((v3.Regs.e7 == t.Regs.e7) && ((v3.Regs.e8 == t.Regs.e8) && ((v3.Regs.e9 == t.Regs.e9) && ((v3.Regs.e10 == t.Regs.e10) && ((v3.Regs.e11 == t.Regs.e11) && ((v3.Regs.e12 == t.Regs.e12) && ((v3.Regs.e13 == t.Regs.e13) && ((v3.Regs.e14 == t.Regs.e14) && ((v3.Regs.e15 == t.Regs.e15) && true))))))))))))))))), (sk [2, 5, 28] [] rfl), (pe h :)⟩
      · refine cw h (fun x26 => ⟨an 2 (.ptr 0 0 :: an 64 (.bool x26 :: an 65 [])), [some (.var (encThreadD t)), some (.var (encThreadD v3))], []⟩) (fun x26 h => ?_) (fun h => ?_)
        · refine lc ?_
          refine cc h rfl (fun h => ?_) (fun h => ?_)
          · refine awp_seq ?_
            refine awp_region ?_
            refine dp rfl rfl ?_
            refine aops_nil ?_
            replace h := pe h
            refine awp_ret ?_
            obtain rfl := pe h
            exact qfun_ret rfl rfl (Weak.refl _) rfl
          · refine awp_skip ?_
            exact ⟨(), (sk [2] [] rfl), (pe h :)⟩
        · refine awp_region ?_
          refine dp rfl rfl ?_
          refine dh rfl (head_index_arr tok rfl rfl rfl rfl rfl rfl rfl (by decide) (by decide)) ?_
          iterate 4 refine dp rfl rfl ?_
          refine ca h 7 (fun x29 => ⟨an 2 (.ptr 0 0 :: an 2 (.ptr 1 0 :: an 42 (.bool x29 :: an 84 []))), [some (.var (encThreadD t)), some (.var (encThreadD v3))], []⟩) (fun x29 h => ?_) (fun h => ?_)
          · refine lo ?_
            refine ca h 7 (fun x31 => ⟨an 2 (.ptr 0 0 :: an 2 (.ptr 1 0 :: an 49 (.bool x31 :: an 77 []))), [some (.var (encThreadD t)), some (.var (encThreadD v3))], []⟩) (fun x31 h => ?_) (fun h => ?_)
            · refine lo ?_
              refine ca h 5 (fun x33 => ⟨an 2 (.ptr 0 0 :: an 2 (.ptr 1 0 :: an 54 (.bool x33 :: an 72 []))), [some (.var (encThreadD t)), some (.var (encThreadD v3))], []⟩) (fun x33 h => ?_) (fun h => ?_)
              · refine lo ?_
                refine di h rfl (hpr rfl) (fun h => ?_) (fun h => ?_)
                · refine dk rfl ?_
                  iterate 4 refine dk rfl ?_
                  refine dp rfl rfl ?_
                  refine aops_nil ?_
                  exact ⟨true, (sk [2, 67] [] rfl), (pe h :)⟩
                · refine dp rfl rfl ?_
                  iterate 5 refine dp rfl rfl ?_
                  refine aops_nil ?_
                  exact ⟨(v3.State != t.State), (sk [2, 67] [] rfl), (pe h :)⟩
              · refine di h rfl (hpr rfl) (fun h => ?_) (fun h => ?_)
                · refine dk rfl ?_
                  iterate 2 refine dk rfl ?_
                  refine dp rfl rfl ?_
                  refine aops_nil ?_
                  exact ⟨true, (sk [2, 5, 60] [] rfl), (pe h :)⟩
                · refine dp rfl rfl ?_
                  iterate 3 refine dp rfl rfl ?_
                  refine aops_nil ?_
                  exact ⟨(v3.Handler != (0 : Int)), (sk [2, 5, 60] [] rfl), (pe h :)⟩
            · refine di h rfl (hpr rfl) (fun h => ?_) (fun h => ?_)
              · refine dk rfl ?_
                iterate 4 refine dk rfl ?_
                refine dp rfl rfl ?_
                refine aops_nil ?_
                exact ⟨true, (sk [2, 5, 55] [] rfl), (pe h :)⟩
              · refine dp rfl rfl ?_
                iterate 5 refine dp rfl rfl ?_
                refine aops_nil ?_
                exact ⟨(v3.Pc != t.Handler), (sk [2, 5, 55] [] rfl), (pe h :)⟩
          · refine di h rfl (hpr rfl) (fun h => ?_) (fun h => ?_)
            · refine dk rfl ?_
              iterate 4 refine dk rfl ?_
              refine dp rfl rfl ?_
              refine aops_nil ?_
              exact ⟨true, (sk [2, 5, 48] [] rfl), (pe h :)⟩
            · refine dp rfl rfl ?_
              refine dh rfl (head_index_arr tok rfl rfl rfl rfl rfl rfl rfl (by decide) (by decide)) ?_
              iterate 4 refine dp rfl rfl ?_
              refine aops_nil ?_
              exact ⟨(v3.Regs.e15 != why), (sk [2, 5, 48] [] rfl), (pe h :)⟩

end Go.Proofs.Ytpckfpahmnhfcaa.K
