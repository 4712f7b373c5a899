/- The statement of the layer of pages. Printed by wip/gen/walk.py out of wip/gen/spec_pages3.py. -/
import Derived.Test.YtpckfpahmnhfcaaP2
import Derived.Test.YtpckfpahmnhfcaaPL
namespace Go.Proofs.Ytpckfpahmnhfcaa.F
open Go Go.RowKit Go.Proofs.Ytpckfpahmnhfcaa.G
set_option linter.unusedVariables false
set_option linter.unusedSimpArgs false
set_option maxRecDepth 20000
set_option maxHeartbeats 4000000
def exMap : MapD := ⟨2, 4, 0, 0, 1, false⟩
def exMap2 : MapD := ⟨5, 1, 0, 0, 0, false⟩
theorem ex_put1 : PCall Try.prog 18 [.nilsl, .agg (encMap exMap)] (encList ([exMap], 0)) := by
  have h := put_spec [] exMap (by decide) .nil
  rw [show putP [] exMap = ([exMap], 0) by decide] at h
  exact h.weak (.cons Weak.nil (.cons (Weak.refl _) .nil))
theorem ex_find : PCall Try.prog 22 [.list ([exMap].map encMap), .int .i64 3] (encFind (exMap, 2, true)) := by
  have h := find_spec [exMap] 3 (by decide) (List.pairwise_singleton _ _)
  rwa [show findP [exMap] 3 = (exMap, 2, true) by decide] at h
theorem ex_put2 : PCall Try.prog 18 [.list ([exMap].map encMap), .agg (encMap exMap2)] (encList ([exMap], 12)) := by
  have h := put_spec [exMap] exMap2 (by decide) (List.pairwise_singleton _ _)
  rwa [show putP [exMap] exMap2 = ([exMap], 12) by decide] at h
theorem ex_split : PCall Try.prog 12 [.int .u64 35] (.tuple [.int .i64 2, .int .i64 3, .bool true]) := by
  have h := split_spec 35
  rwa [show splitP 35 = 2 by decide, show splitW 35 = 3 by decide, show splitOk 35 = true by decide] at h

theorem awake_spec  : PCall Try.prog 11 [] (.bool true) := by
  refine d_intro Try.func11 rfl (by decide +kernel) (ts := [.undef, .undef, .undef, .undef, .undef, .undef, .undef, .undef, .undef, .undef, .undef, .undef, .undef, .undef, .undef, .undef, .undef, .undef, .undef, .undef, .undef, .undef, .undef, .undef, .undef, .undef, .undef, .undef, .undef, .undef, .undef, .undef, .undef, .undef, .undef, .undef, .undef, .undef, .undef, .undef, .undef, .undef, .undef, .undef, .undef, .undef, .undef, .undef, .undef, .undef, .undef, .undef, .undef, .undef, .undef, .undef, .undef]) rfl fun B hB => ?_
  refine awp_seq ?_
  refine awp_region ?_
  refine d_pure tok rfl rfl (by dsimp only [putL, List.set]) ?_
  refine aops_nil ?_
  refine awp_seq ?_
  refine awp_region ?_
  refine d_head rfl (head_build tok rfl rfl rfl rfl rfl rfl) (by dsimp only [putL, List.set]) ?_
  refine d_head rfl (head_callp ex_put1 rfl rfl rfl rfl) (by dsimp only [putL, List.set]) ?_
  refine d_pure tok rfl rfl (by dsimp only [putL, List.set]) ?_
  refine d_pure tok rfl rfl (by dsimp only [putL, List.set]) ?_
  refine d_pure tok rfl rfl (by dsimp only [putL, List.set]) ?_
  refine d_pure tok rfl rfl (by dsimp only [putL, List.set]) ?_
  refine d_pure tok rfl rfl (by dsimp only [putL, List.set]) ?_
  refine aops_nil ?_
  refine awp_seq ?_
  refine awp_region ?_
  refine d_pure tok rfl rfl (by dsimp only [putL, List.set]) ?_
  refine d_head rfl (head_callp ex_find rfl rfl rfl rfl) (by dsimp only [putL, List.set]) ?_
  refine d_pure tok rfl rfl (by dsimp only [putL, List.set]) ?_
  refine d_pure tok rfl rfl (by dsimp only [putL, List.set]) ?_
  refine d_pure tok rfl rfl (by dsimp only [putL, List.set]) ?_
  refine d_pure tok rfl rfl (by dsimp only [putL, List.set]) ?_
  refine d_new rfl (head_alloc tok 0 rfl rfl) (by dsimp only [putL, List.set]) (by dsimp only [List.append, HAppend.hAppend, Append.append]) ?_
  refine d_store_all tok rfl rfl rfl rfl rfl rfl rfl rfl rfl (by dsimp only [List.set, AV.cellsOf]) (by dsimp only [putL, List.set]) ?_
  refine d_pure tok rfl rfl (by dsimp only [putL, List.set]) ?_
  refine d_pure tok rfl rfl (by dsimp only [putL, List.set]) ?_
  refine aops_nil ?_
  refine awp_seq ?_
  refine awp_region ?_
  refine d_pure tok rfl rfl (by dsimp only [putL, List.set]) ?_
  refine d_head rfl (head_build tok rfl rfl rfl rfl rfl rfl) (by dsimp only [putL, List.set]) ?_
  refine d_head rfl (head_callp ex_put2 rfl rfl rfl rfl) (by dsimp only [putL, List.set]) ?_
  refine d_pure tok rfl rfl (by dsimp only [putL, List.set]) ?_
  refine d_pure tok rfl rfl (by dsimp only [putL, List.set]) ?_
  refine d_pure tok rfl rfl (by dsimp only [putL, List.set]) ?_
  refine d_pure tok rfl rfl (by dsimp only [putL, List.set]) ?_
  refine d_pure tok rfl rfl (by dsimp only [putL, List.set]) ?_
  refine aops_nil ?_
  refine awp_seq ?_
  refine awp_region ?_
  refine d_head rfl (head_callp ex_split rfl rfl rfl rfl) (by dsimp only [putL, List.set]) ?_
  refine d_pure tok rfl rfl (by dsimp only [putL, List.set]) ?_
  refine d_pure tok rfl rfl (by dsimp only [putL, List.set]) ?_
  refine d_pure tok rfl rfl (by dsimp only [putL, List.set]) ?_
  refine d_pure tok rfl rfl (by dsimp only [putL, List.set]) ?_
  refine d_pure tok rfl rfl (by dsimp only [putL, List.set]) ?_
  refine d_pure tok rfl rfl (by dsimp only [putL, List.set]) ?_
  refine d_pure tok rfl rfl (by dsimp only [putL, List.set]) ?_
  refine aops_nil ?_
  refine awp_seq ?_
  refine awp_region ?_
  refine d_pure tok rfl rfl (by dsimp only [putL, List.set]) ?_
  refine d_split rfl (head_p tok rfl) (by dsimp only [putL, List.set]) (by dsimp only [putL, List.set]) (fun h34 => ?_) (fun h34 => ?_)
  · refine d_pure tok rfl rfl (by dsimp only [putL, List.set]) ?_
    refine d_pure tok rfl rfl (by dsimp only [putL, List.set]) ?_
    refine d_pure tok rfl rfl (by dsimp only [putL, List.set]) ?_
    refine d_split rfl (head_p tok rfl) (by dsimp only [putL, List.set]) (by dsimp only [putL, List.set]) (fun h38 => ?_) (fun h38 => ?_)
    · refine d_pure tok rfl rfl (by dsimp only [putL, List.set]) ?_
      refine d_pure tok rfl rfl (by dsimp only [putL, List.set]) ?_
      refine d_split rfl (head_p tok rfl) (by dsimp only [putL, List.set]) (by dsimp only [putL, List.set]) (fun h41 => ?_) (fun h41 => ?_)
      · refine d_pure tok rfl rfl (by dsimp only [putL, List.set]) ?_
        refine d_pure tok rfl rfl (by dsimp only [putL, List.set]) ?_
        refine d_pure tok rfl rfl (by dsimp only [putL, List.set]) ?_
        refine d_split rfl (head_p tok rfl) (by dsimp only [putL, List.set]) (by dsimp only [putL, List.set]) (fun h45 => ?_) (fun h45 => ?_)
        · refine d_pure tok rfl rfl (by dsimp only [putL, List.set]) ?_
          refine d_pure tok rfl rfl (by dsimp only [putL, List.set]) ?_
          refine d_pure tok rfl rfl (by dsimp only [putL, List.set]) ?_
          refine d_split rfl (head_p tok rfl) (by dsimp only [putL, List.set]) (by dsimp only [putL, List.set]) (fun h49 => ?_) (fun h49 => ?_)
          · refine d_pure tok rfl rfl (by dsimp only [putL, List.set]) ?_
            refine d_pure tok rfl rfl (by dsimp only [putL, List.set]) ?_
            refine d_pure tok rfl rfl (by dsimp only [putL, List.set]) ?_
            refine d_split rfl (head_p tok rfl) (by dsimp only [putL, List.set]) (by dsimp only [putL, List.set]) (fun h53 => ?_) (fun h53 => ?_)
            · refine d_pure tok rfl rfl (by dsimp only [putL, List.set]) ?_
              refine d_pure tok rfl rfl (by dsimp only [putL, List.set]) ?_
              refine d_pure tok rfl rfl (by dsimp only [putL, List.set]) ?_
              refine d_pure tok rfl rfl (by dsimp only [putL, List.set]) ?_
              refine aops_nil ?_
              refine awp_ret ?_
              exact qfun_ret rfl rfl (Weak.refl _) rfl
            · exact absurd h53 (by decide)
          · exact absurd h49 (by decide)
        · exact absurd h45 (by decide)
      · exact absurd h41 (by decide)
    · exact absurd h38 (by decide)
  · exact absurd h34 (by decide)

theorem pagesDo_spec (l k : List MapD) (m : MapD) (page addr : Int) : PCall Try.prog 3 [.list (l.map encMap), .list (k.map encMap), .agg (encMap m), .int .i64 page, .int .u64 addr] (.bool true) := by
  refine d_intro Try.func3 rfl (by decide +kernel) (ts := [.list (l.map encMap), .list (k.map encMap), .agg (encMap m), .int .i64 page, .int .u64 addr, .undef, .undef, .undef, .undef, .undef, .undef, .undef, .undef, .undef, .undef, .undef, .undef, .undef, .undef, .undef, .undef, .undef, .undef, .undef, .undef, .undef, .undef, .undef, .undef, .undef, .undef, .undef, .undef, .undef, .undef, .undef, .undef, .undef, .undef, .undef, .undef, .undef, .undef, .undef, .undef, .undef, .undef, .undef, .undef, .undef, .undef, .undef, .undef, .undef, .undef, .undef, .undef, .undef, .undef, .undef, .undef, .undef, .undef, .undef, .undef, .undef, .undef, .undef, .undef, .undef, .undef, .undef, .undef, .undef, .undef, .undef, .undef, .undef, .undef, .undef, .undef, .undef, .undef, .undef, .undef, .undef, .undef, .undef, .undef, .undef, .undef, .undef, .undef, .undef, .undef, .undef, .undef, .undef, .undef, .undef, .undef, .undef, .undef, .undef, .undef, .undef, .undef, .undef, .undef, .undef, .undef, .undef, .undef, .undef, .undef, .undef, .undef, .undef, .undef, .undef, .undef, .undef, .undef, .undef, .undef, .undef, .undef, .undef, .undef, .undef, .undef, .undef, .undef, .undef, .undef, .undef, .undef, .undef, .undef, .undef, .undef, .undef, .undef, .undef, .undef, .undef, .undef, .undef, .undef, .undef, .undef, .undef, .undef, .undef, .undef, .undef, .undef, .undef, .undef, .undef, .undef, .undef, .undef, .undef, .undef, .undef, .undef, .undef, .undef, .undef, .undef, .undef, .undef]) rfl fun B hB => ?_
  refine awp_seq ?_
  refine awp_region ?_
  refine d_new rfl (head_box 0 rfl rfl) (by dsimp only [putL, List.set]) (by dsimp only [List.append, HAppend.hAppend, Append.append]) ?_
  refine d_pure tok rfl rfl (by dsimp only [putL, List.set]) ?_
  refine aops_nil ?_
  refine awp_seq ?_
  refine awp_seq ?_
  refine awp_region ?_
  refine d_pure tok rfl rfl (by dsimp only [putL, List.set]) ?_
  refine d_pure tok rfl rfl (by dsimp only [putL, List.set]) ?_
  refine d_split rfl (head_p tok rfl) (by dsimp only [putL, List.set]) (by dsimp only [putL, List.set]) (fun h33 => ?_) (fun h33 => ?_)
  · refine d_pure tok rfl rfl (by dsimp only [putL, List.set]) ?_
    refine d_skip rfl (by dsimp only [putL, List.set]) ?_
    refine d_skip rfl (by dsimp only [putL, List.set]) ?_
    refine d_skip rfl (by dsimp only [putL, List.set]) ?_
    refine d_pure tok rfl rfl (by dsimp only [putL, List.set]) ?_
    refine aops_nil ?_
    refine awp_cond_true rfl ?_
    refine awp_seq ?_
    refine awp_region ?_
    refine d_head rfl (head_call rfl rfl rfl rfl awake_spec) (by dsimp only [putL, List.set]) ?_
    refine d_pure tok rfl rfl (by dsimp only [putL, List.set]) ?_
    refine aops_nil ?_
    refine awp_ret ?_
    exact qfun_ret rfl rfl (Weak.refl _) rfl
  · refine d_pure tok rfl rfl (by dsimp only [putL, List.set]) ?_
    refine d_pure tok rfl rfl (by dsimp only [putL, List.set]) ?_
    refine d_pure tok rfl rfl (by dsimp only [putL, List.set]) ?_
    refine d_pure tok rfl rfl (by dsimp only [putL, List.set]) ?_
    refine d_split rfl (head_p tok rfl) (by dsimp only [putL, List.set]) (by dsimp only [putL, List.set]) (fun h38 => ?_) (fun h38 => ?_)
    · refine aops_nil ?_
      refine awp_cond_true rfl ?_
      refine awp_seq ?_
      refine awp_region ?_
      refine d_head rfl (head_call rfl rfl rfl rfl awake_spec) (by dsimp only [putL, List.set]) ?_
      refine d_pure tok rfl rfl (by dsimp only [putL, List.set]) ?_
      refine aops_nil ?_
      refine awp_ret ?_
      exact qfun_ret rfl rfl (Weak.refl _) rfl
    · have hl : l.length ≤ 30 := by have h := h33; simp at h; omega
      refine aops_nil ?_
      refine awp_cond_false rfl ?_
      refine awp_skip ?_
      refine awp_seq ?_
      refine awp_region ?_
      refine d_pure tok rfl rfl (by dsimp only [putL, List.set]) ?_
      refine d_head rfl (head_call rfl rfl rfl rfl (split_spec _)) (by dsimp only [putL, List.set]) ?_
      refine d_pure tok rfl rfl (by dsimp only [putL, List.set]) ?_
      refine d_pure tok rfl rfl (by dsimp only [putL, List.set]) ?_
      refine d_pure tok rfl rfl (by dsimp only [putL, List.set]) ?_
      refine d_pure tok rfl rfl (by dsimp only [putL, List.set]) ?_
      refine d_pure tok rfl rfl (by dsimp only [putL, List.set]) ?_
      refine d_pure tok rfl rfl (by dsimp only [putL, List.set]) ?_
      refine d_pure tok rfl rfl (by dsimp only [putL, List.set]) ?_
      refine aops_nil ?_
      refine awp_seq ?_
      refine awp_region ?_
      refine d_pure tok rfl rfl (by dsimp only [putL, List.set]) ?_
      refine d_head rfl (head_call rfl rfl rfl rfl (rsplit_spec _)) (by dsimp only [putL, List.set]) ?_
      refine d_pure tok rfl rfl (by dsimp only [putL, List.set]) ?_
      refine d_pure tok rfl rfl (by dsimp only [putL, List.set]) ?_
      refine d_pure tok rfl rfl (by dsimp only [putL, List.set]) ?_
      refine d_pure tok rfl rfl (by dsimp only [putL, List.set]) ?_
      refine d_pure tok rfl rfl (by dsimp only [putL, List.set]) ?_
      refine d_pure tok rfl rfl (by dsimp only [putL, List.set]) ?_
      refine d_pure tok rfl rfl (by dsimp only [putL, List.set]) ?_
      refine aops_nil ?_
      refine awp_seq ?_
      refine awp_seq ?_
      refine awp_region ?_
      refine d_pure tok rfl rfl (by dsimp only [putL, List.set]) ?_
      refine d_head rfl (head_callp (fit_spec l (by omega)) rfl rfl rfl rfl) (by dsimp only [putL, List.set]) ?_
      refine d_pure tok rfl rfl (by dsimp only [putL, List.set]) ?_
      refine d_head rfl (head_callp (rfit_spec l (by omega)) rfl rfl rfl rfl) (by dsimp only [putL, List.set]) ?_
      refine d_split rfl (head_p tok rfl) (by dsimp only [putL, List.set]) (by dsimp only [putL, List.set]) (fun h56 => ?_) (fun h56 => ?_)
      · exact absurd h56 (by rw [good_eq]; simp)
      · refine d_pure tok rfl rfl (by dsimp only [putL, List.set]) ?_
        refine d_pure tok rfl rfl (by dsimp only [putL, List.set]) ?_
        refine d_pure tok rfl rfl (by dsimp only [putL, List.set]) ?_
        refine d_head rfl (head_callp (same_spec l k (by omega)) rfl rfl rfl rfl) (by dsimp only [putL, List.set]) ?_
        refine d_pure tok rfl rfl (by dsimp only [putL, List.set]) ?_
        refine d_pure tok rfl rfl (by dsimp only [putL, List.set]) ?_
        refine d_head rfl (head_callp (rsame_spec l k (by omega)) rfl rfl rfl rfl) (by dsimp only [putL, List.set]) ?_
        refine d_pure tok rfl rfl (by dsimp only [putL, List.set]) ?_
        refine d_split rfl (head_p tok rfl) (by dsimp only [putL, List.set]) (by dsimp only [putL, List.set]) (fun h65 => ?_) (fun h65 => ?_)
        · exact absurd h65 (by simp)
        · refine d_pure tok rfl rfl (by dsimp only [putL, List.set]) ?_
          refine d_pure tok rfl rfl (by dsimp only [putL, List.set]) ?_
          refine d_pure tok rfl rfl (by dsimp only [putL, List.set]) ?_
          refine d_head rfl (head_callp (same_spec l l (by omega)) rfl rfl rfl rfl) (by dsimp only [putL, List.set]) ?_
          refine d_pure tok rfl rfl (by dsimp only [putL, List.set]) ?_
          refine d_split rfl (head_p tok rfl) (by dsimp only [putL, List.set]) (by dsimp only [putL, List.set]) (fun h71 => ?_) (fun h71 => ?_)
          · exact absurd h71 (by simp)
          · refine d_pure tok rfl rfl (by dsimp only [putL, List.set]) ?_
            refine d_pure tok rfl rfl (by dsimp only [putL, List.set]) ?_
            refine d_pure tok rfl rfl (by dsimp only [putL, List.set]) ?_
            refine d_pure tok rfl rfl (by dsimp only [putL, List.set]) ?_
            refine d_split rfl (head_p tok rfl) (by dsimp only [putL, List.set]) (by dsimp only [putL, List.set]) (fun h76 => ?_) (fun h76 => ?_)
            · exact absurd h76 (by simp)
            · refine d_pure tok rfl rfl (by dsimp only [putL, List.set]) ?_
              refine d_pure tok rfl rfl (by dsimp only [putL, List.set]) ?_
              refine d_pure tok rfl rfl (by dsimp only [putL, List.set]) ?_
              refine d_pure tok rfl rfl (by dsimp only [putL, List.set]) ?_
              refine d_split rfl (head_p tok rfl) (by dsimp only [putL, List.set]) (by dsimp only [putL, List.set]) (fun h81 => ?_) (fun h81 => ?_)
              · exact absurd h81 (by simp)
              · refine d_pure tok rfl rfl (by dsimp only [putL, List.set]) ?_
                refine d_pure tok rfl rfl (by dsimp only [putL, List.set]) ?_
                refine d_pure tok rfl rfl (by dsimp only [putL, List.set]) ?_
                refine d_pure tok rfl rfl (by dsimp only [putL, List.set]) ?_
                refine d_split rfl (head_p tok rfl) (by dsimp only [putL, List.set]) (by dsimp only [putL, List.set]) (fun h86 => ?_) (fun h86 => ?_)
                · exact absurd h86 (by simp)
                · refine aops_nil ?_
                  refine awp_cond_false rfl ?_
                  refine awp_skip ?_
                  refine awp_seq ?_
                  refine awp_seq ?_
                  refine awp_region ?_
                  refine d_pure tok rfl rfl (by dsimp only [putL, List.set]) ?_
                  refine d_split rfl (head_callp (rfit_spec l (by omega)) rfl rfl rfl rfl) (by dsimp only [putL, List.set]) (by dsimp only [putL, List.set]) (fun h88 => ?_) (fun h88 => ?_)
                  · obtain ⟨hl16, hch⟩ := (fit_iff l).1 h88
                    have hput := put_spec l m (by omega) (chain_va hch)
                    rw [put_law hch m] at hput
                    have hdrop := drop_spec l page (by omega) (chain_va hch)
                    rw [drop_law hch page] at hdrop
                    have hfind := find_spec l page (by omega) (chain_end hch)
                    rw [find_law hch page] at hfind
                    have hpl := put_length m hl16 hch
                    have hdl := drop_length page hl16 hch
                    refine d_pure tok rfl rfl (by dsimp only [putL, List.set]) ?_
                    refine aops_nil ?_
                    refine awp_cond_false rfl ?_
                    refine awp_skip ?_
                    refine awp_seq ?_
                    refine awp_region ?_
                    refine d_pure tok rfl rfl (by dsimp only [putL, List.set]) ?_
                    refine d_pure tok rfl rfl (by dsimp only [putL, List.set]) ?_
                    refine d_head rfl (head_callp hput rfl rfl rfl rfl) (by dsimp only [putL, List.set]) ?_
                    refine d_pure tok rfl rfl (by dsimp only [putL, List.set]) ?_
                    refine d_pure tok rfl rfl (by dsimp only [putL, List.set]) ?_
                    refine d_pure tok rfl rfl (by dsimp only [putL, List.set]) ?_
                    refine d_pure tok rfl rfl (by dsimp only [putL, List.set]) ?_
                    refine d_pure tok rfl rfl (by dsimp only [putL, List.set]) ?_
                    refine aops_nil ?_
                    refine awp_seq ?_
                    refine awp_region ?_
                    refine d_pure tok rfl rfl (by dsimp only [putL, List.set]) ?_
                    refine d_pure tok rfl rfl (by dsimp only [putL, List.set]) ?_
                    refine d_head rfl (head_callp (rput_spec l m (by omega)) rfl rfl rfl rfl) (by dsimp only [putL, List.set]) ?_
                    refine d_pure tok rfl rfl (by dsimp only [putL, List.set]) ?_
                    refine d_pure tok rfl rfl (by dsimp only [putL, List.set]) ?_
                    refine d_pure tok rfl rfl (by dsimp only [putL, List.set]) ?_
                    refine d_pure tok rfl rfl (by dsimp only [putL, List.set]) ?_
                    refine d_pure tok rfl rfl (by dsimp only [putL, List.set]) ?_
                    refine aops_nil ?_
                    refine awp_seq ?_
                    refine awp_region ?_
                    refine d_pure tok rfl rfl (by dsimp only [putL, List.set]) ?_
                    refine d_pure tok rfl rfl (by dsimp only [putL, List.set]) ?_
                    refine d_head rfl (head_callp hdrop rfl rfl rfl rfl) (by dsimp only [putL, List.set]) ?_
                    refine d_pure tok rfl rfl (by dsimp only [putL, List.set]) ?_
                    refine d_pure tok rfl rfl (by dsimp only [putL, List.set]) ?_
                    refine d_pure tok rfl rfl (by dsimp only [putL, List.set]) ?_
                    refine d_pure tok rfl rfl (by dsimp only [putL, List.set]) ?_
                    refine d_pure tok rfl rfl (by dsimp only [putL, List.set]) ?_
                    refine aops_nil ?_
                    refine awp_seq ?_
                    refine awp_region ?_
                    refine d_pure tok rfl rfl (by dsimp only [putL, List.set]) ?_
                    refine d_pure tok rfl rfl (by dsimp only [putL, List.set]) ?_
                    refine d_head rfl (head_callp (rdrop_spec l page (by omega)) rfl rfl rfl rfl) (by dsimp only [putL, List.set]) ?_
                    refine d_pure tok rfl rfl (by dsimp only [putL, List.set]) ?_
                    refine d_pure tok rfl rfl (by dsimp only [putL, List.set]) ?_
                    refine d_pure tok rfl rfl (by dsimp only [putL, List.set]) ?_
                    refine d_pure tok rfl rfl (by dsimp only [putL, List.set]) ?_
                    refine d_pure tok rfl rfl (by dsimp only [putL, List.set]) ?_
                    refine aops_nil ?_
                    refine awp_seq ?_
                    refine awp_region ?_
                    refine d_pure tok rfl rfl (by dsimp only [putL, List.set]) ?_
                    refine d_pure tok rfl rfl (by dsimp only [putL, List.set]) ?_
                    refine d_head rfl (head_callp hfind rfl rfl rfl rfl) (by dsimp only [putL, List.set]) ?_
                    refine d_pure tok rfl rfl (by dsimp only [putL, List.set]) ?_
                    refine d_pure tok rfl rfl (by dsimp only [putL, List.set]) ?_
                    refine d_pure tok rfl rfl (by dsimp only [putL, List.set]) ?_
                    refine d_pure tok rfl rfl (by dsimp only [putL, List.set]) ?_
                    refine d_new rfl (head_alloc tok 1 rfl rfl) (by dsimp only [putL, List.set]) (by dsimp only [List.append, HAppend.hAppend, Append.append]) ?_
                    refine d_store_all tok rfl rfl rfl rfl rfl rfl rfl rfl rfl (by dsimp only [List.set, AV.cellsOf]) (by dsimp only [putL, List.set]) ?_
                    refine d_pure tok rfl rfl (by dsimp only [putL, List.set]) ?_
                    refine d_pure tok rfl rfl (by dsimp only [putL, List.set]) ?_
                    refine aops_nil ?_
                    refine awp_seq ?_
                    refine awp_region ?_
                    refine d_pure tok rfl rfl (by dsimp only [putL, List.set]) ?_
                    refine d_pure tok rfl rfl (by dsimp only [putL, List.set]) ?_
                    refine d_head rfl (head_callp (rfind_spec l page (by omega)) rfl rfl rfl rfl) (by dsimp only [putL, List.set]) ?_
                    refine d_pure tok rfl rfl (by dsimp only [putL, List.set]) ?_
                    refine d_pure tok rfl rfl (by dsimp only [putL, List.set]) ?_
                    refine d_pure tok rfl rfl (by dsimp only [putL, List.set]) ?_
                    refine d_pure tok rfl rfl (by dsimp only [putL, List.set]) ?_
                    refine d_new rfl (head_alloc tok 2 rfl rfl) (by dsimp only [putL, List.set]) (by dsimp only [List.append, HAppend.hAppend, Append.append]) ?_
                    refine d_store_all tok rfl rfl rfl rfl rfl rfl rfl rfl rfl (by dsimp only [List.set, AV.cellsOf]) (by dsimp only [putL, List.set]) ?_
                    refine d_pure tok rfl rfl (by dsimp only [putL, List.set]) ?_
                    refine d_pure tok rfl rfl (by dsimp only [putL, List.set]) ?_
                    refine aops_nil ?_
                    refine awp_seq ?_
                    refine awp_region ?_
                    refine d_pure tok rfl rfl (by dsimp only [putL, List.set]) ?_
                    refine d_pure tok rfl rfl (by dsimp only [putL, List.set]) ?_
                    refine d_split rfl (head_callp (rsame_spec (putR l m).1 (putR l m).1 (by omega)) rfl rfl rfl rfl) (by dsimp only [putL, List.set]) (by dsimp only [putL, List.set]) (fun h131 => ?_) (fun h131 => ?_)
                    · refine d_pure tok rfl rfl (by dsimp only [putL, List.set]) ?_
                      refine d_pure tok rfl rfl (by dsimp only [putL, List.set]) ?_
                      refine d_pure tok rfl rfl (by dsimp only [putL, List.set]) ?_
                      refine d_pure tok rfl rfl (by dsimp only [putL, List.set]) ?_
                      refine d_split rfl (head_p tok rfl) (by dsimp only [putL, List.set]) (by dsimp only [putL, List.set]) (fun h136 => ?_) (fun h136 => ?_)
                      · refine d_pure tok rfl rfl (by dsimp only [putL, List.set]) ?_
                        refine d_pure tok rfl rfl (by dsimp only [putL, List.set]) ?_
                        refine d_pure tok rfl rfl (by dsimp only [putL, List.set]) ?_
                        refine d_head rfl (head_callp (rsame_spec (dropR l page).1 (dropR l page).1 (by omega)) rfl rfl rfl rfl) (by dsimp only [putL, List.set]) ?_
                        refine d_split rfl (head_p tok rfl) (by dsimp only [putL, List.set]) (by dsimp only [putL, List.set]) (fun h141 => ?_) (fun h141 => ?_)
                        · refine d_pure tok rfl rfl (by dsimp only [putL, List.set]) ?_
                          refine d_pure tok rfl rfl (by dsimp only [putL, List.set]) ?_
                          refine d_pure tok rfl rfl (by dsimp only [putL, List.set]) ?_
                          refine d_pure tok rfl rfl (by dsimp only [putL, List.set]) ?_
                          refine d_split rfl (head_p tok rfl) (by dsimp only [putL, List.set]) (by dsimp only [putL, List.set]) (fun h146 => ?_) (fun h146 => ?_)
                          · refine d_pure tok rfl rfl (by dsimp only [putL, List.set]) ?_
                            refine d_pure tok rfl rfl (by dsimp only [putL, List.set]) ?_
                            refine d_pure tok rfl rfl (by dsimp only [putL, List.set]) ?_
                            refine d_head rfl (head_eqs tok eqAll flat1 rfl (.inl ⟨rfl, rfl⟩) rfl rfl (by kernel_rfl) rfl rfl rfl) (by dsimp only [putL, List.set]) ?_
                            refine d_split rfl (head_p tok rfl) (by dsimp only [putL, List.set]) (by dsimp only [putL, List.set]) (fun h151 => ?_) (fun h151 => ?_)
                            · refine d_pure tok rfl rfl (by dsimp only [putL, List.set]) ?_
                              refine d_pure tok rfl rfl (by dsimp only [putL, List.set]) ?_
                              refine d_pure tok rfl rfl (by dsimp only [putL, List.set]) ?_
                              refine d_pure tok rfl rfl (by dsimp only [putL, List.set]) ?_
                              refine d_split rfl (head_p tok rfl) (by dsimp only [putL, List.set]) (by dsimp only [putL, List.set]) (fun h156 => ?_) (fun h156 => ?_)
                              · refine d_pure tok rfl rfl (by dsimp only [putL, List.set]) ?_
                                refine d_pure tok rfl rfl (by dsimp only [putL, List.set]) ?_
                                refine d_pure tok rfl rfl (by dsimp only [putL, List.set]) ?_
                                refine d_pure tok rfl rfl (by dsimp only [putL, List.set]) ?_
                                refine d_split rfl (head_p tok rfl) (by dsimp only [putL, List.set]) (by dsimp only [putL, List.set]) (fun h161 => ?_) (fun h161 => ?_)
                                · refine d_pure tok rfl rfl (by dsimp only [putL, List.set]) ?_
                                  refine d_pure tok rfl rfl (by dsimp only [putL, List.set]) ?_
                                  refine d_head rfl (head_callp (rfit_spec (putR l m).1 (by omega)) rfl rfl rfl rfl) (by dsimp only [putL, List.set]) ?_
                                  refine d_split rfl (head_p tok rfl) (by dsimp only [putL, List.set]) (by dsimp only [putL, List.set]) (fun h165 => ?_) (fun h165 => ?_)
                                  · refine d_pure tok rfl rfl (by dsimp only [putL, List.set]) ?_
                                    refine d_pure tok rfl rfl (by dsimp only [putL, List.set]) ?_
                                    refine d_head rfl (head_callp (rfit_spec (dropR l page).1 (by omega)) rfl rfl rfl rfl) (by dsimp only [putL, List.set]) ?_
                                    refine d_split rfl (head_p tok rfl) (by dsimp only [putL, List.set]) (by dsimp only [putL, List.set]) (fun h169 => ?_) (fun h169 => ?_)
                                    · refine d_pure tok rfl rfl (by dsimp only [putL, List.set]) ?_
                                      refine d_head rfl (head_call rfl rfl rfl rfl awake_spec) (by dsimp only [putL, List.set]) ?_
                                      refine d_pure tok rfl rfl (by dsimp only [putL, List.set]) ?_
                                      refine d_pure tok rfl rfl (by dsimp only [putL, List.set]) ?_
                                      refine aops_nil ?_
                                      refine awp_ret ?_
                                      exact qfun_ret rfl rfl (Weak.refl _) rfl
                                    · exact absurd h169 (by rw [drop_fit hl16 hch page]; simp)
                                  · exact absurd h165 (by rw [put_fit hl16 hch m]; simp)
                                · exact absurd h161 (by simp)
                              · exact absurd h156 (by simp)
                            · exact absurd h151 (by rw [encEq]; simp)
                          · exact absurd h146 (by simp)
                        · exact absurd h141 (by simp)
                      · exact absurd h136 (by simp)
                    · exact absurd h131 (by simp)
                  · refine d_pure tok rfl rfl (by dsimp only [putL, List.set]) ?_
                    refine aops_nil ?_
                    refine awp_cond_true rfl ?_
                    refine awp_seq ?_
                    refine awp_region ?_
                    refine d_head rfl (head_call rfl rfl rfl rfl awake_spec) (by dsimp only [putL, List.set]) ?_
                    refine d_pure tok rfl rfl (by dsimp only [putL, List.set]) ?_
                    refine aops_nil ?_
                    refine awp_ret ?_
                    exact qfun_ret rfl rfl (Weak.refl _) rfl

end Go.Proofs.Ytpckfpahmnhfcaa.F
