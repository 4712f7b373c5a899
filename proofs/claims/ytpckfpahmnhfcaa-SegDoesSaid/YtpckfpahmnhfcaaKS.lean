/- Package slices' generic functions, told of plain lists. -/
import Derived.Test.YtpckfpahmnhfcaaG26
import Derived.Test.YtpckfpahmnhfcaaKD
import Derived.Test.YtpckfpahmnhfcaaS1
import Derived.Test.YtpckfpahmnhfcaaS2
namespace Go.Proofs.Ytpckfpahmnhfcaa.K
open Go Go.RowKit Go.Proofs.Ytpckfpahmnhfcaa.G Go.Proofs.Ytpckfpahmnhfcaa.F
set_option linter.unusedVariables false
theorem clone_u64_o {L r : List Int} (h : cloneL 8 L = some r) : OCall Try.prog 106 [.list (List.map (encI .u64) L)] (List.map (encI .u64) r) 1 23 := by
  obtain ⟨h1, rfl⟩ := cloneL_spec h
  exact clone_word_spec _ (all_len' (enc := (encI .u64)) (n := 1) (fun _ => rfl) _) (all_sc' (enc := (encI .u64)) (fun _ => rfl) _) (flat_under (fun _ => rfl) _ _) (by simpa using h1)
theorem clone_u64_p {L r : List Int} (h : cloneL 8 L = some r) : PCall Try.prog 106 [.list (List.map (encI .u64) L)] (.list (List.map (encI .u64) r)) := pcall_of_ocall (clone_u64_o h) (flat_under (fun _ => rfl) _ _)
theorem clone_pair_o {L r : List PairD} (h : cloneL 16 L = some r) : OCall Try.prog 108 [.list (List.map encPairD L)] (List.map encPairD r) 2 111 := by
  obtain ⟨h1, rfl⟩ := cloneL_spec h
  exact clone_pair_spec _ (all_len' (enc := encPairD) (n := 2) (fun _ => rfl) _) (all_sc' (enc := encPairD) (fun _ => rfl) _) (flat_under (fun _ => rfl) _ _) (by simpa using h1)
theorem clone_pair_p {L r : List PairD} (h : cloneL 16 L = some r) : PCall Try.prog 108 [.list (List.map encPairD L)] (.list (List.map encPairD r)) := pcall_of_ocall (clone_pair_o h) (flat_under (fun _ => rfl) _ _)
theorem clone_obj_o {L r : List ObjectD} (h : cloneL 632 L = some r) : OCall Try.prog 140 [.list (List.map encObjectD L)] (List.map encObjectD r) 51 57 := by
  obtain ⟨h1, rfl⟩ := cloneL_spec h
  exact clone_obj_spec _ (all_len' (enc := encObjectD) (n := 51) (fun _ => rfl) _) (all_sc' (enc := encObjectD) (fun _ => rfl) _) (flat_under (fun _ => rfl) _ _) (by simpa using h1)
end Go.Proofs.Ytpckfpahmnhfcaa.K
