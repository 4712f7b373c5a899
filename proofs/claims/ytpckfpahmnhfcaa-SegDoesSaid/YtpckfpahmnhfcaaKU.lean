/- From what typed data is known to be to what the plain laws ask for. -/
import Derived.Test.YtpckfpahmnhfcaaKT
import Derived.Test.YtpckfpahmnhfcaaKR
namespace Go.Proofs.Ytpckfpahmnhfcaa.K
open Go Go.RowKit Go.Proofs.Ytpckfpahmnhfcaa.G
theorem u64_ge {n : Int} (h : OkI .u64 n) : 0 ≤ n := by
  unfold OkI Lit.wf at h
  simp only [Bool.and_eq_true, decide_eq_true_eq] at h
  exact h.1
theorem thread_lens {t : ThreadD} (h : t.Ok) : t.Lens := ⟨h.Clear.1, h.Alerts.1, h.Labs.e0.1, h.Labs.e1.1, h.Labs.e2.1, h.Labs.e3.1⟩
theorem object_lens {o : ObjectD} (h : o.Ok) : o.Lens := ⟨h.Label.1, h.Links.1, h.Data.1, h.Maps.1, thread_lens h.Thread, ⟨h.Gate.Grant.1, h.Gate.Clear.1⟩, h.In.1, h.Out.1⟩
end Go.Proofs.Ytpckfpahmnhfcaa.K
