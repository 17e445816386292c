/- A uint argument's bounds. -/
import Derived.Test.YtpnfpdkoeednhaaPD
namespace Go.Proofs.Ytpnfpdkoeednhaa
open Go.RowKit
theorem u64_wfP {z : Int} (h : (Lit.int .u64 z).wf = true) : 0 ≤ z ∧ z ≤ 18446744073709551615 := by
  simp [Lit.wf, IntKind.min, IntKind.max, IntKind.signed, IntKind.bits] at h
  omega
end Go.Proofs.Ytpnfpdkoeednhaa
