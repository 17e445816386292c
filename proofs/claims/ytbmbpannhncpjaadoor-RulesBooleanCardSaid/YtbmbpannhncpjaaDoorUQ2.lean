/- A byte as an argument. -/
import Derived.Test.YtbmbpannhncpjaaDoorUQ
namespace Go.Proofs.YtbmbpannhncpjaaDoor
open Go.RowKit

theorem u8_wf {z : Int} (h : (Lit.int .u8 z).wf = true) : 0 ≤ z ∧ z ≤ 255 := by
  simp [Lit.wf, IntKind.min, IntKind.max, IntKind.signed, IntKind.bits] at h
  omega
end Go.Proofs.YtbmbpannhncpjaaDoor
