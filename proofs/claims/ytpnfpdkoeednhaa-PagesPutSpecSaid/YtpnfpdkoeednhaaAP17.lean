/- PagesGrow, plainly. -/
import Derived.Test.YtpnfpdkoeednhaaAP16
namespace Go.Proofs.Ytpnfpdkoeednhaa
open Go.RowKit

theorem good_lvG {ps : List Pv} {p d : Nat} (h : GoodR ps p d) : walkP ps p true [] = some (allT ps p, d) ∧ d ≤ p + 1 := by
  have hw : walkP ps p true [] = some (allT ps p, d) := walkP_iff.2 ⟨h.1, rfl, ChainP.of_none.2 ⟨h.2.1, h.2.2⟩⟩
  exact ⟨hw, walkP_lv ps (p + 1) p true [] (allT ps p) d (by omega) hw⟩
end Go.Proofs.Ytpnfpdkoeednhaa

