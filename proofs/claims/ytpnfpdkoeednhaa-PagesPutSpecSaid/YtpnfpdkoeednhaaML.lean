/- Several texts in one: AP7 AP8 AP9. -/
import Derived.Test.YtpnfpdkoeednhaaAP6
import Derived.Test.YtpnfpdkoeednhaaA29
section
/- Pages, plainly: what filling takes in does not hang on the order; versions show what was put so far. -/
namespace Go.Proofs.Ytpnfpdkoeednhaa
open Go.RowKit

end Go.Proofs.Ytpnfpdkoeednhaa

end
section
/- Pages that facts were put into: how many; they lie in no box of empty pages. -/
namespace Go.Proofs.Ytpnfpdkoeednhaa
open Go.RowKit Go.Shelf

theorem own_kindP {w : World} {base k n : Nat} {e : TypeId} {v : Value} {xs : List Value} {g : Nat} (h : w.ownsRow base e k v n xs) (hg : v.ownBlock = some g) : ∃ cs, w.heap[g]? = some (.cells cs e (0, 0)) := by
  rcases h.2 with ⟨e1, _⟩ | ⟨g', cap', cs', hv, _, hh, _⟩
  · rw [e1] at hg; cases hg
  · rw [hv] at hg
    injection hg with hg
    subst hg
    exact ⟨cs', hh⟩
end Go.Proofs.Ytpnfpdkoeednhaa

end
section
/- PagesFacts, plainly (printed by tools/gen145.py; its first part is JP2's). -/
namespace Go.Proofs.Ytpnfpdkoeednhaa
open Go.RowKit

end Go.Proofs.Ytpnfpdkoeednhaa

end

