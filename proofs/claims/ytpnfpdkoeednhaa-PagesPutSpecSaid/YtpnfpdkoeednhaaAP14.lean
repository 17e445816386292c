/- Small facts about integers and lists. -/
import Derived.Test.YtpnfpdkoeednhaaML
import Derived.Test.YtpnfpdkoeednhaaMJ
namespace Go.Proofs.Ytpnfpdkoeednhaa
open Go.RowKit

theorem own_emptyP (w : World) (base k : Nat) (e : TypeId) (hb : base ≤ w.heap.size) : (w.alloc (.cells #[] e)).ownsRow base e k (.slice (some ⟨w.heap.size, 0, none⟩) 0 0) 0 [] :=
  ⟨by simp, .inr ⟨w.heap.size, 0, #[], rfl, hb, World.alloc_heap_new _ _, Nat.le_refl _, by decide, by simp, by simp⟩⟩
end Go.Proofs.Ytpnfpdkoeednhaa

