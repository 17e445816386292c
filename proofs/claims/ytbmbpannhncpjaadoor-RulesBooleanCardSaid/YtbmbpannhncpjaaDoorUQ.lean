/- A slice of rules as an argument, opened. -/
import Derived.Test.YtbmbpannhncpjaaDoorU22
namespace Go.Proofs.YtbmbpannhncpjaaDoor
open Go.RowKit Go.ChangeShapes Go.WideShapes Go.Deep

section
variable {H : Type} {enc : TypeId × Value → H} {w : World} {base : Nat} {spare : Nat → Bool} {held : Bool}
set_option maxRecDepth 100000 in
theorem open_rules {b0 : Nat} {rr : Reach} {v : Value} {dt : DataW H} {pl : List MemPlace} (hv : Value.okWide Tryd.prog w rr b0 22 v) (h : DataW.Trod enc Tryd.prog w base spare held 22 v dt pl) (hw : Light Tryd.prog 22 dt) :
    ∃ (hh : Nat) (A : Option Addr) (n c : Nat) (l : List Ru), v = .slice A n c ∧ ruSl hh w w.heap.size A n c l := by
  obtain ⟨A, n, c, l, e, hrow, _⟩ := open_arg (r := ruEx) (k := 6) Tryd.underlying22 (by kernel_rfl) (by decide) (fun fuel' cs' y hy hly => ru_el _ fuel' cs' y (Nat.le_refl _) hy hly) hv h hw
  obtain ⟨hh, hrow'⟩ := rows_ex hrow
  exact ⟨hh, A, n, c, l, e, hrow'⟩
end
end Go.Proofs.YtbmbpannhncpjaaDoor
