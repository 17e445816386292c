/- A struct of integers that is an argument, opened. -/
import Derived.Test.YtoalmffhiinbbaaDoor
namespace Go.Proofs.Ytoalmffhiinbbaa
open Go.RowKit Go.ChangeShapes Go.WideShapes Go.Deep
theorem open_flat {H : Type} {enc : TypeId × Value → H} {P : Program} {w : World} {base : Nat} {spare : Nat → Bool} {held : Bool} {α : Type} {en : α → List Value} {k : Nat} {t : TypeId} {fs : Array Field} {r : Reach} {b0 d : Nat} {v : Value} {dt : DataW H} {pl : List MemPlace}
    (dec : List Int → α) (ht : P.underlying t = some (.struct fs)) (hfl : flatInt P d t = true) (hC : P.cellsOf t = k) (hdec : ∀ z : List Int, z.length = k → en (dec z) = z.map (.int .i64)) (hv : Value.okWide P w r b0 t v) (h : DataW.Trod enc P w base spare held t v dt pl) :
    ∃ x, v = .agg (en x).toArray ∧ ∃ z : List Int, x = dec z ∧ z.length = k ∧ ∀ y ∈ z, wf64 y := by
  obtain ⟨cs, rfl, hs⟩ := okWide_struct ht hv
  obtain ⟨fuel, hf⟩ := h
  obtain ⟨hl, hints⟩ := flat_cells d t fuel _ _ hfl hf
  obtain ⟨zs, hz, hwf⟩ := ints_of _ hints
  simp only [Value.cells] at hz hl
  have hzl : zs.length = k := by
    have := congrArg List.length hz
    simp at this hl
    omega
  refine ⟨dec zs, ?_, zs, rfl, hzl, hwf⟩
  rw [hdec zs hzl, ← hz]
end Go.Proofs.Ytoalmffhiinbbaa
