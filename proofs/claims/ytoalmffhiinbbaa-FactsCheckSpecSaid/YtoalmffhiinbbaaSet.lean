/- One cell of an element of an own slice turned. Over any program. -/
import Derived.Test.YtoalmffhiinbbaaPut
namespace Go.Proofs.Ytoalmffhiinbbaa
open Go.RowKit
section
variable {α : Type} {enc : α → List Value} {k : Nat}
theorem flat_set_cell (hk : ∀ x, (enc x).length = k) {x x' : α} {j : Nat} {u : Value} (hj : j < k) (he : enc x' = (enc x).set j u) : ∀ (M : List α) (i : Nat), M[i]? = some x → (M.set i x').flatMap enc = (M.flatMap enc).set (i * k + j) u
  | [], i, h => by simp at h
  | y :: M, 0, h => by
    simp at h
    subst h
    simp only [List.set_cons_zero, List.flatMap_cons, Nat.zero_mul, Nat.zero_add]
    rw [List.set_append_left _ _ (by rw [hk]; exact hj), he]
  | y :: M, i + 1, h => by
    have ih := flat_set_cell hk hj he M i (by simpa using h)
    simp only [List.set_cons_succ, List.flatMap_cons]
    rw [ih, List.set_append_right _ _ (by rw [hk, Nat.add_mul]; omega), hk]
    congr 2
    rw [Nat.add_mul]; omega
theorem own_set {w : World} {base n cap g i j : Nat} {e : TypeId} {M : List α} {x x' : α} {u : Value} (hk : ∀ x, (enc x).length = k) (h : w.ownsRow base e k (.slice (some ⟨g, 0, none⟩) n cap) n (M.flatMap enc)) (h0 : 0 < k) (hx : M[i]? = some x) (hj : j < k) (he : enc x' = (enc x).set j u) :
    (w.setCell ⟨g, i * k + j, none⟩ u).ownsRow base e k (.slice (some ⟨g, 0, none⟩) n cap) n ((M.set i x').flatMap enc) := by
  have hlen := own_len hk h0 h
  have hi : i < M.length := (List.getElem?_eq_some_iff.1 hx).1
  obtain ⟨h1, h2⟩ := h
  rcases h2 with ⟨h2, _⟩ | ⟨g', cap', cs, hv, hg, hh, hnc, hcm, hsz, ht⟩
  · cases h2
  · injection hv with e1 e2 e3
    injection e1 with e1
    injection e1 with e1
    subst e1 e3
    refine ⟨by rw [flat_len hk, List.length_set, ← hlen], .inr ⟨g, cap, cs.setIfInBounds (i * k + j) u, rfl, hg, ?_, hnc, hcm, by simpa using hsz, ?_⟩⟩
    · simp [World.setCell, Array.getElem?_modify, hh]
    · have hik : i * k + k ≤ n * k := by
        have := Nat.mul_le_mul_right k (show i + 1 ≤ n by omega)
        rwa [Nat.add_mul, Nat.one_mul] at this
      rw [flat_set_cell hk hj he M i hx, ← ht, Array.toList_setIfInBounds, List.take_set]
end
end Go.Proofs.Ytoalmffhiinbbaa
