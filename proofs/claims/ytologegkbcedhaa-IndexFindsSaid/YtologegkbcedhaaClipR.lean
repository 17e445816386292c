/- 'append(slices.Clip(l), s...)', s empty or not, as rows. Over any program. -/
import Derived.Test.YtologegkbcedhaaClip
namespace Go.Proofs.Ytologegkbcedhaa
open Go.RowKit

theorem run_append_none {P : Program} {w : World} {t ty e : TypeId} {i : TypeInfo} {A A' : Option Addr} {n c c' : Nat} (ht : P.underlying t = some (.slice e)) (hi : P.info? e = some i) (hA : A = none → n = 0) (hc : n ≤ c) :
    (Builtin.append_ #[t, t] ty #[.slice A n c, .slice A' 0 c']).run P w = .ok (.slice A n c) w := by
  have hld : ∀ a : Addr, (loadCells a 0).run P w = .ok #[] w := fun a => by simp [loadCells, loadCellsFrom]
  rcases A with _ | a
  · obtain rfl := hA rfl
    cases A' <;> simp [Builtin.append_, run_underlying ht, sizeOf, typeInfo, hi, Builtin.lenOf, Builtin.firstCells, hc, hld]
  · cases A' <;> simp [Builtin.append_, run_underlying ht, sizeOf, typeInfo, hi, Builtin.lenOf, Builtin.firstCells, storeCells, hc, hld]

theorem run_append_clipR {α : Type} {k : Nat} {e : TypeId} {enc : α → List Value} {w : World} {P : Program} {t ty : TypeId} {i : TypeInfo} {z : Value} {bytes n₀ n₁ n m c c' : Nat} {A A' : Option Addr} {l s : List α} (ht : P.underlying t = some (.slice e)) (hi : P.info? e = some i) (hz : i.zero = some z) (hsize : i.size = k) (hby : i.bytes = bytes) (hzs : z.cells.size = k)
    (hk : ∀ x, (enc x).length = k) (h0 : 0 < k) (h1 : ∀ x, ∀ u ∈ enc x, u.oneCell' = true) (hl : Rows k (Rep.flat enc) w n₀ A n c l) (hn₀ : n₀ ≤ w.heap.size) (hs : Rows k (Rep.flat enc) w n₁ A' m c' s)
    (hn : (n + m) * bytes ≤ 140737488355328) (hnm : n + m ≤ 9223372036854775807) :
    ∃ A2 c2 w', (Builtin.append_ #[t, t] ty #[.slice A n n, .slice A' m c']).run P w = .ok (.slice A2 (n + m) c2) w' ∧ Rows k (Rep.flat enc) w' w'.heap.size A2 (n + m) c2 (l ++ s) ∧ Below w.heap.size w w' := by
  rcases Nat.eq_zero_or_pos m with hm | hm
  · subst hm
    have hs0 : s = [] := List.eq_nil_of_length_eq_zero hs.1.symm
    subst hs0
    refine ⟨A, n, w, run_append_none ht hi (fun hA => ?_) (Nat.le_refl _), ?_, Below.refl _ _⟩
    · rcases Nat.eq_zero_or_pos n with h | h
      · exact h
      · obtain ⟨_, _, he, _⟩ := hl.2.2.2 h
        rw [hA] at he; cases he
    · rw [List.append_nil]
      have := hl.keep (Rep.flat_stable enc) hn₀ (fun _ _ => rfl)
      exact ⟨this.1, Nat.le_refl _, by have := hl.2.1; have := hl.2.2.1; omega, this.2.2.2⟩
  · obtain ⟨v', w', hrun, hown, hb⟩ := run_append_clip (P := P) (ty := ty) ht hi hz hsize hby hzs hk h0 h1 hl hs hm hn hnm
    obtain ⟨A2, c2, rfl, hr⟩ := own_rows hk h0 hown
    exact ⟨A2, c2, w', hrun, hr, hb⟩
end Go.Proofs.Ytologegkbcedhaa
