/- Laws of rules, plainly: the atoms decide (RulesAtoms). -/
import Derived.Test.YtbmbpannhncpjaaDoorUP1
import Derived.Test.YtbmbpannhncpjaaDoorU18
namespace Go.Proofs.YtbmbpannhncpjaaDoor
open Go.RowKit

theorem addKey_mem2 {α : Type} [DecidableEq α] (ks : List α) (a k : α) : k ∈ addKey ks a ↔ k ∈ ks ∨ k = a := by
  unfold addKey
  split
  · exact ⟨.inl, fun h => h.elim id (fun e => by subst e; assumption)⟩
  · simp
theorem atSet_mem (l : List DRu) (k : At) : k ∈ atSet l ↔ ∃ y ∈ l, withinB y.2.op 5 9 = true ∧ atK y = k := by
  have : ∀ (l : List DRu) (a : List At), k ∈ l.foldl atAdd a ↔ k ∈ a ∨ ∃ y ∈ l, withinB y.2.op 5 9 = true ∧ atK y = k := by
    intro l
    induction l with
    | nil => simp
    | cons x l ih =>
      intro a
      rw [List.foldl_cons, ih]
      unfold atAdd
      split
      · rename_i h
        rw [addKey_mem2]
        constructor
        · rintro ((h1 | h1) | ⟨y, hy, h2⟩)
          · exact .inl h1
          · exact .inr ⟨x, by simp, h, h1.symm⟩
          · exact .inr ⟨y, by simp [hy], h2⟩
        · rintro (h1 | ⟨y, hy, h2, h3⟩)
          · exact .inl (.inl h1)
          · rcases List.mem_cons.1 hy with rfl | hy
            · exact .inl (.inr h3.symm)
            · exact .inr ⟨y, hy, h2, h3⟩
      · rename_i h
        constructor
        · rintro (h1 | ⟨y, hy, h2⟩)
          · exact .inl h1
          · exact .inr ⟨y, by simp [hy], h2⟩
        · rintro (h1 | ⟨y, hy, h2, h3⟩)
          · exact .inl h1
          · rcases List.mem_cons.1 hy with rfl | hy
            · exact absurd h2 h
            · exact .inr ⟨y, hy, h2, h3⟩
  simpa [atSet] using this l []
/-- What an atom says does not look at its kids nor at its name. -/
theorem valR_atom (s : Si) (x : Ru) (h : withinB x.op 5 9 = true) : valR s x = valR s (atR ⟨x.op, x.course, x.n, x.d⟩) := by
  rw [valR_eq, valR_eq]
  simp only [withinB, Bool.and_eq_true, decide_eq_true_eq] at h
  have h1 : x.op ≠ 1 := by omega
  have h2 : x.op ≠ 2 := by omega
  have h3 : x.op ≠ 3 := by omega
  have h4 : x.op ≠ 4 := by omega
  show holdsK s x.op x.course x.n x.d _ _ = holdsK s x.op x.course x.n x.d _ _
  simp only [holdsK, h1, h2, h3, h4, if_false]
theorem atoms_law {a b : Si} (x : Ru) : ∀ dep, allF x = true → (∀ y ∈ partsD dep x, withinB y.2.op 5 9 = true → valR a (atR (atK y)) = valR b (atR (atK y))) → valR a x = valR b x := by
  induction x using Ru.ind with
  | h x ih =>
    intro dep hf hm
    by_cases h59 : withinB x.op 5 9 = true
    · rw [valR_atom a x h59, valR_atom b x h59]
      exact hm (dep, x) (by rw [partsD_eq]; simp) h59
    · have hkids : ∀ y ∈ x.kids, valR a y = valR b y := fun y hy => by
        obtain ⟨i, hi⟩ := List.mem_iff_getElem?.1 hy
        refine ih y hy (wrap64 (dep + 1)) (allFL_mem (allF_kids hf) hi) fun z hz h => ?_
        refine hm z ?_ h
        rw [partsD_eq]
        exact List.mem_cons_of_mem _ (partsL_mem.2 ⟨y, hy, hz⟩)
      have hc := cnt_eq hkids
      rw [valR_eq, valR_eq, hc]
      have hfo := allF_formed hf
      rcases op_cases hfo with e | e | e | e | e | e | e | e | e
      · simp [holdsK, e]
      · simp [holdsK, e]
      · simp [holdsK, e]
      · simp [holdsK, e]
      all_goals exact absurd (by rw [e]; decide) h59
/-- An atom of a valid rule is a valid rule. -/
theorem atom_check {x : Ru} (hx : checkB x = true) {k : At} (hk : k ∈ atSet (partsD 1 x)) : checkB (atR k) = true := by
  obtain ⟨y, hy, h59, rfl⟩ := (atSet_mem _ _).1 hk
  have hf : formedB y.2 = true := ((checkU_iff 0 _).1 hx).2 y hy |>.2
  have e : partsD 1 (atR (atK y)) = [(1, atR (atK y))] := rfl
  unfold checkB
  rw [e, checkU_iff]
  refine ⟨fun _ => by simp, fun z hz => ?_⟩
  obtain rfl := List.mem_singleton.1 hz
  refine ⟨by show (1 : Int) ≤ 16; decide, ?_⟩
  have hk0 : y.2.kids.length = 0 := by
    simp only [formedB, Bool.and_eq_true, Bool.or_eq_true, decide_eq_true_eq] at hf
    rcases hf.1.2 with h | h
    · exfalso
      simp only [withinB, Bool.and_eq_true, decide_eq_true_eq] at h59
      simp [useK] at h
      omega
    · exact h
  have : formedB (atR (atK y)) = formedB y.2 := by
    simp only [formedB, hk0]
    rfl
  rw [this]; exact hf
theorem parts_len {x : Ru} (hx : checkB x = true) : (partsD 1 x).length ≤ 200 := by
  have := ((checkU_iff 0 _).1 hx).1 (by rw [partsD_eq]; simp)
  omega
end Go.Proofs.YtbmbpannhncpjaaDoor
