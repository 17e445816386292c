/- Laws of rules, plainly: valid rules, all whose parts are right. -/
import Derived.Test.YtbmbpannhncpjaaDoorU0
namespace Go.Proofs.YtbmbpannhncpjaaDoor
open Go.RowKit

mutual
def allF : Ru → Bool
  | .mk op c nm n d A k m ks => formedB (.mk op c nm n d A k m ks) && allFL ks
def allFL : List Ru → Bool
  | [] => true
  | x :: l => allF x && allFL l
end
theorem allF_eq (x : Ru) : allF x = (formedB x && allFL x.kids) := by cases x; rfl
theorem allFL_all (l : List Ru) : allFL l = l.all allF := by
  induction l with
  | nil => rfl
  | cons x l ih => simp [allFL, ih]
theorem allFL_mem {l : List Ru} {x : Ru} {i : Nat} (h : allFL l = true) (hi : l[i]? = some x) : allF x = true := by
  rw [allFL_all, List.all_eq_true] at h
  exact h x (List.mem_of_getElem? hi)
/-- Induction over rules. -/
theorem Ru.ind {p : Ru → Prop} (h : ∀ x, (∀ y ∈ x.kids, p y) → p x) : ∀ x, p x
  | .mk op c nm n d A k m ks => h _ (go ks)
where go : ∀ (l : List Ru), ∀ y ∈ l, p y
  | [], _, hy => by simp at hy
  | x :: l, y, hy => by
    rcases List.mem_cons.1 hy with e | hy
    · exact e ▸ Ru.ind h x
    · exact go l y hy
theorem partsL_mem {dep : Int} {l : List Ru} {y : DRu} : y ∈ partsL dep l ↔ ∃ x ∈ l, y ∈ partsD dep x := by
  induction l with
  | nil => simp [partsL]
  | cons x l ih => simp [partsL, ih]
theorem allF_of (x : Ru) : ∀ dep, (∀ y ∈ partsD dep x, formedB y.2 = true) → allF x = true := by
  induction x using Ru.ind with
  | h x ih =>
    intro dep h
    rw [allF_eq, allFL_all, Bool.and_eq_true, List.all_eq_true]
    refine ⟨h (dep, x) (by rw [partsD_eq]; simp), fun y hy => ih y hy (wrap64 (dep + 1)) fun z hz => h z ?_⟩
    rw [partsD_eq]
    exact List.mem_cons_of_mem _ (partsL_mem.2 ⟨y, hy, hz⟩)
theorem checkU_iff : ∀ (k : Nat) (l : List DRu), checkL k l = true ↔ (l ≠ [] → k + l.length ≤ 200) ∧ ∀ y ∈ l, y.1 ≤ 16 ∧ formedB y.2 = true
  | k, [] => by simp [checkL]
  | k, x :: l => by
    rw [checkL, Bool.and_eq_true, checkU_iff (k + 1) l]
    simp only [Bool.and_eq_true, decide_eq_true_eq, List.mem_cons, List.length_cons]
    constructor
    · rintro ⟨⟨⟨h1, h2⟩, h3⟩, h4, h5⟩
      refine ⟨fun _ => ?_, fun y hy => ?_⟩
      · rcases l with _ | ⟨z, l⟩
        · simp; omega
        · have := h4 (by simp)
          simp at this ⊢; omega
      · rcases hy with rfl | hy
        · exact ⟨h2, h3⟩
        · exact h5 y hy
    · rintro ⟨h1, h2⟩
      have := h1 (by simp)
      exact ⟨⟨⟨by omega, (h2 x (.inl rfl)).1⟩, (h2 x (.inl rfl)).2⟩, fun _ => by omega, fun y hy => h2 y (.inr hy)⟩
theorem allF_of_check {x : Ru} (h : checkB x = true) : allF x = true := allF_of x 1 fun y hy => ((checkU_iff 0 _).1 h).2 y hy |>.2
theorem allF_formed {x : Ru} (h : allF x = true) : formedB x = true := by rw [allF_eq, Bool.and_eq_true] at h; exact h.1
theorem allF_kids {x : Ru} (h : allF x = true) : allFL x.kids = true := by rw [allF_eq, Bool.and_eq_true] at h; exact h.2
theorem formed_op {x : Ru} (h : formedB x = true) : 1 ≤ x.op ∧ x.op ≤ 9 := by
  simp only [formedB, withinB, Bool.and_eq_true, decide_eq_true_eq] at h
  exact h.1.1.1.1.1
theorem formed_right {x : Ru} (h : formedB x = true) : rightB x.op x.course x.n x.d x.kids.length = true := by
  simp only [formedB, Bool.and_eq_true] at h
  exact h.2
theorem formed_mean {x : Ru} (h : formedB x = true) (h8 : x.op = 8) : ratB x.n x.d = true := by
  have := formed_right h
  simp [rightB, h8, meanB] at this
  exact this.1.1
theorem fits_mean {s : Si} (h : fitsB s = true) : ratB s.num s.den = true ∧ 0 ≤ s.num := by
  simp only [fitsB, meanB, Bool.and_eq_true, decide_eq_true_eq] at h
  exact ⟨h.2.1.1, h.2.1.2⟩
end Go.Proofs.YtbmbpannhncpjaaDoor
