/- Laws of rules, plainly: monotone; all, any, not; the atoms decide. -/
import Derived.Test.YtbmbpannhncpjaaDoorUP0
import Derived.Test.YtbmbpannhncpjaaDoorU12
import Derived.Test.YtbmbpannhncpjaaDoorU13
namespace Go.Proofs.YtbmbpannhncpjaaDoor
open Go.RowKit

theorem cnt_le {a b : Si} : ∀ {l : List Ru}, (∀ y ∈ l, valR a y = true → valR b y = true) → cntR a l ≤ cntR b l
  | [], _ => Nat.le_refl _
  | x :: l, h => by
    have h1 := cnt_le (l := l) fun y hy => h y (by simp [hy])
    have h2 := h x (by simp)
    simp only [cntR]
    cases hx : valR a x
    · simp; omega
    · rw [h2 hx]; simp; omega
theorem cnt_eq {a b : Si} : ∀ {l : List Ru}, (∀ y ∈ l, valR a y = valR b y) → cntR a l = cntR b l
  | [], _ => rfl
  | x :: l, h => by
    simp only [cntR, h x (by simp), cnt_eq (l := l) fun y hy => h y (by simp [hy])]
theorem about_le (B : List Sn) (c : Int) : ∀ l : List Sn, l.all (fun x => leB x (aboutS B x.course)) = true → leB (aboutS l c) (aboutS B c) = true ∨ aboutS l c = ⟨c, 0, -1, false⟩
  | [], _ => .inr rfl
  | x :: l, h => by
    simp only [List.all_cons, Bool.and_eq_true] at h
    have e0 : aboutS (x :: l) c = if x.course = c then x else aboutS l c := rfl
    rw [e0]
    split
    · rename_i e
      subst e
      exact .inl h.1
    · exact about_le B c l h.2
theorem op_cases {x : Ru} (h : formedB x = true) : x.op = 1 ∨ x.op = 2 ∨ x.op = 3 ∨ x.op = 4 ∨ x.op = 5 ∨ x.op = 6 ∨ x.op = 7 ∨ x.op = 8 ∨ x.op = 9 := by
  have := formed_op h; omega
theorem atLeast_mono {an ad bn bd n d : Int} (ha : 0 < ad) (hd : 0 < d) (hb : 0 < bd) (h : an * bd ≤ bn * ad) (h1 : atLeast an ad n d = true) : atLeast bn bd n d = true := by
  simp only [atLeast, decide_eq_true_eq] at *
  have e1 : n * ad * bd ≤ an * d * bd := Int.mul_le_mul_of_nonneg_right h1 (by omega)
  have e2 : an * bd * d ≤ bn * ad * d := Int.mul_le_mul_of_nonneg_right h (by omega)
  have e3 : an * d * bd = an * bd * d := by rw [Int.mul_assoc, Int.mul_comm d bd, ← Int.mul_assoc]
  have e4 : n * ad * bd = n * bd * ad := by rw [Int.mul_assoc, Int.mul_comm ad bd, ← Int.mul_assoc]
  have e5 : bn * ad * d = bn * d * ad := by rw [Int.mul_assoc, Int.mul_comm ad d, ← Int.mul_assoc]
  rw [e4, e3] at e1
  rw [e5] at e2
  exact Int.le_of_mul_le_mul_right (Int.le_trans e1 e2) ha
theorem mono_law {a b : Si} (fa : fitsB a = true) (fb : fitsB b = true) (hm : mostB a b = true) (x : Ru) : allF x = true → negR x = false → valR a x = true → valR b x = true := by
  simp only [mostB, Bool.and_eq_true, decide_eq_true_eq] at hm
  obtain ⟨⟨hm1, hm2⟩, hm3⟩ := hm
  induction x using Ru.ind with
  | h x ih =>
    intro hf hn hv
    have hfo := allF_formed hf
    have hri := formed_right hfo
    have hkids : ∀ y ∈ x.kids, valR a y = true → valR b y = true := fun y hy => by
      obtain ⟨i, hi⟩ := List.mem_iff_getElem?.1 hy
      refine ih y hy (allFL_mem (allF_kids hf) hi) ?_
      rw [negR_eq, Bool.or_eq_false_iff, List.any_eq_false] at hn
      simpa using hn.2 y hy
    have hc := cnt_le hkids
    have hl := cntR_le b x.kids
    have h4 : x.op ≠ 4 := by
      rw [negR_eq, Bool.or_eq_false_iff] at hn
      simpa using hn.1
    rw [valR_eq] at hv ⊢
    have hab := about_le b.seen x.course a.seen hm1
    rcases op_cases hfo with e | e | e | e | e | e | e | e | e
    · simp [holdsK, e] at hv ⊢; omega
    · simp [holdsK, e] at hv ⊢; omega
    · simp [holdsK, e] at hv ⊢; omega
    · exact absurd e h4
    · simp [rightB, e, withinB] at hri
      simp [holdsK, e] at hv ⊢
      rcases hab with h | h
      · simp [leB] at h; omega
      · rw [h] at hv; simp at hv; omega
    · simp [rightB, e, withinB] at hri
      simp [holdsK, e] at hv ⊢
      rcases hab with h | h
      · simp [leB] at h; omega
      · rw [h] at hv; simp at hv; omega
    · simp [holdsK, e] at hv ⊢; omega
    · have h8 := formed_mean hfo e
      simp only [holdsK, e] at hv ⊢
      have b1 := rat_bd h8
      have b2 := rat_bd (fits_mean fa).1
      have b3 := rat_bd (fits_mean fb).1
      exact atLeast_mono (by omega) (by omega) (by omega) hm3 hv
    · simp only [holdsK, e] at hv ⊢
      rcases hab with h | h
      · simp [leB] at h
        simp at hv ⊢
        rcases h.2 with h2 | h2
        · rw [hv] at h2; cases h2
        · exact h2
      · rw [h] at hv; simp at hv
end Go.Proofs.YtbmbpannhncpjaaDoor
