/- Laws of rules, plainly: the reference checks as the program does, where parts are few. -/
import Derived.Test.YtbmbpannhncpjaaDoorUP1
import Derived.Test.YtbmbpannhncpjaaDoorV4
namespace Go.Proofs.YtbmbpannhncpjaaDoor
open Go.RowKit

/-- So many parts at most: no sum passes 64 bits. -/
def manyP : Nat := 1152921504606846976
theorem partsL_lenD : ∀ {l : List Ru}, (∀ y ∈ l, ∀ d d', (partsD d y).length = (partsD d' y).length) → ∀ d d', (partsL d l).length = (partsL d' l).length
  | [], _, _, _ => rfl
  | x :: l, h, d, d' => by
    simp only [partsL, List.length_append]
    rw [h x (by simp) d d', partsL_lenD (fun y hy => h y (by simp [hy])) d d']
theorem parts_lenD (x : Ru) : ∀ d d', (partsD d x).length = (partsD d' x).length := by
  induction x using Ru.ind with
  | h x ih =>
    intro d d'
    rw [partsD_eq, partsD_eq, List.length_cons, List.length_cons, partsL_lenD ih (wrap64 (d + 1)) (wrap64 (d' + 1))]
theorem parL_len : ∀ {l : List Ru} {m : Int}, (∀ y ∈ l, (partsD 1 y).length ≤ manyP → parW y = (partsD 1 y).length) → 0 ≤ m → m + (partsL 1 l).length ≤ manyP → parL m l = m + (partsL 1 l).length
  | [], m, _, _, _ => by simp [parL, partsL]
  | x :: l, m, h, h0, hm => by
    have e : ((partsL 1 (x :: l)).length : Int) = (partsD 1 x).length + (partsL 1 l).length := by simp [partsL]
    rw [e] at hm
    have hx := h x (by simp) (by omega)
    have hw : wrap64 (m + parW x) = m + (partsD 1 x).length := by
      rw [hx]; exact IntWalk.wrap64_in _ (by unfold manyP at hm; omega)
    rw [parL, hw, parL_len (fun y hy => h y (by simp [hy])) (by omega) (by omega), e]
    omega
theorem parW_len (x : Ru) : (partsD 1 x).length ≤ manyP → parW x = (partsD 1 x).length := by
  induction x using Ru.ind with
  | h x ih =>
    intro hx
    rw [partsD_eq, List.length_cons] at hx
    have e := partsL_lenD (l := x.kids) (fun y _ => parts_lenD y) (wrap64 (1 + 1)) 1
    rw [e] at hx
    rw [parW_eq, parL_len ih (by omega) (by omega), partsD_eq, List.length_cons, e]
    omega
theorem depL_le : ∀ (l : List Ru) (m z : Int), depL m l ≤ z ↔ m ≤ z ∧ ∀ y ∈ l, depW y ≤ z
  | [], m, z => by simp [depL]
  | x :: l, m, z => by
    rw [depL, depL_le l]
    simp only [List.mem_cons, forall_eq_or_imp]
    rw [Int.max_le, and_assoc]
theorem depL_bd : ∀ {l : List Ru} {m : Int}, (∀ y ∈ l, (partsD 1 y).length ≤ manyP → 1 ≤ depW y ∧ depW y ≤ (partsD 1 y).length) → 0 ≤ m → m ≤ manyP → (partsL 1 l).length ≤ manyP → 0 ≤ depL m l ∧ depL m l ≤ max m (partsL 1 l).length
  | [], m, _, _, _, _ => by simp [depL]; omega
  | x :: l, m, h, h0, hm, hl => by
    have e : (partsL 1 (x :: l)).length = (partsD 1 x).length + (partsL 1 l).length := by simp [partsL]
    have hx := h x (by simp) (by omega)
    have hr := depL_bd (l := l) (m := max m (depW x)) (fun y hy => h y (by simp [hy])) (by omega) (by omega) (by omega)
    rw [depL, e]
    omega
theorem depW_bd (x : Ru) : (partsD 1 x).length ≤ manyP → 1 ≤ depW x ∧ depW x ≤ (partsD 1 x).length ∧ depW x = depL 0 x.kids + 1 := by
  induction x using Ru.ind with
  | h x ih =>
    intro hx
    have e := partsL_lenD (l := x.kids) (fun y _ => parts_lenD y) (wrap64 (1 + 1)) 1
    rw [partsD_eq, List.length_cons, e] at hx
    have hb := depL_bd (l := x.kids) (m := 0) (fun y hy hly => ⟨(ih y hy hly).1, (ih y hy hly).2.1⟩) (by omega) (by omega) (by omega)
    have hw : depW x = depL 0 x.kids + 1 := by
      rw [depW_eq]; exact IntWalk.wrap64_in _ (by unfold manyP at hx; omega)
    rw [partsD_eq, List.length_cons, e, hw]
    refine ⟨by omega, ?_, rfl⟩
    omega
theorem dep_all (x : Ru) : ∀ (d N : Int), 0 ≤ d → d + (partsD 1 x).length ≤ manyP → ((∀ y ∈ partsD d x, y.1 ≤ N) ↔ d + depW x - 1 ≤ N) := by
  induction x using Ru.ind with
  | h x ih =>
    intro d N hd hl
    have hdw := depW_bd x (by omega)
    have e := partsL_lenD (l := x.kids) (fun y _ => parts_lenD y) (wrap64 (1 + 1)) 1
    have hlx : (partsD 1 x).length = (partsL 1 x.kids).length + 1 := by rw [partsD_eq, List.length_cons, e]
    have hw : wrap64 (d + 1) = d + 1 := IntWalk.wrap64_in _ (by unfold manyP at hl; omega)
    have hmem : ∀ k ∈ x.kids, (partsD 1 k).length ≤ (partsL 1 x.kids).length := by
      intro k hk
      obtain ⟨i, hi⟩ := List.mem_iff_getElem?.1 hk
      rw [partsL_split hi]
      simp only [List.length_append]
      omega
    rw [partsD_eq, hw, hdw.2.2]
    have h1 : (∀ y ∈ partsL (d + 1) x.kids, y.1 ≤ N) ↔ ∀ k ∈ x.kids, d + 1 + depW k - 1 ≤ N := by
      constructor
      · intro h k hk
        exact (ih k hk (d + 1) N (by omega) (by have := hmem k hk; omega)).1 fun y hy => h y (partsL_mem.2 ⟨k, hk, hy⟩)
      · intro h y hy
        obtain ⟨k, hk, hy⟩ := partsL_mem.1 hy
        exact (ih k hk (d + 1) N (by omega) (by have := hmem k hk; omega)).2 (h k hk) y hy
    simp only [List.mem_cons, forall_eq_or_imp]
    rw [h1]
    have h2 := depL_le x.kids 0 (N - d)
    constructor
    · rintro ⟨a, b⟩
      have := h2.2 ⟨by omega, fun y hy => by have := b y hy; omega⟩
      omega
    · intro h
      obtain ⟨a, b⟩ := h2.1 (by omega)
      exact ⟨by omega, fun k hk => by have := b k hk; omega⟩
theorem allF_parts (x : Ru) : ∀ d, allF x = true → ∀ y ∈ partsD d x, formedB y.2 = true := by
  induction x using Ru.ind with
  | h x ih =>
    intro d hf y hy
    rw [partsD_eq] at hy
    rcases List.mem_cons.1 hy with rfl | hy
    · exact allF_formed hf
    · obtain ⟨k, hk, hy⟩ := partsL_mem.1 hy
      obtain ⟨i, hi⟩ := List.mem_iff_getElem?.1 hk
      exact ih k hk _ (allFL_mem (allF_kids hf) hi) y hy
theorem check_eq (x : Ru) (h : (partsD 1 x).length ≤ 1048576) : checkR x = checkB x := by
  have hp := parW_len x (by unfold manyP; omega)
  have hd := dep_all x 1 16 (by omega) (by unfold manyP; omega)
  rw [Bool.eq_iff_iff, checkB, checkU_iff]
  simp only [checkR, Bool.and_eq_true, decide_eq_true_eq, hp]
  constructor
  · rintro ⟨⟨h1, h2⟩, h3⟩
    refine ⟨fun _ => by omega, fun y hy => ⟨hd.2 (by omega) y hy, allF_parts x 1 h3 y hy⟩⟩
  · rintro ⟨h1, h2⟩
    have h4 := h1 (by rw [partsD_eq]; simp)
    have h5 := hd.1 fun y hy => (h2 y hy).1
    exact ⟨⟨by omega, by omega⟩, allF_of x 1 fun y hy => (h2 y hy).2⟩
end Go.Proofs.YtbmbpannhncpjaaDoor
