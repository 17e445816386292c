import Derived.Test.YtefjigjjanjlkaaT13
namespace Go.Proofs.Ytefjigjjanjlkaa
open Go.RowKit Go.Shelf

theorem ovP_symm (x y : Mt) : Mt.ovP (x, y) = Mt.ovP (y, x) := by
  rw [Bool.eq_iff_iff]
  simp [Mt.ovP]
  omega
theorem clashB_symm (a b : List Mt) : clashB a b = clashB b a := by
  rw [Bool.eq_iff_iff]
  simp only [clashB, List.any_eq_true]
  constructor
  · rintro ⟨x, hx, y, hy, h⟩; exact ⟨y, hy, x, hx, by rw [ovP_symm]; exact h⟩
  · rintro ⟨x, hx, y, hy, h⟩; exact ⟨y, hy, x, hx, by rw [ovP_symm]; exact h⟩
theorem clashE_symm (a b : List Mt) : clashE a b = clashE b a := by
  rcases checkM_cases a with h | ⟨h, _⟩ <;> rcases checkM_cases b with h' | ⟨h', _⟩ <;> simp [clashE, h, h']
theorem clashR_symm (a b : List Mt) : clashR a b = clashR b a := by rw [clashR, clashR, clashB_symm, clashE_symm]
theorem clashE_self (a : List Mt) : clashE a a = checkM a := by
  unfold clashE; split <;> simp [*]
theorem clashR_self (a : List Mt) (h : checkM a = 0) : clashR a a = decide (0 < a.length) := by
  rcases checkM_cases a with h' | ⟨_, _, hall, _⟩
  · omega
  · rw [clashR, clashE_self, h]
    cases a with
    | nil => rfl
    | cons m l =>
      have hm := (List.all_eq_true.1 hall) m (by simp)
      obtain ⟨_, _, h1, h2, h3, h4, h5, h6⟩ := m.ok_iff.1 hm
      have : clashB (m :: l) (m :: l) = true := by
        rw [clashB, List.any_eq_true]
        refine ⟨m, by simp, ?_⟩
        rw [List.any_eq_true]
        exact ⟨m, by simp, by simp [Mt.ovP]; omega⟩
      simp [this]

set_option maxRecDepth 100000 in
set_option maxHeartbeats 1000000 in
/-- 'few' of two lists. -/
theorem few2 (A B : Option Addr) (n m ca cb : Nat) (w : World) (hn : n ≤ 9223372036854775807) (hm : m ≤ 9223372036854775807) :
    Calls Try.prog 10 #[.slice (some ⟨w.heap.size, 0, none⟩) 2 2] (w.alloc (.cells #[.slice A n ca, .slice B m cb] 22)) fun e w' => e = .returned (.bool (decide (n ≤ 20) && decide (m ≤ 20))) ∧ Below w.heap.size w w' := by
  have hnew := World.alloc_heap_new w (.cells #[.slice A n ca, .slice B m cb] 22)
  refine (few_any (some ⟨w.heap.size, 0, none⟩) 2 2 [n, m] _ ⟨rfl, Nat.le_refl _, by decide, fun _ => ⟨w.heap.size, 0, rfl, by simp, fun i x hi => ?_⟩⟩).mono ?_
  · match i, hi with
    | 0, h => simp at h; subst h; exact ⟨_, ⟨hn, A, ca, rfl⟩, fun j u hj => by rw [cell_of_heap hnew]; match j, hj with | 0, h => simpa using h⟩
    | 1, h => simp at h; subst h; exact ⟨_, ⟨hm, B, cb, rfl⟩, fun j u hj => by rw [cell_of_heap hnew]; match j, hj with | 0, h => simpa using h⟩
  · rintro e w' ⟨rfl, hb⟩
    exact ⟨by simp, ((Below.refl _ w).alloc (Nat.le_refl _) _).trans (hb.mono (by simp))⟩

set_option maxRecDepth 100000 in
set_option maxHeartbeats 4000000 in
theorem apart_calls : ApartCalls := by
  intro A B n m ca cb a b w ha hb
  have hn := ha.2.1
  have hn' := ha.2.2.1
  have hm := hb.2.1
  have hm' := hb.2.2.1
  have HN := hidp ha.1
  have HF : Hid True := trivial
  go_enter Try.func5, Try.ntmps5
  go_wp2_with fail
  refine (sane_any _).mono ?_
  rintro e w1 ⟨rfl, hb1⟩
  go_wp2_with fail
  refine (few2 A B n m ca cb w1 (by omega) (by omega)).mono ?_
  rintro e w2 ⟨rfl, hb2⟩
  have hB2 := hb1.trans (hb2.mono hb1.size)
  clear hb1 hb2
  by_cases hfew : (decide (n ≤ 20) && decide (m ≤ 20)) = true
  · rw [hfew]
    have HW := hidp hfew
    clear hfew
    have ra := ha.keep mStable hB2.size hB2.block
    have rb := hb.keep mStable hB2.size hB2.block
    clear ha hb
    obtain ⟨p, hp⟩ : ∃ p, clashR a b = p := ⟨_, rfl⟩
    obtain ⟨q, hq⟩ : ∃ q, clashE a b = q := ⟨_, rfl⟩
    have HP := hidp hp
    have HQ := hidp hq
    clear hp hq
    go_wp2_with fail
    refine (clash_any _ _ _ _ _ _ _ _ _ ra rb).mono ?_
    rintro e w3 ⟨rfl, hb3⟩
    rw [HP.out, HQ.out]
    go_wp2_with fail
    refine (clash_any _ _ _ _ _ _ _ _ _ (rb.keep mStable hb3.size hb3.block) (ra.keep mStable hb3.size hb3.block)).mono ?_
    rintro e w4 ⟨rfl, hb4⟩
    rw [clashR_symm b a, clashE_symm b a, HP.out, HQ.out]
    have hB4 := hb3.trans (hb4.mono hb3.size)
    go_wp2_with fail
    have ra4 := ra.keep mStable hB4.size hB4.block
    refine (clash_any _ _ _ _ _ _ _ _ _ ra4 ra4).mono ?_
    rintro e w5 ⟨rfl, hb5⟩
    have hB5 := hB4.trans (hb5.mono hB4.size)
    have hBw := hB2.trans (hB5.mono hB2.size)
    rw [clashE_self]
    rcases checkM_cases a with hc | ⟨hc, _⟩
    · have hr : clashR a a = false := by rw [clashR, clashE_self, hc]; rfl
      have HC := hidp hc
      rw [hr, HC.out]
      clear hr hc hb3 hb4 hb5 hB4
      go_wp2_with fail
      refine (check_any _ _ _ _ _ (ra.keep mStable hB5.size hB5.block)).mono ?_
      rintro e w6 ⟨rfl, hb6⟩
      rw [HC.out]
      go_wp2_with fail
      go_ret
      exact ⟨rfl, hBw.trans (hb6.mono hBw.size)⟩
    · have HR := hidp (clashR_self a hc)
      have HC := hidp hc
      rw [HR.out, HC.out, ← HN.out]
      clear hc hb3 hb4 hb5 hB4
      go_wp2_with fail
      all_goals
        go_ret
        exact ⟨ret_bool (by simp), hBw⟩
  · rw [Bool.not_eq_true] at hfew
    rw [hfew]
    clear hfew
    go_wp2_with fail
    go_ret
    exact ⟨rfl, hB2⟩
end Go.Proofs.Ytefjigjjanjlkaa
