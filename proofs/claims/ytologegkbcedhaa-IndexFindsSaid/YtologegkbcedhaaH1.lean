/- The reference's Before, Same and SameInts walked. -/
import Derived.Test.YtologegkbcedhaaH0
import Derived.Test.YtologegkbcedhaaF4
namespace Go.Proofs.Ytologegkbcedhaa
open Go.RowKit Go.Shelf

set_option maxRecDepth 100000 in
set_option maxHeartbeats 2000000 in
theorem qBefore_any (a b : Lk) (w : World) : Calls Try.prog 33 #[.agg #[.int .i64 a.1.1.kind, .int .i64 a.1.1.subj, .int .i64 a.1.1.obj, .int .i64 a.1.2.1, .int .i64 a.1.2.2, .int .i64 a.2], .agg #[.int .i64 b.1.1.kind, .int .i64 b.1.1.subj, .int .i64 b.1.1.obj, .int .i64 b.1.2.1, .int .i64 b.1.2.2, .int .i64 b.2]] w fun e w' => e = .returned (.bool (ltL a b)) ∧ Below w.heap.size w w' := by
  have hB : Below w.heap.size w ((w.alloc (.cells #[.int .i64 a.1.1.kind, .int .i64 a.1.1.subj, .int .i64 a.1.1.obj, .int .i64 a.1.2.1, .int .i64 a.1.2.2, .int .i64 a.2] 49)).alloc (.cells #[.int .i64 b.1.1.kind, .int .i64 b.1.1.subj, .int .i64 b.1.1.obj, .int .i64 b.1.2.1, .int .i64 b.1.2.2, .int .i64 b.2] 49)) := ((Below.refl _ _).alloc (Nat.le_refl _) _).alloc (by simp) _
  have hk := fun W => k_neq a.1.1 b.1.1 W
  by_cases h0 : a.1.1 = b.1.1
  · have g0 : (!decide (a.1.1 = b.1.1)) = false := by simp [h0]
    rw [g0] at hk
    by_cases h1 : a.1.2.1 = b.1.2.1
    · have g1 : (a.1.2.1 != b.1.2.1) = false := by simp [h1]
      by_cases h2 : a.1.2.2 = b.1.2.2
      · have g2 : (a.1.2.2 != b.1.2.2) = false := by simp [h2]
        have HR : Hid (ltL a b = decide (a.2 < b.2)) := by show _ = _; simp [ltL, h0, h1, h2, Ky.lt_irrefl]
        clear h0 h1 h2 g0
        go_enter Try.func33, Try.ntmps33
        go_wp2_with fail
        go_ret
        exact ⟨ret_bool HR.out.symm, hB⟩
      · have g2 : (a.1.2.2 != b.1.2.2) = true := by simp [h2]
        have HR : Hid (ltL a b = decide (a.1.2.2 < b.1.2.2)) := by show _ = _; simp [ltL, h0, h1, h2, Ky.lt_irrefl]
        clear h0 h1 h2 g0
        go_enter Try.func33, Try.ntmps33
        go_wp2_with fail
        go_ret
        exact ⟨ret_bool HR.out.symm, hB⟩
    · have g1 : (a.1.2.1 != b.1.2.1) = true := by simp [h1]
      have HR : Hid (ltL a b = decide (a.1.2.1 < b.1.2.1)) := by show _ = _; simp [ltL, h0, h1, Ky.lt_irrefl]
      clear h0 h1 g0
      go_enter Try.func33, Try.ntmps33
      go_wp2_with fail
      go_ret
      exact ⟨ret_bool HR.out.symm, hB⟩
  · have g0 : (!decide (a.1.1 = b.1.1)) = true := by simp [h0]
    rw [g0] at hk
    have HR : Hid (ltL a b = a.1.1.lt b.1.1) := by show _ = _; simp [ltL, h0]
    clear h0 g0
    go_enter Try.func33, Try.ntmps33
    go_wp2_with fail
    refine (rLessKey_any a.1.1 b.1.1 _).mono ?_
    rintro e w1 ⟨rfl, hb1⟩
    go_wp2_with fail
    go_ret
    exact ⟨ret_bool HR.out.symm, hB.trans (hb1.mono (by simp; omega))⟩

set_option maxRecDepth 100000 in
set_option maxHeartbeats 2000000 in
theorem qSame_any (A B : Option Addr) (n m ca cb : Nat) (a b : List Lk) (w : World) (ha : lSl w w.heap.size A n ca a) (hb : lSl w w.heap.size B m cb b) :
    Calls Try.prog 12 #[.agg #[.slice A n ca], .agg #[.slice B m cb]] w fun e w' => e = .returned (.bool (decide (a = b))) ∧ Below w.heap.size w w' := by
  have HN := hidp ha.1
  have HM := hidp hb.1
  have hcap := ha.2.2.1
  have hlen := ha.2.1
  have hcap2 := hb.2.2.1
  have hlen2 := hb.2.1
  obtain ⟨W0, hW0⟩ : ∃ W0, (w.alloc (.cells #[.slice A n ca] 28)).alloc (.cells #[.slice B m cb] 28) = W0 := ⟨_, rfl⟩
  have hBW : Below w.heap.size w W0 := by rw [← hW0]; exact ((Below.refl _ w).alloc (Nat.le_refl _) _).alloc (by simp) _
  have g1 : W0.heap[w.heap.size]? = some (.cells #[.slice A n ca] 28 (0, 0)) := by rw [← hW0]; exact (Below.heap_alloc _ _ _ (by simp)).trans (World.alloc_heap_new _ _)
  have g2 : W0.heap[w.heap.size + 1]? = some (.cells #[.slice B m cb] 28 (0, 0)) := by rw [← hW0]; have := World.alloc_heap_new (w.alloc (.cells #[.slice A n ca] 28)) (.cells #[.slice B m cb] 28); rwa [World.size_alloc] at this
  have HW0 := hidp hW0
  have G1 := hidp g1
  have G2 := hidp g2
  have HBW := hidp hBW
  have hz0 : w.heap.size + 2 ≤ W0.heap.size := by rw [← hW0]; simp
  have d1 := cell_of_heap (o := 0) g1
  have d2 := cell_of_heap (o := 0) g2
  simp only [List.getElem?_toArray, List.getElem?_cons_zero] at d1 d2
  have l1 := lt_of_cell d1
  have l2 := lt_of_cell d2
  clear hW0 g1 g2 hBW
  by_cases hnm : n = m
  · subst hnm
    go_enter Try.func12, Try.ntmps12
    go_wp2_with fail
    rw [HW0.out]
    go_wp2_with fail
    go_loopw [5] (fun i wr => ∃ k : Nat, k ≤ n ∧ i = .int .i64 k ∧ a.take k = b.take k ∧ Below W0.heap.size W0 wr) (fun i _ => n - (intOf i).toNat)
    case atStart => exact ⟨0, by omega, rfl, rfl, Below.refl _ _⟩
    case round =>
      obtain ⟨k, hk, rfl, hab, hbe⟩ := hrel
      have HA := hidp hab
      have e1 := cell_of_heap (o := 0) ((hbe.block _ l1).trans G1.out)
      have e2 := cell_of_heap (o := 0) ((hbe.block _ l2).trans G2.out)
      simp only [List.getElem?_toArray, List.getElem?_cons_zero] at e1 e2
      have l3 := lt_of_cell e1
      have l4 := lt_of_cell e2
      have hbw := HBW.out.trans (hbe.mono (by omega))
      clear hab d1 d2
      by_cases hlt : k < n
      · obtain ⟨b1, o1, x, rfl, hb1, hzx, c0, c1, c2, c3, c4, c5⟩ := lSl.get (ha.below lStable hbw) hlt
        obtain ⟨b2, o2, y, rfl, hb2, hzy, f0, f1, f2, f3, f4, f5⟩ := lSl.get (hb.below lStable hbw) hlt
        have l5 := lt_of_cell c0
        have l6 := lt_of_cell f0
        have HX := hidp hzx
        have HY := hidp hzy
        obtain ⟨bo, hbo⟩ : ∃ bo, (!decide (x = y)) = bo := ⟨_, rfl⟩
        have hneq := fun W => l_neq x y W
        rw [hbo] at hneq
        have HB := hidp hbo
        have hkn : (k : Int) < n := by omega
        clear hzx hzy hbo
        go_wp2_with fail
        refine wp_region_below wr.heap.size (by kernel_rfl) (by kernel_rfl) ?_
        repeat
          refine q_step (by rfl) ?_
          apply Exists.intro
          refine ⟨fun w9 h9 => ?_, ?_⟩
          · have hc9 := (bcell h9).1
            go_simp
            first | done | rfl
          go_simp
        refine wpQuiet_nil ?_
        intro w9 hb9
        have hbz := hbe.trans (hb9.mono hbe.size)
        cases bo
        · go_wp2_with fail
          go_roundw
          case rel => exact ⟨k + 1, by omega, by go_num, take_eq_step HA.out HX.out HY.out (by have := HB.out; simpa using this), hbz⟩
          case measure => simp [intOf]; omega
        · go_wp2_with fail
          go_ret
          refine ⟨ret_bool ?_, HBW.out.trans (hbz.mono (by omega))⟩
          symm
          rw [decide_eq_false_iff_not]
          rintro rfl
          have := HX.out.symm.trans HY.out
          injection this with this
          subst this
          have := HB.out
          simp at this
      · obtain rfl : k = n := by omega
        go_wp2_with fail
        go_ret
        refine ⟨ret_bool ?_, hbw⟩
        have h1 := HA.out
        rw [List.take_of_length_le (by rw [← HN.out]; omega), List.take_of_length_le (by rw [← HM.out]; omega)] at h1
        simp [h1]
  · have hne : ((n : Int) != (m : Int)) = true := by simp; omega
    go_enter Try.func12, Try.ntmps12
    go_wp2_with fail
    rw [HW0.out]
    go_wp2_with fail
    go_ret
    refine ⟨ret_bool ?_, HBW.out⟩
    symm
    rw [decide_eq_false_iff_not]
    rintro rfl
    exact hnm (HN.out.trans HM.out.symm)
end Go.Proofs.Ytologegkbcedhaa
