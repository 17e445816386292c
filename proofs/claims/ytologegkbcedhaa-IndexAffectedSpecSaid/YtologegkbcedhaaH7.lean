/- The reference's Touched walked (printed by tools/gen56.py). -/
import Derived.Test.YtologegkbcedhaaH2
import Derived.Test.YtologegkbcedhaaC0
namespace Go.Proofs.Ytologegkbcedhaa
open Go.RowKit Go.Shelf

theorem touch_step {r : Rd} {ss : List (Int × Int)} {k : Nat} {s : Int × Int} (h : ss[k]? = some s) (h0 : touchS r (ss.take k) = false) (hx : decide (max r.2.1 s.1 < min r.2.2 s.2) = false) : touchS r (ss.take (k + 1)) = false := any_step (p := fun s : Int × Int => decide (max r.2.1 s.1 < min r.2.2 s.2)) h h0 hx
theorem touch_hit {r : Rd} {ss : List (Int × Int)} {k : Nat} {s : Int × Int} (h : ss[k]? = some s) (hx : decide (max r.2.1 s.1 < min r.2.2 s.2) = true) : touchS r ss = true := any_hit (p := fun s : Int × Int => decide (max r.2.1 s.1 < min r.2.2 s.2)) h hx
set_option maxRecDepth 100000 in
set_option maxHeartbeats 4000000 in
theorem qTouched_any (r : Rd) (m : Cr) (ss : List (Int × Int)) (w : World) (hl : sSl w w.heap.size m.2.1 m.2.2.1 m.2.2.2 ss) :
    Calls Try.prog 41 #[.agg #[.int .i64 r.1.kind, .int .i64 r.1.subj, .int .i64 r.1.obj, .int .i64 r.2.1, .int .i64 r.2.2], .agg #[.int .i64 m.1.kind, .int .i64 m.1.subj, .int .i64 m.1.obj, .slice m.2.1 m.2.2.1 m.2.2.2]] w fun e w' => e = .returned (.bool (decide (r.1 = m.1) && touchS r ss)) ∧ Below w.heap.size w w' := by
  have HN := hidp hl.1
  have hcap := hl.2.2.1
  have hlen := hl.2.1
  obtain ⟨W0, hW0⟩ : ∃ W0, (w.alloc (.cells #[.int .i64 r.1.kind, .int .i64 r.1.subj, .int .i64 r.1.obj, .int .i64 r.2.1, .int .i64 r.2.2] 47)).alloc (.cells #[.int .i64 m.1.kind, .int .i64 m.1.subj, .int .i64 m.1.obj, .slice m.2.1 m.2.2.1 m.2.2.2] 63) = W0 := ⟨_, rfl⟩
  have hBW : Below w.heap.size w W0 := by rw [← hW0]; exact ((Below.refl _ w).alloc (Nat.le_refl _) _).alloc (by simp) _
  have g1 : W0.heap[w.heap.size]? = some (.cells #[.int .i64 r.1.kind, .int .i64 r.1.subj, .int .i64 r.1.obj, .int .i64 r.2.1, .int .i64 r.2.2] 47 (0, 0)) := by rw [← hW0]; exact (Below.heap_alloc _ _ _ (by simp)).trans (World.alloc_heap_new _ _)
  have g2 : W0.heap[w.heap.size + 1]? = some (.cells #[.int .i64 m.1.kind, .int .i64 m.1.subj, .int .i64 m.1.obj, .slice m.2.1 m.2.2.1 m.2.2.2] 63 (0, 0)) := by rw [← hW0]; have := World.alloc_heap_new (w.alloc (.cells #[.int .i64 r.1.kind, .int .i64 r.1.subj, .int .i64 r.1.obj, .int .i64 r.2.1, .int .i64 r.2.2] 47)) (.cells #[.int .i64 m.1.kind, .int .i64 m.1.subj, .int .i64 m.1.obj, .slice m.2.1 m.2.2.1 m.2.2.2] 63); rwa [World.size_alloc] at this
  have hz0 : w.heap.size + 2 ≤ W0.heap.size := by rw [← hW0]; simp
  have HW0 := hidp hW0
  have G1 := hidp g1
  have G2 := hidp g2
  have HBW := hidp hBW
  have l1 := lt_of_heap g1
  have l2 := lt_of_heap g2
  have x0 := cell_of_heap (o := 0) g1
  have x1 := cell_of_heap (o := 1) g1
  have x2 := cell_of_heap (o := 2) g1
  have y0 := cell_of_heap (o := 0) g2
  have y1 := cell_of_heap (o := 1) g2
  have y2 := cell_of_heap (o := 2) g2
  simp only [List.getElem?_toArray, List.getElem?_cons_zero, List.getElem?_cons_succ] at x0 x1 x2 y0 y1 y2
  obtain ⟨z, hz⟩ : ∃ z, (!decide (r.1 = m.1)) = z := ⟨_, rfl⟩
  have hq := fun W => k_neq r.1 m.1 W
  rw [hz] at hq
  have HZ := hidp hz
  clear hW0 g1 g2 hBW hz
  cases z
  · have HR : Hid (decide (r.1 = m.1) = true) := by have := HZ.out; show _ = _; simpa using this
    go_enter Try.func41, Try.ntmps41
    go_wp2_with fail
    rw [HW0.out]
    go_wp2_with fail
    clear x0 x1 x2 y0 y1 y2 hq
    go_loopw [5] (fun i wr => ∃ k : Nat, k ≤ m.2.2.1 ∧ i = .int .i64 k ∧ touchS r (ss.take k) = false ∧ Below W0.heap.size W0 wr) (fun i _ => m.2.2.1 - (intOf i).toNat)
    case atStart => exact ⟨0, by omega, rfl, rfl, Below.refl _ _⟩
    case round =>
      obtain ⟨k, hk, rfl, hno, hbe⟩ := hrel
      have HA := hidp hno
      have e1 := (hbe.block _ l1).trans G1.out
      have e2 := (hbe.block _ l2).trans G2.out
      have c3 := cell_of_heap (o := 3) e1
      have c4 := cell_of_heap (o := 4) e1
      have d3 := cell_of_heap (o := 3) e2
      simp only [List.getElem?_toArray, List.getElem?_cons_zero, List.getElem?_cons_succ] at c3 c4 d3
      have l3 := lt_of_cell c3
      have l4 := lt_of_cell d3
      have hbw := HBW.out.trans (hbe.mono (by omega))
      have hr := hl.below sStable hbw
      clear hno e1 e2
      by_cases hlt : k < m.2.2.1
      · obtain ⟨b, off, s, he, hb, hzs, s0, s1⟩ := sSl.get hr hlt
        have hkn : (k : Int) < m.2.2.1 := by omega
        have HS := hidp hzs
        have lb := lt_of_cell s0
        rw [he] at d3
        clear he
        obtain ⟨q, hqq⟩ : ∃ q, decide (max r.2.1 s.1 < min r.2.2 s.2) = q := ⟨_, rfl⟩
        have HQ := hidp hqq
        clear hzs hqq hr
        rcases Int.lt_or_le r.2.1 s.1 with h | h <;> rcases Int.lt_or_le s.2 r.2.2 with h' | h' <;> cases q
        · have hdec : decide (s.1 < s.2) = false := by rw [← HQ.out, decide_eq_decide]; omega
          have hn1 : (if r.2.1 < s.1 then s.1 else r.2.1) = s.1 := by split <;> omega
          have hn2 : (if s.2 < r.2.2 then s.2 else r.2.2) = s.2 := by split <;> omega
          clear h h'
          go_wp2_with fail
          refine wp_region_below wr.heap.size (by kernel_rfl) (by kernel_rfl) ?_
          repeat
            refine q_step (by rfl) ?_
            apply Exists.intro
            refine ⟨fun w9 h9 => ?_, ?_⟩
            · have hc9 := (bcell h9).1
              go_simp
              first | done | rfl
            go_simp
          refine wpQuiet_nil ?_
          intro w9 hb9
          have hbz := hbe.trans (hb9.mono hbe.size)
          go_wp2_with fail
          go_roundw
          case rel => exact ⟨k + 1, by omega, by go_num, touch_step HS.out HA.out HQ.out, hbz⟩
          case measure => simp [intOf]; omega
        · have hdec : decide (s.1 < s.2) = true := by rw [← HQ.out, decide_eq_decide]; omega
          have hn1 : (if r.2.1 < s.1 then s.1 else r.2.1) = s.1 := by split <;> omega
          have hn2 : (if s.2 < r.2.2 then s.2 else r.2.2) = s.2 := by split <;> omega
          clear h h'
          go_wp2_with fail
          refine wp_region_below wr.heap.size (by kernel_rfl) (by kernel_rfl) ?_
          repeat
            refine q_step (by rfl) ?_
            apply Exists.intro
            refine ⟨fun w9 h9 => ?_, ?_⟩
            · have hc9 := (bcell h9).1
              go_simp
              first | done | rfl
            go_simp
          refine wpQuiet_nil ?_
          intro w9 hb9
          have hbz := hbe.trans (hb9.mono hbe.size)
          go_wp2_with fail
          go_ret
          refine ⟨ret_bool ?_, HBW.out.trans (hbz.mono (by omega))⟩
          rw [HR.out, Bool.true_and]
          exact (touch_hit HS.out HQ.out).symm
        · have hdec : decide (s.1 < r.2.2) = false := by rw [← HQ.out, decide_eq_decide]; omega
          have hn1 : (if r.2.1 < s.1 then s.1 else r.2.1) = s.1 := by split <;> omega
          have hn2 : (if s.2 < r.2.2 then s.2 else r.2.2) = r.2.2 := by split <;> omega
          clear h h'
          go_wp2_with fail
          refine wp_region_below wr.heap.size (by kernel_rfl) (by kernel_rfl) ?_
          repeat
            refine q_step (by rfl) ?_
            apply Exists.intro
            refine ⟨fun w9 h9 => ?_, ?_⟩
            · have hc9 := (bcell h9).1
              go_simp
              first | done | rfl
            go_simp
          refine wpQuiet_nil ?_
          intro w9 hb9
          have hbz := hbe.trans (hb9.mono hbe.size)
          go_wp2_with fail
          go_roundw
          case rel => exact ⟨k + 1, by omega, by go_num, touch_step HS.out HA.out HQ.out, hbz⟩
          case measure => simp [intOf]; omega
        · have hdec : decide (s.1 < r.2.2) = true := by rw [← HQ.out, decide_eq_decide]; omega
          have hn1 : (if r.2.1 < s.1 then s.1 else r.2.1) = s.1 := by split <;> omega
          have hn2 : (if s.2 < r.2.2 then s.2 else r.2.2) = r.2.2 := by split <;> omega
          clear h h'
          go_wp2_with fail
          refine wp_region_below wr.heap.size (by kernel_rfl) (by kernel_rfl) ?_
          repeat
            refine q_step (by rfl) ?_
            apply Exists.intro
            refine ⟨fun w9 h9 => ?_, ?_⟩
            · have hc9 := (bcell h9).1
              go_simp
              first | done | rfl
            go_simp
          refine wpQuiet_nil ?_
          intro w9 hb9
          have hbz := hbe.trans (hb9.mono hbe.size)
          go_wp2_with fail
          go_ret
          refine ⟨ret_bool ?_, HBW.out.trans (hbz.mono (by omega))⟩
          rw [HR.out, Bool.true_and]
          exact (touch_hit HS.out HQ.out).symm
        · have hdec : decide (r.2.1 < s.2) = false := by rw [← HQ.out, decide_eq_decide]; omega
          have hn1 : (if r.2.1 < s.1 then s.1 else r.2.1) = r.2.1 := by split <;> omega
          have hn2 : (if s.2 < r.2.2 then s.2 else r.2.2) = s.2 := by split <;> omega
          clear h h'
          go_wp2_with fail
          refine wp_region_below wr.heap.size (by kernel_rfl) (by kernel_rfl) ?_
          repeat
            refine q_step (by rfl) ?_
            apply Exists.intro
            refine ⟨fun w9 h9 => ?_, ?_⟩
            · have hc9 := (bcell h9).1
              go_simp
              first | done | rfl
            go_simp
          refine wpQuiet_nil ?_
          intro w9 hb9
          have hbz := hbe.trans (hb9.mono hbe.size)
          go_wp2_with fail
          go_roundw
          case rel => exact ⟨k + 1, by omega, by go_num, touch_step HS.out HA.out HQ.out, hbz⟩
          case measure => simp [intOf]; omega
        · have hdec : decide (r.2.1 < s.2) = true := by rw [← HQ.out, decide_eq_decide]; omega
          have hn1 : (if r.2.1 < s.1 then s.1 else r.2.1) = r.2.1 := by split <;> omega
          have hn2 : (if s.2 < r.2.2 then s.2 else r.2.2) = s.2 := by split <;> omega
          clear h h'
          go_wp2_with fail
          refine wp_region_below wr.heap.size (by kernel_rfl) (by kernel_rfl) ?_
          repeat
            refine q_step (by rfl) ?_
            apply Exists.intro
            refine ⟨fun w9 h9 => ?_, ?_⟩
            · have hc9 := (bcell h9).1
              go_simp
              first | done | rfl
            go_simp
          refine wpQuiet_nil ?_
          intro w9 hb9
          have hbz := hbe.trans (hb9.mono hbe.size)
          go_wp2_with fail
          go_ret
          refine ⟨ret_bool ?_, HBW.out.trans (hbz.mono (by omega))⟩
          rw [HR.out, Bool.true_and]
          exact (touch_hit HS.out HQ.out).symm
        · have hdec : decide (r.2.1 < r.2.2) = false := by rw [← HQ.out, decide_eq_decide]; omega
          have hn1 : (if r.2.1 < s.1 then s.1 else r.2.1) = r.2.1 := by split <;> omega
          have hn2 : (if s.2 < r.2.2 then s.2 else r.2.2) = r.2.2 := by split <;> omega
          clear h h'
          go_wp2_with fail
          refine wp_region_below wr.heap.size (by kernel_rfl) (by kernel_rfl) ?_
          repeat
            refine q_step (by rfl) ?_
            apply Exists.intro
            refine ⟨fun w9 h9 => ?_, ?_⟩
            · have hc9 := (bcell h9).1
              go_simp
              first | done | rfl
            go_simp
          refine wpQuiet_nil ?_
          intro w9 hb9
          have hbz := hbe.trans (hb9.mono hbe.size)
          go_wp2_with fail
          go_roundw
          case rel => exact ⟨k + 1, by omega, by go_num, touch_step HS.out HA.out HQ.out, hbz⟩
          case measure => simp [intOf]; omega
        · have hdec : decide (r.2.1 < r.2.2) = true := by rw [← HQ.out, decide_eq_decide]; omega
          have hn1 : (if r.2.1 < s.1 then s.1 else r.2.1) = r.2.1 := by split <;> omega
          have hn2 : (if s.2 < r.2.2 then s.2 else r.2.2) = r.2.2 := by split <;> omega
          clear h h'
          go_wp2_with fail
          refine wp_region_below wr.heap.size (by kernel_rfl) (by kernel_rfl) ?_
          repeat
            refine q_step (by rfl) ?_
            apply Exists.intro
            refine ⟨fun w9 h9 => ?_, ?_⟩
            · have hc9 := (bcell h9).1
              go_simp
              first | done | rfl
            go_simp
          refine wpQuiet_nil ?_
          intro w9 hb9
          have hbz := hbe.trans (hb9.mono hbe.size)
          go_wp2_with fail
          go_ret
          refine ⟨ret_bool ?_, HBW.out.trans (hbz.mono (by omega))⟩
          rw [HR.out, Bool.true_and]
          exact (touch_hit HS.out HQ.out).symm
      · obtain rfl : k = m.2.2.1 := by omega
        go_wp2_with fail
        go_ret
        refine ⟨ret_bool ?_, hbw⟩
        have h1 := HA.out
        rw [List.take_of_length_le (by rw [← HN.out]; omega)] at h1
        rw [HR.out, Bool.true_and]
        exact h1.symm
  · have HR : Hid (decide (r.1 = m.1) = false) := by have := HZ.out; show _ = _; simpa using this
    go_enter Try.func41, Try.ntmps41
    go_wp2_with fail
    rw [HW0.out]
    go_wp2_with fail
    go_ret
    exact ⟨ret_bool (by rw [HR.out]; rfl), HBW.out⟩
end Go.Proofs.Ytologegkbcedhaa
