/- The reference's formed (printed by tools/gen90.py). -/
import Derived.Test.YtbmbpannhncpjaaDoorV2
namespace Go.Proofs.YtbmbpannhncpjaaDoor
open Go.RowKit Go.Sort

/-- As formedB, of a part's numbers. -/
def formedN (op c n d : Int) (k : Nat) : Bool := withinB op 1 9 && (useC op || decide (c = 0)) && (useN op || decide (n = 0)) && (useD op || decide (d = 0)) && (useK op || decide (k = 0)) && rightB op c n d k
theorem formedB_N (x : Ru) : formedB x = formedN x.op x.course x.n x.d x.kids.length := rfl

set_option maxRecDepth 100000 in
set_option maxHeartbeats 8000000 in
theorem vformed_any (op c n d : Int) (nm : ByteArray) (A : Option Addr) (kn kc : Nat) (w : World) : Calls Tryd.prog 62 #[.agg #[.int .i64 op, .int .i64 c, .string nm, .int .i64 n, .int .i64 d, .slice A kn kc]] w fun e w' => e = .returned (.bool (formedN op c n d kn)) ∧ Below w.heap.size w w' := by
  obtain ⟨W0, hW0⟩ : ∃ W0, w.alloc (.cells #[.int .i64 op, .int .i64 c, .string nm, .int .i64 n, .int .i64 d, .slice A kn kc] 24) = W0 := ⟨_, rfl⟩
  have hBW : Below w.heap.size w W0 := hW0 ▸ (Below.refl _ w).alloc (Nat.le_refl _) _
  have g1 : W0.heap[w.heap.size]? = some (.cells #[.int .i64 op, .int .i64 c, .string nm, .int .i64 n, .int .i64 d, .slice A kn kc] 24 (0, 0)) := hW0 ▸ World.alloc_heap_new _ _
  have lz := lt_of_heap g1
  have HW0 := hidp hW0
  have x0 := cell_of_heap (o := 0) g1
  have x1 := cell_of_heap (o := 1) g1
  have x2 := cell_of_heap (o := 2) g1
  have x3 := cell_of_heap (o := 3) g1
  have x4 := cell_of_heap (o := 4) g1
  have x5 := cell_of_heap (o := 5) g1
  simp only [List.getElem?_toArray, List.getElem?_cons_zero, List.getElem?_cons_succ] at x0 x1 x2 x3 x4 x5
  clear hW0 g1
  by_cases o1 : op = 1
  · skip
    subst o1
    have HAt : Hid (withinB 1 5 9 = false) := by show _ = _; rfl
    by_cases hc : c = 0
    rotate_left
    · skip
      have e1 : (c == 0) = false := by simpa using hc
      have e2 : (c != 0) = true := by simpa using hc
      have HR : Hid (formedN 1 c n d kn = false) := by show _ = _; simp [formedN, withinB, useC, useN, useD, useK, rightB, hc]
      go_enter Tryd.func62, Tryd.ntmps62
      go_wp2_with fail
      rw [HW0.out]
      go_wp2_with (first | (go_at_call 41; refine (vAtom_any _ _).mono ?_; rintro e w1 ⟨rfl, rfl⟩; rw [HAt.out]) | (go_at_call 49; refine (vcourse_any _ _).mono ?_; rintro e w1 ⟨rfl, rfl⟩; first | rw [HC.out] | skip) | (go_at_call 50; refine (vmean_any _ _ _).mono ?_; rintro e w1 ⟨rfl, hb1⟩))
      go_ret
      exact ⟨ret_bool HR.out.symm, hBW⟩
    subst hc
    by_cases hn : n = 0
    rotate_left
    · skip
      have e1 : (n == 0) = false := by simpa using hn
      have e2 : (n != 0) = true := by simpa using hn
      have HR : Hid (formedN 1 0 n d kn = false) := by show _ = _; simp [formedN, withinB, useC, useN, useD, useK, rightB, hn]
      go_enter Tryd.func62, Tryd.ntmps62
      go_wp2_with fail
      rw [HW0.out]
      go_wp2_with (first | (go_at_call 41; refine (vAtom_any _ _).mono ?_; rintro e w1 ⟨rfl, rfl⟩; rw [HAt.out]) | (go_at_call 49; refine (vcourse_any _ _).mono ?_; rintro e w1 ⟨rfl, rfl⟩; first | rw [HC.out] | skip) | (go_at_call 50; refine (vmean_any _ _ _).mono ?_; rintro e w1 ⟨rfl, hb1⟩))
      go_ret
      exact ⟨ret_bool HR.out.symm, hBW⟩
    subst hn
    by_cases hd : d = 0
    rotate_left
    · skip
      have e1 : (d == 0) = false := by simpa using hd
      have e2 : (d != 0) = true := by simpa using hd
      have HR : Hid (formedN 1 0 0 d kn = false) := by show _ = _; simp [formedN, withinB, useC, useN, useD, useK, rightB, hd]
      go_enter Tryd.func62, Tryd.ntmps62
      go_wp2_with fail
      rw [HW0.out]
      go_wp2_with (first | (go_at_call 41; refine (vAtom_any _ _).mono ?_; rintro e w1 ⟨rfl, rfl⟩; rw [HAt.out]) | (go_at_call 49; refine (vcourse_any _ _).mono ?_; rintro e w1 ⟨rfl, rfl⟩; first | rw [HC.out] | skip) | (go_at_call 50; refine (vmean_any _ _ _).mono ?_; rintro e w1 ⟨rfl, hb1⟩))
      go_ret
      exact ⟨ret_bool HR.out.symm, hBW⟩
    subst hd
    have HR : Hid (formedN 1 0 0 0 kn = true) := by show _ = _; simp [formedN, withinB, useC, useN, useD, useK, rightB]
    go_enter Tryd.func62, Tryd.ntmps62
    go_wp2_with fail
    rw [HW0.out]
    go_wp2_with (first | (go_at_call 41; refine (vAtom_any _ _).mono ?_; rintro e w1 ⟨rfl, rfl⟩; rw [HAt.out]) | (go_at_call 49; refine (vcourse_any _ _).mono ?_; rintro e w1 ⟨rfl, rfl⟩; first | rw [HC.out] | skip) | (go_at_call 50; refine (vmean_any _ _ _).mono ?_; rintro e w1 ⟨rfl, hb1⟩))
    go_ret
    exact ⟨ret_bool HR.out.symm, hBW⟩
  by_cases o2 : op = 2
  · skip
    subst o2
    have HAt : Hid (withinB 2 5 9 = false) := by show _ = _; rfl
    by_cases hc : c = 0
    rotate_left
    · skip
      have e1 : (c == 0) = false := by simpa using hc
      have e2 : (c != 0) = true := by simpa using hc
      have HR : Hid (formedN 2 c n d kn = false) := by show _ = _; simp [formedN, withinB, useC, useN, useD, useK, rightB, hc]
      go_enter Tryd.func62, Tryd.ntmps62
      go_wp2_with fail
      rw [HW0.out]
      go_wp2_with (first | (go_at_call 41; refine (vAtom_any _ _).mono ?_; rintro e w1 ⟨rfl, rfl⟩; rw [HAt.out]) | (go_at_call 49; refine (vcourse_any _ _).mono ?_; rintro e w1 ⟨rfl, rfl⟩; first | rw [HC.out] | skip) | (go_at_call 50; refine (vmean_any _ _ _).mono ?_; rintro e w1 ⟨rfl, hb1⟩))
      go_ret
      exact ⟨ret_bool HR.out.symm, hBW⟩
    subst hc
    by_cases hn : n = 0
    rotate_left
    · skip
      have e1 : (n == 0) = false := by simpa using hn
      have e2 : (n != 0) = true := by simpa using hn
      have HR : Hid (formedN 2 0 n d kn = false) := by show _ = _; simp [formedN, withinB, useC, useN, useD, useK, rightB, hn]
      go_enter Tryd.func62, Tryd.ntmps62
      go_wp2_with fail
      rw [HW0.out]
      go_wp2_with (first | (go_at_call 41; refine (vAtom_any _ _).mono ?_; rintro e w1 ⟨rfl, rfl⟩; rw [HAt.out]) | (go_at_call 49; refine (vcourse_any _ _).mono ?_; rintro e w1 ⟨rfl, rfl⟩; first | rw [HC.out] | skip) | (go_at_call 50; refine (vmean_any _ _ _).mono ?_; rintro e w1 ⟨rfl, hb1⟩))
      go_ret
      exact ⟨ret_bool HR.out.symm, hBW⟩
    subst hn
    by_cases hd : d = 0
    rotate_left
    · skip
      have e1 : (d == 0) = false := by simpa using hd
      have e2 : (d != 0) = true := by simpa using hd
      have HR : Hid (formedN 2 0 0 d kn = false) := by show _ = _; simp [formedN, withinB, useC, useN, useD, useK, rightB, hd]
      go_enter Tryd.func62, Tryd.ntmps62
      go_wp2_with fail
      rw [HW0.out]
      go_wp2_with (first | (go_at_call 41; refine (vAtom_any _ _).mono ?_; rintro e w1 ⟨rfl, rfl⟩; rw [HAt.out]) | (go_at_call 49; refine (vcourse_any _ _).mono ?_; rintro e w1 ⟨rfl, rfl⟩; first | rw [HC.out] | skip) | (go_at_call 50; refine (vmean_any _ _ _).mono ?_; rintro e w1 ⟨rfl, hb1⟩))
      go_ret
      exact ⟨ret_bool HR.out.symm, hBW⟩
    subst hd
    have HR : Hid (formedN 2 0 0 0 kn = true) := by show _ = _; simp [formedN, withinB, useC, useN, useD, useK, rightB]
    go_enter Tryd.func62, Tryd.ntmps62
    go_wp2_with fail
    rw [HW0.out]
    go_wp2_with (first | (go_at_call 41; refine (vAtom_any _ _).mono ?_; rintro e w1 ⟨rfl, rfl⟩; rw [HAt.out]) | (go_at_call 49; refine (vcourse_any _ _).mono ?_; rintro e w1 ⟨rfl, rfl⟩; first | rw [HC.out] | skip) | (go_at_call 50; refine (vmean_any _ _ _).mono ?_; rintro e w1 ⟨rfl, hb1⟩))
    go_ret
    exact ⟨ret_bool HR.out.symm, hBW⟩
  by_cases o3 : op = 3
  · skip
    subst o3
    have HAt : Hid (withinB 3 5 9 = false) := by show _ = _; rfl
    by_cases hc : c = 0
    rotate_left
    · skip
      have e1 : (c == 0) = false := by simpa using hc
      have e2 : (c != 0) = true := by simpa using hc
      have HR : Hid (formedN 3 c n d kn = false) := by show _ = _; simp [formedN, withinB, useC, useN, useD, useK, rightB, hc]
      go_enter Tryd.func62, Tryd.ntmps62
      go_wp2_with fail
      rw [HW0.out]
      go_wp2_with (first | (go_at_call 41; refine (vAtom_any _ _).mono ?_; rintro e w1 ⟨rfl, rfl⟩; rw [HAt.out]) | (go_at_call 49; refine (vcourse_any _ _).mono ?_; rintro e w1 ⟨rfl, rfl⟩; first | rw [HC.out] | skip) | (go_at_call 50; refine (vmean_any _ _ _).mono ?_; rintro e w1 ⟨rfl, hb1⟩))
      go_ret
      exact ⟨ret_bool HR.out.symm, hBW⟩
    subst hc
    by_cases hd : d = 0
    rotate_left
    · skip
      have e1 : (d == 0) = false := by simpa using hd
      have e2 : (d != 0) = true := by simpa using hd
      have HR : Hid (formedN 3 0 n d kn = false) := by show _ = _; simp [formedN, withinB, useC, useN, useD, useK, rightB, hd]
      go_enter Tryd.func62, Tryd.ntmps62
      go_wp2_with fail
      rw [HW0.out]
      go_wp2_with (first | (go_at_call 41; refine (vAtom_any _ _).mono ?_; rintro e w1 ⟨rfl, rfl⟩; rw [HAt.out]) | (go_at_call 49; refine (vcourse_any _ _).mono ?_; rintro e w1 ⟨rfl, rfl⟩; first | rw [HC.out] | skip) | (go_at_call 50; refine (vmean_any _ _ _).mono ?_; rintro e w1 ⟨rfl, hb1⟩))
      go_ret
      exact ⟨ret_bool HR.out.symm, hBW⟩
    subst hd
    by_cases h1 : 0 ≤ n
    rotate_left
    · skip
      have HR : Hid (formedN 3 0 n 0 kn = false) := by show _ = _; simp [formedN, withinB, useC, useN, useD, useK, rightB, h1]
      go_enter Tryd.func62, Tryd.ntmps62
      go_wp2_with fail
      rw [HW0.out]
      go_wp2_with (first | (go_at_call 41; refine (vAtom_any _ _).mono ?_; rintro e w1 ⟨rfl, rfl⟩; rw [HAt.out]) | (go_at_call 49; refine (vcourse_any _ _).mono ?_; rintro e w1 ⟨rfl, rfl⟩; first | rw [HC.out] | skip) | (go_at_call 50; refine (vmean_any _ _ _).mono ?_; rintro e w1 ⟨rfl, hb1⟩))
      go_ret
      exact ⟨ret_bool HR.out.symm, hBW⟩
    have HX : Hid (formedN 3 0 n 0 kn = decide (n ≤ 200)) := by show _ = _; simp [formedN, withinB, useC, useN, useD, useK, rightB, h1]
    go_enter Tryd.func62, Tryd.ntmps62
    go_wp2_with fail
    rw [HW0.out]
    go_wp2_with (first | (go_at_call 41; refine (vAtom_any _ _).mono ?_; rintro e w1 ⟨rfl, rfl⟩; rw [HAt.out]) | (go_at_call 49; refine (vcourse_any _ _).mono ?_; rintro e w1 ⟨rfl, rfl⟩; first | rw [HC.out] | skip) | (go_at_call 50; refine (vmean_any _ _ _).mono ?_; rintro e w1 ⟨rfl, hb1⟩))
    go_ret
    exact ⟨ret_bool HX.out.symm, hBW⟩
  by_cases o4 : op = 4
  · skip
    subst o4
    have HAt : Hid (withinB 4 5 9 = false) := by show _ = _; rfl
    by_cases hc : c = 0
    rotate_left
    · skip
      have e1 : (c == 0) = false := by simpa using hc
      have e2 : (c != 0) = true := by simpa using hc
      have HR : Hid (formedN 4 c n d kn = false) := by show _ = _; simp [formedN, withinB, useC, useN, useD, useK, rightB, hc]
      go_enter Tryd.func62, Tryd.ntmps62
      go_wp2_with fail
      rw [HW0.out]
      go_wp2_with (first | (go_at_call 41; refine (vAtom_any _ _).mono ?_; rintro e w1 ⟨rfl, rfl⟩; rw [HAt.out]) | (go_at_call 49; refine (vcourse_any _ _).mono ?_; rintro e w1 ⟨rfl, rfl⟩; first | rw [HC.out] | skip) | (go_at_call 50; refine (vmean_any _ _ _).mono ?_; rintro e w1 ⟨rfl, hb1⟩))
      go_ret
      exact ⟨ret_bool HR.out.symm, hBW⟩
    subst hc
    by_cases hn : n = 0
    rotate_left
    · skip
      have e1 : (n == 0) = false := by simpa using hn
      have e2 : (n != 0) = true := by simpa using hn
      have HR : Hid (formedN 4 0 n d kn = false) := by show _ = _; simp [formedN, withinB, useC, useN, useD, useK, rightB, hn]
      go_enter Tryd.func62, Tryd.ntmps62
      go_wp2_with fail
      rw [HW0.out]
      go_wp2_with (first | (go_at_call 41; refine (vAtom_any _ _).mono ?_; rintro e w1 ⟨rfl, rfl⟩; rw [HAt.out]) | (go_at_call 49; refine (vcourse_any _ _).mono ?_; rintro e w1 ⟨rfl, rfl⟩; first | rw [HC.out] | skip) | (go_at_call 50; refine (vmean_any _ _ _).mono ?_; rintro e w1 ⟨rfl, hb1⟩))
      go_ret
      exact ⟨ret_bool HR.out.symm, hBW⟩
    subst hn
    by_cases hd : d = 0
    rotate_left
    · skip
      have e1 : (d == 0) = false := by simpa using hd
      have e2 : (d != 0) = true := by simpa using hd
      have HR : Hid (formedN 4 0 0 d kn = false) := by show _ = _; simp [formedN, withinB, useC, useN, useD, useK, rightB, hd]
      go_enter Tryd.func62, Tryd.ntmps62
      go_wp2_with fail
      rw [HW0.out]
      go_wp2_with (first | (go_at_call 41; refine (vAtom_any _ _).mono ?_; rintro e w1 ⟨rfl, rfl⟩; rw [HAt.out]) | (go_at_call 49; refine (vcourse_any _ _).mono ?_; rintro e w1 ⟨rfl, rfl⟩; first | rw [HC.out] | skip) | (go_at_call 50; refine (vmean_any _ _ _).mono ?_; rintro e w1 ⟨rfl, hb1⟩))
      go_ret
      exact ⟨ret_bool HR.out.symm, hBW⟩
    subst hd
    have HX : Hid (formedN 4 0 0 0 kn = decide (kn = 1)) := by show _ = _; simp [formedN, withinB, useC, useN, useD, useK, rightB]
    go_enter Tryd.func62, Tryd.ntmps62
    go_wp2_with fail
    rw [HW0.out]
    go_wp2_with (first | (go_at_call 41; refine (vAtom_any _ _).mono ?_; rintro e w1 ⟨rfl, rfl⟩; rw [HAt.out]) | (go_at_call 49; refine (vcourse_any _ _).mono ?_; rintro e w1 ⟨rfl, rfl⟩; first | rw [HC.out] | skip) | (go_at_call 50; refine (vmean_any _ _ _).mono ?_; rintro e w1 ⟨rfl, hb1⟩))
    go_ret
    exact ⟨ret_bool (by rw [HX.out, Bool.eq_iff_iff]; simp; omega), hBW⟩
  by_cases o5 : op = 5
  · skip
    subst o5
    have HAt : Hid (withinB 5 5 9 = true) := by show _ = _; rfl
    by_cases hd : d = 0
    rotate_left
    · skip
      have e1 : (d == 0) = false := by simpa using hd
      have e2 : (d != 0) = true := by simpa using hd
      have HR : Hid (formedN 5 c n d kn = false) := by show _ = _; simp [formedN, withinB, useC, useN, useD, useK, rightB, hd]
      go_enter Tryd.func62, Tryd.ntmps62
      go_wp2_with fail
      rw [HW0.out]
      go_wp2_with (first | (go_at_call 41; refine (vAtom_any _ _).mono ?_; rintro e w1 ⟨rfl, rfl⟩; rw [HAt.out]) | (go_at_call 49; refine (vcourse_any _ _).mono ?_; rintro e w1 ⟨rfl, rfl⟩; first | rw [HC.out] | skip) | (go_at_call 50; refine (vmean_any _ _ _).mono ?_; rintro e w1 ⟨rfl, hb1⟩))
      go_ret
      exact ⟨ret_bool HR.out.symm, hBW⟩
    subst hd
    by_cases hk : 0 < kn
    · skip
      have HR : Hid (formedN 5 c n 0 kn = false) := by show _ = _; simp [formedN, withinB, useC, useN, useD, useK, rightB, show ¬ kn = 0 by omega]
      go_enter Tryd.func62, Tryd.ntmps62
      go_wp2_with fail
      rw [HW0.out]
      go_wp2_with (first | (go_at_call 41; refine (vAtom_any _ _).mono ?_; rintro e w1 ⟨rfl, rfl⟩; rw [HAt.out]) | (go_at_call 49; refine (vcourse_any _ _).mono ?_; rintro e w1 ⟨rfl, rfl⟩; first | rw [HC.out] | skip) | (go_at_call 50; refine (vmean_any _ _ _).mono ?_; rintro e w1 ⟨rfl, hb1⟩))
      go_ret
      exact ⟨ret_bool HR.out.symm, hBW⟩
    have hk0 : kn = 0 := by omega
    have HK0 := hidp hk0
    clear hk0
    obtain ⟨qc, hqc⟩ : ∃ q, courseB c = q := ⟨_, rfl⟩
    have HC := hidp hqc
    cases qc
    · skip
      have hcc := hqc
      simp only [courseB, withinB] at hcc
      have HR : Hid (formedN 5 c n 0 kn = false) := by show _ = _; simp only [formedN, rightB]; simp [hqc]
      clear hqc hcc
      go_enter Tryd.func62, Tryd.ntmps62
      go_wp2_with fail
      rw [HW0.out]
      go_wp2_with (first | (go_at_call 41; refine (vAtom_any _ _).mono ?_; rintro e w1 ⟨rfl, rfl⟩; rw [HAt.out]) | (go_at_call 49; refine (vcourse_any _ _).mono ?_; rintro e w1 ⟨rfl, rfl⟩; first | rw [HC.out] | skip) | (go_at_call 50; refine (vmean_any _ _ _).mono ?_; rintro e w1 ⟨rfl, hb1⟩))
      go_ret
      exact ⟨ret_bool HR.out.symm, hBW⟩
    clear hqc
    by_cases h1 : 0 ≤ n
    rotate_left
    · skip
      have HR : Hid (formedN 5 c n 0 kn = false) := by show _ = _; simp [formedN, rightB, withinB, useC, useN, useD, useK, h1]
      go_enter Tryd.func62, Tryd.ntmps62
      go_wp2_with fail
      rw [HW0.out]
      go_wp2_with (first | (go_at_call 41; refine (vAtom_any _ _).mono ?_; rintro e w1 ⟨rfl, rfl⟩; rw [HAt.out]) | (go_at_call 49; refine (vcourse_any _ _).mono ?_; rintro e w1 ⟨rfl, rfl⟩; first | rw [HC.out] | skip) | (go_at_call 50; refine (vmean_any _ _ _).mono ?_; rintro e w1 ⟨rfl, hb1⟩))
      go_ret
      exact ⟨ret_bool HR.out.symm, hBW⟩
    have HX : Hid (formedN 5 c n 0 kn = decide (n ≤ 12)) := by show _ = _; simp [formedN, rightB, HC.out, HK0.out, withinB, useC, useN, useD, useK, h1]
    go_enter Tryd.func62, Tryd.ntmps62
    go_wp2_with fail
    rw [HW0.out]
    go_wp2_with (first | (go_at_call 41; refine (vAtom_any _ _).mono ?_; rintro e w1 ⟨rfl, rfl⟩; rw [HAt.out]) | (go_at_call 49; refine (vcourse_any _ _).mono ?_; rintro e w1 ⟨rfl, rfl⟩; first | rw [HC.out] | skip) | (go_at_call 50; refine (vmean_any _ _ _).mono ?_; rintro e w1 ⟨rfl, hb1⟩))
    go_ret
    exact ⟨ret_bool HX.out.symm, hBW⟩
  by_cases o6 : op = 6
  · skip
    subst o6
    have HAt : Hid (withinB 6 5 9 = true) := by show _ = _; rfl
    by_cases hd : d = 0
    rotate_left
    · skip
      have e1 : (d == 0) = false := by simpa using hd
      have e2 : (d != 0) = true := by simpa using hd
      have HR : Hid (formedN 6 c n d kn = false) := by show _ = _; simp [formedN, withinB, useC, useN, useD, useK, rightB, hd]
      go_enter Tryd.func62, Tryd.ntmps62
      go_wp2_with fail
      rw [HW0.out]
      go_wp2_with (first | (go_at_call 41; refine (vAtom_any _ _).mono ?_; rintro e w1 ⟨rfl, rfl⟩; rw [HAt.out]) | (go_at_call 49; refine (vcourse_any _ _).mono ?_; rintro e w1 ⟨rfl, rfl⟩; first | rw [HC.out] | skip) | (go_at_call 50; refine (vmean_any _ _ _).mono ?_; rintro e w1 ⟨rfl, hb1⟩))
      go_ret
      exact ⟨ret_bool HR.out.symm, hBW⟩
    subst hd
    by_cases hk : 0 < kn
    · skip
      have HR : Hid (formedN 6 c n 0 kn = false) := by show _ = _; simp [formedN, withinB, useC, useN, useD, useK, rightB, show ¬ kn = 0 by omega]
      go_enter Tryd.func62, Tryd.ntmps62
      go_wp2_with fail
      rw [HW0.out]
      go_wp2_with (first | (go_at_call 41; refine (vAtom_any _ _).mono ?_; rintro e w1 ⟨rfl, rfl⟩; rw [HAt.out]) | (go_at_call 49; refine (vcourse_any _ _).mono ?_; rintro e w1 ⟨rfl, rfl⟩; first | rw [HC.out] | skip) | (go_at_call 50; refine (vmean_any _ _ _).mono ?_; rintro e w1 ⟨rfl, hb1⟩))
      go_ret
      exact ⟨ret_bool HR.out.symm, hBW⟩
    have hk0 : kn = 0 := by omega
    have HK0 := hidp hk0
    clear hk0
    obtain ⟨qc, hqc⟩ : ∃ q, courseB c = q := ⟨_, rfl⟩
    have HC := hidp hqc
    cases qc
    · skip
      have hcc := hqc
      simp only [courseB, withinB] at hcc
      have HR : Hid (formedN 6 c n 0 kn = false) := by show _ = _; simp only [formedN, rightB]; simp [hqc]
      clear hqc hcc
      go_enter Tryd.func62, Tryd.ntmps62
      go_wp2_with fail
      rw [HW0.out]
      go_wp2_with (first | (go_at_call 41; refine (vAtom_any _ _).mono ?_; rintro e w1 ⟨rfl, rfl⟩; rw [HAt.out]) | (go_at_call 49; refine (vcourse_any _ _).mono ?_; rintro e w1 ⟨rfl, rfl⟩; first | rw [HC.out] | skip) | (go_at_call 50; refine (vmean_any _ _ _).mono ?_; rintro e w1 ⟨rfl, hb1⟩))
      go_ret
      exact ⟨ret_bool HR.out.symm, hBW⟩
    clear hqc
    by_cases h1 : 1 ≤ n
    rotate_left
    · skip
      have HR : Hid (formedN 6 c n 0 kn = false) := by show _ = _; simp [formedN, rightB, withinB, useC, useN, useD, useK, h1]
      go_enter Tryd.func62, Tryd.ntmps62
      go_wp2_with fail
      rw [HW0.out]
      go_wp2_with (first | (go_at_call 41; refine (vAtom_any _ _).mono ?_; rintro e w1 ⟨rfl, rfl⟩; rw [HAt.out]) | (go_at_call 49; refine (vcourse_any _ _).mono ?_; rintro e w1 ⟨rfl, rfl⟩; first | rw [HC.out] | skip) | (go_at_call 50; refine (vmean_any _ _ _).mono ?_; rintro e w1 ⟨rfl, hb1⟩))
      go_ret
      exact ⟨ret_bool HR.out.symm, hBW⟩
    have HX : Hid (formedN 6 c n 0 kn = decide (n ≤ 100)) := by show _ = _; simp [formedN, rightB, HC.out, HK0.out, withinB, useC, useN, useD, useK, h1]
    go_enter Tryd.func62, Tryd.ntmps62
    go_wp2_with fail
    rw [HW0.out]
    go_wp2_with (first | (go_at_call 41; refine (vAtom_any _ _).mono ?_; rintro e w1 ⟨rfl, rfl⟩; rw [HAt.out]) | (go_at_call 49; refine (vcourse_any _ _).mono ?_; rintro e w1 ⟨rfl, rfl⟩; first | rw [HC.out] | skip) | (go_at_call 50; refine (vmean_any _ _ _).mono ?_; rintro e w1 ⟨rfl, hb1⟩))
    go_ret
    exact ⟨ret_bool HX.out.symm, hBW⟩
  by_cases o7 : op = 7
  · skip
    subst o7
    have HAt : Hid (withinB 7 5 9 = true) := by show _ = _; rfl
    by_cases hc : c = 0
    rotate_left
    · skip
      have e1 : (c == 0) = false := by simpa using hc
      have e2 : (c != 0) = true := by simpa using hc
      have HR : Hid (formedN 7 c n d kn = false) := by show _ = _; simp [formedN, withinB, useC, useN, useD, useK, rightB, hc]
      go_enter Tryd.func62, Tryd.ntmps62
      go_wp2_with fail
      rw [HW0.out]
      go_wp2_with (first | (go_at_call 41; refine (vAtom_any _ _).mono ?_; rintro e w1 ⟨rfl, rfl⟩; rw [HAt.out]) | (go_at_call 49; refine (vcourse_any _ _).mono ?_; rintro e w1 ⟨rfl, rfl⟩; first | rw [HC.out] | skip) | (go_at_call 50; refine (vmean_any _ _ _).mono ?_; rintro e w1 ⟨rfl, hb1⟩))
      go_ret
      exact ⟨ret_bool HR.out.symm, hBW⟩
    subst hc
    by_cases hd : d = 0
    rotate_left
    · skip
      have e1 : (d == 0) = false := by simpa using hd
      have e2 : (d != 0) = true := by simpa using hd
      have HR : Hid (formedN 7 0 n d kn = false) := by show _ = _; simp [formedN, withinB, useC, useN, useD, useK, rightB, hd]
      go_enter Tryd.func62, Tryd.ntmps62
      go_wp2_with fail
      rw [HW0.out]
      go_wp2_with (first | (go_at_call 41; refine (vAtom_any _ _).mono ?_; rintro e w1 ⟨rfl, rfl⟩; rw [HAt.out]) | (go_at_call 49; refine (vcourse_any _ _).mono ?_; rintro e w1 ⟨rfl, rfl⟩; first | rw [HC.out] | skip) | (go_at_call 50; refine (vmean_any _ _ _).mono ?_; rintro e w1 ⟨rfl, hb1⟩))
      go_ret
      exact ⟨ret_bool HR.out.symm, hBW⟩
    subst hd
    by_cases hk : 0 < kn
    · skip
      have HR : Hid (formedN 7 0 n 0 kn = false) := by show _ = _; simp [formedN, withinB, useC, useN, useD, useK, rightB, show ¬ kn = 0 by omega]
      go_enter Tryd.func62, Tryd.ntmps62
      go_wp2_with fail
      rw [HW0.out]
      go_wp2_with (first | (go_at_call 41; refine (vAtom_any _ _).mono ?_; rintro e w1 ⟨rfl, rfl⟩; rw [HAt.out]) | (go_at_call 49; refine (vcourse_any _ _).mono ?_; rintro e w1 ⟨rfl, rfl⟩; first | rw [HC.out] | skip) | (go_at_call 50; refine (vmean_any _ _ _).mono ?_; rintro e w1 ⟨rfl, hb1⟩))
      go_ret
      exact ⟨ret_bool HR.out.symm, hBW⟩
    have hk0 : kn = 0 := by omega
    have HK0 := hidp hk0
    clear hk0
    by_cases h1 : 0 ≤ n
    rotate_left
    · skip
      have HR : Hid (formedN 7 0 n 0 kn = false) := by show _ = _; simp [formedN, withinB, useC, useN, useD, useK, rightB, HK0.out, h1]
      go_enter Tryd.func62, Tryd.ntmps62
      go_wp2_with fail
      rw [HW0.out]
      go_wp2_with (first | (go_at_call 41; refine (vAtom_any _ _).mono ?_; rintro e w1 ⟨rfl, rfl⟩; rw [HAt.out]) | (go_at_call 49; refine (vcourse_any _ _).mono ?_; rintro e w1 ⟨rfl, rfl⟩; first | rw [HC.out] | skip) | (go_at_call 50; refine (vmean_any _ _ _).mono ?_; rintro e w1 ⟨rfl, hb1⟩))
      go_ret
      exact ⟨ret_bool HR.out.symm, hBW⟩
    have HX : Hid (formedN 7 0 n 0 kn = decide (n ≤ 10000)) := by show _ = _; simp [formedN, withinB, useC, useN, useD, useK, rightB, HK0.out, h1]
    go_enter Tryd.func62, Tryd.ntmps62
    go_wp2_with fail
    rw [HW0.out]
    go_wp2_with (first | (go_at_call 41; refine (vAtom_any _ _).mono ?_; rintro e w1 ⟨rfl, rfl⟩; rw [HAt.out]) | (go_at_call 49; refine (vcourse_any _ _).mono ?_; rintro e w1 ⟨rfl, rfl⟩; first | rw [HC.out] | skip) | (go_at_call 50; refine (vmean_any _ _ _).mono ?_; rintro e w1 ⟨rfl, hb1⟩))
    go_ret
    exact ⟨ret_bool HX.out.symm, hBW⟩
  by_cases o8 : op = 8
  · skip
    subst o8
    have HAt : Hid (withinB 8 5 9 = true) := by show _ = _; rfl
    by_cases hc : c = 0
    rotate_left
    · skip
      have e1 : (c == 0) = false := by simpa using hc
      have e2 : (c != 0) = true := by simpa using hc
      have HR : Hid (formedN 8 c n d kn = false) := by show _ = _; simp [formedN, withinB, useC, useN, useD, useK, rightB, hc]
      go_enter Tryd.func62, Tryd.ntmps62
      go_wp2_with fail
      rw [HW0.out]
      go_wp2_with (first | (go_at_call 41; refine (vAtom_any _ _).mono ?_; rintro e w1 ⟨rfl, rfl⟩; rw [HAt.out]) | (go_at_call 49; refine (vcourse_any _ _).mono ?_; rintro e w1 ⟨rfl, rfl⟩; first | rw [HC.out] | skip) | (go_at_call 50; refine (vmean_any _ _ _).mono ?_; rintro e w1 ⟨rfl, hb1⟩))
      go_ret
      exact ⟨ret_bool HR.out.symm, hBW⟩
    subst hc
    by_cases hk : 0 < kn
    · skip
      have HR : Hid (formedN 8 0 n d kn = false) := by show _ = _; simp [formedN, withinB, useC, useN, useD, useK, rightB, show ¬ kn = 0 by omega]
      go_enter Tryd.func62, Tryd.ntmps62
      go_wp2_with fail
      rw [HW0.out]
      go_wp2_with (first | (go_at_call 41; refine (vAtom_any _ _).mono ?_; rintro e w1 ⟨rfl, rfl⟩; rw [HAt.out]) | (go_at_call 49; refine (vcourse_any _ _).mono ?_; rintro e w1 ⟨rfl, rfl⟩; first | rw [HC.out] | skip) | (go_at_call 50; refine (vmean_any _ _ _).mono ?_; rintro e w1 ⟨rfl, hb1⟩))
      go_ret
      exact ⟨ret_bool HR.out.symm, hBW⟩
    have hk0 : kn = 0 := by omega
    have HK0 := hidp hk0
    clear hk0
    have HX : Hid (formedN 8 0 n d kn = meanB n d) := by show _ = _; simp [formedN, withinB, useC, useN, useD, useK, rightB, HK0.out]
    go_enter Tryd.func62, Tryd.ntmps62
    go_wp2_with fail
    rw [HW0.out]
    go_wp2_with (first | (go_at_call 41; refine (vAtom_any _ _).mono ?_; rintro e w1 ⟨rfl, rfl⟩; rw [HAt.out]) | (go_at_call 49; refine (vcourse_any _ _).mono ?_; rintro e w1 ⟨rfl, rfl⟩; first | rw [HC.out] | skip) | (go_at_call 50; refine (vmean_any _ _ _).mono ?_; rintro e w1 ⟨rfl, hb1⟩))
    go_ret
    exact ⟨ret_bool HX.out.symm, hBW.trans (hb1.mono hBW.size)⟩
  by_cases o9 : op = 9
  · skip
    subst o9
    have HAt : Hid (withinB 9 5 9 = true) := by show _ = _; rfl
    by_cases hn : n = 0
    rotate_left
    · skip
      have e1 : (n == 0) = false := by simpa using hn
      have e2 : (n != 0) = true := by simpa using hn
      have HR : Hid (formedN 9 c n d kn = false) := by show _ = _; simp [formedN, withinB, useC, useN, useD, useK, rightB, hn]
      go_enter Tryd.func62, Tryd.ntmps62
      go_wp2_with fail
      rw [HW0.out]
      go_wp2_with (first | (go_at_call 41; refine (vAtom_any _ _).mono ?_; rintro e w1 ⟨rfl, rfl⟩; rw [HAt.out]) | (go_at_call 49; refine (vcourse_any _ _).mono ?_; rintro e w1 ⟨rfl, rfl⟩; first | rw [HC.out] | skip) | (go_at_call 50; refine (vmean_any _ _ _).mono ?_; rintro e w1 ⟨rfl, hb1⟩))
      go_ret
      exact ⟨ret_bool HR.out.symm, hBW⟩
    subst hn
    by_cases hd : d = 0
    rotate_left
    · skip
      have e1 : (d == 0) = false := by simpa using hd
      have e2 : (d != 0) = true := by simpa using hd
      have HR : Hid (formedN 9 c 0 d kn = false) := by show _ = _; simp [formedN, withinB, useC, useN, useD, useK, rightB, hd]
      go_enter Tryd.func62, Tryd.ntmps62
      go_wp2_with fail
      rw [HW0.out]
      go_wp2_with (first | (go_at_call 41; refine (vAtom_any _ _).mono ?_; rintro e w1 ⟨rfl, rfl⟩; rw [HAt.out]) | (go_at_call 49; refine (vcourse_any _ _).mono ?_; rintro e w1 ⟨rfl, rfl⟩; first | rw [HC.out] | skip) | (go_at_call 50; refine (vmean_any _ _ _).mono ?_; rintro e w1 ⟨rfl, hb1⟩))
      go_ret
      exact ⟨ret_bool HR.out.symm, hBW⟩
    subst hd
    by_cases hk : 0 < kn
    · skip
      have HR : Hid (formedN 9 c 0 0 kn = false) := by show _ = _; simp [formedN, withinB, useC, useN, useD, useK, rightB, show ¬ kn = 0 by omega]
      go_enter Tryd.func62, Tryd.ntmps62
      go_wp2_with fail
      rw [HW0.out]
      go_wp2_with (first | (go_at_call 41; refine (vAtom_any _ _).mono ?_; rintro e w1 ⟨rfl, rfl⟩; rw [HAt.out]) | (go_at_call 49; refine (vcourse_any _ _).mono ?_; rintro e w1 ⟨rfl, rfl⟩; first | rw [HC.out] | skip) | (go_at_call 50; refine (vmean_any _ _ _).mono ?_; rintro e w1 ⟨rfl, hb1⟩))
      go_ret
      exact ⟨ret_bool HR.out.symm, hBW⟩
    have hk0 : kn = 0 := by omega
    have HK0 := hidp hk0
    clear hk0
    have HX : Hid (formedN 9 c 0 0 kn = courseB c) := by show _ = _; simp [formedN, withinB, useC, useN, useD, useK, rightB, HK0.out]
    obtain ⟨qc, hqc⟩ : ∃ q, courseB c = q := ⟨_, rfl⟩
    have HC := hidp hqc
    rw [hqc] at HX
    clear hqc
    go_enter Tryd.func62, Tryd.ntmps62
    go_wp2_with fail
    rw [HW0.out]
    go_wp2_with (first | (go_at_call 41; refine (vAtom_any _ _).mono ?_; rintro e w1 ⟨rfl, rfl⟩; rw [HAt.out]) | (go_at_call 49; refine (vcourse_any _ _).mono ?_; rintro e w1 ⟨rfl, rfl⟩; first | rw [HC.out] | skip) | (go_at_call 50; refine (vmean_any _ _ _).mono ?_; rintro e w1 ⟨rfl, hb1⟩))
    go_ret
    exact ⟨ret_bool HX.out.symm, hBW⟩
  have b1 : (op == 1) = false := by simpa using o1
  have b2 : (op == 2) = false := by simpa using o2
  have b3 : (op == 3) = false := by simpa using o3
  have b4 : (op == 4) = false := by simpa using o4
  have b5 : (op == 5) = false := by simpa using o5
  have b6 : (op == 6) = false := by simpa using o6
  have b7 : (op == 7) = false := by simpa using o7
  have b8 : (op == 8) = false := by simpa using o8
  have b9 : (op == 9) = false := by simpa using o9
  have b0 : (op != 8) = true := by simpa using o8
  have hw : withinB op 1 9 = false := by simp [withinB]; omega
  have HAt : Hid (withinB op 5 9 = false) := by show _ = _; simp [withinB]; omega
  have HR : Hid (formedN op c n d kn = false) := by show _ = _; simp [formedN, hw]
  clear hw
  by_cases hc : c = 0
  rotate_left
  · skip
    have e1 : (c == 0) = false := by simpa using hc
    have e2 : (c != 0) = true := by simpa using hc
    go_enter Tryd.func62, Tryd.ntmps62
    go_wp2_with fail
    rw [HW0.out]
    go_wp2_with (first | (go_at_call 41; refine (vAtom_any _ _).mono ?_; rintro e w1 ⟨rfl, rfl⟩; rw [HAt.out]) | (go_at_call 49; refine (vcourse_any _ _).mono ?_; rintro e w1 ⟨rfl, rfl⟩; first | rw [HC.out] | skip) | (go_at_call 50; refine (vmean_any _ _ _).mono ?_; rintro e w1 ⟨rfl, hb1⟩))
    go_ret
    exact ⟨ret_bool HR.out.symm, hBW⟩
  subst hc
  by_cases hn : n = 0
  rotate_left
  · skip
    have e1 : (n == 0) = false := by simpa using hn
    have e2 : (n != 0) = true := by simpa using hn
    go_enter Tryd.func62, Tryd.ntmps62
    go_wp2_with fail
    rw [HW0.out]
    go_wp2_with (first | (go_at_call 41; refine (vAtom_any _ _).mono ?_; rintro e w1 ⟨rfl, rfl⟩; rw [HAt.out]) | (go_at_call 49; refine (vcourse_any _ _).mono ?_; rintro e w1 ⟨rfl, rfl⟩; first | rw [HC.out] | skip) | (go_at_call 50; refine (vmean_any _ _ _).mono ?_; rintro e w1 ⟨rfl, hb1⟩))
    go_ret
    exact ⟨ret_bool HR.out.symm, hBW⟩
  subst hn
  by_cases hd : d = 0
  rotate_left
  · skip
    have e1 : (d == 0) = false := by simpa using hd
    have e2 : (d != 0) = true := by simpa using hd
    go_enter Tryd.func62, Tryd.ntmps62
    go_wp2_with fail
    rw [HW0.out]
    go_wp2_with (first | (go_at_call 41; refine (vAtom_any _ _).mono ?_; rintro e w1 ⟨rfl, rfl⟩; rw [HAt.out]) | (go_at_call 49; refine (vcourse_any _ _).mono ?_; rintro e w1 ⟨rfl, rfl⟩; first | rw [HC.out] | skip) | (go_at_call 50; refine (vmean_any _ _ _).mono ?_; rintro e w1 ⟨rfl, hb1⟩))
    go_ret
    exact ⟨ret_bool HR.out.symm, hBW⟩
  subst hd
  clear o1 o2 o3 o4 o5 o6 o7 o8 o9
  go_enter Tryd.func62, Tryd.ntmps62
  go_wp2_with fail
  rw [HW0.out]
  go_wp2_with (first | (go_at_call 41; refine (vAtom_any _ _).mono ?_; rintro e w1 ⟨rfl, rfl⟩; rw [HAt.out]) | (go_at_call 49; refine (vcourse_any _ _).mono ?_; rintro e w1 ⟨rfl, rfl⟩; first | rw [HC.out] | skip) | (go_at_call 50; refine (vmean_any _ _ _).mono ?_; rintro e w1 ⟨rfl, hb1⟩))
  go_ret
  exact ⟨ret_bool HR.out.symm, hBW⟩
end Go.Proofs.YtbmbpannhncpjaaDoor
