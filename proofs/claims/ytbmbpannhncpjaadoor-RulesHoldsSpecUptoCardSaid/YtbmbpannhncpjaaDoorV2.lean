/- The reference's leaves (printed by tools/gen89.py). -/
import Derived.Test.YtbmbpannhncpjaaDoorU12
import Derived.Test.YtbmbpannhncpjaaDoorRelT
namespace Go.Proofs.YtbmbpannhncpjaaDoor
open Go.RowKit Go.Sort

set_option maxHeartbeats 400000 in
theorem bsize_any (z : Int) (w : World) (h1 : -1073741824 ≤ z) (h2 : z ≤ 1073741824) : Calls Tryd.prog 71 #[.int .i64 z] w fun e w' => e = .returned (.int .u64 (z.natAbs : Int)) ∧ w = w' := by
  by_cases h : z < 0
  · have HR : Hid (IntKind.u64.wrap (-IntKind.u64.wrap z) = (z.natAbs : Int)) := by show _ = _; simp [IntKind.wrap, IntKind.bits, IntKind.signed]; omega
    go_enter Tryd.func71, Tryd.ntmps71
    go_wp2_with fail
    go_ret
    exact ⟨ret_int HR.out, rfl⟩
  · have HR : Hid (IntKind.u64.wrap z = (z.natAbs : Int)) := by show _ = _; simp [IntKind.wrap, IntKind.bits, IntKind.signed]; omega
    go_enter Tryd.func71, Tryd.ntmps71
    go_wp2_with fail
    go_ret
    exact ⟨ret_int (by omega), rfl⟩

set_option maxRecDepth 100000 in
set_option maxHeartbeats 1000000 in
theorem bcommon_any (a b : Nat) (w : World) (ha : a < 4294967296) (hb : b < 4294967296) : Calls Tryd.prog 70 #[.int .u64 (a : Int), .int .u64 (b : Int)] w fun e w' => e = .returned (.int .u64 (Nat.gcd a b : Nat)) ∧ Below w.heap.size w w' := by
  go_enter Tryd.func70, Tryd.ntmps70
  go_wp2_with fail
  go_loopw [0, 1] (fun x y wr => ∃ (p q : Nat), p < 4294967296 ∧ q < 4294967296 ∧ x = .int .u64 p ∧ y = .int .u64 q ∧ Nat.gcd p q = Nat.gcd a b ∧ Below w.heap.size w wr) (fun _ y _ => (intOf y).toNat)
  case atStart => exact ⟨a, b, ha, hb, rfl, rfl, rfl, Below.refl _ _⟩
  case round =>
    obtain ⟨p, q, hp, hq, rfl, rfl, hg, hbe⟩ := hrel
    have HG := hidp hg
    clear hg
    by_cases h0 : q = 0
    · have HR : Hid (Nat.gcd p q = p) := by show _ = _; rw [h0]; exact Nat.gcd_zero_right p
      have hn : ¬ ((0 : Int) < (q : Int)) := by omega
      clear h0
      go_wp2_with fail
      go_ret
      exact ⟨ret_int (by rw [← HG.out, HR.out]), hbe⟩
    · obtain ⟨m, hm⟩ : ∃ m, p % q = m := ⟨_, rfl⟩
      have hmod : m < q := by rw [← hm]; exact Nat.mod_lt _ (by omega)
      have hq0 : (0 : Int) < (q : Int) := by omega
      have hR : Nat.gcd q m = Nat.gcd p q := by rw [← hm, Nat.gcd_comm q, Nat.gcd_comm p, ← Nat.gcd_rec]
      have hrem : Int.tmod (p : Int) (q : Int) = (m : Int) := by
        rw [Int.tmod_eq_emod_of_nonneg (by omega), ← Int.natCast_emod, hm]
      have HR := hidp hR
      have HM := hidp hrem
      have HN := hidp h0
      clear hR hrem h0 hm
      go_wp2_with fail

      refine wp_region_S wr.heap.size 6 (fun _ => false) (Nat.le_refl _) (by kernel_rfl) (by kernel_rfl) (by kernel_rfl) ?_
      dsimp only [List.take, List.drop]
      apply relS_det (mask := [])
      · rfl
      · kernel_rfl
      · kernel_rfl
      · dsimp only [oblS]
        rintro w9 h9
        go_simp
        exact ⟨Below.refl _ _, rfl⟩
      dsimp only [List.nil_append, List.cons_append]
      apply relS_det (mask := [false])
      · rfl
      · kernel_rfl
      · kernel_rfl
      · dsimp only [oblS]
        rintro w9 h9
        go_simp
        exact ⟨Below.refl _ _, rfl⟩
      dsimp only [List.nil_append, List.cons_append]
      apply relS_det (mask := [false, false])
      · rfl
      · kernel_rfl
      · kernel_rfl
      · dsimp only [oblS]
        rintro w9 h9
        go_simp
        exact ⟨Below.refl _ _, rfl⟩
      dsimp only [List.nil_append, List.cons_append]
      apply relS_det (mask := [false, true, true]) (x := .int .u64 (m : Nat))
      · rfl
      · kernel_rfl
      · kernel_rfl
      · dsimp only [oblS]
        rintro w9 h9
        go_simp
        first | (rw [if_neg HN.out]; exact ⟨Below.refl _ _, by rw [HM.out]; rfl⟩) | exact ⟨Below.refl _ _, by rw [HM.out]; rfl⟩
      dsimp only [List.nil_append, List.cons_append]
      apply relS_det (mask := [true, true, false, false])
      · rfl
      · kernel_rfl
      · kernel_rfl
      · dsimp only [oblS]
        rintro w9 h9
        go_simp
        exact ⟨Below.refl _ _, rfl⟩
      dsimp only [List.nil_append, List.cons_append]
      apply relS_det (mask := [true, false, true, true, false])
      · rfl
      · kernel_rfl
      · kernel_rfl
      · dsimp only [oblS]
        rintro w9 h9
        go_simp
        exact ⟨Below.refl _ _, rfl⟩
      dsimp only [List.nil_append, List.cons_append]
      refine relS_end (by rfl) ?_
      dsimp only [finS]
      -- rintro  w8 hb
      rintro w8 h8
      have hbe8 := hbe.trans (h8.mono hbe.size)
      go_simp
      go_wp2_with fail
      go_roundw
      case rel => exact ⟨q, m, hq, by omega, rfl, rfl, HR.out.trans HG.out, hbe8⟩
      case measure => simp [intOf]; omega


set_option maxRecDepth 100000 in
set_option maxHeartbeats 4000000 in
theorem bCheck_any (a b : Int) (w : World) :
    Calls Tryd.prog 63 #[.agg #[.int .i64 a, .int .i64 b]] w fun e w' => e = .returned (.int .i64 (okOr (ratB a b) 50)) ∧ Below w.heap.size w w' := by
  obtain ⟨W0, hW0⟩ : ∃ W0, w.alloc (.cells #[.int .i64 a, .int .i64 b] 27) = W0 := ⟨_, rfl⟩
  have hBW : Below w.heap.size w W0 := hW0 ▸ (Below.refl _ w).alloc (Nat.le_refl _) _
  have g1 : W0.heap[w.heap.size]? = some (.cells #[.int .i64 a, .int .i64 b] 27 (0, 0)) := hW0 ▸ World.alloc_heap_new _ _
  have lz := lt_of_heap g1
  have HW0 := hidp hW0
  have x0 := cell_of_heap (o := 0) g1
  have x1 := cell_of_heap (o := 1) g1
  simp only [List.getElem?_toArray, List.getElem?_cons_zero, List.getElem?_cons_succ] at x0 x1
  clear hW0 g1
  by_cases h1 : b < 1
  · have HR : Hid (ratB a b = false) := by show _ = _; simp [ratB]; omega
    have d1 : decide (b < 1) = true := decide_eq_true h1
    go_enter Tryd.func63, Tryd.ntmps63
    go_wp2_with fail
    rw [HW0.out]
    refine wp_region_S W0.heap.size 28 (fun _ => false) (Nat.le_refl _) (by kernel_rfl) (by kernel_rfl) (by kernel_rfl) ?_
    dsimp only [List.take, List.drop]
    apply relS_det (mask := [])
    · rfl
    · kernel_rfl
    · kernel_rfl
    · dsimp only [oblS]
      rintro w9 h9
      go_simp
      exact ⟨Below.refl _ _, rfl⟩
    dsimp only [List.nil_append, List.cons_append]
    apply relS_det (mask := [true])
    · rfl
    · kernel_rfl
    · kernel_rfl
    · dsimp only [oblS]
      rintro w9 h9
      have hc9 := (bcell h9).1
      go_simp
      exact ⟨Below.refl _ _, rfl⟩
    dsimp only [List.nil_append, List.cons_append]
    apply relS_det (mask := [false, true]) (x := .bool true)
    · rfl
    · kernel_rfl
    · kernel_rfl
    · dsimp only [oblS]
      rintro w9 h9
      go_simp
      exact ⟨Below.refl _ _, rfl⟩
    dsimp only [List.nil_append, List.cons_append]
    apply relS_det (mask := [false, false, true])
    · rfl
    · kernel_rfl
    · kernel_rfl
    · dsimp only [oblS]
      rintro w9 h9
      go_simp
      exact ⟨Below.refl _ _, rfl⟩
    dsimp only [List.nil_append, List.cons_append]
    apply relS_not (mask := [false, false, false, true]) (t := 6) (want := false) (hf := by rfl) (hg := by kernel_rfl) (hm := by kernel_rfl)
    · rfl
    dsimp only [List.nil_append, List.cons_append]
    apply relS_not (mask := [false, false, false, true, true]) (t := 6) (want := false) (hf := by rfl) (hg := by kernel_rfl) (hm := by kernel_rfl)
    · rfl
    dsimp only [List.nil_append, List.cons_append]
    apply relS_not (mask := [false, false, false, true, false, true]) (t := 6) (want := false) (hf := by rfl) (hg := by kernel_rfl) (hm := by kernel_rfl)
    · rfl
    dsimp only [List.nil_append, List.cons_append]
    apply relS_det (mask := [false, false, false, true, false, false, true])
    · rfl
    · kernel_rfl
    · kernel_rfl
    · dsimp only [oblS]
      rintro w9 h9
      go_simp
      exact ⟨Below.refl _ _, rfl⟩
    dsimp only [List.nil_append, List.cons_append]
    apply relS_det (mask := [false, false, false, false, false, false, false, true])
    · rfl
    · kernel_rfl
    · kernel_rfl
    · dsimp only [oblS]
      rintro w9 h9
      go_simp
      exact ⟨Below.refl _ _, rfl⟩
    dsimp only [List.nil_append, List.cons_append]
    apply relS_not (mask := [false, false, false, false, false, false, false, false, true]) (t := 11) (want := false) (hf := by rfl) (hg := by kernel_rfl) (hm := by kernel_rfl)
    · rfl
    dsimp only [List.nil_append, List.cons_append]
    apply relS_not (mask := [false, false, false, false, false, false, false, false, true, true]) (t := 11) (want := false) (hf := by rfl) (hg := by kernel_rfl) (hm := by kernel_rfl)
    · rfl
    dsimp only [List.nil_append, List.cons_append]
    apply relS_not (mask := [false, false, false, false, false, false, false, false, true, false, true]) (t := 11) (want := false) (hf := by rfl) (hg := by kernel_rfl) (hm := by kernel_rfl)
    · rfl
    dsimp only [List.nil_append, List.cons_append]
    apply relS_det (mask := [false, false, false, false, false, false, false, false, true, false, false, true])
    · rfl
    · kernel_rfl
    · kernel_rfl
    · dsimp only [oblS]
      rintro w9 h9
      go_simp
      exact ⟨Below.refl _ _, rfl⟩
    dsimp only [List.nil_append, List.cons_append]
    apply relS_det (mask := [false, false, false, false, false, false, false, false, false, false, false, false, true])
    · rfl
    · kernel_rfl
    · kernel_rfl
    · dsimp only [oblS]
      rintro w9 h9
      go_simp
      exact ⟨Below.refl _ _, rfl⟩
    dsimp only [List.nil_append, List.cons_append]
    apply relS_not (mask := [false, false, false, false, false, false, false, false, false, false, false, false, false, true]) (t := 16) (want := false) (hf := by rfl) (hg := by kernel_rfl) (hm := by kernel_rfl)
    · rfl
    dsimp only [List.nil_append, List.cons_append]
    apply relS_not (mask := [false, false, false, false, false, false, false, false, false, false, false, false, false, true, true]) (t := 16) (want := false) (hf := by rfl) (hg := by kernel_rfl) (hm := by kernel_rfl)
    · rfl
    dsimp only [List.nil_append, List.cons_append]
    apply relS_not (mask := [false, false, false, false, false, false, false, false, false, false, false, false, false, true, false, true]) (t := 16) (want := false) (hf := by rfl) (hg := by kernel_rfl) (hm := by kernel_rfl)
    · rfl
    dsimp only [List.nil_append, List.cons_append]
    apply relS_det (mask := [false, false, false, false, false, false, false, false, false, false, false, false, false, true, false, false, true])
    · rfl
    · kernel_rfl
    · kernel_rfl
    · dsimp only [oblS]
      rintro w9 h9
      go_simp
      exact ⟨Below.refl _ _, rfl⟩
    dsimp only [List.nil_append, List.cons_append]
    apply relS_det (mask := [false, false, false, false, false, false, false, false, false, false, false, false, false, false, false, false, false, true])
    · rfl
    · kernel_rfl
    · kernel_rfl
    · dsimp only [oblS]
      rintro w9 h9
      go_simp
      exact ⟨Below.refl _ _, rfl⟩
    dsimp only [List.nil_append, List.cons_append]
    apply relS_not (mask := [false, false, false, false, false, false, false, false, false, false, false, false, false, false, false, false, false, false, true]) (t := 21) (want := false) (hf := by rfl) (hg := by kernel_rfl) (hm := by kernel_rfl)
    · rfl
    dsimp only [List.nil_append, List.cons_append]
    apply relS_not (mask := [false, false, false, false, false, false, false, false, false, false, false, false, false, false, false, false, false, false, true, true]) (t := 21) (want := false) (hf := by rfl) (hg := by kernel_rfl) (hm := by kernel_rfl)
    · rfl
    dsimp only [List.nil_append, List.cons_append]
    apply relS_not (mask := [false, false, false, false, false, false, false, false, false, false, false, false, false, false, false, false, false, false, true, false, true]) (t := 21) (want := false) (hf := by rfl) (hg := by kernel_rfl) (hm := by kernel_rfl)
    · rfl
    dsimp only [List.nil_append, List.cons_append]
    apply relS_not (mask := [false, false, false, false, false, false, false, false, false, false, false, false, false, false, false, false, false, false, true, false, false, false]) (t := 21) (want := false) (hf := by rfl) (hg := by kernel_rfl) (hm := by kernel_rfl)
    · rfl
    dsimp only [List.nil_append, List.cons_append]
    apply relS_not (mask := [false, false, false, false, false, false, false, false, false, false, false, false, false, false, false, false, false, false, true, false, false, false, true]) (t := 21) (want := false) (hf := by rfl) (hg := by kernel_rfl) (hm := by kernel_rfl)
    · rfl
    dsimp only [List.nil_append, List.cons_append]
    apply relS_not (mask := [false, false, false, false, false, false, false, false, false, false, false, false, false, false, false, false, false, false, true, false, false, false, false, true]) (t := 21) (want := false) (hf := by rfl) (hg := by kernel_rfl) (hm := by kernel_rfl)
    · rfl
    dsimp only [List.nil_append, List.cons_append]
    apply relS_not (mask := [false, false, false, false, false, false, false, false, false, false, false, false, false, false, false, false, false, false, true, false, false, true, false, false, true]) (t := 21) (want := false) (hf := by rfl) (hg := by kernel_rfl) (hm := by kernel_rfl)
    · rfl
    dsimp only [List.nil_append, List.cons_append]
    apply relS_not (mask := [false, false, false, false, false, false, false, false, false, false, false, false, false, false, false, false, false, false, true, false, false, false, false, false, false, true]) (t := 21) (want := false) (hf := by rfl) (hg := by kernel_rfl) (hm := by kernel_rfl)
    · rfl
    dsimp only [List.nil_append, List.cons_append]
    apply relS_det (mask := [false, false, false, false, false, false, false, false, false, false, false, false, false, false, false, false, false, false, true, false, false, false, false, false, false, false, true])
    · rfl
    · kernel_rfl
    · kernel_rfl
    · dsimp only [oblS]
      rintro w9 h9
      go_simp
      exact ⟨Below.refl _ _, rfl⟩
    dsimp only [List.nil_append, List.cons_append]
    refine relS_end (by rfl) ?_
    dsimp only [finS]
    -- rintro  w8 hb
    rintro w8 h8
    go_simp
    go_wp2_with fail
    go_ret
    exact ⟨ret_int (by rw [HR.out]; rfl), hBW.trans (h8.mono hBW.size)⟩
  have d1 : decide (b < 1) = false := decide_eq_false h1
  by_cases h2 : 1073741824 < b
  · have HR : Hid (ratB a b = false) := by show _ = _; simp [ratB]; omega
    have d2 : decide (1073741824 < b) = true := decide_eq_true h2
    go_enter Tryd.func63, Tryd.ntmps63
    go_wp2_with fail
    rw [HW0.out]
    refine wp_region_S W0.heap.size 28 (fun _ => false) (Nat.le_refl _) (by kernel_rfl) (by kernel_rfl) (by kernel_rfl) ?_
    dsimp only [List.take, List.drop]
    apply relS_det (mask := [])
    · rfl
    · kernel_rfl
    · kernel_rfl
    · dsimp only [oblS]
      rintro w9 h9
      go_simp
      exact ⟨Below.refl _ _, rfl⟩
    dsimp only [List.nil_append, List.cons_append]
    apply relS_det (mask := [true])
    · rfl
    · kernel_rfl
    · kernel_rfl
    · dsimp only [oblS]
      rintro w9 h9
      have hc9 := (bcell h9).1
      go_simp
      exact ⟨Below.refl _ _, rfl⟩
    dsimp only [List.nil_append, List.cons_append]
    apply relS_det (mask := [false, true]) (x := .bool false)
    · rfl
    · kernel_rfl
    · kernel_rfl
    · dsimp only [oblS]
      rintro w9 h9
      go_simp
      exact ⟨Below.refl _ _, rfl⟩
    dsimp only [List.nil_append, List.cons_append]
    apply relS_det (mask := [false, false, true])
    · rfl
    · kernel_rfl
    · kernel_rfl
    · dsimp only [oblS]
      rintro w9 h9
      go_simp
      exact ⟨Below.refl _ _, rfl⟩
    dsimp only [List.nil_append, List.cons_append]
    apply relS_detg (mask := [false, false, false, true]) (t := 6) (want := false)
    · rfl
    · kernel_rfl
    · kernel_rfl
    · dsimp only [oblS]
      refine ⟨by rfl, ?_⟩
      rintro w9 h9
      go_simp
      exact ⟨Below.refl _ _, rfl⟩
    dsimp only [List.nil_append, List.cons_append]
    apply relS_detg (mask := [false, false, false, true, true]) (t := 6) (want := false)
    · rfl
    · kernel_rfl
    · kernel_rfl
    · dsimp only [oblS]
      refine ⟨by rfl, ?_⟩
      rintro w9 h9
      have hc9 := (bcell h9).1
      go_simp
      exact ⟨Below.refl _ _, rfl⟩
    dsimp only [List.nil_append, List.cons_append]
    apply relS_detg (mask := [false, false, false, true, false, true]) (t := 6) (want := false) (x := .bool true)
    · rfl
    · kernel_rfl
    · kernel_rfl
    · dsimp only [oblS]
      refine ⟨by rfl, ?_⟩
      rintro w9 h9
      go_simp
      exact ⟨Below.refl _ _, rfl⟩
    dsimp only [List.nil_append, List.cons_append]
    apply relS_det (mask := [false, false, false, true, false, false, true])
    · rfl
    · kernel_rfl
    · kernel_rfl
    · dsimp only [oblS]
      rintro w9 h9
      go_simp
      exact ⟨Below.refl _ _, rfl⟩
    dsimp only [List.nil_append, List.cons_append]
    apply relS_det (mask := [false, false, false, false, false, false, false, true])
    · rfl
    · kernel_rfl
    · kernel_rfl
    · dsimp only [oblS]
      rintro w9 h9
      go_simp
      exact ⟨Below.refl _ _, rfl⟩
    dsimp only [List.nil_append, List.cons_append]
    apply relS_not (mask := [false, false, false, false, false, false, false, false, true]) (t := 11) (want := false) (hf := by rfl) (hg := by kernel_rfl) (hm := by kernel_rfl)
    · rfl
    dsimp only [List.nil_append, List.cons_append]
    apply relS_not (mask := [false, false, false, false, false, false, false, false, true, true]) (t := 11) (want := false) (hf := by rfl) (hg := by kernel_rfl) (hm := by kernel_rfl)
    · rfl
    dsimp only [List.nil_append, List.cons_append]
    apply relS_not (mask := [false, false, false, false, false, false, false, false, true, false, true]) (t := 11) (want := false) (hf := by rfl) (hg := by kernel_rfl) (hm := by kernel_rfl)
    · rfl
    dsimp only [List.nil_append, List.cons_append]
    apply relS_det (mask := [false, false, false, false, false, false, false, false, true, false, false, true])
    · rfl
    · kernel_rfl
    · kernel_rfl
    · dsimp only [oblS]
      rintro w9 h9
      go_simp
      exact ⟨Below.refl _ _, rfl⟩
    dsimp only [List.nil_append, List.cons_append]
    apply relS_det (mask := [false, false, false, false, false, false, false, false, false, false, false, false, true])
    · rfl
    · kernel_rfl
    · kernel_rfl
    · dsimp only [oblS]
      rintro w9 h9
      go_simp
      exact ⟨Below.refl _ _, rfl⟩
    dsimp only [List.nil_append, List.cons_append]
    apply relS_not (mask := [false, false, false, false, false, false, false, false, false, false, false, false, false, true]) (t := 16) (want := false) (hf := by rfl) (hg := by kernel_rfl) (hm := by kernel_rfl)
    · rfl
    dsimp only [List.nil_append, List.cons_append]
    apply relS_not (mask := [false, false, false, false, false, false, false, false, false, false, false, false, false, true, true]) (t := 16) (want := false) (hf := by rfl) (hg := by kernel_rfl) (hm := by kernel_rfl)
    · rfl
    dsimp only [List.nil_append, List.cons_append]
    apply relS_not (mask := [false, false, false, false, false, false, false, false, false, false, false, false, false, true, false, true]) (t := 16) (want := false) (hf := by rfl) (hg := by kernel_rfl) (hm := by kernel_rfl)
    · rfl
    dsimp only [List.nil_append, List.cons_append]
    apply relS_det (mask := [false, false, false, false, false, false, false, false, false, false, false, false, false, true, false, false, true])
    · rfl
    · kernel_rfl
    · kernel_rfl
    · dsimp only [oblS]
      rintro w9 h9
      go_simp
      exact ⟨Below.refl _ _, rfl⟩
    dsimp only [List.nil_append, List.cons_append]
    apply relS_det (mask := [false, false, false, false, false, false, false, false, false, false, false, false, false, false, false, false, false, true])
    · rfl
    · kernel_rfl
    · kernel_rfl
    · dsimp only [oblS]
      rintro w9 h9
      go_simp
      exact ⟨Below.refl _ _, rfl⟩
    dsimp only [List.nil_append, List.cons_append]
    apply relS_not (mask := [false, false, false, false, false, false, false, false, false, false, false, false, false, false, false, false, false, false, true]) (t := 21) (want := false) (hf := by rfl) (hg := by kernel_rfl) (hm := by kernel_rfl)
    · rfl
    dsimp only [List.nil_append, List.cons_append]
    apply relS_not (mask := [false, false, false, false, false, false, false, false, false, false, false, false, false, false, false, false, false, false, true, true]) (t := 21) (want := false) (hf := by rfl) (hg := by kernel_rfl) (hm := by kernel_rfl)
    · rfl
    dsimp only [List.nil_append, List.cons_append]
    apply relS_not (mask := [false, false, false, false, false, false, false, false, false, false, false, false, false, false, false, false, false, false, true, false, true]) (t := 21) (want := false) (hf := by rfl) (hg := by kernel_rfl) (hm := by kernel_rfl)
    · rfl
    dsimp only [List.nil_append, List.cons_append]
    apply relS_not (mask := [false, false, false, false, false, false, false, false, false, false, false, false, false, false, false, false, false, false, true, false, false, false]) (t := 21) (want := false) (hf := by rfl) (hg := by kernel_rfl) (hm := by kernel_rfl)
    · rfl
    dsimp only [List.nil_append, List.cons_append]
    apply relS_not (mask := [false, false, false, false, false, false, false, false, false, false, false, false, false, false, false, false, false, false, true, false, false, false, true]) (t := 21) (want := false) (hf := by rfl) (hg := by kernel_rfl) (hm := by kernel_rfl)
    · rfl
    dsimp only [List.nil_append, List.cons_append]
    apply relS_not (mask := [false, false, false, false, false, false, false, false, false, false, false, false, false, false, false, false, false, false, true, false, false, false, false, true]) (t := 21) (want := false) (hf := by rfl) (hg := by kernel_rfl) (hm := by kernel_rfl)
    · rfl
    dsimp only [List.nil_append, List.cons_append]
    apply relS_not (mask := [false, false, false, false, false, false, false, false, false, false, false, false, false, false, false, false, false, false, true, false, false, true, false, false, true]) (t := 21) (want := false) (hf := by rfl) (hg := by kernel_rfl) (hm := by kernel_rfl)
    · rfl
    dsimp only [List.nil_append, List.cons_append]
    apply relS_not (mask := [false, false, false, false, false, false, false, false, false, false, false, false, false, false, false, false, false, false, true, false, false, false, false, false, false, true]) (t := 21) (want := false) (hf := by rfl) (hg := by kernel_rfl) (hm := by kernel_rfl)
    · rfl
    dsimp only [List.nil_append, List.cons_append]
    apply relS_det (mask := [false, false, false, false, false, false, false, false, false, false, false, false, false, false, false, false, false, false, true, false, false, false, false, false, false, false, true])
    · rfl
    · kernel_rfl
    · kernel_rfl
    · dsimp only [oblS]
      rintro w9 h9
      go_simp
      exact ⟨Below.refl _ _, rfl⟩
    dsimp only [List.nil_append, List.cons_append]
    refine relS_end (by rfl) ?_
    dsimp only [finS]
    -- rintro  w8 hb
    rintro w8 h8
    go_simp
    go_wp2_with fail
    go_ret
    exact ⟨ret_int (by rw [HR.out]; rfl), hBW.trans (h8.mono hBW.size)⟩
  have d2 : decide (1073741824 < b) = false := decide_eq_false h2
  by_cases h3 : a < -1073741824
  · have HR : Hid (ratB a b = false) := by show _ = _; simp [ratB]; omega
    have d3 : decide (a < -1073741824) = true := decide_eq_true h3
    go_enter Tryd.func63, Tryd.ntmps63
    go_wp2_with fail
    rw [HW0.out]
    refine wp_region_S W0.heap.size 28 (fun _ => false) (Nat.le_refl _) (by kernel_rfl) (by kernel_rfl) (by kernel_rfl) ?_
    dsimp only [List.take, List.drop]
    apply relS_det (mask := [])
    · rfl
    · kernel_rfl
    · kernel_rfl
    · dsimp only [oblS]
      rintro w9 h9
      go_simp
      exact ⟨Below.refl _ _, rfl⟩
    dsimp only [List.nil_append, List.cons_append]
    apply relS_det (mask := [true])
    · rfl
    · kernel_rfl
    · kernel_rfl
    · dsimp only [oblS]
      rintro w9 h9
      have hc9 := (bcell h9).1
      go_simp
      exact ⟨Below.refl _ _, rfl⟩
    dsimp only [List.nil_append, List.cons_append]
    apply relS_det (mask := [false, true]) (x := .bool false)
    · rfl
    · kernel_rfl
    · kernel_rfl
    · dsimp only [oblS]
      rintro w9 h9
      go_simp
      exact ⟨Below.refl _ _, rfl⟩
    dsimp only [List.nil_append, List.cons_append]
    apply relS_det (mask := [false, false, true])
    · rfl
    · kernel_rfl
    · kernel_rfl
    · dsimp only [oblS]
      rintro w9 h9
      go_simp
      exact ⟨Below.refl _ _, rfl⟩
    dsimp only [List.nil_append, List.cons_append]
    apply relS_detg (mask := [false, false, false, true]) (t := 6) (want := false)
    · rfl
    · kernel_rfl
    · kernel_rfl
    · dsimp only [oblS]
      refine ⟨by rfl, ?_⟩
      rintro w9 h9
      go_simp
      exact ⟨Below.refl _ _, rfl⟩
    dsimp only [List.nil_append, List.cons_append]
    apply relS_detg (mask := [false, false, false, true, true]) (t := 6) (want := false)
    · rfl
    · kernel_rfl
    · kernel_rfl
    · dsimp only [oblS]
      refine ⟨by rfl, ?_⟩
      rintro w9 h9
      have hc9 := (bcell h9).1
      go_simp
      exact ⟨Below.refl _ _, rfl⟩
    dsimp only [List.nil_append, List.cons_append]
    apply relS_detg (mask := [false, false, false, true, false, true]) (t := 6) (want := false) (x := .bool false)
    · rfl
    · kernel_rfl
    · kernel_rfl
    · dsimp only [oblS]
      refine ⟨by rfl, ?_⟩
      rintro w9 h9
      go_simp
      exact ⟨Below.refl _ _, rfl⟩
    dsimp only [List.nil_append, List.cons_append]
    apply relS_det (mask := [false, false, false, true, false, false, true])
    · rfl
    · kernel_rfl
    · kernel_rfl
    · dsimp only [oblS]
      rintro w9 h9
      go_simp
      exact ⟨Below.refl _ _, rfl⟩
    dsimp only [List.nil_append, List.cons_append]
    apply relS_det (mask := [false, false, false, false, false, false, false, true])
    · rfl
    · kernel_rfl
    · kernel_rfl
    · dsimp only [oblS]
      rintro w9 h9
      go_simp
      exact ⟨Below.refl _ _, rfl⟩
    dsimp only [List.nil_append, List.cons_append]
    apply relS_detg (mask := [false, false, false, false, false, false, false, false, true]) (t := 11) (want := false)
    · rfl
    · kernel_rfl
    · kernel_rfl
    · dsimp only [oblS]
      refine ⟨by rfl, ?_⟩
      rintro w9 h9
      go_simp
      exact ⟨Below.refl _ _, rfl⟩
    dsimp only [List.nil_append, List.cons_append]
    apply relS_detg (mask := [false, false, false, false, false, false, false, false, true, true]) (t := 11) (want := false)
    · rfl
    · kernel_rfl
    · kernel_rfl
    · dsimp only [oblS]
      refine ⟨by rfl, ?_⟩
      rintro w9 h9
      have hc9 := (bcell h9).1
      go_simp
      exact ⟨Below.refl _ _, rfl⟩
    dsimp only [List.nil_append, List.cons_append]
    apply relS_detg (mask := [false, false, false, false, false, false, false, false, true, false, true]) (t := 11) (want := false) (x := .bool true)
    · rfl
    · kernel_rfl
    · kernel_rfl
    · dsimp only [oblS]
      refine ⟨by rfl, ?_⟩
      rintro w9 h9
      go_simp
      exact ⟨Below.refl _ _, rfl⟩
    dsimp only [List.nil_append, List.cons_append]
    apply relS_det (mask := [false, false, false, false, false, false, false, false, true, false, false, true])
    · rfl
    · kernel_rfl
    · kernel_rfl
    · dsimp only [oblS]
      rintro w9 h9
      go_simp
      exact ⟨Below.refl _ _, rfl⟩
    dsimp only [List.nil_append, List.cons_append]
    apply relS_det (mask := [false, false, false, false, false, false, false, false, false, false, false, false, true])
    · rfl
    · kernel_rfl
    · kernel_rfl
    · dsimp only [oblS]
      rintro w9 h9
      go_simp
      exact ⟨Below.refl _ _, rfl⟩
    dsimp only [List.nil_append, List.cons_append]
    apply relS_not (mask := [false, false, false, false, false, false, false, false, false, false, false, false, false, true]) (t := 16) (want := false) (hf := by rfl) (hg := by kernel_rfl) (hm := by kernel_rfl)
    · rfl
    dsimp only [List.nil_append, List.cons_append]
    apply relS_not (mask := [false, false, false, false, false, false, false, false, false, false, false, false, false, true, true]) (t := 16) (want := false) (hf := by rfl) (hg := by kernel_rfl) (hm := by kernel_rfl)
    · rfl
    dsimp only [List.nil_append, List.cons_append]
    apply relS_not (mask := [false, false, false, false, false, false, false, false, false, false, false, false, false, true, false, true]) (t := 16) (want := false) (hf := by rfl) (hg := by kernel_rfl) (hm := by kernel_rfl)
    · rfl
    dsimp only [List.nil_append, List.cons_append]
    apply relS_det (mask := [false, false, false, false, false, false, false, false, false, false, false, false, false, true, false, false, true])
    · rfl
    · kernel_rfl
    · kernel_rfl
    · dsimp only [oblS]
      rintro w9 h9
      go_simp
      exact ⟨Below.refl _ _, rfl⟩
    dsimp only [List.nil_append, List.cons_append]
    apply relS_det (mask := [false, false, false, false, false, false, false, false, false, false, false, false, false, false, false, false, false, true])
    · rfl
    · kernel_rfl
    · kernel_rfl
    · dsimp only [oblS]
      rintro w9 h9
      go_simp
      exact ⟨Below.refl _ _, rfl⟩
    dsimp only [List.nil_append, List.cons_append]
    apply relS_not (mask := [false, false, false, false, false, false, false, false, false, false, false, false, false, false, false, false, false, false, true]) (t := 21) (want := false) (hf := by rfl) (hg := by kernel_rfl) (hm := by kernel_rfl)
    · rfl
    dsimp only [List.nil_append, List.cons_append]
    apply relS_not (mask := [false, false, false, false, false, false, false, false, false, false, false, false, false, false, false, false, false, false, true, true]) (t := 21) (want := false) (hf := by rfl) (hg := by kernel_rfl) (hm := by kernel_rfl)
    · rfl
    dsimp only [List.nil_append, List.cons_append]
    apply relS_not (mask := [false, false, false, false, false, false, false, false, false, false, false, false, false, false, false, false, false, false, true, false, true]) (t := 21) (want := false) (hf := by rfl) (hg := by kernel_rfl) (hm := by kernel_rfl)
    · rfl
    dsimp only [List.nil_append, List.cons_append]
    apply relS_not (mask := [false, false, false, false, false, false, false, false, false, false, false, false, false, false, false, false, false, false, true, false, false, false]) (t := 21) (want := false) (hf := by rfl) (hg := by kernel_rfl) (hm := by kernel_rfl)
    · rfl
    dsimp only [List.nil_append, List.cons_append]
    apply relS_not (mask := [false, false, false, false, false, false, false, false, false, false, false, false, false, false, false, false, false, false, true, false, false, false, true]) (t := 21) (want := false) (hf := by rfl) (hg := by kernel_rfl) (hm := by kernel_rfl)
    · rfl
    dsimp only [List.nil_append, List.cons_append]
    apply relS_not (mask := [false, false, false, false, false, false, false, false, false, false, false, false, false, false, false, false, false, false, true, false, false, false, false, true]) (t := 21) (want := false) (hf := by rfl) (hg := by kernel_rfl) (hm := by kernel_rfl)
    · rfl
    dsimp only [List.nil_append, List.cons_append]
    apply relS_not (mask := [false, false, false, false, false, false, false, false, false, false, false, false, false, false, false, false, false, false, true, false, false, true, false, false, true]) (t := 21) (want := false) (hf := by rfl) (hg := by kernel_rfl) (hm := by kernel_rfl)
    · rfl
    dsimp only [List.nil_append, List.cons_append]
    apply relS_not (mask := [false, false, false, false, false, false, false, false, false, false, false, false, false, false, false, false, false, false, true, false, false, false, false, false, false, true]) (t := 21) (want := false) (hf := by rfl) (hg := by kernel_rfl) (hm := by kernel_rfl)
    · rfl
    dsimp only [List.nil_append, List.cons_append]
    apply relS_det (mask := [false, false, false, false, false, false, false, false, false, false, false, false, false, false, false, false, false, false, true, false, false, false, false, false, false, false, true])
    · rfl
    · kernel_rfl
    · kernel_rfl
    · dsimp only [oblS]
      rintro w9 h9
      go_simp
      exact ⟨Below.refl _ _, rfl⟩
    dsimp only [List.nil_append, List.cons_append]
    refine relS_end (by rfl) ?_
    dsimp only [finS]
    -- rintro  w8 hb
    rintro w8 h8
    go_simp
    go_wp2_with fail
    go_ret
    exact ⟨ret_int (by rw [HR.out]; rfl), hBW.trans (h8.mono hBW.size)⟩
  have d3 : decide (a < -1073741824) = false := decide_eq_false h3
  by_cases h4 : 1073741824 < a
  · have HR : Hid (ratB a b = false) := by show _ = _; simp [ratB]; omega
    have d4 : decide (1073741824 < a) = true := decide_eq_true h4
    go_enter Tryd.func63, Tryd.ntmps63
    go_wp2_with fail
    rw [HW0.out]
    refine wp_region_S W0.heap.size 28 (fun _ => false) (Nat.le_refl _) (by kernel_rfl) (by kernel_rfl) (by kernel_rfl) ?_
    dsimp only [List.take, List.drop]
    apply relS_det (mask := [])
    · rfl
    · kernel_rfl
    · kernel_rfl
    · dsimp only [oblS]
      rintro w9 h9
      go_simp
      exact ⟨Below.refl _ _, rfl⟩
    dsimp only [List.nil_append, List.cons_append]
    apply relS_det (mask := [true])
    · rfl
    · kernel_rfl
    · kernel_rfl
    · dsimp only [oblS]
      rintro w9 h9
      have hc9 := (bcell h9).1
      go_simp
      exact ⟨Below.refl _ _, rfl⟩
    dsimp only [List.nil_append, List.cons_append]
    apply relS_det (mask := [false, true]) (x := .bool false)
    · rfl
    · kernel_rfl
    · kernel_rfl
    · dsimp only [oblS]
      rintro w9 h9
      go_simp
      exact ⟨Below.refl _ _, rfl⟩
    dsimp only [List.nil_append, List.cons_append]
    apply relS_det (mask := [false, false, true])
    · rfl
    · kernel_rfl
    · kernel_rfl
    · dsimp only [oblS]
      rintro w9 h9
      go_simp
      exact ⟨Below.refl _ _, rfl⟩
    dsimp only [List.nil_append, List.cons_append]
    apply relS_detg (mask := [false, false, false, true]) (t := 6) (want := false)
    · rfl
    · kernel_rfl
    · kernel_rfl
    · dsimp only [oblS]
      refine ⟨by rfl, ?_⟩
      rintro w9 h9
      go_simp
      exact ⟨Below.refl _ _, rfl⟩
    dsimp only [List.nil_append, List.cons_append]
    apply relS_detg (mask := [false, false, false, true, true]) (t := 6) (want := false)
    · rfl
    · kernel_rfl
    · kernel_rfl
    · dsimp only [oblS]
      refine ⟨by rfl, ?_⟩
      rintro w9 h9
      have hc9 := (bcell h9).1
      go_simp
      exact ⟨Below.refl _ _, rfl⟩
    dsimp only [List.nil_append, List.cons_append]
    apply relS_detg (mask := [false, false, false, true, false, true]) (t := 6) (want := false) (x := .bool false)
    · rfl
    · kernel_rfl
    · kernel_rfl
    · dsimp only [oblS]
      refine ⟨by rfl, ?_⟩
      rintro w9 h9
      go_simp
      exact ⟨Below.refl _ _, rfl⟩
    dsimp only [List.nil_append, List.cons_append]
    apply relS_det (mask := [false, false, false, true, false, false, true])
    · rfl
    · kernel_rfl
    · kernel_rfl
    · dsimp only [oblS]
      rintro w9 h9
      go_simp
      exact ⟨Below.refl _ _, rfl⟩
    dsimp only [List.nil_append, List.cons_append]
    apply relS_det (mask := [false, false, false, false, false, false, false, true])
    · rfl
    · kernel_rfl
    · kernel_rfl
    · dsimp only [oblS]
      rintro w9 h9
      go_simp
      exact ⟨Below.refl _ _, rfl⟩
    dsimp only [List.nil_append, List.cons_append]
    apply relS_detg (mask := [false, false, false, false, false, false, false, false, true]) (t := 11) (want := false)
    · rfl
    · kernel_rfl
    · kernel_rfl
    · dsimp only [oblS]
      refine ⟨by rfl, ?_⟩
      rintro w9 h9
      go_simp
      exact ⟨Below.refl _ _, rfl⟩
    dsimp only [List.nil_append, List.cons_append]
    apply relS_detg (mask := [false, false, false, false, false, false, false, false, true, true]) (t := 11) (want := false)
    · rfl
    · kernel_rfl
    · kernel_rfl
    · dsimp only [oblS]
      refine ⟨by rfl, ?_⟩
      rintro w9 h9
      have hc9 := (bcell h9).1
      go_simp
      exact ⟨Below.refl _ _, rfl⟩
    dsimp only [List.nil_append, List.cons_append]
    apply relS_detg (mask := [false, false, false, false, false, false, false, false, true, false, true]) (t := 11) (want := false) (x := .bool false)
    · rfl
    · kernel_rfl
    · kernel_rfl
    · dsimp only [oblS]
      refine ⟨by rfl, ?_⟩
      rintro w9 h9
      go_simp
      exact ⟨Below.refl _ _, rfl⟩
    dsimp only [List.nil_append, List.cons_append]
    apply relS_det (mask := [false, false, false, false, false, false, false, false, true, false, false, true])
    · rfl
    · kernel_rfl
    · kernel_rfl
    · dsimp only [oblS]
      rintro w9 h9
      go_simp
      exact ⟨Below.refl _ _, rfl⟩
    dsimp only [List.nil_append, List.cons_append]
    apply relS_det (mask := [false, false, false, false, false, false, false, false, false, false, false, false, true])
    · rfl
    · kernel_rfl
    · kernel_rfl
    · dsimp only [oblS]
      rintro w9 h9
      go_simp
      exact ⟨Below.refl _ _, rfl⟩
    dsimp only [List.nil_append, List.cons_append]
    apply relS_detg (mask := [false, false, false, false, false, false, false, false, false, false, false, false, false, true]) (t := 16) (want := false)
    · rfl
    · kernel_rfl
    · kernel_rfl
    · dsimp only [oblS]
      refine ⟨by rfl, ?_⟩
      rintro w9 h9
      go_simp
      exact ⟨Below.refl _ _, rfl⟩
    dsimp only [List.nil_append, List.cons_append]
    apply relS_detg (mask := [false, false, false, false, false, false, false, false, false, false, false, false, false, true, true]) (t := 16) (want := false)
    · rfl
    · kernel_rfl
    · kernel_rfl
    · dsimp only [oblS]
      refine ⟨by rfl, ?_⟩
      rintro w9 h9
      have hc9 := (bcell h9).1
      go_simp
      exact ⟨Below.refl _ _, rfl⟩
    dsimp only [List.nil_append, List.cons_append]
    apply relS_detg (mask := [false, false, false, false, false, false, false, false, false, false, false, false, false, true, false, true]) (t := 16) (want := false) (x := .bool true)
    · rfl
    · kernel_rfl
    · kernel_rfl
    · dsimp only [oblS]
      refine ⟨by rfl, ?_⟩
      rintro w9 h9
      go_simp
      exact ⟨Below.refl _ _, rfl⟩
    dsimp only [List.nil_append, List.cons_append]
    apply relS_det (mask := [false, false, false, false, false, false, false, false, false, false, false, false, false, true, false, false, true])
    · rfl
    · kernel_rfl
    · kernel_rfl
    · dsimp only [oblS]
      rintro w9 h9
      go_simp
      exact ⟨Below.refl _ _, rfl⟩
    dsimp only [List.nil_append, List.cons_append]
    apply relS_det (mask := [false, false, false, false, false, false, false, false, false, false, false, false, false, false, false, false, false, true])
    · rfl
    · kernel_rfl
    · kernel_rfl
    · dsimp only [oblS]
      rintro w9 h9
      go_simp
      exact ⟨Below.refl _ _, rfl⟩
    dsimp only [List.nil_append, List.cons_append]
    apply relS_not (mask := [false, false, false, false, false, false, false, false, false, false, false, false, false, false, false, false, false, false, true]) (t := 21) (want := false) (hf := by rfl) (hg := by kernel_rfl) (hm := by kernel_rfl)
    · rfl
    dsimp only [List.nil_append, List.cons_append]
    apply relS_not (mask := [false, false, false, false, false, false, false, false, false, false, false, false, false, false, false, false, false, false, true, true]) (t := 21) (want := false) (hf := by rfl) (hg := by kernel_rfl) (hm := by kernel_rfl)
    · rfl
    dsimp only [List.nil_append, List.cons_append]
    apply relS_not (mask := [false, false, false, false, false, false, false, false, false, false, false, false, false, false, false, false, false, false, true, false, true]) (t := 21) (want := false) (hf := by rfl) (hg := by kernel_rfl) (hm := by kernel_rfl)
    · rfl
    dsimp only [List.nil_append, List.cons_append]
    apply relS_not (mask := [false, false, false, false, false, false, false, false, false, false, false, false, false, false, false, false, false, false, true, false, false, false]) (t := 21) (want := false) (hf := by rfl) (hg := by kernel_rfl) (hm := by kernel_rfl)
    · rfl
    dsimp only [List.nil_append, List.cons_append]
    apply relS_not (mask := [false, false, false, false, false, false, false, false, false, false, false, false, false, false, false, false, false, false, true, false, false, false, true]) (t := 21) (want := false) (hf := by rfl) (hg := by kernel_rfl) (hm := by kernel_rfl)
    · rfl
    dsimp only [List.nil_append, List.cons_append]
    apply relS_not (mask := [false, false, false, false, false, false, false, false, false, false, false, false, false, false, false, false, false, false, true, false, false, false, false, true]) (t := 21) (want := false) (hf := by rfl) (hg := by kernel_rfl) (hm := by kernel_rfl)
    · rfl
    dsimp only [List.nil_append, List.cons_append]
    apply relS_not (mask := [false, false, false, false, false, false, false, false, false, false, false, false, false, false, false, false, false, false, true, false, false, true, false, false, true]) (t := 21) (want := false) (hf := by rfl) (hg := by kernel_rfl) (hm := by kernel_rfl)
    · rfl
    dsimp only [List.nil_append, List.cons_append]
    apply relS_not (mask := [false, false, false, false, false, false, false, false, false, false, false, false, false, false, false, false, false, false, true, false, false, false, false, false, false, true]) (t := 21) (want := false) (hf := by rfl) (hg := by kernel_rfl) (hm := by kernel_rfl)
    · rfl
    dsimp only [List.nil_append, List.cons_append]
    apply relS_det (mask := [false, false, false, false, false, false, false, false, false, false, false, false, false, false, false, false, false, false, true, false, false, false, false, false, false, false, true])
    · rfl
    · kernel_rfl
    · kernel_rfl
    · dsimp only [oblS]
      rintro w9 h9
      go_simp
      exact ⟨Below.refl _ _, rfl⟩
    dsimp only [List.nil_append, List.cons_append]
    refine relS_end (by rfl) ?_
    dsimp only [finS]
    -- rintro  w8 hb
    rintro w8 h8
    go_simp
    go_wp2_with fail
    go_ret
    exact ⟨ret_int (by rw [HR.out]; rfl), hBW.trans (h8.mono hBW.size)⟩
  have d4 : decide (1073741824 < a) = false := decide_eq_false h4
  have hS1 := fun W => bsize_any a W (by omega) (by omega)
  have hS2 := fun W => bsize_any b W (by omega) (by omega)
  have hC := fun W => bcommon_any a.natAbs b.natAbs W (by omega) (by omega)
  obtain ⟨g, hg⟩ : ∃ g, Nat.gcd a.natAbs b.natAbs = g := ⟨_, rfl⟩
  rw [hg] at hC
  have HS1 := hidp hS1
  have HS2 := hidp hS2
  have HC := hidp hC
  obtain ⟨p, hp⟩ : ∃ p, a.natAbs = p := ⟨_, rfl⟩
  obtain ⟨r, hr⟩ : ∃ p, b.natAbs = p := ⟨_, rfl⟩
  rw [hp] at HS1
  rw [hr] at HS2
  rw [hp, hr] at HC
  have HR : Hid (ratB a b = decide (g = 1)) := by show _ = _; simp [ratB, hg]; omega
  clear hg hC hS1 hS2 hp hr
  obtain ⟨q, hq⟩ : ∃ q, ((g : Int) != 1) = q := ⟨_, rfl⟩
  have HQ : Hid (decide (g = 1) = !q) := by
    show _ = _
    rw [← hq, Bool.eq_iff_iff]
    simp
    omega
  go_enter Tryd.func63, Tryd.ntmps63
  go_wp2_with fail
  rw [HW0.out]
  refine wp_region_S W0.heap.size 28 (fun _ => false) (Nat.le_refl _) (by kernel_rfl) (by kernel_rfl) (by kernel_rfl) ?_
  dsimp only [List.take, List.drop]
  apply relS_det (mask := [])
  · rfl
  · kernel_rfl
  · kernel_rfl
  · dsimp only [oblS]
    rintro w9 h9
    go_simp
    exact ⟨Below.refl _ _, rfl⟩
  dsimp only [List.nil_append, List.cons_append]
  apply relS_det (mask := [true])
  · rfl
  · kernel_rfl
  · kernel_rfl
  · dsimp only [oblS]
    rintro w9 h9
    have hc9 := (bcell h9).1
    go_simp
    exact ⟨Below.refl _ _, rfl⟩
  dsimp only [List.nil_append, List.cons_append]
  apply relS_det (mask := [false, true]) (x := .bool false)
  · rfl
  · kernel_rfl
  · kernel_rfl
  · dsimp only [oblS]
    rintro w9 h9
    go_simp
    exact ⟨Below.refl _ _, rfl⟩
  dsimp only [List.nil_append, List.cons_append]
  apply relS_det (mask := [false, false, true])
  · rfl
  · kernel_rfl
  · kernel_rfl
  · dsimp only [oblS]
    rintro w9 h9
    go_simp
    exact ⟨Below.refl _ _, rfl⟩
  dsimp only [List.nil_append, List.cons_append]
  apply relS_detg (mask := [false, false, false, true]) (t := 6) (want := false)
  · rfl
  · kernel_rfl
  · kernel_rfl
  · dsimp only [oblS]
    refine ⟨by rfl, ?_⟩
    rintro w9 h9
    go_simp
    exact ⟨Below.refl _ _, rfl⟩
  dsimp only [List.nil_append, List.cons_append]
  apply relS_detg (mask := [false, false, false, true, true]) (t := 6) (want := false)
  · rfl
  · kernel_rfl
  · kernel_rfl
  · dsimp only [oblS]
    refine ⟨by rfl, ?_⟩
    rintro w9 h9
    have hc9 := (bcell h9).1
    go_simp
    exact ⟨Below.refl _ _, rfl⟩
  dsimp only [List.nil_append, List.cons_append]
  apply relS_detg (mask := [false, false, false, true, false, true]) (t := 6) (want := false) (x := .bool false)
  · rfl
  · kernel_rfl
  · kernel_rfl
  · dsimp only [oblS]
    refine ⟨by rfl, ?_⟩
    rintro w9 h9
    go_simp
    exact ⟨Below.refl _ _, rfl⟩
  dsimp only [List.nil_append, List.cons_append]
  apply relS_det (mask := [false, false, false, true, false, false, true])
  · rfl
  · kernel_rfl
  · kernel_rfl
  · dsimp only [oblS]
    rintro w9 h9
    go_simp
    exact ⟨Below.refl _ _, rfl⟩
  dsimp only [List.nil_append, List.cons_append]
  apply relS_det (mask := [false, false, false, false, false, false, false, true])
  · rfl
  · kernel_rfl
  · kernel_rfl
  · dsimp only [oblS]
    rintro w9 h9
    go_simp
    exact ⟨Below.refl _ _, rfl⟩
  dsimp only [List.nil_append, List.cons_append]
  apply relS_detg (mask := [false, false, false, false, false, false, false, false, true]) (t := 11) (want := false)
  · rfl
  · kernel_rfl
  · kernel_rfl
  · dsimp only [oblS]
    refine ⟨by rfl, ?_⟩
    rintro w9 h9
    go_simp
    exact ⟨Below.refl _ _, rfl⟩
  dsimp only [List.nil_append, List.cons_append]
  apply relS_detg (mask := [false, false, false, false, false, false, false, false, true, true]) (t := 11) (want := false)
  · rfl
  · kernel_rfl
  · kernel_rfl
  · dsimp only [oblS]
    refine ⟨by rfl, ?_⟩
    rintro w9 h9
    have hc9 := (bcell h9).1
    go_simp
    exact ⟨Below.refl _ _, rfl⟩
  dsimp only [List.nil_append, List.cons_append]
  apply relS_detg (mask := [false, false, false, false, false, false, false, false, true, false, true]) (t := 11) (want := false) (x := .bool false)
  · rfl
  · kernel_rfl
  · kernel_rfl
  · dsimp only [oblS]
    refine ⟨by rfl, ?_⟩
    rintro w9 h9
    go_simp
    exact ⟨Below.refl _ _, rfl⟩
  dsimp only [List.nil_append, List.cons_append]
  apply relS_det (mask := [false, false, false, false, false, false, false, false, true, false, false, true])
  · rfl
  · kernel_rfl
  · kernel_rfl
  · dsimp only [oblS]
    rintro w9 h9
    go_simp
    exact ⟨Below.refl _ _, rfl⟩
  dsimp only [List.nil_append, List.cons_append]
  apply relS_det (mask := [false, false, false, false, false, false, false, false, false, false, false, false, true])
  · rfl
  · kernel_rfl
  · kernel_rfl
  · dsimp only [oblS]
    rintro w9 h9
    go_simp
    exact ⟨Below.refl _ _, rfl⟩
  dsimp only [List.nil_append, List.cons_append]
  apply relS_detg (mask := [false, false, false, false, false, false, false, false, false, false, false, false, false, true]) (t := 16) (want := false)
  · rfl
  · kernel_rfl
  · kernel_rfl
  · dsimp only [oblS]
    refine ⟨by rfl, ?_⟩
    rintro w9 h9
    go_simp
    exact ⟨Below.refl _ _, rfl⟩
  dsimp only [List.nil_append, List.cons_append]
  apply relS_detg (mask := [false, false, false, false, false, false, false, false, false, false, false, false, false, true, true]) (t := 16) (want := false)
  · rfl
  · kernel_rfl
  · kernel_rfl
  · dsimp only [oblS]
    refine ⟨by rfl, ?_⟩
    rintro w9 h9
    have hc9 := (bcell h9).1
    go_simp
    exact ⟨Below.refl _ _, rfl⟩
  dsimp only [List.nil_append, List.cons_append]
  apply relS_detg (mask := [false, false, false, false, false, false, false, false, false, false, false, false, false, true, false, true]) (t := 16) (want := false) (x := .bool false)
  · rfl
  · kernel_rfl
  · kernel_rfl
  · dsimp only [oblS]
    refine ⟨by rfl, ?_⟩
    rintro w9 h9
    go_simp
    exact ⟨Below.refl _ _, rfl⟩
  dsimp only [List.nil_append, List.cons_append]
  apply relS_det (mask := [false, false, false, false, false, false, false, false, false, false, false, false, false, true, false, false, true])
  · rfl
  · kernel_rfl
  · kernel_rfl
  · dsimp only [oblS]
    rintro w9 h9
    go_simp
    exact ⟨Below.refl _ _, rfl⟩
  dsimp only [List.nil_append, List.cons_append]
  apply relS_det (mask := [false, false, false, false, false, false, false, false, false, false, false, false, false, false, false, false, false, true])
  · rfl
  · kernel_rfl
  · kernel_rfl
  · dsimp only [oblS]
    rintro w9 h9
    go_simp
    exact ⟨Below.refl _ _, rfl⟩
  dsimp only [List.nil_append, List.cons_append]
  apply relS_detg (mask := [false, false, false, false, false, false, false, false, false, false, false, false, false, false, false, false, false, false, true]) (t := 21) (want := false)
  · rfl
  · kernel_rfl
  · kernel_rfl
  · dsimp only [oblS]
    refine ⟨by rfl, ?_⟩
    rintro w9 h9
    go_simp
    exact ⟨Below.refl _ _, rfl⟩
  dsimp only [List.nil_append, List.cons_append]
  apply relS_detg (mask := [false, false, false, false, false, false, false, false, false, false, false, false, false, false, false, false, false, false, true, true]) (t := 21) (want := false)
  · rfl
  · kernel_rfl
  · kernel_rfl
  · dsimp only [oblS]
    refine ⟨by rfl, ?_⟩
    rintro w9 h9
    have hc9 := (bcell h9).1
    go_simp
    exact ⟨Below.refl _ _, rfl⟩
  dsimp only [List.nil_append, List.cons_append]
  apply relS_detg (mask := [false, false, false, false, false, false, false, false, false, false, false, false, false, false, false, false, false, false, true, false, true]) (t := 21) (want := false) (x := .int .u64 (p : Nat))
  · rfl
  · kernel_rfl
  · kernel_rfl
  · dsimp only [oblS]
    refine ⟨by rfl, ?_⟩
    rintro w9 h9
    go_simp
    refine (HS1.out w9).mono ?_
    rintro e w1 ⟨rfl, rfl⟩
    exact ⟨_, rfl, Below.refl _ _, rfl⟩
  dsimp only [List.nil_append, List.cons_append]
  apply relS_detg (mask := [false, false, false, false, false, false, false, false, false, false, false, false, false, false, false, false, false, false, true, false, false, false]) (t := 21) (want := false)
  · rfl
  · kernel_rfl
  · kernel_rfl
  · dsimp only [oblS]
    refine ⟨by rfl, ?_⟩
    rintro w9 h9
    go_simp
    exact ⟨Below.refl _ _, rfl⟩
  dsimp only [List.nil_append, List.cons_append]
  apply relS_detg (mask := [false, false, false, false, false, false, false, false, false, false, false, false, false, false, false, false, false, false, true, false, false, false, true]) (t := 21) (want := false)
  · rfl
  · kernel_rfl
  · kernel_rfl
  · dsimp only [oblS]
    refine ⟨by rfl, ?_⟩
    rintro w9 h9
    have hc9 := (bcell h9).1
    go_simp
    exact ⟨Below.refl _ _, rfl⟩
  dsimp only [List.nil_append, List.cons_append]
  apply relS_detg (mask := [false, false, false, false, false, false, false, false, false, false, false, false, false, false, false, false, false, false, true, false, false, false, false, true]) (t := 21) (want := false) (x := .int .u64 (r : Nat))
  · rfl
  · kernel_rfl
  · kernel_rfl
  · dsimp only [oblS]
    refine ⟨by rfl, ?_⟩
    rintro w9 h9
    go_simp
    refine (HS2.out w9).mono ?_
    rintro e w1 ⟨rfl, rfl⟩
    exact ⟨_, rfl, Below.refl _ _, rfl⟩
  dsimp only [List.nil_append, List.cons_append]
  apply relS_detg (mask := [false, false, false, false, false, false, false, false, false, false, false, false, false, false, false, false, false, false, true, false, false, true, false, false, true]) (t := 21) (want := false) (x := .int .u64 (g : Nat))
  · rfl
  · kernel_rfl
  · kernel_rfl
  · dsimp only [oblS]
    refine ⟨by rfl, ?_⟩
    rintro w9 h9
    go_simp
    refine (HC.out w9).mono ?_
    rintro e w1 ⟨rfl, hb⟩
    exact ⟨_, rfl, hb, rfl⟩
  dsimp only [List.nil_append, List.cons_append]
  apply relS_detg (mask := [false, false, false, false, false, false, false, false, false, false, false, false, false, false, false, false, false, false, true, false, false, false, false, false, false, true]) (t := 21) (want := false) (x := .bool q)
  · rfl
  · kernel_rfl
  · kernel_rfl
  · dsimp only [oblS]
    refine ⟨by rfl, ?_⟩
    rintro w9 h9
    go_simp
    exact ⟨Below.refl _ _, rfl⟩
  dsimp only [List.nil_append, List.cons_append]
  apply relS_det (mask := [false, false, false, false, false, false, false, false, false, false, false, false, false, false, false, false, false, false, true, false, false, false, false, false, false, false, true])
  · rfl
  · kernel_rfl
  · kernel_rfl
  · dsimp only [oblS]
    rintro w9 h9
    go_simp
    exact ⟨Below.refl _ _, rfl⟩
  dsimp only [List.nil_append, List.cons_append]
  refine relS_end (by rfl) ?_
  dsimp only [finS]
  -- rintro  w8 hb
  rintro w8 h8
  clear hq
  cases q
  all_goals
    go_simp
    go_wp2_with fail
    go_ret
    exact ⟨ret_int (by rw [HR.out, HQ.out]; rfl), hBW.trans (h8.mono hBW.size)⟩


set_option maxHeartbeats 400000 in
theorem vcourse_any (n : Int) (w : World) : Calls Tryd.prog 49 #[.int .i64 n] w fun e w' => e = .returned (.bool (courseB n)) ∧ w = w' := by
  by_cases h1 : 0 ≤ n
  · have HR : Hid (courseB n = decide (n < 4096)) := by show _ = _; simp [courseB, withinB, h1]; omega
    go_enter Tryd.func49, Tryd.ntmps49
    go_wp2_with fail
    go_ret
    exact ⟨ret_bool HR.out.symm, rfl⟩
  · have HR : Hid (courseB n = false) := by show _ = _; simp [courseB, withinB, h1]
    go_enter Tryd.func49, Tryd.ntmps49
    go_wp2_with fail
    go_ret
    exact ⟨ret_bool HR.out.symm, rfl⟩
set_option maxHeartbeats 400000 in
theorem vAtom_any (n : Int) (w : World) : Calls Tryd.prog 41 #[.int .i64 n] w fun e w' => e = .returned (.bool (withinB n 5 9)) ∧ w = w' := by
  by_cases h1 : 5 ≤ n
  · have HR : Hid (withinB n 5 9 = decide (n ≤ 9)) := by show _ = _; simp [withinB, h1]
    go_enter Tryd.func41, Tryd.ntmps41
    go_wp2_with fail
    go_ret
    exact ⟨ret_bool HR.out.symm, rfl⟩
  · have HR : Hid (withinB n 5 9 = false) := by show _ = _; simp [withinB, h1]
    go_enter Tryd.func41, Tryd.ntmps41
    go_wp2_with fail
    go_ret
    exact ⟨ret_bool HR.out.symm, rfl⟩

set_option maxRecDepth 100000 in
set_option maxHeartbeats 1000000 in
theorem vmean_any (a b : Int) (w : World) : Calls Tryd.prog 50 #[.agg #[.int .i64 a, .int .i64 b]] w fun e w' => e = .returned (.bool (meanB a b)) ∧ Below w.heap.size w w' := by
  have hB : Below w.heap.size w (w.alloc (.cells #[.int .i64 a, .int .i64 b] 27)) := (Below.refl _ _).alloc (Nat.le_refl _) _
  have HB := hidp hB
  have HNew := hidp (World.alloc_heap_new w (.cells #[.int .i64 a, .int .i64 b] 27))
  have hC := fun W => bCheck_any a b W
  obtain ⟨W0, hW0⟩ : ∃ W0, w.alloc (.cells #[.int .i64 a, .int .i64 b] 27) = W0 := ⟨_, rfl⟩
  have hBW : Below w.heap.size w W0 := hW0 ▸ hB
  have g1 : W0.heap[w.heap.size]? = some (.cells #[.int .i64 a, .int .i64 b] 27 (0, 0)) := hW0 ▸ World.alloc_heap_new _ _
  have lz := lt_of_heap g1
  have HW0 := hidp hW0
  have G1 := hidp g1
  clear hB HB HNew hW0 g1
  have x0 := cell_of_heap (o := 0) G1.out
  have x1 := cell_of_heap (o := 1) G1.out
  simp only [List.getElem?_toArray, List.getElem?_cons_zero, List.getElem?_cons_succ] at x0 x1
  cases hr : ratB a b with
  | false =>
    have HR : Hid (meanB a b = false) := by show _ = _; simp [meanB, hr]
    rw [hr] at hC
    dsimp only [okOr] at hC
    have HC := hidp hC
    clear hC hr
    go_enter Tryd.func50, Tryd.ntmps50
    go_wp2_with fail
    rw [HW0.out]
    refine (HC.out _).mono ?_
    rintro e w1 ⟨rfl, hb1⟩
    go_wp2_with fail
    go_ret
    exact ⟨ret_bool HR.out.symm, hBW.trans (hb1.mono hBW.size)⟩
  | true =>
    rw [hr] at hC
    dsimp only [okOr] at hC
    have HC := hidp hC
    obtain ⟨b1, b2, b3, b4⟩ := rat_bd hr
    by_cases h0 : 0 ≤ a
    · have HR : Hid (meanB a b = decide (a ≤ 12 * b)) := by show _ = _; simp [meanB, hr, h0]
      clear hC hr
      go_enter Tryd.func50, Tryd.ntmps50
      go_wp2_with fail
      rw [HW0.out]
      refine (HC.out _).mono ?_
      rintro e w1 ⟨rfl, hb1⟩
      have e1 := (hb1.block _ lz).trans G1.out
      have y0 := cell_of_heap (o := 0) e1
      have y1 := cell_of_heap (o := 1) e1
      simp only [List.getElem?_toArray, List.getElem?_cons_zero, List.getElem?_cons_succ] at y0 y1
      clear e1
      go_wp2_with fail
      go_ret
      exact ⟨ret_bool HR.out.symm, hBW.trans (hb1.mono hBW.size)⟩
    · have HR : Hid (meanB a b = false) := by show _ = _; simp [meanB, hr, h0]
      clear hC hr
      go_enter Tryd.func50, Tryd.ntmps50
      go_wp2_with fail
      rw [HW0.out]
      refine (HC.out _).mono ?_
      rintro e w1 ⟨rfl, hb1⟩
      have e1 := (hb1.block _ lz).trans G1.out
      have y0 := cell_of_heap (o := 0) e1
      have y1 := cell_of_heap (o := 1) e1
      simp only [List.getElem?_toArray, List.getElem?_cons_zero, List.getElem?_cons_succ] at y0 y1
      clear e1
      go_wp2_with fail
      go_ret
      exact ⟨ret_bool HR.out.symm, hBW.trans (hb1.mono hBW.size)⟩


end Go.Proofs.YtbmbpannhncpjaaDoor
