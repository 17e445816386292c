/- RulesListsSpec walked (printed by tools/gen103.py). -/
import Derived.Test.YtbmbpannhncpjaaDoorU20
import Derived.Test.YtbmbpannhncpjaaDoorML1
import Derived.Test.YtbmbpannhncpjaaDoorV11M
import Derived.Test.YtbmbpannhncpjaaDoorRelI
namespace Go.Proofs.YtbmbpannhncpjaaDoor
open Go.RowKit Go.Sort

set_option maxRecDepth 100000 in
set_option maxHeartbeats 8000000 in
theorem listsSpec_calls (hx : Nat) (x : Ru) (w : World) (hb : (partsD 1 x).length ≤ 1048576) (hr : RuIn hx w w.heap.size x) (hkk : KindsAt w) :
    Calls Tryd.prog 4 #[.agg #[.int .i64 x.op, .int .i64 x.course, .string x.name, .int .i64 x.n, .int .i64 x.d, .slice x.kA x.kn x.kc]] w fun e w' => e = .returned (.bool true) ∧ Below w.heap.size w w' := by
  have lk := hkk.lt
  have HKK := hidp hkk
  have HRu : Hid (∀ W, Below w.heap.size w W → RuIn hx W W.heap.size x) := fun W h => hr.keep h.size h.block
  obtain ⟨q0, hq0⟩ : ∃ q, fewB x = q := ⟨_, rfl⟩
  have HF : Hid (∀ W, Below w.heap.size w W → Calls Tryd.prog 11 #[.agg #[.int .i64 x.op, .int .i64 x.course, .string x.name, .int .i64 x.n, .int .i64 x.d, .slice x.kA x.kn x.kc]] W fun e w' => e = .returned (.bool q0) ∧ Below W.heap.size W w') := fun W h => by
    have hc := vFew_any hx x W (HRu.out W h)
    rw [hq0] at hc; exact hc
  have HS : Hid (q0 = true → (partsD 1 x).length ≤ 300000) := fun h => by
    rw [h] at hq0
    have h1 := parW_len x (by unfold manyP; omega)
    simp only [fewB, Bool.and_eq_true, decide_eq_true_eq] at hq0
    omega
  clear hr hkk hb hq0

  obtain ⟨W0, hW0⟩ : ∃ W0, (w.alloc (.cells #[.int .i64 x.op, .int .i64 x.course, .string x.name, .int .i64 x.n, .int .i64 x.d, .slice x.kA x.kn x.kc] 24)) = W0 := ⟨_, rfl⟩
  have hBW : Below w.heap.size w W0 := by rw [← hW0]; exact ((Below.refl _ w).alloc (by first | exact Nat.le_refl _ | (simp <;> omega)) _)
  have g0 : W0.heap[w.heap.size]? = some (.cells #[.int .i64 x.op, .int .i64 x.course, .string x.name, .int .i64 x.n, .int .i64 x.d, .slice x.kA x.kn x.kc] 24 (0, 0)) := by
    rw [← hW0]
    have := World.alloc_heap_new w (.cells #[.int .i64 x.op, .int .i64 x.course, .string x.name, .int .i64 x.n, .int .i64 x.d, .slice x.kA x.kn x.kc] 24)
    exact this
  have HW0 := hidp hW0
  have G0 := hidp g0
  have l0 := lt_of_heap g0
  have HBW := hidp hBW
  have x0 := cell_of_heap (o := 0) g0
  have x1 := cell_of_heap (o := 1) g0
  have x2 := cell_of_heap (o := 2) g0
  have x3 := cell_of_heap (o := 3) g0
  have x4 := cell_of_heap (o := 4) g0
  have x5 := cell_of_heap (o := 5) g0
  simp only [List.getElem?_toArray, List.getElem?_cons_zero, List.getElem?_cons_succ] at x0 x1 x2 x3 x4 x5
  clear hW0 g0
  go_enter Tryd.func4, Tryd.ntmps4
  go_wp2_with fail
  rw [HW0.out]
  refine (sane_any W0 (HKK.out.below HBW.out lk)).mono ?_
  rintro e w1 ⟨rfl, h1⟩
  have b1 := HBW.out.trans (h1.mono HBW.out.size)
  have HB1 := hidp b1
  clear x0 x1 x2 x3 x4 x5
  have e0 := (h1.block _ l0).trans G0.out
  have x0 := cell_of_heap (o := 0) e0
  have x1 := cell_of_heap (o := 1) e0
  have x2 := cell_of_heap (o := 2) e0
  have x3 := cell_of_heap (o := 3) e0
  have x4 := cell_of_heap (o := 4) e0
  have x5 := cell_of_heap (o := 5) e0
  simp only [List.getElem?_toArray, List.getElem?_cons_zero, List.getElem?_cons_succ] at x0 x1 x2 x3 x4 x5
  have m0 := lt_of_heap e0
  clear e0
  clear b1
  go_wp2_with fail
  cases q0
  · skip
    refine wp_region_S w1.heap.size 18 (fun _ => false) (Nat.le_refl _) (by kernel_rfl) (by kernel_rfl) (by kernel_rfl) ?_
    dsimp only [List.take, List.drop]
    apply relS_det (mask := []) (x := .agg #[.int .i64 x.op, .int .i64 x.course, .string x.name, .int .i64 x.n, .int .i64 x.d, .slice x.kA x.kn x.kc])
    · rfl
    · kernel_rfl
    · kernel_rfl
    · dsimp only [oblS]
      rintro w9 h9
      have hc9 := (bcell h9).1
      go_simp
      exact ⟨Below.refl _ _, rfl⟩
    dsimp only [List.nil_append, List.cons_append]
    apply relS_det (mask := [true]) (x := .bool false)
    · rfl
    · kernel_rfl
    · kernel_rfl
    · dsimp only [oblS]
      rintro w9 h9
      go_simp
      refine (HF.out _ (HB1.out.trans (h9.mono HB1.out.size))).mono ?_
      rintro e w7 ⟨rfl, hb7⟩
      exact ⟨_, rfl, hb7, rfl⟩
    dsimp only [List.nil_append, List.cons_append]
    apply relS_det (mask := [false, true])
    · rfl
    · kernel_rfl
    · kernel_rfl
    · dsimp only [oblS]
      rintro w9 h9
      go_simp
      exact ⟨Below.refl _ _, rfl⟩
    dsimp only [List.nil_append, List.cons_append]
    apply relS_det (mask := [false, false, true])
    · rfl
    · kernel_rfl
    · kernel_rfl
    · dsimp only [oblS]
      rintro w9 h9
      go_simp
      exact ⟨Below.refl _ _, rfl⟩
    dsimp only [List.nil_append, List.cons_append]
    apply relS_not (mask := [false, false, false, true]) (t := 8) (want := false) (hf := by rfl) (hg := by kernel_rfl) (hm := by kernel_rfl)
    · rfl
    dsimp only [List.nil_append, List.cons_append]
    apply relS_not (mask := [false, false, false, true, true]) (t := 8) (want := false) (hf := by rfl) (hg := by kernel_rfl) (hm := by kernel_rfl)
    · rfl
    dsimp only [List.nil_append, List.cons_append]
    apply relS_not (mask := [false, false, false, true, false, false]) (t := 8) (want := false) (hf := by rfl) (hg := by kernel_rfl) (hm := by kernel_rfl)
    · rfl
    dsimp only [List.nil_append, List.cons_append]
    apply relS_not (mask := [false, false, false, true, false, false, true]) (t := 8) (want := false) (hf := by rfl) (hg := by kernel_rfl) (hm := by kernel_rfl)
    · rfl
    dsimp only [List.nil_append, List.cons_append]
    apply relS_not (mask := [false, false, false, true, false, true, false, true]) (t := 8) (want := false) (hf := by rfl) (hg := by kernel_rfl) (hm := by kernel_rfl)
    · rfl
    dsimp only [List.nil_append, List.cons_append]
    apply relS_not (mask := [false, false, false, true, false, false, false, false, true]) (t := 8) (want := false) (hf := by rfl) (hg := by kernel_rfl) (hm := by kernel_rfl)
    · rfl
    dsimp only [List.nil_append, List.cons_append]
    apply relS_if (mask := [false, false, false, false, false, false, false, false, false, true]) (t := 14) (want := true) (g := false) (x := undef)
    · rfl
    · kernel_rfl
    · kernel_rfl
    · dsimp only [oblS]
      refine ⟨⟨undef, by rfl, (fun h => by cases h), (fun _ h => by cases h)⟩, ?_⟩
      intro hg
      rintro w9 h9
      exact absurd hg (by simp)
    dsimp only [List.nil_append, List.cons_append]
    apply relS_if (mask := [false, false, false, false, false, false, false, false, false, true, true]) (t := 14) (want := true) (g := false) (x := undef)
    · rfl
    · kernel_rfl
    · kernel_rfl
    · dsimp only [oblS]
      refine ⟨⟨undef, by rfl, (fun h => by cases h), (fun _ h => by cases h)⟩, ?_⟩
      intro hg
      rintro w9 h9
      exact absurd hg (by simp)
    dsimp only [List.nil_append, List.cons_append]
    apply relS_if (mask := [false, false, false, false, false, false, false, false, false, true, false, false]) (t := 14) (want := true) (g := false) (x := undef)
    · rfl
    · kernel_rfl
    · kernel_rfl
    · dsimp only [oblS]
      refine ⟨⟨undef, by rfl, (fun h => by cases h), (fun _ h => by cases h)⟩, ?_⟩
      intro hg
      rintro w9 h9
      exact absurd hg (by simp)
    dsimp only [List.nil_append, List.cons_append]
    apply relS_if (mask := [false, false, false, false, false, false, false, false, false, true, false, false, true]) (t := 14) (want := true) (g := false) (x := undef)
    · rfl
    · kernel_rfl
    · kernel_rfl
    · dsimp only [oblS]
      refine ⟨⟨undef, by rfl, (fun h => by cases h), (fun _ h => by cases h)⟩, ?_⟩
      intro hg
      rintro w9 h9
      exact absurd hg (by simp)
    dsimp only [List.nil_append, List.cons_append]
    apply relS_if (mask := [false, false, false, false, false, false, false, false, false, true, false, true, false, true]) (t := 14) (want := true) (g := false) (x := undef)
    · rfl
    · kernel_rfl
    · kernel_rfl
    · dsimp only [oblS]
      refine ⟨⟨undef, by rfl, (fun h => by cases h), (fun _ h => by cases h)⟩, ?_⟩
      intro hg
      rintro w9 h9
      exact absurd hg (by simp)
    dsimp only [List.nil_append, List.cons_append]
    apply relS_not (mask := [false, false, false, true, false, false, false, false, false, true, false, false, false, false, true]) (t := 8) (want := false) (hf := by rfl) (hg := by kernel_rfl) (hm := by kernel_rfl)
    · rfl
    dsimp only [List.nil_append, List.cons_append]
    apply relS_det (mask := [false, false, false, true, false, false, false, false, false, false, false, false, false, false, false, true]) (x := .bool true)
    · rfl
    · kernel_rfl
    · kernel_rfl
    · dsimp only [oblS]
      rintro w9 h9
      go_simp
      exact ⟨Below.refl _ _, rfl⟩
    dsimp only [List.nil_append, List.cons_append]
    apply relS_det (mask := [false, false, false, false, false, false, false, false, false, false, false, false, false, false, false, false, true])
    · rfl
    · kernel_rfl
    · kernel_rfl
    · dsimp only [oblS]
      rintro w9 h9
      go_simp
      exact ⟨Below.refl _ _, rfl⟩
    dsimp only [List.nil_append, List.cons_append]
    refine relS_end (by rfl) ?_
    dsimp only [finS]
    -- rintro  w8 hb
    rintro w8 hb8
    go_simp
    go_wp2_with fail
    go_ret
    exact ⟨rfl, HB1.out.trans (hb8.mono HB1.out.size)⟩
  refine wp_region_S w1.heap.size 18 (fun _ => false) (Nat.le_refl _) (by kernel_rfl) (by kernel_rfl) (by kernel_rfl) ?_
  dsimp only [List.take, List.drop]
  apply relS_det (mask := []) (x := .agg #[.int .i64 x.op, .int .i64 x.course, .string x.name, .int .i64 x.n, .int .i64 x.d, .slice x.kA x.kn x.kc])
  · rfl
  · kernel_rfl
  · kernel_rfl
  · dsimp only [oblS]
    rintro w9 h9
    have hc9 := (bcell h9).1
    go_simp
    exact ⟨Below.refl _ _, rfl⟩
  dsimp only [List.nil_append, List.cons_append]
  apply relS_det (mask := [true]) (x := .bool true)
  · rfl
  · kernel_rfl
  · kernel_rfl
  · dsimp only [oblS]
    rintro w9 h9
    go_simp
    refine (HF.out _ (HB1.out.trans (h9.mono HB1.out.size))).mono ?_
    rintro e w7 ⟨rfl, hb7⟩
    exact ⟨_, rfl, hb7, rfl⟩
  dsimp only [List.nil_append, List.cons_append]
  apply relS_det (mask := [false, true])
  · rfl
  · kernel_rfl
  · kernel_rfl
  · dsimp only [oblS]
    rintro w9 h9
    go_simp
    exact ⟨Below.refl _ _, rfl⟩
  dsimp only [List.nil_append, List.cons_append]
  apply relS_det (mask := [false, false, true])
  · rfl
  · kernel_rfl
  · kernel_rfl
  · dsimp only [oblS]
    rintro w9 h9
    go_simp
    exact ⟨Below.refl _ _, rfl⟩
  dsimp only [List.nil_append, List.cons_append]
  apply relS_detg (mask := [false, false, false, true]) (t := 8) (want := false) (x := .agg #[.int .i64 x.op, .int .i64 x.course, .string x.name, .int .i64 x.n, .int .i64 x.d, .slice x.kA x.kn x.kc])
  · rfl
  · kernel_rfl
  · kernel_rfl
  · dsimp only [oblS]
    refine ⟨by rfl, ?_⟩
    rintro w9 h9
    have hc9 := (bcell h9).1
    go_simp
    exact ⟨Below.refl _ _, rfl⟩
  dsimp only [List.nil_append, List.cons_append]
  apply relS_anyg (mask := [false, false, false, true, true]) (t := 8) (want := false) (T := fun v w => ∃ A n c, v = .slice A n c ∧ rSl w w.heap.size A n c (atomsR x)) (hT := fun v w w' hb ⟨A, n, c, hv, hh⟩ => ⟨A, n, c, hv, Rows.keep rStable hh hb.size hb.block⟩)
  · rfl
  · kernel_rfl
  · kernel_rfl
  · dsimp only [oblS]
    refine ⟨by rfl, ?_⟩
    rintro w9 h9 T' hT'
    go_simp
    refine (uAtoms_any hx x _ (HRu.out _ (HB1.out.trans (h9.mono HB1.out.size))) (by have := HS.out rfl; omega)).mono ?_
    rintro e w7 ⟨A, n, c, d, rfl, hp, hs, hrow, hb7⟩
    exact ⟨_, rfl, hb7, hT' _ _ ⟨A, n, c, rfl, by rw [← atoms_eq hp hs]; exact ruSl_to hrow⟩⟩
  dsimp only [List.nil_append, List.cons_append]
  apply relS_detg (mask := [false, false, false, true, false, false]) (t := 8) (want := false) (x := .agg #[.int .i64 x.op, .int .i64 x.course, .string x.name, .int .i64 x.n, .int .i64 x.d, .slice x.kA x.kn x.kc])
  · rfl
  · kernel_rfl
  · kernel_rfl
  · dsimp only [oblS]
    refine ⟨by rfl, ?_⟩
    rintro w9 h9
    have hc9 := (bcell h9).1
    go_simp
    exact ⟨Below.refl _ _, rfl⟩
  dsimp only [List.nil_append, List.cons_append]
  apply relS_anyg (mask := [false, false, false, true, false, false, true]) (t := 8) (want := false) (T := fun v w => ∃ A n c, v = .slice A n c ∧ rSl w w.heap.size A n c (atomsR x)) (hT := fun v w w' hb ⟨A, n, c, hv, hh⟩ => ⟨A, n, c, hv, Rows.keep rStable hh hb.size hb.block⟩)
  · rfl
  · kernel_rfl
  · kernel_rfl
  · dsimp only [oblS]
    refine ⟨by rfl, ?_⟩
    rintro w9 h9 T' hT'
    go_simp
    refine (vAtoms_any hx x _ (HRu.out _ (HB1.out.trans (h9.mono HB1.out.size))) (HS.out rfl)).mono ?_
    rintro e w7 ⟨A, n, c, rfl, hrow, hb7⟩
    exact ⟨_, rfl, hb7, hT' _ _ ⟨A, n, c, rfl, hrow⟩⟩
  dsimp only [List.nil_append, List.cons_append]
  apply relS_detg (mask := [false, false, false, true, false, true, false, true]) (t := 8) (want := false) (x := .bool true)
  · rfl
  · kernel_rfl
  · kernel_rfl
  · dsimp only [oblS]
    intro v10 v12
    refine ⟨by rfl, ?_⟩
    rintro w9 ⟨⟨h9, t10⟩, t12⟩
    obtain ⟨A1, n1, c1, rfl, r1⟩ := t10
    obtain ⟨A2, n2, c2, rfl, r2⟩ := t12
    go_simp
    refine (vSameAtoms_any A1 A2 n1 c1 n2 c2 _ _ _ r1 r2).mono ?_
    rintro e w7 ⟨rfl, hb7⟩
    exact ⟨_, rfl, hb7, by simp [IsV]⟩
  dsimp only [List.nil_append, List.cons_append]
  apply relS_detg (mask := [false, false, false, true, false, false, false, false, true]) (t := 8) (want := false) (x := .bool true)
  · rfl
  · kernel_rfl
  · kernel_rfl
  · dsimp only [oblS]
    refine ⟨by rfl, ?_⟩
    rintro w9 h9
    go_simp
    exact ⟨Below.refl _ _, rfl⟩
  dsimp only [List.nil_append, List.cons_append]
  apply relS_detg (mask := [false, false, false, false, false, false, false, false, false, true]) (t := 14) (want := true) (x := .agg #[.int .i64 x.op, .int .i64 x.course, .string x.name, .int .i64 x.n, .int .i64 x.d, .slice x.kA x.kn x.kc])
  · rfl
  · kernel_rfl
  · kernel_rfl
  · dsimp only [oblS]
    refine ⟨by rfl, ?_⟩
    rintro w9 h9
    have hc9 := (bcell h9).1
    go_simp
    exact ⟨Below.refl _ _, rfl⟩
  dsimp only [List.nil_append, List.cons_append]
  apply relS_anyg (mask := [false, false, false, false, false, false, false, false, false, true, true]) (t := 14) (want := true) (T := fun v w => ∃ A n c, v = .slice A n c ∧ iSl w w.heap.size A n c (coursesR x)) (hT := fun v w w' hb ⟨A, n, c, hv, hh⟩ => ⟨A, n, c, hv, hh.keep (Rep.flat_stable _) hb.size hb.block⟩)
  · rfl
  · kernel_rfl
  · kernel_rfl
  · dsimp only [oblS]
    refine ⟨by rfl, ?_⟩
    rintro w9 h9 T' hT'
    go_simp
    refine (uCourses_any hx x _ (HRu.out _ (HB1.out.trans (h9.mono HB1.out.size))) (by have := HS.out rfl; omega)).mono ?_
    rintro e w7 ⟨A, n, c, xs, rfl, hp, hrow, hb7⟩
    exact ⟨_, rfl, hb7, hT' _ _ ⟨A, n, c, rfl, by rw [← courses_eq hp]; exact hrow⟩⟩
  dsimp only [List.nil_append, List.cons_append]
  apply relS_detg (mask := [false, false, false, false, false, false, false, false, false, true, false, false]) (t := 14) (want := true) (x := .agg #[.int .i64 x.op, .int .i64 x.course, .string x.name, .int .i64 x.n, .int .i64 x.d, .slice x.kA x.kn x.kc])
  · rfl
  · kernel_rfl
  · kernel_rfl
  · dsimp only [oblS]
    refine ⟨by rfl, ?_⟩
    rintro w9 h9
    have hc9 := (bcell h9).1
    go_simp
    exact ⟨Below.refl _ _, rfl⟩
  dsimp only [List.nil_append, List.cons_append]
  apply relS_anyg (mask := [false, false, false, false, false, false, false, false, false, true, false, false, true]) (t := 14) (want := true) (T := fun v w => ∃ A n c, v = .slice A n c ∧ iSl w w.heap.size A n c (coursesR x)) (hT := fun v w w' hb ⟨A, n, c, hv, hh⟩ => ⟨A, n, c, hv, hh.keep (Rep.flat_stable _) hb.size hb.block⟩)
  · rfl
  · kernel_rfl
  · kernel_rfl
  · dsimp only [oblS]
    refine ⟨by rfl, ?_⟩
    rintro w9 h9 T' hT'
    go_simp
    refine (vCourses_any hx x _ (HRu.out _ (HB1.out.trans (h9.mono HB1.out.size))) (HS.out rfl)).mono ?_
    rintro e w7 ⟨A, n, c, rfl, hrow, hb7⟩
    exact ⟨_, rfl, hb7, hT' _ _ ⟨A, n, c, rfl, hrow⟩⟩
  dsimp only [List.nil_append, List.cons_append]
  apply relS_detg (mask := [false, false, false, false, false, false, false, false, false, true, false, true, false, true]) (t := 14) (want := true) (x := .bool true)
  · rfl
  · kernel_rfl
  · kernel_rfl
  · dsimp only [oblS]
    intro v16 v18
    refine ⟨by rfl, ?_⟩
    rintro w9 ⟨⟨h9, t16⟩, t18⟩
    obtain ⟨A1, n1, c1, rfl, r1⟩ := t16
    obtain ⟨A2, n2, c2, rfl, r2⟩ := t18
    go_simp
    refine (vSameInts_any A1 A2 n1 c1 n2 c2 _ _ _ r1 r2).mono ?_
    rintro e w7 ⟨rfl, hb7⟩
    exact ⟨_, rfl, hb7, by simp [IsV]⟩
  dsimp only [List.nil_append, List.cons_append]
  apply relS_detg (mask := [false, false, false, true, false, false, false, false, false, true, false, false, false, false, true]) (t := 8) (want := false) (x := .bool true)
  · rfl
  · kernel_rfl
  · kernel_rfl
  · dsimp only [oblS]
    refine ⟨by rfl, ?_⟩
    rintro w9 h9
    go_simp
    exact ⟨Below.refl _ _, rfl⟩
  dsimp only [List.nil_append, List.cons_append]
  apply relS_det (mask := [false, false, false, true, false, false, false, false, false, false, false, false, false, false, false, true]) (x := .bool true)
  · rfl
  · kernel_rfl
  · kernel_rfl
  · dsimp only [oblS]
    rintro w9 h9
    go_simp
    exact ⟨Below.refl _ _, rfl⟩
  dsimp only [List.nil_append, List.cons_append]
  apply relS_det (mask := [false, false, false, false, false, false, false, false, false, false, false, false, false, false, false, false, true])
  · rfl
  · kernel_rfl
  · kernel_rfl
  · dsimp only [oblS]
    rintro w9 h9
    go_simp
    exact ⟨Below.refl _ _, rfl⟩
  dsimp only [List.nil_append, List.cons_append]
  refine relS_end (by rfl) ?_
  dsimp only [finS]
  -- rintro v10 v12 v16 v18 w8 ⟨⟨⟨⟨hb, t10⟩, t12⟩, t16⟩, t18⟩
  rintro v10 v12 v16 v18 w8 ⟨⟨⟨⟨hb8, _⟩, _⟩, _⟩, _⟩
  go_simp
  go_wp2_with fail
  go_ret
  exact ⟨rfl, HB1.out.trans (hb8.mono HB1.out.size)⟩
end Go.Proofs.YtbmbpannhncpjaaDoor
