/- IndexReplaceSpec walked. Regions printed by tools/gen60.py. -/
import Derived.Test.YtologegkbcedhaaH12
import Derived.Test.YtologegkbcedhaaH5
namespace Go.Proofs.Ytologegkbcedhaa
open Go.RowKit Go.Shelf

def ReplaceSpecCalls : Prop := ∀ (A : Option Addr) (n c : Nat) (X : List Lk) (many at' : Int) (d : DeV) (rs : List Rd) (w : World), lSl w w.heap.size A n c X → RdSl w w.heap.size d.rA d.rn d.rc rs →
  Calls Try.prog 4 #[.agg #[.slice A n c], .int .i64 many, .int .i64 at', .agg #[.int .i64 d.q0, .int .i64 d.q1, .int .i64 d.q2, .int .i64 d.q3, .int .i64 d.an, .int .i64 d.la, .int .i64 d.kn, .slice d.wA d.wn d.wc, .slice d.rA d.rn d.rc, .slice d.mA d.mn d.mc]] w fun e w' => e = .returned (.bool true) ∧ Below w.heap.size w w'
set_option maxRecDepth 100000 in
set_option maxHeartbeats 4000000 in
theorem replaceSpec_calls : ReplaceSpecCalls := by
  intro A n c X many at' d rs w hl hrs
  have HL := hidp hl
  have HRS := hidp hrs
  obtain ⟨W0, hW0⟩ : ∃ W0, (w.alloc (.cells #[.slice A n c] 28)).alloc (.cells #[.int .i64 d.q0, .int .i64 d.q1, .int .i64 d.q2, .int .i64 d.q3, .int .i64 d.an, .int .i64 d.la, .int .i64 d.kn, .slice d.wA d.wn d.wc, .slice d.rA d.rn d.rc, .slice d.mA d.mn d.mc] 35) = W0 := ⟨_, rfl⟩
  have hBW : Below w.heap.size w W0 := by rw [← hW0]; exact ((Below.refl _ w).alloc (Nat.le_refl _) _).alloc (by simp) _
  have g0 : W0.heap[w.heap.size]? = some (.cells #[.slice A n c] 28 (0, 0)) := by rw [← hW0]; exact (Below.heap_alloc _ _ _ (by simp)).trans (World.alloc_heap_new _ _)
  have g1 : W0.heap[w.heap.size + 1]? = some (.cells #[.int .i64 d.q0, .int .i64 d.q1, .int .i64 d.q2, .int .i64 d.q3, .int .i64 d.an, .int .i64 d.la, .int .i64 d.kn, .slice d.wA d.wn d.wc, .slice d.rA d.rn d.rc, .slice d.mA d.mn d.mc] 35 (0, 0)) := by rw [← hW0]; have := World.alloc_heap_new (w.alloc (.cells #[.slice A n c] 28)) (.cells #[.int .i64 d.q0, .int .i64 d.q1, .int .i64 d.q2, .int .i64 d.q3, .int .i64 d.an, .int .i64 d.la, .int .i64 d.kn, .slice d.wA d.wn d.wc, .slice d.rA d.rn d.rc, .slice d.mA d.mn d.mc] 35); rwa [World.size_alloc] at this
  have HW0 := hidp hW0
  have G0 := hidp g0
  have G1 := hidp g1
  have HBW := hidp hBW
  clear hW0 g0 g1 hBW hl hrs
  go_enter Try.func4, Try.ntmps4
  go_wp2_with fail
  rw [HW0.out]
  refine (sane35_any W0).mono ?_
  rintro e w1 ⟨rfl, hb1⟩
  have l0 := lt_of_heap G0.out
  have d0 := cell_of_heap (o := 0) ((hb1.block _ l0).trans G0.out)
  simp only [List.getElem?_toArray, List.getElem?_cons_zero] at d0
  have l1 := lt_of_cell d0
  have hB1 := HBW.out.trans (hb1.mono HBW.out.size)
  go_wp2_with fail
  refine (few35_any A n c none 0 0 [] w1 (Rows.nil (by decide))).mono ?_
  rintro e w2 ⟨rfl, hb2⟩
  obtain ⟨z, hz⟩ : ∃ z, fewX n 0 [] = z := ⟨_, rfl⟩
  rw [hz]
  have hB2 := hB1.trans (hb2.mono hB1.size)
  have hBD : Below W0.heap.size W0 w2 := hb1.trans (hb2.mono hb1.size)
  have hd := (hBD.block _ (lt_of_heap G1.out)).trans G1.out
  have e8 := cell_of_heap (o := 8) hd
  simp only [List.getElem?_toArray, List.getElem?_cons_zero, List.getElem?_cons_succ] at e8
  have l2 := lt_of_cell e8
  cases z
  · clear d0 l1 hd
    go_wp2_with fail
    go_ret
    exact ⟨rfl, hB2⟩
  · have h60 : n ≤ 60 := by
      simp only [fewX, Bool.and_eq_true, decide_eq_true_iff] at hz
      exact hz.2.1
    by_cases h30 : d.rn ≤ 30
    · have hd3 : decide ((30 : Int) < (d.rn : Int)) = false := by simpa using (by omega : (d.rn : Int) ≤ 30)
      have hM : ∀ W, Below w2.heap.size w2 W → (W.cell? ⟨w.heap.size, 0, none⟩ = some (.slice A n c) ∧ w.heap.size < W.heap.size ∧ w.heap.size + 1 < W.heap.size ∧ W.heap[w.heap.size + 1]? = some (.cells #[.int .i64 d.q0, .int .i64 d.q1, .int .i64 d.q2, .int .i64 d.q3, .int .i64 d.an, .int .i64 d.la, .int .i64 d.kn, .slice d.wA d.wn d.wc, .slice d.rA d.rn d.rc, .slice d.mA d.mn d.mc] 35 (0, 0))) ∧ lSl W W.heap.size A n c X ∧ RdSl W W.heap.size d.rA d.rn d.rc rs := fun W hW => by
        have h1 : Below w1.heap.size w1 W := hb2.trans (hW.mono hb2.size)
        have h2 : Below W0.heap.size W0 W := hb1.trans (h1.mono hb1.size)
        have hw : Below w.heap.size w W := hB2.trans (hW.mono hB2.size)
        have h3 := (h2.block _ (lt_of_heap G1.out)).trans G1.out
        exact ⟨⟨by rw [(bcell h1).1 _ _ l1]; exact d0, Nat.lt_of_lt_of_le l1 h1.size, lt_of_heap h3, h3⟩, HL.out.keep lStable hw.size hw.block, HRS.out.keep rdStable hw.size hw.block⟩
      have HM := hidp hM
      have HB2 := hidp hB2
      have H30 := hidp h30
      clear hM hB2 hB1 hBD hb1 hb2 d0 hz h30 hd
      go_wp2_with fail
      refine wp_region_S w2.heap.size 19 (fun _ => false) (Nat.le_refl _) (by kernel_rfl) (by kernel_rfl) (by kernel_rfl) ?_
      dsimp only [List.take, List.drop]
      apply relS_det (mask := []) (x := .agg #[.slice A n c])
      · rfl
      · kernel_rfl
      · kernel_rfl
      · dsimp only [oblS]
        rintro w9 h9
        obtain ⟨⟨m0, m1, m2, md⟩, ml, mr⟩ := HM.out w9 h9
        go_simp
        exact ⟨Below.refl _ _, rfl⟩
      dsimp only [List.nil_append, List.cons_append]
      apply relS_det (mask := [false])
      · rfl
      · kernel_rfl
      · kernel_rfl
      · dsimp only [oblS]
        rintro w9 h9
        go_simp
        exact ⟨Below.refl _ _, rfl⟩
      dsimp only [List.nil_append, List.cons_append]
      apply relS_det (mask := [true, true]) (x := .int .i64 (checkL X many))
      · rfl
      · kernel_rfl
      · kernel_rfl
      · dsimp only [oblS]
        rintro w9 h9
        obtain ⟨⟨m0, m1, m2, md⟩, ml, mr⟩ := HM.out w9 h9
        go_simp
        refine (xCheck_any A n c X many w9 ml).mono ?_
        rintro e w3 ⟨rfl, hb3⟩
        exact ⟨_, rfl, hb3, rfl⟩
      dsimp only [List.nil_append, List.cons_append]
      apply relS_det (mask := [false, false, false]) (x := .agg #[.slice A n c])
      · rfl
      · kernel_rfl
      · kernel_rfl
      · dsimp only [oblS]
        rintro w9 h9
        obtain ⟨⟨m0, m1, m2, md⟩, ml, mr⟩ := HM.out w9 h9
        go_simp
        exact ⟨Below.refl _ _, rfl⟩
      dsimp only [List.nil_append, List.cons_append]
      apply relS_det (mask := [false, false, false, false])
      · rfl
      · kernel_rfl
      · kernel_rfl
      · dsimp only [oblS]
        rintro w9 h9
        go_simp
        exact ⟨Below.refl _ _, rfl⟩
      dsimp only [List.nil_append, List.cons_append]
      apply relS_det (mask := [false, false, false, true, true]) (x := .int .i64 (checkL X many))
      · rfl
      · kernel_rfl
      · kernel_rfl
      · dsimp only [oblS]
        rintro w9 h9
        obtain ⟨⟨m0, m1, m2, md⟩, ml, mr⟩ := HM.out w9 h9
        go_simp
        refine (qCheck_any A n c X many w9 ml).mono ?_
        rintro e w3 ⟨rfl, hb3⟩
        exact ⟨_, rfl, hb3, rfl⟩
      dsimp only [List.nil_append, List.cons_append]
      apply relS_det (mask := [false, false, true, false, false, true]) (x := .bool true)
      · rfl
      · kernel_rfl
      · kernel_rfl
      · dsimp only [oblS]
        rintro w9 h9
        go_simp
        exact ⟨Below.refl _ _, rfl⟩
      dsimp only [List.nil_append, List.cons_append]
      apply relS_det (mask := [false, false, false, false, false, false, true])
      · rfl
      · kernel_rfl
      · kernel_rfl
      · dsimp only [oblS]
        rintro w9 h9
        go_simp
        exact ⟨Below.refl _ _, rfl⟩
      dsimp only [List.nil_append, List.cons_append]
      apply relS_detg (mask := [false, false, false, false, false, false, false, true]) (t := 27) (want := true) (x := .agg #[.slice A n c])
      · rfl
      · kernel_rfl
      · kernel_rfl
      · dsimp only [oblS]
        refine ⟨by rfl, ?_⟩
        rintro w9 h9
        obtain ⟨⟨m0, m1, m2, md⟩, ml, mr⟩ := HM.out w9 h9
        go_simp
        exact ⟨Below.refl _ _, rfl⟩
      dsimp only [List.nil_append, List.cons_append]
      apply relS_detg (mask := [false, false, false, false, false, false, false, true, false]) (t := 27) (want := true)
      · rfl
      · kernel_rfl
      · kernel_rfl
      · dsimp only [oblS]
        refine ⟨by rfl, ?_⟩
        rintro w9 h9
        go_simp
        exact ⟨Below.refl _ _, rfl⟩
      dsimp only [List.nil_append, List.cons_append]
      apply relS_detg (mask := [false, false, false, false, false, false, false, true, false, false]) (t := 27) (want := true) (x := .agg #[.int .i64 d.q0, .int .i64 d.q1, .int .i64 d.q2, .int .i64 d.q3, .int .i64 d.an, .int .i64 d.la, .int .i64 d.kn, .slice d.wA d.wn d.wc, .slice d.rA d.rn d.rc, .slice d.mA d.mn d.mc])
      · rfl
      · kernel_rfl
      · kernel_rfl
      · dsimp only [oblS]
        refine ⟨by rfl, ?_⟩
        rintro w9 h9
        obtain ⟨⟨m0, m1, m2, md⟩, ml, mr⟩ := HM.out w9 h9
        have y0 := cell_of_heap (o := 0) md
        have y1 := cell_of_heap (o := 1) md
        have y2 := cell_of_heap (o := 2) md
        have y3 := cell_of_heap (o := 3) md
        have y4 := cell_of_heap (o := 4) md
        have y5 := cell_of_heap (o := 5) md
        have y6 := cell_of_heap (o := 6) md
        have y7 := cell_of_heap (o := 7) md
        have y8 := cell_of_heap (o := 8) md
        have y9 := cell_of_heap (o := 9) md
        simp only [List.getElem?_toArray, List.getElem?_cons_zero, List.getElem?_cons_succ] at y0 y1 y2 y3 y4 y5 y6 y7 y8 y9
        clear md
        go_simp
        exact ⟨Below.refl _ _, rfl⟩
      dsimp only [List.nil_append, List.cons_append]
      apply relS_anyg (mask := [false, false, false, false, false, false, false, true, true, true, true]) (t := 27) (want := true) (T := IxT (replL X at' rs)) (hT := IxT_stable _)
      · rfl
      · kernel_rfl
      · kernel_rfl
      · dsimp only [oblS]
        refine ⟨by rfl, ?_⟩
        rintro w9 h9 T' hT'
        obtain ⟨⟨m0, m1, m2, md⟩, ml, mr⟩ := HM.out w9 h9
        go_simp
        refine (xReplace_any A n c X at' d rs w9 ml mr (by omega) (by have := H30.out; omega)).mono ?_
        rintro e w3 ⟨A9, n9, c9, rfl, q1, q2⟩
        exact ⟨_, rfl, q2, hT' _ _ ⟨A9, n9, c9, rfl, q1⟩⟩
      dsimp only [List.nil_append, List.cons_append]
      apply relS_detg (mask := [false, false, false, false, false, false, false, true, false, false, false, false]) (t := 27) (want := true) (x := .agg #[.slice A n c])
      · rfl
      · kernel_rfl
      · kernel_rfl
      · dsimp only [oblS]
        refine ⟨by rfl, ?_⟩
        rintro w9 h9
        obtain ⟨⟨m0, m1, m2, md⟩, ml, mr⟩ := HM.out w9 h9
        go_simp
        exact ⟨Below.refl _ _, rfl⟩
      dsimp only [List.nil_append, List.cons_append]
      apply relS_detg (mask := [false, false, false, false, false, false, false, true, false, false, false, false, false]) (t := 27) (want := true)
      · rfl
      · kernel_rfl
      · kernel_rfl
      · dsimp only [oblS]
        refine ⟨by rfl, ?_⟩
        rintro w9 h9
        go_simp
        exact ⟨Below.refl _ _, rfl⟩
      dsimp only [List.nil_append, List.cons_append]
      apply relS_detg (mask := [false, false, false, false, false, false, false, true, false, false, false, false, false, false]) (t := 27) (want := true) (x := .agg #[.int .i64 d.q0, .int .i64 d.q1, .int .i64 d.q2, .int .i64 d.q3, .int .i64 d.an, .int .i64 d.la, .int .i64 d.kn, .slice d.wA d.wn d.wc, .slice d.rA d.rn d.rc, .slice d.mA d.mn d.mc])
      · rfl
      · kernel_rfl
      · kernel_rfl
      · dsimp only [oblS]
        refine ⟨by rfl, ?_⟩
        rintro w9 h9
        obtain ⟨⟨m0, m1, m2, md⟩, ml, mr⟩ := HM.out w9 h9
        have y0 := cell_of_heap (o := 0) md
        have y1 := cell_of_heap (o := 1) md
        have y2 := cell_of_heap (o := 2) md
        have y3 := cell_of_heap (o := 3) md
        have y4 := cell_of_heap (o := 4) md
        have y5 := cell_of_heap (o := 5) md
        have y6 := cell_of_heap (o := 6) md
        have y7 := cell_of_heap (o := 7) md
        have y8 := cell_of_heap (o := 8) md
        have y9 := cell_of_heap (o := 9) md
        simp only [List.getElem?_toArray, List.getElem?_cons_zero, List.getElem?_cons_succ] at y0 y1 y2 y3 y4 y5 y6 y7 y8 y9
        clear md
        go_simp
        exact ⟨Below.refl _ _, rfl⟩
      dsimp only [List.nil_append, List.cons_append]
      apply relS_anyg (mask := [false, false, false, false, false, false, false, true, false, false, false, false, true, true, true]) (t := 27) (want := true) (T := IxT (replL X at' rs)) (hT := IxT_stable _)
      · rfl
      · kernel_rfl
      · kernel_rfl
      · dsimp only [oblS]
        refine ⟨by rfl, ?_⟩
        rintro w9 h9 T' hT'
        obtain ⟨⟨m0, m1, m2, md⟩, ml, mr⟩ := HM.out w9 h9
        go_simp
        refine (qReplace_any A n c X at' d rs w9 ml mr (by omega) (by have := H30.out; omega)).mono ?_
        rintro e w3 ⟨A9, n9, c9, rfl, q1, q2⟩
        exact ⟨_, rfl, q2, hT' _ _ ⟨A9, n9, c9, rfl, q1⟩⟩
      dsimp only [List.nil_append, List.cons_append]
      apply relS_detg (mask := [false, false, false, false, false, false, false, true, false, false, false, true, false, false, false, true]) (t := 27) (want := true) (x := .bool true)
      · rfl
      · kernel_rfl
      · kernel_rfl
      · dsimp only [oblS]
        intro v31 v35
        refine ⟨by rfl, ?_⟩
        rintro w9 ⟨⟨h9, t31⟩, t35⟩
        obtain ⟨Aa, na, ca, rfl, h1⟩ := t31
        obtain ⟨Ab, nb, cb, rfl, h2⟩ := t35
        go_simp
        refine (qSame_any _ _ _ _ _ _ _ _ w9 h1 h2).mono ?_
        rintro e w3 ⟨rfl, hb3⟩
        exact ⟨_, rfl, hb3, by rw [decide_eq_true rfl]; rfl⟩
      dsimp only [List.nil_append, List.cons_append]
      apply relS_det (mask := [false, false, false, false, false, false, false, true, false, false, false, false, false, false, false, false, true])
      · rfl
      · kernel_rfl
      · kernel_rfl
      · dsimp only [oblS]
        rintro w9 h9
        go_simp
        exact ⟨Below.refl _ _, rfl⟩
      dsimp only [List.nil_append, List.cons_append]
      apply relS_det (mask := [false, false, false, false, false, false, false, false, false, false, false, false, false, false, false, false, false, true])
      · rfl
      · kernel_rfl
      · kernel_rfl
      · dsimp only [oblS]
        rintro w9 h9
        go_simp
        exact ⟨Below.refl _ _, rfl⟩
      dsimp only [List.nil_append, List.cons_append]
      refine relS_end (by rfl) ?_
      dsimp only [finS]
      -- rintro v31 v35 w8 ⟨⟨hb, t31⟩, t35⟩
      rintro v31 v35 w4 ⟨⟨hb4, -⟩, -⟩
      go_frame
      go_wp2_with fail
      go_ret
      exact ⟨rfl, HB2.out.trans (hb4.mono HB2.out.size)⟩
    · have hd3 : decide ((30 : Int) < (d.rn : Int)) = true := by simpa using (by omega : (30 : Int) < (d.rn : Int))
      clear hd d0
      go_wp2_with fail
      go_ret
      exact ⟨rfl, hB2⟩
end Go.Proofs.Ytologegkbcedhaa
