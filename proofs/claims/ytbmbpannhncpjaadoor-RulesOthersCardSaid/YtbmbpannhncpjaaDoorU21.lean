/- RulesMonotone walked (printed by tools/gen83.py). -/
import Derived.Test.YtbmbpannhncpjaaDoorU20
import Derived.Test.YtbmbpannhncpjaaDoorU12
import Derived.Test.YtbmbpannhncpjaaDoorUP1
namespace Go.Proofs.YtbmbpannhncpjaaDoor
open Go.RowKit Go.Sort

theorem holdsB_eq {x : Ru} {s : Si} (h1 : checkB x = true) (h2 : fitsB s = true) : holdsB x s = valR s x := by simp [holdsB, h1, h2]
set_option maxRecDepth 100000 in
set_option maxHeartbeats 8000000 in
theorem monotone_calls (hx : Nat) (x : Ru) (a b : Si) (w : World) (hr : RuIn hx w w.heap.size x) (ha : SiIn w w.heap.size a) (hb : SiIn w w.heap.size b) (hkk : KindsAt w) :
    Calls Tryd.prog 6 #[.agg #[.int .i64 x.op, .int .i64 x.course, .string x.name, .int .i64 x.n, .int .i64 x.d, .slice x.kA x.kn x.kc], .agg #[.slice a.sA a.sn a.sc, .int .i64 a.earned, .int .i64 a.num, .int .i64 a.den], .agg #[.slice b.sA b.sn b.sc, .int .i64 b.earned, .int .i64 b.num, .int .i64 b.den]] w fun e w' => e = .returned (.bool true) ∧ Below w.heap.size w w' := by
  have lk := hkk.lt
  have HKK := hidp hkk
  have hca := ha.2.2.1
  have hla := ha.2.1
  have hcb := hb.2.2.1
  have hlb := hb.2.1
  have hRu : ∀ W, Below w.heap.size w W → RuIn hx W W.heap.size x := fun W h => hr.keep h.size h.block
  have hSa : ∀ W, Below w.heap.size w W → SiIn W W.heap.size a := fun W h => ha.keep h.size h.block
  have hSb : ∀ W, Below w.heap.size w W → SiIn W W.heap.size b := fun W h => hb.keep h.size h.block
  have HRu := hidp hRu
  have HSa := hidp hSa
  have HSb := hidp hSb
  clear hRu hSa hSb hr ha hb hkk
  obtain ⟨W0, hW0⟩ : ∃ W0, (((w.alloc (.cells #[.int .i64 x.op, .int .i64 x.course, .string x.name, .int .i64 x.n, .int .i64 x.d, .slice x.kA x.kn x.kc] 24)).alloc (.cells #[.slice a.sA a.sn a.sc, .int .i64 a.earned, .int .i64 a.num, .int .i64 a.den] 29)).alloc (.cells #[.slice b.sA b.sn b.sc, .int .i64 b.earned, .int .i64 b.num, .int .i64 b.den] 29)) = W0 := ⟨_, rfl⟩
  have hBW : Below w.heap.size w W0 := by rw [← hW0]; exact ((((Below.refl _ w).alloc (by first | exact Nat.le_refl _ | (simp <;> omega)) _).alloc (by first | exact Nat.le_refl _ | (simp <;> omega)) _).alloc (by first | exact Nat.le_refl _ | (simp <;> omega)) _)
  have g0 : W0.heap[w.heap.size]? = some (.cells #[.int .i64 x.op, .int .i64 x.course, .string x.name, .int .i64 x.n, .int .i64 x.d, .slice x.kA x.kn x.kc] 24 (0, 0)) := by
    rw [← hW0, Below.heap_alloc _ _ _ (by simp <;> omega), Below.heap_alloc _ _ _ (by simp <;> omega)]
    have := World.alloc_heap_new w (.cells #[.int .i64 x.op, .int .i64 x.course, .string x.name, .int .i64 x.n, .int .i64 x.d, .slice x.kA x.kn x.kc] 24)
    exact this
  have g1 : W0.heap[w.heap.size + 1]? = some (.cells #[.slice a.sA a.sn a.sc, .int .i64 a.earned, .int .i64 a.num, .int .i64 a.den] 29 (0, 0)) := by
    rw [← hW0, Below.heap_alloc _ _ _ (by simp <;> omega)]
    have := World.alloc_heap_new (w.alloc (.cells #[.int .i64 x.op, .int .i64 x.course, .string x.name, .int .i64 x.n, .int .i64 x.d, .slice x.kA x.kn x.kc] 24)) (.cells #[.slice a.sA a.sn a.sc, .int .i64 a.earned, .int .i64 a.num, .int .i64 a.den] 29)
    rwa [World.size_alloc] at this
  have g2 : W0.heap[w.heap.size + 1 + 1]? = some (.cells #[.slice b.sA b.sn b.sc, .int .i64 b.earned, .int .i64 b.num, .int .i64 b.den] 29 (0, 0)) := by
    rw [← hW0]
    have := World.alloc_heap_new ((w.alloc (.cells #[.int .i64 x.op, .int .i64 x.course, .string x.name, .int .i64 x.n, .int .i64 x.d, .slice x.kA x.kn x.kc] 24)).alloc (.cells #[.slice a.sA a.sn a.sc, .int .i64 a.earned, .int .i64 a.num, .int .i64 a.den] 29)) (.cells #[.slice b.sA b.sn b.sc, .int .i64 b.earned, .int .i64 b.num, .int .i64 b.den] 29)
    rwa [World.size_alloc, World.size_alloc] at this
  have HW0 := hidp hW0
  have G0 := hidp g0
  have l0 := lt_of_heap g0
  have G1 := hidp g1
  have l1 := lt_of_heap g1
  have G2 := hidp g2
  have l2 := lt_of_heap g2
  have HBW := hidp hBW
  have x0 := cell_of_heap (o := 0) g0
  have x1 := cell_of_heap (o := 1) g0
  have x2 := cell_of_heap (o := 2) g0
  have x3 := cell_of_heap (o := 3) g0
  have x4 := cell_of_heap (o := 4) g0
  have x5 := cell_of_heap (o := 5) g0
  have y0 := cell_of_heap (o := 0) g1
  have y1 := cell_of_heap (o := 1) g1
  have y2 := cell_of_heap (o := 2) g1
  have y3 := cell_of_heap (o := 3) g1
  have z0 := cell_of_heap (o := 0) g2
  have z1 := cell_of_heap (o := 1) g2
  have z2 := cell_of_heap (o := 2) g2
  have z3 := cell_of_heap (o := 3) g2
  simp only [List.getElem?_toArray, List.getElem?_cons_zero, List.getElem?_cons_succ] at x0 x1 x2 x3 x4 x5 y0 y1 y2 y3 z0 z1 z2 z3
  clear hW0 g0 g1 g2
  go_enter Tryd.func6, Tryd.ntmps6
  go_wp2_with fail
  rw [HW0.out]
  refine (sane_any W0 (HKK.out.below HBW.out lk)).mono ?_
  rintro e w1 ⟨rfl, h1⟩
  have b1 := HBW.out.trans (h1.mono HBW.out.size)
  clear x0 x1 x2 x3 x4 x5 y0 y1 y2 y3 z0 z1 z2 z3
  have e0 := (h1.block _ l0).trans G0.out
  have e1 := (h1.block _ l1).trans G1.out
  have e2 := (h1.block _ l2).trans G2.out
  have x0 := cell_of_heap (o := 0) e0
  have x1 := cell_of_heap (o := 1) e0
  have x2 := cell_of_heap (o := 2) e0
  have x3 := cell_of_heap (o := 3) e0
  have x4 := cell_of_heap (o := 4) e0
  have x5 := cell_of_heap (o := 5) e0
  have y0 := cell_of_heap (o := 0) e1
  have y1 := cell_of_heap (o := 1) e1
  have y2 := cell_of_heap (o := 2) e1
  have y3 := cell_of_heap (o := 3) e1
  have z0 := cell_of_heap (o := 0) e2
  have z1 := cell_of_heap (o := 1) e2
  have z2 := cell_of_heap (o := 2) e2
  have z3 := cell_of_heap (o := 3) e2
  simp only [List.getElem?_toArray, List.getElem?_cons_zero, List.getElem?_cons_succ] at x0 x1 x2 x3 x4 x5 y0 y1 y2 y3 z0 z1 z2 z3
  have m0 := lt_of_heap e0
  have m1 := lt_of_heap e1
  have m2 := lt_of_heap e2
  clear e0 e1 e2
  obtain ⟨q0, hq0⟩ : ∃ q, fewB x = q := ⟨_, rfl⟩
  have hc := vFew_any hx x w1 (HRu.out w1 b1)
  rw [hq0] at hc
  have HC := hidp hc
  have Q0 := hidp hq0
  clear hc hq0
  cases q0
  · skip
    go_wp2_with fail
    refine HC.out.mono ?_
    rintro e w2 ⟨rfl, h2'⟩
    have h2 := h1.trans (h2'.mono h1.size)
    have b2 := HBW.out.trans (h2.mono HBW.out.size)
    go_wp2_with fail
    go_ret
    exact ⟨rfl, b2⟩
  · skip
    go_wp2_with fail
    refine HC.out.mono ?_
    rintro e w2 ⟨rfl, h2'⟩
    have h2 := h1.trans (h2'.mono h1.size)
    have b2 := HBW.out.trans (h2.mono HBW.out.size)
    clear x0 x1 x2 x3 x4 x5 y0 y1 y2 y3 z0 z1 z2 z3 m0 m1 m2
    have e0 := (h2.block _ l0).trans G0.out
    have e1 := (h2.block _ l1).trans G1.out
    have e2 := (h2.block _ l2).trans G2.out
    have x0 := cell_of_heap (o := 0) e0
    have x1 := cell_of_heap (o := 1) e0
    have x2 := cell_of_heap (o := 2) e0
    have x3 := cell_of_heap (o := 3) e0
    have x4 := cell_of_heap (o := 4) e0
    have x5 := cell_of_heap (o := 5) e0
    have y0 := cell_of_heap (o := 0) e1
    have y1 := cell_of_heap (o := 1) e1
    have y2 := cell_of_heap (o := 2) e1
    have y3 := cell_of_heap (o := 3) e1
    have z0 := cell_of_heap (o := 0) e2
    have z1 := cell_of_heap (o := 1) e2
    have z2 := cell_of_heap (o := 2) e2
    have z3 := cell_of_heap (o := 3) e2
    simp only [List.getElem?_toArray, List.getElem?_cons_zero, List.getElem?_cons_succ] at x0 x1 x2 x3 x4 x5 y0 y1 y2 y3 z0 z1 z2 z3
    have m0 := lt_of_heap e0
    have m1 := lt_of_heap e1
    have m2 := lt_of_heap e2
    clear e0 e1 e2
    by_cases hl1 : 50 < a.sn
    · go_wp2_with fail
      go_ret
      exact ⟨rfl, b2⟩
    by_cases hl2 : 50 < b.sn
    · go_wp2_with fail
      go_ret
      exact ⟨rfl, b2⟩
    obtain ⟨q3, hq3⟩ : ∃ q, checkB x = q := ⟨_, rfl⟩
    have hc := uCheck_any hx x w2 (HRu.out w2 b2) (HKK.out.below b2 lk)
    rw [hq3] at hc
    have HC := hidp hc
    have Q3 := hidp hq3
    clear hc hq3
    cases q3
    · skip
      dsimp only [okOr] at HC
      go_wp2_with fail
      refine HC.out.mono ?_
      rintro e w3 ⟨rfl, h3'⟩
      have h3 := h2.trans (h3'.mono h2.size)
      have b3 := HBW.out.trans (h3.mono HBW.out.size)
      go_wp2_with fail
      go_ret
      exact ⟨rfl, b3⟩
    · skip
      dsimp only [okOr] at HC
      go_wp2_with fail
      refine HC.out.mono ?_
      rintro e w3 ⟨rfl, h3'⟩
      have h3 := h2.trans (h3'.mono h2.size)
      have b3 := HBW.out.trans (h3.mono HBW.out.size)
      clear x0 x1 x2 x3 x4 x5 y0 y1 y2 y3 z0 z1 z2 z3 m0 m1 m2
      have e0 := (h3.block _ l0).trans G0.out
      have e1 := (h3.block _ l1).trans G1.out
      have e2 := (h3.block _ l2).trans G2.out
      have x0 := cell_of_heap (o := 0) e0
      have x1 := cell_of_heap (o := 1) e0
      have x2 := cell_of_heap (o := 2) e0
      have x3 := cell_of_heap (o := 3) e0
      have x4 := cell_of_heap (o := 4) e0
      have x5 := cell_of_heap (o := 5) e0
      have y0 := cell_of_heap (o := 0) e1
      have y1 := cell_of_heap (o := 1) e1
      have y2 := cell_of_heap (o := 2) e1
      have y3 := cell_of_heap (o := 3) e1
      have z0 := cell_of_heap (o := 0) e2
      have z1 := cell_of_heap (o := 1) e2
      have z2 := cell_of_heap (o := 2) e2
      have z3 := cell_of_heap (o := 3) e2
      simp only [List.getElem?_toArray, List.getElem?_cons_zero, List.getElem?_cons_succ] at x0 x1 x2 x3 x4 x5 y0 y1 y2 y3 z0 z1 z2 z3
      have m0 := lt_of_heap e0
      have m1 := lt_of_heap e1
      have m2 := lt_of_heap e2
      clear e0 e1 e2
      obtain ⟨q4, hq4⟩ : ∃ q, fitsB a = q := ⟨_, rfl⟩
      have hc := uFits_any a w3 (HSa.out w3 b3)
      rw [hq4] at hc
      have HC := hidp hc
      have Q4 := hidp hq4
      clear hc hq4
      cases q4
      · skip
        dsimp only [okOr] at HC
        go_wp2_with fail
        refine HC.out.mono ?_
        rintro e w4 ⟨rfl, h4'⟩
        have h4 := h3.trans (h4'.mono h3.size)
        have b4 := HBW.out.trans (h4.mono HBW.out.size)
        go_wp2_with fail
        go_ret
        exact ⟨rfl, b4⟩
      · skip
        dsimp only [okOr] at HC
        go_wp2_with fail
        refine HC.out.mono ?_
        rintro e w4 ⟨rfl, h4'⟩
        have h4 := h3.trans (h4'.mono h3.size)
        have b4 := HBW.out.trans (h4.mono HBW.out.size)
        clear x0 x1 x2 x3 x4 x5 y0 y1 y2 y3 z0 z1 z2 z3 m0 m1 m2
        have e0 := (h4.block _ l0).trans G0.out
        have e1 := (h4.block _ l1).trans G1.out
        have e2 := (h4.block _ l2).trans G2.out
        have x0 := cell_of_heap (o := 0) e0
        have x1 := cell_of_heap (o := 1) e0
        have x2 := cell_of_heap (o := 2) e0
        have x3 := cell_of_heap (o := 3) e0
        have x4 := cell_of_heap (o := 4) e0
        have x5 := cell_of_heap (o := 5) e0
        have y0 := cell_of_heap (o := 0) e1
        have y1 := cell_of_heap (o := 1) e1
        have y2 := cell_of_heap (o := 2) e1
        have y3 := cell_of_heap (o := 3) e1
        have z0 := cell_of_heap (o := 0) e2
        have z1 := cell_of_heap (o := 1) e2
        have z2 := cell_of_heap (o := 2) e2
        have z3 := cell_of_heap (o := 3) e2
        simp only [List.getElem?_toArray, List.getElem?_cons_zero, List.getElem?_cons_succ] at x0 x1 x2 x3 x4 x5 y0 y1 y2 y3 z0 z1 z2 z3
        have m0 := lt_of_heap e0
        have m1 := lt_of_heap e1
        have m2 := lt_of_heap e2
        clear e0 e1 e2
        obtain ⟨q5, hq5⟩ : ∃ q, fitsB b = q := ⟨_, rfl⟩
        have hc := uFits_any b w4 (HSb.out w4 b4)
        rw [hq5] at hc
        have HC := hidp hc
        have Q5 := hidp hq5
        clear hc hq5
        cases q5
        · skip
          dsimp only [okOr] at HC
          go_wp2_with fail
          refine HC.out.mono ?_
          rintro e w5 ⟨rfl, h5'⟩
          have h5 := h4.trans (h5'.mono h4.size)
          have b5 := HBW.out.trans (h5.mono HBW.out.size)
          go_wp2_with fail
          go_ret
          exact ⟨rfl, b5⟩
        · skip
          dsimp only [okOr] at HC
          go_wp2_with fail
          refine HC.out.mono ?_
          rintro e w5 ⟨rfl, h5'⟩
          have h5 := h4.trans (h5'.mono h4.size)
          have b5 := HBW.out.trans (h5.mono HBW.out.size)
          clear x0 x1 x2 x3 x4 x5 y0 y1 y2 y3 z0 z1 z2 z3 m0 m1 m2
          have e0 := (h5.block _ l0).trans G0.out
          have e1 := (h5.block _ l1).trans G1.out
          have e2 := (h5.block _ l2).trans G2.out
          have x0 := cell_of_heap (o := 0) e0
          have x1 := cell_of_heap (o := 1) e0
          have x2 := cell_of_heap (o := 2) e0
          have x3 := cell_of_heap (o := 3) e0
          have x4 := cell_of_heap (o := 4) e0
          have x5 := cell_of_heap (o := 5) e0
          have y0 := cell_of_heap (o := 0) e1
          have y1 := cell_of_heap (o := 1) e1
          have y2 := cell_of_heap (o := 2) e1
          have y3 := cell_of_heap (o := 3) e1
          have z0 := cell_of_heap (o := 0) e2
          have z1 := cell_of_heap (o := 1) e2
          have z2 := cell_of_heap (o := 2) e2
          have z3 := cell_of_heap (o := 3) e2
          simp only [List.getElem?_toArray, List.getElem?_cons_zero, List.getElem?_cons_succ] at x0 x1 x2 x3 x4 x5 y0 y1 y2 y3 z0 z1 z2 z3
          have m0 := lt_of_heap e0
          have m1 := lt_of_heap e1
          have m2 := lt_of_heap e2
          clear e0 e1 e2
          obtain ⟨q6, hq6⟩ : ∃ q, negR x = q := ⟨_, rfl⟩
          have hc := negates_any hx x w5 (HRu.out w5 b5)
          rw [hq6] at hc
          have HC := hidp hc
          have Q6 := hidp hq6
          clear hc hq6
          cases q6
          rotate_left
          · skip
            go_wp2_with fail
            refine HC.out.mono ?_
            rintro e w6 ⟨rfl, h6'⟩
            have h6 := h5.trans (h6'.mono h5.size)
            have b6 := HBW.out.trans (h6.mono HBW.out.size)
            go_wp2_with fail
            go_ret
            exact ⟨rfl, b6⟩
          go_wp2_with fail
          refine HC.out.mono ?_
          rintro e w6 ⟨rfl, h6'⟩
          have h6 := h5.trans (h6'.mono h5.size)
          have b6 := HBW.out.trans (h6.mono HBW.out.size)
          clear x0 x1 x2 x3 x4 x5 y0 y1 y2 y3 z0 z1 z2 z3 m0 m1 m2
          have e0 := (h6.block _ l0).trans G0.out
          have e1 := (h6.block _ l1).trans G1.out
          have e2 := (h6.block _ l2).trans G2.out
          have x0 := cell_of_heap (o := 0) e0
          have x1 := cell_of_heap (o := 1) e0
          have x2 := cell_of_heap (o := 2) e0
          have x3 := cell_of_heap (o := 3) e0
          have x4 := cell_of_heap (o := 4) e0
          have x5 := cell_of_heap (o := 5) e0
          have y0 := cell_of_heap (o := 0) e1
          have y1 := cell_of_heap (o := 1) e1
          have y2 := cell_of_heap (o := 2) e1
          have y3 := cell_of_heap (o := 3) e1
          have z0 := cell_of_heap (o := 0) e2
          have z1 := cell_of_heap (o := 1) e2
          have z2 := cell_of_heap (o := 2) e2
          have z3 := cell_of_heap (o := 3) e2
          simp only [List.getElem?_toArray, List.getElem?_cons_zero, List.getElem?_cons_succ] at x0 x1 x2 x3 x4 x5 y0 y1 y2 y3 z0 z1 z2 z3
          have m0 := lt_of_heap e0
          have m1 := lt_of_heap e1
          have m2 := lt_of_heap e2
          clear e0 e1 e2
          obtain ⟨q7, hq7⟩ : ∃ q, mostB a b = q := ⟨_, rfl⟩
          have hc := most_any a b w6 (HSa.out w6 b6) (HSb.out w6 b6) (fits_mean Q4.out).1 (fits_mean Q5.out).1
          rw [hq7] at hc
          have HC := hidp hc
          have Q7 := hidp hq7
          clear hc hq7
          cases q7
          · skip
            go_wp2_with fail
            refine HC.out.mono ?_
            rintro e w7 ⟨rfl, h7'⟩
            have h7 := h6.trans (h7'.mono h6.size)
            have b7 := HBW.out.trans (h7.mono HBW.out.size)
            go_wp2_with fail
            go_ret
            exact ⟨rfl, b7⟩
          · skip
            go_wp2_with fail
            refine HC.out.mono ?_
            rintro e w7 ⟨rfl, h7'⟩
            have h7 := h6.trans (h7'.mono h6.size)
            have b7 := HBW.out.trans (h7.mono HBW.out.size)
            clear x0 x1 x2 x3 x4 x5 y0 y1 y2 y3 z0 z1 z2 z3 m0 m1 m2
            have e0 := (h7.block _ l0).trans G0.out
            have e1 := (h7.block _ l1).trans G1.out
            have e2 := (h7.block _ l2).trans G2.out
            have x0 := cell_of_heap (o := 0) e0
            have x1 := cell_of_heap (o := 1) e0
            have x2 := cell_of_heap (o := 2) e0
            have x3 := cell_of_heap (o := 3) e0
            have x4 := cell_of_heap (o := 4) e0
            have x5 := cell_of_heap (o := 5) e0
            have y0 := cell_of_heap (o := 0) e1
            have y1 := cell_of_heap (o := 1) e1
            have y2 := cell_of_heap (o := 2) e1
            have y3 := cell_of_heap (o := 3) e1
            have z0 := cell_of_heap (o := 0) e2
            have z1 := cell_of_heap (o := 1) e2
            have z2 := cell_of_heap (o := 2) e2
            have z3 := cell_of_heap (o := 3) e2
            simp only [List.getElem?_toArray, List.getElem?_cons_zero, List.getElem?_cons_succ] at x0 x1 x2 x3 x4 x5 y0 y1 y2 y3 z0 z1 z2 z3
            have m0 := lt_of_heap e0
            have m1 := lt_of_heap e1
            have m2 := lt_of_heap e2
            clear e0 e1 e2
            obtain ⟨q8, hq8⟩ : ∃ q, holdsB x a = q := ⟨_, rfl⟩
            have hc := holds12_any hx x a w7 (HRu.out w7 b7) (HSa.out w7 b7) (HKK.out.below b7 lk)
            rw [hq8] at hc
            have HC := hidp hc
            have Q8 := hidp hq8
            clear hc hq8
            cases q8
            · go_wp2_with fail
              refine HC.out.mono ?_
              rintro e w9 ⟨rfl, h9⟩
              go_wp2_with fail
              go_ret
              exact ⟨rfl, b7.trans (h9.mono b7.size)⟩
            go_wp2_with fail
            refine HC.out.mono ?_
            rintro e w9 ⟨rfl, h9'⟩
            have h9 := h7.trans (h9'.mono h7.size)
            have b9 := HBW.out.trans (h9.mono HBW.out.size)
            clear x0 x1 x2 x3 x4 x5 y0 y1 y2 y3 z0 z1 z2 z3 m0 m1 m2
            have e0 := (h9.block _ l0).trans G0.out
            have e1 := (h9.block _ l1).trans G1.out
            have e2 := (h9.block _ l2).trans G2.out
            have x0 := cell_of_heap (o := 0) e0
            have x1 := cell_of_heap (o := 1) e0
            have x2 := cell_of_heap (o := 2) e0
            have x3 := cell_of_heap (o := 3) e0
            have x4 := cell_of_heap (o := 4) e0
            have x5 := cell_of_heap (o := 5) e0
            have y0 := cell_of_heap (o := 0) e1
            have y1 := cell_of_heap (o := 1) e1
            have y2 := cell_of_heap (o := 2) e1
            have y3 := cell_of_heap (o := 3) e1
            have z0 := cell_of_heap (o := 0) e2
            have z1 := cell_of_heap (o := 1) e2
            have z2 := cell_of_heap (o := 2) e2
            have z3 := cell_of_heap (o := 3) e2
            simp only [List.getElem?_toArray, List.getElem?_cons_zero, List.getElem?_cons_succ] at x0 x1 x2 x3 x4 x5 y0 y1 y2 y3 z0 z1 z2 z3
            have m0 := lt_of_heap e0
            have m1 := lt_of_heap e1
            have m2 := lt_of_heap e2
            clear e0 e1 e2
            have hv : holdsB x b = true := by
              rw [holdsB_eq Q3.out Q5.out]
              exact mono_law Q4.out Q5.out Q7.out x (allF_of_check Q3.out) Q6.out (by rw [← holdsB_eq Q3.out Q4.out]; exact Q8.out)
            have hc := holds12_any hx x b w9 (HRu.out w9 b9) (HSb.out w9 b9) (HKK.out.below b9 lk)
            rw [hv] at hc
            have HC' := hidp hc
            clear hc hv
            go_wp2_with fail
            refine HC'.out.mono ?_
            rintro e w10 ⟨rfl, h10⟩
            go_wp2_with fail
            go_ret
            exact ⟨rfl, b9.trans (h10.mono b9.size)⟩
end Go.Proofs.YtbmbpannhncpjaaDoor
