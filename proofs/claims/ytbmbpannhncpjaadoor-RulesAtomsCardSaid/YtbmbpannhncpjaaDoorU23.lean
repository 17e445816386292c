/- RulesAtoms walked (printed by tools/gen85.py). -/
import Derived.Test.YtbmbpannhncpjaaDoorU20
import Derived.Test.YtbmbpannhncpjaaDoorU21
import Derived.Test.YtbmbpannhncpjaaDoorUP2
namespace Go.Proofs.YtbmbpannhncpjaaDoor
open Go.RowKit Go.Sort

set_option maxRecDepth 100000 in
set_option maxHeartbeats 8000000 in
theorem atoms_calls (hx : Nat) (x : Ru) (a b : Si) (w : World) (hr : RuIn hx w w.heap.size x) (ha : SiIn w w.heap.size a) (hb : SiIn w w.heap.size b) (hkk : KindsAt w) :
    Calls Tryd.prog 7 #[.agg #[.int .i64 x.op, .int .i64 x.course, .string x.name, .int .i64 x.n, .int .i64 x.d, .slice x.kA x.kn x.kc], .agg #[.slice a.sA a.sn a.sc, .int .i64 a.earned, .int .i64 a.num, .int .i64 a.den], .agg #[.slice b.sA b.sn b.sc, .int .i64 b.earned, .int .i64 b.num, .int .i64 b.den]] w fun e w' => e = .returned (.bool true) ∧ Below w.heap.size w w' := by
  have lk := hkk.lt
  have HKK := hidp hkk
  have hca := ha.2.2.1
  have hla := ha.2.1
  have hcb := hb.2.2.1
  have hlb := hb.2.1
  have hRu : ∀ W, Below w.heap.size w W → RuIn hx W W.heap.size x := fun W h => hr.keep h.size h.block
  have hSa : ∀ W, Below w.heap.size w W → SiIn W W.heap.size a := fun W h => ha.keep h.size h.block
  have hSb : ∀ W, Below w.heap.size w W → SiIn W W.heap.size b := fun W h => hb.keep h.size h.block
  have HRu := hidp hRu
  have HSa := hidp hSa
  have HSb := hidp hSb
  clear hRu hSa hSb hr ha hb hkk
  obtain ⟨W0, hW0⟩ : ∃ W0, (((w.alloc (.cells #[.int .i64 x.op, .int .i64 x.course, .string x.name, .int .i64 x.n, .int .i64 x.d, .slice x.kA x.kn x.kc] 24)).alloc (.cells #[.slice a.sA a.sn a.sc, .int .i64 a.earned, .int .i64 a.num, .int .i64 a.den] 29)).alloc (.cells #[.slice b.sA b.sn b.sc, .int .i64 b.earned, .int .i64 b.num, .int .i64 b.den] 29)) = W0 := ⟨_, rfl⟩
  have hBW : Below w.heap.size w W0 := by rw [← hW0]; exact ((((Below.refl _ w).alloc (by first | exact Nat.le_refl _ | (simp <;> omega)) _).alloc (by first | exact Nat.le_refl _ | (simp <;> omega)) _).alloc (by first | exact Nat.le_refl _ | (simp <;> omega)) _)
  have g0 : W0.heap[w.heap.size]? = some (.cells #[.int .i64 x.op, .int .i64 x.course, .string x.name, .int .i64 x.n, .int .i64 x.d, .slice x.kA x.kn x.kc] 24 (0, 0)) := by
    rw [← hW0, Below.heap_alloc _ _ _ (by simp <;> omega), Below.heap_alloc _ _ _ (by simp <;> omega)]
    have := World.alloc_heap_new w (.cells #[.int .i64 x.op, .int .i64 x.course, .string x.name, .int .i64 x.n, .int .i64 x.d, .slice x.kA x.kn x.kc] 24)
    exact this
  have g1 : W0.heap[w.heap.size + 1]? = some (.cells #[.slice a.sA a.sn a.sc, .int .i64 a.earned, .int .i64 a.num, .int .i64 a.den] 29 (0, 0)) := by
    rw [← hW0, Below.heap_alloc _ _ _ (by simp <;> omega)]
    have := World.alloc_heap_new (w.alloc (.cells #[.int .i64 x.op, .int .i64 x.course, .string x.name, .int .i64 x.n, .int .i64 x.d, .slice x.kA x.kn x.kc] 24)) (.cells #[.slice a.sA a.sn a.sc, .int .i64 a.earned, .int .i64 a.num, .int .i64 a.den] 29)
    rwa [World.size_alloc] at this
  have g2 : W0.heap[w.heap.size + 1 + 1]? = some (.cells #[.slice b.sA b.sn b.sc, .int .i64 b.earned, .int .i64 b.num, .int .i64 b.den] 29 (0, 0)) := by
    rw [← hW0]
    have := World.alloc_heap_new ((w.alloc (.cells #[.int .i64 x.op, .int .i64 x.course, .string x.name, .int .i64 x.n, .int .i64 x.d, .slice x.kA x.kn x.kc] 24)).alloc (.cells #[.slice a.sA a.sn a.sc, .int .i64 a.earned, .int .i64 a.num, .int .i64 a.den] 29)) (.cells #[.slice b.sA b.sn b.sc, .int .i64 b.earned, .int .i64 b.num, .int .i64 b.den] 29)
    rwa [World.size_alloc, World.size_alloc] at this
  have HW0 := hidp hW0
  have G0 := hidp g0
  have l0 := lt_of_heap g0
  have G1 := hidp g1
  have l1 := lt_of_heap g1
  have G2 := hidp g2
  have l2 := lt_of_heap g2
  have HBW := hidp hBW
  have x0 := cell_of_heap (o := 0) g0
  have x1 := cell_of_heap (o := 1) g0
  have x2 := cell_of_heap (o := 2) g0
  have x3 := cell_of_heap (o := 3) g0
  have x4 := cell_of_heap (o := 4) g0
  have x5 := cell_of_heap (o := 5) g0
  have y0 := cell_of_heap (o := 0) g1
  have y1 := cell_of_heap (o := 1) g1
  have y2 := cell_of_heap (o := 2) g1
  have y3 := cell_of_heap (o := 3) g1
  have z0 := cell_of_heap (o := 0) g2
  have z1 := cell_of_heap (o := 1) g2
  have z2 := cell_of_heap (o := 2) g2
  have z3 := cell_of_heap (o := 3) g2
  simp only [List.getElem?_toArray, List.getElem?_cons_zero, List.getElem?_cons_succ] at x0 x1 x2 x3 x4 x5 y0 y1 y2 y3 z0 z1 z2 z3
  clear hW0 g0 g1 g2
  go_enter Tryd.func7, Tryd.ntmps7
  go_wp2_with fail
  rw [HW0.out]
  refine (sane_any W0 (HKK.out.below HBW.out lk)).mono ?_
  rintro e w1 ⟨rfl, h1⟩
  have b1 := HBW.out.trans (h1.mono HBW.out.size)
  clear x0 x1 x2 x3 x4 x5 y0 y1 y2 y3 z0 z1 z2 z3
  have e0 := (h1.block _ l0).trans G0.out
  have e1 := (h1.block _ l1).trans G1.out
  have e2 := (h1.block _ l2).trans G2.out
  have x0 := cell_of_heap (o := 0) e0
  have x1 := cell_of_heap (o := 1) e0
  have x2 := cell_of_heap (o := 2) e0
  have x3 := cell_of_heap (o := 3) e0
  have x4 := cell_of_heap (o := 4) e0
  have x5 := cell_of_heap (o := 5) e0
  have y0 := cell_of_heap (o := 0) e1
  have y1 := cell_of_heap (o := 1) e1
  have y2 := cell_of_heap (o := 2) e1
  have y3 := cell_of_heap (o := 3) e1
  have z0 := cell_of_heap (o := 0) e2
  have z1 := cell_of_heap (o := 1) e2
  have z2 := cell_of_heap (o := 2) e2
  have z3 := cell_of_heap (o := 3) e2
  simp only [List.getElem?_toArray, List.getElem?_cons_zero, List.getElem?_cons_succ] at x0 x1 x2 x3 x4 x5 y0 y1 y2 y3 z0 z1 z2 z3
  have m0 := lt_of_heap e0
  have m1 := lt_of_heap e1
  have m2 := lt_of_heap e2
  clear e0 e1 e2
  obtain ⟨q0, hq0⟩ : ∃ q, fewB x = q := ⟨_, rfl⟩
  have hc := vFew_any hx x w1 (HRu.out w1 b1)
  rw [hq0] at hc
  have HC := hidp hc
  have Q0 := hidp hq0
  clear hc hq0
  cases q0
  · skip
    go_wp2_with fail
    refine HC.out.mono ?_
    rintro e w2 ⟨rfl, h2'⟩
    have h2 := h1.trans (h2'.mono h1.size)
    have b2 := HBW.out.trans (h2.mono HBW.out.size)
    go_wp2_with fail
    go_ret
    exact ⟨rfl, b2⟩
  · skip
    go_wp2_with fail
    refine HC.out.mono ?_
    rintro e w2 ⟨rfl, h2'⟩
    have h2 := h1.trans (h2'.mono h1.size)
    have b2 := HBW.out.trans (h2.mono HBW.out.size)
    clear x0 x1 x2 x3 x4 x5 y0 y1 y2 y3 z0 z1 z2 z3 m0 m1 m2
    have e0 := (h2.block _ l0).trans G0.out
    have e1 := (h2.block _ l1).trans G1.out
    have e2 := (h2.block _ l2).trans G2.out
    have x0 := cell_of_heap (o := 0) e0
    have x1 := cell_of_heap (o := 1) e0
    have x2 := cell_of_heap (o := 2) e0
    have x3 := cell_of_heap (o := 3) e0
    have x4 := cell_of_heap (o := 4) e0
    have x5 := cell_of_heap (o := 5) e0
    have y0 := cell_of_heap (o := 0) e1
    have y1 := cell_of_heap (o := 1) e1
    have y2 := cell_of_heap (o := 2) e1
    have y3 := cell_of_heap (o := 3) e1
    have z0 := cell_of_heap (o := 0) e2
    have z1 := cell_of_heap (o := 1) e2
    have z2 := cell_of_heap (o := 2) e2
    have z3 := cell_of_heap (o := 3) e2
    simp only [List.getElem?_toArray, List.getElem?_cons_zero, List.getElem?_cons_succ] at x0 x1 x2 x3 x4 x5 y0 y1 y2 y3 z0 z1 z2 z3
    have m0 := lt_of_heap e0
    have m1 := lt_of_heap e1
    have m2 := lt_of_heap e2
    clear e0 e1 e2
    by_cases hl1 : 50 < a.sn
    · go_wp2_with fail
      go_ret
      exact ⟨rfl, b2⟩
    by_cases hl2 : 50 < b.sn
    · go_wp2_with fail
      go_ret
      exact ⟨rfl, b2⟩
    obtain ⟨q3, hq3⟩ : ∃ q, checkB x = q := ⟨_, rfl⟩
    have hc := uCheck_any hx x w2 (HRu.out w2 b2) (HKK.out.below b2 lk)
    rw [hq3] at hc
    have HC := hidp hc
    have Q3 := hidp hq3
    clear hc hq3
    cases q3
    · skip
      dsimp only [okOr] at HC
      go_wp2_with fail
      refine HC.out.mono ?_
      rintro e w3 ⟨rfl, h3'⟩
      have h3 := h2.trans (h3'.mono h2.size)
      have b3 := HBW.out.trans (h3.mono HBW.out.size)
      go_wp2_with fail
      go_ret
      exact ⟨rfl, b3⟩
    · skip
      dsimp only [okOr] at HC
      go_wp2_with fail
      refine HC.out.mono ?_
      rintro e w3 ⟨rfl, h3'⟩
      have h3 := h2.trans (h3'.mono h2.size)
      have b3 := HBW.out.trans (h3.mono HBW.out.size)
      clear x0 x1 x2 x3 x4 x5 y0 y1 y2 y3 z0 z1 z2 z3 m0 m1 m2
      have e0 := (h3.block _ l0).trans G0.out
      have e1 := (h3.block _ l1).trans G1.out
      have e2 := (h3.block _ l2).trans G2.out
      have x0 := cell_of_heap (o := 0) e0
      have x1 := cell_of_heap (o := 1) e0
      have x2 := cell_of_heap (o := 2) e0
      have x3 := cell_of_heap (o := 3) e0
      have x4 := cell_of_heap (o := 4) e0
      have x5 := cell_of_heap (o := 5) e0
      have y0 := cell_of_heap (o := 0) e1
      have y1 := cell_of_heap (o := 1) e1
      have y2 := cell_of_heap (o := 2) e1
      have y3 := cell_of_heap (o := 3) e1
      have z0 := cell_of_heap (o := 0) e2
      have z1 := cell_of_heap (o := 1) e2
      have z2 := cell_of_heap (o := 2) e2
      have z3 := cell_of_heap (o := 3) e2
      simp only [List.getElem?_toArray, List.getElem?_cons_zero, List.getElem?_cons_succ] at x0 x1 x2 x3 x4 x5 y0 y1 y2 y3 z0 z1 z2 z3
      have m0 := lt_of_heap e0
      have m1 := lt_of_heap e1
      have m2 := lt_of_heap e2
      clear e0 e1 e2
      obtain ⟨q4, hq4⟩ : ∃ q, fitsB a = q := ⟨_, rfl⟩
      have hc := uFits_any a w3 (HSa.out w3 b3)
      rw [hq4] at hc
      have HC := hidp hc
      have Q4 := hidp hq4
      clear hc hq4
      cases q4
      · skip
        dsimp only [okOr] at HC
        go_wp2_with fail
        refine HC.out.mono ?_
        rintro e w4 ⟨rfl, h4'⟩
        have h4 := h3.trans (h4'.mono h3.size)
        have b4 := HBW.out.trans (h4.mono HBW.out.size)
        go_wp2_with fail
        go_ret
        exact ⟨rfl, b4⟩
      · skip
        dsimp only [okOr] at HC
        go_wp2_with fail
        refine HC.out.mono ?_
        rintro e w4 ⟨rfl, h4'⟩
        have h4 := h3.trans (h4'.mono h3.size)
        have b4 := HBW.out.trans (h4.mono HBW.out.size)
        clear x0 x1 x2 x3 x4 x5 y0 y1 y2 y3 z0 z1 z2 z3 m0 m1 m2
        have e0 := (h4.block _ l0).trans G0.out
        have e1 := (h4.block _ l1).trans G1.out
        have e2 := (h4.block _ l2).trans G2.out
        have x0 := cell_of_heap (o := 0) e0
        have x1 := cell_of_heap (o := 1) e0
        have x2 := cell_of_heap (o := 2) e0
        have x3 := cell_of_heap (o := 3) e0
        have x4 := cell_of_heap (o := 4) e0
        have x5 := cell_of_heap (o := 5) e0
        have y0 := cell_of_heap (o := 0) e1
        have y1 := cell_of_heap (o := 1) e1
        have y2 := cell_of_heap (o := 2) e1
        have y3 := cell_of_heap (o := 3) e1
        have z0 := cell_of_heap (o := 0) e2
        have z1 := cell_of_heap (o := 1) e2
        have z2 := cell_of_heap (o := 2) e2
        have z3 := cell_of_heap (o := 3) e2
        simp only [List.getElem?_toArray, List.getElem?_cons_zero, List.getElem?_cons_succ] at x0 x1 x2 x3 x4 x5 y0 y1 y2 y3 z0 z1 z2 z3
        have m0 := lt_of_heap e0
        have m1 := lt_of_heap e1
        have m2 := lt_of_heap e2
        clear e0 e1 e2
        obtain ⟨q5, hq5⟩ : ∃ q, fitsB b = q := ⟨_, rfl⟩
        have hc := uFits_any b w4 (HSb.out w4 b4)
        rw [hq5] at hc
        have HC := hidp hc
        have Q5 := hidp hq5
        clear hc hq5
        cases q5
        · skip
          dsimp only [okOr] at HC
          go_wp2_with fail
          refine HC.out.mono ?_
          rintro e w5 ⟨rfl, h5'⟩
          have h5 := h4.trans (h5'.mono h4.size)
          have b5 := HBW.out.trans (h5.mono HBW.out.size)
          go_wp2_with fail
          go_ret
          exact ⟨rfl, b5⟩
        · skip
          dsimp only [okOr] at HC
          go_wp2_with fail
          refine HC.out.mono ?_
          rintro e w5 ⟨rfl, h5'⟩
          have h5 := h4.trans (h5'.mono h4.size)
          have b5 := HBW.out.trans (h5.mono HBW.out.size)
          clear x0 x1 x2 x3 x4 x5 y0 y1 y2 y3 z0 z1 z2 z3 m0 m1 m2
          have e0 := (h5.block _ l0).trans G0.out
          have e1 := (h5.block _ l1).trans G1.out
          have e2 := (h5.block _ l2).trans G2.out
          have x0 := cell_of_heap (o := 0) e0
          have x1 := cell_of_heap (o := 1) e0
          have x2 := cell_of_heap (o := 2) e0
          have x3 := cell_of_heap (o := 3) e0
          have x4 := cell_of_heap (o := 4) e0
          have x5 := cell_of_heap (o := 5) e0
          have y0 := cell_of_heap (o := 0) e1
          have y1 := cell_of_heap (o := 1) e1
          have y2 := cell_of_heap (o := 2) e1
          have y3 := cell_of_heap (o := 3) e1
          have z0 := cell_of_heap (o := 0) e2
          have z1 := cell_of_heap (o := 1) e2
          have z2 := cell_of_heap (o := 2) e2
          have z3 := cell_of_heap (o := 3) e2
          simp only [List.getElem?_toArray, List.getElem?_cons_zero, List.getElem?_cons_succ] at x0 x1 x2 x3 x4 x5 y0 y1 y2 y3 z0 z1 z2 z3
          have m0 := lt_of_heap e0
          have m1 := lt_of_heap e1
          have m2 := lt_of_heap e2
          clear e0 e1 e2
          go_wp2_with fail
          refine (uAtoms_any hx x w5 (HRu.out w5 b5) (by have := parts_len Q3.out; omega)).mono ?_
          rintro e w6 ⟨A, n, c, d, rfl, hp, -, hd, h6'⟩
          have h6 := h5.trans (h6'.mono h5.size)
          have b6 := HBW.out.trans (h6.mono HBW.out.size)
          clear x0 x1 x2 x3 x4 x5 y0 y1 y2 y3 z0 z1 z2 z3 m0 m1 m2
          have e0 := (h6.block _ l0).trans G0.out
          have e1 := (h6.block _ l1).trans G1.out
          have e2 := (h6.block _ l2).trans G2.out
          have x0 := cell_of_heap (o := 0) e0
          have x1 := cell_of_heap (o := 1) e0
          have x2 := cell_of_heap (o := 2) e0
          have x3 := cell_of_heap (o := 3) e0
          have x4 := cell_of_heap (o := 4) e0
          have x5 := cell_of_heap (o := 5) e0
          have y0 := cell_of_heap (o := 0) e1
          have y1 := cell_of_heap (o := 1) e1
          have y2 := cell_of_heap (o := 2) e1
          have y3 := cell_of_heap (o := 3) e1
          have z0 := cell_of_heap (o := 0) e2
          have z1 := cell_of_heap (o := 1) e2
          have z2 := cell_of_heap (o := 2) e2
          have z3 := cell_of_heap (o := 3) e2
          simp only [List.getElem?_toArray, List.getElem?_cons_zero, List.getElem?_cons_succ] at x0 x1 x2 x3 x4 x5 y0 y1 y2 y3 z0 z1 z2 z3
          have m0 := lt_of_heap e0
          have m1 := lt_of_heap e1
          have m2 := lt_of_heap e2
          clear e0 e1 e2
          have hn := hd.1
          have hcl := hd.2.1
          have hcm := hd.2.2.1
          rw [List.length_map] at hn
          have HP : Hid (∀ k, k ∈ d ↔ k ∈ atSet (partsD 1 x)) := fun k => hp.mem_iff
          have HD : Hid (∀ W, Below w6.heap.size w6 W → ruSl 1 W W.heap.size A n c (d.map atR)) := fun W h => Rows.keep (ruStable 1) hd h.size h.block
          have hlen : n ≤ 200 := by
            have h1 := parts_len Q3.out
            have h2 := atSet_len (partsD 1 x)
            have h3 := hp.length_eq
            omega
          clear hp hd
          go_wp2_with fail
          go_loopw [8] (fun i wr => ∃ q : Nat, q ≤ n ∧ i = .int .i64 q ∧ (∀ k ∈ d.take q, valR a (atR k) = valR b (atR k)) ∧ Below w6.heap.size w6 wr) (fun i _ => n - (intOf i).toNat)
          case atStart => exact ⟨0, by omega, rfl, by simp, Below.refl _ _⟩
          case round =>
            obtain ⟨q, hq, rfl, hall, hbe⟩ := hrel
            have HA := hidp hall
            have HBE := hidp hbe
            have h7 := h6.trans (hbe.mono h6.size)
            have b7 := HBW.out.trans (h7.mono HBW.out.size)
            clear hall
            clear x0 x1 x2 x3 x4 x5 y0 y1 y2 y3 z0 z1 z2 z3 m0 m1 m2
            have e0 := (h7.block _ l0).trans G0.out
            have e1 := (h7.block _ l1).trans G1.out
            have e2 := (h7.block _ l2).trans G2.out
            have x0 := cell_of_heap (o := 0) e0
            have x1 := cell_of_heap (o := 1) e0
            have x2 := cell_of_heap (o := 2) e0
            have x3 := cell_of_heap (o := 3) e0
            have x4 := cell_of_heap (o := 4) e0
            have x5 := cell_of_heap (o := 5) e0
            have y0 := cell_of_heap (o := 0) e1
            have y1 := cell_of_heap (o := 1) e1
            have y2 := cell_of_heap (o := 2) e1
            have y3 := cell_of_heap (o := 3) e1
            have z0 := cell_of_heap (o := 0) e2
            have z1 := cell_of_heap (o := 1) e2
            have z2 := cell_of_heap (o := 2) e2
            have z3 := cell_of_heap (o := 3) e2
            simp only [List.getElem?_toArray, List.getElem?_cons_zero, List.getElem?_cons_succ] at x0 x1 x2 x3 x4 x5 y0 y1 y2 y3 z0 z1 z2 z3
            have m0 := lt_of_heap e0
            have m1 := lt_of_heap e1
            have m2 := lt_of_heap e2
            clear e0 e1 e2
            by_cases hlt : q < n
            · skip
              obtain ⟨ht, b', off, y, -, rfl, hb', hzk, hyr, c0, c1, c2, c3, c4, c5⟩ := ruSl.get (HD.out wr HBE.out) hlt
              have hqn : (q : Int) < n := by omega
              have hbl := lt_of_cell c0
              have hyk : ∃ k, d[q]? = some k ∧ y = atR k := by
                rw [List.getElem?_map] at hzk
                cases hz : d[q]? with
                | none => rw [hz] at hzk; cases hzk
                | some k => rw [hz] at hzk; exact ⟨k, rfl, (Option.some.inj hzk).symm⟩
              obtain ⟨k, hk, rfl⟩ := hyk
              have HKq := hidp hk
              have hck : checkB (atR k) = true := atom_check Q3.out ((HP.out k).1 (List.mem_of_getElem? hk))
              have hR0 : ∀ W, Below wr.heap.size wr W → RuIn _ W W.heap.size (atR k) := fun W h => hyr.keep h.size h.block
              have HR0 := hidp hR0
              have hc := uCheck_any _ (atR k) wr (hR0 wr (Below.refl _ _)) (HKK.out.below b7 lk)
              rw [hck] at hc
              have HC := hidp hc
              have HCK := hidp hck
              clear hc hck hR0 hyr hk hzk
              dsimp only [okOr] at HC
              go_wp2_with fail
              refine HC.out.mono ?_
              rintro e w8 ⟨rfl, h8'⟩
              have hbe8 := hbe.trans (h8'.mono hbe.size)
              have h8 := h6.trans (hbe8.mono h6.size)
              have b8 := HBW.out.trans (h8.mono HBW.out.size)
              have cz : ∀ W, Below w6.heap.size w6 W → Hid (ruSl 1 W W.heap.size (some ⟨b', off, none⟩) n c (d.map atR)) := fun W h => HD.out W h
              clear c0 c1 c2 c3 c4 c5 hbl hb'
              obtain ⟨ht2, b2, off2, y2, -, e2, hb', hz2, -, c0, c1, c2, c3, c4, c5⟩ := ruSl.get (cz w8 hbe8).out hlt
              obtain ⟨rfl, rfl⟩ : b' = b2 ∧ off = off2 := by simpa using e2
              obtain rfl : atR k = y2 := by rw [List.getElem?_map, HKq.out] at hz2; exact Option.some.inj hz2
              have hbl := lt_of_cell c0
              clear hz2 e2 HC
              clear x0 x1 x2 x3 x4 x5 y0 y1 y2 y3 z0 z1 z2 z3 m0 m1 m2
              have e0 := (h8.block _ l0).trans G0.out
              have e1 := (h8.block _ l1).trans G1.out
              have e2 := (h8.block _ l2).trans G2.out
              have x0 := cell_of_heap (o := 0) e0
              have x1 := cell_of_heap (o := 1) e0
              have x2 := cell_of_heap (o := 2) e0
              have x3 := cell_of_heap (o := 3) e0
              have x4 := cell_of_heap (o := 4) e0
              have x5 := cell_of_heap (o := 5) e0
              have y0 := cell_of_heap (o := 0) e1
              have y1 := cell_of_heap (o := 1) e1
              have y2 := cell_of_heap (o := 2) e1
              have y3 := cell_of_heap (o := 3) e1
              have z0 := cell_of_heap (o := 0) e2
              have z1 := cell_of_heap (o := 1) e2
              have z2 := cell_of_heap (o := 2) e2
              have z3 := cell_of_heap (o := 3) e2
              simp only [List.getElem?_toArray, List.getElem?_cons_zero, List.getElem?_cons_succ] at x0 x1 x2 x3 x4 x5 y0 y1 y2 y3 z0 z1 z2 z3
              have m0 := lt_of_heap e0
              have m1 := lt_of_heap e1
              have m2 := lt_of_heap e2
              clear e0 e1 e2
              go_wp2_with fail
              obtain ⟨va, hva⟩ : ∃ q, valR a (atR k) = q := ⟨_, rfl⟩
              obtain ⟨vb, hvb⟩ : ∃ q, valR b (atR k) = q := ⟨_, rfl⟩
              have HVA : Hid (holdsB (atR k) a = va) := by show _ = _; rw [holdsB_eq HCK.out Q4.out]; exact hva
              have HVB : Hid (holdsB (atR k) b = vb) := by show _ = _; rw [holdsB_eq HCK.out Q5.out]; exact hvb
              have HA8 : Hid (∀ W, Below w8.heap.size w8 W → Calls Tryd.prog 22 #[.agg #[.int .i64 (atR k).op, .int .i64 (atR k).course, .string (atR k).name, .int .i64 (atR k).n, .int .i64 (atR k).d, .slice (atR k).kA (atR k).kn (atR k).kc], .agg #[.slice a.sA a.sn a.sc, .int .i64 a.earned, .int .i64 a.num, .int .i64 a.den]] W fun e w' => e = .returned (.bool va) ∧ Below W.heap.size W w') := fun W h => by
                have hc := holds12_any _ (atR k) a W (HR0.out W (h8'.trans (h.mono h8'.size))) (HSa.out W (b8.trans (h.mono b8.size))) (HKK.out.below (b8.trans (h.mono b8.size)) lk)
                rw [HVA.out] at hc; exact hc
              have HB8 : Hid (∀ W, Below w8.heap.size w8 W → Calls Tryd.prog 22 #[.agg #[.int .i64 (atR k).op, .int .i64 (atR k).course, .string (atR k).name, .int .i64 (atR k).n, .int .i64 (atR k).d, .slice (atR k).kA (atR k).kn (atR k).kc], .agg #[.slice b.sA b.sn b.sc, .int .i64 b.earned, .int .i64 b.num, .int .i64 b.den]] W fun e w' => e = .returned (.bool vb) ∧ Below W.heap.size W w') := fun W h => by
                have hc := holds12_any _ (atR k) b W (HR0.out W (h8'.trans (h.mono h8'.size))) (HSb.out W (b8.trans (h.mono b8.size))) (HKK.out.below (b8.trans (h.mono b8.size)) lk)
                rw [HVB.out] at hc; exact hc
              have HV2 := hidp hva
              have HV3 := hidp hvb
              clear hva hvb
              refine wp_region_below w8.heap.size (by kernel_rfl) (by kernel_rfl) ?_
              iterate 5
                refine q_step (by rfl) ?_
                apply Exists.intro
                refine ⟨fun w9 h9 => ?_, ?_⟩
                · have hc9 := (bcell h9).1
                  go_simp
                  first | done | rfl
                go_simp
              refine q_step (by rfl) ⟨.bool va, fun w9 h9 => ?_, ?_⟩
              · go_simp
                exact calls_below h9 (Nat.le_refl _) (HA8.out w9 h9)
              go_simp
              iterate 5
                refine q_step (by rfl) ?_
                apply Exists.intro
                refine ⟨fun w9 h9 => ?_, ?_⟩
                · have hc9 := (bcell h9).1
                  go_simp
                  first | done | rfl
                go_simp
              refine q_step (by rfl) ⟨.bool vb, fun w9 h9 => ?_, ?_⟩
              · go_simp
                exact calls_below h9 (Nat.le_refl _) (HB8.out w9 h9)
              go_simp
              refine q_step (by rfl) ?_
              apply Exists.intro
              refine ⟨fun w9 h9 => ?_, ?_⟩
              · go_simp
                first | done | rfl
              go_simp
              refine wpQuiet_nil ?_
              intro w9 hb9
              have hbe9 := hbe8.trans (hb9.mono hbe8.size)
              have b9 := b8.trans (hb9.mono b8.size)
              have HE9 := hidp hbe9
              have HB9 := hidp b9
              clear c0 c1 c2 c3 c4 c5
              cases va <;> cases vb
              · have HS : Hid (∀ k ∈ d.take (q + 1), valR a (atR k) = valR b (atR k)) := fun k' hk' => by
                  rw [take_snoc HKq.out] at hk'
                  rcases List.mem_append.1 hk' with hk' | hk'
                  · exact HA.out k' hk'
                  · obtain rfl := List.mem_singleton.1 hk'
                    rw [HV2.out, HV3.out]
                go_wp2_with fail
                go_roundw
                case rel => exact ⟨q + 1, by omega, by go_num, HS.out, HE9.out⟩
                case measure => simp [intOf]; omega
              · go_wp2_with fail
                go_ret
                exact ⟨rfl, HB9.out⟩
              · go_wp2_with fail
                go_ret
                exact ⟨rfl, HB9.out⟩
              · have HS : Hid (∀ k ∈ d.take (q + 1), valR a (atR k) = valR b (atR k)) := fun k' hk' => by
                  rw [take_snoc HKq.out] at hk'
                  rcases List.mem_append.1 hk' with hk' | hk'
                  · exact HA.out k' hk'
                  · obtain rfl := List.mem_singleton.1 hk'
                    rw [HV2.out, HV3.out]
                go_wp2_with fail
                go_roundw
                case rel => exact ⟨q + 1, by omega, by go_num, HS.out, HE9.out⟩
                case measure => simp [intOf]; omega
            · obtain rfl : q = n := by omega
              have hnn : ¬ ((q : Int) < q) := by omega
              go_wp2_with fail
              have hlw : valR a x = valR b x := atoms_law x 1 (allF_of_check Q3.out) fun y hy h59 => HA.out _ (by
                rw [List.take_of_length_le (by omega)]
                exact (HP.out _).2 ((atSet_mem _ _).2 ⟨y, hy, h59, rfl⟩))
              obtain ⟨v, hv⟩ : ∃ v, valR b x = v := ⟨_, rfl⟩
              have HVA : Hid (holdsB x a = v) := by show _ = _; rw [holdsB_eq Q3.out Q4.out, hlw, hv]
              have HVB : Hid (holdsB x b = v) := by show _ = _; rw [holdsB_eq Q3.out Q5.out, hv]
              have HA8 : Hid (∀ W, Below wr.heap.size wr W → Calls Tryd.prog 22 #[.agg #[.int .i64 x.op, .int .i64 x.course, .string x.name, .int .i64 x.n, .int .i64 x.d, .slice x.kA x.kn x.kc], .agg #[.slice a.sA a.sn a.sc, .int .i64 a.earned, .int .i64 a.num, .int .i64 a.den]] W fun e w' => e = .returned (.bool v) ∧ Below W.heap.size W w') := fun W h => by
                have hc := holds12_any _ x a W (HRu.out W (b7.trans (h.mono b7.size))) (HSa.out W (b7.trans (h.mono b7.size))) (HKK.out.below (b7.trans (h.mono b7.size)) lk)
                rw [HVA.out] at hc; exact hc
              have HB8 : Hid (∀ W, Below wr.heap.size wr W → Calls Tryd.prog 22 #[.agg #[.int .i64 x.op, .int .i64 x.course, .string x.name, .int .i64 x.n, .int .i64 x.d, .slice x.kA x.kn x.kc], .agg #[.slice b.sA b.sn b.sc, .int .i64 b.earned, .int .i64 b.num, .int .i64 b.den]] W fun e w' => e = .returned (.bool v) ∧ Below W.heap.size W w') := fun W h => by
                have hc := holds12_any _ x b W (HRu.out W (b7.trans (h.mono b7.size))) (HSb.out W (b7.trans (h.mono b7.size))) (HKK.out.below (b7.trans (h.mono b7.size)) lk)
                rw [HVB.out] at hc; exact hc
              clear hv hlw
              refine wp_region_below wr.heap.size (by kernel_rfl) (by kernel_rfl) ?_
              refine q_step (by rfl) ?_
              apply Exists.intro
              refine ⟨fun w9 h9 => ?_, ?_⟩
              · have hc9 := (bcell h9).1
                go_simp
                first | done | rfl
              go_simp
              refine q_step (by rfl) ?_
              apply Exists.intro
              refine ⟨fun w9 h9 => ?_, ?_⟩
              · have hc9 := (bcell h9).1
                go_simp
                first | done | rfl
              go_simp
              refine q_step (by rfl) ⟨.bool v, fun w9 h9 => ?_, ?_⟩
              · go_simp
                exact calls_below h9 (Nat.le_refl _) (HA8.out w9 h9)
              go_simp
              refine q_step (by rfl) ?_
              apply Exists.intro
              refine ⟨fun w9 h9 => ?_, ?_⟩
              · have hc9 := (bcell h9).1
                go_simp
                first | done | rfl
              go_simp
              refine q_step (by rfl) ?_
              apply Exists.intro
              refine ⟨fun w9 h9 => ?_, ?_⟩
              · have hc9 := (bcell h9).1
                go_simp
                first | done | rfl
              go_simp
              refine q_step (by rfl) ⟨.bool v, fun w9 h9 => ?_, ?_⟩
              · go_simp
                exact calls_below h9 (Nat.le_refl _) (HB8.out w9 h9)
              go_simp
              repeat
                refine q_step (by rfl) ?_
                apply Exists.intro
                refine ⟨fun w9 h9 => ?_, ?_⟩
                · go_simp
                  first | done | rfl
                go_simp
              refine wpQuiet_nil ?_
              intro w9 hb9
              have b9 := b7.trans (hb9.mono b7.size)
              cases v
              all_goals
                go_wp2_with fail
                go_ret
                exact ⟨rfl, b9⟩
end Go.Proofs.YtbmbpannhncpjaaDoor
