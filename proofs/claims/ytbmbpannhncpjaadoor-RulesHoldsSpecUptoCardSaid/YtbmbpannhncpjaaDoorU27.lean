/- RulesHoldsSpec walked (printed by tools/gen94.py). -/
import Derived.Test.YtbmbpannhncpjaaDoorU20
import Derived.Test.YtbmbpannhncpjaaDoorUP5
import Derived.Test.YtbmbpannhncpjaaDoorV6
namespace Go.Proofs.YtbmbpannhncpjaaDoor
open Go.RowKit Go.Sort

set_option maxRecDepth 100000 in
set_option maxHeartbeats 8000000 in
theorem holdsSpec_calls (hx : Nat) (x : Ru) (s : Si) (w : World) (hb : (partsD 1 x).length ≤ 1048576) (hr : RuIn hx w w.heap.size x) (hs : SiIn w w.heap.size s) (hkk : KindsAt w) :
    Calls Tryd.prog 3 #[.agg #[.int .i64 x.op, .int .i64 x.course, .string x.name, .int .i64 x.n, .int .i64 x.d, .slice x.kA x.kn x.kc], .agg #[.slice s.sA s.sn s.sc, .int .i64 s.earned, .int .i64 s.num, .int .i64 s.den]] w fun e w' => e = .returned (.bool true) ∧ Below w.heap.size w w' := by
  have lk := hkk.lt
  have HKK := hidp hkk
  have hcs := hs.2.2.1
  have hls := hs.2.1
  have HRu : Hid (∀ W, Below w.heap.size w W → RuIn hx W W.heap.size x) := fun W h => hr.keep h.size h.block
  have HSa : Hid (∀ W, Below w.heap.size w W → SiIn W W.heap.size s) := fun W h => hs.keep h.size h.block
  obtain ⟨v, hv⟩ : ∃ v, holdsB x s = v := ⟨_, rfl⟩
  obtain ⟨z, hz⟩ : ∃ z, holdsE x s = z := ⟨_, rfl⟩
  have HA : Hid (∀ W, Below w.heap.size w W → Calls Tryd.prog 12 #[.agg #[.int .i64 x.op, .int .i64 x.course, .string x.name, .int .i64 x.n, .int .i64 x.d, .slice x.kA x.kn x.kc], .agg #[.slice s.sA s.sn s.sc, .int .i64 s.earned, .int .i64 s.num, .int .i64 s.den]] W fun e w' => e = .returned (.tuple #[.bool v, .int .i64 z]) ∧ Below W.heap.size W w') := fun W h => by
    have hc := uHolds_any hx x s W (HRu.out W h) (HSa.out W h) (HKK.out.below h lk)
    rw [hv, hz] at hc; exact hc
  have HB : Hid (∀ W, Below w.heap.size w W → Calls Tryd.prog 13 #[.agg #[.int .i64 x.op, .int .i64 x.course, .string x.name, .int .i64 x.n, .int .i64 x.d, .slice x.kA x.kn x.kc], .agg #[.slice s.sA s.sn s.sc, .int .i64 s.earned, .int .i64 s.num, .int .i64 s.den]] W fun e w' => e = .returned (.tuple #[.bool v, .int .i64 z]) ∧ Below W.heap.size W w') := fun W h => by
    have hc := vHolds_any hx x s W (HRu.out W h) (HSa.out W h)
    rw [check_eq x hb] at hc
    rw [show (checkB x && fitsB s && valR s x) = v from hv, show okOr (checkB x && fitsB s) 120 = z from hz] at hc; exact hc
  clear hr hs hkk hv hz hb

  obtain ⟨W0, hW0⟩ : ∃ W0, ((w.alloc (.cells #[.int .i64 x.op, .int .i64 x.course, .string x.name, .int .i64 x.n, .int .i64 x.d, .slice x.kA x.kn x.kc] 24)).alloc (.cells #[.slice s.sA s.sn s.sc, .int .i64 s.earned, .int .i64 s.num, .int .i64 s.den] 29)) = W0 := ⟨_, rfl⟩
  have hBW : Below w.heap.size w W0 := by rw [← hW0]; exact (((Below.refl _ w).alloc (by first | exact Nat.le_refl _ | (simp <;> omega)) _).alloc (by first | exact Nat.le_refl _ | (simp <;> omega)) _)
  have g0 : W0.heap[w.heap.size]? = some (.cells #[.int .i64 x.op, .int .i64 x.course, .string x.name, .int .i64 x.n, .int .i64 x.d, .slice x.kA x.kn x.kc] 24 (0, 0)) := by
    rw [← hW0, Below.heap_alloc _ _ _ (by simp <;> omega)]
    have := World.alloc_heap_new w (.cells #[.int .i64 x.op, .int .i64 x.course, .string x.name, .int .i64 x.n, .int .i64 x.d, .slice x.kA x.kn x.kc] 24)
    exact this
  have g1 : W0.heap[w.heap.size + 1]? = some (.cells #[.slice s.sA s.sn s.sc, .int .i64 s.earned, .int .i64 s.num, .int .i64 s.den] 29 (0, 0)) := by
    rw [← hW0]
    have := World.alloc_heap_new (w.alloc (.cells #[.int .i64 x.op, .int .i64 x.course, .string x.name, .int .i64 x.n, .int .i64 x.d, .slice x.kA x.kn x.kc] 24)) (.cells #[.slice s.sA s.sn s.sc, .int .i64 s.earned, .int .i64 s.num, .int .i64 s.den] 29)
    rwa [World.size_alloc] at this
  have HW0 := hidp hW0
  have G0 := hidp g0
  have l0 := lt_of_heap g0
  have G1 := hidp g1
  have l1 := lt_of_heap g1
  have HBW := hidp hBW
  have x0 := cell_of_heap (o := 0) g0
  have x1 := cell_of_heap (o := 1) g0
  have x2 := cell_of_heap (o := 2) g0
  have x3 := cell_of_heap (o := 3) g0
  have x4 := cell_of_heap (o := 4) g0
  have x5 := cell_of_heap (o := 5) g0
  have z0 := cell_of_heap (o := 0) g1
  have z1 := cell_of_heap (o := 1) g1
  have z2 := cell_of_heap (o := 2) g1
  have z3 := cell_of_heap (o := 3) g1
  simp only [List.getElem?_toArray, List.getElem?_cons_zero, List.getElem?_cons_succ] at x0 x1 x2 x3 x4 x5 z0 z1 z2 z3
  clear hW0 g0 g1
  go_enter Tryd.func3, Tryd.ntmps3
  go_wp2_with fail
  rw [HW0.out]
  refine (sane_any W0 (HKK.out.below HBW.out lk)).mono ?_
  rintro e w1 ⟨rfl, h1⟩
  have b1 := HBW.out.trans (h1.mono HBW.out.size)
  clear x0 x1 x2 x3 x4 x5 z0 z1 z2 z3
  have e0 := (h1.block _ l0).trans G0.out
  have e1 := (h1.block _ l1).trans G1.out
  have x0 := cell_of_heap (o := 0) e0
  have x1 := cell_of_heap (o := 1) e0
  have x2 := cell_of_heap (o := 2) e0
  have x3 := cell_of_heap (o := 3) e0
  have x4 := cell_of_heap (o := 4) e0
  have x5 := cell_of_heap (o := 5) e0
  have z0 := cell_of_heap (o := 0) e1
  have z1 := cell_of_heap (o := 1) e1
  have z2 := cell_of_heap (o := 2) e1
  have z3 := cell_of_heap (o := 3) e1
  simp only [List.getElem?_toArray, List.getElem?_cons_zero, List.getElem?_cons_succ] at x0 x1 x2 x3 x4 x5 z0 z1 z2 z3
  have m0 := lt_of_heap e0
  have m1 := lt_of_heap e1
  clear e0 e1
  obtain ⟨q0, hq0⟩ : ∃ q, fewB x = q := ⟨_, rfl⟩
  have hc := vFew_any hx x w1 (HRu.out w1 b1)
  rw [hq0] at hc
  have HC := hidp hc
  clear hc hq0
  cases q0
  · go_wp2_with fail
    refine HC.out.mono ?_
    rintro e w2 ⟨rfl, h2⟩
    go_wp2_with fail
    go_ret
    exact ⟨rfl, b1.trans (h2.mono b1.size)⟩
  go_wp2_with fail
  refine HC.out.mono ?_
  rintro e w2 ⟨rfl, h2'⟩
  have h2 := h1.trans (h2'.mono h1.size)
  have b2 := HBW.out.trans (h2.mono HBW.out.size)
  clear x0 x1 x2 x3 x4 x5 z0 z1 z2 z3 m0 m1
  have e0 := (h2.block _ l0).trans G0.out
  have e1 := (h2.block _ l1).trans G1.out
  have x0 := cell_of_heap (o := 0) e0
  have x1 := cell_of_heap (o := 1) e0
  have x2 := cell_of_heap (o := 2) e0
  have x3 := cell_of_heap (o := 3) e0
  have x4 := cell_of_heap (o := 4) e0
  have x5 := cell_of_heap (o := 5) e0
  have z0 := cell_of_heap (o := 0) e1
  have z1 := cell_of_heap (o := 1) e1
  have z2 := cell_of_heap (o := 2) e1
  have z3 := cell_of_heap (o := 3) e1
  simp only [List.getElem?_toArray, List.getElem?_cons_zero, List.getElem?_cons_succ] at x0 x1 x2 x3 x4 x5 z0 z1 z2 z3
  have m0 := lt_of_heap e0
  have m1 := lt_of_heap e1
  clear e0 e1
  by_cases hl : 50 < s.sn
  · go_wp2_with fail
    go_ret
    exact ⟨rfl, b2⟩
  go_wp2_with fail
  refine (HA.out w2 b2).mono ?_
  rintro e w3 ⟨rfl, h3'⟩
  have h3 := h2.trans (h3'.mono h2.size)
  have b3 := HBW.out.trans (h3.mono HBW.out.size)
  clear x0 x1 x2 x3 x4 x5 z0 z1 z2 z3 m0 m1
  have e0 := (h3.block _ l0).trans G0.out
  have e1 := (h3.block _ l1).trans G1.out
  have x0 := cell_of_heap (o := 0) e0
  have x1 := cell_of_heap (o := 1) e0
  have x2 := cell_of_heap (o := 2) e0
  have x3 := cell_of_heap (o := 3) e0
  have x4 := cell_of_heap (o := 4) e0
  have x5 := cell_of_heap (o := 5) e0
  have z0 := cell_of_heap (o := 0) e1
  have z1 := cell_of_heap (o := 1) e1
  have z2 := cell_of_heap (o := 2) e1
  have z3 := cell_of_heap (o := 3) e1
  simp only [List.getElem?_toArray, List.getElem?_cons_zero, List.getElem?_cons_succ] at x0 x1 x2 x3 x4 x5 z0 z1 z2 z3
  have m0 := lt_of_heap e0
  have m1 := lt_of_heap e1
  clear e0 e1
  go_wp2_with fail
  refine (HB.out w3 b3).mono ?_
  rintro e w4 ⟨rfl, h4'⟩
  have b4 := b3.trans (h4'.mono b3.size)
  cases v
  all_goals
    go_wp2_with fail
    go_ret
    exact ⟨rfl, b4⟩
end Go.Proofs.YtbmbpannhncpjaaDoor
