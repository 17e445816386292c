/- What holds of a rule in a situation: the kinds' second functions (printed by tools/gen75.py). -/
import Derived.Test.YtbmbpannhncpjaaDoorU4
namespace Go.Proofs.YtbmbpannhncpjaaDoor
open Go.RowKit Go.Sort

theorem cmp_ge (x y : Int) : decide (0 ≤ cmpI x y) = decide (y ≤ x) := by
  rcases cmpI_cases x y with ⟨h, e⟩ | ⟨h, e⟩ | ⟨h, e⟩ <;> rw [e] <;> rw [decide_eq_decide] <;> omega

set_option maxRecDepth 100000 in
set_option maxHeartbeats 1000000 in
theorem k2_any (op c n d : Int) (nm : ByteArray) (A : Option Addr) (kn kc : Nat) (s : Si) (cnt : Nat) (w : World) : Calls Tryd.prog 120 #[.agg #[.int .i64 op, .int .i64 c, .string nm, .int .i64 n, .int .i64 d, .slice A kn kc], .agg #[.slice s.sA s.sn s.sc, .int .i64 s.earned, .int .i64 s.num, .int .i64 s.den], .int .i64 cnt] w fun e w' => e = .returned (.bool (decide (cnt = kn))) ∧ Below w.heap.size w w' := by
  have HB := hidp (((Below.refl w.heap.size w).alloc (Nat.le_refl _) (.cells #[.int .i64 op, .int .i64 c, .string nm, .int .i64 n, .int .i64 d, .slice A kn kc] 24)).alloc (by simp) (.cells #[.slice s.sA s.sn s.sc, .int .i64 s.earned, .int .i64 s.num, .int .i64 s.den] 29))
  go_enter Tryd.func120, Tryd.ntmps120
  go_wp2_with fail
  go_ret
  exact ⟨ret_bool (by rw [Bool.eq_iff_iff]; simp; omega), HB.out⟩

set_option maxRecDepth 100000 in
set_option maxHeartbeats 1000000 in
theorem k4_any (op c n d : Int) (nm : ByteArray) (A : Option Addr) (kn kc : Nat) (s : Si) (cnt : Nat) (w : World) : Calls Tryd.prog 122 #[.agg #[.int .i64 op, .int .i64 c, .string nm, .int .i64 n, .int .i64 d, .slice A kn kc], .agg #[.slice s.sA s.sn s.sc, .int .i64 s.earned, .int .i64 s.num, .int .i64 s.den], .int .i64 cnt] w fun e w' => e = .returned (.bool (decide (0 < cnt))) ∧ Below w.heap.size w w' := by
  have HB := hidp (((Below.refl w.heap.size w).alloc (Nat.le_refl _) (.cells #[.int .i64 op, .int .i64 c, .string nm, .int .i64 n, .int .i64 d, .slice A kn kc] 24)).alloc (by simp) (.cells #[.slice s.sA s.sn s.sc, .int .i64 s.earned, .int .i64 s.num, .int .i64 s.den] 29))
  go_enter Tryd.func122, Tryd.ntmps122
  go_wp2_with fail
  go_ret
  exact ⟨ret_bool (by first | rfl | (rw [Bool.eq_iff_iff]; simp)), HB.out⟩

set_option maxRecDepth 100000 in
set_option maxHeartbeats 1000000 in
theorem k6_any (op c n d : Int) (nm : ByteArray) (A : Option Addr) (kn kc : Nat) (s : Si) (cnt : Nat) (w : World) : Calls Tryd.prog 124 #[.agg #[.int .i64 op, .int .i64 c, .string nm, .int .i64 n, .int .i64 d, .slice A kn kc], .agg #[.slice s.sA s.sn s.sc, .int .i64 s.earned, .int .i64 s.num, .int .i64 s.den], .int .i64 cnt] w fun e w' => e = .returned (.bool (decide (n ≤ cnt))) ∧ Below w.heap.size w w' := by
  have HB := hidp (((Below.refl w.heap.size w).alloc (Nat.le_refl _) (.cells #[.int .i64 op, .int .i64 c, .string nm, .int .i64 n, .int .i64 d, .slice A kn kc] 24)).alloc (by simp) (.cells #[.slice s.sA s.sn s.sc, .int .i64 s.earned, .int .i64 s.num, .int .i64 s.den] 29))
  go_enter Tryd.func124, Tryd.ntmps124
  go_wp2_with fail
  go_ret
  exact ⟨rfl, HB.out⟩

set_option maxRecDepth 100000 in
set_option maxHeartbeats 1000000 in
theorem k8_any (op c n d : Int) (nm : ByteArray) (A : Option Addr) (kn kc : Nat) (s : Si) (cnt : Nat) (w : World) : Calls Tryd.prog 126 #[.agg #[.int .i64 op, .int .i64 c, .string nm, .int .i64 n, .int .i64 d, .slice A kn kc], .agg #[.slice s.sA s.sn s.sc, .int .i64 s.earned, .int .i64 s.num, .int .i64 s.den], .int .i64 cnt] w fun e w' => e = .returned (.bool (decide (cnt = 0))) ∧ Below w.heap.size w w' := by
  have HB := hidp (((Below.refl w.heap.size w).alloc (Nat.le_refl _) (.cells #[.int .i64 op, .int .i64 c, .string nm, .int .i64 n, .int .i64 d, .slice A kn kc] 24)).alloc (by simp) (.cells #[.slice s.sA s.sn s.sc, .int .i64 s.earned, .int .i64 s.num, .int .i64 s.den] 29))
  go_enter Tryd.func126, Tryd.ntmps126
  go_wp2_with fail
  go_ret
  exact ⟨ret_bool (by rw [Bool.eq_iff_iff]; simp), HB.out⟩

set_option maxRecDepth 100000 in
set_option maxHeartbeats 1000000 in
theorem k14_any (op c n d : Int) (nm : ByteArray) (A : Option Addr) (kn kc : Nat) (s : Si) (cnt : Nat) (w : World) : Calls Tryd.prog 134 #[.agg #[.int .i64 op, .int .i64 c, .string nm, .int .i64 n, .int .i64 d, .slice A kn kc], .agg #[.slice s.sA s.sn s.sc, .int .i64 s.earned, .int .i64 s.num, .int .i64 s.den], .int .i64 cnt] w fun e w' => e = .returned (.bool (decide (n ≤ s.earned))) ∧ Below w.heap.size w w' := by
  have HB := hidp (((Below.refl w.heap.size w).alloc (Nat.le_refl _) (.cells #[.int .i64 op, .int .i64 c, .string nm, .int .i64 n, .int .i64 d, .slice A kn kc] 24)).alloc (by simp) (.cells #[.slice s.sA s.sn s.sc, .int .i64 s.earned, .int .i64 s.num, .int .i64 s.den] 29))
  go_enter Tryd.func134, Tryd.ntmps134
  go_wp2_with fail
  go_ret
  exact ⟨rfl, HB.out⟩

set_option maxRecDepth 100000 in
set_option maxHeartbeats 1000000 in
theorem k10_any (op c n d : Int) (nm : ByteArray) (A : Option Addr) (kn kc : Nat) (s : Si) (cnt : Nat) (w : World) (hs : SiIn w w.heap.size s) : Calls Tryd.prog 129 #[.agg #[.int .i64 op, .int .i64 c, .string nm, .int .i64 n, .int .i64 d, .slice A kn kc], .agg #[.slice s.sA s.sn s.sc, .int .i64 s.earned, .int .i64 s.num, .int .i64 s.den], .int .i64 cnt] w fun e w' => e = .returned (.bool (decide (n ≤ (aboutS s.seen c).best))) ∧ Below w.heap.size w w' := by
  obtain ⟨W0, hW0⟩ : ∃ W0, (w.alloc (.cells #[.int .i64 op, .int .i64 c, .string nm, .int .i64 n, .int .i64 d, .slice A kn kc] 24)).alloc (.cells #[.slice s.sA s.sn s.sc, .int .i64 s.earned, .int .i64 s.num, .int .i64 s.den] 29) = W0 := ⟨_, rfl⟩
  have hBW : Below w.heap.size w W0 := by rw [← hW0]; exact ((Below.refl _ w).alloc (Nat.le_refl _) _).alloc (by simp) _
  have g1 : W0.heap[w.heap.size]? = some (.cells #[.int .i64 op, .int .i64 c, .string nm, .int .i64 n, .int .i64 d, .slice A kn kc] 24 (0, 0)) := by rw [← hW0]; exact (Below.heap_alloc _ _ _ (by simp)).trans (World.alloc_heap_new _ _)
  have g2 : W0.heap[w.heap.size + 1]? = some (.cells #[.slice s.sA s.sn s.sc, .int .i64 s.earned, .int .i64 s.num, .int .i64 s.den] 29 (0, 0)) := by rw [← hW0]; have := World.alloc_heap_new (w.alloc (.cells #[.int .i64 op, .int .i64 c, .string nm, .int .i64 n, .int .i64 d, .slice A kn kc] 24)) (.cells #[.slice s.sA s.sn s.sc, .int .i64 s.earned, .int .i64 s.num, .int .i64 s.den] 29); rwa [World.size_alloc] at this
  have HW0 := hidp hW0
  have l1 := lt_of_heap g1
  have l2 := lt_of_heap g2
  have x0 := cell_of_heap (o := 0) g1
  have x1 := cell_of_heap (o := 1) g1
  have x2 := cell_of_heap (o := 2) g1
  have x3 := cell_of_heap (o := 3) g1
  have x4 := cell_of_heap (o := 4) g1
  have x5 := cell_of_heap (o := 5) g1
  have y0 := cell_of_heap (o := 0) g2
  have y1 := cell_of_heap (o := 1) g2
  have y2 := cell_of_heap (o := 2) g2
  have y3 := cell_of_heap (o := 3) g2
  simp only [List.getElem?_toArray, List.getElem?_cons_zero, List.getElem?_cons_succ] at x0 x1 x2 x3 x4 x5 y0 y1 y2 y3
  have hc := fun W hW => uabout_any s c W hW
  obtain ⟨q, hq⟩ : ∃ q, aboutS s.seen c = q := ⟨_, rfl⟩
  rw [hq] at hc
  rw [hq]
  have HC := hidp hc
  have hs0 : SiIn W0 w.heap.size s := hs.below hBW
  have hfd : ∀ w, (Instr.field 49 (.agg #[.int .i64 q.course, .int .i64 q.tries, .int .i64 q.best, .bool q.now]) 2).run Tryd.prog w = .ok (.int .i64 q.best) w := fun _ => by kernel_rfl
  clear hW0 g1 g2 hc hq
  go_enter Tryd.func129, Tryd.ntmps129
  go_wp2_with fail
  rw [HW0.out]
  refine wp_region_below W0.heap.size (by kernel_rfl) (by kernel_rfl) ?_
  repeat
    refine q_step (by rfl) ?_
    apply Exists.intro
    refine ⟨fun w9 h9 => ?_, ?_⟩
    · have hc9 := (bcell h9).1
      go_simp
      first | done | rfl | exact calls_below h9 (Nat.le_refl _) (HC.out w9 (hs0.keep (Nat.le_trans hBW.size h9.size) (fun b hb => h9.block b (Nat.lt_of_lt_of_le hb hBW.size))))
    go_simp
  refine wpQuiet_nil ?_
  intro w9 hb9
  go_wp2_with fail
  go_ret
  exact ⟨rfl, hBW.trans (hb9.mono hBW.size)⟩

set_option maxRecDepth 100000 in
set_option maxHeartbeats 1000000 in
theorem k12_any (op c n d : Int) (nm : ByteArray) (A : Option Addr) (kn kc : Nat) (s : Si) (cnt : Nat) (w : World) (hs : SiIn w w.heap.size s) : Calls Tryd.prog 132 #[.agg #[.int .i64 op, .int .i64 c, .string nm, .int .i64 n, .int .i64 d, .slice A kn kc], .agg #[.slice s.sA s.sn s.sc, .int .i64 s.earned, .int .i64 s.num, .int .i64 s.den], .int .i64 cnt] w fun e w' => e = .returned (.bool (decide (n ≤ (aboutS s.seen c).tries))) ∧ Below w.heap.size w w' := by
  obtain ⟨W0, hW0⟩ : ∃ W0, (w.alloc (.cells #[.int .i64 op, .int .i64 c, .string nm, .int .i64 n, .int .i64 d, .slice A kn kc] 24)).alloc (.cells #[.slice s.sA s.sn s.sc, .int .i64 s.earned, .int .i64 s.num, .int .i64 s.den] 29) = W0 := ⟨_, rfl⟩
  have hBW : Below w.heap.size w W0 := by rw [← hW0]; exact ((Below.refl _ w).alloc (Nat.le_refl _) _).alloc (by simp) _
  have g1 : W0.heap[w.heap.size]? = some (.cells #[.int .i64 op, .int .i64 c, .string nm, .int .i64 n, .int .i64 d, .slice A kn kc] 24 (0, 0)) := by rw [← hW0]; exact (Below.heap_alloc _ _ _ (by simp)).trans (World.alloc_heap_new _ _)
  have g2 : W0.heap[w.heap.size + 1]? = some (.cells #[.slice s.sA s.sn s.sc, .int .i64 s.earned, .int .i64 s.num, .int .i64 s.den] 29 (0, 0)) := by rw [← hW0]; have := World.alloc_heap_new (w.alloc (.cells #[.int .i64 op, .int .i64 c, .string nm, .int .i64 n, .int .i64 d, .slice A kn kc] 24)) (.cells #[.slice s.sA s.sn s.sc, .int .i64 s.earned, .int .i64 s.num, .int .i64 s.den] 29); rwa [World.size_alloc] at this
  have HW0 := hidp hW0
  have l1 := lt_of_heap g1
  have l2 := lt_of_heap g2
  have x0 := cell_of_heap (o := 0) g1
  have x1 := cell_of_heap (o := 1) g1
  have x2 := cell_of_heap (o := 2) g1
  have x3 := cell_of_heap (o := 3) g1
  have x4 := cell_of_heap (o := 4) g1
  have x5 := cell_of_heap (o := 5) g1
  have y0 := cell_of_heap (o := 0) g2
  have y1 := cell_of_heap (o := 1) g2
  have y2 := cell_of_heap (o := 2) g2
  have y3 := cell_of_heap (o := 3) g2
  simp only [List.getElem?_toArray, List.getElem?_cons_zero, List.getElem?_cons_succ] at x0 x1 x2 x3 x4 x5 y0 y1 y2 y3
  have hc := fun W hW => uabout_any s c W hW
  obtain ⟨q, hq⟩ : ∃ q, aboutS s.seen c = q := ⟨_, rfl⟩
  rw [hq] at hc
  rw [hq]
  have HC := hidp hc
  have hs0 : SiIn W0 w.heap.size s := hs.below hBW
  have hfd : ∀ w, (Instr.field 49 (.agg #[.int .i64 q.course, .int .i64 q.tries, .int .i64 q.best, .bool q.now]) 1).run Tryd.prog w = .ok (.int .i64 q.tries) w := fun _ => by kernel_rfl
  clear hW0 g1 g2 hc hq
  go_enter Tryd.func132, Tryd.ntmps132
  go_wp2_with fail
  rw [HW0.out]
  refine wp_region_below W0.heap.size (by kernel_rfl) (by kernel_rfl) ?_
  repeat
    refine q_step (by rfl) ?_
    apply Exists.intro
    refine ⟨fun w9 h9 => ?_, ?_⟩
    · have hc9 := (bcell h9).1
      go_simp
      first | done | rfl | exact calls_below h9 (Nat.le_refl _) (HC.out w9 (hs0.keep (Nat.le_trans hBW.size h9.size) (fun b hb => h9.block b (Nat.lt_of_lt_of_le hb hBW.size))))
    go_simp
  refine wpQuiet_nil ?_
  intro w9 hb9
  go_wp2_with fail
  go_ret
  exact ⟨rfl, hBW.trans (hb9.mono hBW.size)⟩

set_option maxRecDepth 100000 in
set_option maxHeartbeats 1000000 in
theorem k17_any (op c n d : Int) (nm : ByteArray) (A : Option Addr) (kn kc : Nat) (s : Si) (cnt : Nat) (w : World) (hs : SiIn w w.heap.size s) : Calls Tryd.prog 138 #[.agg #[.int .i64 op, .int .i64 c, .string nm, .int .i64 n, .int .i64 d, .slice A kn kc], .agg #[.slice s.sA s.sn s.sc, .int .i64 s.earned, .int .i64 s.num, .int .i64 s.den], .int .i64 cnt] w fun e w' => e = .returned (.bool ((aboutS s.seen c).now)) ∧ Below w.heap.size w w' := by
  obtain ⟨W0, hW0⟩ : ∃ W0, (w.alloc (.cells #[.int .i64 op, .int .i64 c, .string nm, .int .i64 n, .int .i64 d, .slice A kn kc] 24)).alloc (.cells #[.slice s.sA s.sn s.sc, .int .i64 s.earned, .int .i64 s.num, .int .i64 s.den] 29) = W0 := ⟨_, rfl⟩
  have hBW : Below w.heap.size w W0 := by rw [← hW0]; exact ((Below.refl _ w).alloc (Nat.le_refl _) _).alloc (by simp) _
  have g1 : W0.heap[w.heap.size]? = some (.cells #[.int .i64 op, .int .i64 c, .string nm, .int .i64 n, .int .i64 d, .slice A kn kc] 24 (0, 0)) := by rw [← hW0]; exact (Below.heap_alloc _ _ _ (by simp)).trans (World.alloc_heap_new _ _)
  have g2 : W0.heap[w.heap.size + 1]? = some (.cells #[.slice s.sA s.sn s.sc, .int .i64 s.earned, .int .i64 s.num, .int .i64 s.den] 29 (0, 0)) := by rw [← hW0]; have := World.alloc_heap_new (w.alloc (.cells #[.int .i64 op, .int .i64 c, .string nm, .int .i64 n, .int .i64 d, .slice A kn kc] 24)) (.cells #[.slice s.sA s.sn s.sc, .int .i64 s.earned, .int .i64 s.num, .int .i64 s.den] 29); rwa [World.size_alloc] at this
  have HW0 := hidp hW0
  have l1 := lt_of_heap g1
  have l2 := lt_of_heap g2
  have x0 := cell_of_heap (o := 0) g1
  have x1 := cell_of_heap (o := 1) g1
  have x2 := cell_of_heap (o := 2) g1
  have x3 := cell_of_heap (o := 3) g1
  have x4 := cell_of_heap (o := 4) g1
  have x5 := cell_of_heap (o := 5) g1
  have y0 := cell_of_heap (o := 0) g2
  have y1 := cell_of_heap (o := 1) g2
  have y2 := cell_of_heap (o := 2) g2
  have y3 := cell_of_heap (o := 3) g2
  simp only [List.getElem?_toArray, List.getElem?_cons_zero, List.getElem?_cons_succ] at x0 x1 x2 x3 x4 x5 y0 y1 y2 y3
  have hc := fun W hW => uabout_any s c W hW
  obtain ⟨q, hq⟩ : ∃ q, aboutS s.seen c = q := ⟨_, rfl⟩
  rw [hq] at hc
  rw [hq]
  have HC := hidp hc
  have hs0 : SiIn W0 w.heap.size s := hs.below hBW
  have hfd : ∀ w, (Instr.field 49 (.agg #[.int .i64 q.course, .int .i64 q.tries, .int .i64 q.best, .bool q.now]) 3).run Tryd.prog w = .ok (.bool q.now) w := fun _ => by kernel_rfl
  clear hW0 g1 g2 hc hq
  go_enter Tryd.func138, Tryd.ntmps138
  go_wp2_with fail
  rw [HW0.out]
  go_wp2_with fail
  refine (HC.out W0 (hs0.keep hBW.size (fun b hb => rfl))).mono ?_
  rintro e w1 ⟨rfl, hb1⟩
  go_wp2_with fail
  go_ret
  exact ⟨rfl, hBW.trans (hb1.mono hBW.size)⟩

set_option maxRecDepth 100000 in
set_option maxHeartbeats 1000000 in
theorem k16_any (op c n d : Int) (nm : ByteArray) (A : Option Addr) (kn kc : Nat) (s : Si) (cnt : Nat) (w : World) (hr : ratB n d = true) (hs : ratB s.num s.den = true) : Calls Tryd.prog 136 #[.agg #[.int .i64 op, .int .i64 c, .string nm, .int .i64 n, .int .i64 d, .slice A kn kc], .agg #[.slice s.sA s.sn s.sc, .int .i64 s.earned, .int .i64 s.num, .int .i64 s.den], .int .i64 cnt] w fun e w' => e = .returned (.bool (atLeast s.num s.den n d)) ∧ Below w.heap.size w w' := by
  obtain ⟨W0, hW0⟩ : ∃ W0, (w.alloc (.cells #[.int .i64 op, .int .i64 c, .string nm, .int .i64 n, .int .i64 d, .slice A kn kc] 24)).alloc (.cells #[.slice s.sA s.sn s.sc, .int .i64 s.earned, .int .i64 s.num, .int .i64 s.den] 29) = W0 := ⟨_, rfl⟩
  have hBW : Below w.heap.size w W0 := by rw [← hW0]; exact ((Below.refl _ w).alloc (Nat.le_refl _) _).alloc (by simp) _
  have g1 : W0.heap[w.heap.size]? = some (.cells #[.int .i64 op, .int .i64 c, .string nm, .int .i64 n, .int .i64 d, .slice A kn kc] 24 (0, 0)) := by rw [← hW0]; exact (Below.heap_alloc _ _ _ (by simp)).trans (World.alloc_heap_new _ _)
  have g2 : W0.heap[w.heap.size + 1]? = some (.cells #[.slice s.sA s.sn s.sc, .int .i64 s.earned, .int .i64 s.num, .int .i64 s.den] 29 (0, 0)) := by rw [← hW0]; have := World.alloc_heap_new (w.alloc (.cells #[.int .i64 op, .int .i64 c, .string nm, .int .i64 n, .int .i64 d, .slice A kn kc] 24)) (.cells #[.slice s.sA s.sn s.sc, .int .i64 s.earned, .int .i64 s.num, .int .i64 s.den] 29); rwa [World.size_alloc] at this
  have HW0 := hidp hW0
  have l1 := lt_of_heap g1
  have l2 := lt_of_heap g2
  have x0 := cell_of_heap (o := 0) g1
  have x1 := cell_of_heap (o := 1) g1
  have x2 := cell_of_heap (o := 2) g1
  have x3 := cell_of_heap (o := 3) g1
  have x4 := cell_of_heap (o := 4) g1
  have x5 := cell_of_heap (o := 5) g1
  have y0 := cell_of_heap (o := 0) g2
  have y1 := cell_of_heap (o := 1) g2
  have y2 := cell_of_heap (o := 2) g2
  have y3 := cell_of_heap (o := 3) g2
  simp only [List.getElem?_toArray, List.getElem?_cons_zero, List.getElem?_cons_succ] at x0 x1 x2 x3 x4 x5 y0 y1 y2 y3
  have HC := hidp (fun W => aCompare_any s.num s.den n d W hs hr)
  have HR : Hid (decide (0 ≤ cmpI (s.num * d) (n * s.den)) = atLeast s.num s.den n d) := by show _ = _; rw [cmp_ge, atLeast]
  obtain ⟨q, hq⟩ : ∃ q, cmpI (s.num * d) (n * s.den) = q := ⟨_, rfl⟩
  rw [hq] at HC HR
  clear hW0 g1 g2 hr hs hq
  go_enter Tryd.func136, Tryd.ntmps136
  go_wp2_with fail
  rw [HW0.out]
  go_wp2_with fail
  refine (HC.out W0).mono ?_
  rintro e w1 ⟨rfl, hb1⟩
  go_wp2_with fail
  go_ret
  exact ⟨ret_bool HR.out, hBW.trans (hb1.mono hBW.size)⟩

end Go.Proofs.YtbmbpannhncpjaaDoor
