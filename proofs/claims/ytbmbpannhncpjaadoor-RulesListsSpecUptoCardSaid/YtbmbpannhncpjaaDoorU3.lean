/- The leaves of rules (printed by tools/gen70.py). -/
import Derived.Test.YtbmbpannhncpjaaDoorU2
namespace Go.Proofs.YtbmbpannhncpjaaDoor
open Go.RowKit Go.Sort

set_option maxHeartbeats 400000 in
theorem uwithin_any (n lo hi : Int) (w : World) : Calls Tryd.prog 35 #[.int .i64 n, .int .i64 lo, .int .i64 hi] w fun e w' => e = .returned (.bool (withinB n lo hi)) ∧ w = w' := by
  by_cases h1 : lo ≤ n
  · have HR : Hid (withinB n lo hi = decide (n ≤ hi)) := by show _ = _; simp [withinB, h1]
    go_enter Tryd.func35, Tryd.ntmps35
    go_wp2_with fail
    go_ret
    exact ⟨ret_bool HR.out.symm, rfl⟩
  · have HR : Hid (withinB n lo hi = false) := by show _ = _; simp [withinB, h1]
    go_enter Tryd.func35, Tryd.ntmps35
    go_wp2_with fail
    go_ret
    exact ⟨ret_bool HR.out.symm, rfl⟩

set_option maxRecDepth 100000 in
set_option maxHeartbeats 1000000 in
theorem umean_any (a b : Int) (w : World) : Calls Tryd.prog 46 #[.agg #[.int .i64 a, .int .i64 b]] w fun e w' => e = .returned (.bool (meanB a b)) ∧ Below w.heap.size w w' := by
  have hB : Below w.heap.size w (w.alloc (.cells #[.int .i64 a, .int .i64 b] 27)) := (Below.refl _ _).alloc (Nat.le_refl _) _
  have HB := hidp hB
  have HNew := hidp (World.alloc_heap_new w (.cells #[.int .i64 a, .int .i64 b] 27))
  have hC := fun W => aCheck_any a b W
  obtain ⟨W0, hW0⟩ : ∃ W0, w.alloc (.cells #[.int .i64 a, .int .i64 b] 27) = W0 := ⟨_, rfl⟩
  have hBW : Below w.heap.size w W0 := hW0 ▸ hB
  have g1 : W0.heap[w.heap.size]? = some (.cells #[.int .i64 a, .int .i64 b] 27 (0, 0)) := hW0 ▸ World.alloc_heap_new _ _
  have lz := lt_of_heap g1
  have HW0 := hidp hW0
  have G1 := hidp g1
  clear hB HB HNew hW0 g1
  have x0 := cell_of_heap (o := 0) G1.out
  have x1 := cell_of_heap (o := 1) G1.out
  simp only [List.getElem?_toArray, List.getElem?_cons_zero, List.getElem?_cons_succ] at x0 x1
  cases hr : ratB a b with
  | false =>
    have HR : Hid (meanB a b = false) := by show _ = _; simp [meanB, hr]
    rw [hr] at hC
    dsimp only [okOr] at hC
    have HC := hidp hC
    clear hC hr
    go_enter Tryd.func46, Tryd.ntmps46
    go_wp2_with fail
    rw [HW0.out]
    refine (HC.out _).mono ?_
    rintro e w1 ⟨rfl, hb1⟩
    go_wp2_with fail
    go_ret
    exact ⟨ret_bool HR.out.symm, hBW.trans (hb1.mono hBW.size)⟩
  | true =>
    rw [hr] at hC
    dsimp only [okOr] at hC
    have HC := hidp hC
    obtain ⟨b1, b2, b3, b4⟩ := rat_bd hr
    by_cases h0 : 0 ≤ a
    · have HR : Hid (meanB a b = decide (a ≤ 12 * b)) := by show _ = _; simp [meanB, hr, h0]
      clear hC hr
      go_enter Tryd.func46, Tryd.ntmps46
      go_wp2_with fail
      rw [HW0.out]
      refine (HC.out _).mono ?_
      rintro e w1 ⟨rfl, hb1⟩
      have e1 := (hb1.block _ lz).trans G1.out
      have y0 := cell_of_heap (o := 0) e1
      have y1 := cell_of_heap (o := 1) e1
      simp only [List.getElem?_toArray, List.getElem?_cons_zero, List.getElem?_cons_succ] at y0 y1
      clear e1
      go_wp2_with fail
      go_ret
      exact ⟨ret_bool HR.out.symm, hBW.trans (hb1.mono hBW.size)⟩
    · have HR : Hid (meanB a b = false) := by show _ = _; simp [meanB, hr, h0]
      clear hC hr
      go_enter Tryd.func46, Tryd.ntmps46
      go_wp2_with fail
      rw [HW0.out]
      refine (HC.out _).mono ?_
      rintro e w1 ⟨rfl, hb1⟩
      have e1 := (hb1.block _ lz).trans G1.out
      have y0 := cell_of_heap (o := 0) e1
      have y1 := cell_of_heap (o := 1) e1
      simp only [List.getElem?_toArray, List.getElem?_cons_zero, List.getElem?_cons_succ] at y0 y1
      clear e1
      go_wp2_with fail
      go_ret
      exact ⟨ret_bool HR.out.symm, hBW.trans (hb1.mono hBW.size)⟩

set_option maxRecDepth 100000 in
set_option maxHeartbeats 1000000 in
theorem ucourse_any (op c n d : Int) (nm : ByteArray) (A : Option Addr) (kn kc : Nat) (w : World) : Calls Tryd.prog 128 #[.agg #[.int .i64 op, .int .i64 c, .string nm, .int .i64 n, .int .i64 d, .slice A kn kc]] w fun e w' => e = .returned (.bool (courseB c)) ∧ Below w.heap.size w w' := by
  have HB := hidp ((Below.refl w.heap.size w).alloc (Nat.le_refl _) (.cells #[.int .i64 op, .int .i64 c, .string nm, .int .i64 n, .int .i64 d, .slice A kn kc] 24))
  go_enter Tryd.func128, Tryd.ntmps128
  go_wp2_with (go_at_call 35; refine (uwithin_any _ _ _ _).mono ?_; rintro e w1 ⟨rfl, rfl⟩)
  go_ret
  exact ⟨rfl, HB.out⟩

set_option maxRecDepth 100000 in
set_option maxHeartbeats 1000000 in
theorem k1_any (op c n d : Int) (nm : ByteArray) (A : Option Addr) (kn kc : Nat) (w : World) : Calls Tryd.prog 119 #[.agg #[.int .i64 op, .int .i64 c, .string nm, .int .i64 n, .int .i64 d, .slice A kn kc]] w fun e w' => e = .returned (.bool (true)) ∧ Below w.heap.size w w' := by
  have HB := hidp ((Below.refl w.heap.size w).alloc (Nat.le_refl _) (.cells #[.int .i64 op, .int .i64 c, .string nm, .int .i64 n, .int .i64 d, .slice A kn kc] 24))
  go_enter Tryd.func119, Tryd.ntmps119
  go_wp2_with fail
  go_ret
  exact ⟨rfl, HB.out⟩

set_option maxRecDepth 100000 in
set_option maxHeartbeats 1000000 in
theorem k3_any (op c n d : Int) (nm : ByteArray) (A : Option Addr) (kn kc : Nat) (w : World) : Calls Tryd.prog 121 #[.agg #[.int .i64 op, .int .i64 c, .string nm, .int .i64 n, .int .i64 d, .slice A kn kc]] w fun e w' => e = .returned (.bool (true)) ∧ Below w.heap.size w w' := by
  have HB := hidp ((Below.refl w.heap.size w).alloc (Nat.le_refl _) (.cells #[.int .i64 op, .int .i64 c, .string nm, .int .i64 n, .int .i64 d, .slice A kn kc] 24))
  go_enter Tryd.func121, Tryd.ntmps121
  go_wp2_with fail
  go_ret
  exact ⟨rfl, HB.out⟩

set_option maxRecDepth 100000 in
set_option maxHeartbeats 1000000 in
theorem k5_any (op c n d : Int) (nm : ByteArray) (A : Option Addr) (kn kc : Nat) (w : World) : Calls Tryd.prog 123 #[.agg #[.int .i64 op, .int .i64 c, .string nm, .int .i64 n, .int .i64 d, .slice A kn kc]] w fun e w' => e = .returned (.bool (withinB n 0 200)) ∧ Below w.heap.size w w' := by
  have HB := hidp ((Below.refl w.heap.size w).alloc (Nat.le_refl _) (.cells #[.int .i64 op, .int .i64 c, .string nm, .int .i64 n, .int .i64 d, .slice A kn kc] 24))
  go_enter Tryd.func123, Tryd.ntmps123
  go_wp2_with (go_at_call 35; refine (uwithin_any _ _ _ _).mono ?_; rintro e w1 ⟨rfl, rfl⟩)
  go_ret
  exact ⟨rfl, HB.out⟩

set_option maxRecDepth 100000 in
set_option maxHeartbeats 1000000 in
theorem k7_any (op c n d : Int) (nm : ByteArray) (A : Option Addr) (kn kc : Nat) (w : World) : Calls Tryd.prog 125 #[.agg #[.int .i64 op, .int .i64 c, .string nm, .int .i64 n, .int .i64 d, .slice A kn kc]] w fun e w' => e = .returned (.bool (decide (kn = 1))) ∧ Below w.heap.size w w' := by
  have HB := hidp ((Below.refl w.heap.size w).alloc (Nat.le_refl _) (.cells #[.int .i64 op, .int .i64 c, .string nm, .int .i64 n, .int .i64 d, .slice A kn kc] 24))
  go_enter Tryd.func125, Tryd.ntmps125
  go_wp2_with fail
  go_ret
  exact ⟨ret_bool (by rw [Bool.eq_iff_iff]; simp; omega), HB.out⟩

set_option maxRecDepth 100000 in
set_option maxHeartbeats 1000000 in
theorem k13_any (op c n d : Int) (nm : ByteArray) (A : Option Addr) (kn kc : Nat) (w : World) : Calls Tryd.prog 133 #[.agg #[.int .i64 op, .int .i64 c, .string nm, .int .i64 n, .int .i64 d, .slice A kn kc]] w fun e w' => e = .returned (.bool (withinB n 0 10000)) ∧ Below w.heap.size w w' := by
  have HB := hidp ((Below.refl w.heap.size w).alloc (Nat.le_refl _) (.cells #[.int .i64 op, .int .i64 c, .string nm, .int .i64 n, .int .i64 d, .slice A kn kc] 24))
  go_enter Tryd.func133, Tryd.ntmps133
  go_wp2_with (go_at_call 35; refine (uwithin_any _ _ _ _).mono ?_; rintro e w1 ⟨rfl, rfl⟩)
  go_ret
  exact ⟨rfl, HB.out⟩

set_option maxRecDepth 100000 in
set_option maxHeartbeats 1000000 in
theorem k15_any (op c n d : Int) (nm : ByteArray) (A : Option Addr) (kn kc : Nat) (w : World) : Calls Tryd.prog 135 #[.agg #[.int .i64 op, .int .i64 c, .string nm, .int .i64 n, .int .i64 d, .slice A kn kc]] w fun e w' => e = .returned (.bool (meanB n d)) ∧ Below w.heap.size w w' := by
  have HB := hidp ((Below.refl w.heap.size w).alloc (Nat.le_refl _) (.cells #[.int .i64 op, .int .i64 c, .string nm, .int .i64 n, .int .i64 d, .slice A kn kc] 24))
  go_enter Tryd.func135, Tryd.ntmps135
  go_wp2_with (go_at_call 46; refine (umean_any _ _ _).mono ?_; rintro e w1 ⟨rfl, hb1⟩)
  go_ret
  exact ⟨rfl, HB.out.trans (hb1.mono (by simp))⟩

set_option maxRecDepth 100000 in
set_option maxHeartbeats 1000000 in
theorem k9_any (op c n d : Int) (nm : ByteArray) (A : Option Addr) (kn kc : Nat) (w : World) : Calls Tryd.prog 127 #[.agg #[.int .i64 op, .int .i64 c, .string nm, .int .i64 n, .int .i64 d, .slice A kn kc]] w fun e w' => e = .returned (.bool (courseB c && withinB n 0 12)) ∧ Below w.heap.size w w' := by
  obtain ⟨W0, hW0⟩ : ∃ W0, w.alloc (.cells #[.int .i64 op, .int .i64 c, .string nm, .int .i64 n, .int .i64 d, .slice A kn kc] 24) = W0 := ⟨_, rfl⟩
  have hBW : Below w.heap.size w W0 := hW0 ▸ (Below.refl _ w).alloc (Nat.le_refl _) _
  have g1 : W0.heap[w.heap.size]? = some (.cells #[.int .i64 op, .int .i64 c, .string nm, .int .i64 n, .int .i64 d, .slice A kn kc] 24 (0, 0)) := hW0 ▸ World.alloc_heap_new _ _
  have lz := lt_of_heap g1
  have HW0 := hidp hW0
  have G1 := hidp g1
  have x0 := cell_of_heap (o := 0) g1
  have x1 := cell_of_heap (o := 1) g1
  have x2 := cell_of_heap (o := 2) g1
  have x3 := cell_of_heap (o := 3) g1
  have x4 := cell_of_heap (o := 4) g1
  have x5 := cell_of_heap (o := 5) g1
  simp only [List.getElem?_toArray, List.getElem?_cons_zero, List.getElem?_cons_succ] at x0 x1 x2 x3 x4 x5
  have hC := fun W => ucourse_any op c n d nm A kn kc W
  obtain ⟨z, hz⟩ : ∃ z, courseB c = z := ⟨_, rfl⟩
  rw [hz] at hC
  rw [hz]
  have HC := hidp hC
  clear hW0 g1 hC hz
  cases z
  · go_enter Tryd.func127, Tryd.ntmps127
    go_wp2_with fail
    rw [HW0.out]
    go_wp2_with fail
    refine (HC.out _).mono ?_
    rintro e w1 ⟨rfl, hb1⟩
    go_wp2_with fail
    go_ret
    exact ⟨rfl, hBW.trans (hb1.mono hBW.size)⟩
  · go_enter Tryd.func127, Tryd.ntmps127
    go_wp2_with fail
    rw [HW0.out]
    go_wp2_with fail
    refine (HC.out _).mono ?_
    rintro e w1 ⟨rfl, hb1⟩
    have y3 := cell_of_heap (o := 3) ((hb1.block _ lz).trans G1.out)
    simp only [List.getElem?_toArray, List.getElem?_cons_zero, List.getElem?_cons_succ] at y3
    clear x0 x1 x2 x3 x4 x5
    go_wp2_with (go_at_call 35; refine (uwithin_any _ _ _ _).mono ?_; rintro e w2 ⟨rfl, rfl⟩)
    go_ret
    exact ⟨rfl, hBW.trans (hb1.mono hBW.size)⟩

set_option maxRecDepth 100000 in
set_option maxHeartbeats 1000000 in
theorem k11_any (op c n d : Int) (nm : ByteArray) (A : Option Addr) (kn kc : Nat) (w : World) : Calls Tryd.prog 131 #[.agg #[.int .i64 op, .int .i64 c, .string nm, .int .i64 n, .int .i64 d, .slice A kn kc]] w fun e w' => e = .returned (.bool (courseB c && withinB n 1 100)) ∧ Below w.heap.size w w' := by
  obtain ⟨W0, hW0⟩ : ∃ W0, w.alloc (.cells #[.int .i64 op, .int .i64 c, .string nm, .int .i64 n, .int .i64 d, .slice A kn kc] 24) = W0 := ⟨_, rfl⟩
  have hBW : Below w.heap.size w W0 := hW0 ▸ (Below.refl _ w).alloc (Nat.le_refl _) _
  have g1 : W0.heap[w.heap.size]? = some (.cells #[.int .i64 op, .int .i64 c, .string nm, .int .i64 n, .int .i64 d, .slice A kn kc] 24 (0, 0)) := hW0 ▸ World.alloc_heap_new _ _
  have lz := lt_of_heap g1
  have HW0 := hidp hW0
  have G1 := hidp g1
  have x0 := cell_of_heap (o := 0) g1
  have x1 := cell_of_heap (o := 1) g1
  have x2 := cell_of_heap (o := 2) g1
  have x3 := cell_of_heap (o := 3) g1
  have x4 := cell_of_heap (o := 4) g1
  have x5 := cell_of_heap (o := 5) g1
  simp only [List.getElem?_toArray, List.getElem?_cons_zero, List.getElem?_cons_succ] at x0 x1 x2 x3 x4 x5
  have hC := fun W => ucourse_any op c n d nm A kn kc W
  obtain ⟨z, hz⟩ : ∃ z, courseB c = z := ⟨_, rfl⟩
  rw [hz] at hC
  rw [hz]
  have HC := hidp hC
  clear hW0 g1 hC hz
  cases z
  · go_enter Tryd.func131, Tryd.ntmps131
    go_wp2_with fail
    rw [HW0.out]
    go_wp2_with fail
    refine (HC.out _).mono ?_
    rintro e w1 ⟨rfl, hb1⟩
    go_wp2_with fail
    go_ret
    exact ⟨rfl, hBW.trans (hb1.mono hBW.size)⟩
  · go_enter Tryd.func131, Tryd.ntmps131
    go_wp2_with fail
    rw [HW0.out]
    go_wp2_with fail
    refine (HC.out _).mono ?_
    rintro e w1 ⟨rfl, hb1⟩
    have y3 := cell_of_heap (o := 3) ((hb1.block _ lz).trans G1.out)
    simp only [List.getElem?_toArray, List.getElem?_cons_zero, List.getElem?_cons_succ] at y3
    clear x0 x1 x2 x3 x4 x5
    go_wp2_with (go_at_call 35; refine (uwithin_any _ _ _ _).mono ?_; rintro e w2 ⟨rfl, rfl⟩)
    go_ret
    exact ⟨rfl, hBW.trans (hb1.mono hBW.size)⟩

theorem heap_setU {w : World} {b : Nat} {cs : Array Value} {t : TypeId} {fr : Nat × Nat} (h : w.heap[b]? = some (.cells cs t fr)) (o : Nat) (u : Value) : (w.setCell ⟨b, o, none⟩ u).heap[b]? = some (.cells (cs.setIfInBounds o u) t fr) := by
  simp [World.setCell, Array.getElem?_modify, h]
theorem heap_set4 {W : World} {B : Nat} {a b c d u0 u1 u2 u3 : Value} {t : TypeId} (h : W.heap[B]? = some (.cells #[a, b, c, d] t (0, 0))) :
    ((((W.setCell ⟨B, 0, none⟩ u0).setCell ⟨B, 1, none⟩ u1).setCell ⟨B, 2, none⟩ u2).setCell ⟨B, 3, none⟩ u3).heap[B]? = some (.cells #[u0, u1, u2, u3] t (0, 0)) := by
  have h1 := heap_setU h 0 u0
  have h2 := heap_setU h1 1 u1
  have h3 := heap_setU h2 2 u2
  have h4 := heap_setU h3 3 u3
  simpa using h4

set_option maxRecDepth 100000 in
set_option maxHeartbeats 1000000 in
theorem uabout_any (s : Si) (c : Int) (w : World) (hs : SiIn w w.heap.size s) : Calls Tryd.prog 130 #[.agg #[.slice s.sA s.sn s.sc, .int .i64 s.earned, .int .i64 s.num, .int .i64 s.den], .int .i64 c] w fun e w' =>
    e = .returned (.agg #[.int .i64 (aboutS s.seen c).course, .int .i64 (aboutS s.seen c).tries, .int .i64 (aboutS s.seen c).best, .bool (aboutS s.seen c).now]) ∧ Below w.heap.size w w' := by
  have HN := hidp hs.1
  have hcap := hs.2.2.1
  have hlen := hs.2.1
  obtain ⟨W0, hW0⟩ : ∃ W0, (w.alloc (.cells #[.slice s.sA s.sn s.sc, .int .i64 s.earned, .int .i64 s.num, .int .i64 s.den] 29)).alloc (.cells #[.int .i64 0, .int .i64 0, .int .i64 0, .bool false] 49) = W0 := ⟨_, rfl⟩
  have hBW : Below w.heap.size w W0 := by rw [← hW0]; exact ((Below.refl _ w).alloc (Nat.le_refl _) _).alloc (by simp) _
  have g1 : W0.heap[w.heap.size]? = some (.cells #[.slice s.sA s.sn s.sc, .int .i64 s.earned, .int .i64 s.num, .int .i64 s.den] 29 (0, 0)) := by rw [← hW0]; exact (Below.heap_alloc _ _ _ (by simp)).trans (World.alloc_heap_new _ _)
  have g2 : W0.heap[w.heap.size + 1]? = some (.cells #[.int .i64 0, .int .i64 0, .int .i64 0, .bool false] 49 (0, 0)) := by rw [← hW0]; have := World.alloc_heap_new (w.alloc (.cells #[.slice s.sA s.sn s.sc, .int .i64 s.earned, .int .i64 s.num, .int .i64 s.den] 29)) (.cells #[.int .i64 0, .int .i64 0, .int .i64 0, .bool false] 49); rwa [World.size_alloc] at this
  have HW0 := hidp hW0
  have l1 := lt_of_heap g1
  have l2 := lt_of_heap g2
  have G2 := hidp g2
  have x0 := cell_of_heap (o := 0) g1
  simp only [List.getElem?_toArray, List.getElem?_cons_zero] at x0
  clear hW0 g1 g2
  go_enter Tryd.func130, Tryd.ntmps130
  go_wp2_with fail
  rw [HW0.out]
  go_wp2_with fail
  go_loopw [10] (fun i wr => ∃ k : Nat, k ≤ s.sn ∧ i = .int .i64 k ∧ aboutS s.seen c = aboutS (s.seen.drop k) c ∧ Below W0.heap.size W0 wr) (fun i _ => s.sn - (intOf i).toNat)
  case atStart => exact ⟨0, by omega, rfl, rfl, Below.refl _ _⟩
  case round =>
    obtain ⟨k, hk, rfl, hno, hbe⟩ := hrel
    have HA := hidp hno
    clear hno
    have hbw := hBW.trans (hbe.mono hBW.size)
    by_cases hlt : k < s.sn
    · have hsk : SiIn wr w.heap.size s := hs.below hbw
      obtain ⟨b, off, y, he, hb, hzk, c0, c1, c2, c3⟩ := snSl.get hsk hlt
      have HY := hidp (drop_cons hzk)
      have lb := lt_of_cell c0
      rw [he] at x0
      have hA := hidp he
      rw [he]
      clear hzk hsk he x0
      by_cases h0 : y.course = c
      · have hd : (y.course == c) = true := by simp [h0]
        have HR : Hid (aboutS s.seen c = y) := by show _ = _; rw [HA.out, HY.out, aboutS, if_pos h0]
        have e2 := (hbe.block _ l2).trans G2.out
        have l2r := lt_of_heap e2
        have E2 := hidp e2
        have r0 := frozen_of_heap (o := 0) e2
        have r1 := frozen_of_heap (o := 1) e2
        have r2 := frozen_of_heap (o := 2) e2
        have r3 := frozen_of_heap (o := 3) e2
        have q0 := cell_of_heap (o := 0) e2
        have q1 := cell_of_heap (o := 1) e2
        have q2 := cell_of_heap (o := 2) e2
        have q3 := cell_of_heap (o := 3) e2
        simp only [List.getElem?_toArray, List.getElem?_cons_zero, List.getElem?_cons_succ] at q0 q1 q2 q3
        clear h0 e2
        go_wp2_with fail
        obtain ⟨W9, hW9⟩ : ∃ W9, ((((wr.setCell ⟨w.heap.size + 1, 0, none⟩ (.int .i64 y.course)).setCell ⟨w.heap.size + 1, 1, none⟩ (.int .i64 y.tries)).setCell ⟨w.heap.size + 1, 2, none⟩ (.int .i64 y.best)).setCell ⟨w.heap.size + 1, 3, none⟩ (.bool y.now)).alloc (.cells #[.int .i64 y.course, .int .i64 y.tries, .int .i64 y.best, .bool y.now] 49) = W9 := ⟨_, rfl⟩
        have e9 : W9.heap[w.heap.size + 1]? = some (.cells #[.int .i64 y.course, .int .i64 y.tries, .int .i64 y.best, .bool y.now] 49 (0, 0)) := by rw [← hW9]; exact (Below.heap_alloc _ _ _ (by simpa [World.setCell] using l2r)).trans (heap_set4 E2.out)
        have hb9 : Below w.heap.size w W9 := by rw [← hW9]; exact ((((hbw.setCell (by simp) _).setCell (by simp) _).setCell (by simp) _).setCell (by simp) _).alloc (by simpa [World.setCell] using hbw.size) _
        rw [hW9]
        have z0 := cell_of_heap (o := 0) e9
        have z1 := cell_of_heap (o := 1) e9
        have z2 := cell_of_heap (o := 2) e9
        have z3 := cell_of_heap (o := 3) e9
        simp only [List.getElem?_toArray, List.getElem?_cons_zero, List.getElem?_cons_succ] at z0 z1 z2 z3
        refine bodyPost_ret (v := .agg #[.int .i64 y.course, .int .i64 y.tries, .int .i64 y.best, .bool y.now]) ?_ rfl ⟨by rw [HR.out], hb9⟩
        simp [results, Tryd.f130, go_sem, z0, z1, z2, z3]
      · have hd : (y.course == c) = false := by simp [h0]
        have HR : Hid (aboutS s.seen c = aboutS (s.seen.drop (k + 1)) c) := by show _ = _; rw [HA.out, HY.out, aboutS, if_neg h0]
        clear h0
        go_wp2_with fail
        go_roundw
        case rel => exact ⟨k + 1, by omega, by go_num, HR.out, hbe.alloc hbe.size _⟩
        case measure => simp [intOf]; omega
    · obtain rfl : k = s.sn := by omega
      have HR : Hid (aboutS s.seen c = ⟨c, 0, -1, false⟩) := by show _ = _; rw [HA.out, List.drop_of_length_le (by rw [← HN.out]; omega)]; rfl
      have e2 := (hbe.block _ l2).trans G2.out
      have l2r := lt_of_heap e2
      have E2 := hidp e2
      have r0 := frozen_of_heap (o := 0) e2
      have r1 := frozen_of_heap (o := 1) e2
      have r2 := frozen_of_heap (o := 2) e2
      have r3 := frozen_of_heap (o := 3) e2
      have q0 := cell_of_heap (o := 0) e2
      have q1 := cell_of_heap (o := 1) e2
      have q2 := cell_of_heap (o := 2) e2
      have q3 := cell_of_heap (o := 3) e2
      simp only [List.getElem?_toArray, List.getElem?_cons_zero, List.getElem?_cons_succ] at q0 q1 q2 q3
      clear e2
      go_wp2_with fail
      obtain ⟨W9, hW9⟩ : ∃ W9, ((((wr.setCell ⟨w.heap.size + 1, 0, none⟩ (.int .i64 c)).setCell ⟨w.heap.size + 1, 1, none⟩ (.int .i64 0)).setCell ⟨w.heap.size + 1, 2, none⟩ (.int .i64 (-1))).setCell ⟨w.heap.size + 1, 3, none⟩ (.bool false)) = W9 := ⟨_, rfl⟩
      have e9 : W9.heap[w.heap.size + 1]? = some (.cells #[.int .i64 c, .int .i64 0, .int .i64 (-1), .bool false] 49 (0, 0)) := by rw [← hW9]; exact heap_set4 (E2.out)
      have hb9 : Below w.heap.size w W9 := by rw [← hW9]; exact (((hbw.setCell (by simp) _).setCell (by simp) _).setCell (by simp) _).setCell (by simp) _
      rw [hW9]
      have z0 := cell_of_heap (o := 0) e9
      have z1 := cell_of_heap (o := 1) e9
      have z2 := cell_of_heap (o := 2) e9
      have z3 := cell_of_heap (o := 3) e9
      simp only [List.getElem?_toArray, List.getElem?_cons_zero, List.getElem?_cons_succ] at z0 z1 z2 z3
      refine bodyPost_ret (v := .agg #[.int .i64 c, .int .i64 0, .int .i64 (-1), .bool false]) ?_ rfl ⟨by rw [HR.out], hb9⟩
      simp [results, Tryd.f130, go_sem, z0, z1, z2, z3]

end Go.Proofs.YtbmbpannhncpjaaDoor
