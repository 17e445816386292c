/- ratio.Compare; the leaves of rules. -/
import Derived.Test.YtbmbpannhncpjaaDoorU1
import Derived.Test.YtbmbpannhncpjaaDoorV1
namespace Go.Proofs.YtbmbpannhncpjaaDoor
open Go.RowKit Go.Sort

theorem rat_bd {a b : Int} (h : ratB a b = true) : 1 ≤ b ∧ b ≤ 1073741824 ∧ -1073741824 ≤ a ∧ a ≤ 1073741824 := by
  simp [ratB] at h; omega
theorem mul_bd {a d : Int} (h1 : -1073741824 ≤ a) (h2 : a ≤ 1073741824) (h3 : 1 ≤ d) (h4 : d ≤ 1073741824) : -1152921504606846976 ≤ a * d ∧ a * d ≤ 1152921504606846976 := by
  constructor
  · have : -1073741824 * d ≤ a * d := Int.mul_le_mul_of_nonneg_right h1 (by omega)
    omega
  · have : a * d ≤ 1073741824 * d := Int.mul_le_mul_of_nonneg_right h2 (by omega)
    omega

set_option maxRecDepth 100000 in
set_option maxHeartbeats 1000000 in
theorem aCompare1_any (B1 B2 : Nat) (a b c d : Int) (w : World) (h1 : w.heap[B1]? = some (.cells #[.int .i64 a, .int .i64 b] 27 (0, 0))) (h2 : w.heap[B2]? = some (.cells #[.int .i64 c, .int .i64 d] 27 (0, 0))) (ha : ratB a b = true) (hc : ratB c d = true) :
    Calls Tryd.prog 140 #[.pointer (some ⟨B1, 0, none⟩), .pointer (some ⟨B2, 0, none⟩)] w fun e w' => e = .returned (.tuple #[.int .i64 (cmpI (a * d) (c * b)), .int .i64 0]) ∧ w = w' := by
  have x0 := cell_of_heap (o := 0) h1
  have x1 := cell_of_heap (o := 1) h1
  have y0 := cell_of_heap (o := 0) h2
  have y1 := cell_of_heap (o := 1) h2
  simp only [List.getElem?_toArray, List.getElem?_cons_zero, List.getElem?_cons_succ] at x0 x1 y0 y1
  obtain ⟨a1, a2, a3, a4⟩ := rat_bd ha
  obtain ⟨c1, c2, c3, c4⟩ := rat_bd hc
  have m1 := mul_bd a3 a4 c1 c2
  have m2 := mul_bd c3 c4 a1 a2
  have HM1 : Hid (IntKind.i64.wrap (a * d) = a * d) := IntWalk.i64_in _ (by omega)
  have HM2 : Hid (IntKind.i64.wrap (c * b) = c * b) := IntWalk.i64_in _ (by omega)
  obtain ⟨p, hp⟩ : ∃ p, a * d = p := ⟨_, rfl⟩
  obtain ⟨q, hq⟩ : ∃ q, c * b = q := ⟨_, rfl⟩
  rw [hp] at HM1
  rw [hq] at HM2
  rw [hp, hq]
  have hw1 : IntKind.i64.wrap (a * d) = p := by rw [hp]; exact HM1.out
  have hw2 : IntKind.i64.wrap (c * b) = q := by rw [hq]; exact HM2.out
  have HC := hidp (fun W => cmp_any p q W)
  clear h1 h2 ha hc a1 a2 a3 a4 c1 c2 c3 c4 hp hq m1 m2
  go_enter Tryd.func140, Tryd.ntmps140
  go_wp2_with fail
  refine (HC.out _).mono ?_
  rintro e w1 ⟨rfl, rfl⟩
  go_wp2_with fail
  go_ret2
  exact ⟨rfl, rfl⟩

set_option maxRecDepth 100000 in
set_option maxHeartbeats 2000000 in
theorem aboth_any (B1 B2 : Nat) (a b c d : Int) (w : World) (h1 : w.heap[B1]? = some (.cells #[.int .i64 a, .int .i64 b] 27 (0, 0))) (h2 : w.heap[B2]? = some (.cells #[.int .i64 c, .int .i64 d] 27 (0, 0))) (ha : ratB a b = true) (hc : ratB c d = true) :
    Calls Tryd.prog 139 #[.agg #[.int .i64 a, .int .i64 b], .agg #[.int .i64 c, .int .i64 d], .func (.func 140) #[] #[.pointer (some ⟨B1, 0, none⟩), .pointer (some ⟨B2, 0, none⟩)]] w
      fun e w' => e = .returned (.tuple #[.int .i64 (cmpI (a * d) (c * b)), .int .i64 0]) ∧ Below w.heap.size w w' := by
  obtain ⟨W0, hW0⟩ : ∃ W0, (w.alloc (.cells #[.int .i64 a, .int .i64 b] 27)).alloc (.cells #[.int .i64 c, .int .i64 d] 27) = W0 := ⟨_, rfl⟩
  have hBW : Below w.heap.size w W0 := by rw [← hW0]; exact ((Below.refl _ w).alloc (Nat.le_refl _) _).alloc (by simp) _
  have HW0 := hidp hW0
  have l1 := lt_of_heap h1
  have l2 := lt_of_heap h2
  have H1 := hidp h1
  have H2 := hidp h2
  have HCa := fun W => aCheck_any a b W
  have HCc := fun W => aCheck_any c d W
  rw [ha] at HCa
  rw [hc] at HCc
  have HA := hidp HCa
  have HC := hidp HCc
  have HF := hidp (fun W h1 h2 => aCompare1_any B1 B2 a b c d W h1 h2 ha hc)
  have i0 : ∀ w, (Instr.index 148 (.agg #[.int .i64 a, .int .i64 b, .int .i64 c, .int .i64 d]) (.int .i64 0)).run Tryd.prog w = .ok (.agg #[.int .i64 a, .int .i64 b]) w := fun _ => by kernel_rfl
  have i1 : ∀ w, (Instr.index 148 (.agg #[.int .i64 a, .int .i64 b, .int .i64 c, .int .i64 d]) (.int .i64 1)).run Tryd.prog w = .ok (.agg #[.int .i64 c, .int .i64 d]) w := fun _ => by kernel_rfl
  clear hW0 h1 h2 ha hc HCa HCc
  go_enter Tryd.func139, Tryd.ntmps139
  go_wp2_with fail
  rw [HW0.out]
  go_loopw [14] (fun i wr => ∃ k : Nat, k ≤ 2 ∧ i = .int .i64 k ∧ Below W0.heap.size W0 wr) (fun i _ => 2 - (intOf i).toNat)
  case atStart => exact ⟨0, by omega, rfl, Below.refl _ _⟩
  case round =>
    obtain ⟨k, hk, rfl, hbe⟩ := hrel
    have hbw := hBW.trans (hbe.mono hBW.size)
    match k, hk with
    | 0, _ =>
      go_wp2_with fail
      refine (HA.out _).mono ?_
      rintro e w1 ⟨rfl, hb1⟩
      dsimp only [okOr]
      go_wp2_with fail
      go_roundw
      case rel => exact ⟨1, by omega, rfl, (hbe.alloc hbe.size _).trans (hb1.mono (by have := hbe.size; simp; omega))⟩
      case measure => decide
    | 1, _ =>
      go_wp2_with fail
      refine (HC.out _).mono ?_
      rintro e w1 ⟨rfl, hb1⟩
      dsimp only [okOr]
      go_wp2_with fail
      go_roundw
      case rel => exact ⟨2, by omega, rfl, (hbe.alloc hbe.size _).trans (hb1.mono (by have := hbe.size; simp; omega))⟩
      case measure => decide
    | 2, _ =>
      go_wp2_with fail
      refine (HF.out _ ((hbw.block _ l1).trans H1.out) ((hbw.block _ l2).trans H2.out)).mono ?_
      rintro e w1 ⟨rfl, rfl⟩
      go_wp2_with fail
      go_ret2
      exact ⟨rfl, hbw⟩
    | k + 3, h => exact absurd h (by omega)

set_option maxRecDepth 100000 in
set_option maxHeartbeats 1000000 in
theorem aCompare_any (a b c d : Int) (w : World) (ha : ratB a b = true) (hc : ratB c d = true) :
    Calls Tryd.prog 137 #[.agg #[.int .i64 a, .int .i64 b], .agg #[.int .i64 c, .int .i64 d]] w fun e w' => e = .returned (.tuple #[.int .i64 (cmpI (a * d) (c * b)), .int .i64 0]) ∧ Below w.heap.size w w' := by
  obtain ⟨W0, hW0⟩ : ∃ W0, (w.alloc (.cells #[.int .i64 a, .int .i64 b] 27)).alloc (.cells #[.int .i64 c, .int .i64 d] 27) = W0 := ⟨_, rfl⟩
  have hBW : Below w.heap.size w W0 := by rw [← hW0]; exact ((Below.refl _ w).alloc (Nat.le_refl _) _).alloc (by simp) _
  have g1 : W0.heap[w.heap.size]? = some (.cells #[.int .i64 a, .int .i64 b] 27 (0, 0)) := by rw [← hW0]; exact (Below.heap_alloc _ _ _ (by simp)).trans (World.alloc_heap_new _ _)
  have g2 : W0.heap[w.heap.size + 1]? = some (.cells #[.int .i64 c, .int .i64 d] 27 (0, 0)) := by rw [← hW0]; have := World.alloc_heap_new (w.alloc (.cells #[.int .i64 a, .int .i64 b] 27)) (.cells #[.int .i64 c, .int .i64 d] 27); rwa [World.size_alloc] at this
  have HW0 := hidp hW0
  have x0 := cell_of_heap (o := 0) g1
  have x1 := cell_of_heap (o := 1) g1
  have y0 := cell_of_heap (o := 0) g2
  have y1 := cell_of_heap (o := 1) g2
  simp only [List.getElem?_toArray, List.getElem?_cons_zero, List.getElem?_cons_succ] at x0 x1 y0 y1
  have HC := hidp (aboth_any w.heap.size (w.heap.size + 1) a b c d W0 g1 g2 ha hc)
  clear hW0 g1 g2 ha hc
  go_enter Tryd.func137, Tryd.ntmps137
  go_wp2_with fail
  rw [HW0.out]
  refine HC.out.mono ?_
  rintro e w1 ⟨rfl, hb1⟩
  go_wp2_with fail
  go_ret2
  exact ⟨rfl, hBW.trans (hb1.mono hBW.size)⟩
end Go.Proofs.YtbmbpannhncpjaaDoor
