/- ratio: size, common, Check, Compare. -/
import Derived.Test.YtbmbpannhncpjaaDoorU0
import Derived.Test.YtbmbpannhncpjaaDoorProg
import Derived.BigQuiet
import Derived.Laws.EntriesVeiled
namespace Go.Proofs.YtbmbpannhncpjaaDoor
open Go.RowKit

set_option maxHeartbeats 400000 in
theorem asize_any (z : Int) (w : World) (h1 : -1073741824 ≤ z) (h2 : z ≤ 1073741824) : Calls Tryd.prog 92 #[.int .i64 z] w fun e w' => e = .returned (.int .u64 (z.natAbs : Int)) ∧ w = w' := by
  by_cases h : z < 0
  · have HR : Hid (IntKind.u64.wrap (-IntKind.u64.wrap z) = (z.natAbs : Int)) := by show _ = _; simp [IntKind.wrap, IntKind.bits, IntKind.signed]; omega
    go_enter Tryd.func92, Tryd.ntmps92
    go_wp2_with fail
    go_ret
    exact ⟨ret_int HR.out, rfl⟩
  · have HR : Hid (IntKind.u64.wrap z = (z.natAbs : Int)) := by show _ = _; simp [IntKind.wrap, IntKind.bits, IntKind.signed]; omega
    go_enter Tryd.func92, Tryd.ntmps92
    go_wp2_with fail
    go_ret
    exact ⟨ret_int (by omega), rfl⟩

set_option maxRecDepth 100000 in
set_option maxHeartbeats 1000000 in
theorem acommon1_any (B : Nat) : ∀ (y x : Nat) (w : World), x < 4294967296 → y < 4294967296 → w.cell? ⟨B, 0, none⟩ = some (.func (.func 91) #[] #[.pointer (some ⟨B, 0, none⟩)]) →
    Calls Tryd.prog 91 #[.int .u64 (x : Int), .int .u64 (y : Int), .pointer (some ⟨B, 0, none⟩)] w fun e w' => e = .returned (.int .u64 (Nat.gcd y x : Nat)) ∧ Below w.heap.size w w' := by
  intro y
  induction y using Nat.strongRecOn with
  | _ y ih =>
    intro x w hx hy hB
    by_cases h0 : y = 0
    · subst h0
      have HR : Hid (Nat.gcd 0 x = x) := Nat.gcd_zero_left x
      go_enter Tryd.func91, Tryd.ntmps91
      go_wp2_with fail
      go_ret
      exact ⟨ret_int (by rw [HR.out]), Below.refl _ _⟩
    · have hne : ((y : Int) == 0) = false := by simp; omega
      have hne' : ((y : Int) == ((0 : Nat) : Int)) = false := by simp; omega
      obtain ⟨m, hm⟩ : ∃ m, x % y = m := ⟨_, rfl⟩
      have hmod : m < y := by rw [← hm]; exact Nat.mod_lt _ (by omega)
      have hy0 : (0 : Int) < y := by omega
      have hR : Nat.gcd y x = Nat.gcd m y := by rw [← hm]; exact Nat.gcd_rec y x
      have hrem : Int.tmod (x : Int) (y : Int) = (m : Int) := by
        rw [Int.tmod_eq_emod_of_nonneg (by omega), ← Int.natCast_emod, hm]
      have HI := hidp (fun w' => ih m hmod y w' hy (by omega))
      have HR := hidp hR
      have HM := hidp hrem
      have HN := hidp h0
      have hlt := lt_of_cell hB
      clear ih hR hrem h0 hm
      go_enter Tryd.func91, Tryd.ntmps91
      go_wp2_with fail
      refine wp_region_below w.heap.size (by kernel_rfl) (by kernel_rfl) ?_
      repeat
        refine q_step (by rfl) ?_
        apply Exists.intro
        refine ⟨fun w9 h9 => ?_, ?_⟩
        · have hc9 := (bcell h9).1
          go_simp
          first | done | rfl
        go_simp
      refine q_step (by rfl) ⟨.int .u64 (m : Nat), fun w9 h9 => ?_, ?_⟩
      · have hc9 := (bcell h9).1
        go_simp
        rw [if_neg HN.out]
        exact ⟨rfl, by rw [HM.out]⟩
      go_simp
      refine q_step (by rfl) ⟨.int .u64 (Nat.gcd m y : Nat), fun w9 h9 => ?_, ?_⟩
      · have hc9 := (bcell h9).1
        go_simp
        exact calls_below h9 (Nat.le_refl _) (HI.out w9 (by rw [hc9 _ _ hlt]; exact hB))
      go_simp
      repeat
        refine q_step (by rfl) ?_
        apply Exists.intro
        refine ⟨fun w9 h9 => ?_, ?_⟩
        · have hc9 := (bcell h9).1
          go_simp
          first | done | rfl
        go_simp
      refine wpQuiet_nil ?_
      intro w9 hb9
      go_wp2_with fail
      go_ret
      exact ⟨ret_int (by rw [HR.out]), hb9⟩

set_option maxRecDepth 100000 in
set_option maxHeartbeats 1000000 in
theorem acommon_any (a b : Int) (w : World) (h1 : -1073741824 ≤ a) (h2 : a ≤ 1073741824) (h3 : -1073741824 ≤ b) (h4 : b ≤ 1073741824) :
    Calls Tryd.prog 69 #[.int .i64 a, .int .i64 b] w fun e w' => e = .returned (.int .u64 (Nat.gcd a.natAbs b.natAbs : Nat)) ∧ Below w.heap.size w w' := by
  obtain ⟨W0, hW0⟩ : ∃ W0, w.alloc (.cells #[.func (.func 91) #[] #[.pointer (some ⟨w.heap.size, 0, none⟩)]] 97) = W0 := ⟨_, rfl⟩
  have hBW : Below w.heap.size w W0 := by rw [← hW0]; exact (Below.refl _ w).alloc (Nat.le_refl _) _
  have g1 : W0.heap[w.heap.size]? = some (.cells #[.func (.func 91) #[] #[.pointer (some ⟨w.heap.size, 0, none⟩)]] 97 (0, 0)) := by rw [← hW0]; exact World.alloc_heap_new _ _
  have c1 := cell_of_heap (o := 0) g1
  simp only [List.getElem?_toArray, List.getElem?_cons_zero] at c1
  have hz := lt_of_heap g1
  have HW0 := hidp hW0
  obtain ⟨p, hp⟩ : ∃ p, a.natAbs = p := ⟨_, rfl⟩
  obtain ⟨q, hq⟩ : ∃ q, b.natAbs = q := ⟨_, rfl⟩
  have hA := fun W => asize_any a W h1 h2
  have hB := fun W => asize_any b W h3 h4
  rw [hp] at hA
  rw [hq] at hB
  obtain ⟨r, hr⟩ : ∃ r, Nat.gcd q p = r := ⟨_, rfl⟩
  have hC := fun W hW => acommon1_any w.heap.size q p W (by omega) (by omega) hW
  rw [hr] at hC
  have HA := hidp hA
  have HB := hidp hB
  have HC := hidp hC
  have HR : Hid ((r : Int) = (Nat.gcd a.natAbs b.natAbs : Nat)) := by show _ = _; rw [hp, hq, ← hr, Nat.gcd_comm]
  clear hW0 g1 hA hB hC hp hq hr
  go_enter Tryd.func69, Tryd.ntmps69
  go_wp2_with fail
  rw [HW0.out]
  refine wp_region_below W0.heap.size (by kernel_rfl) (by kernel_rfl) ?_
  refine q_step (by rfl) ?_
  apply Exists.intro
  refine ⟨fun w9 h9 => ?_, ?_⟩
  · have hc9 := (bcell h9).1
    go_simp
    first | done | rfl
  go_simp
  refine q_step (by rfl) ?_
  apply Exists.intro
  refine ⟨fun w9 h9 => ?_, ?_⟩
  · have hc9 := (bcell h9).1
    go_simp
    first | done | rfl
  go_simp
  refine q_step (by rfl) ⟨.int .u64 (p : Nat), fun w9 h9 => ?_, ?_⟩
  · have hc9 := (bcell h9).1
    go_simp
    exact (HA.out w9).mono fun _ _ ⟨he, hw⟩ => ⟨he, hw ▸ h9⟩
  go_simp
  refine q_step (by rfl) ?_
  apply Exists.intro
  refine ⟨fun w9 h9 => ?_, ?_⟩
  · have hc9 := (bcell h9).1
    go_simp
    first | done | rfl
  go_simp
  refine q_step (by rfl) ⟨.int .u64 (q : Nat), fun w9 h9 => ?_, ?_⟩
  · have hc9 := (bcell h9).1
    go_simp
    exact (HB.out w9).mono fun _ _ ⟨he, hw⟩ => ⟨he, hw ▸ h9⟩
  go_simp
  refine q_step (by rfl) ⟨.int .u64 (r : Nat), fun w9 h9 => ?_, ?_⟩
  · have hc9 := (bcell h9).1
    go_simp
    exact calls_below h9 (Nat.le_refl _) (HC.out w9 (by rw [hc9 _ _ hz]; exact c1))
  go_simp
  refine q_step (by rfl) ?_
  apply Exists.intro
  refine ⟨fun w9 h9 => ?_, ?_⟩
  · have hc9 := (bcell h9).1
    go_simp
    first | done | rfl
  go_simp
  refine wpQuiet_nil ?_
  intro w9 hb9
  go_wp2_with fail
  go_ret
  exact ⟨ret_int HR.out, hBW.trans (hb9.mono hBW.size)⟩

set_option maxRecDepth 100000 in
set_option maxHeartbeats 1000000 in
theorem aCheck_any (a b : Int) (w : World) :
    Calls Tryd.prog 61 #[.agg #[.int .i64 a, .int .i64 b]] w fun e w' => e = .returned (.int .i64 (okOr (ratB a b) 50)) ∧ Below w.heap.size w w' := by
  have hB : Below w.heap.size w (w.alloc (.cells #[.int .i64 a, .int .i64 b] 27)) := (Below.refl _ _).alloc (Nat.le_refl _) _
  have HB := hidp hB
  clear hB
  by_cases h1 : b < 1
  · have HR : Hid (ratB a b = false) := by show _ = _; simp [ratB]; omega
    go_enter Tryd.func61, Tryd.ntmps61
    go_wp2_with fail
    go_ret
    exact ⟨ret_int (by rw [HR.out]; rfl), HB.out⟩
  by_cases h2 : 1073741824 < b
  · have HR : Hid (ratB a b = false) := by show _ = _; simp [ratB]; omega
    go_enter Tryd.func61, Tryd.ntmps61
    go_wp2_with fail
    go_ret
    exact ⟨ret_int (by rw [HR.out]; rfl), HB.out⟩
  by_cases h3 : a < -1073741824
  · have HR : Hid (ratB a b = false) := by show _ = _; simp [ratB]; omega
    go_enter Tryd.func61, Tryd.ntmps61
    go_wp2_with fail
    go_ret
    exact ⟨ret_int (by rw [HR.out]; rfl), HB.out⟩
  by_cases h4 : 1073741824 < a
  · have HR : Hid (ratB a b = false) := by show _ = _; simp [ratB]; omega
    go_enter Tryd.func61, Tryd.ntmps61
    go_wp2_with fail
    go_ret
    exact ⟨ret_int (by rw [HR.out]; rfl), HB.out⟩
  have hC := fun W => acommon_any a b W (by omega) (by omega) (by omega) (by omega)
  obtain ⟨g, hg⟩ : ∃ g, Nat.gcd a.natAbs b.natAbs = g := ⟨_, rfl⟩
  rw [hg] at hC
  have HC := hidp hC
  by_cases h5 : g = 1
  · have hd : ((g : Int) != 1) = false := by simp [h5]
    have HR : Hid (ratB a b = true) := by show _ = _; simp [ratB, hg, h5]; omega
    clear hg hC h5
    go_enter Tryd.func61, Tryd.ntmps61
    go_wp2_with (go_at_call 69; refine (HC.out _).mono ?_; rintro e w1 ⟨rfl, hb1⟩)
    go_ret
    exact ⟨ret_int (by rw [HR.out]; rfl), HB.out.trans (hb1.mono (by simp))⟩
  · have hd : ((g : Int) != 1) = true := by simp; omega
    have HR : Hid (ratB a b = false) := by show _ = _; simp [ratB, hg, h5]
    clear hg hC h5
    go_enter Tryd.func61, Tryd.ntmps61
    go_wp2_with (go_at_call 69; refine (HC.out _).mono ?_; rintro e w1 ⟨rfl, hb1⟩)
    go_ret
    exact ⟨ret_int (by rw [HR.out]; rfl), HB.out.trans (hb1.mono (by simp))⟩
end Go.Proofs.YtbmbpannhncpjaaDoor
