import Derived.Test.YtefjigjjanjlkaaT9
namespace Go.Proofs.Ytefjigjjanjlkaa
open Go.RowKit Go.Shelf

theorem eql42 (a b c d : Int) (w : World) : (binOp .eql 42 (.agg #[.int .i64 a, .int .i64 b]) (.agg #[.int .i64 c, .int .i64 d])).run Try.prog w = .ok (.bool (a == c && b == d)) w := by
  have hS : Try.prog.underlying 42 = some (.struct (Try.prog.fieldsOf 42)) := by kernel_rfl
  have hp : Try.prog.stoodInHeld 42 = false := by kernel_rfl
  rw [run_eql_struct, show (10000 : Nat) = 9999 + 1 from rfl, run_equalIn_agg w 9999 42 _ _ hS hp]
  simp only [Program.fieldsOf, Try.underlying42]
  have u3 := Try.underlying3
  have a3 := Try.isAgg3
  have z3 := Try.sizeOf3
  go_simp
  by_cases h1 : a = c <;> by_cases h2 : b = d <;> simp [h1, h2]
theorem neq42 (a b c d : Int) (w : World) : (binOp .neq 42 (.agg #[.int .i64 a, .int .i64 b]) (.agg #[.int .i64 c, .int .i64 d])).run Try.prog w = .ok (.bool (!(a == c && b == d))) w := by
  have hS : Try.prog.underlying 42 = some (.struct (Try.prog.fieldsOf 42)) := by kernel_rfl
  have hp : Try.prog.stoodInHeld 42 = false := by kernel_rfl
  rw [run_neq_struct, show (10000 : Nat) = 9999 + 1 from rfl, run_equalIn_agg w 9999 42 _ _ hS hp]
  simp only [Program.fieldsOf, Try.underlying42]
  have u3 := Try.underlying3
  have a3 := Try.isAgg3
  have z3 := Try.sizeOf3
  go_simp
  by_cases h1 : a = c <;> by_cases h2 : b = d <;> simp [h1, h2]

def sEnc (s : Int × Int) : List Value := [.int .i64 s.1, .int .i64 s.2]
abbrev SSl := Rows 2 (Rep.flat sEnc)
theorem sStable : (Rep.flat sEnc).Stable := Rep.flat_stable _
theorem SSl.get {n₀ n c k : Nat} {A : Option Addr} {l : List (Int × Int)} {W : World} (h : SSl W n₀ A n c l) (hk : k < n) :
    ∃ b off m, A = some ⟨b, off, none⟩ ∧ b < n₀ ∧ l[k]? = some m ∧ W.cell? ⟨b, off + k * 2, none⟩ = some (.int .i64 m.1) ∧ W.cell? ⟨b, off + k * 2 + 1, none⟩ = some (.int .i64 m.2) := by
  obtain ⟨b, off, m, cs, e, hlt, hk', rfl, hc⟩ := Rows.get h hk
  exact ⟨b, off, m, e, hlt, hk', hc 0 _ rfl, hc 1 _ rfl⟩

theorem take_eq_step {α : Type} {a b : List α} {k : Nat} {x y : α} (h : a.take k = b.take k) (hx : a[k]? = some x) (hy : b[k]? = some y) (he : x = y) : a.take (k + 1) = b.take (k + 1) := by
  rw [take_snoc hx, take_snoc hy, h, he]

set_option maxRecDepth 100000 in
set_option maxHeartbeats 2000000 in
theorem sameSpans_any (A B : Option Addr) (n m ca cb : Nat) (a b : List (Int × Int)) (w : World) (ha : SSl w w.heap.size A n ca a) (hb : SSl w w.heap.size B m cb b) :
    Calls Try.prog 15 #[.slice A n ca, .slice B m cb] w fun e w' => e = .returned (.bool (decide (a = b))) ∧ Below w.heap.size w w' := by
  have HN := hidp ha.1
  have HM := hidp hb.1
  have hcap := ha.2.2.1
  have hlen := ha.2.1
  have hcap2 := hb.2.2.1
  have hlen2 := hb.2.1
  by_cases hnm : n = m
  · subst hnm
    go_enter Try.func15, Try.ntmps15
    go_wp2_with fail
    go_loopw [5] (fun i wr => ∃ k : Nat, k ≤ n ∧ i = .int .i64 k ∧ a.take k = b.take k ∧ Below w.heap.size w wr) (fun i _ => n - (intOf i).toNat)
    case atStart => exact ⟨0, by omega, rfl, rfl, Below.refl _ _⟩
    case round =>
      obtain ⟨k, hk, rfl, hab, hbe⟩ := hrel
      have HA := hidp hab
      clear hab
      by_cases hlt : k < n
      · obtain ⟨b1, o1, x, rfl, hb1, hzx, c0, c1⟩ := SSl.get (ha.below sStable hbe) hlt
        obtain ⟨b2, o2, y, rfl, hb2, hzy, d0, d1⟩ := SSl.get (hb.below sStable hbe) hlt
        have l1 := lt_of_cell c0
        have l2 := lt_of_cell d0
        have HX := hidp hzx
        have HY := hidp hzy
        obtain ⟨bo, hbo⟩ : ∃ bo, (!(x.1 == y.1 && x.2 == y.2)) = bo := ⟨_, rfl⟩
        have hneq := fun W => neq42 x.1 x.2 y.1 y.2 W
        rw [hbo] at hneq
        have HB := hidp hbo
        have hkn : (k : Int) < n := by omega
        clear hzx hzy hbo
        go_wp2_with fail
        refine wp_region_below wr.heap.size (by kernel_rfl) (by kernel_rfl) ?_
        repeat
          refine q_step (by rfl) ?_
          apply Exists.intro
          refine ⟨fun w9 h9 => ?_, ?_⟩
          · have hc9 := (bcell h9).1
            go_simp
            first | done | rfl
          go_simp
        refine wpQuiet_nil ?_
        intro w9 hb9
        have hbz := hbe.trans (hb9.mono hbe.size)
        cases bo
        · go_wp2_with fail
          go_roundw
          case rel => exact ⟨k + 1, by omega, by go_num, take_eq_step HA.out HX.out HY.out (by have := HB.out; simp at this; exact Prod.ext this.1 this.2), hbz⟩
          case measure => simp [intOf]; omega
        · go_wp2_with fail
          go_ret
          refine ⟨ret_bool ?_, hbz⟩
          symm
          rw [decide_eq_false_iff_not]
          rintro rfl
          have := HX.out.symm.trans HY.out
          injection this with this
          subst this
          have := HB.out
          simp at this
      · obtain rfl : k = n := by omega
        go_wp2_with fail
        go_ret
        refine ⟨ret_bool ?_, hbe⟩
        have h1 := HA.out
        rw [List.take_of_length_le (by rw [← HN.out]; omega), List.take_of_length_le (by rw [← HM.out]; omega)] at h1
        simp [h1]
  · have hne : ((n : Int) != (m : Int)) = true := by simp; omega
    go_enter Try.func15, Try.ntmps15
    go_wp2_with fail
    go_ret
    refine ⟨ret_bool ?_, Below.refl _ _⟩
    symm
    rw [decide_eq_false_iff_not]
    rintro rfl
    exact hnm (HN.out.trans HM.out.symm)
end Go.Proofs.Ytefjigjjanjlkaa
