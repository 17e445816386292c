/- The reference's less. -/
import Derived.Test.YtbegdcjofnfkiaaGreatDoorJ18
namespace Go.Proofs.YtbegdcjofnfkiaaGreatDoor
open Go.RowKit Go.Shelf Go.Sort

theorem lexJ_drop {x y : List Int} : ∀ k, x.take k = y.take k → k ≤ x.length → k ≤ y.length → lexJ x y = lexJ (x.drop k) (y.drop k) := by
  induction x generalizing y with
  | nil =>
    intro k _ h _
    obtain rfl : k = 0 := by simpa using h
    simp
  | cons a x ih =>
    intro k h1 h2 h3
    cases k with
    | zero => rfl
    | succ k =>
      cases y with
      | nil => simp at h3
      | cons b y =>
        simp only [List.take_succ_cons, List.cons.injEq] at h1
        obtain ⟨rfl, h1⟩ := h1
        show (decide (a < a) || (decide (a = a) && lexJ x y)) = lexJ (x.drop k) (y.drop k)
        rw [ih k h1 (by simpa using h2) (by simpa using h3)]
        simp
set_option maxRecDepth 100000 in
set_option maxHeartbeats 2000000 in
theorem less_any (A B : Option Addr) (n ca cb : Nat) (a b : List Int) (w : World) (ha : iSl w w.heap.size A n ca a) (hb : iSl w w.heap.size B n cb b) :
    Calls Tryz.prog 36 #[.slice A n ca, .slice B n cb] w fun e w' => e = .returned (.bool (lexJ a b)) ∧ Below w.heap.size w w' := by
  have HN := hidp ha.1
  have HM := hidp hb.1
  have hcap := ha.2.2.1
  have hlen := ha.2.1
  have hcap2 := hb.2.2.1
  have hlen2 := hb.2.1
  go_enter Tryz.func36, Tryz.ntmps36
  go_wp2_with fail
  go_loopw [5] (fun i wr => ∃ k : Nat, k ≤ n ∧ i = .int .i64 k ∧ a.take k = b.take k ∧ Below w.heap.size w wr) (fun i _ => n - (intOf i).toNat)
  case atStart => exact ⟨0, by omega, rfl, rfl, Below.refl _ _⟩
  case round =>
    obtain ⟨k, hk, rfl, hab, hbe⟩ := hrel
    have HA := hidp hab
    clear hab
    by_cases hlt : k < n
    · obtain ⟨b1, o1, x, rfl, hb1, hzx, c0⟩ := iSl.get (ha.below iStable hbe) hlt
      obtain ⟨b2, o2, y, rfl, hb2, hzy, d0⟩ := iSl.get (hb.below iStable hbe) hlt
      have l1 := lt_of_cell c0
      have l2 := lt_of_cell d0
      have HX := hidp hzx
      have HY := hidp hzy
      obtain ⟨bo, hbo⟩ : ∃ bo, (!(x == y)) = bo := ⟨_, rfl⟩
      have hbo' : (x != y) = bo := by rw [← hbo]; rfl
      have HB := hidp hbo
      have hkn : (k : Int) < n := by omega
      have HD : Hid (lexJ a b = (decide (x < y) || (decide (x = y) && lexJ (a.drop (k + 1)) (b.drop (k + 1))))) := by
        show _ = _
        rw [lexJ_drop k HA.out (by have := HN.out; omega) (by have := HM.out; omega), drop_cons HX.out, drop_cons HY.out]
        rfl
      clear hzx hzy hbo
      go_wp2_with fail
      refine wp_region_below wr.heap.size (by kernel_rfl) (by kernel_rfl) ?_
      repeat
        refine q_step (by rfl) ?_
        apply Exists.intro
        refine ⟨fun w9 h9 => ?_, ?_⟩
        · have hc9 := (bcell h9).1
          go_simp
          first | done | rfl
        go_simp
      refine wpQuiet_nil ?_
      intro w9 hb9
      have hbz := hbe.trans (hb9.mono hbe.size)
      cases bo
      · go_wp2_with fail
        go_roundw
        case rel => exact ⟨k + 1, by omega, by go_num, take_eq_step HA.out HX.out HY.out (by have := HB.out; simpa using this), hbz⟩
        case measure => simp [intOf]; omega
      · obtain ⟨bl, hbl⟩ : ∃ bl, decide (x < y) = bl := ⟨_, rfl⟩
        have HR : Hid (lexJ a b = bl) := by
          show _ = _
          rw [HD.out, hbl]
          have hne : ¬ x = y := by have := HB.out; simpa using this
          simp [hne]
        have c9 := ((bcell hb9).1 _ (o1 + k) l1).trans c0
        have d9 := ((bcell hb9).1 _ (o2 + k) l2).trans d0
        have l19 := lt_of_cell c9
        have l29 := lt_of_cell d9
        go_wp2_with fail
        refine wp_region_below w9.heap.size (by kernel_rfl) (by kernel_rfl) ?_
        repeat
          refine q_step (by rfl) ?_
          apply Exists.intro
          refine ⟨fun w10 h10 => ?_, ?_⟩
          · have hc10 := (bcell h10).1
            go_simp
            first | done | rfl
          go_simp
        refine wpQuiet_nil ?_
        intro w10 hb10
        have hbz2 := hbz.trans (hb10.mono hbz.size)
        go_wp2_with fail
        go_ret
        exact ⟨ret_bool HR.out.symm, hbz2⟩
    · obtain rfl : k = n := by omega
      have HF : Hid (lexJ a b = false) := by
        have h1 := HA.out
        rw [List.take_of_length_le (by rw [← HN.out]; omega), List.take_of_length_le (by rw [← HM.out]; omega)] at h1
        show _ = _
        rw [h1]; exact lexJ_irr _
      go_wp2_with fail
      go_ret
      exact ⟨ret_bool HF.out.symm, hbe⟩
end Go.Proofs.YtbegdcjofnfkiaaGreatDoor
