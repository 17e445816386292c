/- The reference's SameInts, the law's has. -/
import Derived.Test.YtologegkbcedhaaH0
namespace Go.Proofs.Ytologegkbcedhaa
open Go.RowKit Go.Shelf

set_option maxRecDepth 100000 in
set_option maxHeartbeats 2000000 in
theorem qSameInts_any (A B : Option Addr) (n m ca cb : Nat) (a b : List Int) (w : World) (ha : iSl w w.heap.size A n ca a) (hb : iSl w w.heap.size B m cb b) :
    Calls Try.prog 20 #[.slice A n ca, .slice B m cb] w fun e w' => e = .returned (.bool (decide (a = b))) ∧ Below w.heap.size w w' := by
  have HN := hidp ha.1
  have HM := hidp hb.1
  have hcap := ha.2.2.1
  have hlen := ha.2.1
  have hcap2 := hb.2.2.1
  have hlen2 := hb.2.1
  by_cases hnm : n = m
  · subst hnm
    go_enter Try.func20, Try.ntmps20
    go_wp2_with fail
    go_loopw [5] (fun i wr => ∃ k : Nat, k ≤ n ∧ i = .int .i64 k ∧ a.take k = b.take k ∧ Below w.heap.size w wr) (fun i _ => n - (intOf i).toNat)
    case atStart => exact ⟨0, by omega, rfl, rfl, Below.refl _ _⟩
    case round =>
      obtain ⟨k, hk, rfl, hab, hbe⟩ := hrel
      have HA := hidp hab
      clear hab
      by_cases hlt : k < n
      · obtain ⟨b1, o1, x, rfl, hb1, hzx, c0⟩ := iSl.get (ha.below iStable hbe) hlt
        obtain ⟨b2, o2, y, rfl, hb2, hzy, d0⟩ := iSl.get (hb.below iStable hbe) hlt
        have l1 := lt_of_cell c0
        have l2 := lt_of_cell d0
        have HX := hidp hzx
        have HY := hidp hzy
        obtain ⟨bo, hbo⟩ : ∃ bo, (!(x == y)) = bo := ⟨_, rfl⟩
        have hbo' : (x != y) = bo := by rw [← hbo]; rfl
        have HB := hidp hbo
        have hkn : (k : Int) < n := by omega
        clear hzx hzy hbo
        go_wp2_with fail
        refine wp_region_below wr.heap.size (by kernel_rfl) (by kernel_rfl) ?_
        repeat
          refine q_step (by rfl) ?_
          apply Exists.intro
          refine ⟨fun w9 h9 => ?_, ?_⟩
          · have hc9 := (bcell h9).1
            go_simp
            first | done | rfl
          go_simp
        refine wpQuiet_nil ?_
        intro w9 hb9
        have hbz := hbe.trans (hb9.mono hbe.size)
        cases bo
        · go_wp2_with fail
          go_roundw
          case rel => exact ⟨k + 1, by omega, by go_num, take_eq_step HA.out HX.out HY.out (by have := HB.out; simpa using this), hbz⟩
          case measure => simp [intOf]; omega
        · go_wp2_with fail
          go_ret
          refine ⟨ret_bool ?_, hbz⟩
          symm
          rw [decide_eq_false_iff_not]
          rintro rfl
          have := HX.out.symm.trans HY.out
          injection this with this
          subst this
          have := HB.out
          simp at this
      · obtain rfl : k = n := by omega
        go_wp2_with fail
        go_ret
        refine ⟨ret_bool ?_, hbe⟩
        have h1 := HA.out
        rw [List.take_of_length_le (by rw [← HN.out]; omega), List.take_of_length_le (by rw [← HM.out]; omega)] at h1
        simp [h1]
  · have hne : ((n : Int) != (m : Int)) = true := by simp; omega
    go_enter Try.func20, Try.ntmps20
    go_wp2_with fail
    go_ret
    refine ⟨ret_bool ?_, Below.refl _ _⟩
    symm
    rw [decide_eq_false_iff_not]
    rintro rfl
    exact hnm (HN.out.trans HM.out.symm)


theorem any_step {α : Type} {p : α → Bool} {l : List α} {k : Nat} {x : α} (h : l[k]? = some x) (h0 : (l.take k).any p = false) (hx : p x = false) : (l.take (k + 1)).any p = false := by
  rw [take_snoc h, List.any_append, h0]; simp [hx]
theorem any_hit {α : Type} {p : α → Bool} {l : List α} {k : Nat} {x : α} (h : l[k]? = some x) (hx : p x = true) : l.any p = true := by
  rw [List.any_eq_true]; exact ⟨x, List.mem_of_getElem? h, hx⟩
set_option maxRecDepth 100000 in
set_option maxHeartbeats 2000000 in
theorem has_any (A : Option Addr) (n c : Nat) (l : List Int) (x : Int) (w : World) (hl : iSl w w.heap.size A n c l) :
    Calls Try.prog 23 #[.slice A n c, .int .i64 x] w fun e w' => e = .returned (.bool (l.any (fun y => y == x))) ∧ w = w' := by
  have HN := hidp hl.1
  have hcap := hl.2.2.1
  have hlen := hl.2.1
  go_enter Try.func23, Try.ntmps23
  go_wp2_with fail
  go_loopw [5] (fun i wr => ∃ k : Nat, k ≤ n ∧ i = .int .i64 k ∧ (l.take k).any (fun y => y == x) = false ∧ w = wr) (fun i _ => n - (intOf i).toNat)
  case atStart => exact ⟨0, by omega, rfl, rfl, rfl⟩
  case round =>
    obtain ⟨k, hk, rfl, hno, rfl⟩ := hrel
    have HA := hidp hno
    clear hno
    by_cases hlt : k < n
    · obtain ⟨b, off, m, rfl, hb, hzm, c0⟩ := iSl.get hl hlt
      have HZ := hidp hzm
      have hbb := lt_of_cell c0
      obtain ⟨z, hz⟩ : ∃ z, (m == x) = z := ⟨_, rfl⟩
      have HE := hidp hz
      clear hzm
      cases z
      · go_wp2_with fail
        go_roundw
        case rel => exact ⟨k + 1, by omega, by go_num, any_step HZ.out HA.out HE.out, trivial⟩
        case measure => simp [intOf]; omega
      · go_wp2_with fail
        go_ret
        exact ⟨ret_bool (any_hit HZ.out HE.out).symm, rfl⟩
    · obtain rfl : k = n := by omega
      go_wp2_with fail
      go_ret
      refine ⟨ret_bool ?_, rfl⟩
      have h1 := HA.out
      rw [List.take_of_length_le (by rw [← HN.out]; omega)] at h1
      exact h1.symm
end Go.Proofs.Ytologegkbcedhaa
