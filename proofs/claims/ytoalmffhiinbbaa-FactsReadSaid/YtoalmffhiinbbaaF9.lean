/- Equality of facts, as the model runs it; the function that compares lists of them (printed by wip/tools/genslices.py). -/
import Derived.Test.YtoalmffhiinbbaaF8
namespace Go.Proofs.Ytoalmffhiinbbaa
open Go.RowKit Go.Shelf
set_option maxRecDepth 100000 in
set_option maxHeartbeats 2000000 in
theorem f_in (a b : Fc) (w : World) : (Op.equalIn 10000 28 (.agg #[.int .i64 a.key.kind, .int .i64 a.key.subj, .int .i64 a.key.obj, .int .i64 a.val, .int .i64 a.fr, .int .i64 a.to, .int .i64 a.known, .int .i64 a.no]) (.agg #[.int .i64 b.key.kind, .int .i64 b.key.subj, .int .i64 b.key.obj, .int .i64 b.val, .int .i64 b.fr, .int .i64 b.to, .int .i64 b.known, .int .i64 b.no])).run Try.prog w = .ok (decide (a = b)) w := by
  have hS : Try.prog.underlying 28 = some (.struct (Try.prog.fieldsOf 28)) := by kernel_rfl
  have hp : Try.prog.stoodInHeld 28 = false := by kernel_rfl
  rw [show (10000 : Nat) = 9999 + 1 from rfl, run_equalIn_agg w 9999 28 _ _ hS hp]
  simp only [Program.fieldsOf, Try.underlying28]
  have agKey := Try.isAgg24
  have szKey := Try.sizeOf24
  have agSpan := Try.isAgg26
  have szSpan := Try.sizeOf26
  have u3 := Try.underlying3
  have a3 := Try.isAgg3
  have z3 := Try.sizeOf3
  clear hS hp
  go_simp
  by_cases he : a = b
  · subst he
    simp
  · rw [decide_eq_false he]
    repeat' split
    all_goals first | rfl | (exfalso; exact he (Fc.ext' (Ky.ext' ‹_› ‹_› ‹_›) ‹_› ‹_› ‹_› ‹_› ‹_›))

theorem f_eql (a b : Fc) (w : World) : (binOp .eql 28 (.agg #[.int .i64 a.key.kind, .int .i64 a.key.subj, .int .i64 a.key.obj, .int .i64 a.val, .int .i64 a.fr, .int .i64 a.to, .int .i64 a.known, .int .i64 a.no]) (.agg #[.int .i64 b.key.kind, .int .i64 b.key.subj, .int .i64 b.key.obj, .int .i64 b.val, .int .i64 b.fr, .int .i64 b.to, .int .i64 b.known, .int .i64 b.no])).run Try.prog w = .ok (.bool (decide (a = b))) w := by
  have h : (Op.equalIn 10000 28 (.agg #[.int .i64 a.key.kind, .int .i64 a.key.subj, .int .i64 a.key.obj, .int .i64 a.val, .int .i64 a.fr, .int .i64 a.to, .int .i64 a.known, .int .i64 a.no]) (.agg #[.int .i64 b.key.kind, .int .i64 b.key.subj, .int .i64 b.key.obj, .int .i64 b.val, .int .i64 b.fr, .int .i64 b.to, .int .i64 b.known, .int .i64 b.no])).run Try.prog w = .ok (decide (a = b)) w := f_in _ _ w
  rw [run_eql_struct, h]
  rfl

theorem f_neq (a b : Fc) (w : World) : (binOp .neq 28 (.agg #[.int .i64 a.key.kind, .int .i64 a.key.subj, .int .i64 a.key.obj, .int .i64 a.val, .int .i64 a.fr, .int .i64 a.to, .int .i64 a.known, .int .i64 a.no]) (.agg #[.int .i64 b.key.kind, .int .i64 b.key.subj, .int .i64 b.key.obj, .int .i64 b.val, .int .i64 b.fr, .int .i64 b.to, .int .i64 b.known, .int .i64 b.no])).run Try.prog w = .ok (.bool (!decide (a = b))) w := by
  have h : (Op.equalIn 10000 28 (.agg #[.int .i64 a.key.kind, .int .i64 a.key.subj, .int .i64 a.key.obj, .int .i64 a.val, .int .i64 a.fr, .int .i64 a.to, .int .i64 a.known, .int .i64 a.no]) (.agg #[.int .i64 b.key.kind, .int .i64 b.key.subj, .int .i64 b.key.obj, .int .i64 b.val, .int .i64 b.fr, .int .i64 b.to, .int .i64 b.known, .int .i64 b.no])).run Try.prog w = .ok (decide (a = b)) w := f_in _ _ w
  rw [run_neq_struct, h]
  rfl

set_option maxRecDepth 100000 in
set_option maxHeartbeats 2000000 in
theorem fSame_any (A B : Option Addr) (n m ca cb : Nat) (a b : List (Fc)) (w : World) (ha : fSl w w.heap.size A n ca a) (hb : fSl w w.heap.size B m cb b) :
    Calls Try.prog 17 #[.slice A n ca, .slice B m cb] w fun e w' => e = .returned (.bool (decide (a = b))) ∧ Below w.heap.size w w' := by
  have HN := hidp ha.1
  have HM := hidp hb.1
  have hcap := ha.2.2.1
  have hlen := ha.2.1
  have hcap2 := hb.2.2.1
  have hlen2 := hb.2.1
  by_cases hnm : n = m
  · subst hnm
    go_enter Try.func17, Try.ntmps17
    go_wp2_with fail
    go_loopw [5] (fun i wr => ∃ k : Nat, k ≤ n ∧ i = .int .i64 k ∧ a.take k = b.take k ∧ Below w.heap.size w wr) (fun i _ => n - (intOf i).toNat)
    case atStart => exact ⟨0, by omega, rfl, rfl, Below.refl _ _⟩
    case round =>
      obtain ⟨k, hk, rfl, hab, hbe⟩ := hrel
      have HA := hidp hab
      clear hab
      by_cases hlt : k < n
      · obtain ⟨b1, o1, x, rfl, hb1, hzx, c0, c1, c2, c3, c4, c5, c6, c7⟩ := fSl.get (ha.below fStable hbe) hlt
        obtain ⟨b2, o2, y, rfl, hb2, hzy, d0, d1, d2, d3, d4, d5, d6, d7⟩ := fSl.get (hb.below fStable hbe) hlt
        have l1 := lt_of_cell c0
        have l2 := lt_of_cell d0
        have HX := hidp hzx
        have HY := hidp hzy
        obtain ⟨bo, hbo⟩ : ∃ bo, (!decide (x = y)) = bo := ⟨_, rfl⟩
        have hneq := fun W => f_neq x y W
        rw [hbo] at hneq
        have HB := hidp hbo
        have hkn : (k : Int) < n := by omega
        clear hzx hzy hbo
        go_wp2_with fail
        refine wp_region_below wr.heap.size (by kernel_rfl) (by kernel_rfl) ?_
        repeat
          refine q_step (by rfl) ?_
          apply Exists.intro
          refine ⟨fun w9 h9 => ?_, ?_⟩
          · have hc9 := (bcell h9).1
            go_simp
            first | done | rfl
          go_simp
        refine wpQuiet_nil ?_
        intro w9 hb9
        have hbz := hbe.trans (hb9.mono hbe.size)
        cases bo
        · go_wp2_with fail
          go_roundw
          case rel => exact ⟨k + 1, by omega, by go_num, take_eq_step HA.out HX.out HY.out (by have := HB.out; simpa using this), hbz⟩
          case measure => simp [intOf]; omega
        · go_wp2_with fail
          go_ret
          refine ⟨ret_bool ?_, hbz⟩
          symm
          rw [decide_eq_false_iff_not]
          rintro rfl
          have := HX.out.symm.trans HY.out
          injection this with this
          subst this
          have := HB.out
          simp at this
      · obtain rfl : k = n := by omega
        go_wp2_with fail
        go_ret
        refine ⟨ret_bool ?_, hbe⟩
        have h1 := HA.out
        rw [List.take_of_length_le (by rw [← HN.out]; omega), List.take_of_length_le (by rw [← HM.out]; omega)] at h1
        simp [h1]
  · have hne : ((n : Int) != (m : Int)) = true := by simp; omega
    go_enter Try.func17, Try.ntmps17
    go_wp2_with fail
    go_ret
    refine ⟨ret_bool ?_, Below.refl _ _⟩
    symm
    rw [decide_eq_false_iff_not]
    rintro rfl
    exact hnm (HN.out.trans HM.out.symm)

end Go.Proofs.Ytoalmffhiinbbaa
