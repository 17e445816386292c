/- Equality of the structs of facts, as the model runs it; the functions that compare lists of them (printed by wip/tools/genslices.py). -/
import Derived.Test.YtologegkbcedhaaF5
namespace Go.Proofs.Ytologegkbcedhaa
open Go.RowKit Go.Shelf
def pEnc (s : Int × Int) : List Value := [.int .i64 s.1, .int .i64 s.2]
theorem pEnc_len (x : Int × Int) : (pEnc x).length = 2 := rfl
theorem pEnc_one (x : Int × Int) : ∀ u ∈ pEnc x, u.oneCell' = true := by
  intro u hu; simp [pEnc] at hu; rcases hu with rfl | rfl <;> rfl
abbrev kSl := Rows 3 (Rep.flat kEnc)
theorem kStable : (Rep.flat kEnc).Stable := Rep.flat_stable _
theorem kSl.get {n₀ n c k : Nat} {A : Option Addr} {l : List (Ky)} {W : World} (h : kSl W n₀ A n c l) (hk : k < n) :
    ∃ b off m, A = some ⟨b, off, none⟩ ∧ b < n₀ ∧ l[k]? = some m ∧ W.cell? ⟨b, off + k * 3, none⟩ = some (.int .i64 m.kind) ∧ W.cell? ⟨b, off + k * 3 + 1, none⟩ = some (.int .i64 m.subj) ∧ W.cell? ⟨b, off + k * 3 + 2, none⟩ = some (.int .i64 m.obj) := by
  obtain ⟨b, off, m, cs, e, hlt, hk', rfl, hc⟩ := Rows.get h hk
  exact ⟨b, off, m, e, hlt, hk', hc 0 _ rfl, hc 1 _ rfl, hc 2 _ rfl⟩
theorem kInfo : (Try.prog.info? 45).map (fun i => (i.zero, i.size, i.bytes)) = some (some (.agg #[.int .i64 0, .int .i64 0, .int .i64 0]), 3, 24) := by kernel_rfl
theorem kZero (w : World) : (zeroValue 45).run Try.prog w = .ok (.agg #[.int .i64 0, .int .i64 0, .int .i64 0]) w := by
  obtain ⟨i0, hi, hz, _, _⟩ := info_parts kInfo
  simp [zeroValue, typeInfo, hi, hz]

set_option maxRecDepth 100000 in
set_option maxHeartbeats 2000000 in
theorem k_in (d : Nat) (a b : Ky) (w : World) : (Op.equalIn (d + 2) 45 (.agg #[.int .i64 a.kind, .int .i64 a.subj, .int .i64 a.obj]) (.agg #[.int .i64 b.kind, .int .i64 b.subj, .int .i64 b.obj])).run Try.prog w = .ok (decide (a = b)) w := by
  have hS : Try.prog.underlying 45 = some (.struct (Try.prog.fieldsOf 45)) := by kernel_rfl
  have hp : Try.prog.stoodInHeld 45 = false := by kernel_rfl
  have he : decide (a = b) = (decide (a.kind = b.kind) && decide (a.subj = b.subj) && decide (a.obj = b.obj)) := by
    rw [Bool.eq_iff_iff]; simp only [decide_eq_true_eq, Bool.and_eq_true]
    exact ⟨fun h => by subst h; exact ⟨⟨rfl, rfl⟩, rfl⟩, fun ⟨⟨h0, h1⟩, h2⟩ => Ky.ext' h0 h1 h2⟩
  rw [he, show d + 2 = (d + 1) + 1 from rfl, run_equalIn_agg w (d + 1) 45 _ _ hS hp]
  simp only [Program.fieldsOf, Try.underlying45]
  have u3 := Try.underlying3
  have a3 := Try.isAgg3
  have z3 := Try.sizeOf3
  go_simp
  by_cases h0 : a.kind = b.kind <;> by_cases h1 : a.subj = b.subj <;> by_cases h2 : a.obj = b.obj <;> simp [h0, h1, h2]

theorem k_eql (a b : Ky) (w : World) : (binOp .eql 45 (.agg #[.int .i64 a.kind, .int .i64 a.subj, .int .i64 a.obj]) (.agg #[.int .i64 b.kind, .int .i64 b.subj, .int .i64 b.obj])).run Try.prog w = .ok (.bool (decide (a = b))) w := by
  have h : (Op.equalIn 10000 45 (.agg #[.int .i64 a.kind, .int .i64 a.subj, .int .i64 a.obj]) (.agg #[.int .i64 b.kind, .int .i64 b.subj, .int .i64 b.obj])).run Try.prog w = .ok (decide (a = b)) w := k_in 9998 _ _ w
  rw [run_eql_struct, h]
  rfl

theorem k_neq (a b : Ky) (w : World) : (binOp .neq 45 (.agg #[.int .i64 a.kind, .int .i64 a.subj, .int .i64 a.obj]) (.agg #[.int .i64 b.kind, .int .i64 b.subj, .int .i64 b.obj])).run Try.prog w = .ok (.bool (!decide (a = b))) w := by
  have h : (Op.equalIn 10000 45 (.agg #[.int .i64 a.kind, .int .i64 a.subj, .int .i64 a.obj]) (.agg #[.int .i64 b.kind, .int .i64 b.subj, .int .i64 b.obj])).run Try.prog w = .ok (decide (a = b)) w := k_in 9998 _ _ w
  rw [run_neq_struct, h]
  rfl

abbrev pSl := Rows 2 (Rep.flat pEnc)
theorem pStable : (Rep.flat pEnc).Stable := Rep.flat_stable _
theorem pSl.get {n₀ n c k : Nat} {A : Option Addr} {l : List (Int × Int)} {W : World} (h : pSl W n₀ A n c l) (hk : k < n) :
    ∃ b off m, A = some ⟨b, off, none⟩ ∧ b < n₀ ∧ l[k]? = some m ∧ W.cell? ⟨b, off + k * 2, none⟩ = some (.int .i64 m.1) ∧ W.cell? ⟨b, off + k * 2 + 1, none⟩ = some (.int .i64 m.2) := by
  obtain ⟨b, off, m, cs, e, hlt, hk', rfl, hc⟩ := Rows.get h hk
  exact ⟨b, off, m, e, hlt, hk', hc 0 _ rfl, hc 1 _ rfl⟩
theorem pInfo : (Try.prog.info? 99).map (fun i => (i.zero, i.size, i.bytes)) = some (some (.agg #[.int .i64 0, .int .i64 0]), 2, 16) := by kernel_rfl
theorem pZero (w : World) : (zeroValue 99).run Try.prog w = .ok (.agg #[.int .i64 0, .int .i64 0]) w := by
  obtain ⟨i0, hi, hz, _, _⟩ := info_parts pInfo
  simp [zeroValue, typeInfo, hi, hz]

set_option maxRecDepth 100000 in
set_option maxHeartbeats 2000000 in
theorem p_in (d : Nat) (a b : Int × Int) (w : World) : (Op.equalIn (d + 2) 99 (.agg #[.int .i64 a.1, .int .i64 a.2]) (.agg #[.int .i64 b.1, .int .i64 b.2])).run Try.prog w = .ok (decide (a = b)) w := by
  have hS : Try.prog.underlying 99 = some (.struct (Try.prog.fieldsOf 99)) := by kernel_rfl
  have hp : Try.prog.stoodInHeld 99 = false := by kernel_rfl
  have he : decide (a = b) = (decide (a.1 = b.1) && decide (a.2 = b.2)) := by
    rw [Bool.eq_iff_iff]; simp only [decide_eq_true_eq, Bool.and_eq_true]
    exact ⟨fun h => by subst h; exact ⟨rfl, rfl⟩, fun ⟨h0, h1⟩ => Prod.ext h0 h1⟩
  rw [he, show d + 2 = (d + 1) + 1 from rfl, run_equalIn_agg w (d + 1) 99 _ _ hS hp]
  simp only [Program.fieldsOf, Try.underlying99]
  have u3 := Try.underlying3
  have a3 := Try.isAgg3
  have z3 := Try.sizeOf3
  go_simp
  by_cases h0 : a.1 = b.1 <;> by_cases h1 : a.2 = b.2 <;> simp [h0, h1]

theorem p_eql (a b : Int × Int) (w : World) : (binOp .eql 99 (.agg #[.int .i64 a.1, .int .i64 a.2]) (.agg #[.int .i64 b.1, .int .i64 b.2])).run Try.prog w = .ok (.bool (decide (a = b))) w := by
  have h : (Op.equalIn 10000 99 (.agg #[.int .i64 a.1, .int .i64 a.2]) (.agg #[.int .i64 b.1, .int .i64 b.2])).run Try.prog w = .ok (decide (a = b)) w := p_in 9998 _ _ w
  rw [run_eql_struct, h]
  rfl

theorem p_neq (a b : Int × Int) (w : World) : (binOp .neq 99 (.agg #[.int .i64 a.1, .int .i64 a.2]) (.agg #[.int .i64 b.1, .int .i64 b.2])).run Try.prog w = .ok (.bool (!decide (a = b))) w := by
  have h : (Op.equalIn 10000 99 (.agg #[.int .i64 a.1, .int .i64 a.2]) (.agg #[.int .i64 b.1, .int .i64 b.2])).run Try.prog w = .ok (decide (a = b)) w := p_in 9998 _ _ w
  rw [run_neq_struct, h]
  rfl

set_option maxRecDepth 100000 in
set_option maxHeartbeats 2000000 in
theorem pEqual_any (A B : Option Addr) (n m ca cb : Nat) (a b : List (Int × Int)) (w : World) (ha : pSl w w.heap.size A n ca a) (hb : pSl w w.heap.size B m cb b) :
    Calls Try.prog 46 #[.slice A n ca, .slice B m cb] w fun e w' => e = .returned (.bool (decide (a = b))) ∧ Below w.heap.size w w' := by
  have HN := hidp ha.1
  have HM := hidp hb.1
  have hcap := ha.2.2.1
  have hlen := ha.2.1
  have hcap2 := hb.2.2.1
  have hlen2 := hb.2.1
  by_cases hnm : n = m
  · subst hnm
    go_enter Try.func46, Try.ntmps46
    go_wp2_with fail
    go_loopw [5, 13] (fun _ i wr => ∃ k : Nat, k ≤ n ∧ i = .int .i64 k ∧ a.take k = b.take k ∧ Below w.heap.size w wr) (fun _ i _ => n - (intOf i).toNat)
    case atStart => exact ⟨0, by omega, rfl, rfl, Below.refl _ _⟩
    case round =>
      obtain ⟨k, hk, rfl, hab, hbe⟩ := hrel
      have HA := hidp hab
      clear hab
      by_cases hlt : k < n
      · obtain ⟨b1, o1, x, rfl, hb1, hzx, c0, c1⟩ := pSl.get (ha.below pStable hbe) hlt
        obtain ⟨b2, o2, y, rfl, hb2, hzy, d0, d1⟩ := pSl.get (hb.below pStable hbe) hlt
        have l1 := lt_of_cell c0
        have l2 := lt_of_cell d0
        have HX := hidp hzx
        have HY := hidp hzy
        obtain ⟨bo, hbo⟩ : ∃ bo, (!decide (x = y)) = bo := ⟨_, rfl⟩
        have hneq := fun W => p_neq x y W
        rw [hbo] at hneq
        have HB := hidp hbo
        have hkn : (k : Int) < n := by omega
        clear hzx hzy hbo
        go_wp2_with fail
        refine wp_region_below wr.heap.size (by kernel_rfl) (by kernel_rfl) ?_
        repeat
          refine q_step (by rfl) ?_
          apply Exists.intro
          refine ⟨fun w9 h9 => ?_, ?_⟩
          · have hc9 := (bcell h9).1
            go_simp
            first | done | rfl
          go_simp
        refine wpQuiet_nil ?_
        intro w9 hb9
        have hbz := hbe.trans (hb9.mono hbe.size)
        cases bo
        · go_wp2_with fail
          go_roundw
          case rel => exact ⟨k + 1, by omega, by go_num, take_eq_step HA.out HX.out HY.out (by have := HB.out; simpa using this), hbz⟩
          case measure => simp [intOf]; omega
        · go_wp2_with fail
          go_ret
          refine ⟨ret_bool ?_, hbz⟩
          symm
          rw [decide_eq_false_iff_not]
          rintro rfl
          have := HX.out.symm.trans HY.out
          injection this with this
          subst this
          have := HB.out
          simp at this
      · obtain rfl : k = n := by omega
        go_wp2_with fail
        go_ret
        refine ⟨ret_bool ?_, hbe⟩
        have h1 := HA.out
        rw [List.take_of_length_le (by rw [← HN.out]; omega), List.take_of_length_le (by rw [← HM.out]; omega)] at h1
        simp [h1]
  · have hne : ((n : Int) != (m : Int)) = true := by simp; omega
    go_enter Try.func46, Try.ntmps46
    go_wp2_with fail
    go_ret
    refine ⟨ret_bool ?_, Below.refl _ _⟩
    symm
    rw [decide_eq_false_iff_not]
    rintro rfl
    exact hnm (HN.out.trans HM.out.symm)

abbrev sSl := Rows 2 (Rep.flat pEnc)
theorem sStable : (Rep.flat pEnc).Stable := Rep.flat_stable _
theorem sSl.get {n₀ n c k : Nat} {A : Option Addr} {l : List (Int × Int)} {W : World} (h : sSl W n₀ A n c l) (hk : k < n) :
    ∃ b off m, A = some ⟨b, off, none⟩ ∧ b < n₀ ∧ l[k]? = some m ∧ W.cell? ⟨b, off + k * 2, none⟩ = some (.int .i64 m.1) ∧ W.cell? ⟨b, off + k * 2 + 1, none⟩ = some (.int .i64 m.2) := by
  obtain ⟨b, off, m, cs, e, hlt, hk', rfl, hc⟩ := Rows.get h hk
  exact ⟨b, off, m, e, hlt, hk', hc 0 _ rfl, hc 1 _ rfl⟩
theorem sInfo : (Try.prog.info? 60).map (fun i => (i.zero, i.size, i.bytes)) = some (some (.agg #[.int .i64 0, .int .i64 0]), 2, 16) := by kernel_rfl
theorem sZero (w : World) : (zeroValue 60).run Try.prog w = .ok (.agg #[.int .i64 0, .int .i64 0]) w := by
  obtain ⟨i0, hi, hz, _, _⟩ := info_parts sInfo
  simp [zeroValue, typeInfo, hi, hz]

set_option maxRecDepth 100000 in
set_option maxHeartbeats 2000000 in
theorem s_in (d : Nat) (a b : Int × Int) (w : World) : (Op.equalIn (d + 2) 60 (.agg #[.int .i64 a.1, .int .i64 a.2]) (.agg #[.int .i64 b.1, .int .i64 b.2])).run Try.prog w = .ok (decide (a = b)) w := by
  have hS : Try.prog.underlying 60 = some (.struct (Try.prog.fieldsOf 60)) := by kernel_rfl
  have hp : Try.prog.stoodInHeld 60 = false := by kernel_rfl
  have he : decide (a = b) = (decide (a.1 = b.1) && decide (a.2 = b.2)) := by
    rw [Bool.eq_iff_iff]; simp only [decide_eq_true_eq, Bool.and_eq_true]
    exact ⟨fun h => by subst h; exact ⟨rfl, rfl⟩, fun ⟨h0, h1⟩ => Prod.ext h0 h1⟩
  rw [he, show d + 2 = (d + 1) + 1 from rfl, run_equalIn_agg w (d + 1) 60 _ _ hS hp]
  simp only [Program.fieldsOf, Try.underlying60]
  have u3 := Try.underlying3
  have a3 := Try.isAgg3
  have z3 := Try.sizeOf3
  go_simp
  by_cases h0 : a.1 = b.1 <;> by_cases h1 : a.2 = b.2 <;> simp [h0, h1]

theorem s_eql (a b : Int × Int) (w : World) : (binOp .eql 60 (.agg #[.int .i64 a.1, .int .i64 a.2]) (.agg #[.int .i64 b.1, .int .i64 b.2])).run Try.prog w = .ok (.bool (decide (a = b))) w := by
  have h : (Op.equalIn 10000 60 (.agg #[.int .i64 a.1, .int .i64 a.2]) (.agg #[.int .i64 b.1, .int .i64 b.2])).run Try.prog w = .ok (decide (a = b)) w := s_in 9998 _ _ w
  rw [run_eql_struct, h]
  rfl

theorem s_neq (a b : Int × Int) (w : World) : (binOp .neq 60 (.agg #[.int .i64 a.1, .int .i64 a.2]) (.agg #[.int .i64 b.1, .int .i64 b.2])).run Try.prog w = .ok (.bool (!decide (a = b))) w := by
  have h : (Op.equalIn 10000 60 (.agg #[.int .i64 a.1, .int .i64 a.2]) (.agg #[.int .i64 b.1, .int .i64 b.2])).run Try.prog w = .ok (decide (a = b)) w := s_in 9998 _ _ w
  rw [run_neq_struct, h]
  rfl

end Go.Proofs.Ytologegkbcedhaa
