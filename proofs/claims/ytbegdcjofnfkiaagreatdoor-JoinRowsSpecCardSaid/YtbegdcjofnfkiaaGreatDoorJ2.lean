/- The class of a byte; names. -/
import Derived.Test.YtbegdcjofnfkiaaGreatDoorM2
import Derived.Test.YtbegdcjofnfkiaaGreatDoorM3
import Derived.Laws.Externs
import Derived.Test.YtbegdcjofnfkiaaGreatDoorF1
namespace Go.Proofs.YtbegdcjofnfkiaaGreatDoor
open Go.RowKit Go.Sort

def idxJ (s : ByteArray) (c : Int) : Int := firstIdx s c.toNat.toUInt8
def signsJ : ByteArray := ⟨#[123, 125, 40, 41, 59, 44, 61, 35, 47, 60, 33, 45, 46]⟩
def spcB (c : Int) : Bool := decide (c = 32) || decide (c = 9) || decide (c = 10) || decide (c = 13)
def clsJ (c : Int) : Int := if letB c = true then 2 else if digB c = true then 3 else if c = 95 then 5 else if spcB c = true then 1 else if 0 ≤ idxJ signsJ c then 4 else 0
theorem idxByte_any (s : ByteArray) (c : Int) (w : World) : Calls Tryz.prog 124 #[.string s, .int .u8 c] w fun e w' => e = .returned (.int .i64 (idxJ s c)) ∧ Below w.heap.size w w' := by
  have hx : (callFunc 150 #[.string s, .int .u8 c]).run Tryz.prog w = .ok (.value (.int .i64 (firstIdx s c.toNat.toUInt8))) w := by
    rw [run_callFunc_extern Tryz.func150 (by kernel_rfl) (by kernel_rfl) (by kernel_rfl) (by kernel_rfl) _ w, run_indexByte_string]; rfl
  have hs : Calls Tryz.prog 143 #[.string s, .int .u8 c] w fun e w' => e = .returned (.int .i64 (firstIdx s c.toNat.toUInt8)) ∧ w = w' := by
    go_enter Tryz.func143, Tryz.ntmps143
    go_wp2_with fail
    go_ret
    exact ⟨rfl, rfl⟩
  go_enter Tryz.func124, Tryz.ntmps124
  go_wp2_with fail
  refine hs.mono ?_
  rintro e w' ⟨rfl, rfl⟩
  go_wp2_with fail
  go_ret
  exact ⟨rfl, Below.refl _ _⟩

set_option maxRecDepth 100000 in
set_option maxHeartbeats 2000000 in
theorem class_any (c : Int) (w : World) : Calls Tryz.prog 94 #[.int .u8 c] w fun e w' => e = .returned (.int .i64 (clsJ c)) ∧ Below w.heap.size w w' := by
  go_enter Tryz.func94, Tryz.ntmps94
  go_wp2_with fail
  all_goals try (refine (idxByte_any _ _ _).mono ?_; rintro e w' ⟨rfl, hb⟩; go_wp2_with fail)
  all_goals go_ret
  all_goals refine ⟨congrArg (fun z => Ending.returned (.int .i64 z)) ?_, by first | exact Below.refl _ _ | assumption⟩
  all_goals
    simp only [clsJ, letB, digB, spcB, signsJ, Bool.or_eq_true, Bool.and_eq_true, decide_eq_true_eq]
    try simp only [beq_iff_eq, beq_eq_false_iff_ne, ne_eq] at *
    repeat' split
  all_goals first | rfl | omega | (exfalso; simp_all; done)
theorem cls_let (c : Int) : clsJ c = 2 ↔ letB c = true := by
  unfold clsJ
  repeat' split
  all_goals simp_all
theorem cls_part (c : Int) : (clsJ c = 2 ∨ clsJ c = 3 ∨ clsJ c = 5) ↔ partB c = true := by
  unfold clsJ partB
  repeat' split
  all_goals simp_all
theorem byte_val (s : ByteArray) (i : Nat) (hi : i < s.size) : byteI s i = ((s[i]'hi).toNat : Int) := by
  have hi' : i < s.data.size := hi
  show _ = ((s.data[i]'hi').toNat : Int)
  unfold byteI
  rw [Array.getElem?_eq_getElem hi']; rfl
theorem size_zero {s : ByteArray} (h : s.size = 0) : s = ⟨#[]⟩ := by
  obtain ⟨d⟩ := s
  have : d.size = 0 := h
  rw [Array.size_eq_zero_iff] at this
  rw [this]
theorem name_empty : nameB ⟨#[]⟩ = false := rfl
theorem name_long {s : ByteArray} (h : 32 < s.size) : nameB s = false := by
  unfold nameB
  rw [decide_eq_false (p := s.size ≤ 32) (by omega)]; simp
theorem name_first {s : ByteArray} (h : clsJ (byteI s 0) ≠ 2) : nameB s = false := by
  unfold nameB
  have : letB (byteI s 0) = false := by rw [Bool.eq_false_iff]; intro h'; exact h ((cls_let _).2 h')
  rw [this]; simp
theorem name_part {s : ByteArray} {i : Nat} (hi : i < s.size) (h : ¬ (clsJ (byteI s i) = 2 ∨ clsJ (byteI s i) = 3 ∨ clsJ (byteI s i) = 5)) : nameB s = false := by
  unfold nameB
  have : ((List.range s.size).all fun i => partB (byteI s i)) = false := by
    rw [Bool.eq_false_iff]
    intro h'
    exact h ((cls_part _).2 (List.all_eq_true.1 h' i (List.mem_range.2 hi)))
  rw [this]; simp
theorem name_all {s : ByteArray} (h0 : 0 < s.size) (h1 : s.size ≤ 32) (h2 : clsJ (byteI s 0) = 2) (h : ∀ i, i < s.size → clsJ (byteI s i) = 2 ∨ clsJ (byteI s i) = 3 ∨ clsJ (byteI s i) = 5) : nameB s = true := by
  unfold nameB
  rw [decide_eq_true (p := 1 ≤ s.size) (by omega), decide_eq_true (p := s.size ≤ 32) h1, (cls_let _).1 h2]
  simp only [Bool.true_and, List.all_eq_true, List.mem_range]
  exact fun i hi => (cls_part _).1 (h i hi)
set_option maxRecDepth 100000 in
set_option maxHeartbeats 2000000 in
theorem name_any (s : ByteArray) (w : World) : Calls Tryz.prog 57 #[.string s] w fun e w' => e = .returned (.bool (nameB s)) ∧ Below w.heap.size w w' := by
  by_cases h0 : s = ⟨#[]⟩
  · subst h0
    go_enter Tryz.func57, Tryz.ntmps57
    go_wp2_with fail
    go_ret
    exact ⟨rfl, Below.refl _ _⟩
  have hp : 0 < s.size := by
    rcases Nat.eq_zero_or_pos s.size with h | h
    · exact absurd (size_zero h) h0
    · exact h
  have e0 : s.toList.isEmpty = false := by
    rw [Bool.eq_false_iff]
    intro h
    have h2 : s.toList = [] := by simpa using h
    have h3 := congrArg List.length h2
    rw [ByteArray.toList_eq] at h3
    have h4 : s.data.size = 0 := by simpa using h3
    have h5 : s.size = s.data.size := rfl
    omega
  have HG : Hid (∀ i (h : i < s.size), ((s[i]'h).toNat : Int) = byteI s i) := fun i h => (byte_val s i h).symm
  by_cases h1 : 32 < s.size
  · have HR := hidp (name_long h1)
    clear hp
    go_enter Tryz.func57, Tryz.ntmps57
    go_wp2_with fail
    go_ret
    exact ⟨by rw [HR.out]; rfl, Below.refl _ _⟩
  have h1' : ¬ (32 : Int) < s.size := by omega
  obtain ⟨c0, hc0⟩ : ∃ c, clsJ (byteI s 0) = c := ⟨_, rfl⟩
  have HC := hidp hc0
  go_enter Tryz.func57, Tryz.ntmps57
  go_wp2_with fail
  refine (class_any _ _).mono ?_
  rintro e w1 ⟨rfl, hb1⟩
  rw [HG.out 0 hp, hc0]
  by_cases h2 : c0 = 2
  rotate_left
  · have HR := hidp (name_first (s := s) (by rw [hc0]; exact h2))
    have e2 : (c0 == 2) = false := by simpa using h2
    clear hc0 h2
    go_wp2_with fail
    go_ret
    exact ⟨by rw [HR.out]; rfl, hb1⟩
  subst h2
  clear hc0
  go_wp2_with fail
  have HB := hidp hb1
  go_loopw [20] (fun i wr => ∃ q : Nat, q ≤ s.size ∧ i = .int .i64 q ∧ (∀ j, j < q → clsJ (byteI s j) = 2 ∨ clsJ (byteI s j) = 3 ∨ clsJ (byteI s j) = 5) ∧ Below w.heap.size w wr) (fun i _ => s.size - (intOf i).toNat)
  case atStart => exact ⟨0, by omega, rfl, fun j h => by omega, hb1⟩
  case round =>
    obtain ⟨q, hq, rfl, hup, hbq⟩ := hrel
    have HU := hidp hup
    have HBQ := hidp hbq
    clear hup hbq
    by_cases hqs : q < s.size
    · have hqs' : (q : Int) < s.size := by omega
      go_wp2_with fail
      refine (class_any _ _).mono ?_
      rintro e w2 ⟨rfl, hb2⟩
      rw [HG.out q hqs]
      obtain ⟨k, hk⟩ : ∃ k, clsJ (byteI s q) = k := ⟨_, rfl⟩
      rw [hk]
      have HK := hidp hk
      have hb3 := HBQ.out.trans (hb2.mono HBQ.out.size)
      clear hk
      by_cases hk2 : k = 2 ∨ k = 3 ∨ k = 5
      · have hbad : (k != 2 && k != 3 && k != 5) = false := by rcases hk2 with rfl | rfl | rfl <;> rfl
        rcases hk2 with rfl | rfl | rfl
        all_goals
          go_wp2_with fail
          go_roundw
          case rel => exact ⟨q + 1, by omega, by go_num, fun j hj => by
            rcases Nat.lt_or_ge j q with h | h
            · exact HU.out j h
            · obtain rfl : j = q := by omega
              rw [HK.out]; simp, hb3⟩
          case measure => simp [intOf]; omega
      · have HR := hidp (name_part (s := s) hqs (by rw [HK.out]; exact hk2))
        have n1 : (k == 2) = false := by simp; omega
        have n2 : (k == 3) = false := by simp; omega
        have n3 : (k == 5) = false := by simp; omega
        have m1 : (k != 2) = true := by simp; omega
        have m2 : (k != 3) = true := by simp; omega
        have m3 : (k != 5) = true := by simp; omega
        clear hk2
        go_wp2_with fail
        go_ret
        exact ⟨by rw [HR.out]; rfl, hb3⟩
    · obtain rfl : q = s.size := by omega
      have HR := hidp (name_all hp (by omega) HC.out HU.out)
      have hnn : ¬ ((s.size : Int) < s.size) := by omega
      clear hqs
      go_wp2_with fail
      go_ret
      exact ⟨by rw [HR.out]; rfl, HBQ.out⟩
end Go.Proofs.YtbegdcjofnfkiaaGreatDoor
