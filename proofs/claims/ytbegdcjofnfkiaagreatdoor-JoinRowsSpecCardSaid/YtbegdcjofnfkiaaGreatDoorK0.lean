/- The reference's leaves: bytes, names, words, lists. -/
import Derived.Test.YtbegdcjofnfkiaaGreatDoorJ3
namespace Go.Proofs.YtbegdcjofnfkiaaGreatDoor
open Go.RowKit Go.Sort

set_option maxHeartbeats 1000000 in
theorem r09Letter_any (c : Int) (w : World) : Calls Tryz.prog 98 #[.int .u8 c] w fun e w' => e = .returned (.bool (letB c)) ∧ w = w' := by
  go_enter Tryz.func98, Tryz.ntmps98
  go_wp2_with fail
  all_goals go_ret
  all_goals refine ⟨ret_bool ?_, rfl⟩
  all_goals simp [letB]
  all_goals first | omega | (rw [Bool.eq_iff_iff]; simp only [Bool.or_eq_true, Bool.and_eq_true, decide_eq_true_eq]; omega)
set_option maxHeartbeats 1000000 in
theorem r09Figure_any (c : Int) (w : World) : Calls Tryz.prog 126 #[.int .u8 c] w fun e w' => e = .returned (.bool (digB c)) ∧ w = w' := by
  go_enter Tryz.func126, Tryz.ntmps126
  go_wp2_with fail
  all_goals go_ret
  all_goals refine ⟨ret_bool ?_, rfl⟩
  all_goals simp [digB]
  all_goals omega
set_option maxHeartbeats 1000000 in
theorem r09part_any (c : Int) (w : World) : Calls Tryz.prog 99 #[.int .u8 c] w fun e w' => e = .returned (.bool (partB c)) ∧ w = w' := by
  obtain ⟨a, ha⟩ : ∃ a, letB c = a := ⟨_, rfl⟩
  obtain ⟨b, hb⟩ : ∃ b, digB c = b := ⟨_, rfl⟩
  have HP : Hid (partB c = (a || b || decide (c = 95))) := by show _ = _; rw [← ha, ← hb]; rfl
  have HA := hidp ha
  have HB := hidp hb
  clear ha hb
  go_enter Tryz.func99, Tryz.ntmps99
  go_wp2_with fail
  refine (r09Letter_any c _).mono ?_
  rintro e w1 ⟨rfl, rfl⟩
  rw [HA.out]
  cases a
  · go_wp2_with fail
    refine (r09Figure_any c _).mono ?_
    rintro e w1 ⟨rfl, rfl⟩
    rw [HB.out]
    cases b
    · go_wp2_with fail
      go_ret
      refine ⟨ret_bool ?_, rfl⟩
      rw [HP.out]
      show (c == 95) = decide (c = 95)
      rw [Bool.eq_iff_iff]; simp
    · go_wp2_with fail
      go_ret
      exact ⟨ret_bool (by rw [HP.out]; rfl), rfl⟩
  · go_wp2_with fail
    go_ret
    exact ⟨ret_bool (by rw [HP.out]; rfl), rfl⟩
theorem name_let {s : ByteArray} (h : letB (byteI s 0) = false) : nameB s = false := by
  unfold nameB; rw [h]; simp
theorem name_pt {s : ByteArray} {i : Nat} (hi : i < s.size) (h : partB (byteI s i) = false) : nameB s = false := by
  unfold nameB
  have : ((List.range s.size).all fun i => partB (byteI s i)) = false := by
    rw [Bool.eq_false_iff]
    intro h'
    have := List.all_eq_true.1 h' i (List.mem_range.2 hi)
    rw [h] at this; cases this
  rw [this]; simp
theorem name_ok {s : ByteArray} (h0 : 0 < s.size) (h1 : s.size ≤ 32) (h2 : letB (byteI s 0) = true) (h : ∀ i, i < s.size → partB (byteI s i) = true) : nameB s = true := by
  unfold nameB
  rw [decide_eq_true (p := 1 ≤ s.size) (by omega), decide_eq_true (p := s.size ≤ 32) h1, h2]
  simp only [Bool.true_and, List.all_eq_true, List.mem_range]
  exact h
set_option maxRecDepth 100000 in
set_option maxHeartbeats 2000000 in
theorem r09Name_any (s : ByteArray) (w : World) : Calls Tryz.prog 65 #[.string s] w fun e w' => e = .returned (.bool (nameB s)) ∧ w = w' := by
  by_cases h0 : s.size = 0
  · have HR : Hid (nameB s = false) := by show _ = _; unfold nameB; rw [decide_eq_false (p := 1 ≤ s.size) (by omega)]; simp
    have h1 : (s.size : Int) < 1 := by omega
    clear h0
    go_enter Tryz.func65, Tryz.ntmps65
    go_wp2_with fail
    go_ret
    exact ⟨by rw [HR.out]; rfl, rfl⟩
  have hp : 0 < s.size := by omega
  have hp1 : ¬ (s.size : Int) < 1 := by omega
  have HG : Hid (∀ i (h : i < s.size), ((s[i]'h).toNat : Int) = byteI s i) := fun i h => (byte_val s i h).symm
  clear h0
  by_cases h1 : 32 < s.size
  · have HR := hidp (name_long h1)
    have h2 : (32 : Int) < s.size := by omega
    go_enter Tryz.func65, Tryz.ntmps65
    go_wp2_with fail
    go_ret
    exact ⟨by rw [HR.out]; rfl, rfl⟩
  have h1' : ¬ (32 : Int) < s.size := by omega
  obtain ⟨c0, hc0⟩ : ∃ c, letB (byteI s 0) = c := ⟨_, rfl⟩
  have HC := hidp hc0
  clear hc0
  go_enter Tryz.func65, Tryz.ntmps65
  go_wp2_with fail
  refine (r09Letter_any _ _).mono ?_
  rintro e w1 ⟨rfl, rfl⟩
  rw [HG.out 0 hp, HC.out]
  cases c0
  · have HR := hidp (name_let HC.out)
    go_wp2_with fail
    go_ret
    exact ⟨by rw [HR.out]; rfl, rfl⟩
  go_wp2_with fail
  go_loopw [3] (fun i wr => ∃ q : Nat, q ≤ s.size ∧ i = .int .i64 q ∧ (∀ j, j < q → partB (byteI s j) = true) ∧ w = wr) (fun i _ => s.size - (intOf i).toNat)
  case atStart => exact ⟨0, by omega, rfl, fun j h => by omega, rfl⟩
  case round =>
    obtain ⟨q, hq, rfl, hup, rfl⟩ := hrel
    have HU := hidp hup
    clear hup
    by_cases hqs : q < s.size
    · have hqs' : (q : Int) < s.size := by omega
      go_wp2_with fail
      refine (r09part_any _ _).mono ?_
      rintro e w2 ⟨rfl, rfl⟩
      rw [HG.out q hqs]
      obtain ⟨k, hk⟩ : ∃ k, partB (byteI s q) = k := ⟨_, rfl⟩
      rw [hk]
      have HK := hidp hk
      clear hk
      cases k
      · have HR := hidp (name_pt hqs HK.out)
        go_wp2_with fail
        go_ret
        exact ⟨by rw [HR.out]; rfl, rfl⟩
      · go_wp2_with fail
        go_roundw
        case rel => exact ⟨q + 1, by omega, by go_num, fun j hj => by
          rcases Nat.lt_or_ge j q with h | h
          · exact HU.out j h
          · obtain rfl : j = q := by omega
            exact HK.out, by trivial⟩
        case measure => simp [intOf]; omega
    · obtain rfl : q = s.size := by omega
      have HR := hidp (name_ok hp (by omega) HC.out HU.out)
      have hnn : ¬ ((s.size : Int) < s.size) := by omega
      clear hqs
      go_wp2_with fail
      go_ret
      exact ⟨by rw [HR.out]; rfl, rfl⟩
set_option maxHeartbeats 400000 in
theorem r50in_any (n a b : Int) (w : World) : Calls Tryz.prog 64 #[.int .i64 n, .int .i64 a, .int .i64 b] w fun e w' => e = .returned (.bool (inB n a b)) ∧ w = w' := by
  go_enter Tryz.func64, Tryz.ntmps64
  go_wp2_with fail
  all_goals go_ret
  all_goals refine ⟨ret_bool ?_, rfl⟩
  all_goals simp [inB]
  all_goals omega
theorem str_beq (s x : ByteArray) : (x.toList == s.toList) = decide (x = s) := by
  rw [Bool.eq_iff_iff, beq_iff_eq, ByteArray.toList_eq, ByteArray.toList_eq, decide_eq_true_eq]
  constructor
  · intro h
    have : x.data = s.data := Array.toList_inj.1 h
    cases s; cases x; cases this; rfl
  · intro h; rw [h]
set_option maxRecDepth 100000 in
set_option maxHeartbeats 1000000 in
theorem r50find_any (A : Option Addr) (n c : Nat) (l : List ByteArray) (s : ByteArray) (w : World) (hl : nSl w w.heap.size A n c l) :
    Calls Tryz.prog 67 #[.slice A n c, .string s] w fun e w' => e = .returned (.int .i64 (indexB l s)) ∧ w = w' := by
  have HL := hidp hl
  have HN := hidp hl.1
  have hcap := hl.2.2.1
  have hnc := hl.2.1
  clear hl
  go_enter Tryz.func67, Tryz.ntmps67
  go_wp2_with fail
  go_loopw [5] (fun i wr => ∃ k : Nat, k ≤ n ∧ i = .int .i64 k ∧ (∀ j, j < k → l[j]? ≠ some s) ∧ w = wr) (fun i _ => n - (intOf i).toNat)
  case atStart => exact ⟨0, by omega, rfl, fun j h => by omega, rfl⟩
  case round =>
    obtain ⟨k, hk, rfl, hno, rfl⟩ := hrel
    have HNO := hidp hno
    clear hno
    by_cases hkn : k < n
    · obtain ⟨b, off, x, rfl, hb, hx, c1⟩ := nSl.get HL.out hkn
      have hkn' : (k : Int) < n := by omega
      have HX := hidp hx
      obtain ⟨q, hq⟩ : ∃ q, (x.toList == s.toList) = q := ⟨_, rfl⟩
      have hqx : (q = true ↔ x = s) := by rw [← hq, str_beq, decide_eq_true_eq]
      have HQ := hidp hqx
      clear hx hqx
      cases q
      · go_wp2_with fail
        go_roundw
        case rel => exact ⟨k + 1, by omega, by go_num, fun j hj => by
          rcases Nat.lt_or_ge j k with h | h
          · exact HNO.out j h
          · obtain rfl : j = k := by omega
            rw [HX.out]; intro h; exact absurd (HQ.out.2 (Option.some.inj h)) (by simp), by trivial⟩
        case measure => simp [intOf]; omega
      · have HR : Hid (indexB l s = k) := by
          rcases indexB_get l s with ⟨h1, _⟩ | ⟨i, h1, h2, h3⟩
          · exact absurd (List.mem_of_getElem? HX.out) (by rw [HQ.out.1 rfl]; exact h1)
          · show _ = _
            rw [h3]
            rcases Nat.lt_trichotomy i k with h | h | h
            · exact absurd h1 (HNO.out i h)
            · rw [h]
            · exact absurd (by rw [HX.out, HQ.out.1 rfl]) (h2 k h)
        go_wp2_with fail
        go_ret
        exact ⟨by rw [HR.out]; rfl, rfl⟩
    · obtain rfl : k = n := by omega
      have HR : Hid (indexB l s = -1) := by
        rcases indexB_get l s with ⟨_, h2⟩ | ⟨i, h1, h2, h3⟩
        · exact h2
        · exact absurd h1 (HNO.out i (by have := (List.getElem?_eq_some_iff.1 h1).1; have := HN.out; omega))
      have hkk : ¬ (k : Int) < k := by omega
      go_wp2_with fail
      go_ret
      exact ⟨by rw [HR.out]; rfl, rfl⟩
set_option maxRecDepth 100000 in
set_option maxHeartbeats 1000000 in
theorem r50Kinds_any (w : World) : Calls Tryz.prog 100 #[] w fun e w' => ∃ A, e = .returned (.slice A 12 12) ∧ nSl w' w'.heap.size A 12 12 wordsJ ∧ Below w.heap.size w w' := by
  go_enter Tryz.func100, Tryz.ntmps100
  go_wp2_with fail
  go_ret
  refine ⟨_, rfl, ?_, (Below.refl _ _).alloc (Nat.le_refl _) _⟩
  exact rows_of_heap (l := wordsJ) sEnc_len (World.alloc_heap_new _ _) (by decide) (by decide) rfl
set_option maxRecDepth 100000 in
set_option maxHeartbeats 1000000 in
theorem r50kind_any (s : ByteArray) (w : World) :
    Calls Tryz.prog 66 #[.string s] w fun e w' => e = .returned (.int .i64 (wdJ s)) ∧ Below w.heap.size w w' := by
  go_enter Tryz.func66, Tryz.ntmps66
  go_wp2_with fail
  refine (r50Kinds_any w).mono ?_
  rintro e w1 ⟨A, rfl, hl, hb⟩
  have HL := hidp hl
  have HB := hidp hb
  clear hl hb
  go_wp2_with fail
  go_loopw [4] (fun i wr => ∃ k : Nat, k ≤ 12 ∧ i = .int .i64 k ∧ (∀ j, j < k → wordsJ[j]? ≠ some s) ∧ w1 = wr) (fun i _ => 12 - (intOf i).toNat)
  case atStart => exact ⟨0, by omega, rfl, fun j h => by omega, rfl⟩
  case round =>
    obtain ⟨k, hk, rfl, hno, rfl⟩ := hrel
    have HNO := hidp hno
    clear hno
    by_cases hkn : k < 12
    · obtain ⟨b, off, x, rfl, hb, hx, c1⟩ := nSl.get HL.out hkn
      have hkn' : (k : Int) < 12 := by omega
      have HX := hidp hx
      obtain ⟨q, hq⟩ : ∃ q, (x.toList == s.toList) = q := ⟨_, rfl⟩
      have hqx : (q = true ↔ x = s) := by rw [← hq, str_beq, decide_eq_true_eq]
      have HQ := hidp hqx
      clear hx hqx
      cases q
      · go_wp2_with fail
        go_roundw
        case rel => exact ⟨k + 1, by omega, by go_num, fun j hj => by
          rcases Nat.lt_or_ge j k with h | h
          · exact HNO.out j h
          · obtain rfl : j = k := by omega
            rw [HX.out]; intro h; exact absurd (HQ.out.2 (Option.some.inj h)) (by simp), by trivial⟩
        case measure => simp [intOf]; omega
      · have HR : Hid (wdJ s = k + 1) := by
          show _ = _
          unfold wdJ
          rcases indexB_get wordsJ s with ⟨h1, _⟩ | ⟨i, h1, h2, h3⟩
          · exact absurd (List.mem_of_getElem? HX.out) (by rw [HQ.out.1 rfl]; exact h1)
          · rw [h3]
            rcases Nat.lt_trichotomy i k with h | h | h
            · exact absurd h1 (HNO.out i h)
            · rw [h]
            · exact absurd (by rw [HX.out, HQ.out.1 rfl]) (h2 k h)
        go_wp2_with fail
        go_ret
        exact ⟨by rw [HR.out]; rfl, HB.out⟩
    · obtain rfl : k = 12 := by omega
      have HR : Hid (wdJ s = 0) := by
        show _ = _
        unfold wdJ
        rcases indexB_get wordsJ s with ⟨_, h2⟩ | ⟨i, h1, h2, h3⟩
        · rw [h2]; rfl
        · exact absurd h1 (HNO.out i (List.getElem?_eq_some_iff.1 h1).1)
      go_wp2_with fail
      go_ret
      exact ⟨by rw [HR.out]; rfl, HB.out⟩
set_option maxRecDepth 100000 in
set_option maxHeartbeats 1000000 in
theorem r50has_any (A : Option Addr) (n c : Nat) (l : List Int) (s : Int) (w : World) (hl : iSl w w.heap.size A n c l) :
    Calls Tryz.prog 68 #[.slice A n c, .int .i64 s] w fun e w' => e = .returned (.bool (decide (s ∈ l))) ∧ w = w' := by
  have HL := hidp hl
  have HN := hidp hl.1
  have hcap := hl.2.2.1
  have hnc := hl.2.1
  clear hl
  go_enter Tryz.func68, Tryz.ntmps68
  go_wp2_with fail
  go_loopw [5] (fun i wr => ∃ k : Nat, k ≤ n ∧ i = .int .i64 k ∧ (∀ j, j < k → l[j]? ≠ some s) ∧ w = wr) (fun i _ => n - (intOf i).toNat)
  case atStart => exact ⟨0, by omega, rfl, fun j h => by omega, rfl⟩
  case round =>
    obtain ⟨k, hk, rfl, hno, rfl⟩ := hrel
    have HNO := hidp hno
    clear hno
    by_cases hkn : k < n
    · obtain ⟨b, off, x, rfl, hb, hx, c1⟩ := iSl.get HL.out hkn
      have hkn' : (k : Int) < n := by omega
      have HX := hidp hx
      obtain ⟨q, hq⟩ : ∃ q, (x == s) = q := ⟨_, rfl⟩
      have hqx : (q = true ↔ x = s) := by rw [← hq]; simp
      have HQ := hidp hqx
      clear hx hqx
      cases q
      · go_wp2_with fail
        go_roundw
        case rel => exact ⟨k + 1, by omega, by go_num, fun j hj => by
          rcases Nat.lt_or_ge j k with h | h
          · exact HNO.out j h
          · obtain rfl : j = k := by omega
            rw [HX.out]; intro h; exact absurd (HQ.out.2 (Option.some.inj h)) (by simp), by trivial⟩
        case measure => simp [intOf]; omega
      · have HR : Hid (s ∈ l) := by
          have h := List.mem_of_getElem? HX.out
          rwa [HQ.out.1 rfl] at h
        go_wp2_with fail
        go_ret
        exact ⟨by rw [decide_eq_true HR.out]; rfl, rfl⟩
    · obtain rfl : k = n := by omega
      have HR : Hid (s ∉ l) := fun h => by
        obtain ⟨i, hi, he⟩ := List.getElem_of_mem h
        exact HNO.out i (by have := HN.out; omega) (by rw [List.getElem?_eq_getElem hi, he])
      have hkk : ¬ (k : Int) < k := by omega
      go_wp2_with fail
      go_ret
      exact ⟨by rw [decide_eq_false HR.out]; rfl, rfl⟩
end Go.Proofs.YtbegdcjofnfkiaaGreatDoor
