import Derived.Test.YtefjigjjanjlkaaT5
namespace Go.Proofs.Ytefjigjjanjlkaa
open Go.RowKit Go.Shelf

set_option maxHeartbeats 400000 in
theorem rFew_any (A : Option Addr) (n c : Nat) (w : World) (hn : n ≤ 9223372036854775807) :
    Calls Try.prog 19 #[.slice A n c] w fun e w' => e = .returned (.bool (decide (n ≤ 20))) ∧ Below w.heap.size w w' := by
  go_enter Try.func19, Try.ntmps19
  go_wp2
  go_ret
  exact ⟨ret_bool (by rw [Bool.eq_iff_iff]; simp; omega), Below.refl _ _⟩

/-- Slices of slices of which the lengths alone matter. -/
def lenRep : Rep Nat := fun _ _ n cs => n ≤ 9223372036854775807 ∧ ∃ A c, cs = [.slice A n c]
theorem lenStable : lenRep.Stable := fun _ _ _ _ _ _ h _ _ => h

set_option maxRecDepth 100000 in
set_option maxHeartbeats 1000000 in
theorem few_any (A : Option Addr) (n c : Nat) (ls : List Nat) (w : World) (hl : Rows 1 lenRep w w.heap.size A n c ls) :
    Calls Try.prog 10 #[.slice A n c] w fun e w' => e = .returned (.bool (ls.all fun x => decide (x ≤ 20))) ∧ Below w.heap.size w w' := by
  have HN := hidp hl.1
  have hcap := hl.2.2.1
  have hlen := hl.2.1
  go_enter Try.func10, Try.ntmps10
  go_wp2
  go_loopw [4, 7] (fun _ i wr => ∃ k : Nat, k ≤ n ∧ i = .int .i64 k ∧ ((ls.take k).all fun x => decide (x ≤ 20)) = true ∧ Below w.heap.size w wr) (fun _ i _ => n - (intOf i).toNat)
  case atStart => exact ⟨0, by omega, rfl, rfl, Below.refl _ _⟩
  case round =>
    obtain ⟨k, hk, rfl, hall, hbe⟩ := hrel
    have HA := hidp hall
    clear hall
    by_cases hlt : k < n
    · obtain ⟨b, off, x, cs, rfl, hb, hzk, ⟨hx, A', c', rfl⟩, hc⟩ := (hl.below lenStable hbe).get hlt
      have c0 := hc 0 _ rfl
      simp only [Nat.mul_one, Nat.add_zero] at c0
      have HZ := hidp hzk
      clear hzk hc
      rcases hok : decide (x ≤ 20) with _ | _
      · have HK := hidp hok
        clear hok
        go_wp2_with (go_at_call 19; refine (rFew_any _ _ _ _ hx).mono ?_; rintro e w1 ⟨rfl, hb1⟩; rw [HK.out])
        go_ret
        exact ⟨ret_bool (by rw [all_false_of HZ.out HK.out]), hbe.trans (hb1.mono hbe.size)⟩
      · have HK := hidp hok
        clear hok
        go_wp2_with (go_at_call 19; refine (rFew_any _ _ _ _ hx).mono ?_; rintro e w1 ⟨rfl, hb1⟩; rw [HK.out])
        go_roundw
        case rel => exact ⟨k + 1, by omega, by go_num, by rw [take_snoc HZ.out, List.all_append, HA.out]; simpa using HK.out, hbe.trans (hb1.mono hbe.size)⟩
        case measure => simp [intOf]; omega
    · obtain rfl : k = n := by omega
      go_wp2
      go_ret
      have := HA.out
      rw [List.take_of_length_le (by rw [← HN.out]; omega)] at this
      exact ⟨ret_bool (by rw [this]), hbe⟩

def Mt.cov (m : Mt) (day week minute : Int) : Bool := decide (m.day = day) && decide (m.first ≤ week) && decide (week ≤ m.last) && decide (m.fr ≤ minute) && decide (minute < m.to)

set_option maxRecDepth 100000 in
set_option maxHeartbeats 2000000 in
theorem covered_any (A : Option Addr) (n c : Nat) (l : List Mt) (day week minute : Int) (w : World) (hl : MSl w w.heap.size A n c l) :
    Calls Try.prog 18 #[.slice A n c, .int .i64 day, .int .i64 week, .int .i64 minute] w fun e w' => e = .returned (.bool (l.any fun m => m.cov day week minute)) ∧ Below w.heap.size w w' := by
  have HN := hidp hl.1
  have hcap := hl.2.2.1
  have hlen := hl.2.1
  go_enter Try.func18, Try.ntmps18
  go_wp2
  go_loopw [10, 13] (fun _ i wr => ∃ k : Nat, k ≤ n ∧ i = .int .i64 k ∧ ((l.take k).any fun m => m.cov day week minute) = false ∧ Below w.heap.size w wr) (fun _ i _ => n - (intOf i).toNat)
  case atStart => exact ⟨0, by omega, rfl, rfl, Below.refl _ _⟩
  case round =>
    obtain ⟨k, hk, rfl, hno, hbe⟩ := hrel
    have HA := hidp hno
    clear hno
    by_cases hlt : k < n
    · obtain ⟨b, off, m, rfl, hb, hzk, c0, c1, c2, c3, c4⟩ := MSl.get (hl.below mStable hbe) hlt
      have HZ := hidp hzk
      have hby : Below w.heap.size w (wr.alloc (.cells #[.int .i64 m.day, .int .i64 m.fr, .int .i64 m.to, .int .i64 m.first, .int .i64 m.last] 38)) := hbe.alloc hbe.size _
      clear hzk
      rcases hd : (m.day == day) with _ | _
      · have hd' : ¬ m.day = day := by simpa using hd
        have HD := hidp hd'
        clear hd'
        go_wp2
        go_roundw
        case rel => exact ⟨k + 1, by omega, by go_num, by have := HD.out; rw [take_snoc HZ.out, List.any_append, HA.out]; simp [Mt.cov, this], hby⟩
        case measure => simp [intOf]; omega
      · have hd' : m.day = day := by simpa using hd
        have HD := hidp hd'
        clear hd'
        go_wp2
        all_goals
          first
          | (go_ret
             refine ⟨ret_bool ?_, hby⟩
             symm
             rw [List.any_eq_true]
             have := HD.out
             exact ⟨m, List.mem_of_getElem? HZ.out, by simp [Mt.cov]; omega⟩)
          | (go_roundw
             case rel => exact ⟨k + 1, by omega, by go_num, by rw [take_snoc HZ.out, List.any_append, HA.out]; simp [Mt.cov]; omega, hby⟩
             case measure => simp [intOf]; omega)
    · obtain rfl : k = n := by omega
      go_wp2
      go_ret
      have := HA.out
      rw [List.take_of_length_le (by rw [← HN.out]; omega)] at this
      exact ⟨ret_bool (by rw [this]), hbe⟩
end Go.Proofs.Ytefjigjjanjlkaa
