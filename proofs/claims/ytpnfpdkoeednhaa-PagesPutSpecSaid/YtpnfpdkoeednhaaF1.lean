/- The leaves of facts, walked. -/
import Derived.Test.YtpnfpdkoeednhaaRows
import Derived.Test.YtpnfpdkoeednhaaM2
import Derived.Test.YtpnfpdkoeednhaaM3
import Derived.WalkKit
import Derived.WalkSpells
import Derived.WalkLawsBesides
import Derived.Deep.QuietTactic
import Derived.BigQuiet
namespace Go.Proofs.Ytpnfpdkoeednhaa
open Go.RowKit Go.Sort

set_option maxHeartbeats 400000 in
theorem within_any (n lo hi : Int) (w : World) : Calls Try.prog 76 #[.int .i64 n, .int .i64 lo, .int .i64 hi] w fun e w' => e = .returned (.bool (decide (lo ≤ n) && decide (n ≤ hi))) ∧ w = w' := by
  go_enter Try.func76, Try.ntmps76
  go_wp2_with fail
  all_goals
    go_ret
    refine ⟨ret_bool (by rw [Bool.eq_iff_iff]; simp; try omega), rfl⟩
set_option maxRecDepth 100000 in
set_option maxHeartbeats 1000000 in
theorem isNaN_any (x : Int) (w : World) : Calls Try.prog 78 #[.int .i64 x] w fun e w' => e = .returned (.bool false) ∧ w = w' := by
  have hx : (x != x) = false := by simp
  go_enter Try.func78, Try.ntmps78
  go_wp2
  go_ret
  exact ⟨rfl, rfl⟩
set_option maxRecDepth 100000 in
set_option maxHeartbeats 1000000 in
theorem cmp_any (x y : Int) (w : World) : Calls Try.prog 64 #[.int .i64 x, .int .i64 y] w fun e w' => e = .returned (.int .i64 (cmpI x y)) ∧ w = w' := by
  go_enter Try.func64, Try.ntmps64
  rcases cmpI_cases x y with ⟨h, e1⟩ | ⟨h, e1⟩ | ⟨h, e1⟩
  · rw [e1]
    clear e1
    go_wp2_with fail
    refine (isNaN_any _ _).mono ?_
    rintro e w1 ⟨rfl, rfl⟩
    go_wp2_with fail
    refine (isNaN_any _ _).mono ?_
    rintro e w2 ⟨rfl, rfl⟩
    go_wp2_with fail
    all_goals (go_ret; exact ⟨rfl, rfl⟩)
  · rw [e1]
    clear e1
    subst h
    go_wp2_with fail
    refine (isNaN_any _ _).mono ?_
    rintro e w1 ⟨rfl, rfl⟩
    go_wp2_with fail
    refine (isNaN_any _ _).mono ?_
    rintro e w2 ⟨rfl, rfl⟩
    go_wp2_with fail
    all_goals (go_ret; exact ⟨rfl, rfl⟩)
  · have h' : ¬ x < y := by omega
    rw [e1]
    clear e1
    go_wp2_with fail
    refine (isNaN_any _ _).mono ?_
    rintro e w1 ⟨rfl, rfl⟩
    go_wp2_with fail
    refine (isNaN_any _ _).mono ?_
    rintro e w2 ⟨rfl, rfl⟩
    go_wp2_with fail
    all_goals (go_ret; exact ⟨rfl, rfl⟩)

theorem rows_stableD {α : Type} {k : Nat} {r : Rep α} (hr : r.Stable) (n : Nat) (l : List α) : RelD.VT.Stable fun v w => ∃ A c, v = .slice A n c ∧ Rows k r w w.heap.size A n c l :=
  fun _ _ _ hb ⟨A, c, hv, h⟩ => ⟨A, c, hv, h.keep hr hb.size hb.block⟩
def iEnc (z : Int) : List Value := [.int .i64 z]
theorem iEnc_len (x : Int) : (iEnc x).length = 1 := rfl
abbrev ISl := Rows 1 (Rep.flat iEnc)
theorem iStable : (Rep.flat iEnc).Stable := Rep.flat_stable _
theorem ISl.get {n₀ n c k : Nat} {A : Option Addr} {l : List Int} {W : World} (h : ISl W n₀ A n c l) (hk : k < n) :
    ∃ b off z, A = some ⟨b, off, none⟩ ∧ b < n₀ ∧ l[k]? = some z ∧ W.cell? ⟨b, off + k, none⟩ = some (.int .i64 z) := by
  obtain ⟨b, off, z, cs, e, hlt, hk', rfl, hc⟩ := Rows.get h hk
  exact ⟨b, off, z, e, hlt, hk', by simpa using hc 0 _ rfl⟩
set_option maxRecDepth 100000 in
set_option maxHeartbeats 1000000 in
theorem or_any (A : Option Addr) (n c : Nat) (l : List Int) (w : World) (hl : ISl w w.heap.size A n c l) : Calls Try.prog 63 #[.slice A n c] w fun e w' => e = .returned (.int .i64 (orI l)) ∧ w = w' := by
  have HN := hidp hl.1
  have hcap := hl.2.2.1
  have hlen := hl.2.1
  go_enter Try.func63, Try.ntmps63
  go_wp2_with fail
  go_loop [5, 8] (fun _ i => ∃ k : Nat, k ≤ n ∧ i = .int .i64 k ∧ orI l = orI (l.drop k)) (fun _ i => n - (intOf i).toNat)
  case atStart => exact ⟨0, by omega, rfl, rfl⟩
  case round =>
    obtain ⟨k, hk, rfl, hno⟩ := hrel
    have HA := hidp hno
    clear hno
    by_cases hlt : k < n
    · obtain ⟨b, off, z, rfl, hb, hzk, c0⟩ := ISl.get hl hlt
      have HZ := hidp hzk
      have HD := hidp (drop_cons hzk)
      clear hzk
      by_cases h0 : z = 0
      · subst h0
        go_wp2_with fail
        go_round
        case rel => exact ⟨k + 1, by omega, by go_num, by rw [HA.out, HD.out, orI_cons]; simp⟩
        case measure => simp [intOf]; omega
      · have h0' : (z != 0) = true := by simp [h0]
        have HR : Hid (orI l = z) := by show _ = _; rw [HA.out, HD.out, orI_cons, if_neg h0]
        clear h0
        go_wp2_with fail
        go_ret
        exact ⟨ret_int HR.out.symm, rfl⟩
    · obtain rfl : k = n := by omega
      go_wp2_with fail
      go_ret
      refine ⟨ret_int ?_, rfl⟩
      rw [HA.out, List.drop_of_length_le (by rw [← HN.out]; omega)]; rfl
end Go.Proofs.Ytpnfpdkoeednhaa

