import Derived.Test.YtefjigjjanjlkaaT10
import Derived.Test.YtefjigjjanjlkaaShelf
namespace Go.Proofs.Ytefjigjjanjlkaa
open Go.RowKit Go.Shelf

theorem msl_nil (w : World) (n₀ : Nat) : MSl w n₀ none 0 0 [] := Rows.nil (by decide)

set_option maxRecDepth 100000 in
set_option maxHeartbeats 1000000 in
theorem indexFunc_nil (fv : Value) (w : World) : Calls Try.prog 34 #[.slice none 0 0, fv] w fun e w' => e = .returned (.int .i64 (-1)) ∧ Below w.heap.size w w' := by
  go_enter Try.func34, Try.ntmps34
  go_wp2_with fail
  go_loopw [5, 8] (fun _ i wr => i = .int .i64 0 ∧ Below w.heap.size w wr) (fun _ _ _ => 0)
  case atStart => exact ⟨rfl, Below.refl _ _⟩
  case round =>
    obtain ⟨rfl, hbe⟩ := hrel
    go_wp2_with fail
    go_ret
    exact ⟨rfl, hbe⟩
set_option maxRecDepth 100000 in
set_option maxHeartbeats 1000000 in
theorem del_nil (fv : Value) (w : World) : Calls Try.prog 21 #[.slice none 0 0, fv] w fun e w' => e = .returned (.slice none 0 0) ∧ Below w.heap.size w w' := by
  go_enter Try.func21, Try.ntmps21
  go_wp2_with fail
  refine (indexFunc_nil fv w).mono ?_
  rintro e w1 ⟨rfl, hb1⟩
  go_wp2_with fail
  go_ret
  exact ⟨rfl, hb1⟩
set_option maxRecDepth 100000 in
set_option maxHeartbeats 1000000 in
theorem len0 (w : World) : Calls Try.prog 36 #[.int .u64 0] w fun e w' => e = .returned (.int .i64 0) ∧ w = w' := by
  go_enter Try.func36, Try.ntmps36
  go_wp2
  go_ret
  exact ⟨ret_int (by kernel_rfl), rfl⟩
set_option maxRecDepth 100000 in
set_option maxHeartbeats 1000000 in
theorem ins_nil (p : Option Addr) (cap : Nat) (fv : Value) (w : World) : Calls Try.prog 39 #[.slice p 0 cap, .int .i64 0, .int .i64 0, fv] w fun e w' => e = .returned (.tuple #[]) ∧ w = w' := by
  go_enter Try.func39, Try.ntmps39
  go_wp2_with fail
  go_loopw [8, 9] (fun i _ wr => i = .int .i64 1 ∧ w = wr) (fun _ _ _ => 0)
  case atStart => exact ⟨rfl, rfl⟩
  case round =>
    obtain ⟨rfl, rfl⟩ := hrel
    go_wp2_with fail
    go_end0
    exact ⟨rfl, rfl⟩
set_option maxRecDepth 100000 in
set_option maxHeartbeats 1000000 in
theorem pdq_nil (p : Option Addr) (cap : Nat) (fv : Value) (w : World) : Calls Try.prog 35 #[.slice p 0 cap, .int .i64 0, .int .i64 0, .int .i64 0, fv] w fun e w' => e = .returned (.tuple #[]) ∧ w = w' := by
  go_enter Try.func35, Try.ntmps35
  go_wp2_with fail
  refine wp_loop_rounds 1 ?_
  rw [rounds_succ]
  go_wp2_with (go_at_call 39; refine (ins_nil p cap fv _).mono ?_; rintro e w1 ⟨rfl, rfl⟩)
  refine bodyPost_ret (results_none rfl _ _ _) rfl ?_
  exact ⟨rfl, rfl⟩
set_option maxRecDepth 100000 in
set_option maxHeartbeats 1000000 in
theorem sort_nil (p : Option Addr) (cap : Nat) (fv : Value) (w : World) : Calls Try.prog 24 #[.slice p 0 cap, fv] w fun e w' => e = .returned (.tuple #[]) ∧ w = w' := by
  go_enter Try.func24, Try.ntmps24
  go_wp2_with fail
  refine (len0 _).mono ?_
  rintro e w1 ⟨rfl, rfl⟩
  go_wp2_with fail
  refine (pdq_nil _ _ _ _).mono ?_
  rintro e w1 ⟨rfl, rfl⟩
  go_wp2_with fail
  go_end0
  exact ⟨rfl, rfl⟩

theorem spInfo : (Try.prog.info? 42).map (fun i => (i.zero, i.size, i.bytes)) = some (some (.agg #[.int .i64 0, .int .i64 0]), 2, 16) := by kernel_rfl
theorem sEnc_len (x : Int × Int) : (sEnc x).length = 2 := rfl
theorem sEnc_one (x : Int × Int) : ∀ u ∈ sEnc x, u.oneCell' = true := by
  intro u hu
  simp [sEnc] at hu
  rcases hu with rfl | rfl <;> rfl
set_option maxRecDepth 100000 in
set_option maxHeartbeats 2000000 in
theorem free_nil_ok (w : World) : Calls Try.prog 13 #[.slice none 0 0, .int .i64 0, .int .i64 0] w fun e w' => ∃ A c, e = .returned (.tuple #[.slice A 1 c, .int .i64 0]) ∧ SSl w' w'.heap.size A 1 c [(0, 1440)] ∧ Below w.heap.size w w' := by
  obtain ⟨i0, hi, hz, hs, hb⟩ := info_parts spInfo
  go_enter Try.func13, Try.ntmps13
  go_wp2_with fail
  refine (check_any none 0 0 [] _ (msl_nil _ _)).mono ?_
  rintro e w1 ⟨rfl, hb1⟩
  rw [show checkM [] = 0 from rfl]
  obtain ⟨hc1, hf1⟩ := bcell hb1
  have hz1 := hb1.size
  simp only [World.size_alloc] at hc1 hf1 hz1
  have hB1 : Below w.heap.size w w1 := (((Below.refl _ w).alloc (Nat.le_refl _) _).alloc (by simp) _).trans (hb1.mono (by simp; omega))
  clear hb1
  go_wp2_with fail
  refine (clone_any none 0 0 [] _ (msl_nil _ _) (by omega)).mono ?_
  rintro e w2 ⟨v, rfl, hown, hvn, hb2⟩
  obtain rfl := hvn rfl
  have hB2 := hB1.trans (hb2.mono hB1.size)
  go_wp2_with fail
  refine (del_nil _ _).mono ?_
  rintro e w3 ⟨rfl, hb3⟩
  have hB3 := hB2.trans (hb3.mono hB2.size)
  clear hc1 hf1 hb2 hb3 hown
  go_wp2_with fail
  refine (sort_nil _ _ _ _).mono ?_
  rintro e w4 ⟨rfl, rfl⟩
  go_wp2_with fail
  go_loopw [6, 10, 12, 40] (fun x f _ i wr => x = .slice none 0 0 ∧ f = .int .i64 0 ∧ i = .int .i64 0 ∧ Below w.heap.size w wr) (fun _ _ _ _ _ => 0)
  case atStart => exact ⟨rfl, rfl, rfl, hB3⟩
  case round =>
    obtain ⟨rfl, rfl, rfl, hbe⟩ := hrel
    obtain ⟨v', w5, hrun, hown, hg, hat⟩ := run_append_one (P := Try.prog) (ty := 28) (l := []) (enc := sEnc) (w := wr) (base := w.heap.size) (v := .slice none 0 0) (n := 0) Try.underlying28 hi hz hs hb rfl sEnc_len (by decide) sEnc_one (World.ownsRow_nil _ _ _ _) (0, 1440) (by omega) (by omega) hbe.size
    have HO := hidp hown
    have HG := hidp hg
    clear hown hg hat
    go_wp2_with (at_builtin; refine wpList_append_known rfl (.tmp 60) (.tmp 63) 28 rfl rfl rfl hrun ?_)
    go_ret2
    obtain ⟨A, c, hv, hr⟩ := own_rows sEnc_len (by decide) HO.out
    subst hv
    exact ⟨A, c, rfl, hr, (hbe.alloc hbe.size _).grown HG.out (by have := hbe.size; simp; omega) (fun k h => by simp [Value.ownBlock] at h)⟩
theorem free_nil_bad (w : World) : Calls Try.prog 13 #[.slice none 0 0, .int .i64 7, .int .i64 0] w fun e w' => e = .returned (.tuple #[.slice none 0 0, .int .i64 1]) ∧ Below w.heap.size w w' := by
  go_enter Try.func13, Try.ntmps13
  go_wp2_with fail
  refine (check_any none 0 0 [] _ (msl_nil _ _)).mono ?_
  rintro e w1 ⟨rfl, hb1⟩
  rw [show checkM [] = 0 from rfl]
  obtain ⟨hc1, hf1⟩ := bcell hb1
  have hz1 := hb1.size
  simp only [World.size_alloc] at hc1 hf1 hz1
  go_wp2_with fail
  go_ret2
  exact ⟨rfl, (((Below.refl _ w).alloc (Nat.le_refl _) _).alloc (by simp) _).trans (hb1.mono (by simp; omega))⟩
end Go.Proofs.Ytefjigjjanjlkaa
