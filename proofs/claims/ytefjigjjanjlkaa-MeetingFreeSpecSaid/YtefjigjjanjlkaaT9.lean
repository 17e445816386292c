import Derived.Test.YtefjigjjanjlkaaT8
import Derived.Test.YtefjigjjanjlkaaOwn
namespace Go.Proofs.Ytefjigjjanjlkaa
open Go.RowKit Go.Shelf

theorem mtInfo : (Try.prog.info? 38).map (fun i => (i.zero, i.size, i.bytes)) = some (some (.agg #[.int .i64 0, .int .i64 0, .int .i64 0, .int .i64 0, .int .i64 0]), 5, 40) := by kernel_rfl
theorem mEnc_len (x : Mt) : (mEnc x).length = 5 := rfl
theorem mEnc_one (x : Mt) : ∀ u ∈ mEnc x, u.oneCell' = true := by
  intro u hu
  simp [mEnc] at hu
  rcases hu with rfl | rfl | rfl | rfl | rfl <;> rfl

set_option maxRecDepth 100000 in
set_option maxHeartbeats 1000000 in
theorem clone_any (A : Option Addr) (n c : Nat) (l : List Mt) (w : World) (hl : MSl w w.heap.size A n c l) (hn : n ≤ 1000000) :
    Calls Try.prog 22 #[.slice A n c] w fun e w' => ∃ v, e = .returned v ∧ w'.ownsRow w.heap.size 38 5 v n (l.flatMap mEnc) ∧ (A = none → v = .slice none 0 0) ∧ Below w.heap.size w w' := by
  obtain ⟨i0, hi, hz, hs, hb⟩ := info_parts mtInfo
  have hown := World.ownsRow_made (e := 38) (size := 5) w #[] 0 (Nat.le_refl _) (by decide) (by simp)
  obtain ⟨v, w1, hrun, hown1, hg, hat⟩ := run_append_rows (P := Try.prog) (ty := 22) (l := []) (enc := mEnc) Try.underlying22 hi hz hs hb rfl mEnc_len (by decide) mEnc_one hown (hl.keep mStable (W' := w.alloc (.cells #[] 38)) (Nat.le_refl _) (fun b hb => Below.heap_alloc _ _ _ hb)) (by omega) (by omega) (by simp)
  have HG := hidp hg
  have HO := hidp hown1
  have HAt := hidp hat
  clear hg hown1 hat hown
  have hq := fun (W : World) (a : Option Addr) (n c : Nat) => Lib.run_eql_slice_nil (P := Try.prog) W 22 38 a n c 0 0 Try.underlying22
  rcases A with _ | ad
  · go_enter Try.func22, Try.ntmps22
    go_wp2_with fail
    go_ret
    have hn0 : n = 0 := by
      rcases Nat.eq_zero_or_pos n with h | h
      · exact h
      · obtain ⟨_, _, he, _⟩ := hl.2.2.2 h
        cases he
    subst hn0
    have hl0 : l = [] := List.eq_nil_of_length_eq_zero hl.1.symm
    subst hl0
    exact ⟨_, rfl, World.ownsRow_nil _ _ _ _, fun _ => rfl, Below.refl _ _⟩
  · go_enter Try.func22, Try.ntmps22
    go_wp2_with (at_builtin; refine wpList_append_known rfl (.tmp 5) (.tmp 6) 22 rfl rfl rfl hrun ?_)
    go_ret
    refine ⟨_, rfl, by simpa using HO.out, fun h => (by cases h), ((Below.refl _ _).alloc (Nat.le_refl _) _).grown HG.out (by simp) (fun g hg => ?_)⟩
    simp [Value.ownBlock] at hg
    omega
end Go.Proofs.Ytefjigjjanjlkaa
