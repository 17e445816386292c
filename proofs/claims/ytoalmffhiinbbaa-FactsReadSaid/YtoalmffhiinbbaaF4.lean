/- The leaves of facts, walked: validity. -/
import Derived.Test.YtoalmffhiinbbaaF1
namespace Go.Proofs.Ytoalmffhiinbbaa
open Go.RowKit Go.Sort

set_option maxRecDepth 100000 in
set_option maxHeartbeats 2000000 in
theorem rLessKey_any (a b : Ky) (w : World) : Calls Try.prog 57 #[.agg (kEnc a).toArray, .agg (kEnc b).toArray] w fun e w' => e = .returned (.bool (a.lt b)) ∧ Below w.heap.size w w' := by
  show Calls Try.prog 57 #[.agg #[.int .i64 a.kind, .int .i64 a.subj, .int .i64 a.obj], .agg #[.int .i64 b.kind, .int .i64 b.subj, .int .i64 b.obj]] w _
  have hB : Below w.heap.size w ((w.alloc (.cells #[.int .i64 a.kind, .int .i64 a.subj, .int .i64 a.obj] 24)).alloc (.cells #[.int .i64 b.kind, .int .i64 b.subj, .int .i64 b.obj] 24)) := ((Below.refl _ _).alloc (Nat.le_refl _) _).alloc (by simp) _
  by_cases h1 : a.kind = b.kind
  · have g1 : (a.kind != b.kind) = false := by simp [h1]
    by_cases h2 : a.subj = b.subj
    · have g2 : (a.subj != b.subj) = false := by simp [h2]
      have HR : Hid (a.lt b = decide (a.obj < b.obj)) := by show _ = _; simp [Ky.lt, h1, h2]
      clear h1 h2
      go_enter Try.func57, Try.ntmps57
      go_wp2_with fail
      go_ret
      exact ⟨ret_bool HR.out.symm, hB⟩
    · have g2 : (a.subj != b.subj) = true := by simp [h2]
      have HR : Hid (a.lt b = decide (a.subj < b.subj)) := by show _ = _; simp [Ky.lt, h1, h2]
      clear h1 h2
      go_enter Try.func57, Try.ntmps57
      go_wp2_with fail
      go_ret
      exact ⟨ret_bool HR.out.symm, hB⟩
  · have g1 : (a.kind != b.kind) = true := by simp [h1]
    have HR : Hid (a.lt b = decide (a.kind < b.kind)) := by show _ = _; simp [Ky.lt, h1]
    clear h1
    go_enter Try.func57, Try.ntmps57
    go_wp2_with fail
    go_ret
    exact ⟨ret_bool HR.out.symm, hB⟩
set_option maxRecDepth 100000 in
set_option maxHeartbeats 2000000 in
theorem fits_any (a : Fc) (w : World) : Calls Try.prog 32 #[.agg (fEnc a).toArray] w fun e w' => e = .returned (.bool a.ok) ∧ Below w.heap.size w w' := by
  show Calls Try.prog 32 #[.agg #[.int .i64 a.key.kind, .int .i64 a.key.subj, .int .i64 a.key.obj, .int .i64 a.val, .int .i64 a.fr, .int .i64 a.to, .int .i64 a.known, .int .i64 a.no]] w _
  have hB : Below w.heap.size w (w.alloc (.cells #[.int .i64 a.key.kind, .int .i64 a.key.subj, .int .i64 a.key.obj, .int .i64 a.val, .int .i64 a.fr, .int .i64 a.to, .int .i64 a.known, .int .i64 a.no] 28)) := (Below.refl _ _).alloc (Nat.le_refl _) _
  have hok : a.ok = ((decide (1 ≤ a.key.kind) && decide (a.key.kind ≤ 12)) && (decide (0 ≤ a.key.subj) && decide (a.key.subj ≤ 20000)) && (decide (0 ≤ a.key.obj) && decide (a.key.obj ≤ 20000)) && (decide (-1 ≤ a.val) && decide (a.val ≤ 1099511627776)) && decide (0 ≤ a.fr) && decide (a.fr < a.to) && decide (a.to ≤ 1024) && (decide (1 ≤ a.known) && decide (a.known ≤ 16777216)) && (decide (0 ≤ a.no) && decide (a.no ≤ 65535))) := by simp [Fc.ok, Bool.and_assoc]
  obtain ⟨b0, h0⟩ : ∃ b, (decide (1 ≤ a.key.kind) && decide (a.key.kind ≤ 12)) = b := ⟨_, rfl⟩
  obtain ⟨b1, h1⟩ : ∃ b, (decide (0 ≤ a.key.subj) && decide (a.key.subj ≤ 20000)) = b := ⟨_, rfl⟩
  obtain ⟨b2, h2⟩ : ∃ b, (decide (0 ≤ a.key.obj) && decide (a.key.obj ≤ 20000)) = b := ⟨_, rfl⟩
  obtain ⟨b3, h3⟩ : ∃ b, (decide (-1 ≤ a.val) && decide (a.val ≤ 1099511627776)) = b := ⟨_, rfl⟩
  obtain ⟨b4, h4⟩ : ∃ b, decide (0 ≤ a.fr) = b := ⟨_, rfl⟩
  obtain ⟨b5, h5⟩ : ∃ b, decide (a.fr < a.to) = b := ⟨_, rfl⟩
  obtain ⟨b6, h6⟩ : ∃ b, decide (a.to ≤ 1024) = b := ⟨_, rfl⟩
  obtain ⟨b7, h7⟩ : ∃ b, (decide (1 ≤ a.known) && decide (a.known ≤ 16777216)) = b := ⟨_, rfl⟩
  obtain ⟨b8, h8⟩ : ∃ b, (decide (0 ≤ a.no) && decide (a.no ≤ 65535)) = b := ⟨_, rfl⟩
  rw [h0, h1, h2, h3, h4, h5, h6, h7, h8] at hok
  have H0 := hidp h0
  have H1 := hidp h1
  have H2 := hidp h2
  have H3 := hidp h3
  have H7 := hidp h7
  have H8 := hidp h8
  have HR := hidp hok
  clear hok h0 h1 h2 h3 h7 h8
  rw [HR.out]
  cases b0
  · clear HR
    go_enter Try.func32, Try.ntmps32
    go_wp2_with (go_at_call 49; refine (within_any _ _ _ _).mono ?_; rintro e w1 ⟨rfl, rfl⟩; first | rw [H0.out] | rw [H1.out] | rw [H2.out] | rw [H3.out] | rw [H7.out] | rw [H8.out])
    go_ret
    exact ⟨rfl, hB⟩
  · skip
    cases b1
    · clear HR
      go_enter Try.func32, Try.ntmps32
      go_wp2_with (go_at_call 49; refine (within_any _ _ _ _).mono ?_; rintro e w1 ⟨rfl, rfl⟩; first | rw [H0.out] | rw [H1.out] | rw [H2.out] | rw [H3.out] | rw [H7.out] | rw [H8.out])
      go_ret
      exact ⟨rfl, hB⟩
    · skip
      cases b2
      · clear HR
        go_enter Try.func32, Try.ntmps32
        go_wp2_with (go_at_call 49; refine (within_any _ _ _ _).mono ?_; rintro e w1 ⟨rfl, rfl⟩; first | rw [H0.out] | rw [H1.out] | rw [H2.out] | rw [H3.out] | rw [H7.out] | rw [H8.out])
        go_ret
        exact ⟨rfl, hB⟩
      · skip
        cases b3
        · clear HR
          go_enter Try.func32, Try.ntmps32
          go_wp2_with (go_at_call 49; refine (within_any _ _ _ _).mono ?_; rintro e w1 ⟨rfl, rfl⟩; first | rw [H0.out] | rw [H1.out] | rw [H2.out] | rw [H3.out] | rw [H7.out] | rw [H8.out])
          go_ret
          exact ⟨rfl, hB⟩
        · skip
          cases b4
          · clear HR
            go_enter Try.func32, Try.ntmps32
            go_wp2_with (go_at_call 49; refine (within_any _ _ _ _).mono ?_; rintro e w1 ⟨rfl, rfl⟩; first | rw [H0.out] | rw [H1.out] | rw [H2.out] | rw [H3.out] | rw [H7.out] | rw [H8.out])
            go_ret
            exact ⟨rfl, hB⟩
          · skip
            cases b5
            · clear HR
              go_enter Try.func32, Try.ntmps32
              go_wp2_with (go_at_call 49; refine (within_any _ _ _ _).mono ?_; rintro e w1 ⟨rfl, rfl⟩; first | rw [H0.out] | rw [H1.out] | rw [H2.out] | rw [H3.out] | rw [H7.out] | rw [H8.out])
              go_ret
              exact ⟨rfl, hB⟩
            · skip
              cases b6
              · clear HR
                go_enter Try.func32, Try.ntmps32
                go_wp2_with (go_at_call 49; refine (within_any _ _ _ _).mono ?_; rintro e w1 ⟨rfl, rfl⟩; first | rw [H0.out] | rw [H1.out] | rw [H2.out] | rw [H3.out] | rw [H7.out] | rw [H8.out])
                go_ret
                exact ⟨rfl, hB⟩
              · skip
                cases b7
                · clear HR
                  go_enter Try.func32, Try.ntmps32
                  go_wp2_with (go_at_call 49; refine (within_any _ _ _ _).mono ?_; rintro e w1 ⟨rfl, rfl⟩; first | rw [H0.out] | rw [H1.out] | rw [H2.out] | rw [H3.out] | rw [H7.out] | rw [H8.out])
                  go_ret
                  exact ⟨rfl, hB⟩
                · skip
                  cases b8
                  · clear HR
                    go_enter Try.func32, Try.ntmps32
                    go_wp2_with (go_at_call 49; refine (within_any _ _ _ _).mono ?_; rintro e w1 ⟨rfl, rfl⟩; first | rw [H0.out] | rw [H1.out] | rw [H2.out] | rw [H3.out] | rw [H7.out] | rw [H8.out])
                    go_ret
                    exact ⟨rfl, hB⟩
                  · skip
                    clear HR
                    go_enter Try.func32, Try.ntmps32
                    go_wp2_with (go_at_call 49; refine (within_any _ _ _ _).mono ?_; rintro e w1 ⟨rfl, rfl⟩; first | rw [H0.out] | rw [H1.out] | rw [H2.out] | rw [H3.out] | rw [H7.out] | rw [H8.out])
                    go_ret
                    exact ⟨rfl, hB⟩
end Go.Proofs.Ytoalmffhiinbbaa
