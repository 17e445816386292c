import Derived.Test.YtefjigjjanjlkaaT30
namespace Go.Proofs.Ytefjigjjanjlkaa
open Go.RowKit Go.Shelf Go.Sort

def FreeSpecCalls : Prop := ∀ (A : Option Addr) (n c : Nat) (l : List Mt) (day week : Int) (w : World), MSl w w.heap.size A n c l →
    Calls Try.prog 3 #[.slice A n c, .int .i64 day, .int .i64 week] w fun e w' => e = .returned (.bool true) ∧ Below w.heap.size w w'

set_option maxRecDepth 100000 in
set_option maxHeartbeats 4000000 in
theorem freeSpec_calls : FreeSpecCalls := by
  intro A n c l day week w hl
  have hn := hl.2.1
  have hc := hl.2.2.1
  have HN := hidp hl.1
  go_enter Try.func3, Try.ntmps3
  go_wp2_with fail
  refine (sane_any _).mono ?_
  rintro e w1 ⟨rfl, hb1⟩
  go_wp2_with fail
  refine (few1 A n c w1 (by omega)).mono ?_
  rintro e w2 ⟨rfl, hb2⟩
  have hB2 := hb1.trans (hb2.mono hb1.size)
  clear hb1 hb2
  by_cases hfew : n ≤ 20
  · have HF := hidp (decide_eq_true hfew)
    rw [HF.out]
    have ra := hl.keep mStable hB2.size hB2.block
    clear hl
    obtain ⟨N, hN⟩ : ∃ N, (if checkM l = 0 then minsM l else 0) = N := ⟨_, rfl⟩
    obtain ⟨E, hE⟩ : ∃ E, checkM l = E := ⟨_, rfl⟩
    have HN' := hidp hN
    have HE := hidp hE
    clear hN hE
    go_wp2_with fail
    refine (minutes_any _ _ _ _ _ ra).mono ?_
    rintro e w3 ⟨rfl, hb3⟩
    rw [HN'.out, HE.out]
    have hB3 := hB2.trans (hb3.mono hB2.size)
    have ra3 := ra.keep mStable hb3.size hb3.block
    clear ra hb3 hB2
    go_wp2_with fail
    refine (rminutes_any _ _ _ _ _ ra3).mono ?_
    rintro e w4 ⟨rfl, hb4⟩
    rw [HN'.out, HE.out]
    have hB4 := hB3.trans (hb4.mono hB3.size)
    have ra4 := ra3.keep mStable hb4.size hb4.block
    clear ra3 hb4 hB3
    go_wp2_with fail
    refine (free_any _ _ _ _ day week _ ra4).mono ?_
    rintro e w5 ⟨hb5, h⟩
    have hB5 := hB4.trans (hb5.mono hB4.size)
    have ra5 := ra4.keep mStable hb5.size hb5.block
    have hs5 := hb5.size
    clear ra4 hb5
    rcases h with ⟨hcl, rfl⟩ | ⟨hcl, hbad, rfl⟩ | ⟨hcl, hbad, d, v, hperm, hpair, rfl, hown⟩
    · have HC := hidp hcl
      clear hcl
      go_wp2_with fail
      refine (rfree_any _ _ _ _ day week _ ra5).mono ?_
      rintro e w6 ⟨hb6, h⟩
      have hB6 := hB5.trans (hb6.mono hB5.size)
      rcases h with ⟨_, rfl⟩ | ⟨h, _⟩ | ⟨h, _⟩
      · go_wp2_with fail
        refine (sameSpans_any none none 0 0 0 0 [] [] _ (Rows.nil (by decide)) (Rows.nil (by decide))).mono ?_
        rintro e w7 ⟨rfl, hb7⟩
        go_wp2_with fail
        go_ret
        exact ⟨ret_bool (by simp), hB6.trans (hb7.mono hB6.size)⟩
      · rw [HC.out] at h; cases h
      · rw [HC.out] at h; cases h
    · have HC := hidp hcl
      have HBad := hidp hbad
      clear hcl hbad
      go_wp2_with fail
      refine (rfree_any _ _ _ _ day week _ ra5).mono ?_
      rintro e w6 ⟨hb6, h⟩
      have hB6 := hB5.trans (hb6.mono hB5.size)
      rcases h with ⟨h, _⟩ | ⟨_, _, rfl⟩ | ⟨_, h, _⟩
      · rw [HC.out] at h; cases h
      · go_wp2_with fail
        refine (sameSpans_any none none 0 0 0 0 [] [] _ (Rows.nil (by decide)) (Rows.nil (by decide))).mono ?_
        rintro e w7 ⟨rfl, hb7⟩
        go_wp2_with fail
        go_ret
        exact ⟨ret_bool (by simp), hB6.trans (hb7.mono hB6.size)⟩
      · rw [HBad.out] at h; cases h
    · have hch : Ch 0 d := by
        rcases checkM_cases l with h | ⟨_, _, hall, hno⟩
        · omega
        · exact ch_of_sorted day week l d hall hno hperm hpair
      have hasc : Asc (-1) (gapsOf d) := by rw [gapsOf_eq]; exact gs_asc d 0 (-1) hch (by omega) (by omega)
      have hsame : rfTo (freeAt l day week) 1440 = gapsOf d := rfTo_all _ _ hasc fun t h0 h1 => free_iff day week t l d hperm hch h0 h1
      have HC := hidp hcl
      have HBad := hidp hbad
      have HSame := hidp hsame
      obtain ⟨A5, c5, rfl, r5⟩ := own_rows sEnc_len (by decide) hown
      have hgc := r5.2.1
      have hgc' := r5.2.2.1
      clear hcl hbad hsame hasc hch hperm hpair hown
      go_wp2_with fail
      refine (rfree_any _ _ _ _ day week _ ra5).mono ?_
      rintro e w6 ⟨hb6, h⟩
      have hB6 := hB5.trans (hb6.mono hB5.size)
      rcases h with ⟨h, _⟩ | ⟨_, h, _⟩ | ⟨_, _, v, rfl, hown⟩
      · rw [HC.out] at h; cases h
      · rw [HBad.out] at h; cases h
      · rw [HSame.out] at hown
        obtain ⟨A6, c6, rfl, r6⟩ := own_rows sEnc_len (by decide) hown
        clear hown
        go_wp2_with fail
        refine (sameSpans_any _ _ _ _ _ _ _ _ _ (r5.keep sStable hb6.size hb6.block) r6).mono ?_
        rintro e w7 ⟨rfl, hb7⟩
        go_wp2_with fail
        go_ret
        exact ⟨ret_bool (by simp), hB6.trans (hb7.mono hB6.size)⟩
  · have HF := hidp (decide_eq_false hfew)
    rw [HF.out]
    go_wp2_with fail
    go_ret
    exact ⟨rfl, hB2⟩
end Go.Proofs.Ytefjigjjanjlkaa
