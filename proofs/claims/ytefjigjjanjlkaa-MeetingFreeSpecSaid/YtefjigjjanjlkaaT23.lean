import Derived.Test.YtefjigjjanjlkaaT22
import Derived.Test.YtefjigjjanjlkaaT15
namespace Go.Proofs.Ytefjigjjanjlkaa
open Go.RowKit Go.Shelf Go.Sort

theorem asc_drop {last : Int} {G : List (Int × Int)} {k : Nat} {s : Int × Int} (h : Asc last (G.drop k)) (hk : G[k]? = some s) : last < s.1 ∧ s.1 < s.2 ∧ s.2 ≤ 1440 ∧ Asc s.2 (G.drop (k + 1)) := by
  rw [drop_cons hk] at h
  exact h
def FreesCalls : Prop := ∀ (A : Option Addr) (n c : Nat) (l : List Mt) (day week : Int) (w : World), MSl w w.heap.size A n c l →
    Calls Try.prog 6 #[.slice A n c, .int .i64 day, .int .i64 week] w fun e w' => e = .returned (.bool true) ∧ Below w.heap.size w w'

set_option maxRecDepth 100000 in
set_option maxHeartbeats 4000000 in
theorem frees_calls : FreesCalls := by
  intro A n c l day week w hl
  have hn := hl.2.1
  have hc := hl.2.2.1
  have HN := hidp hl.1
  go_enter Try.func6, Try.ntmps6
  go_wp2_with fail
  refine (sane_any _).mono ?_
  rintro e w1 ⟨rfl, hb1⟩
  go_wp2_with fail
  refine (few1 A n c w1 (by omega)).mono ?_
  rintro e w2 ⟨rfl, hb2⟩
  have hB2 := hb1.trans (hb2.mono hb1.size)
  clear hb1 hb2
  by_cases hfew : n ≤ 20
  · have HF := hidp (decide_eq_true hfew)
    rw [HF.out]
    have ra := hl.keep mStable hB2.size hB2.block
    clear hl
    go_wp2_with fail
    refine (free_any _ _ _ _ day week _ ra).mono ?_
    rintro e w3 ⟨hb3, h⟩
    have hB3 := hB2.trans (hb3.mono hB2.size)
    have ra3 := ra.keep mStable hb3.size hb3.block
    clear ra hb3 hB2
    rcases h with ⟨hcl, rfl⟩ | ⟨hcl, hbad, rfl⟩ | ⟨hcl, hbad, d, v, hperm, hpair, rfl, hown⟩
    · have HC := hidp hcl
      clear hcl
      go_wp2_with fail
      refine (check_any _ _ _ _ _ ra3).mono ?_
      rintro e w4 ⟨rfl, hb4⟩
      rw [HC.out]
      go_wp2_with fail
      go_ret
      exact ⟨rfl, hB3.trans (hb4.mono hB3.size)⟩
    · obtain ⟨z1, hz1⟩ : ∃ z, decide (day < 0) = z := ⟨_, rfl⟩
      obtain ⟨z2, hz2⟩ : ∃ z, decide (6 < day) = z := ⟨_, rfl⟩
      obtain ⟨z3, hz3⟩ : ∃ z, decide (week < 0) = z := ⟨_, rfl⟩
      obtain ⟨z4, hz4⟩ : ∃ z, decide (59 < week) = z := ⟨_, rfl⟩
      have hz : (z1 || z2 || z3 || z4) = true := by
        rw [← hz1, ← hz2, ← hz3, ← hz4, ← hbad, badDay]
        rw [Bool.eq_iff_iff]; simp; omega
      have HZ := hidp hz
      clear hbad hcl hz
      cases z1
      case true => go_wp2_with fail; go_ret; exact ⟨rfl, hB3⟩
      cases z2
      case true => go_wp2_with fail; go_ret; exact ⟨rfl, hB3⟩
      cases z3
      case true => go_wp2_with fail; go_ret; exact ⟨rfl, hB3⟩
      cases z4
      case true => go_wp2_with fail; go_ret; exact ⟨rfl, hB3⟩
      cases HZ.out
    · have hch : Ch 0 d := by
        rcases checkM_cases l with h | ⟨_, _, hall, hno⟩
        · omega
        · exact ch_of_sorted day week l d hall hno hperm hpair
      obtain ⟨G, hG⟩ : ∃ G, gapsOf d = G := ⟨_, rfl⟩
      have HAsc : Hid (Asc (-1) G) := by show Asc _ _; rw [← hG, gapsOf_eq]; exact gs_asc d 0 (-1) hch (by omega) (by omega)
      have HAny : Hid (∀ t : Int, 0 ≤ t → t < 1440 → G.any (inSp t) = !l.any fun m => m.cov day week t) := fun t h0 h1 => by rw [← hG]; exact free_iff day week t l d hperm hch h0 h1
      rw [hG] at hown
      clear hcl hbad hperm hpair hch hG
      obtain ⟨A4, c4, rfl, rg⟩ := own_rows sEnc_len (by decide) hown
      have hgc := rg.2.1
      have hgc' := rg.2.2.1
      clear hown
      obtain ⟨K, hK⟩ : ∃ K, G.length = K := ⟨_, rfl⟩
      rw [hK] at rg hgc ⊢
      have HK := hidp hK
      clear hK
      go_wp2_with fail
      go_loopw [9, 11, 66] (fun la _ i wr => ∃ (k : Nat) (la0 : Int), k ≤ K ∧ i = .int .i64 k ∧ la = .int .i64 la0 ∧ -1 ≤ la0 ∧ Asc la0 (G.drop k) ∧ Below w3.heap.size w3 wr) (fun _ _ i _ => K - (intOf i).toNat)
      case atStart => exact ⟨0, -1, by omega, rfl, rfl, by omega, HAsc.out, Below.refl _ _⟩
      case round =>
        obtain ⟨k, la0, hk, rfl, rfl, hla, hasc, hbe⟩ := hrel
        have HA := hidp hasc
        clear hasc
        by_cases hlt : k < K
        · obtain ⟨b, off, s, rfl, hb, hzk, d0, d1⟩ := SSl.get (rg.below sStable hbe) hlt
          have hbb := lt_of_cell d0
          obtain ⟨h1, h2, h3, h4⟩ := asc_drop HA.out hzk
          obtain ⟨s1, s2⟩ := s
          dsimp only at h1 h2 h3 h4 d0 d1
          have H4 := hidp h4
          have hbA : Below w3.heap.size w3 (wr.alloc (.cells (sEnc (s1, s2)).toArray 42)) := hbe.alloc hbe.size _
          have h5 : 0 ≤ s1 := by omega
          have hnew := World.alloc_heap_new wr (.cells (sEnc (s1, s2)).toArray 42)
          have e0 := cell_of_heap (o := 0) hnew
          have e1 := cell_of_heap (o := 1) hnew
          simp only [sEnc, List.getElem?_toArray, List.getElem?_cons_zero, List.getElem?_cons_succ] at e0 e1
          clear h4 hzk hnew
          go_wp2_with fail
          go_roundw
          case rel => exact ⟨k + 1, s2, by omega, by go_num, rfl, by omega, H4.out, hbA⟩
          case measure => simp [intOf]; omega
        · obtain rfl : K = k := by omega
          clear HA HAsc
          go_wp2_with fail
          obtain ⟨w5, hw5⟩ : ∃ w5 : World, w5 = wr := ⟨_, rfl⟩
          subst hw5
          go_loopw [12, 13, 15, 94] (fun _ _ _ i wr => ∃ (k : Nat), k ≤ 1440 ∧ i = .int .i64 k ∧ Below w3.heap.size w3 wr) (fun _ _ _ i _ => 1440 - (intOf i).toNat)
          case atStart => exact ⟨0, by omega, rfl, hbe⟩
          case round =>
            obtain ⟨k, hk, rfl, hbe2⟩ := hrel
            by_cases hlt2 : k < 1440
            · go_wp2_with fail
              obtain ⟨wo, hwo⟩ : ∃ wo : World, wo = wr := ⟨_, rfl⟩
              subst hwo
              go_loopw [13, 15, 99] (fun m _ i wr => ∃ (j : Nat), j ≤ K ∧ i = .int .i64 j ∧ m = .bool ((G.take j).any (inSp k)) ∧ Below w3.heap.size w3 wr) (fun _ _ i _ => K - (intOf i).toNat)
              case atStart => exact ⟨0, by omega, rfl, rfl, hbe2⟩
              case round =>
                obtain ⟨j, hj, rfl, rfl, hbe3⟩ := hrel
                obtain ⟨z0, hz0⟩ : ∃ z, (G.take j).any (inSp k) = z := ⟨_, rfl⟩
                rw [hz0]
                have HZ0 := hidp hz0
                clear hz0
                by_cases hlt3 : j < K
                · obtain ⟨b, off, s, rfl, hb, hzk, d0, d1⟩ := SSl.get (rg.below sStable hbe3) hlt3
                  have hbb := lt_of_cell d0
                  have HZ := hidp hzk
                  obtain ⟨s1, s2⟩ := s
                  dsimp only at d0 d1
                  have hbA : Below w3.heap.size w3 (wr.alloc (.cells (sEnc (s1, s2)).toArray 42)) := hbe3.alloc hbe3.size _
                  have hnew := World.alloc_heap_new wr (.cells (sEnc (s1, s2)).toArray 42)
                  have e0 := cell_of_heap (o := 0) hnew
                  have e1 := cell_of_heap (o := 1) hnew
                  simp only [sEnc, List.getElem?_toArray, List.getElem?_cons_zero, List.getElem?_cons_succ] at e0 e1
                  obtain ⟨q1, hq1⟩ : ∃ z, decide (s1 ≤ (k : Int)) = z := ⟨_, rfl⟩
                  obtain ⟨q2, hq2⟩ : ∃ z, decide ((k : Int) < s2) = z := ⟨_, rfl⟩
                  have HQ : Hid ((G.take (j + 1)).any (inSp k) = (z0 || (q1 && q2))) := by
                    show _ = _
                    rw [any_snoc hzk, HZ0.out, ← hq1, ← hq2]
                    rfl
                  clear hzk hnew
                  cases z0 <;> cases q1 <;> go_wp2_with fail
                  all_goals
                    go_roundw
                    case rel => exact ⟨j + 1, by omega, by go_num, by rw [HQ.out]; simp, hbA⟩
                    case measure => simp [intOf]; omega
                · obtain rfl : j = K := by omega
                  have hz : z0 = !l.any fun m => m.cov day week k := by
                    have := HAny.out k (by omega) (by omega)
                    rw [List.take_of_length_le (by rw [HK.out]; exact Nat.le_refl _)] at HZ0
                    rw [← HZ0.out, this]
                  obtain ⟨cv, hcv⟩ : ∃ z, (l.any fun m => m.cov day week k) = z := ⟨_, rfl⟩
                  rw [hcv] at hz
                  have HCV := hidp hcv
                  subst hz
                  clear hcv
                  go_wp2_with fail
                  refine (covered_any _ _ _ _ day week k _ (ra3.keep mStable hbe3.size hbe3.block)).mono ?_
                  rintro e w6 ⟨rfl, hb6⟩
                  rw [HCV.out]
                  have hbe6 := hbe3.trans (hb6.mono hbe3.size)
                  cases cv <;> go_wp2_with fail
                  all_goals
                    go_roundw
                    case rel => exact ⟨k + 1, by omega, by go_num, hbe6⟩
                    case measure => simp [intOf]; omega
            · obtain rfl : k = 1440 := by omega
              go_wp2_with fail
              go_ret
              exact ⟨rfl, hB3.trans (hbe2.mono hB3.size)⟩
  · have HF := hidp (decide_eq_false hfew)
    rw [HF.out]
    go_wp2_with fail
    go_ret
    exact ⟨rfl, hB2⟩
end Go.Proofs.Ytefjigjjanjlkaa
