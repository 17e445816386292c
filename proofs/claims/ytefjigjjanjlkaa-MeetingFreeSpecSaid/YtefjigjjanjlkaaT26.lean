import Derived.Test.YtefjigjjanjlkaaT25
namespace Go.Proofs.Ytefjigjjanjlkaa
open Go.RowKit Go.Shelf Go.Sort

def TotalCalls : Prop := ∀ (A : Option Addr) (n c : Nat) (l : List Mt) (w : World), MSl w w.heap.size A n c l →
    Calls Try.prog 7 #[.slice A n c] w fun e w' => e = .returned (.bool true) ∧ Below w.heap.size w w'
theorem free_bd (l : List Mt) (day week : Int) (d : List Mt) (hp : d.Perm (l.filter (today day week))) (hc : Ch 0 d) : 0 ≤ freeN l day week ∧ freeN l day week ≤ 1441 := by
  rw [← sumSp_free day week l d hp hc, gapsOf_eq]
  have := asc_sum (gs 0 d) (-1) (gs 0 d).length (gs_asc d 0 (-1) hc (by omega) (by omega)) (by omega) (by omega)
  rw [List.take_length] at this
  omega

set_option maxRecDepth 100000 in
set_option maxHeartbeats 4000000 in
theorem total_calls : TotalCalls := by
  intro A n c l w hl
  have hn := hl.2.1
  have hc := hl.2.2.1
  have HN := hidp hl.1
  go_enter Try.func7, Try.ntmps7
  go_wp2_with fail
  refine (sane_any _).mono ?_
  rintro e w1 ⟨rfl, hb1⟩
  go_wp2_with fail
  refine (few1 A n c w1 (by omega)).mono ?_
  rintro e w2 ⟨rfl, hb2⟩
  have hB2 := hb1.trans (hb2.mono hb1.size)
  clear hb1 hb2
  by_cases hfew : n ≤ 20
  · have HF := hidp (decide_eq_true hfew)
    rw [HF.out]
    have ra := hl.keep mStable hB2.size hB2.block
    clear hl
    go_wp2_with fail
    refine (minutes_any _ _ _ _ _ ra).mono ?_
    rintro e w3 ⟨rfl, hb3⟩
    have hB3 := hB2.trans (hb3.mono hB2.size)
    have ra3 := ra.keep mStable hb3.size hb3.block
    clear ra hb3 hB2
    rcases checkM_cases l with hcl | ⟨hcl, h16, hall, hno⟩
    · rw [hcl, if_neg (by decide)]
      have HC := hidp hcl
      clear hcl
      go_wp2_with fail
      refine (check_any _ _ _ _ _ ra3).mono ?_
      rintro e w4 ⟨rfl, hb4⟩
      rw [HC.out]
      go_wp2_with fail
      go_ret
      exact ⟨rfl, hB3.trans (hb4.mono hB3.size)⟩
    · rw [hcl, if_pos rfl]
      have HC := hidp hcl
      have HAll := hidp hall
      have HNo := hidp hno
      have HTot := hidp (total_eq l hall)
      have hbd := minsM_bd l hall
      have hbd2 : minsM l ≤ 1728000 := by have : (l.length : Int) ≤ 16 := by omega
                                          omega
      have hbd1 := hbd.1
      obtain ⟨N, hN⟩ : ∃ N, minsM l = N := ⟨_, rfl⟩
      rw [hN] at hbd1 hbd2 HTot ⊢
      clear hcl hall hno hbd hN h16
      have HCh : Hid (∀ (day week : Int) (d : List Mt), d.Perm (l.filter (today day week)) → d.Pairwise (fun x y => x.fr ≤ y.fr) → Ch 0 d) := fun day week d hp hs => ch_of_sorted day week l d HAll.out HNo.out hp hs
      go_wp2_with fail
      go_loopw [3, 5, 6, 7, 8, 10, 32] (fun x _ _ _ _ _ i wr => ∃ (k : Nat), k ≤ 7 ∧ i = .int .i64 k ∧ x = .int .i64 (N + RS (fun i => RS (fun j => freeN l i j) 60) k) ∧ 0 ≤ RS (fun i => RS (fun j => freeN l i j) 60) k ∧ RS (fun i => RS (fun j => freeN l i j) 60) k ≤ 90000 * k ∧ Below w3.heap.size w3 wr) (fun _ _ _ _ _ _ i _ => 7 - (intOf i).toNat)
      case atStart => exact ⟨0, by omega, rfl, by simp [RS_zero], by simp [RS_zero], by simp [RS_zero], Below.refl _ _⟩
      case round =>
        obtain ⟨k, hk, rfl, rfl, hx1, hx2, hbe⟩ := hrel
        obtain ⟨X, hX⟩ : ∃ X, RS (fun i => RS (fun j => freeN l i j) 60) k = X := ⟨_, rfl⟩
        rw [hX] at hx1 hx2 ⊢
        have HX := hidp hX
        clear hX
        by_cases hlt : k < 7
        · have hk7 : decide ((k : Int) < 7) = true := decide_eq_true (by omega)
          go_wp2_with fail
          clear hk7
          obtain ⟨wo, hwo⟩ : ∃ wo : World, wo = wr := ⟨_, rfl⟩
          subst hwo
          go_loopw [3, 6, 7, 8, 10, 35] (fun x _ _ _ _ i wr => ∃ (j : Nat), j ≤ 60 ∧ i = .int .i64 j ∧ x = .int .i64 (N + X + RS (fun j => freeN l k j) j) ∧ 0 ≤ RS (fun j => freeN l k j) j ∧ RS (fun j => freeN l k j) j ≤ 1441 * j ∧ Below w3.heap.size w3 wr) (fun _ _ _ _ _ i _ => 60 - (intOf i).toNat)
          case atStart => exact ⟨0, by omega, rfl, by simp [RS_zero], by simp [RS_zero], by simp [RS_zero], hbe⟩
          case round =>
            obtain ⟨j, hj, rfl, rfl, hy1, hy2, hbe2⟩ := hrel
            obtain ⟨Y, hY⟩ : ∃ Y, RS (fun j => freeN l k j) j = Y := ⟨_, rfl⟩
            rw [hY] at hy1 hy2 ⊢
            have HY := hidp hY
            clear hY
            by_cases hlt2 : j < 60
            · have hj60 : decide ((j : Int) < 60) = true := decide_eq_true (by omega)
              go_wp2_with fail
              clear hj60
              refine (free_any _ _ _ _ k j _ (ra3.keep mStable hbe2.size hbe2.block)).mono ?_
              rintro e w4 ⟨hb4, h⟩
              have hbe4 := hbe2.trans (hb4.mono hbe2.size)
              rcases h with ⟨h, _⟩ | ⟨_, h, _⟩ | ⟨_, _, d, v, hperm, hpair, rfl, hown⟩
              · rw [HC.out] at h; cases h
              · simp [badDay] at h; omega
              · have hch := HCh.out k j d hperm hpair
                have hfb := free_bd l k j d hperm hch
                have hsum := sumSp_free k j l d hperm hch
                have hasc := gs_asc d 0 (-1) hch (by omega) (by omega)
                rw [← gapsOf_eq] at hasc
                obtain ⟨F, hF⟩ : ∃ F, freeN l k j = F := ⟨_, rfl⟩
                rw [hF] at hfb hsum
                obtain ⟨G, hG⟩ : ∃ G, gapsOf d = G := ⟨_, rfl⟩
                rw [hG] at hown hsum hasc
                obtain ⟨A4, c4, rfl, rg⟩ := own_rows sEnc_len (by decide) hown
                have hgc := rg.2.1
                have hgc' := rg.2.2.1
                have HF := hidp hF
                have HSum := hidp hsum
                have HAsc := hidp hasc
                obtain ⟨K, hK⟩ : ∃ K, G.length = K := ⟨_, rfl⟩
                rw [hK] at rg hgc ⊢
                have HK := hidp hK
                clear hown hperm hpair hch hsum hasc hF hG hK
                go_wp2_with fail
                go_loopw [3, 10, 49] (fun x _ i wr => ∃ (q : Nat), q ≤ K ∧ i = .int .i64 q ∧ x = .int .i64 (N + X + Y + sumSp (G.take q)) ∧ Below w4.heap.size w4 wr) (fun _ _ i _ => K - (intOf i).toNat)
                case atStart => exact ⟨0, by omega, rfl, by simp [sumSp], Below.refl _ _⟩
                case round =>
                  obtain ⟨q, hq, rfl, rfl, hbe5⟩ := hrel
                  have hz := asc_sum G (-1) q HAsc.out (by omega) (by omega)
                  obtain ⟨Z, hZ⟩ : ∃ Z, sumSp (G.take q) = Z := ⟨_, rfl⟩
                  rw [hZ] at hz ⊢
                  have HZ := hidp hZ
                  clear hZ
                  obtain ⟨hz1, hz2⟩ := hz
                  by_cases hlt3 : q < K
                  · obtain ⟨b, off, s, rfl, hb, hzk, d0, d1⟩ := SSl.get (rg.below sStable hbe5) hlt3
                    have hbb := lt_of_cell d0
                    have hz' := asc_sum G (-1) (q + 1) HAsc.out (by omega) (by omega)
                    have hsn := sumSp_snoc hzk
                    rw [hsn, HZ.out] at hz'
                    have HSn := hidp hsn
                    have hin : ∀ (G : List (Int × Int)) (f : Int) (q : Nat) (s : Int × Int), Asc f G → G[q]? = some s → f < s.1 ∧ s.1 < s.2 ∧ s.2 ≤ 1440 := by
                      intro G
                      induction G with
                      | nil => intro f q s _ h; simp at h
                      | cons y G ih =>
                        intro f q s ⟨a, b, c, d⟩ h
                        cases q with
                        | zero => simp at h; subst h; exact ⟨a, b, c⟩
                        | succ q => have := ih y.2 q s d (by simpa using h); omega
                    obtain ⟨g1, g2, g3⟩ := hin G (-1) q s HAsc.out hzk
                    obtain ⟨s1, s2⟩ := s
                    dsimp only at d0 d1 hz' g1 g2 g3
                    have hbA : Below w4.heap.size w4 (wr.alloc (.cells (sEnc (s1, s2)).toArray 42)) := hbe5.alloc hbe5.size _
                    have hnew := World.alloc_heap_new wr (.cells (sEnc (s1, s2)).toArray 42)
                    have e0 := cell_of_heap (o := 0) hnew
                    have e1 := cell_of_heap (o := 1) hnew
                    simp only [sEnc, List.getElem?_toArray, List.getElem?_cons_zero, List.getElem?_cons_succ] at e0 e1
                    clear hzk hnew hsn hin
                    go_wp2_with fail
                    go_roundw
                    case rel => exact ⟨q + 1, by omega, by go_num, by rw [HSn.out, HZ.out]; go_num, hbA⟩
                    case measure => simp [intOf]; omega
                  · obtain rfl : K = q := by omega
                    have hZ2 : Z = F := by rw [← HZ.out, List.take_of_length_le (by rw [HK.out]; exact Nat.le_refl _), HSum.out]
                    subst hZ2
                    go_wp2_with fail
                    go_roundw
                    case rel => exact ⟨j + 1, by omega, by go_num, by rw [RS_succ, HY.out, HF.out]; go_num, by rw [RS_succ, HY.out, HF.out]; omega, by rw [RS_succ, HY.out, HF.out]; omega, hbe4.trans (hbe5.mono hbe4.size)⟩
                    case measure => simp [intOf]; omega
            · obtain rfl : j = 60 := by omega
              go_wp2_with fail
              go_roundw
              case rel => exact ⟨k + 1, by omega, by go_num, by rw [RS_succ, HX.out, HY.out]; go_num, by rw [RS_succ, HX.out, HY.out]; omega, by rw [RS_succ, HX.out, HY.out]; omega, hbe2⟩
              case measure => simp [intOf]; omega
        · obtain rfl : k = 7 := by omega
          have hT := HTot.out
          rw [HX.out] at hT
          go_wp2_with fail
          go_ret
          exact ⟨ret_bool (by simp [hT]), hB3.trans (hbe.mono hB3.size)⟩
  · have HF := hidp (decide_eq_false hfew)
    rw [HF.out]
    go_wp2_with fail
    go_ret
    exact ⟨rfl, hB2⟩
end Go.Proofs.Ytefjigjjanjlkaa
