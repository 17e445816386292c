/- rules.Fits (printed by tools/gen72.py). -/
import Derived.Test.YtbmbpannhncpjaaDoorU3
namespace Go.Proofs.YtbmbpannhncpjaaDoor
open Go.RowKit Go.Sort

theorem fits_step {last : Int} {l : List Sn} {k : Nat} {x : Sn} (h : l[k]? = some x) : fitsL last (l.drop k) = (withinB x.course (last + 1) 4095 && withinB x.tries 0 100 && withinB x.best (-1) 12 && (decide (0 ≤ x.best) == decide (1 ≤ x.tries)) && fitsL x.course (l.drop (k + 1))) := by
  rw [drop_cons h, fitsL]
set_option maxRecDepth 100000 in
set_option maxHeartbeats 4000000 in
theorem uFits_any (s : Si) (w : World) (hs : SiIn w w.heap.size s) : Calls Tryd.prog 21 #[.agg #[.slice s.sA s.sn s.sc, .int .i64 s.earned, .int .i64 s.num, .int .i64 s.den]] w fun e w' => e = .returned (.int .i64 (okOr (fitsB s) 120)) ∧ Below w.heap.size w w' := by
  have HN := hidp hs.1
  have hcap := hs.2.2.1
  have hlen := hs.2.1
  obtain ⟨W0, hW0⟩ : ∃ W0, w.alloc (.cells #[.slice s.sA s.sn s.sc, .int .i64 s.earned, .int .i64 s.num, .int .i64 s.den] 29) = W0 := ⟨_, rfl⟩
  have hBW : Below w.heap.size w W0 := hW0 ▸ (Below.refl _ w).alloc (Nat.le_refl _) _
  have g1 : W0.heap[w.heap.size]? = some (.cells #[.slice s.sA s.sn s.sc, .int .i64 s.earned, .int .i64 s.num, .int .i64 s.den] 29 (0, 0)) := hW0 ▸ World.alloc_heap_new _ _
  have HW0 := hidp hW0
  have l1 := lt_of_heap g1
  have G1 := hidp g1
  have x0 := cell_of_heap (o := 0) g1
  simp only [List.getElem?_toArray, List.getElem?_cons_zero] at x0
  clear hW0 g1
  go_enter Tryd.func21, Tryd.ntmps21
  go_wp2_with fail
  rw [HW0.out]
  go_wp2_with fail
  clear x0
  go_loopw [3, 9] (fun la i wr => ∃ (k : Nat) (last : Int), k ≤ s.sn ∧ la = .int .i64 last ∧ i = .int .i64 k ∧ -1 ≤ last ∧ last ≤ 4095 ∧ fitsL (-1) s.seen = fitsL last (s.seen.drop k) ∧ Below W0.heap.size W0 wr) (fun _ i _ => s.sn - (intOf i).toNat)
  case atStart => exact ⟨0, -1, by omega, rfl, rfl, by omega, by omega, rfl, Below.refl _ _⟩
  case round =>
    obtain ⟨k, last, hk, rfl, rfl, hl1, hl2, hno, hbe⟩ := hrel
    have HA := hidp hno
    have hbw := hBW.trans (hbe.mono hBW.size)
    clear hno
    by_cases hlt : k < s.sn
    · have hsk : SiIn wr w.heap.size s := hs.below hbw
      obtain ⟨b, off, y, he, hb, hzk, c0, c1, c2, c3⟩ := snSl.get hsk hlt
      have HY := hidp (fits_step (last := last) hzk)
      have lb := lt_of_cell c0
      rw [he]
      have HE := hidp he
      clear hzk hsk he
      obtain ⟨q1, h1⟩ : ∃ q, withinB y.course (last + 1) 4095 = q := ⟨_, rfl⟩
      obtain ⟨q2, h2⟩ : ∃ q, withinB y.tries 0 100 = q := ⟨_, rfl⟩
      obtain ⟨q3, h3⟩ : ∃ q, withinB y.best (-1) 12 = q := ⟨_, rfl⟩
      have H1 := hidp h1
      have H2 := hidp h2
      have H3 := hidp h3
      clear h1 h2 h3
      cases q1
      · skip
        have HR : Hid (fitsB s = false) := by show _ = _; simp [fitsB, HA.out, HY.out, H1.out]
        go_wp2_with (go_at_call 35; refine (uwithin_any _ _ _ _).mono ?_; rintro e w1 ⟨rfl, rfl⟩; first | rw [H1.out] | rw [H2.out] | rw [H3.out])
        go_ret
        exact ⟨ret_int (by rw [HR.out]; rfl), hbw.alloc hbw.size _⟩
      · skip
        cases q2
        · skip
          have HR : Hid (fitsB s = false) := by show _ = _; simp [fitsB, HA.out, HY.out, H1.out, H2.out]
          go_wp2_with (go_at_call 35; refine (uwithin_any _ _ _ _).mono ?_; rintro e w1 ⟨rfl, rfl⟩; first | rw [H1.out] | rw [H2.out] | rw [H3.out])
          go_ret
          exact ⟨ret_int (by rw [HR.out]; rfl), hbw.alloc hbw.size _⟩
        · skip
          cases q3
          · skip
            have HR : Hid (fitsB s = false) := by show _ = _; simp [fitsB, HA.out, HY.out, H1.out, H2.out, H3.out]
            go_wp2_with (go_at_call 35; refine (uwithin_any _ _ _ _).mono ?_; rintro e w1 ⟨rfl, rfl⟩; first | rw [H1.out] | rw [H2.out] | rw [H3.out])
            go_ret
            exact ⟨ret_int (by rw [HR.out]; rfl), hbw.alloc hbw.size _⟩
          · skip
            have hc : last + 1 ≤ y.course ∧ y.course ≤ 4095 := by have := H1.out; simpa [withinB] using this
            obtain ⟨hc1, hc2⟩ := hc
            rcases Int.lt_or_le y.best 0 with hb0 | hb0 <;> rcases Int.lt_or_le y.tries 1 with ht0 | ht0
            · have hd1 : decide (0 ≤ y.best) = false := by simp; omega
              have hd2 : decide (1 ≤ y.tries) = false := by simp; omega
              have HR : Hid (fitsL (-1) s.seen = fitsL y.course (s.seen.drop (k + 1))) := by show _ = _; simp [HA.out, HY.out, H1.out, H2.out, H3.out, hd1, hd2]
              clear hb0 ht0
              go_wp2_with (go_at_call 35; refine (uwithin_any _ _ _ _).mono ?_; rintro e w1 ⟨rfl, rfl⟩; first | rw [H1.out] | rw [H2.out] | rw [H3.out])
              go_roundw
              case rel => exact ⟨k + 1, y.course, by omega, rfl, by go_num, by omega, by omega, HR.out, hbe.alloc hbe.size _⟩
              case measure => simp [intOf]; omega
            · have hd1 : decide (0 ≤ y.best) = false := by simp; omega
              have hd2 : decide (1 ≤ y.tries) = true := by simp; omega
              have HR : Hid (fitsB s = false) := by show _ = _; simp [fitsB, HA.out, HY.out, H1.out, H2.out, H3.out, hd1, hd2]
              clear hb0 ht0
              go_wp2_with (go_at_call 35; refine (uwithin_any _ _ _ _).mono ?_; rintro e w1 ⟨rfl, rfl⟩; first | rw [H1.out] | rw [H2.out] | rw [H3.out])
              go_ret
              exact ⟨ret_int (by rw [HR.out]; rfl), hbw.alloc hbw.size _⟩
            · have hd1 : decide (0 ≤ y.best) = true := by simp; omega
              have hd2 : decide (1 ≤ y.tries) = false := by simp; omega
              have HR : Hid (fitsB s = false) := by show _ = _; simp [fitsB, HA.out, HY.out, H1.out, H2.out, H3.out, hd1, hd2]
              clear hb0 ht0
              go_wp2_with (go_at_call 35; refine (uwithin_any _ _ _ _).mono ?_; rintro e w1 ⟨rfl, rfl⟩; first | rw [H1.out] | rw [H2.out] | rw [H3.out])
              go_ret
              exact ⟨ret_int (by rw [HR.out]; rfl), hbw.alloc hbw.size _⟩
            · have hd1 : decide (0 ≤ y.best) = true := by simp; omega
              have hd2 : decide (1 ≤ y.tries) = true := by simp; omega
              have HR : Hid (fitsL (-1) s.seen = fitsL y.course (s.seen.drop (k + 1))) := by show _ = _; simp [HA.out, HY.out, H1.out, H2.out, H3.out, hd1, hd2]
              clear hb0 ht0
              go_wp2_with (go_at_call 35; refine (uwithin_any _ _ _ _).mono ?_; rintro e w1 ⟨rfl, rfl⟩; first | rw [H1.out] | rw [H2.out] | rw [H3.out])
              go_roundw
              case rel => exact ⟨k + 1, y.course, by omega, rfl, by go_num, by omega, by omega, HR.out, hbe.alloc hbe.size _⟩
              case measure => simp [intOf]; omega
    · obtain rfl : k = s.sn := by omega
      have HT : Hid (fitsL (-1) s.seen = true) := by show _ = _; rw [HA.out, List.drop_of_length_le (by rw [← HN.out]; omega)]; rfl
      have e1 := (hbe.block _ l1).trans G1.out
      have x1 := cell_of_heap (o := 1) e1
      have x2 := cell_of_heap (o := 2) e1
      have x3 := cell_of_heap (o := 3) e1
      simp only [List.getElem?_toArray, List.getElem?_cons_zero, List.getElem?_cons_succ] at x1 x2 x3
      have lr := lt_of_heap e1
      clear e1
      obtain ⟨q1, h1⟩ : ∃ q, withinB s.earned 0 10000 = q := ⟨_, rfl⟩
      obtain ⟨q2, h2⟩ : ∃ q, meanB s.num s.den = q := ⟨_, rfl⟩
      have H1 := hidp h1
      have H2 := hidp h2
      clear h1 h2
      cases q1
      · have HR : Hid (fitsB s = false) := by show _ = _; simp [fitsB, H1.out]
        go_wp2_with (go_at_call 35; refine (uwithin_any _ _ _ _).mono ?_; rintro e w1 ⟨rfl, rfl⟩; rw [H1.out])
        go_ret
        exact ⟨ret_int (by rw [HR.out]; rfl), hbw⟩
      · cases q2
        · have HR : Hid (fitsB s = false) := by show _ = _; simp [fitsB, H2.out]
          go_wp2_with (first | (go_at_call 35; refine (uwithin_any _ _ _ _).mono ?_; rintro e w1 ⟨rfl, rfl⟩; rw [H1.out]) | (go_at_call 46; refine (umean_any _ _ _).mono ?_; rintro e w1 ⟨rfl, hb1⟩; rw [H2.out]))
          go_ret
          exact ⟨ret_int (by rw [HR.out]; rfl), hbw.trans (hb1.mono hbw.size)⟩
        · have HR : Hid (fitsB s = true) := by show _ = _; simp [fitsB, H1.out, H2.out, HT.out]
          go_wp2_with (first | (go_at_call 35; refine (uwithin_any _ _ _ _).mono ?_; rintro e w1 ⟨rfl, rfl⟩; rw [H1.out]) | (go_at_call 46; refine (umean_any _ _ _).mono ?_; rintro e w1 ⟨rfl, hb1⟩; rw [H2.out]))
          go_ret
          exact ⟨ret_int (by rw [HR.out]; rfl), hbw.trans (hb1.mono hbw.size)⟩
end Go.Proofs.YtbmbpannhncpjaaDoor
