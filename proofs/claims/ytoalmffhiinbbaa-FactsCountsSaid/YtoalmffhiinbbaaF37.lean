/- FactsPoints: the plain law, and walked. Printed by tools/gen37.py. -/
import Derived.Test.YtoalmffhiinbbaaF32
import Derived.Laws.BitsLemmas
namespace Go.Proofs.Ytoalmffhiinbbaa
open Go.RowKit Go.Shelf

theorem i64_and31 (n : Int) : bits .and .i64 n 31 = n % 32 := by
  have h31 : (BitVec.ofInt 64 31).toNat = 2 ^ 5 - 1 := by decide
  have key : (BitVec.ofInt 64 n &&& BitVec.ofInt 64 31).toNat = (n % ((2 ^ 64 : Nat) : Int)).toNat % 2 ^ 5 := by
    rw [BitVec.toNat_and, BitVec.toNat_ofInt, h31, Nat.and_two_pow_sub_one_eq_mod]
  show IntKind.i64.wrap ((BitVec.ofInt 64 n &&& BitVec.ofInt 64 31).toNat : Nat) = n % 32
  rw [key, IntKind.wrap_i64]
  omega
/-- '(s & 31) % n' is an index. -/
theorem and_rem (s : Int) {n : Nat} (h : 0 < n) : ∃ i : Nat, i < n ∧ (bits .and .i64 s 31).tmod n = (i : Int) := by
  rw [i64_and31]
  have h0 : 0 ≤ s % 32 := Int.emod_nonneg _ (by decide)
  rw [Int.tmod_eq_emod_of_nonneg h0]
  have h1 : 0 ≤ s % 32 % n := Int.emod_nonneg _ (by omega)
  have h2 : s % 32 % n < n := Int.emod_lt_of_pos _ (by omega)
  exact ⟨(s % 32 % n).toNat, by omega, by omega⟩

/-- The points of the terms before z. -/
def pz (l : List Fc) (k : Ky) (fr to known : Int) (z : Nat) : List (Int × Int) := pointsTo l k (max 0 fr) (min (min to 1024) z) known
section
variable {l : List Fc} {k : Ky} {fr to known : Int} {z : Nat}
theorem pz_zero : pz l k fr to known 0 = [] := by
  unfold pz
  exact pointsTo_start _ _ _ _ _ (by omega)
theorem pz_end : pz l k fr to known 1024 = pointsF l k fr to known := by
  unfold pz pointsF
  congr 1
  omega
theorem pz_above (h : to ≤ (z : Int)) : pz l k fr to known (z + 1 : Nat) = pz l k fr to known z := by
  unfold pz
  congr 1
  omega
theorem pz_below (h : (z : Int) < fr) : pz l k fr to known (z + 1 : Nat) = pz l k fr to known z := by
  unfold pz
  rw [pointsTo_start _ _ _ _ _ (by omega), pointsTo_start _ _ _ _ _ (by omega)]
theorem pz_in (hz : (z : Int) < 1024) (h1 : fr ≤ z) (h2 : (z : Int) < to) : pz l k fr to known (z + 1 : Nat) = pz l k fr to known z ++ ptAt l k z known := by
  unfold pz
  rw [show min (min to 1024) (((z + 1 : Nat) : Int)) = (z : Int) + 1 by omega, show min (min to 1024) (z : Int) = (z : Int) by omega]
  exact pointsTo_step _ _ _ _ _ (by omega)
theorem pz_none (h : atF l k z known = none) (hz : (z : Int) < 1024) : pz l k fr to known (z + 1 : Nat) = pz l k fr to known z := by
  by_cases h1 : (z : Int) < fr
  · exact pz_below h1
  · by_cases h2 : to ≤ (z : Int)
    · exact pz_above h2
    · rw [pz_in hz (by omega) (by omega), ptAt_no h, List.append_nil]
theorem pz_some {v : Int} (h : atF l k z known = some v) (hz : (z : Int) < 1024) (h1 : fr ≤ z) (h2 : (z : Int) < to) : pz l k fr to known (z + 1 : Nat) = pz l k fr to known z ++ [((z : Int), v)] := by
  rw [pz_in hz h1 h2, ptAt_yes h]
theorem pz_step_prefix (l : List Fc) (k : Ky) (fr to known : Int) (z : Nat) : pz l k fr to known z <+: pz l k fr to known (z + 1 : Nat) := by
  by_cases h1 : (z : Int) < fr
  · rw [pz_below h1]; exact List.prefix_refl _
  · by_cases h2 : to ≤ (z : Int)
    · rw [pz_above h2]; exact List.prefix_refl _
    · by_cases h3 : (z : Int) < 1024
      · rw [pz_in h3 (by omega) (by omega)]; exact List.prefix_append _ _
      · have : pz l k fr to known (z + 1 : Nat) = pz l k fr to known z := by unfold pz; congr 1; omega
        rw [this]; exact List.prefix_refl _
end
theorem pz_prefix (l : List Fc) (k : Ky) (fr to known : Int) {z : Nat} (hz : z ≤ 1024) : pz l k fr to known z <+: pointsF l k fr to known := by
  rw [← pz_end]
  obtain ⟨d, hd⟩ : ∃ d, z + d = 1024 := ⟨1024 - z, by omega⟩
  rw [← hd]
  clear hd hz
  induction d with
  | zero => exact List.prefix_refl _
  | succ d ih => exact ih.trans (pz_step_prefix l k fr to known (z + d))
theorem pointsF_len (l : List Fc) (k : Ky) (fr to known : Int) : (pointsF l k fr to known).length ≤ 1024 := by
  have := pointsTo_len l k (max 0 fr) (min to 1024) known
  unfold pointsF
  omega

set_option maxRecDepth 100000 in
set_option maxHeartbeats 4000000 in
theorem lPoints_any (A : Option Addr) (n c : Nat) (l : List Fc) (k : Ky) (fr to known : Int) (w : World) (hl : fSl w w.heap.size A n c l) :
    Calls Try.prog 10 #[.slice A n c, .agg (kEnc k).toArray, .int .i64 fr, .int .i64 to, .int .i64 known] w fun e w' => e = .returned (.bool true) ∧ Below w.heap.size w w' := by
  show Calls Try.prog 10 #[.slice A n c, .agg #[.int .i64 k.kind, .int .i64 k.subj, .int .i64 k.obj], .int .i64 fr, .int .i64 to, .int .i64 known] w _
  obtain ⟨W, hW⟩ : ∃ W, w.alloc (.cells #[.int .i64 k.kind, .int .i64 k.subj, .int .i64 k.obj] 24) = W := ⟨_, rfl⟩
  have hBW : Below w.heap.size w W := hW ▸ (Below.refl _ w).alloc (Nat.le_refl _) _
  have hbox : W.heap[w.heap.size]? = some (.cells #[.int .i64 k.kind, .int .i64 k.subj, .int .i64 k.obj] 24 (0, 0)) := hW ▸ World.alloc_heap_new _ _
  have HL : Hid (∀ W', Below w.heap.size W W' → fSl W' W'.heap.size A n c l) := fun W' h => by
    have h1 := hBW.trans h
    exact hl.keep fStable h1.size h1.block
  have HL0 : Hid (∀ W', Below w.heap.size W W' → fSl W' w.heap.size A n c l) := fun W' h => hl.keep fStable (Nat.le_refl _) (hBW.trans h).block
  have HW := hidp hW
  have HBW := hidp hBW
  have HBox := hidp hbox
  have hlen := hl.2.1
  have hcap := hl.2.2.1
  clear hW hBW hbox hl
  go_enter Try.func10, Try.ntmps10
  go_wp2_with fail
  rw [HW.out]
  refine (sane07_any W).mono ?_
  rintro e w1 ⟨rfl, hb1⟩
  go_wp2_with fail
  refine (rFew_any A n c w1).mono ?_
  rintro e w2 ⟨rfl, rfl⟩
  by_cases hn : n ≤ 30
  · have hd : decide (n ≤ 30) = true := by simpa using hn
    rw [hd]
    have hb := (hb1.block _ (lt_of_heap HBox.out)).trans HBox.out
    have c0 := cell_of_heap (o := 0) hb
    have c1 := cell_of_heap (o := 1) hb
    have c2 := cell_of_heap (o := 2) hb
    have f0 := frozen_of_heap (o := 0) hb
    have f1 := frozen_of_heap (o := 1) hb
    have f2 := frozen_of_heap (o := 2) hb
    simp only [List.getElem?_toArray, List.getElem?_cons_zero, List.getElem?_cons_succ] at c0 c1 c2
    have hzz := lt_of_heap hb
    have hB1 : Below w.heap.size W w1 := hb1.mono HBW.out.size
    have HHB := hidp hb
    clear hb
    rcases Nat.eq_zero_or_pos n with h0 | h0
    · subst h0
      have hB2 := hB1
      have hk2 := HHB.out
      obtain ⟨d0, d1, d2⟩ : True ∧ True ∧ True := ⟨trivial, trivial, trivial⟩
      have hw2z : w.heap.size ≤ w1.heap.size := Nat.le_of_lt hzz
      go_wp2_with fail
      clear c0 c1 c2 f0 f1 f2 hzz HHB hb1 hB1
      refine (fPoints_any _ _ _ l k fr to known _ (HL.out _ hB2)).mono ?_
      rintro e wq ⟨Ap, np, cp, rfl, rp, hbq⟩
      have hBq := hB2.trans (hbq.mono hw2z)
      have hbox := (hbq.block _ (lt_of_heap hk2)).trans hk2
      have HBX := hidp hbox
      have HBQ := hidp hBq
      have HRP := hidp rp
      have hcp := rp.2.2.1
      have hnp := rp.2.1
      have hnpl : np ≤ 1024 := by rw [rp.1]; exact pointsF_len _ _ _ _ _
      have hwqz : w.heap.size < wq.heap.size := lt_of_heap hbox
      clear hbox rp hB2 hk2 hbq hBq d0 d1 d2 hw2z
      go_wp2_with fail
      go_loopw [12, 13] (fun cn t wr => ∃ z : Nat, z ≤ 1024 ∧ t = .int .i64 z ∧ cn = .int .i64 ((pz l k fr to known z).length : Nat) ∧ Below wq.heap.size wq wr) (fun _ t _ => 1024 - (intOf t).toNat)
      case atStart => exact ⟨0, by omega, rfl, by rw [pz_zero]; rfl, Below.refl _ _⟩
      case round =>
        obtain ⟨z, hz, rfl, rfl, hbe⟩ := hrel
        obtain ⟨mz, hmz⟩ : ∃ m, (pz l k fr to known z).length = m := ⟨_, rfl⟩
        rw [hmz]
        have hle : mz ≤ np := by rw [← hmz, HRP.out.1]; exact (pz_prefix l k fr to known hz).length_le
        have HMZ := hidp hmz
        clear hmz
        by_cases hlt : z < 1024
        · have hzl : (z : Int) < 1024 := by omega
          have hbx := (hbe.block _ hwqz).trans HBX.out
          have c0 := cell_of_heap (o := 0) hbx
          have c1 := cell_of_heap (o := 1) hbx
          have c2 := cell_of_heap (o := 2) hbx
          simp only [List.getElem?_toArray, List.getElem?_cons_zero, List.getElem?_cons_succ] at c0 c1 c2
          have hwrz := lt_of_heap hbx
          clear hbx
          go_wp2_with fail
          refine (fAt_any _ _ _ l k z known _ (HL.out _ (HBQ.out.trans (hbe.mono (Nat.le_of_lt hwqz))))).mono ?_
          rintro e w5 ⟨rfl, hb5⟩
          have hB5 := hbe.trans (hb5.mono hbe.size)
          clear c0 c1 c2 hbe hb5 hwrz
          obtain ⟨ov, hov⟩ : ∃ o, atF l k z known = o := ⟨_, rfl⟩
          rw [hov]
          have HOV := hidp hov
          clear hov
          cases ov with
          | none =>
            have HS : Hid (pz l k fr to known (z + 1 : Nat) = pz l k fr to known z) := pz_none HOV.out hzl
            go_wp2_with fail
            go_roundw
            case rel => exact ⟨z + 1, by omega, by go_num, by rw [HS.out, HMZ.out], hB5⟩
            case measure => simp [intOf]; omega
          | some v =>
            by_cases hf : (z : Int) < fr
            · have HS : Hid (pz l k fr to known (z + 1 : Nat) = pz l k fr to known z) := pz_below hf
              have hd1 : decide ((z : Int) < fr) = true := by simpa using hf
              go_wp2_with fail
              go_roundw
              case rel => exact ⟨z + 1, by omega, by go_num, by rw [HS.out, HMZ.out], hB5⟩
              case measure => simp [intOf]; omega
            have hd1 : decide ((z : Int) < fr) = false := by simpa using hf
            by_cases ht : to ≤ (z : Int)
            · have HS : Hid (pz l k fr to known (z + 1 : Nat) = pz l k fr to known z) := pz_above ht
              have hd2 : decide (to ≤ (z : Int)) = true := by simpa using ht
              go_wp2_with fail
              go_roundw
              case rel => exact ⟨z + 1, by omega, by go_num, by rw [HS.out, HMZ.out], hB5⟩
              case measure => simp [intOf]; omega
            have hd2 : decide (to ≤ (z : Int)) = false := by simpa using ht
            have HS : Hid (pz l k fr to known (z + 1 : Nat) = pz l k fr to known z ++ [((z : Int), v)]) := pz_some HOV.out hzl (by omega) (by omega)
            have hpre := pz_prefix l k fr to known (z := z + 1) (by omega)
            have hat : (pointsF l k fr to known)[mz]? = some ((z : Int), v) := by
              rw [HS.out] at hpre
              obtain ⟨rest, hrest⟩ := hpre
              rw [← hrest, List.append_assoc, List.getElem?_append_right (by rw [HMZ.out]; exact Nat.le_refl _), HMZ.out, Nat.sub_self]
              rfl
            have hmn : mz < np := by rw [HRP.out.1]; exact (List.getElem?_eq_some_iff.1 hat).1
            obtain ⟨bp, op, y, rfl, hbp, hy, p0, p1⟩ := pSl.get (HRP.out.keep pStable hB5.size hB5.block) hmn
            rw [hat] at hy
            cases hy
            have hmn' : (mz : Int) < np := by omega
            have hmn2 : decide (np ≤ mz) = false := by simp; omega
            have hbpl := lt_of_cell p0
            clear hpre hat hf ht
            simp only at p0 p1
            have e1 : ((z : Int) != z) = false := by simp
            have e2 : (v != v) = false := by simp
            go_wp2_with fail
            go_roundw
            case rel => exact ⟨z + 1, by omega, by go_num, by rw [HS.out, List.length_append, HMZ.out]; go_num, hB5⟩
            case measure => simp [intOf]; omega
        · obtain rfl : z = 1024 := by omega
          have hmn : mz = np := by rw [← HMZ.out, HRP.out.1, ← pz_end]
          have HE := hidp hmn
          subst hmn
          have e1 : ((mz : Int) == mz) = true := by simp
          go_wp2_with fail
          go_ret
          exact ⟨by first | rfl | simp, HBW.out.trans (HBQ.out.trans (hbe.mono (Nat.le_of_lt hwqz)))⟩
    · have hpd : decide (0 < n) = true := by simpa using h0
      obtain ⟨i, hi, hidx⟩ := and_rem k.subj h0
      obtain ⟨bl, ol, x, rfl, hbl, hx, g0, g1, g2, -⟩ := fSl.get (HL0.out w1 hB1) hi
      have hi' : (i : Int) < n := by omega
      have hbl' := lt_of_cell g0
      have hb2 : ((w1.setCell ⟨w.heap.size, 0, none⟩ (.int .i64 x.key.kind)).setCell ⟨w.heap.size, 1, none⟩ (.int .i64 x.key.subj)).setCell ⟨w.heap.size, 2, none⟩ (.int .i64 x.key.obj) = ((w1.setCell ⟨w.heap.size, 0, none⟩ (.int .i64 x.key.kind)).setCell ⟨w.heap.size, 1, none⟩ (.int .i64 x.key.subj)).setCell ⟨w.heap.size, 2, none⟩ (.int .i64 x.key.obj) := rfl
      obtain ⟨w2, hw2⟩ : ∃ w2, ((w1.setCell ⟨w.heap.size, 0, none⟩ (.int .i64 x.key.kind)).setCell ⟨w.heap.size, 1, none⟩ (.int .i64 x.key.subj)).setCell ⟨w.heap.size, 2, none⟩ (.int .i64 x.key.obj) = w2 := ⟨_, rfl⟩
      clear hb2
      have hB2 : Below w.heap.size W w2 := hw2 ▸ below_setCell (below_setCell (below_setCell hB1 (Nat.le_refl _) _) (Nat.le_refl _) _) (Nat.le_refl _) _
      have hk2 : w2.heap[w.heap.size]? = some (.cells #[.int .i64 x.key.kind, .int .i64 x.key.subj, .int .i64 x.key.obj] 24 (0, 0)) := by
        rw [← hw2]
        have := heap_set (heap_set (heap_set HHB.out 0 (.int .i64 x.key.kind)) 1 (.int .i64 x.key.subj)) 2 (.int .i64 x.key.obj)
        simpa using this
      have hw2z : w.heap.size ≤ w2.heap.size := Nat.le_of_lt (lt_of_heap hk2)
      have d0 := cell_of_heap (o := 0) hk2
      have d1 := cell_of_heap (o := 1) hk2
      have d2 := cell_of_heap (o := 2) hk2
      simp only [List.getElem?_toArray, List.getElem?_cons_zero, List.getElem?_cons_succ] at d0 d1 d2
      have HW2 := hidp hw2
      have HK2 := hidp hk2
      have HBB2 := hidp hB2
      have D0 := hidp d0
      have D1 := hidp d1
      have D2 := hidp d2
      have hne : bl ≠ w.heap.size := by omega
      clear hw2 hk2 hx hB2 d0 d1 d2 hw2z
      go_wp2_with fail
      rw [HW2.out]
      have hB2 := HBB2.out
      have hk2 := HK2.out
      have d0 := D0.out
      have d1 := D1.out
      have d2 := D2.out
      have hw2z : w.heap.size ≤ w2.heap.size := Nat.le_of_lt (lt_of_heap hk2)
      clear c0 c1 c2 f0 f1 f2 hzz HHB hb1 hB1 HW2 HBB2 HK2 D0 D1 D2 g0 g1 g2 hidx hi hi' hbl' hne hbl
      refine (fPoints_any _ _ _ l x.key fr to known _ (HL.out _ hB2)).mono ?_
      rintro e wq ⟨Ap, np, cp, rfl, rp, hbq⟩
      have hBq := hB2.trans (hbq.mono hw2z)
      have hbox := (hbq.block _ (lt_of_heap hk2)).trans hk2
      have HBX := hidp hbox
      have HBQ := hidp hBq
      have HRP := hidp rp
      have hcp := rp.2.2.1
      have hnp := rp.2.1
      have hnpl : np ≤ 1024 := by rw [rp.1]; exact pointsF_len _ _ _ _ _
      have hwqz : w.heap.size < wq.heap.size := lt_of_heap hbox
      clear hbox rp hB2 hk2 hbq hBq d0 d1 d2 hw2z
      go_wp2_with fail
      go_loopw [12, 13] (fun cn t wr => ∃ z : Nat, z ≤ 1024 ∧ t = .int .i64 z ∧ cn = .int .i64 ((pz l x.key fr to known z).length : Nat) ∧ Below wq.heap.size wq wr) (fun _ t _ => 1024 - (intOf t).toNat)
      case atStart => exact ⟨0, by omega, rfl, by rw [pz_zero]; rfl, Below.refl _ _⟩
      case round =>
        obtain ⟨z, hz, rfl, rfl, hbe⟩ := hrel
        obtain ⟨mz, hmz⟩ : ∃ m, (pz l x.key fr to known z).length = m := ⟨_, rfl⟩
        rw [hmz]
        have hle : mz ≤ np := by rw [← hmz, HRP.out.1]; exact (pz_prefix l x.key fr to known hz).length_le
        have HMZ := hidp hmz
        clear hmz
        by_cases hlt : z < 1024
        · have hzl : (z : Int) < 1024 := by omega
          have hbx := (hbe.block _ hwqz).trans HBX.out
          have c0 := cell_of_heap (o := 0) hbx
          have c1 := cell_of_heap (o := 1) hbx
          have c2 := cell_of_heap (o := 2) hbx
          simp only [List.getElem?_toArray, List.getElem?_cons_zero, List.getElem?_cons_succ] at c0 c1 c2
          have hwrz := lt_of_heap hbx
          clear hbx
          go_wp2_with fail
          refine (fAt_any _ _ _ l x.key z known _ (HL.out _ (HBQ.out.trans (hbe.mono (Nat.le_of_lt hwqz))))).mono ?_
          rintro e w5 ⟨rfl, hb5⟩
          have hB5 := hbe.trans (hb5.mono hbe.size)
          clear c0 c1 c2 hbe hb5 hwrz
          obtain ⟨ov, hov⟩ : ∃ o, atF l x.key z known = o := ⟨_, rfl⟩
          rw [hov]
          have HOV := hidp hov
          clear hov
          cases ov with
          | none =>
            have HS : Hid (pz l x.key fr to known (z + 1 : Nat) = pz l x.key fr to known z) := pz_none HOV.out hzl
            go_wp2_with fail
            go_roundw
            case rel => exact ⟨z + 1, by omega, by go_num, by rw [HS.out, HMZ.out], hB5⟩
            case measure => simp [intOf]; omega
          | some v =>
            by_cases hf : (z : Int) < fr
            · have HS : Hid (pz l x.key fr to known (z + 1 : Nat) = pz l x.key fr to known z) := pz_below hf
              have hd1 : decide ((z : Int) < fr) = true := by simpa using hf
              go_wp2_with fail
              go_roundw
              case rel => exact ⟨z + 1, by omega, by go_num, by rw [HS.out, HMZ.out], hB5⟩
              case measure => simp [intOf]; omega
            have hd1 : decide ((z : Int) < fr) = false := by simpa using hf
            by_cases ht : to ≤ (z : Int)
            · have HS : Hid (pz l x.key fr to known (z + 1 : Nat) = pz l x.key fr to known z) := pz_above ht
              have hd2 : decide (to ≤ (z : Int)) = true := by simpa using ht
              go_wp2_with fail
              go_roundw
              case rel => exact ⟨z + 1, by omega, by go_num, by rw [HS.out, HMZ.out], hB5⟩
              case measure => simp [intOf]; omega
            have hd2 : decide (to ≤ (z : Int)) = false := by simpa using ht
            have HS : Hid (pz l x.key fr to known (z + 1 : Nat) = pz l x.key fr to known z ++ [((z : Int), v)]) := pz_some HOV.out hzl (by omega) (by omega)
            have hpre := pz_prefix l x.key fr to known (z := z + 1) (by omega)
            have hat : (pointsF l x.key fr to known)[mz]? = some ((z : Int), v) := by
              rw [HS.out] at hpre
              obtain ⟨rest, hrest⟩ := hpre
              rw [← hrest, List.append_assoc, List.getElem?_append_right (by rw [HMZ.out]; exact Nat.le_refl _), HMZ.out, Nat.sub_self]
              rfl
            have hmn : mz < np := by rw [HRP.out.1]; exact (List.getElem?_eq_some_iff.1 hat).1
            obtain ⟨bp, op, y, rfl, hbp, hy, p0, p1⟩ := pSl.get (HRP.out.keep pStable hB5.size hB5.block) hmn
            rw [hat] at hy
            cases hy
            have hmn' : (mz : Int) < np := by omega
            have hmn2 : decide (np ≤ mz) = false := by simp; omega
            have hbpl := lt_of_cell p0
            clear hpre hat hf ht
            simp only at p0 p1
            have e1 : ((z : Int) != z) = false := by simp
            have e2 : (v != v) = false := by simp
            go_wp2_with fail
            go_roundw
            case rel => exact ⟨z + 1, by omega, by go_num, by rw [HS.out, List.length_append, HMZ.out]; go_num, hB5⟩
            case measure => simp [intOf]; omega
        · obtain rfl : z = 1024 := by omega
          have hmn : mz = np := by rw [← HMZ.out, HRP.out.1, ← pz_end]
          have HE := hidp hmn
          subst hmn
          have e1 : ((mz : Int) == mz) = true := by simp
          go_wp2_with fail
          go_ret
          exact ⟨by first | rfl | simp, HBW.out.trans (HBQ.out.trans (hbe.mono (Nat.le_of_lt hwqz)))⟩
  · have hd : decide (n ≤ 30) = false := by simpa using hn
    rw [hd]
    go_wp2_with fail
    go_ret
    exact ⟨rfl, HBW.out.trans (hb1.mono HBW.out.size)⟩
def PointsCalls : Prop := ∀ (A : Option Addr) (n c : Nat) (l : List Fc) (k : Ky) (fr to known : Int) (w : World), fSl w w.heap.size A n c l → Calls Try.prog 10 #[.slice A n c, .agg (kEnc k).toArray, .int .i64 fr, .int .i64 to, .int .i64 known] w fun e w' => e = .returned (.bool true) ∧ Below w.heap.size w w'
theorem points_calls : PointsCalls := lPoints_any
end Go.Proofs.Ytoalmffhiinbbaa
