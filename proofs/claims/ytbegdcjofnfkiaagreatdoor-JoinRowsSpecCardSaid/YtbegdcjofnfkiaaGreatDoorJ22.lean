/- The reference's Few; the law's shown. -/
import Derived.Test.YtbegdcjofnfkiaaGreatDoorJ21
import Derived.Test.YtbegdcjofnfkiaaGreatDoorJ17A
namespace Go.Proofs.YtbegdcjofnfkiaaGreatDoor
open Go.RowKit Go.Shelf Go.Sort

def fewJ (q : Qu) (l : List Fc) : Bool := decide (l.length ≤ 10) && decide (q.names.length ≤ 4) && decide (q.shows.length ≤ 8) && decide (q.atoms.length ≤ 6) && decide (q.tests.length ≤ 6) && decide ((domR l).length ^ q.names.length ≤ 4096)
theorem domR_len (l : List Fc) : (domR l).length ≤ 3 * l.length := by
  have := domW_len l []
  simpa [domR] using this
theorem pow_le30 {d k : Nat} (hd : d ≤ 30) (hk : k ≤ 4) : d ^ k ≤ 810000 := by
  have h1 : d ^ k ≤ 30 ^ k := Nat.pow_le_pow_left hd k
  have h2 : (30 : Nat) ^ k ≤ 30 ^ 4 := Nat.pow_le_pow_right (by omega) hk
  have h3 : (30 : Nat) ^ 4 = 810000 := by decide
  omega
set_option maxRecDepth 100000 in
set_option maxHeartbeats 4000000 in
theorem few_any (q : Qu) (FA : Option Addr) (fn fc : Nat) (l : List Fc) (w : World) (hq : QuIn q w w.heap.size) (hl : fSl w w.heap.size FA fn fc l) :
    Calls Tryz.prog 7 #[.agg #[.slice q.nA q.nn q.nc, .slice q.sA q.sn q.sc, .slice q.aA q.an q.ac, .slice q.tA q.tn q.tc], .slice FA fn fc] w fun e w' => e = .returned (.bool (fewJ q l)) ∧ Below w.heap.size w w' := by
  have HFa : Hid (∀ W, Below w.heap.size w W → fSl W W.heap.size FA fn fc l) := fun W h => hl.keep (Rep.flat_stable _) h.size h.block
  have HN := hidp hl.1
  have HLen : Hid (q.nn = q.names.length ∧ q.sn = q.shows.length ∧ q.an = q.atoms.length ∧ q.tn = q.tests.length) := ⟨hq.1.1, hq.2.1.1, hq.2.2.1.1, hq.2.2.2.1⟩
  obtain ⟨W0, hW0⟩ : ∃ W0, w.alloc (.cells #[.slice q.nA q.nn q.nc, .slice q.sA q.sn q.sc, .slice q.aA q.an q.ac, .slice q.tA q.tn q.tc] 27) = W0 := ⟨_, rfl⟩
  have hBW : Below w.heap.size w W0 := hW0 ▸ (Below.refl _ w).alloc (Nat.le_refl _) _
  have hb0 : QBox q w.heap.size W0 := ⟨hW0 ▸ World.alloc_heap_new _ _⟩
  have HBW := hidp hBW
  have HB0 := hidp hb0
  have HW0 := hidp hW0
  obtain ⟨x0, x1, x2, x3, l0⟩ := hb0.cells
  have hno : ∀ b : Bool, b = false → fewJ q l = b → Ending.returned (.bool b) = Ending.returned (.bool (fewJ q l)) := fun b _ h => by rw [h]
  have HNo := hidp hno
  clear hBW hb0 hq hl hno hW0
  go_enter Tryz.func7, Tryz.ntmps7
  by_cases h1 : 10 < fn
  · have HF : Hid (fewJ q l = false) := by
      have := HN.out
      show _ = _
      unfold fewJ
      rw [decide_eq_false (p := l.length ≤ 10) (by omega)]; rfl
    have i1 : (10 : Int) < fn := by omega
    go_wp2_with fail
    rw [HW0.out]
    go_wp2_with fail
    go_ret
    exact ⟨ret_bool HF.out.symm, HBW.out⟩
  have i1 : ¬ ((10 : Int) < fn) := by omega
  by_cases h2 : 4 < q.nn
  · have HF : Hid (fewJ q l = false) := by
      have := HLen.out.1
      show _ = _
      unfold fewJ
      rw [decide_eq_false (p := q.names.length ≤ 4) (by omega)]; simp
    have i2 : (4 : Int) < q.nn := by omega
    go_wp2_with fail
    rw [HW0.out]
    go_wp2_with fail
    go_ret
    exact ⟨ret_bool HF.out.symm, HBW.out⟩
  have i2 : ¬ ((4 : Int) < q.nn) := by omega
  by_cases h3 : 8 < q.sn
  · have HF : Hid (fewJ q l = false) := by
      have := HLen.out.2.1
      show _ = _
      unfold fewJ
      rw [decide_eq_false (p := q.shows.length ≤ 8) (by omega)]; simp
    have i3 : (8 : Int) < q.sn := by omega
    go_wp2_with fail
    rw [HW0.out]
    go_wp2_with fail
    go_ret
    exact ⟨ret_bool HF.out.symm, HBW.out⟩
  have i3 : ¬ ((8 : Int) < q.sn) := by omega
  by_cases h4 : 6 < q.an
  · have HF : Hid (fewJ q l = false) := by
      have := HLen.out.2.2.1
      show _ = _
      unfold fewJ
      rw [decide_eq_false (p := q.atoms.length ≤ 6) (by omega)]; simp
    have i4 : (6 : Int) < q.an := by omega
    go_wp2_with fail
    rw [HW0.out]
    go_wp2_with fail
    go_ret
    exact ⟨ret_bool HF.out.symm, HBW.out⟩
  have i4 : ¬ ((6 : Int) < q.an) := by omega
  by_cases h5 : 6 < q.tn
  · have HF : Hid (fewJ q l = false) := by
      have := HLen.out.2.2.2
      show _ = _
      unfold fewJ
      rw [decide_eq_false (p := q.tests.length ≤ 6) (by omega)]; simp
    have i5 : (6 : Int) < q.tn := by omega
    go_wp2_with fail
    rw [HW0.out]
    go_wp2_with fail
    go_ret
    exact ⟨ret_bool HF.out.symm, HBW.out⟩
  have i5 : ¬ ((6 : Int) < q.tn) := by omega
  have hD : (domR l).length ≤ 30 := by have := domR_len l; have := HN.out; omega
  obtain ⟨d, hd⟩ : ∃ d, (domR l).length = d := ⟨_, rfl⟩
  rw [hd] at hD
  have HD := hidp hd
  have HFew : Hid (fewJ q l = decide ((d : Int) ^ q.nn ≤ 4096)) := by
    show _ = _
    obtain ⟨e1, e2, e3, e4⟩ := HLen.out
    have e0 := HN.out
    unfold fewJ
    rw [decide_eq_true (p := l.length ≤ 10) (by omega), decide_eq_true (p := q.names.length ≤ 4) (by omega), decide_eq_true (p := q.shows.length ≤ 8) (by omega), decide_eq_true (p := q.atoms.length ≤ 6) (by omega), decide_eq_true (p := q.tests.length ≤ 6) (by omega), hd, ← e1]
    rw [Bool.eq_iff_iff]
    simp only [Bool.true_and, decide_eq_true_eq]
    rw [← Int.natCast_pow]
    omega
  clear hd
  go_wp2_with fail
  rw [HW0.out]
  clear x0 x1 x2 x3 l0
  go_wp2_with fail
  go_loopw [5, 6] (fun z i wr => ∃ k zz : Nat, k ≤ q.nn ∧ i = .int .i64 k ∧ z = .int .i64 zz ∧ zz = d ^ k ∧ QBox q w.heap.size wr ∧ Below w.heap.size w wr) (fun _ i _ => q.nn - (intOf i).toNat)
  case atStart => exact ⟨0, 1, by omega, rfl, rfl, by simp, HB0.out, HBW.out⟩
  case round =>
    obtain ⟨k, zz, hk, rfl, rfl, hzz, hqb, hbe⟩ := hrel
    have hzb : zz ≤ 810000 := by rw [hzz]; exact pow_le30 hD (by omega)
    have HZ := hidp hzz
    have HQB := hidp hqb
    have HBe := hidp hbe
    obtain ⟨x0, x1, x2, x3, l0⟩ := hqb.cells
    clear hzz hqb hbe
    by_cases hlt : k < q.nn
    · have hkn : (k : Int) < q.nn := by omega
      go_wp2_with fail
      refine (rDomain_any FA fn fc l _ (HFa.out _ HBe.out) (by omega)).mono ?_
      rintro e w5 ⟨A5, n5, c5, rfl, r5, hb5⟩
      obtain rfl : n5 = d := by have h := r5.1; have h2 := HD.out; omega
      have hq5 := HQB.out.later hb5
      have HQ5 := hidp hq5
      have HB5 := hidp (HBe.out.trans (hb5.mono HBe.out.size))
      have hmul : IntKind.i64.wrap ((zz : Int) * n5) = ((zz * n5 : Nat) : Int) := by
        have h1 : zz * n5 ≤ 810000 * 30 := Nat.mul_le_mul hzb hD
        rw [← Int.natCast_mul]
        exact IntWalk.i64_in _ (by omega)
      have hp : zz * n5 = n5 ^ (k + 1) := by rw [HZ.out, Nat.pow_succ]
      obtain ⟨z2, hz2⟩ : ∃ z2, zz * n5 = z2 := ⟨_, rfl⟩
      rw [hz2] at hmul hp
      have HP := hidp hp
      clear hz2 hp hq5 hb5 r5 x0 x1 x2 x3 l0
      go_wp2_with fail
      go_roundw
      case rel => exact ⟨k + 1, z2, by omega, by go_num, rfl, HP.out, HQ5.out, HB5.out⟩
      case measure => simp [intOf]; omega
    · obtain rfl : k = q.nn := by omega
      go_wp2_with fail
      go_ret
      refine ⟨ret_bool ?_, HBe.out⟩
      rw [HFew.out, HZ.out, Int.natCast_pow]
end Go.Proofs.YtbegdcjofnfkiaaGreatDoor
