import Derived.Test.YtbegdcjofnfkiaaGreatDoorQ23
namespace Go.Proofs.YtbegdcjofnfkiaaGreatDoor
open Go.RowKit Go.Shelf Go.Sort
set_option maxRecDepth 100000 in
set_option maxHeartbeats 4000000 in
theorem r51Same_any (A B : Option Addr) (n m ca cb : Nat) (a b : List (List Int)) (w : World) (ha : RowsIn w A n ca a) (hb : RowsIn w B m cb b) :
  Calls Tryz.prog 17 #[.slice A n ca, .slice B m cb] w fun e w' => e = .returned (.bool (decide (a = b))) ∧ Below w.heap.size w w' := by
 have HA := hidp ha
 have HB := hidp hb
 have hac := ha.len.2.1
 have hacc := ha.len.2.2
 have hbc := hb.len.2.1
 have hbcc := hb.len.2.2
 have HN := hidp ha.len.1
 have HM := hidp hb.len.1
 clear ha hb
 by_cases hnm : n = m
 rotate_left
 ·have hne : ((n : Int) != (m : Int)) = true := by simp; omega
  have HF : Hid (decide (a = b) = false) := by
   show _ = _
   rw [decide_eq_false_iff_not]
   intro e
   have := HN.out; have := HM.out; subst e; omega
  clear hnm
  go_enter Tryz.func17, Tryz.ntmps17
  go_wp2_with fail
  go_ret
  exact ⟨ret_bool HF.out.symm, Below.refl _ _⟩
 subst hnm
 go_enter Tryz.func17, Tryz.ntmps17
 go_wp2_with fail
 go_loopw [5] (fun i wr => ∃ k : Nat, k ≤ n ∧ i = .int .i64 k ∧ a.take k = b.take k ∧ Below w.heap.size w wr) (fun i _ => n - (intOf i).toNat)
 case atStart => exact ⟨0, by omega, rfl, rfl, Below.refl _ _⟩
 case round =>
  obtain ⟨k, hk, rfl, hab, hbe⟩ := hrel
  have HAb := hidp hab
  have HBe := hidp hbe
  clear hab
  by_cases hlt : k < n
  ·have hkn : (k : Int) < n := by omega
   obtain ⟨b1, o1, A1, m1, x, hA1, hzx, c0, hi1⟩ := (HA.out.keep hbe).get hlt
   obtain ⟨b2, o2, A2, m2, y, hA2, hzy, d0, hi2⟩ := (HB.out.keep hbe).get hlt
   have l1 := lt_of_cell c0
   have l2 := lt_of_cell d0
   have hix1 := ix_intss (c := ca) hA1 hlt
   have hix2 := ix_intss (c := cb) hA2 hlt
   have HX := hidp hzx
   have HY := hidp hzy
   have HI1 : Hid (∀ W, Below wr.heap.size wr W → iSl W W.heap.size A1 x.length m1 x) := fun W h => hi1.keep (Rep.flat_stable _) h.size h.block
   have HI2 : Hid (∀ W, Below wr.heap.size wr W → iSl W W.heap.size A2 y.length m2 y) := fun W h => hi2.keep (Rep.flat_stable _) h.size h.block
   have HNe : Hid (x ≠ y → decide (a = b) = false) := fun h => by
    rw [decide_eq_false_iff_not]
    rintro rfl
    have := HX.out.symm.trans HY.out
    injection this with this
    exact h this
   clear hA1 hA2 hzx hzy hi1 hi2 hbe
   obtain ⟨ne, hne⟩ : ∃ ne, ((x.length : Int) != (y.length : Int)) = ne := ⟨_, rfl⟩
   have HNE := hidp hne
   cases ne
   ·have hl : x.length = y.length := Int.ofNat.inj (show (x.length : Int) = y.length by have := HNE.out; simpa using this)
    have HL1' : Hid (∀ W, Below wr.heap.size wr W → Calls Tryz.prog 36 #[.slice A1 x.length m1, .slice A2 y.length m2] W fun e w' => e = .returned (.bool (lexJ x y)) ∧ Below W.heap.size W w') := fun W h => by
     have h2 := HI2.out W h
     have := less_any A1 A2 x.length m1 m2 x y W (HI1.out W h) (by rw [hl]; exact h2)
     rw [hl] at this ⊢; exact this
    have HL2' : Hid (∀ W, Below wr.heap.size wr W → Calls Tryz.prog 36 #[.slice A2 y.length m2, .slice A1 x.length m1] W fun e w' => e = .returned (.bool (lexJ y x)) ∧ Below W.heap.size W w') := fun W h => by
     have h2 := HI2.out W h
     have := less_any A2 A1 x.length m2 m1 y x W (by rw [hl]; exact h2) (HI1.out W h)
     rw [hl] at this ⊢; exact this
    clear hl
    obtain ⟨p1, hp1⟩ : ∃ p, lexJ x y = p := ⟨_, rfl⟩
    obtain ⟨p2, hp2⟩ : ∃ p, lexJ y x = p := ⟨_, rfl⟩
    have HP1 := hidp hp1
    have HP2 := hidp hp2
    have HL1 : Hid (∀ W, Below wr.heap.size wr W → Calls Tryz.prog 36 #[.slice A1 x.length m1, .slice A2 y.length m2] W fun e w' => e = .returned (.bool p1) ∧ Below W.heap.size W w') := by have := HL1'.out; rw [hp1] at this; exact this
    have HL2 : Hid (∀ W, Below wr.heap.size wr W → Calls Tryz.prog 36 #[.slice A2 y.length m2, .slice A1 x.length m1] W fun e w' => e = .returned (.bool p2) ∧ Below W.heap.size W w') := by have := HL2'.out; rw [hp2] at this; exact this
    clear hp1 hp2 HL1' HL2'
    cases p1
    ·cases p2
     ·have hxy : Hid (x = y) := by
       show _ = _
       rcases lexJ_tri x y with h | h | h
       ·rw [HP1.out] at h; cases h
       ·exact h
       ·rw [HP2.out] at h; cases h
      go_wp2_with fail
      refine wp_region_S wr.heap.size 33 (fun _ => false) (Nat.le_refl _) (by kernel_rfl) (by kernel_rfl) (by kernel_rfl) ?_
      dsimp only [List.take, List.drop]
      apply relS_det (mask := [])
      ·rfl
      ·kernel_rfl
      ·kernel_rfl
      ·dsimp only [oblS]
       rintro w9 h9
       go_simp
       exact ⟨Below.refl _ _, rfl⟩
      dsimp only [naL, caL]
      apply relS_det (mask := [false])
      ·rfl
      ·kernel_rfl
      ·kernel_rfl
      ·dsimp only [oblS]
       rintro w9 h9
       go_simp
       exact ⟨Below.refl _ _, rfl⟩
      dsimp only [naL, caL]
      apply relS_det (mask := [true, true])
      ·rfl
      ·kernel_rfl
      ·kernel_rfl
      ·dsimp only [oblS]
       rintro w9 h9
       go_simp
       exact ⟨Below.refl _ _, rfl⟩
      dsimp only [naL, caL]
      apply relS_det (mask := [false, false, true]) (x := .slice A1 x.length m1)
      ·rfl
      ·kernel_rfl
      ·kernel_rfl
      ·dsimp only [oblS]
       rintro w9 h9
       have hc9 := (bcell h9).1
       go_simp
       exact ⟨Below.refl _ _, rfl⟩
      dsimp only [naL, caL]
      apply relS_det (mask := [false, false, false, true])
      ·rfl
      ·kernel_rfl
      ·kernel_rfl
      ·dsimp only [oblS]
       rintro w9 h9
       go_simp
       exact ⟨Below.refl _ _, rfl⟩
      dsimp only [naL, caL]
      apply relS_det (mask := [false, false, false, false, false])
      ·rfl
      ·kernel_rfl
      ·kernel_rfl
      ·dsimp only [oblS]
       rintro w9 h9
       go_simp
       exact ⟨Below.refl _ _, rfl⟩
      dsimp only [naL, caL]
      apply relS_det (mask := [false, false, false, false, false, false])
      ·rfl
      ·kernel_rfl
      ·kernel_rfl
      ·dsimp only [oblS]
       rintro w9 h9
       go_simp
       exact ⟨Below.refl _ _, rfl⟩
      dsimp only [naL, caL]
      apply relS_det (mask := [false, false, false, false, false, true, true])
      ·rfl
      ·kernel_rfl
      ·kernel_rfl
      ·dsimp only [oblS]
       rintro w9 h9
       go_simp
       exact ⟨Below.refl _ _, rfl⟩
      dsimp only [naL, caL]
      apply relS_det (mask := [false, false, false, false, false, false, false, true]) (x := .slice A2 y.length m2)
      ·rfl
      ·kernel_rfl
      ·kernel_rfl
      ·dsimp only [oblS]
       rintro w9 h9
       have hc9 := (bcell h9).1
       go_simp
       exact ⟨Below.refl _ _, rfl⟩
      dsimp only [naL, caL]
      apply relS_det (mask := [false, false, false, false, false, false, false, false, true])
      ·rfl
      ·kernel_rfl
      ·kernel_rfl
      ·dsimp only [oblS]
       rintro w9 h9
       go_simp
       exact ⟨Below.refl _ _, rfl⟩
      dsimp only [naL, caL]
      apply relS_det (mask := [false, false, false, false, true, false, false, false, false, true]) (x := .bool false)
      ·rfl
      ·kernel_rfl
      ·kernel_rfl
      ·dsimp only [oblS]
       rintro w9 h9
       go_simp
       exact ⟨Below.refl _ _, rfl⟩
      dsimp only [naL, caL]
      apply relS_det (mask := [false, false, false, false, false, false, false, false, false, false, true]) (x := .bool false)
      ·rfl
      ·kernel_rfl
      ·kernel_rfl
      ·dsimp only [oblS]
       rintro w9 h9
       go_simp
       exact ⟨Below.refl _ _, rfl⟩
      dsimp only [naL, caL]
      apply relS_detg (mask := [false, false, false, false, false, false, false, false, false, false, false, true]) (t := 28) (want := false)
      ·rfl
      ·kernel_rfl
      ·kernel_rfl
      ·dsimp only [oblS]
       refine ⟨by rfl, ?_⟩
       rintro w9 h9
       go_simp
       exact ⟨Below.refl _ _, rfl⟩
      dsimp only [naL, caL]
      apply relS_detg (mask := [false, false, false, false, false, false, false, false, false, false, false, true, false]) (t := 28) (want := false)
      ·rfl
      ·kernel_rfl
      ·kernel_rfl
      ·dsimp only [oblS]
       refine ⟨by rfl, ?_⟩
       rintro w9 h9
       go_simp
       exact ⟨Below.refl _ _, rfl⟩
      dsimp only [naL, caL]
      apply relS_detg (mask := [false, false, false, false, false, false, false, false, false, false, false, true, true, true]) (t := 28) (want := false)
      ·rfl
      ·kernel_rfl
      ·kernel_rfl
      ·dsimp only [oblS]
       refine ⟨by rfl, ?_⟩
       rintro w9 h9
       go_simp
       exact ⟨Below.refl _ _, rfl⟩
      dsimp only [naL, caL]
      apply relS_detg (mask := [false, false, false, false, false, false, false, false, false, false, false, true, false, false, true]) (t := 28) (want := false) (x := .slice A1 x.length m1)
      ·rfl
      ·kernel_rfl
      ·kernel_rfl
      ·dsimp only [oblS]
       refine ⟨by rfl, ?_⟩
       rintro w9 h9
       have hc9 := (bcell h9).1
       go_simp
       exact ⟨Below.refl _ _, rfl⟩
      dsimp only [naL, caL]
      apply relS_detg (mask := [false, false, false, false, false, false, false, false, false, false, false, true, false, false, false, false]) (t := 28) (want := false)
      ·rfl
      ·kernel_rfl
      ·kernel_rfl
      ·dsimp only [oblS]
       refine ⟨by rfl, ?_⟩
       rintro w9 h9
       go_simp
       exact ⟨Below.refl _ _, rfl⟩
      dsimp only [naL, caL]
      apply relS_detg (mask := [false, false, false, false, false, false, false, false, false, false, false, true, false, false, false, false, false]) (t := 28) (want := false)
      ·rfl
      ·kernel_rfl
      ·kernel_rfl
      ·dsimp only [oblS]
       refine ⟨by rfl, ?_⟩
       rintro w9 h9
       go_simp
       exact ⟨Below.refl _ _, rfl⟩
      dsimp only [naL, caL]
      apply relS_detg (mask := [false, false, false, false, false, false, false, false, false, false, false, true, false, false, false, false, true, true]) (t := 28) (want := false)
      ·rfl
      ·kernel_rfl
      ·kernel_rfl
      ·dsimp only [oblS]
       refine ⟨by rfl, ?_⟩
       rintro w9 h9
       go_simp
       exact ⟨Below.refl _ _, rfl⟩
      dsimp only [naL, caL]
      apply relS_detg (mask := [false, false, false, false, false, false, false, false, false, false, false, true, false, false, false, false, false, false, true]) (t := 28) (want := false) (x := .slice A2 y.length m2)
      ·rfl
      ·kernel_rfl
      ·kernel_rfl
      ·dsimp only [oblS]
       refine ⟨by rfl, ?_⟩
       rintro w9 h9
       have hc9 := (bcell h9).1
       go_simp
       exact ⟨Below.refl _ _, rfl⟩
      dsimp only [naL, caL]
      apply relS_detg (mask := [false, false, false, false, false, false, false, false, false, false, false, true, false, false, false, true, false, false, false, true]) (t := 28) (want := false) (x := .bool false)
      ·rfl
      ·kernel_rfl
      ·kernel_rfl
      ·dsimp only [oblS]
       refine ⟨by rfl, ?_⟩
       rintro w9 h9
       go_simp
       refine (HL1.out _ h9).mono ?_
       rintro e w7 ⟨rfl, hb7⟩
       exact ⟨_, rfl, hb7, rfl⟩
      dsimp only [naL, caL]
      apply relS_det (mask := [false, false, false, false, false, false, false, false, false, false, false, true, false, false, false, false, false, false, false, false, true]) (x := .bool false)
      ·rfl
      ·kernel_rfl
      ·kernel_rfl
      ·dsimp only [oblS]
       rintro w9 h9
       go_simp
       exact ⟨Below.refl _ _, rfl⟩
      dsimp only [naL, caL]
      apply relS_det (mask := [false, false, false, false, false, false, false, false, false, false, false, false, false, false, false, false, false, false, false, false, false, true]) (x := .bool false)
      ·rfl
      ·kernel_rfl
      ·kernel_rfl
      ·dsimp only [oblS]
       rintro w9 h9
       go_simp
       exact ⟨Below.refl _ _, rfl⟩
      dsimp only [naL, caL]
      apply relS_detg (mask := [false, false, false, false, false, false, false, false, false, false, false, false, false, false, false, false, false, false, false, false, false, false, true]) (t := 39) (want := false)
      ·rfl
      ·kernel_rfl
      ·kernel_rfl
      ·dsimp only [oblS]
       refine ⟨by rfl, ?_⟩
       rintro w9 h9
       go_simp
       exact ⟨Below.refl _ _, rfl⟩
      dsimp only [naL, caL]
      apply relS_detg (mask := [false, false, false, false, false, false, false, false, false, false, false, false, false, false, false, false, false, false, false, false, false, false, true, false]) (t := 39) (want := false)
      ·rfl
      ·kernel_rfl
      ·kernel_rfl
      ·dsimp only [oblS]
       refine ⟨by rfl, ?_⟩
       rintro w9 h9
       go_simp
       exact ⟨Below.refl _ _, rfl⟩
      dsimp only [naL, caL]
      apply relS_detg (mask := [false, false, false, false, false, false, false, false, false, false, false, false, false, false, false, false, false, false, false, false, false, false, true, true, true]) (t := 39) (want := false)
      ·rfl
      ·kernel_rfl
      ·kernel_rfl
      ·dsimp only [oblS]
       refine ⟨by rfl, ?_⟩
       rintro w9 h9
       go_simp
       exact ⟨Below.refl _ _, rfl⟩
      dsimp only [naL, caL]
      apply relS_detg (mask := [false, false, false, false, false, false, false, false, false, false, false, false, false, false, false, false, false, false, false, false, false, false, true, false, false, true]) (t := 39) (want := false) (x := .slice A2 y.length m2)
      ·rfl
      ·kernel_rfl
      ·kernel_rfl
      ·dsimp only [oblS]
       refine ⟨by rfl, ?_⟩
       rintro w9 h9
       have hc9 := (bcell h9).1
       go_simp
       exact ⟨Below.refl _ _, rfl⟩
      dsimp only [naL, caL]
      apply relS_detg (mask := [false, false, false, false, false, false, false, false, false, false, false, false, false, false, false, false, false, false, false, false, false, false, true, false, false, false, false]) (t := 39) (want := false)
      ·rfl
      ·kernel_rfl
      ·kernel_rfl
      ·dsimp only [oblS]
       refine ⟨by rfl, ?_⟩
       rintro w9 h9
       go_simp
       exact ⟨Below.refl _ _, rfl⟩
      dsimp only [naL, caL]
      apply relS_detg (mask := [false, false, false, false, false, false, false, false, false, false, false, false, false, false, false, false, false, false, false, false, false, false, true, false, false, false, false, false]) (t := 39) (want := false)
      ·rfl
      ·kernel_rfl
      ·kernel_rfl
      ·dsimp only [oblS]
       refine ⟨by rfl, ?_⟩
       rintro w9 h9
       go_simp
       exact ⟨Below.refl _ _, rfl⟩
      dsimp only [naL, caL]
      apply relS_detg (mask := [false, false, false, false, false, false, false, false, false, false, false, false, false, false, false, false, false, false, false, false, false, false, true, false, false, false, false, true, true]) (t := 39) (want := false)
      ·rfl
      ·kernel_rfl
      ·kernel_rfl
      ·dsimp only [oblS]
       refine ⟨by rfl, ?_⟩
       rintro w9 h9
       go_simp
       exact ⟨Below.refl _ _, rfl⟩
      dsimp only [naL, caL]
      apply relS_detg (mask := [false, false, false, false, false, false, false, false, false, false, false, false, false, false, false, false, false, false, false, false, false, false, true, false, false, false, false, false, false, true]) (t := 39) (want := false) (x := .slice A1 x.length m1)
      ·rfl
      ·kernel_rfl
      ·kernel_rfl
      ·dsimp only [oblS]
       refine ⟨by rfl, ?_⟩
       rintro w9 h9
       have hc9 := (bcell h9).1
       go_simp
       exact ⟨Below.refl _ _, rfl⟩
      dsimp only [naL, caL]
      apply relS_detg (mask := [false, false, false, false, false, false, false, false, false, false, false, false, false, false, false, false, false, false, false, false, false, false, true, false, false, false, true, false, false, false, true]) (t := 39) (want := false) (x := .bool false)
      ·rfl
      ·kernel_rfl
      ·kernel_rfl
      ·dsimp only [oblS]
       refine ⟨by rfl, ?_⟩
       rintro w9 h9
       go_simp
       refine (HL2.out _ h9).mono ?_
       rintro e w7 ⟨rfl, hb7⟩
       exact ⟨_, rfl, hb7, rfl⟩
      dsimp only [naL, caL]
      apply relS_det (mask := [false, false, false, false, false, false, false, false, false, false, false, false, false, false, false, false, false, false, false, false, false, false, true, false, false, false, false, false, false, false, false, true]) (x := .bool false)
      ·rfl
      ·kernel_rfl
      ·kernel_rfl
      ·dsimp only [oblS]
       rintro w9 h9
       go_simp
       exact ⟨Below.refl _ _, rfl⟩
      dsimp only [naL, caL]
      refine relS_end (by rfl) ?_
      dsimp only [finS]
      rintro w8 hb8
      have hbz := HBe.out.trans (hb8.mono HBe.out.size)
      go_simp
      go_wp2_with fail
      refine ⟨⟨k + 1, by omega, by go_num, take_eq_step HAb.out HX.out HY.out hxy.out, hbz⟩, by simp [intOf]; omega⟩
     ·have hxy : x ≠ y := fun e => by have := HP2.out; rw [e, lexJ_irr] at this; cases this
      go_wp2_with fail
      refine wp_region_S wr.heap.size 33 (fun _ => false) (Nat.le_refl _) (by kernel_rfl) (by kernel_rfl) (by kernel_rfl) ?_
      dsimp only [List.take, List.drop]
      apply relS_det (mask := [])
      ·rfl
      ·kernel_rfl
      ·kernel_rfl
      ·dsimp only [oblS]
       rintro w9 h9
       go_simp
       exact ⟨Below.refl _ _, rfl⟩
      dsimp only [naL, caL]
      apply relS_det (mask := [false])
      ·rfl
      ·kernel_rfl
      ·kernel_rfl
      ·dsimp only [oblS]
       rintro w9 h9
       go_simp
       exact ⟨Below.refl _ _, rfl⟩
      dsimp only [naL, caL]
      apply relS_det (mask := [true, true])
      ·rfl
      ·kernel_rfl
      ·kernel_rfl
      ·dsimp only [oblS]
       rintro w9 h9
       go_simp
       exact ⟨Below.refl _ _, rfl⟩
      dsimp only [naL, caL]
      apply relS_det (mask := [false, false, true]) (x := .slice A1 x.length m1)
      ·rfl
      ·kernel_rfl
      ·kernel_rfl
      ·dsimp only [oblS]
       rintro w9 h9
       have hc9 := (bcell h9).1
       go_simp
       exact ⟨Below.refl _ _, rfl⟩
      dsimp only [naL, caL]
      apply relS_det (mask := [false, false, false, true])
      ·rfl
      ·kernel_rfl
      ·kernel_rfl
      ·dsimp only [oblS]
       rintro w9 h9
       go_simp
       exact ⟨Below.refl _ _, rfl⟩
      dsimp only [naL, caL]
      apply relS_det (mask := [false, false, false, false, false])
      ·rfl
      ·kernel_rfl
      ·kernel_rfl
      ·dsimp only [oblS]
       rintro w9 h9
       go_simp
       exact ⟨Below.refl _ _, rfl⟩
      dsimp only [naL, caL]
      apply relS_det (mask := [false, false, false, false, false, false])
      ·rfl
      ·kernel_rfl
      ·kernel_rfl
      ·dsimp only [oblS]
       rintro w9 h9
       go_simp
       exact ⟨Below.refl _ _, rfl⟩
      dsimp only [naL, caL]
      apply relS_det (mask := [false, false, false, false, false, true, true])
      ·rfl
      ·kernel_rfl
      ·kernel_rfl
      ·dsimp only [oblS]
       rintro w9 h9
       go_simp
       exact ⟨Below.refl _ _, rfl⟩
      dsimp only [naL, caL]
      apply relS_det (mask := [false, false, false, false, false, false, false, true]) (x := .slice A2 y.length m2)
      ·rfl
      ·kernel_rfl
      ·kernel_rfl
      ·dsimp only [oblS]
       rintro w9 h9
       have hc9 := (bcell h9).1
       go_simp
       exact ⟨Below.refl _ _, rfl⟩
      dsimp only [naL, caL]
      apply relS_det (mask := [false, false, false, false, false, false, false, false, true])
      ·rfl
      ·kernel_rfl
      ·kernel_rfl
      ·dsimp only [oblS]
       rintro w9 h9
       go_simp
       exact ⟨Below.refl _ _, rfl⟩
      dsimp only [naL, caL]
      apply relS_det (mask := [false, false, false, false, true, false, false, false, false, true]) (x := .bool false)
      ·rfl
      ·kernel_rfl
      ·kernel_rfl
      ·dsimp only [oblS]
       rintro w9 h9
       go_simp
       exact ⟨Below.refl _ _, rfl⟩
      dsimp only [naL, caL]
      apply relS_det (mask := [false, false, false, false, false, false, false, false, false, false, true]) (x := .bool false)
      ·rfl
      ·kernel_rfl
      ·kernel_rfl
      ·dsimp only [oblS]
       rintro w9 h9
       go_simp
       exact ⟨Below.refl _ _, rfl⟩
      dsimp only [naL, caL]
      apply relS_detg (mask := [false, false, false, false, false, false, false, false, false, false, false, true]) (t := 28) (want := false)
      ·rfl
      ·kernel_rfl
      ·kernel_rfl
      ·dsimp only [oblS]
       refine ⟨by rfl, ?_⟩
       rintro w9 h9
       go_simp
       exact ⟨Below.refl _ _, rfl⟩
      dsimp only [naL, caL]
      apply relS_detg (mask := [false, false, false, false, false, false, false, false, false, false, false, true, false]) (t := 28) (want := false)
      ·rfl
      ·kernel_rfl
      ·kernel_rfl
      ·dsimp only [oblS]
       refine ⟨by rfl, ?_⟩
       rintro w9 h9
       go_simp
       exact ⟨Below.refl _ _, rfl⟩
      dsimp only [naL, caL]
      apply relS_detg (mask := [false, false, false, false, false, false, false, false, false, false, false, true, true, true]) (t := 28) (want := false)
      ·rfl
      ·kernel_rfl
      ·kernel_rfl
      ·dsimp only [oblS]
       refine ⟨by rfl, ?_⟩
       rintro w9 h9
       go_simp
       exact ⟨Below.refl _ _, rfl⟩
      dsimp only [naL, caL]
      apply relS_detg (mask := [false, false, false, false, false, false, false, false, false, false, false, true, false, false, true]) (t := 28) (want := false) (x := .slice A1 x.length m1)
      ·rfl
      ·kernel_rfl
      ·kernel_rfl
      ·dsimp only [oblS]
       refine ⟨by rfl, ?_⟩
       rintro w9 h9
       have hc9 := (bcell h9).1
       go_simp
       exact ⟨Below.refl _ _, rfl⟩
      dsimp only [naL, caL]
      apply relS_detg (mask := [false, false, false, false, false, false, false, false, false, false, false, true, false, false, false, false]) (t := 28) (want := false)
      ·rfl
      ·kernel_rfl
      ·kernel_rfl
      ·dsimp only [oblS]
       refine ⟨by rfl, ?_⟩
       rintro w9 h9
       go_simp
       exact ⟨Below.refl _ _, rfl⟩
      dsimp only [naL, caL]
      apply relS_detg (mask := [false, false, false, false, false, false, false, false, false, false, false, true, false, false, false, false, false]) (t := 28) (want := false)
      ·rfl
      ·kernel_rfl
      ·kernel_rfl
      ·dsimp only [oblS]
       refine ⟨by rfl, ?_⟩
       rintro w9 h9
       go_simp
       exact ⟨Below.refl _ _, rfl⟩
      dsimp only [naL, caL]
      apply relS_detg (mask := [false, false, false, false, false, false, false, false, false, false, false, true, false, false, false, false, true, true]) (t := 28) (want := false)
      ·rfl
      ·kernel_rfl
      ·kernel_rfl
      ·dsimp only [oblS]
       refine ⟨by rfl, ?_⟩
       rintro w9 h9
       go_simp
       exact ⟨Below.refl _ _, rfl⟩
      dsimp only [naL, caL]
      apply relS_detg (mask := [false, false, false, false, false, false, false, false, false, false, false, true, false, false, false, false, false, false, true]) (t := 28) (want := false) (x := .slice A2 y.length m2)
      ·rfl
      ·kernel_rfl
      ·kernel_rfl
      ·dsimp only [oblS]
       refine ⟨by rfl, ?_⟩
       rintro w9 h9
       have hc9 := (bcell h9).1
       go_simp
       exact ⟨Below.refl _ _, rfl⟩
      dsimp only [naL, caL]
      apply relS_detg (mask := [false, false, false, false, false, false, false, false, false, false, false, true, false, false, false, true, false, false, false, true]) (t := 28) (want := false) (x := .bool false)
      ·rfl
      ·kernel_rfl
      ·kernel_rfl
      ·dsimp only [oblS]
       refine ⟨by rfl, ?_⟩
       rintro w9 h9
       go_simp
       refine (HL1.out _ h9).mono ?_
       rintro e w7 ⟨rfl, hb7⟩
       exact ⟨_, rfl, hb7, rfl⟩
      dsimp only [naL, caL]
      apply relS_det (mask := [false, false, false, false, false, false, false, false, false, false, false, true, false, false, false, false, false, false, false, false, true]) (x := .bool false)
      ·rfl
      ·kernel_rfl
      ·kernel_rfl
      ·dsimp only [oblS]
       rintro w9 h9
       go_simp
       exact ⟨Below.refl _ _, rfl⟩
      dsimp only [naL, caL]
      apply relS_det (mask := [false, false, false, false, false, false, false, false, false, false, false, false, false, false, false, false, false, false, false, false, false, true]) (x := .bool false)
      ·rfl
      ·kernel_rfl
      ·kernel_rfl
      ·dsimp only [oblS]
       rintro w9 h9
       go_simp
       exact ⟨Below.refl _ _, rfl⟩
      dsimp only [naL, caL]
      apply relS_detg (mask := [false, false, false, false, false, false, false, false, false, false, false, false, false, false, false, false, false, false, false, false, false, false, true]) (t := 39) (want := false)
      ·rfl
      ·kernel_rfl
      ·kernel_rfl
      ·dsimp only [oblS]
       refine ⟨by rfl, ?_⟩
       rintro w9 h9
       go_simp
       exact ⟨Below.refl _ _, rfl⟩
      dsimp only [naL, caL]
      apply relS_detg (mask := [false, false, false, false, false, false, false, false, false, false, false, false, false, false, false, false, false, false, false, false, false, false, true, false]) (t := 39) (want := false)
      ·rfl
      ·kernel_rfl
      ·kernel_rfl
      ·dsimp only [oblS]
       refine ⟨by rfl, ?_⟩
       rintro w9 h9
       go_simp
       exact ⟨Below.refl _ _, rfl⟩
      dsimp only [naL, caL]
      apply relS_detg (mask := [false, false, false, false, false, false, false, false, false, false, false, false, false, false, false, false, false, false, false, false, false, false, true, true, true]) (t := 39) (want := false)
      ·rfl
      ·kernel_rfl
      ·kernel_rfl
      ·dsimp only [oblS]
       refine ⟨by rfl, ?_⟩
       rintro w9 h9
       go_simp
       exact ⟨Below.refl _ _, rfl⟩
      dsimp only [naL, caL]
      apply relS_detg (mask := [false, false, false, false, false, false, false, false, false, false, false, false, false, false, false, false, false, false, false, false, false, false, true, false, false, true]) (t := 39) (want := false) (x := .slice A2 y.length m2)
      ·rfl
      ·kernel_rfl
      ·kernel_rfl
      ·dsimp only [oblS]
       refine ⟨by rfl, ?_⟩
       rintro w9 h9
       have hc9 := (bcell h9).1
       go_simp
       exact ⟨Below.refl _ _, rfl⟩
      dsimp only [naL, caL]
      apply relS_detg (mask := [false, false, false, false, false, false, false, false, false, false, false, false, false, false, false, false, false, false, false, false, false, false, true, false, false, false, false]) (t := 39) (want := false)
      ·rfl
      ·kernel_rfl
      ·kernel_rfl
      ·dsimp only [oblS]
       refine ⟨by rfl, ?_⟩
       rintro w9 h9
       go_simp
       exact ⟨Below.refl _ _, rfl⟩
      dsimp only [naL, caL]
      apply relS_detg (mask := [false, false, false, false, false, false, false, false, false, false, false, false, false, false, false, false, false, false, false, false, false, false, true, false, false, false, false, false]) (t := 39) (want := false)
      ·rfl
      ·kernel_rfl
      ·kernel_rfl
      ·dsimp only [oblS]
       refine ⟨by rfl, ?_⟩
       rintro w9 h9
       go_simp
       exact ⟨Below.refl _ _, rfl⟩
      dsimp only [naL, caL]
      apply relS_detg (mask := [false, false, false, false, false, false, false, false, false, false, false, false, false, false, false, false, false, false, false, false, false, false, true, false, false, false, false, true, true]) (t := 39) (want := false)
      ·rfl
      ·kernel_rfl
      ·kernel_rfl
      ·dsimp only [oblS]
       refine ⟨by rfl, ?_⟩
       rintro w9 h9
       go_simp
       exact ⟨Below.refl _ _, rfl⟩
      dsimp only [naL, caL]
      apply relS_detg (mask := [false, false, false, false, false, false, false, false, false, false, false, false, false, false, false, false, false, false, false, false, false, false, true, false, false, false, false, false, false, true]) (t := 39) (want := false) (x := .slice A1 x.length m1)
      ·rfl
      ·kernel_rfl
      ·kernel_rfl
      ·dsimp only [oblS]
       refine ⟨by rfl, ?_⟩
       rintro w9 h9
       have hc9 := (bcell h9).1
       go_simp
       exact ⟨Below.refl _ _, rfl⟩
      dsimp only [naL, caL]
      apply relS_detg (mask := [false, false, false, false, false, false, false, false, false, false, false, false, false, false, false, false, false, false, false, false, false, false, true, false, false, false, true, false, false, false, true]) (t := 39) (want := false) (x := .bool true)
      ·rfl
      ·kernel_rfl
      ·kernel_rfl
      ·dsimp only [oblS]
       refine ⟨by rfl, ?_⟩
       rintro w9 h9
       go_simp
       refine (HL2.out _ h9).mono ?_
       rintro e w7 ⟨rfl, hb7⟩
       exact ⟨_, rfl, hb7, rfl⟩
      dsimp only [naL, caL]
      apply relS_det (mask := [false, false, false, false, false, false, false, false, false, false, false, false, false, false, false, false, false, false, false, false, false, false, true, false, false, false, false, false, false, false, false, true]) (x := .bool true)
      ·rfl
      ·kernel_rfl
      ·kernel_rfl
      ·dsimp only [oblS]
       rintro w9 h9
       go_simp
       exact ⟨Below.refl _ _, rfl⟩
      dsimp only [naL, caL]
      refine relS_end (by rfl) ?_
      dsimp only [finS]
      rintro w8 hb8
      have hbz := HBe.out.trans (hb8.mono HBe.out.size)
      go_simp
      have HF := hidp (HNe.out hxy)
      clear hxy
      go_wp2_with fail
      go_ret
      exact ⟨ret_bool HF.out.symm, hbz⟩
    ·have hxy : x ≠ y := fun e => by have := HP1.out; rw [e, lexJ_irr] at this; cases this
     go_wp2_with fail
     refine wp_region_S wr.heap.size 33 (fun _ => false) (Nat.le_refl _) (by kernel_rfl) (by kernel_rfl) (by kernel_rfl) ?_
     dsimp only [List.take, List.drop]
     apply relS_det (mask := [])
     ·rfl
     ·kernel_rfl
     ·kernel_rfl
     ·dsimp only [oblS]
      rintro w9 h9
      go_simp
      exact ⟨Below.refl _ _, rfl⟩
     dsimp only [naL, caL]
     apply relS_det (mask := [false])
     ·rfl
     ·kernel_rfl
     ·kernel_rfl
     ·dsimp only [oblS]
      rintro w9 h9
      go_simp
      exact ⟨Below.refl _ _, rfl⟩
     dsimp only [naL, caL]
     apply relS_det (mask := [true, true])
     ·rfl
     ·kernel_rfl
     ·kernel_rfl
     ·dsimp only [oblS]
      rintro w9 h9
      go_simp
      exact ⟨Below.refl _ _, rfl⟩
     dsimp only [naL, caL]
     apply relS_det (mask := [false, false, true]) (x := .slice A1 x.length m1)
     ·rfl
     ·kernel_rfl
     ·kernel_rfl
     ·dsimp only [oblS]
      rintro w9 h9
      have hc9 := (bcell h9).1
      go_simp
      exact ⟨Below.refl _ _, rfl⟩
     dsimp only [naL, caL]
     apply relS_det (mask := [false, false, false, true])
     ·rfl
     ·kernel_rfl
     ·kernel_rfl
     ·dsimp only [oblS]
      rintro w9 h9
      go_simp
      exact ⟨Below.refl _ _, rfl⟩
     dsimp only [naL, caL]
     apply relS_det (mask := [false, false, false, false, false])
     ·rfl
     ·kernel_rfl
     ·kernel_rfl
     ·dsimp only [oblS]
      rintro w9 h9
      go_simp
      exact ⟨Below.refl _ _, rfl⟩
     dsimp only [naL, caL]
     apply relS_det (mask := [false, false, false, false, false, false])
     ·rfl
     ·kernel_rfl
     ·kernel_rfl
     ·dsimp only [oblS]
      rintro w9 h9
      go_simp
      exact ⟨Below.refl _ _, rfl⟩
     dsimp only [naL, caL]
     apply relS_det (mask := [false, false, false, false, false, true, true])
     ·rfl
     ·kernel_rfl
     ·kernel_rfl
     ·dsimp only [oblS]
      rintro w9 h9
      go_simp
      exact ⟨Below.refl _ _, rfl⟩
     dsimp only [naL, caL]
     apply relS_det (mask := [false, false, false, false, false, false, false, true]) (x := .slice A2 y.length m2)
     ·rfl
     ·kernel_rfl
     ·kernel_rfl
     ·dsimp only [oblS]
      rintro w9 h9
      have hc9 := (bcell h9).1
      go_simp
      exact ⟨Below.refl _ _, rfl⟩
     dsimp only [naL, caL]
     apply relS_det (mask := [false, false, false, false, false, false, false, false, true])
     ·rfl
     ·kernel_rfl
     ·kernel_rfl
     ·dsimp only [oblS]
      rintro w9 h9
      go_simp
      exact ⟨Below.refl _ _, rfl⟩
     dsimp only [naL, caL]
     apply relS_det (mask := [false, false, false, false, true, false, false, false, false, true]) (x := .bool false)
     ·rfl
     ·kernel_rfl
     ·kernel_rfl
     ·dsimp only [oblS]
      rintro w9 h9
      go_simp
      exact ⟨Below.refl _ _, rfl⟩
     dsimp only [naL, caL]
     apply relS_det (mask := [false, false, false, false, false, false, false, false, false, false, true]) (x := .bool false)
     ·rfl
     ·kernel_rfl
     ·kernel_rfl
     ·dsimp only [oblS]
      rintro w9 h9
      go_simp
      exact ⟨Below.refl _ _, rfl⟩
     dsimp only [naL, caL]
     apply relS_detg (mask := [false, false, false, false, false, false, false, false, false, false, false, true]) (t := 28) (want := false)
     ·rfl
     ·kernel_rfl
     ·kernel_rfl
     ·dsimp only [oblS]
      refine ⟨by rfl, ?_⟩
      rintro w9 h9
      go_simp
      exact ⟨Below.refl _ _, rfl⟩
     dsimp only [naL, caL]
     apply relS_detg (mask := [false, false, false, false, false, false, false, false, false, false, false, true, false]) (t := 28) (want := false)
     ·rfl
     ·kernel_rfl
     ·kernel_rfl
     ·dsimp only [oblS]
      refine ⟨by rfl, ?_⟩
      rintro w9 h9
      go_simp
      exact ⟨Below.refl _ _, rfl⟩
     dsimp only [naL, caL]
     apply relS_detg (mask := [false, false, false, false, false, false, false, false, false, false, false, true, true, true]) (t := 28) (want := false)
     ·rfl
     ·kernel_rfl
     ·kernel_rfl
     ·dsimp only [oblS]
      refine ⟨by rfl, ?_⟩
      rintro w9 h9
      go_simp
      exact ⟨Below.refl _ _, rfl⟩
     dsimp only [naL, caL]
     apply relS_detg (mask := [false, false, false, false, false, false, false, false, false, false, false, true, false, false, true]) (t := 28) (want := false) (x := .slice A1 x.length m1)
     ·rfl
     ·kernel_rfl
     ·kernel_rfl
     ·dsimp only [oblS]
      refine ⟨by rfl, ?_⟩
      rintro w9 h9
      have hc9 := (bcell h9).1
      go_simp
      exact ⟨Below.refl _ _, rfl⟩
     dsimp only [naL, caL]
     apply relS_detg (mask := [false, false, false, false, false, false, false, false, false, false, false, true, false, false, false, false]) (t := 28) (want := false)
     ·rfl
     ·kernel_rfl
     ·kernel_rfl
     ·dsimp only [oblS]
      refine ⟨by rfl, ?_⟩
      rintro w9 h9
      go_simp
      exact ⟨Below.refl _ _, rfl⟩
     dsimp only [naL, caL]
     apply relS_detg (mask := [false, false, false, false, false, false, false, false, false, false, false, true, false, false, false, false, false]) (t := 28) (want := false)
     ·rfl
     ·kernel_rfl
     ·kernel_rfl
     ·dsimp only [oblS]
      refine ⟨by rfl, ?_⟩
      rintro w9 h9
      go_simp
      exact ⟨Below.refl _ _, rfl⟩
     dsimp only [naL, caL]
     apply relS_detg (mask := [false, false, false, false, false, false, false, false, false, false, false, true, false, false, false, false, true, true]) (t := 28) (want := false)
     ·rfl
     ·kernel_rfl
     ·kernel_rfl
     ·dsimp only [oblS]
      refine ⟨by rfl, ?_⟩
      rintro w9 h9
      go_simp
      exact ⟨Below.refl _ _, rfl⟩
     dsimp only [naL, caL]
     apply relS_detg (mask := [false, false, false, false, false, false, false, false, false, false, false, true, false, false, false, false, false, false, true]) (t := 28) (want := false) (x := .slice A2 y.length m2)
     ·rfl
     ·kernel_rfl
     ·kernel_rfl
     ·dsimp only [oblS]
      refine ⟨by rfl, ?_⟩
      rintro w9 h9
      have hc9 := (bcell h9).1
      go_simp
      exact ⟨Below.refl _ _, rfl⟩
     dsimp only [naL, caL]
     apply relS_detg (mask := [false, false, false, false, false, false, false, false, false, false, false, true, false, false, false, true, false, false, false, true]) (t := 28) (want := false) (x := .bool true)
     ·rfl
     ·kernel_rfl
     ·kernel_rfl
     ·dsimp only [oblS]
      refine ⟨by rfl, ?_⟩
      rintro w9 h9
      go_simp
      refine (HL1.out _ h9).mono ?_
      rintro e w7 ⟨rfl, hb7⟩
      exact ⟨_, rfl, hb7, rfl⟩
     dsimp only [naL, caL]
     apply relS_det (mask := [false, false, false, false, false, false, false, false, false, false, false, true, false, false, false, false, false, false, false, false, true]) (x := .bool true)
     ·rfl
     ·kernel_rfl
     ·kernel_rfl
     ·dsimp only [oblS]
      rintro w9 h9
      go_simp
      exact ⟨Below.refl _ _, rfl⟩
     dsimp only [naL, caL]
     apply relS_det (mask := [false, false, false, false, false, false, false, false, false, false, false, false, false, false, false, false, false, false, false, false, false, true]) (x := .bool true)
     ·rfl
     ·kernel_rfl
     ·kernel_rfl
     ·dsimp only [oblS]
      rintro w9 h9
      go_simp
      exact ⟨Below.refl _ _, rfl⟩
     dsimp only [naL, caL]
     apply relS_not (mask := [false, false, false, false, false, false, false, false, false, false, false, false, false, false, false, false, false, false, false, false, false, false, true]) (t := 39) (want := false) (hf := by rfl) (hg := by kernel_rfl) (hm := by kernel_rfl)
     ·rfl
     dsimp only [naL, caL]
     apply relS_not (mask := [false, false, false, false, false, false, false, false, false, false, false, false, false, false, false, false, false, false, false, false, false, false, true, false]) (t := 39) (want := false) (hf := by rfl) (hg := by kernel_rfl) (hm := by kernel_rfl)
     ·rfl
     dsimp only [naL, caL]
     apply relS_not (mask := [false, false, false, false, false, false, false, false, false, false, false, false, false, false, false, false, false, false, false, false, false, false, true, true, true]) (t := 39) (want := false) (hf := by rfl) (hg := by kernel_rfl) (hm := by kernel_rfl)
     ·rfl
     dsimp only [naL, caL]
     apply relS_not (mask := [false, false, false, false, false, false, false, false, false, false, false, false, false, false, false, false, false, false, false, false, false, false, true, false, false, true]) (t := 39) (want := false) (hf := by rfl) (hg := by kernel_rfl) (hm := by kernel_rfl)
     ·rfl
     dsimp only [naL, caL]
     apply relS_not (mask := [false, false, false, false, false, false, false, false, false, false, false, false, false, false, false, false, false, false, false, false, false, false, true, false, false, false, false]) (t := 39) (want := false) (hf := by rfl) (hg := by kernel_rfl) (hm := by kernel_rfl)
     ·rfl
     dsimp only [naL, caL]
     apply relS_not (mask := [false, false, false, false, false, false, false, false, false, false, false, false, false, false, false, false, false, false, false, false, false, false, true, false, false, false, false, false]) (t := 39) (want := false) (hf := by rfl) (hg := by kernel_rfl) (hm := by kernel_rfl)
     ·rfl
     dsimp only [naL, caL]
     apply relS_not (mask := [false, false, false, false, false, false, false, false, false, false, false, false, false, false, false, false, false, false, false, false, false, false, true, false, false, false, false, true, true]) (t := 39) (want := false) (hf := by rfl) (hg := by kernel_rfl) (hm := by kernel_rfl)
     ·rfl
     dsimp only [naL, caL]
     apply relS_not (mask := [false, false, false, false, false, false, false, false, false, false, false, false, false, false, false, false, false, false, false, false, false, false, true, false, false, false, false, false, false, true]) (t := 39) (want := false) (hf := by rfl) (hg := by kernel_rfl) (hm := by kernel_rfl)
     ·rfl
     dsimp only [naL, caL]
     apply relS_not (mask := [false, false, false, false, false, false, false, false, false, false, false, false, false, false, false, false, false, false, false, false, false, false, true, false, false, false, true, false, false, false, true]) (t := 39) (want := false) (hf := by rfl) (hg := by kernel_rfl) (hm := by kernel_rfl)
     ·rfl
     dsimp only [naL, caL]
     apply relS_det (mask := [false, false, false, false, false, false, false, false, false, false, false, false, false, false, false, false, false, false, false, false, false, false, true, false, false, false, false, false, false, false, false, true]) (x := .bool true)
     ·rfl
     ·kernel_rfl
     ·kernel_rfl
     ·dsimp only [oblS]
      rintro w9 h9
      go_simp
      exact ⟨Below.refl _ _, rfl⟩
     dsimp only [naL, caL]
     refine relS_end (by rfl) ?_
     dsimp only [finS]
     rintro w8 hb8
     have hbz := HBe.out.trans (hb8.mono HBe.out.size)
     go_simp
     have HF := hidp (HNe.out hxy)
     clear hxy
     go_wp2_with fail
     go_ret
     exact ⟨ret_bool HF.out.symm, hbz⟩
   ·have hxy : x ≠ y := fun e => by have := HNE.out; rw [e] at this; simp at this
    go_wp2_with fail
    refine wp_region_S wr.heap.size 33 (fun _ => false) (Nat.le_refl _) (by kernel_rfl) (by kernel_rfl) (by kernel_rfl) ?_
    dsimp only [List.take, List.drop]
    apply relS_det (mask := [])
    ·rfl
    ·kernel_rfl
    ·kernel_rfl
    ·dsimp only [oblS]
     rintro w9 h9
     go_simp
     exact ⟨Below.refl _ _, rfl⟩
    dsimp only [naL, caL]
    apply relS_det (mask := [false])
    ·rfl
    ·kernel_rfl
    ·kernel_rfl
    ·dsimp only [oblS]
     rintro w9 h9
     go_simp
     exact ⟨Below.refl _ _, rfl⟩
    dsimp only [naL, caL]
    apply relS_det (mask := [true, true])
    ·rfl
    ·kernel_rfl
    ·kernel_rfl
    ·dsimp only [oblS]
     rintro w9 h9
     go_simp
     exact ⟨Below.refl _ _, rfl⟩
    dsimp only [naL, caL]
    apply relS_det (mask := [false, false, true]) (x := .slice A1 x.length m1)
    ·rfl
    ·kernel_rfl
    ·kernel_rfl
    ·dsimp only [oblS]
     rintro w9 h9
     have hc9 := (bcell h9).1
     go_simp
     exact ⟨Below.refl _ _, rfl⟩
    dsimp only [naL, caL]
    apply relS_det (mask := [false, false, false, true])
    ·rfl
    ·kernel_rfl
    ·kernel_rfl
    ·dsimp only [oblS]
     rintro w9 h9
     go_simp
     exact ⟨Below.refl _ _, rfl⟩
    dsimp only [naL, caL]
    apply relS_det (mask := [false, false, false, false, false])
    ·rfl
    ·kernel_rfl
    ·kernel_rfl
    ·dsimp only [oblS]
     rintro w9 h9
     go_simp
     exact ⟨Below.refl _ _, rfl⟩
    dsimp only [naL, caL]
    apply relS_det (mask := [false, false, false, false, false, false])
    ·rfl
    ·kernel_rfl
    ·kernel_rfl
    ·dsimp only [oblS]
     rintro w9 h9
     go_simp
     exact ⟨Below.refl _ _, rfl⟩
    dsimp only [naL, caL]
    apply relS_det (mask := [false, false, false, false, false, true, true])
    ·rfl
    ·kernel_rfl
    ·kernel_rfl
    ·dsimp only [oblS]
     rintro w9 h9
     go_simp
     exact ⟨Below.refl _ _, rfl⟩
    dsimp only [naL, caL]
    apply relS_det (mask := [false, false, false, false, false, false, false, true]) (x := .slice A2 y.length m2)
    ·rfl
    ·kernel_rfl
    ·kernel_rfl
    ·dsimp only [oblS]
     rintro w9 h9
     have hc9 := (bcell h9).1
     go_simp
     exact ⟨Below.refl _ _, rfl⟩
    dsimp only [naL, caL]
    apply relS_det (mask := [false, false, false, false, false, false, false, false, true])
    ·rfl
    ·kernel_rfl
    ·kernel_rfl
    ·dsimp only [oblS]
     rintro w9 h9
     go_simp
     exact ⟨Below.refl _ _, rfl⟩
    dsimp only [naL, caL]
    apply relS_det (mask := [false, false, false, false, true, false, false, false, false, true]) (x := .bool true)
    ·rfl
    ·kernel_rfl
    ·kernel_rfl
    ·dsimp only [oblS]
     rintro w9 h9
     go_simp
     exact ⟨Below.refl _ _, rfl⟩
    dsimp only [naL, caL]
    apply relS_det (mask := [false, false, false, false, false, false, false, false, false, false, true]) (x := .bool true)
    ·rfl
    ·kernel_rfl
    ·kernel_rfl
    ·dsimp only [oblS]
     rintro w9 h9
     go_simp
     exact ⟨Below.refl _ _, rfl⟩
    dsimp only [naL, caL]
    apply relS_not (mask := [false, false, false, false, false, false, false, false, false, false, false, true]) (t := 28) (want := false) (hf := by rfl) (hg := by kernel_rfl) (hm := by kernel_rfl)
    ·rfl
    dsimp only [naL, caL]
    apply relS_not (mask := [false, false, false, false, false, false, false, false, false, false, false, true, false]) (t := 28) (want := false) (hf := by rfl) (hg := by kernel_rfl) (hm := by kernel_rfl)
    ·rfl
    dsimp only [naL, caL]
    apply relS_not (mask := [false, false, false, false, false, false, false, false, false, false, false, true, true, true]) (t := 28) (want := false) (hf := by rfl) (hg := by kernel_rfl) (hm := by kernel_rfl)
    ·rfl
    dsimp only [naL, caL]
    apply relS_not (mask := [false, false, false, false, false, false, false, false, false, false, false, true, false, false, true]) (t := 28) (want := false) (hf := by rfl) (hg := by kernel_rfl) (hm := by kernel_rfl)
    ·rfl
    dsimp only [naL, caL]
    apply relS_not (mask := [false, false, false, false, false, false, false, false, false, false, false, true, false, false, false, false]) (t := 28) (want := false) (hf := by rfl) (hg := by kernel_rfl) (hm := by kernel_rfl)
    ·rfl
    dsimp only [naL, caL]
    apply relS_not (mask := [false, false, false, false, false, false, false, false, false, false, false, true, false, false, false, false, false]) (t := 28) (want := false) (hf := by rfl) (hg := by kernel_rfl) (hm := by kernel_rfl)
    ·rfl
    dsimp only [naL, caL]
    apply relS_not (mask := [false, false, false, false, false, false, false, false, false, false, false, true, false, false, false, false, true, true]) (t := 28) (want := false) (hf := by rfl) (hg := by kernel_rfl) (hm := by kernel_rfl)
    ·rfl
    dsimp only [naL, caL]
    apply relS_not (mask := [false, false, false, false, false, false, false, false, false, false, false, true, false, false, false, false, false, false, true]) (t := 28) (want := false) (hf := by rfl) (hg := by kernel_rfl) (hm := by kernel_rfl)
    ·rfl
    dsimp only [naL, caL]
    apply relS_not (mask := [false, false, false, false, false, false, false, false, false, false, false, true, false, false, false, true, false, false, false, true]) (t := 28) (want := false) (hf := by rfl) (hg := by kernel_rfl) (hm := by kernel_rfl)
    ·rfl
    dsimp only [naL, caL]
    apply relS_det (mask := [false, false, false, false, false, false, false, false, false, false, false, true, false, false, false, false, false, false, false, false, true]) (x := .bool true)
    ·rfl
    ·kernel_rfl
    ·kernel_rfl
    ·dsimp only [oblS]
     rintro w9 h9
     go_simp
     exact ⟨Below.refl _ _, rfl⟩
    dsimp only [naL, caL]
    apply relS_det (mask := [false, false, false, false, false, false, false, false, false, false, false, false, false, false, false, false, false, false, false, false, false, true]) (x := .bool true)
    ·rfl
    ·kernel_rfl
    ·kernel_rfl
    ·dsimp only [oblS]
     rintro w9 h9
     go_simp
     exact ⟨Below.refl _ _, rfl⟩
    dsimp only [naL, caL]
    apply relS_not (mask := [false, false, false, false, false, false, false, false, false, false, false, false, false, false, false, false, false, false, false, false, false, false, true]) (t := 39) (want := false) (hf := by rfl) (hg := by kernel_rfl) (hm := by kernel_rfl)
    ·rfl
    dsimp only [naL, caL]
    apply relS_not (mask := [false, false, false, false, false, false, false, false, false, false, false, false, false, false, false, false, false, false, false, false, false, false, true, false]) (t := 39) (want := false) (hf := by rfl) (hg := by kernel_rfl) (hm := by kernel_rfl)
    ·rfl
    dsimp only [naL, caL]
    apply relS_not (mask := [false, false, false, false, false, false, false, false, false, false, false, false, false, false, false, false, false, false, false, false, false, false, true, true, true]) (t := 39) (want := false) (hf := by rfl) (hg := by kernel_rfl) (hm := by kernel_rfl)
    ·rfl
    dsimp only [naL, caL]
    apply relS_not (mask := [false, false, false, false, false, false, false, false, false, false, false, false, false, false, false, false, false, false, false, false, false, false, true, false, false, true]) (t := 39) (want := false) (hf := by rfl) (hg := by kernel_rfl) (hm := by kernel_rfl)
    ·rfl
    dsimp only [naL, caL]
    apply relS_not (mask := [false, false, false, false, false, false, false, false, false, false, false, false, false, false, false, false, false, false, false, false, false, false, true, false, false, false, false]) (t := 39) (want := false) (hf := by rfl) (hg := by kernel_rfl) (hm := by kernel_rfl)
    ·rfl
    dsimp only [naL, caL]
    apply relS_not (mask := [false, false, false, false, false, false, false, false, false, false, false, false, false, false, false, false, false, false, false, false, false, false, true, false, false, false, false, false]) (t := 39) (want := false) (hf := by rfl) (hg := by kernel_rfl) (hm := by kernel_rfl)
    ·rfl
    dsimp only [naL, caL]
    apply relS_not (mask := [false, false, false, false, false, false, false, false, false, false, false, false, false, false, false, false, false, false, false, false, false, false, true, false, false, false, false, true, true]) (t := 39) (want := false) (hf := by rfl) (hg := by kernel_rfl) (hm := by kernel_rfl)
    ·rfl
    dsimp only [naL, caL]
    apply relS_not (mask := [false, false, false, false, false, false, false, false, false, false, false, false, false, false, false, false, false, false, false, false, false, false, true, false, false, false, false, false, false, true]) (t := 39) (want := false) (hf := by rfl) (hg := by kernel_rfl) (hm := by kernel_rfl)
    ·rfl
    dsimp only [naL, caL]
    apply relS_not (mask := [false, false, false, false, false, false, false, false, false, false, false, false, false, false, false, false, false, false, false, false, false, false, true, false, false, false, true, false, false, false, true]) (t := 39) (want := false) (hf := by rfl) (hg := by kernel_rfl) (hm := by kernel_rfl)
    ·rfl
    dsimp only [naL, caL]
    apply relS_det (mask := [false, false, false, false, false, false, false, false, false, false, false, false, false, false, false, false, false, false, false, false, false, false, true, false, false, false, false, false, false, false, false, true]) (x := .bool true)
    ·rfl
    ·kernel_rfl
    ·kernel_rfl
    ·dsimp only [oblS]
     rintro w9 h9
     go_simp
     exact ⟨Below.refl _ _, rfl⟩
    dsimp only [naL, caL]
    refine relS_end (by rfl) ?_
    dsimp only [finS]
    rintro w8 hb8
    have hbz := HBe.out.trans (hb8.mono HBe.out.size)
    go_simp
    have HF := hidp (HNe.out hxy)
    clear hxy
    go_wp2_with fail
    go_ret
    exact ⟨ret_bool HF.out.symm, hbz⟩
  ·obtain rfl : k = n := by omega
   have hkk : ¬ ((k : Int) < k) := by omega
   have HF : Hid (decide (a = b) = true) := by
    have h1 := HAb.out
    rw [List.take_of_length_le (by have := HN.out; omega), List.take_of_length_le (by have := HM.out; omega)] at h1
    show _ = _
    rw [decide_eq_true h1]
   go_wp2_with fail
   go_ret
   exact ⟨ret_bool HF.out.symm, HBe.out⟩
end Go.Proofs.YtbegdcjofnfkiaaGreatDoor
