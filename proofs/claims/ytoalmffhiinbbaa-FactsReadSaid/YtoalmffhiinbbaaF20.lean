/- facts.Alike walked, and the reference's. -/
import Derived.Test.YtoalmffhiinbbaaF19
import Derived.Test.YtoalmffhiinbbaaF8
namespace Go.Proofs.Ytoalmffhiinbbaa
open Go.RowKit Go.Shelf

theorem all_step {α : Type} {l : List α} {k : Nat} {x : α} {p : α → Bool} (h : (l.take k).all p = true) (hx : l[k]? = some x) (hp : p x = true) : (l.take (k + 1)).all p = true := by
  rw [take_snoc hx, List.all_append, h]; simp [hp]
theorem all_no {α : Type} {l : List α} {k : Nat} {x : α} {p : α → Bool} (hx : l[k]? = some x) (hp : p x = false) : l.all p = false := by
  rw [List.all_eq_false]
  exact ⟨x, List.mem_of_getElem? hx, by rw [hp]; simp⟩
def rdAlike (l : List Fc) (before after : Int) (r : Rd) : Bool := decide (pointsF l r.1 r.2.1 r.2.2 before = pointsF l r.1 r.2.1 r.2.2 after)
theorem rdAlike_eq (l : List Fc) (before after : Int) (x : Rd) : decide (pointsF l x.1 x.2.1 x.2.2 before = pointsF l x.1 x.2.1 x.2.2 after) = rdAlike l before after x := rfl
theorem alikeF_eq (l : List Fc) (reads : List Rd) (before after : Int) : alikeF l reads before after = reads.all (rdAlike l before after) := rfl

set_option maxRecDepth 100000 in
set_option maxHeartbeats 2000000 in
theorem fAlike_any (A B : Option Addr) (n c m cb : Nat) (l : List Fc) (reads : List Rd) (before after : Int) (w : World) (hl : fSl w w.heap.size A n c l) (hr : RdSl w w.heap.size B m cb reads) :
    Calls Try.prog 26 #[.slice A n c, .slice B m cb, .int .i64 before, .int .i64 after] w fun e w' => e = .returned (.bool (alikeF l reads before after)) ∧ Below w.heap.size w w' := by
  have HN := hidp hr.1
  have hcap := hr.2.2.1
  have hlen := hr.2.1
  obtain ⟨z, hz⟩ : ∃ z, alikeF l reads before after = z := ⟨_, rfl⟩
  have HR := hidp hz
  rw [hz]
  clear hz
  go_enter Try.func26, Try.ntmps26
  go_wp2_with fail
  go_loopw [10, 13] (fun _ i wr => ∃ k : Nat, k ≤ m ∧ i = .int .i64 k ∧ (reads.take k).all (rdAlike l before after) = true ∧ Below w.heap.size w wr) (fun _ i _ => m - (intOf i).toNat)
  case atStart => exact ⟨0, by omega, rfl, rfl, Below.refl _ _⟩
  case round =>
    obtain ⟨k, hk, rfl, hno, hbe⟩ := hrel
    have HA := hidp hno
    clear hno
    by_cases hlt : k < m
    · obtain ⟨b, off, x, rfl, hb, hzx, c0, c1, c2, c3, c4⟩ := RdSl.get (hr.below rdStable hbe) hlt
      have HX := hidp hzx
      clear hzx
      have hwb := lt_of_cell c0
      have hBn : Below w.heap.size w (wr.alloc (.cells #[.int .i64 x.1.kind, .int .i64 x.1.subj, .int .i64 x.1.obj, .int .i64 x.2.1, .int .i64 x.2.2] 54)) := hbe.alloc hbe.size _
      have hnew := World.alloc_heap_new wr (.cells #[.int .i64 x.1.kind, .int .i64 x.1.subj, .int .i64 x.1.obj, .int .i64 x.2.1, .int .i64 x.2.2] 54)
      have HNew := hidp hnew
      clear hnew
      obtain ⟨zx, hzx⟩ : ∃ z, rdAlike l before after x = z := ⟨_, rfl⟩
      have HV := hidp hzx
      clear hzx
      go_wp2_with fail
      obtain ⟨W1, hW1⟩ : ∃ W1, wr.alloc (.cells #[.int .i64 x.1.kind, .int .i64 x.1.subj, .int .i64 x.1.obj, .int .i64 x.2.1, .int .i64 x.2.2] 54) = W1 := ⟨_, rfl⟩
      have hBn1 : Below w.heap.size w W1 := hW1 ▸ hBn
      have hn1 : W1.heap[wr.heap.size]? = some (.cells #[.int .i64 x.1.kind, .int .i64 x.1.subj, .int .i64 x.1.obj, .int .i64 x.2.1, .int .i64 x.2.2] 54 (0, 0)) := hW1 ▸ HNew.out
      rw [hW1]
      clear hW1 hBn c0 c1 c2 c3 c4 HNew
      have l1 := lt_of_heap hn1
      have HN1 := hidp hn1
      clear hn1
      have hcell : ∀ w9, Below W1.heap.size W1 w9 → w9.cell? ⟨wr.heap.size, 0, none⟩ = some (.int .i64 x.1.kind) ∧ w9.cell? ⟨wr.heap.size, 1, none⟩ = some (.int .i64 x.1.subj) ∧ w9.cell? ⟨wr.heap.size, 2, none⟩ = some (.int .i64 x.1.obj) ∧ w9.cell? ⟨wr.heap.size, 3, none⟩ = some (.int .i64 x.2.1) ∧ w9.cell? ⟨wr.heap.size, 4, none⟩ = some (.int .i64 x.2.2) := by
        intro w9 h9
        have i1 := (h9.block _ l1).trans HN1.out
        exact ⟨cell_of_heap i1, cell_of_heap i1, cell_of_heap i1, cell_of_heap i1, cell_of_heap i1⟩
      have hl1 := hl.keep fStable hBn1.size hBn1.block
      have HC := hidp hcell
      clear hcell
      refine wp_region_rel W1.heap.size (fun _ => false) (fun _ => true) (Nat.le_refl _) (by kernel_rfl) (by kernel_rfl) (by kernel_rfl) ?_
      try dsimp only [List.nil_append, List.cons_append]
      apply rel_det
      · skip
        intro w9 hw9
        refine relAt_wanted (by rfl) ?_
        obtain ⟨c1, c2, c3, c4, c5⟩ := HC.out w9 hw9
        have hl9 := Nat.lt_of_lt_of_le l1 hw9.size
        go_simp
        exact ⟨Below.refl _ _, rfl⟩
      try dsimp only [List.nil_append, List.cons_append]
      apply rel_det
      · skip
        refine obl_skip (by kernel_rfl) ?_
        intro w9 hw9
        refine relAt_wanted (by rfl) ?_
        obtain ⟨c1, c2, c3, c4, c5⟩ := HC.out w9 hw9
        have hl9 := Nat.lt_of_lt_of_le l1 hw9.size
        go_simp
        exact ⟨Below.refl _ _, rfl⟩
      try dsimp only [List.nil_append, List.cons_append]
      apply rel_det
      · skip
        refine obl_skip (by kernel_rfl) ?_
        refine obl_det (by kernel_rfl) ?_
        intro w9 hw9
        refine relAt_wanted (by rfl) ?_
        obtain ⟨c1, c2, c3, c4, c5⟩ := HC.out w9 hw9
        have hl9 := Nat.lt_of_lt_of_le l1 hw9.size
        go_simp
        exact ⟨Below.refl _ _, rfl⟩
      try dsimp only [List.nil_append, List.cons_append]
      apply rel_det
      · skip
        iterate 3 refine obl_skip (by kernel_rfl) ?_
        intro w9 hw9
        refine relAt_wanted (by rfl) ?_
        obtain ⟨c1, c2, c3, c4, c5⟩ := HC.out w9 hw9
        have hl9 := Nat.lt_of_lt_of_le l1 hw9.size
        go_simp
        exact ⟨Below.refl _ _, rfl⟩
      try dsimp only [List.nil_append, List.cons_append]
      apply rel_det
      · skip
        iterate 3 refine obl_skip (by kernel_rfl) ?_
        refine obl_det (by kernel_rfl) ?_
        intro w9 hw9
        refine relAt_wanted (by rfl) ?_
        obtain ⟨c1, c2, c3, c4, c5⟩ := HC.out w9 hw9
        have hl9 := Nat.lt_of_lt_of_le l1 hw9.size
        go_simp
        exact ⟨Below.refl _ _, rfl⟩
      try dsimp only [List.nil_append, List.cons_append]
      apply rel_det
      · skip
        iterate 5 refine obl_skip (by kernel_rfl) ?_
        intro w9 hw9
        refine relAt_wanted (by rfl) ?_
        obtain ⟨c1, c2, c3, c4, c5⟩ := HC.out w9 hw9
        have hl9 := Nat.lt_of_lt_of_le l1 hw9.size
        go_simp
        exact ⟨Below.refl _ _, rfl⟩
      try dsimp only [List.nil_append, List.cons_append]
      apply rel_det
      · skip
        iterate 5 refine obl_skip (by kernel_rfl) ?_
        refine obl_det (by kernel_rfl) ?_
        intro w9 hw9
        refine relAt_wanted (by rfl) ?_
        obtain ⟨c1, c2, c3, c4, c5⟩ := HC.out w9 hw9
        have hl9 := Nat.lt_of_lt_of_le l1 hw9.size
        go_simp
        exact ⟨Below.refl _ _, rfl⟩
      try dsimp only [List.nil_append, List.cons_append]
      apply rel_det
      · skip
        iterate 7 refine obl_skip (by kernel_rfl) ?_
        intro w9 hw9
        refine relAt_wanted (by rfl) ?_
        obtain ⟨c1, c2, c3, c4, c5⟩ := HC.out w9 hw9
        have hl9 := Nat.lt_of_lt_of_le l1 hw9.size
        go_simp
        exact ⟨Below.refl _ _, rfl⟩
      try dsimp only [List.nil_append, List.cons_append]
      refine rel_any (fun v w => ∃ A c, v = .slice A (pointsF l x.1 x.2.1 x.2.2 before).length c ∧ pSl w w.heap.size A (pointsF l x.1 x.2.1 x.2.2 before).length c (pointsF l x.1 x.2.1 x.2.2 before)) rfl (rows_stable pStable _ _) ?_ ?_
      · skip
        refine obl_det (by kernel_rfl) ?_
        refine obl_skip (by kernel_rfl) ?_
        refine obl_det (by kernel_rfl) ?_
        refine obl_skip (by kernel_rfl) ?_
        refine obl_det (by kernel_rfl) ?_
        refine obl_skip (by kernel_rfl) ?_
        refine obl_det (by kernel_rfl) ?_
        refine obl_det (by kernel_rfl) ?_
        intro w9 hw9
        refine relAt_wanted (by rfl) ?_
        go_simp
        refine (fPoints_any _ n c l x.1 x.2.1 x.2.2 before w9 (hl1.keep fStable hw9.size hw9.block)).mono ?_
        rintro e w2 ⟨A5, n5, c5, rfl, r5, hb5⟩
        obtain rfl := r5.1
        exact ⟨_, rfl, hb5, A5, c5, rfl, r5⟩
      try dsimp only [List.nil_append, List.cons_append]
      apply rel_det
      · skip
        iterate 9 refine obl_skip (by kernel_rfl) ?_
        intro w9 hw9
        refine relAt_wanted (by rfl) ?_
        obtain ⟨c1, c2, c3, c4, c5⟩ := HC.out w9 hw9
        have hl9 := Nat.lt_of_lt_of_le l1 hw9.size
        go_simp
        exact ⟨Below.refl _ _, rfl⟩
      try dsimp only [List.nil_append, List.cons_append]
      apply rel_det
      · skip
        iterate 10 refine obl_skip (by kernel_rfl) ?_
        intro w9 hw9
        refine relAt_wanted (by rfl) ?_
        obtain ⟨c1, c2, c3, c4, c5⟩ := HC.out w9 hw9
        have hl9 := Nat.lt_of_lt_of_le l1 hw9.size
        go_simp
        exact ⟨Below.refl _ _, rfl⟩
      try dsimp only [List.nil_append, List.cons_append]
      apply rel_det
      · skip
        iterate 10 refine obl_skip (by kernel_rfl) ?_
        refine obl_det (by kernel_rfl) ?_
        intro w9 hw9
        refine relAt_wanted (by rfl) ?_
        obtain ⟨c1, c2, c3, c4, c5⟩ := HC.out w9 hw9
        have hl9 := Nat.lt_of_lt_of_le l1 hw9.size
        go_simp
        exact ⟨Below.refl _ _, rfl⟩
      try dsimp only [List.nil_append, List.cons_append]
      apply rel_det
      · skip
        iterate 12 refine obl_skip (by kernel_rfl) ?_
        intro w9 hw9
        refine relAt_wanted (by rfl) ?_
        obtain ⟨c1, c2, c3, c4, c5⟩ := HC.out w9 hw9
        have hl9 := Nat.lt_of_lt_of_le l1 hw9.size
        go_simp
        exact ⟨Below.refl _ _, rfl⟩
      try dsimp only [List.nil_append, List.cons_append]
      apply rel_det
      · skip
        iterate 12 refine obl_skip (by kernel_rfl) ?_
        refine obl_det (by kernel_rfl) ?_
        intro w9 hw9
        refine relAt_wanted (by rfl) ?_
        obtain ⟨c1, c2, c3, c4, c5⟩ := HC.out w9 hw9
        have hl9 := Nat.lt_of_lt_of_le l1 hw9.size
        go_simp
        exact ⟨Below.refl _ _, rfl⟩
      try dsimp only [List.nil_append, List.cons_append]
      apply rel_det
      · skip
        iterate 14 refine obl_skip (by kernel_rfl) ?_
        intro w9 hw9
        refine relAt_wanted (by rfl) ?_
        obtain ⟨c1, c2, c3, c4, c5⟩ := HC.out w9 hw9
        have hl9 := Nat.lt_of_lt_of_le l1 hw9.size
        go_simp
        exact ⟨Below.refl _ _, rfl⟩
      try dsimp only [List.nil_append, List.cons_append]
      apply rel_det
      · skip
        iterate 14 refine obl_skip (by kernel_rfl) ?_
        refine obl_det (by kernel_rfl) ?_
        intro w9 hw9
        refine relAt_wanted (by rfl) ?_
        obtain ⟨c1, c2, c3, c4, c5⟩ := HC.out w9 hw9
        have hl9 := Nat.lt_of_lt_of_le l1 hw9.size
        go_simp
        exact ⟨Below.refl _ _, rfl⟩
      try dsimp only [List.nil_append, List.cons_append]
      apply rel_det
      · skip
        iterate 16 refine obl_skip (by kernel_rfl) ?_
        intro w9 hw9
        refine relAt_wanted (by rfl) ?_
        obtain ⟨c1, c2, c3, c4, c5⟩ := HC.out w9 hw9
        have hl9 := Nat.lt_of_lt_of_le l1 hw9.size
        go_simp
        exact ⟨Below.refl _ _, rfl⟩
      try dsimp only [List.nil_append, List.cons_append]
      refine rel_any (fun v w => ∃ A c, v = .slice A (pointsF l x.1 x.2.1 x.2.2 after).length c ∧ pSl w w.heap.size A (pointsF l x.1 x.2.1 x.2.2 after).length c (pointsF l x.1 x.2.1 x.2.2 after)) rfl (rows_stable pStable _ _) ?_ ?_
      · skip
        iterate 9 refine obl_skip (by kernel_rfl) ?_
        refine obl_det (by kernel_rfl) ?_
        refine obl_skip (by kernel_rfl) ?_
        refine obl_det (by kernel_rfl) ?_
        refine obl_skip (by kernel_rfl) ?_
        refine obl_det (by kernel_rfl) ?_
        refine obl_skip (by kernel_rfl) ?_
        refine obl_det (by kernel_rfl) ?_
        refine obl_det (by kernel_rfl) ?_
        intro w9 hw9
        refine relAt_wanted (by rfl) ?_
        go_simp
        refine (fPoints_any _ n c l x.1 x.2.1 x.2.2 after w9 (hl1.keep fStable hw9.size hw9.block)).mono ?_
        rintro e w2 ⟨A5, n5, c5, rfl, r5, hb5⟩
        obtain rfl := r5.1
        exact ⟨_, rfl, hb5, A5, c5, rfl, r5⟩
      try dsimp only [List.nil_append, List.cons_append]
      refine rel_det (x := .bool zx) ?_ ?_
      · skip
        iterate 8 refine obl_skip (by kernel_rfl) ?_
        refine obl_var (by kernel_rfl) fun _ => ?_
        iterate 8 refine obl_skip (by kernel_rfl) ?_
        refine obl_var (by kernel_rfl) fun _ => ?_
        rintro w9 ⟨⟨hw9, A5, c5, rfl, r5⟩, A6, c6, rfl, r6⟩
        refine relAt_wanted (by rfl) ?_
        go_simp
        refine (pEqual_any _ _ _ _ _ _ _ _ w9 r5 r6).mono ?_
        rintro e w2 ⟨rfl, hb5⟩
        refine ⟨_, rfl, hb5, ?_⟩
        show Value.bool _ = Value.bool _
        rw [rdAlike_eq, HV.out]
      try dsimp only [List.nil_append, List.cons_append]
      apply rel_det
      · skip
        iterate 18 refine obl_skip (by kernel_rfl) ?_
        refine obl_det (by kernel_rfl) ?_
        intro w9 hw9
        refine relAt_wanted (by rfl) ?_
        go_simp
        exact ⟨Below.refl _ _, rfl⟩
      try dsimp only [List.nil_append, List.cons_append]
      iterate 19 refine fin_dead fun _ => ?_
      refine fin_det rfl ?_
      rintro w4 hb4
      go_frame
      have hbz := hBn1.trans (hb4.mono hBn1.size)
      clear HC hl1
      cases zx
      · go_wp2_with fail
        go_ret
        exact ⟨ret_bool (by rw [← HR.out, alikeF_eq, all_no HX.out HV.out]), hbz⟩
      · go_wp2_with fail
        go_roundw
        case rel => exact ⟨k + 1, by omega, by go_num, all_step HA.out HX.out HV.out, hbz⟩
        case measure => simp [intOf]; omega
    · obtain rfl : k = m := by omega
      have HT : Hid (reads.take k = reads) := List.take_of_length_le (by rw [← HN.out]; omega)
      go_wp2_with fail
      go_ret
      exact ⟨ret_bool (by rw [← HR.out, alikeF_eq, ← HA.out, HT.out]), hbe⟩
end Go.Proofs.Ytoalmffhiinbbaa
