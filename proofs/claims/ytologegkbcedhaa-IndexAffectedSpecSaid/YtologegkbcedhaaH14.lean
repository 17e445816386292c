/- IndexAffectedSpec walked. Regions printed by tools/gen60.py. -/
import Derived.Test.YtologegkbcedhaaH12
import Derived.Test.YtologegkbcedhaaH8
namespace Go.Proofs.Ytologegkbcedhaa
open Go.RowKit Go.Shelf

theorem fewX_bd {n m : Nat} {raw : List Cr} (h : fewX n m raw = true) : n ≤ 60 ∧ m ≤ 12 := by
  simp only [fewX, Bool.and_eq_true, decide_eq_true_iff] at h
  exact h.2
def AffectedSpecCalls : Prop := ∀ (A : Option Addr) (n c : Nat) (X : List Lk) (A' : Option Addr) (n' c' : Nat) (raw : List Cr) (cs : List Ch) (w : World), lSl w w.heap.size A n c X → cSl w w.heap.size A' n' c' raw → ChOks w raw cs →
  Calls Try.prog 5 #[.agg #[.slice A n c], .slice A' n' c'] w fun e w' => e = .returned (.bool true) ∧ Below w.heap.size w w'
set_option maxRecDepth 100000 in
set_option maxHeartbeats 4000000 in
theorem affectedSpec_calls : AffectedSpecCalls := by
  intro A n c X A' n' c' raw cs w hl hc hcs
  have HL := hidp hl
  have HC := hidp hc
  have HCS := hidp hcs
  obtain ⟨W0, hW0⟩ : ∃ W0, w.alloc (.cells #[.slice A n c] 28) = W0 := ⟨_, rfl⟩
  have hBW : Below w.heap.size w W0 := by rw [← hW0]; exact (Below.refl _ w).alloc (Nat.le_refl _) _
  have g0 : W0.heap[w.heap.size]? = some (.cells #[.slice A n c] 28 (0, 0)) := by rw [← hW0]; exact World.alloc_heap_new _ _
  have HW0 := hidp hW0
  have G0 := hidp g0
  have HBW := hidp hBW
  clear hW0 g0 hBW hl hc hcs
  go_enter Try.func5, Try.ntmps5
  go_wp2_with fail
  rw [HW0.out]
  refine (sane35_any W0).mono ?_
  rintro e w1 ⟨rfl, hb1⟩
  have l0 := lt_of_heap G0.out
  have d0 := cell_of_heap (o := 0) ((hb1.block _ l0).trans G0.out)
  simp only [List.getElem?_toArray, List.getElem?_cons_zero] at d0
  have l1 := lt_of_cell d0
  have hB1 := HBW.out.trans (hb1.mono HBW.out.size)
  have HC1 := hidp (HC.out.keep cStable hB1.size hB1.block)
  go_wp2_with fail
  refine (few35_any A n c A' n' c' raw w1 HC1.out).mono ?_
  rintro e w2 ⟨rfl, hb2⟩
  obtain ⟨z, hz⟩ : ∃ z, fewX n n' raw = z := ⟨_, rfl⟩
  rw [hz]
  have hB2 := hB1.trans (hb2.mono hB1.size)
  cases z
  · clear d0 l1
    go_wp2_with fail
    go_ret
    exact ⟨rfl, hB2⟩
  · obtain ⟨h60, h12⟩ := fewX_bd hz
    have hM : ∀ W, Below w2.heap.size w2 W → W.cell? ⟨w.heap.size, 0, none⟩ = some (.slice A n c) ∧ w.heap.size < W.heap.size ∧ lSl W W.heap.size A n c X ∧ cSl W W.heap.size A' n' c' raw ∧ ChOks W raw cs := fun W hW => by
      have h1 : Below w1.heap.size w1 W := hb2.trans (hW.mono hb2.size)
      have hw : Below w.heap.size w W := hB2.trans (hW.mono hB2.size)
      exact ⟨by rw [(bcell h1).1 _ _ l1]; exact d0, Nat.lt_of_lt_of_le l1 h1.size, HL.out.keep lStable hw.size hw.block, HC.out.keep cStable hw.size hw.block, HCS.out.below hw⟩
    have HM := hidp hM
    have HB2 := hidp hB2
    clear hM hB2 hB1 hb1 hb2 d0 hz
    go_wp2_with fail
    refine wp_region_S w2.heap.size 8 (fun _ => false) (Nat.le_refl _) (by kernel_rfl) (by kernel_rfl) (by kernel_rfl) ?_
    dsimp only [List.take, List.drop]
    apply relS_det (mask := []) (x := .agg #[.slice A n c])
    · rfl
    · kernel_rfl
    · kernel_rfl
    · dsimp only [oblS]
      rintro w9 h9
      obtain ⟨m0, m1, ml, mc, mo⟩ := HM.out w9 h9
      go_simp
      exact ⟨Below.refl _ _, rfl⟩
    dsimp only [List.nil_append, List.cons_append]
    apply relS_det (mask := [false])
    · rfl
    · kernel_rfl
    · kernel_rfl
    · dsimp only [oblS]
      rintro w9 h9
      go_simp
      exact ⟨Below.refl _ _, rfl⟩
    dsimp only [List.nil_append, List.cons_append]
    apply relS_any (mask := [true, true]) (T := InT (affL X cs)) (hT := InT_stable _)
    · rfl
    · kernel_rfl
    · kernel_rfl
    · dsimp only [oblS]
      rintro w9 h9 T' hT'
      obtain ⟨m0, m1, ml, mc, mo⟩ := HM.out w9 h9
      go_simp
      refine (xAffected_any A n c X A' n' c' raw cs w9 ml mc mo (by omega) (by omega)).mono ?_
      rintro e w3 ⟨A9, n9, c9, rfl, q1, q2⟩
      exact ⟨_, rfl, q2, hT' _ _ ⟨A9, n9, c9, rfl, q1⟩⟩
    dsimp only [List.nil_append, List.cons_append]
    apply relS_det (mask := [false, false, false]) (x := .agg #[.slice A n c])
    · rfl
    · kernel_rfl
    · kernel_rfl
    · dsimp only [oblS]
      rintro w9 h9
      obtain ⟨m0, m1, ml, mc, mo⟩ := HM.out w9 h9
      go_simp
      exact ⟨Below.refl _ _, rfl⟩
    dsimp only [List.nil_append, List.cons_append]
    apply relS_det (mask := [false, false, false, false])
    · rfl
    · kernel_rfl
    · kernel_rfl
    · dsimp only [oblS]
      rintro w9 h9
      go_simp
      exact ⟨Below.refl _ _, rfl⟩
    dsimp only [List.nil_append, List.cons_append]
    apply relS_any (mask := [false, false, false, true, true]) (T := InT (affL X cs)) (hT := InT_stable _)
    · rfl
    · kernel_rfl
    · kernel_rfl
    · dsimp only [oblS]
      rintro w9 h9 T' hT'
      obtain ⟨m0, m1, ml, mc, mo⟩ := HM.out w9 h9
      go_simp
      refine (qAffected_any A n c X A' n' c' raw cs w9 ml mc mo (by omega) (by omega)).mono ?_
      rintro e w3 ⟨A9, n9, c9, rfl, q1, q2⟩
      exact ⟨_, rfl, q2, hT' _ _ ⟨A9, n9, c9, rfl, q1⟩⟩
    dsimp only [List.nil_append, List.cons_append]
    apply relS_det (mask := [false, false, true, false, false, true]) (x := .bool true)
    · rfl
    · kernel_rfl
    · kernel_rfl
    · dsimp only [oblS]
      intro v13 v16
      rintro w9 ⟨⟨h9, t13⟩, t16⟩
      obtain ⟨Aa, na, ca, rfl, h1⟩ := t13
      obtain ⟨Ab, nb, cb, rfl, h2⟩ := t16
      go_simp
      refine (qSameInts_any _ _ _ _ _ _ _ _ w9 h1 h2).mono ?_
      rintro e w3 ⟨rfl, hb3⟩
      exact ⟨_, rfl, hb3, by rw [decide_eq_true rfl]; rfl⟩
    dsimp only [List.nil_append, List.cons_append]
    apply relS_det (mask := [false, false, false, false, false, false, true])
    · rfl
    · kernel_rfl
    · kernel_rfl
    · dsimp only [oblS]
      rintro w9 h9
      go_simp
      exact ⟨Below.refl _ _, rfl⟩
    dsimp only [List.nil_append, List.cons_append]
    refine relS_end (by rfl) ?_
    dsimp only [finS]
    -- rintro v13 v16 w8 ⟨⟨hb, t13⟩, t16⟩
    rintro v13 v16 w4 ⟨⟨hb4, -⟩, -⟩
    go_frame
    go_wp2_with fail
    go_ret
    exact ⟨rfl, HB2.out.trans (hb4.mono HB2.out.size)⟩
end Go.Proofs.Ytologegkbcedhaa
