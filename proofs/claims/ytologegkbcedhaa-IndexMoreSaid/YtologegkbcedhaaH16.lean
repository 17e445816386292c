/- IndexMore walked. Regions printed by tools/gen61.py. -/
import Derived.Test.YtologegkbcedhaaH12
import Derived.Test.YtologegkbcedhaaRelK
import Derived.Test.YtologegkbcedhaaClipR
namespace Go.Proofs.Ytologegkbcedhaa
open Go.RowKit Go.Shelf

theorem ChOks.append {W : World} {r1 r2 : List Cr} {c1 c2 : List Ch} (h1 : ChOks W r1 c1) (h2 : ChOks W r2 c2) : ChOks W (r1 ++ r2) (c1 ++ c2) := by
  refine ⟨by simp [h1.1, h2.1], fun i r ch hr hc => ?_⟩
  rcases Nat.lt_or_ge i r1.length with hi | hi
  · rw [List.getElem?_append_left hi] at hr
    rw [List.getElem?_append_left (by rw [← h1.1]; exact hi)] at hc
    exact h1.2 i r ch hr hc
  · rw [List.getElem?_append_right hi] at hr
    rw [List.getElem?_append_right (by rw [← h1.1]; exact hi), ← h1.1] at hc
    exact h2.2 _ r ch hr hc
theorem fewX_bd' {n m : Nat} {raw : List Cr} (h : fewX n m raw = true) : n ≤ 60 ∧ m ≤ 12 := by
  simp only [fewX, Bool.and_eq_true, decide_eq_true_iff] at h
  exact h.2
theorem affL_mem (X : List Lk) (cs : List Ch) (v : Int) : v ∈ affL X cs ↔ ∃ x ∈ X, cs.any (touchC x.1) = true ∧ x.2 = v := by
  rw [affL, ordOf_mem, hitL]
  simp only [List.mem_map, List.mem_filter]
  constructor
  · rintro ⟨x, ⟨h1, h2⟩, h3⟩; exact ⟨x, h1, h2, h3⟩
  · rintro ⟨x, h1, h2, h3⟩; exact ⟨x, ⟨h1, h2⟩, h3⟩
theorem more_or {X : List Lk} {a b : List Ch} {v : Int} (h : v ∈ affL X (a ++ b)) : v ∈ affL X a ∨ v ∈ affL X b := by
  simp only [affL_mem, List.any_append, Bool.or_eq_true] at h ⊢
  obtain ⟨x, h1, h2 | h2, h3⟩ := h
  · exact .inl ⟨x, h1, h2, h3⟩
  · exact .inr ⟨x, h1, h2, h3⟩
theorem more_a {X : List Lk} {a b : List Ch} {v : Int} (h : v ∈ affL X a) : v ∈ affL X (a ++ b) := by
  simp only [affL_mem, List.any_append, Bool.or_eq_true] at h ⊢
  obtain ⟨x, h1, h2, h3⟩ := h
  exact ⟨x, h1, .inl h2, h3⟩
theorem more_b {X : List Lk} {a b : List Ch} {v : Int} (h : v ∈ affL X b) : v ∈ affL X (a ++ b) := by
  simp only [affL_mem, List.any_append, Bool.or_eq_true] at h ⊢
  obtain ⟨x, h1, h2, h3⟩ := h
  exact ⟨x, h1, .inr h2, h3⟩
theorem aff_nil (X : List Lk) : affL X [] = [] := by
  have : hitL X [] = [] := by simp [hitL]
  rw [affL, this]; rfl
theorem aff_gone (X : List Lk) (at' : Int) (cs : List Ch) : at' ∉ affL (replL X at' []) cs := by
  intro h
  rw [affL_mem] at h
  obtain ⟨x, h1, _, h3⟩ := h
  rw [replL, ordL, ordOf_mem] at h1
  simp [linksOf] at h1
  exact h1.2 h3
theorem aff_lt {X : List Lk} {cs : List Ch} {k : Nat} {p v : Int} (hp : (affL X cs)[k]? = some p) (hv : (affL X cs)[k + 1]? = some v) : p < v := by
  have hs := ordOf_str linI (hitL X cs)
  obtain ⟨h1, e1⟩ := List.getElem?_eq_some_iff.1 hp
  obtain ⟨h2, e2⟩ := List.getElem?_eq_some_iff.1 hv
  have := List.pairwise_iff_getElem.1 hs k (k + 1) h1 h2 (by omega)
  have e3 : (affL X cs)[k] = p := e1
  have e4 : (affL X cs)[k + 1] = v := e2
  have h3 : (affL X cs)[k] < (affL X cs)[k + 1] := of_decide_eq_true this
  rw [e3, e4] at h3
  exact h3
theorem has_true {l : List Int} {x : Int} (h : x ∈ l) : (l.any fun y => y == x) = true := by
  rw [List.any_eq_true]; exact ⟨x, h, by simp⟩
theorem has_false {l : List Int} {x : Int} (h : x ∉ l) : (l.any fun y => y == x) = false := by
  rw [List.any_eq_false]
  intro y hy
  simp
  rintro rfl
  exact h hy
theorem replL_len (X : List Lk) (at' : Int) : (replL X at' []).length ≤ X.length := by
  refine Nat.le_trans (ordOf_len _) ?_
  rw [List.length_append, linksOf, List.map_nil, List.length_nil, Nat.add_zero]
  exact List.length_filter_le _ _

/-- An own slice without room. -/
def NilOwn (n : Nat) : VT := fun v w => w.ownsRow n 63 4 v 0 (([] : List Cr).flatMap cEnc) ∧ ∃ A, v = .slice A 0 0
theorem nilOwn_stable (n : Nat) : (NilOwn n).Stable := by
  rintro v w w' hb ⟨h, A, rfl⟩; exact ⟨own_stable _ _ _ _ _ _ _ _ hb h, A, rfl⟩
def MoreCalls : Prop := ∀ (A : Option Addr) (n c : Nat) (X : List Lk) (Aa : Option Addr) (na ca : Nat) (ra : List Cr) (sa : List Ch) (Ab : Option Addr) (nb cb : Nat) (rb : List Cr) (sb : List Ch) (at' : Int) (w : World), lSl w w.heap.size A n c X → cSl w w.heap.size Aa na ca ra → ChOks w ra sa → cSl w w.heap.size Ab nb cb rb → ChOks w rb sb →
  Calls Try.prog 8 #[.agg #[.slice A n c], .slice Aa na ca, .slice Ab nb cb, .int .i64 at'] w fun e w' => e = .returned (.bool true) ∧ Below w.heap.size w w'
set_option maxRecDepth 100000 in
set_option maxHeartbeats 8000000 in
theorem more_calls : MoreCalls := by
  intro A n c X Aa na ca ra sa Ab nb cb rb sb at' w hl ha hsa hb hsb
  obtain ⟨i0, hi, hz, hs, hbb⟩ := info_parts cInfo
  have HL := hidp hl
  have HA := hidp ha
  have HSA := hidp hsa
  have HB := hidp hb
  have HSB := hidp hsb
  have HNX := hidp hl.1
  obtain ⟨W0, hW0⟩ : ∃ W0, w.alloc (.cells #[.slice A n c] 28) = W0 := ⟨_, rfl⟩
  have hBW : Below w.heap.size w W0 := by rw [← hW0]; exact (Below.refl _ w).alloc (Nat.le_refl _) _
  have g0 : W0.heap[w.heap.size]? = some (.cells #[.slice A n c] 28 (0, 0)) := by rw [← hW0]; exact World.alloc_heap_new _ _
  have HW0 := hidp hW0
  have G0 := hidp g0
  have HBW := hidp hBW
  have hca := ha.2.2.1
  have hla := ha.2.1
  have hcb := hb.2.2.1
  have hlb := hb.2.1
  clear hW0 g0 hBW hl ha hsa hb hsb
  go_enter Try.func8, Try.ntmps8
  go_wp2_with fail
  rw [HW0.out]
  refine (sane35_any W0).mono ?_
  rintro e w1 ⟨rfl, hb1⟩
  have l0 := lt_of_heap G0.out
  have d0 := cell_of_heap (o := 0) ((hb1.block _ l0).trans G0.out)
  simp only [List.getElem?_toArray, List.getElem?_cons_zero] at d0
  have l1 := lt_of_cell d0
  have hB1 := HBW.out.trans (hb1.mono HBW.out.size)
  have HA1 := hidp (HA.out.keep cStable hB1.size hB1.block)
  go_wp2_with fail
  refine (few35_any A n c Aa na ca ra w1 HA1.out).mono ?_
  rintro e w2 ⟨rfl, hb2⟩
  obtain ⟨z, hz1⟩ : ∃ z, fewX n na ra = z := ⟨_, rfl⟩
  rw [hz1]
  have hB2 := hB1.trans (hb2.mono hB1.size)
  have d2 : w2.cell? ⟨w.heap.size, 0, none⟩ = some (.slice A n c) := by rw [(bcell hb2).1 _ _ l1]; exact d0
  have l2 := lt_of_cell d2
  cases z
  · clear d0 l1
    go_wp2_with fail
    go_ret
    exact ⟨rfl, hB2⟩
  obtain ⟨hn60, hna⟩ := fewX_bd' hz1
  have HB2' := hidp (HB.out.keep cStable hB2.size hB2.block)
  clear d0 l1 hz1
  go_wp2_with fail
  refine (few35_any A n c Ab nb cb rb w2 HB2'.out).mono ?_
  rintro e w3 ⟨rfl, hb3⟩
  obtain ⟨z, hz2⟩ : ∃ z, fewX n nb rb = z := ⟨_, rfl⟩
  rw [hz2]
  have hB3 := hB2.trans (hb3.mono hB2.size)
  cases z
  · go_wp2_with fail
    go_ret
    exact ⟨rfl, hB3⟩
  have hnb := (fewX_bd' hz2).2
  have hM : ∀ W, Below w3.heap.size w3 W → W.cell? ⟨w.heap.size, 0, none⟩ = some (.slice A n c) ∧ w.heap.size < W.heap.size ∧ lSl W W.heap.size A n c X ∧ cSl W W.heap.size Aa na ca ra ∧ ChOks W ra sa ∧ cSl W W.heap.size Ab nb cb rb ∧ ChOks W rb sb := fun W hW => by
    have h2 : Below w2.heap.size w2 W := hb3.trans (hW.mono hb3.size)
    have hw : Below w.heap.size w W := hB3.trans (hW.mono hB3.size)
    exact ⟨by rw [(bcell h2).1 _ _ l2]; exact d2, Nat.lt_of_lt_of_le l2 h2.size, HL.out.keep lStable hw.size hw.block, HA.out.keep cStable hw.size hw.block, HSA.out.below hw, HB.out.keep cStable hw.size hw.block, HSB.out.below hw⟩
  have HM := hidp hM
  have HB3 := hidp hB3
  clear hM hB3 hB2 hB1 hb1 hb2 hb3 d2 l2 hz2
  go_wp2_with fail
  refine wp_region_relK w3.heap.size (fun k => k == 5) (fun k => k == 1 || k == 3 || k == 5 || k == 6 || k == 7) (Nat.le_refl _) (by kernel_rfl) (by kernel_rfl) (by kernel_rfl) ?_
  try dsimp only [List.nil_append, List.cons_append]
  refine rel_det (x := .agg #[.slice A n c]) ?_ ?_
  · skip
    intro w9 h9
    refine relAt_wanted (by rfl) ?_
    obtain ⟨m0, m1, -⟩ := HM.out w9 h9
    go_simp
    exact ⟨Below.refl _ _, rfl⟩
  try dsimp only [List.nil_append, List.cons_append]
  refine rel_any (NilOwn w3.heap.size) rfl (nilOwn_stable _) ?_ ?_
  · skip
    iterate 1 refine obl_skip (by kernel_rfl) ?_
    intro w9 hw9
    refine relAt_cps (by rfl) fun T' hT' => ?_
    go_simp
    exact ⟨(Below.refl _ w9).alloc (Nat.le_refl _) _, hT' _ _ ⟨World.ownsRow_made w9 #[] 0 hw9.size (by decide) (by simp), _, rfl⟩⟩
  try dsimp only [List.nil_append, List.cons_append]
  refine rel_det (x := .slice Aa na ca) ?_ ?_
  · skip
    iterate 2 refine obl_skip (by kernel_rfl) ?_
    intro w9 h9
    refine relAt_wanted (by rfl) ?_
    go_simp
    exact ⟨Below.refl _ _, rfl⟩
  try dsimp only [List.nil_append, List.cons_append]
  refine rel_any (fun v w => w.ownsRow w3.heap.size 63 4 v (0 + na) ((([] : List Cr) ++ ra).flatMap cEnc)) rfl (own_stable _ _ _ _ _) ?_ ?_
  · skip
    iterate 1 refine obl_skip (by kernel_rfl) ?_
    refine obl_var (by kernel_rfl) fun _ => ?_
    refine obl_det (by kernel_rfl) ?_
    rintro w9 ⟨hw, hown, A0, rfl⟩
    refine relAt_wanted (by rfl) ?_
    obtain ⟨m0, m1, ml, mca, msa, mcb, msb⟩ := HM.out w9 hw
    rcases Nat.eq_zero_or_pos na with h0 | h0
    · subst h0
      have hra : ra = [] := List.eq_nil_of_length_eq_zero mca.1.symm
      subst hra
      exact relUpon_append (.tmp 28) (.tmp 29) 41 rfl rfl rfl (run_append_none Try.underlying41 hi (fun _ => rfl) (Nat.le_refl _)) (Below.refl _ w9) hown
    · obtain ⟨A6, c6, hA6, hr6⟩ := own_rows cEnc_len (by decide) hown
      injection hA6 with q1 q2 q3
      subst q1 q3
      obtain ⟨v', w', hrun, hown', hb'⟩ := run_append_clip (P := Try.prog) (ty := 41) (enc := cEnc) Try.underlying41 hi hz hs hbb rfl cEnc_len (by decide) cEnc_one hr6 mca h0 (by omega) (by omega)
      exact relUpon_append (.tmp 28) (.tmp 29) 41 rfl rfl rfl hrun hb' (own_monoB hown' hw.size)
  try dsimp only [List.nil_append, List.cons_append]
  refine rel_det (x := .slice Ab nb cb) ?_ ?_
  · skip
    iterate 4 refine obl_skip (by kernel_rfl) ?_
    intro w9 h9
    refine relAt_wanted (by rfl) ?_
    go_simp
    exact ⟨Below.refl _ _, rfl⟩
  try dsimp only [List.nil_append, List.cons_append]
  refine rel_any (fun v w => w.ownsRow w3.heap.size 63 4 v (0 + na + nb) ((([] : List Cr) ++ ra ++ rb).flatMap cEnc)) rfl (own_stable _ _ _ _ _) ?_ ?_
  · skip
    iterate 3 refine obl_skip (by kernel_rfl) ?_
    refine obl_var (by kernel_rfl) fun _ => ?_
    refine obl_det (by kernel_rfl) ?_
    rintro w9 ⟨hw, hown⟩
    refine relAt_wanted (by rfl) ?_
    obtain ⟨m0, m1, ml, mca, msa, mcb, msb⟩ := HM.out w9 hw
    obtain ⟨v', w', hrun, hown', hg, hat⟩ := run_append_rows (P := Try.prog) (ty := 41) (enc := cEnc) Try.underlying41 hi hz hs hbb rfl cEnc_len (by decide) cEnc_one hown mcb (by omega) (by omega) hw.size
    exact relUpon_append (.tmp 30) (.tmp 31) 41 rfl rfl rfl hrun ((Below.refl _ w9).grown hg hw.size (fun g hg => (hown.lt g hg).1)) hown'
  try dsimp only [List.nil_append, List.cons_append]
  refine rel_any (InT (affL X (sa ++ sb))) rfl (InT_stable _) ?_ ?_
  · skip
    refine obl_det (by kernel_rfl) ?_
    iterate 4 refine obl_skip (by kernel_rfl) ?_
    refine obl_var (by kernel_rfl) fun _ => ?_
    rintro w9 ⟨hw, hown⟩
    refine relAt_cps (by rfl) fun T' hT' => ?_
    obtain ⟨m0, m1, ml, mca, msa, mcb, msb⟩ := HM.out w9 hw
    obtain ⟨A5, c5, rfl, r5⟩ := own_rows cEnc_len (by decide) hown
    have hsab := msa.append msb
    go_simp
    have r5' := r5
    simp only [Nat.zero_add] at r5'
    refine (xAffected_any A n c X A5 (na + nb) c5 (ra ++ rb) (sa ++ sb) w9 ml r5' hsab (by omega) (by omega)).mono ?_
    rintro e w5 ⟨A9, n9, c9, rfl, q1, q2⟩
    exact ⟨_, rfl, q2, hT' _ _ ⟨A9, n9, c9, rfl, q1⟩⟩
  try dsimp only [List.nil_append, List.cons_append]
  refine rel_any (InT (affL X (sa ++ sb))) rfl (InT_stable _) ?_ ?_
  · skip
    iterate 6 refine obl_skip (by kernel_rfl) ?_
    refine obl_var (by kernel_rfl) fun _ => ?_
    rintro w9 ⟨hw, A9, n9, c9, rfl, q1⟩
    refine relAt_cps (by rfl) fun T' hT' => ?_
    go_simp
    exact ⟨Below.refl _ _, hT' _ _ ⟨A9, n9, c9, rfl, q1⟩⟩
  try dsimp only [List.nil_append, List.cons_append]
  iterate 7 refine fin_dead fun _ => ?_
  refine fin_var rfl fun v9 => ?_
  rintro w4 ⟨hb4, A9, n9, c9, rfl, r9⟩
  go_frame
  have hM4 : ∀ W, Below w4.heap.size w4 W → W.cell? ⟨w.heap.size, 0, none⟩ = some (.slice A n c) ∧ w.heap.size < W.heap.size ∧ lSl W W.heap.size A n c X ∧ cSl W W.heap.size Aa na ca ra ∧ ChOks W ra sa ∧ cSl W W.heap.size Ab nb cb rb ∧ ChOks W rb sb ∧ iSl W W.heap.size A9 n9 c9 (affL X (sa ++ sb)) := fun W hW => by
    obtain ⟨m0, m1, ml, mca, msa, mcb, msb⟩ := HM.out W (hb4.trans (hW.mono hb4.size))
    exact ⟨m0, m1, ml, mca, msa, mcb, msb, r9.keep iStable hW.size hW.block⟩
  have HM4 := hidp hM4
  have HB4 := hidp (HB3.out.trans (hb4.mono HB3.out.size))
  have hc9 := r9.2.2.1
  have hl9 := r9.2.1
  have HN9 := hidp r9.1
  clear hM4 HM r9 hb4
  go_wp2_with fail
  refine wp_region_S w4.heap.size 8 (fun _ => false) (Nat.le_refl _) (by kernel_rfl) (by kernel_rfl) (by kernel_rfl) ?_
  dsimp only [List.take, List.drop]
  apply relS_det (mask := []) (x := .agg #[.slice A n c])
  · rfl
  · kernel_rfl
  · kernel_rfl
  · dsimp only [oblS]
    rintro w9 h9
    obtain ⟨m0, m1, ml, mca, msa, mcb, msb, m9⟩ := HM4.out w9 h9
    go_simp
    exact ⟨Below.refl _ _, rfl⟩
  dsimp only [List.nil_append, List.cons_append]
  apply relS_det (mask := [false])
  · rfl
  · kernel_rfl
  · kernel_rfl
  · dsimp only [oblS]
    rintro w9 h9
    go_simp
    exact ⟨Below.refl _ _, rfl⟩
  dsimp only [List.nil_append, List.cons_append]
  apply relS_any (mask := [true, true]) (T := InT (affL X sa)) (hT := InT_stable _)
  · rfl
  · kernel_rfl
  · kernel_rfl
  · dsimp only [oblS]
    rintro w9 h9 T' hT'
    obtain ⟨m0, m1, ml, mca, msa, mcb, msb, m9⟩ := HM4.out w9 h9
    go_simp
    refine (xAffected_any A n c X Aa na ca ra sa w9 ml mca msa (by omega) (by omega)).mono ?_
    rintro e w3 ⟨A9, n9, c9, rfl, q1, q2⟩
    exact ⟨_, rfl, q2, hT' _ _ ⟨A9, n9, c9, rfl, q1⟩⟩
  dsimp only [List.nil_append, List.cons_append]
  apply relS_det (mask := [false, false, false]) (x := .agg #[.slice A n c])
  · rfl
  · kernel_rfl
  · kernel_rfl
  · dsimp only [oblS]
    rintro w9 h9
    obtain ⟨m0, m1, ml, mca, msa, mcb, msb, m9⟩ := HM4.out w9 h9
    go_simp
    exact ⟨Below.refl _ _, rfl⟩
  dsimp only [List.nil_append, List.cons_append]
  apply relS_det (mask := [false, false, false, false])
  · rfl
  · kernel_rfl
  · kernel_rfl
  · dsimp only [oblS]
    rintro w9 h9
    go_simp
    exact ⟨Below.refl _ _, rfl⟩
  dsimp only [List.nil_append, List.cons_append]
  apply relS_any (mask := [false, false, false, true, true]) (T := InT (affL X sb)) (hT := InT_stable _)
  · rfl
  · kernel_rfl
  · kernel_rfl
  · dsimp only [oblS]
    rintro w9 h9 T' hT'
    obtain ⟨m0, m1, ml, mca, msa, mcb, msb, m9⟩ := HM4.out w9 h9
    go_simp
    refine (xAffected_any A n c X Ab nb cb rb sb w9 ml mcb msb (by omega) (by omega)).mono ?_
    rintro e w3 ⟨A9, n9, c9, rfl, q1, q2⟩
    exact ⟨_, rfl, q2, hT' _ _ ⟨A9, n9, c9, rfl, q1⟩⟩
  dsimp only [List.nil_append, List.cons_append]
  apply relS_any (mask := [false, false, true, false, false, false]) (T := InT (affL X sa)) (hT := InT_stable _)
  · rfl
  · kernel_rfl
  · kernel_rfl
  · dsimp only [oblS]
    intro v36
    rintro w9 ⟨h9, t36⟩ T' hT'
    obtain ⟨A9, n9, c9, rfl, q1⟩ := t36
    go_simp
    exact ⟨Below.refl _ _, hT' _ _ ⟨A9, n9, c9, rfl, q1⟩⟩
  dsimp only [List.nil_append, List.cons_append]
  apply relS_any (mask := [false, false, false, false, false, true, false]) (T := InT (affL X sb)) (hT := InT_stable _)
  · rfl
  · kernel_rfl
  · kernel_rfl
  · dsimp only [oblS]
    intro v39
    rintro w9 ⟨h9, t39⟩ T' hT'
    obtain ⟨A9, n9, c9, rfl, q1⟩ := t39
    go_simp
    exact ⟨Below.refl _ _, hT' _ _ ⟨A9, n9, c9, rfl, q1⟩⟩
  dsimp only [List.nil_append, List.cons_append]
  refine relS_end (by rfl) ?_
  dsimp only [finS]
  -- rintro v36 v39 v10 v11 w8 ⟨⟨⟨⟨hb, t36⟩, t39⟩, t10⟩, t11⟩
  rintro v36 v39 v10 v11 w5 ⟨⟨⟨⟨hb5, -⟩, -⟩, A10, n10, c10, rfl, r10⟩, A11, n11, c11, rfl, r11⟩
  go_frame
  have hM5 : ∀ W, Below w5.heap.size w5 W → (W.cell? ⟨w.heap.size, 0, none⟩ = some (.slice A n c) ∧ w.heap.size < W.heap.size ∧ lSl W W.heap.size A n c X ∧ cSl W W.heap.size Aa na ca ra ∧ ChOks W ra sa) ∧ iSl W W.heap.size A9 n9 c9 (affL X (sa ++ sb)) ∧ iSl W W.heap.size A10 n10 c10 (affL X sa) ∧ iSl W W.heap.size A11 n11 c11 (affL X sb) := fun W hW => by
    obtain ⟨m0, m1, ml, mca, msa, mcb, msb, m9⟩ := HM4.out W (hb5.trans (hW.mono hb5.size))
    exact ⟨⟨m0, m1, ml, mca, msa⟩, m9, r10.keep iStable hW.size hW.block, r11.keep iStable hW.size hW.block⟩
  have HM5 := hidp hM5
  have HB5 := hidp (HB4.out.trans (hb5.mono HB4.out.size))
  have hc10 := r10.2.2.1
  have hl10 := r10.2.1
  have HN10 := hidp r10.1
  have hc11 := r11.2.2.1
  have hl11 := r11.2.1
  have HN11 := hidp r11.1
  clear hM5 HM4 r10 r11 hb5
  go_wp2_with fail
  go_loopw [12] (fun i wr => ∃ k : Nat, k ≤ n9 ∧ i = .int .i64 k ∧ Below w5.heap.size w5 wr) (fun i _ => n9 - (intOf i).toNat)
  case atStart => exact ⟨0, by omega, rfl, Below.refl _ _⟩
  case round =>
    obtain ⟨k, hk, rfl, hbe⟩ := hrel
    obtain ⟨m0, m9, m10, m11⟩ := HM5.out _ hbe
    clear m0
    by_cases hlt : k < n9
    · obtain ⟨bv, ov, v, rfl, hbv, hzv, c0⟩ := iSl.get m9 hlt
      have lv := lt_of_cell c0
      have HV := hidp hzv
      have hkn : (k : Int) < n9 := by omega
      have hor := more_or (List.mem_of_getElem? hzv)
      have HOR := hidp hor
      have hw1 := fun W hW => has_any A10 n10 c10 (affL X sa) v W (HM5.out W hW).2.2.1
      have hw2 := fun W hW => has_any A11 n11 c11 (affL X sb) v W (HM5.out W hW).2.2.2
      obtain ⟨z1, hz1⟩ : ∃ z, ((affL X sa).any fun y => y == v) = z := ⟨_, rfl⟩
      obtain ⟨z2, hz2⟩ : ∃ z, ((affL X sb).any fun y => y == v) = z := ⟨_, rfl⟩
      rw [hz1] at hw1
      rw [hz2] at hw2
      have HZ1 := hidp hz1
      have HZ2 := hidp hz2
      have hno : Hid (z1 = false → z2 = true) := fun h => by
        rcases HOR.out with h' | h'
        · have := has_true h'; rw [HZ1.out, h] at this; cases this
        · rw [← HZ2.out]; exact has_true h'
      have HW1 := hidp hw1
      have HW2 := hidp hw2
      clear hzv hor hz1 hz2 hw1 hw2
      rcases Nat.eq_zero_or_pos k with h0 | h0
      · have hd3 : decide (0 < k) = false := by simp; omega
        have H0 := hidp h0
        clear h0 m10 m11 m9
        cases z1
        · obtain rfl : z2 = true := hno.out rfl
          go_wp2_with fail
          refine wp_region_below wr.heap.size (by kernel_rfl) (by kernel_rfl) ?_
          repeat
            first
            | go_big_quiet_skip
            | (refine q_step (by rfl) ?_
               apply Exists.intro
               refine ⟨fun w9 h9 => ?_, ?_⟩
               · have hc9 := (bcell h9).1
                 go_simp
                 first | done | rfl
               go_simp)
          (refine q_step (by rfl) ?_
           apply Exists.intro
           refine ⟨fun w9 h9 => ?_, ?_⟩
           · have hc9 := (bcell h9).1
             go_simp
             exact calls_below h9 (Nat.le_refl _) ((HW1.out w9 (hbe.trans (h9.mono hbe.size))).mono fun _ _ h => ⟨h.1, by rw [h.2]; exact Below.refl _ _⟩)
           go_simp)
          repeat
            first
            | go_big_quiet_skip
            | (refine q_step (by rfl) ?_
               apply Exists.intro
               refine ⟨fun w9 h9 => ?_, ?_⟩
               · have hc9 := (bcell h9).1
                 go_simp
                 first | done | rfl
               go_simp)
          (refine q_step (by rfl) ?_
           apply Exists.intro
           refine ⟨fun w9 h9 => ?_, ?_⟩
           · have hc9 := (bcell h9).1
             go_simp
             exact calls_below h9 (Nat.le_refl _) ((HW2.out w9 (hbe.trans (h9.mono hbe.size))).mono fun _ _ h => ⟨h.1, by rw [h.2]; exact Below.refl _ _⟩)
           go_simp)
          repeat
            first
            | go_big_quiet_skip
            | (refine q_step (by rfl) ?_
               apply Exists.intro
               refine ⟨fun w9 h9 => ?_, ?_⟩
               · have hc9 := (bcell h9).1
                 go_simp
                 first | done | rfl
               go_simp)
          refine wpQuiet_nil ?_
          intro w9 hb9
          have hbz := hbe.trans (hb9.mono hbe.size)
          go_wp2_with fail
          go_roundw
          case rel => exact ⟨k + 1, by omega, by go_num, hbz⟩
          case measure => simp [intOf]; omega
        · go_wp2_with fail
          refine wp_region_below wr.heap.size (by kernel_rfl) (by kernel_rfl) ?_
          repeat
            first
            | go_big_quiet_skip
            | (refine q_step (by rfl) ?_
               apply Exists.intro
               refine ⟨fun w9 h9 => ?_, ?_⟩
               · have hc9 := (bcell h9).1
                 go_simp
                 first | done | rfl
               go_simp)
          (refine q_step (by rfl) ?_
           apply Exists.intro
           refine ⟨fun w9 h9 => ?_, ?_⟩
           · have hc9 := (bcell h9).1
             go_simp
             exact calls_below h9 (Nat.le_refl _) ((HW1.out w9 (hbe.trans (h9.mono hbe.size))).mono fun _ _ h => ⟨h.1, by rw [h.2]; exact Below.refl _ _⟩)
           go_simp)
          repeat
            first
            | go_big_quiet_skip
            | (refine q_step (by rfl) ?_
               apply Exists.intro
               refine ⟨fun w9 h9 => ?_, ?_⟩
               · have hc9 := (bcell h9).1
                 go_simp
                 first | done | rfl
               go_simp)
          refine wpQuiet_nil ?_
          intro w9 hb9
          have hbz := hbe.trans (hb9.mono hbe.size)
          go_wp2_with fail
          go_roundw
          case rel => exact ⟨k + 1, by omega, by go_num, hbz⟩
          case measure => simp [intOf]; omega
      · have hd3 : decide (0 < k) = true := by simpa using h0
        obtain ⟨bp, op, p, hep, hbp, hzp, p0⟩ := iSl.get (k := k - 1) m9 (by omega)
        simp only [Option.some.injEq, Addr.mk.injEq, and_true] at hep
        obtain ⟨rfl, rfl⟩ := hep
        have hpos : (1 : Int) ≤ k := by omega
        have hin1 : (k : Int) - 1 < n9 := by omega
        have hwrap : IntKind.i64.wrap ((k : Int) - 1) = (k : Int) - 1 := IntWalk.i64_in _ (by omega)
        have hto : ((k : Int) - 1).toNat = k - 1 := by omega
        have hpv : p < v := aff_lt hzp (by rw [show k - 1 + 1 = k by omega]; exact HV.out)
        have hge : decide (v ≤ p) = false := by simpa using hpv
        clear hzp hpv h0 m10 m11 m9
        cases z1
        · obtain rfl : z2 = true := hno.out rfl
          go_wp2_with fail
          refine wp_region_below wr.heap.size (by kernel_rfl) (by kernel_rfl) ?_
          repeat
            first
            | go_big_quiet_skip
            | (refine q_step (by rfl) ?_
               apply Exists.intro
               refine ⟨fun w9 h9 => ?_, ?_⟩
               · have hc9 := (bcell h9).1
                 go_simp
                 first | done | rfl
               go_simp)
          (refine q_step (by rfl) ?_
           apply Exists.intro
           refine ⟨fun w9 h9 => ?_, ?_⟩
           · have hc9 := (bcell h9).1
             go_simp
             exact calls_below h9 (Nat.le_refl _) ((HW1.out w9 (hbe.trans (h9.mono hbe.size))).mono fun _ _ h => ⟨h.1, by rw [h.2]; exact Below.refl _ _⟩)
           go_simp)
          repeat
            first
            | go_big_quiet_skip
            | (refine q_step (by rfl) ?_
               apply Exists.intro
               refine ⟨fun w9 h9 => ?_, ?_⟩
               · have hc9 := (bcell h9).1
                 go_simp
                 first | done | rfl
               go_simp)
          (refine q_step (by rfl) ?_
           apply Exists.intro
           refine ⟨fun w9 h9 => ?_, ?_⟩
           · have hc9 := (bcell h9).1
             go_simp
             exact calls_below h9 (Nat.le_refl _) ((HW2.out w9 (hbe.trans (h9.mono hbe.size))).mono fun _ _ h => ⟨h.1, by rw [h.2]; exact Below.refl _ _⟩)
           go_simp)
          repeat
            first
            | go_big_quiet_skip
            | (refine q_step (by rfl) ?_
               apply Exists.intro
               refine ⟨fun w9 h9 => ?_, ?_⟩
               · have hc9 := (bcell h9).1
                 go_simp
                 first | done | rfl
               go_simp)
          refine wpQuiet_nil ?_
          intro w9 hb9
          have hbz := hbe.trans (hb9.mono hbe.size)
          go_wp2_with fail
          go_roundw
          case rel => exact ⟨k + 1, by omega, by go_num, hbz⟩
          case measure => simp [intOf]; omega
        · go_wp2_with fail
          refine wp_region_below wr.heap.size (by kernel_rfl) (by kernel_rfl) ?_
          repeat
            first
            | go_big_quiet_skip
            | (refine q_step (by rfl) ?_
               apply Exists.intro
               refine ⟨fun w9 h9 => ?_, ?_⟩
               · have hc9 := (bcell h9).1
                 go_simp
                 first | done | rfl
               go_simp)
          (refine q_step (by rfl) ?_
           apply Exists.intro
           refine ⟨fun w9 h9 => ?_, ?_⟩
           · have hc9 := (bcell h9).1
             go_simp
             exact calls_below h9 (Nat.le_refl _) ((HW1.out w9 (hbe.trans (h9.mono hbe.size))).mono fun _ _ h => ⟨h.1, by rw [h.2]; exact Below.refl _ _⟩)
           go_simp)
          repeat
            first
            | go_big_quiet_skip
            | (refine q_step (by rfl) ?_
               apply Exists.intro
               refine ⟨fun w9 h9 => ?_, ?_⟩
               · have hc9 := (bcell h9).1
                 go_simp
                 first | done | rfl
               go_simp)
          refine wpQuiet_nil ?_
          intro w9 hb9
          have hbz := hbe.trans (hb9.mono hbe.size)
          go_wp2_with fail
          go_roundw
          case rel => exact ⟨k + 1, by omega, by go_num, hbz⟩
          case measure => simp [intOf]; omega
    · obtain rfl : n9 = k := by omega
      clear m9 m10 m11
      go_wp2_with fail
      go_loopw [13] (fun i wr => ∃ k : Nat, k ≤ n10 ∧ i = .int .i64 k ∧ Below w5.heap.size w5 wr) (fun i _ => n10 - (intOf i).toNat)
      case atStart => exact ⟨0, by omega, rfl, hbe⟩
      case round =>
        clear hbe
        obtain ⟨k, hk, rfl, hbe⟩ := hrel
        obtain ⟨m0, m9, m10, m11⟩ := HM5.out _ hbe
        by_cases hlt : k < n10
        · obtain ⟨bv, ov, v, rfl, hbv, hzv, c0⟩ := iSl.get m10 hlt
          have lv := lt_of_cell c0
          have hkn : (k : Int) < n10 := by omega
          have hT := has_true (more_a (List.mem_of_getElem? hzv) : v ∈ affL X (sa ++ sb))
          have hcall := has_any A9 n9 c9 (affL X (sa ++ sb)) v _ m9
          rw [hT] at hcall
          have HC := hidp hcall
          clear hzv hT hcall m0 m9 m10 m11
          go_wp2_with fail
          refine HC.out.mono ?_
          rintro e w6 ⟨rfl, rfl⟩
          go_wp2_with fail
          go_roundw
          case rel => exact ⟨k + 1, by omega, by go_num, hbe⟩
          case measure => simp [intOf]; omega
        · obtain rfl : n10 = k := by omega
          clear m0 m9 m10 m11
          go_wp2_with fail
          go_loopw [14] (fun i wr => ∃ k : Nat, k ≤ n11 ∧ i = .int .i64 k ∧ Below w5.heap.size w5 wr) (fun i _ => n11 - (intOf i).toNat)
          case atStart => exact ⟨0, by omega, rfl, hbe⟩
          case round =>
            clear hbe
            obtain ⟨k, hk, rfl, hbe⟩ := hrel
            obtain ⟨⟨m0, m1, ml, mca, msa⟩, m9, m10, m11⟩ := HM5.out _ hbe
            by_cases hlt : k < n11
            · obtain ⟨bv, ov, v, rfl, hbv, hzv, c0⟩ := iSl.get m11 hlt
              have lv := lt_of_cell c0
              have hkn : (k : Int) < n11 := by omega
              have hT := has_true (more_b (List.mem_of_getElem? hzv) : v ∈ affL X (sa ++ sb))
              have hcall := has_any A9 n9 c9 (affL X (sa ++ sb)) v _ m9
              rw [hT] at hcall
              have HC := hidp hcall
              clear hzv hT hcall m0 m1 ml mca msa m9 m10 m11
              go_wp2_with fail
              refine HC.out.mono ?_
              rintro e w6 ⟨rfl, rfl⟩
              go_wp2_with fail
              go_roundw
              case rel => exact ⟨k + 1, by omega, by go_num, hbe⟩
              case measure => simp [intOf]; omega
            · obtain rfl : n11 = k := by omega
              have HML := hidp ml
              clear m9 m10 m11 mca msa ml
              go_wp2_with fail
              refine (xAffected_any A n c X none 0 0 [] [] wr HML.out (Rows.nil (by decide)) (ChOks.nil _) (by omega) (by decide)).mono ?_
              rintro e w6 ⟨A6, n6, c6, rfl, r6, hb6⟩
              rw [aff_nil] at r6
              have hn6 : n6 = 0 := r6.1
              subst hn6
              have hbe6 := hbe.trans (hb6.mono hbe.size)
              obtain ⟨⟨m0', m1', ml', -, -⟩, -, -, -⟩ := HM5.out _ hbe6
              have HML6 := hidp ml'
              clear r6 m0 m1 ml'
              go_wp2_with fail
              refine (xReplace_any A n c X at' zDe [] w6 HML6.out (Rows.nil (by decide)) (by omega) (by decide)).mono ?_
              rintro e w7 ⟨A7, n7, c7, rfl, r7, hb7⟩
              have hbe7 := hbe6.trans (hb7.mono hbe6.size)
              obtain ⟨⟨-, -, -, mca7, msa7⟩, -, -, -⟩ := HM5.out _ hbe7
              have hn7 : n7 ≤ 1000 := by have h1 := r7.1; have h2 := replL_len X at'; have h3 := HNX.out; omega
              have HR7 := hidp r7
              have HMC := hidp mca7
              have HMS := hidp msa7
              clear r7 mca7 msa7 m0' m1' hb6 hb7
              go_wp2_with fail
              refine (xAffected_any A7 n7 c7 _ Aa na ca ra sa w7 HR7.out HMC.out HMS.out hn7 (by omega)).mono ?_
              rintro e w8 ⟨A8, n8, c8, rfl, r8, hb8⟩
              have hF := has_false (aff_gone X at' sa)
              have hcall := has_any A8 n8 c8 _ at' w8 r8
              rw [hF] at hcall
              have HC := hidp hcall
              have hbe8 := hbe7.trans (hb8.mono hbe7.size)
              clear r8 hF hcall hb8
              go_wp2_with fail
              refine HC.out.mono ?_
              rintro e w10 ⟨rfl, rfl⟩
              go_wp2_with fail
              go_ret
              exact ⟨rfl, HB5.out.trans (hbe8.mono HB5.out.size)⟩
end Go.Proofs.Ytologegkbcedhaa
