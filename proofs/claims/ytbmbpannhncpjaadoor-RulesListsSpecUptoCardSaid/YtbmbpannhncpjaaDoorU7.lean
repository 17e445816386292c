/- rules.Check, rules.Depth. -/
import Derived.Test.YtbmbpannhncpjaaDoorU5
import Derived.Test.YtbmbpannhncpjaaDoorPut
import Derived.Shelf.Abstract
namespace Go.Proofs.YtbmbpannhncpjaaDoor
open Go.RowKit Go.Sort Go.Shelf
attribute [local go_sem] Oper.semAt_some

theorem checkL_append : ∀ (k : Nat) (l m : List DRu), checkL k (l ++ m) = (checkL k l && checkL (k + l.length) m)
  | k, [], m => by simp [checkL]
  | k, x :: l, m => by
    rw [List.cons_append, checkL, checkL_append (k + 1) l m, checkL]
    simp only [List.length_cons, Bool.and_assoc, show k + 1 + l.length = k + (l.length + 1) by omega]
theorem checkL_len : ∀ (k : Nat) (l : List DRu), checkL k l = true → l = [] ∨ k + l.length ≤ 200
  | k, [], _ => .inl rfl
  | k, x :: l, h => by
    rw [checkL] at h
    simp only [Bool.and_eq_true, decide_eq_true_eq] at h
    rcases checkL_len (k + 1) l h.2 with rfl | h2
    · right; simp; omega
    · right; simp; omega
theorem checkL_no {pre suf : List DRu} {x : DRu} (h : (decide (pre.length + 1 ≤ 200) && decide (x.1 ≤ 16) && formedB x.2) = false) : checkL 0 (pre ++ x :: suf) = false := by
  rw [checkL_append, checkL]
  simp only [Nat.zero_add] at *
  rw [h]; simp
theorem checkL_yes {pre : List DRu} {x : DRu} (h0 : checkL 0 pre = true) (h : (decide (pre.length + 1 ≤ 200) && decide (x.1 ≤ 16) && formedB x.2) = true) : checkL 0 (pre ++ [x]) = true := by
  rw [checkL_append, checkL, h0]
  simp only [Nat.zero_add] at *
  rw [h]; simp [checkL]

/-- Every part of a rule in memory has as many kids as its header says. -/
theorem ru_kn (h : Nat) : ∀ (dep : Int) (x : Ru) (W : World) (n₀ : Nat), RuIn h W n₀ x → ∀ y ∈ partsD dep x, y.2.kn = y.2.kids.length := by
  induction h using Nat.strongRecOn with
  | _ h ih =>
    intro dep x W n₀ hr y hy
    rw [partsD_eq] at hy
    rcases List.mem_cons.1 hy with rfl | hy
    · exact hr.len
    · have : ∀ (l : List Ru), (∀ z ∈ l, z ∈ x.kids) → y ∈ partsL (wrap64 (dep + 1)) l → y.2.kn = y.2.kids.length := by
        intro l
        induction l with
        | nil => intro _ h; simp [partsL] at h
        | cons z l ihl =>
          intro hl hm
          rw [partsL] at hm
          rcases List.mem_append.1 hm with hm | hm
          · obtain ⟨i, hi⟩ := List.mem_iff_getElem?.1 (hl z (by simp))
            have hin : i < x.kn := by rw [hr.len]; exact (List.getElem?_eq_some_iff.1 hi).1
            obtain ⟨h', b, off, y', rfl, he, hb, hky, hry, _⟩ := hr.get hin
            rw [hi] at hky
            cases hky
            exact ih h' (Nat.lt_succ_self _) _ z W n₀ hry y hm
          · exact ihl (fun z' hz' => hl z' (by simp [hz'])) hm
      exact this x.kids (fun z hz => hz) hy

set_option maxRecDepth 100000 in
set_option maxHeartbeats 4000000 in
theorem uCheck_any (h : Nat) (x : Ru) (w : World) (hr : RuIn h w w.heap.size x) (hkk : KindsAt w) :
    Calls Tryd.prog 20 #[.agg #[.int .i64 x.op, .int .i64 x.course, .string x.name, .int .i64 x.n, .int .i64 x.d, .slice x.kA x.kn x.kc]] w fun e w' => e = .returned (.int .i64 (okOr (checkB x) 120)) ∧ Below w.heap.size w w' := by
  have hKN := ru_kn h 1 x w w.heap.size hr
  refine calls_of_wp_marks Tryd.func20 rfl ?_
  simp only [Tryd.ntmps20, List.size_toArray, List.length_cons, List.length_nil, Nat.reduceAdd, Nat.reduceSub, Array.replicate_succ, Array.replicate_zero, List.push_toArray, List.append_toArray, List.nil_append, List.cons_append]
  obtain ⟨W0, hW0⟩ : ∃ W0, ((w.alloc (ruCells x)).alloc (.cells #[.int .i64 0] 32)).alloc (.cells #[.int .i64 0] 3) = W0 := ⟨_, rfl⟩
  have hBW : Below w.heap.size w W0 := by rw [← hW0]; exact (((Below.refl _ w).alloc (Nat.le_refl _) _).alloc (by simp) _).alloc (by simp; omega) _
  have hz0 : W0.heap.size = w.heap.size + 3 := by rw [← hW0]; simp
  obtain ⟨B2, hB2⟩ : ∃ b, w.heap.size + 1 = b := ⟨_, rfl⟩
  obtain ⟨B3, hB3⟩ : ∃ b, B2 + 1 = b := ⟨_, rfl⟩
  have g1 : W0.heap[w.heap.size]? = some (ruCells x) := by
    rw [← hW0, Below.heap_alloc _ _ _ (by simp; omega), Below.heap_alloc _ _ _ (by simp)]
    exact World.alloc_heap_new _ _
  have g2 : W0.heap[B2]? = some (.cells #[.int .i64 0] 32 (0, 0)) := by
    rw [← hW0, Below.heap_alloc _ _ _ (by simp; omega)]
    have := World.alloc_heap_new (w.alloc (ruCells x)) (.cells #[.int .i64 0] 32)
    rwa [World.size_alloc, hB2] at this
  have g3 : W0.heap[B3]? = some (.cells #[.int .i64 0] 3 (0, 0)) := by
    rw [← hW0]
    have := World.alloc_heap_new ((w.alloc (ruCells x)).alloc (.cells #[.int .i64 0] 32)) (.cells #[.int .i64 0] 3)
    rwa [World.size_alloc, World.size_alloc, hB2, hB3] at this
  have HW0 := hidp hW0
  have HB2 := hidp hB2
  have HB3 := hidp hB3
  have HZ0 := hidp hz0
  have G2 := hidp g2
  have G3 := hidp g3
  have x0 := cell_of_heap (o := 0) g1
  have x1 := cell_of_heap (o := 1) g1
  have x2 := cell_of_heap (o := 2) g1
  have x3 := cell_of_heap (o := 3) g1
  have x4 := cell_of_heap (o := 4) g1
  have x5 := cell_of_heap (o := 5) g1
  simp only [List.getElem?_toArray, List.getElem?_cons_zero, List.getElem?_cons_succ] at x0 x1 x2 x3 x4 x5
  have l1 := lt_of_heap g1
  have HKN := hidp hKN
  clear hW0 hB2 hB3 hz0 g1 g2 g3 hKN
  go_wp2_with fail
  rw [show (((w.alloc (.cells #[.int .i64 x.op, .int .i64 x.course, .string x.name, .int .i64 x.n, .int .i64 x.d, .slice x.kA x.kn x.kc] 24)).alloc (.cells #[.int .i64 0] 32)).alloc (.cells #[.int .i64 0] 3)) = W0 from HW0.out, HB2.out, HB3.out]
  refine (uparts_any x W0).mono ?_
  rintro e w1 ⟨rfl, hw1⟩
  go_wp2_with fail
  have hb1 : w1.heap[W0.heap.size]? = some (ruCells x) := by
    rw [← hw1, Below.heap_alloc _ _ _ (by simp)]; exact World.alloc_heap_new _ _
  have hb2 : w1.heap[W0.heap.size + 1]? = some (.cells #[.func (.func 51) #[] #[.pointer (some ⟨W0.heap.size + 1, 0, none⟩)]] 82 (0, 0)) := by
    rw [← hw1]
    have := World.alloc_heap_new (W0.alloc (ruCells x)) (.cells #[.func (.func 51) #[] #[.pointer (some ⟨W0.heap.size + 1, 0, none⟩)]] 82)
    rwa [World.size_alloc] at this
  have hBe : Below W0.heap.size W0 w1 := by rw [← hw1]; exact ((Below.refl _ W0).alloc (Nat.le_refl _) _).alloc (by simp) _
  have hz1 : w1.heap.size = W0.heap.size + 2 := by rw [← hw1]; simp
  have k2 := (hBe.block _ (lt_of_heap G2.out)).trans G2.out
  have k3 := (hBe.block _ (lt_of_heap G3.out)).trans G3.out
  have hB1w : Below w.heap.size w w1 := hBW.trans (hBe.mono hBW.size)
  have hseq := parts2_seq (W0.heap.size + 1) W0.heap.size w.heap.size h x w1 (cell_of_heap hb2) hb1 (hr.below hB1w)
  obtain ⟨z0, z0'⟩ : W0.heap.size ≤ w.heap.size + 3 ∧ w.heap.size + 3 ≤ W0.heap.size := by have := HZ0.out; omega
  obtain ⟨y2, y2'⟩ : w.heap.size + 1 ≤ B2 ∧ B2 ≤ w.heap.size + 1 := by have := HB2.out; omega
  obtain ⟨y3, y3'⟩ : B2 + 1 ≤ B3 ∧ B3 ≤ B2 + 1 := by have := HB3.out; omega
  obtain ⟨y4, y4'⟩ : w1.heap.size ≤ W0.heap.size + 2 ∧ W0.heap.size + 2 ≤ w1.heap.size := by omega
  have hk1 := hkk.below hB1w hkk.lt
  have lk := hkk.lt
  have K2 := hidp k2
  have K3 := hidp k3
  clear hb1 hb2 hw1 k2 k3 G2 G3 HW0 hz1 HZ0 HB2 HB3 x0 x1 x2 x3 x4 x5
  refine wp_rangeM (gf := 52) (lb := #[.pointer (some ⟨W0.heap.size + 1, 0, none⟩), .pointer (some ⟨W0.heap.size, 0, none⟩)]) rfl (enters_of Tryd.func52 (by kernel_rfl) rfl) hseq (fun b => b = B2 ∨ b = B3) ?S (fun _ => rfl) ?M
    (fun pre W => W.heap[B2]? = some (.cells #[.int .i64 0] 32 (0, 0)) ∧ W.heap[B3]? = some (.cells #[.int .i64 pre.length] 3 (0, 0)) ∧ checkL 0 pre = true ∧ KindsAt W ∧ Below w.heap.size w W)
    (fun c W => c = .ret ∧ W.heap[B2]? = some (.cells #[.int .i64 120] 32 (0, 0)) ∧ checkB x = false ∧ Below w.heap.size w W)
    ?hI ?hIx ?h0 (fun ll pre y a' W => ∃ (B5 : Nat), W.heap[B2]? = some (.cells #[.int .i64 0] 32 (0, 0)) ∧ W.heap[B3]? = some (.cells #[.int .i64 pre.length] 3 (0, 0)) ∧ checkL 0 pre = true ∧ KindsAt W ∧ Below w.heap.size w W ∧
        B5 ≠ ll ∧ B3 < B5 ∧ W.heap[B5]? = some (.cells #[.int .i64 y.2.op, .int .i64 y.2.course, .string y.2.name, .int .i64 y.2.n, .int .i64 y.2.d, .slice y.2.kA y.2.kn y.2.kc] 24 (0, 0)) ∧
        a' = { tmps := #[.agg #[.int .i64 x.op, .int .i64 x.course, .string x.name, .int .i64 x.n, .int .i64 x.d, .slice x.kA x.kn x.kc], .pointer (some ⟨w.heap.size, 0, none⟩), .pointer (some ⟨B2, 0, none⟩), .pointer (some ⟨B3, 0, none⟩), .int .i64 y.1, .pointer (some ⟨B5, 0, none⟩), .agg #[.int .i64 x.op, .int .i64 x.course, .string x.name, .int .i64 x.n, .int .i64 x.d, .slice x.kA x.kn x.kc], .func (.func 52) #[] #[.pointer (some ⟨W0.heap.size + 1, 0, none⟩), .pointer (some ⟨W0.heap.size, 0, none⟩)], .int .i64 y.1, .agg #[.int .i64 y.2.op, .int .i64 y.2.course, .string y.2.name, .int .i64 y.2.n, .int .i64 y.2.d, .slice y.2.kA y.2.kn y.2.kc], undef, undef, undef, undef, undef, undef, undef, undef, undef, undef, undef, undef, undef], defers := [] })
    ?hAx ?assign ?body ?done ?stop
  case S =>
    have hs := hBW.size
    rintro b (hb | rfl | rfl) <;> exact ⟨by omega, rfl, by omega⟩
  case M => rintro b (rfl | rfl) <;> omega
  case hI =>
    rintro pre W1 W2 ⟨h1, h2, h3, h4, h5⟩ hk
    exact ⟨(hk.block _ (lt_of_heap h1) (by omega)).trans h1, (hk.block _ (lt_of_heap h2) (by omega)).trans h2, h3, h4.keep (hk.block _ h4.lt (by omega)), h5.trans (hk.toBelow h5.size (by omega))⟩
  case hIx =>
    rintro cd W1 W2 ⟨h1, h2, h3, h5⟩ hk
    exact ⟨h1, (hk.block _ (lt_of_heap h2) (by omega)).trans h2, h3, h5.trans (hk.toBelow h5.size (by omega))⟩
  case h0 => exact ⟨K2.out, K3.out, rfl, hk1, hB1w⟩
  case hAx =>
    rintro ll pre y a' W2 W3 hll ⟨B5, h1, h2, h3, h4, h5, h6, h7, h8, rfl⟩ _ hk
    exact ⟨B5, (hk.block _ (lt_of_heap h1) (by omega)).trans h1, (hk.block _ (lt_of_heap h2) (by omega)).trans h2, h3, h4.keep (hk.block _ h4.lt (by omega)), h5.trans (hk.toBelow h5.size (by omega)), h6, h7, (hk.block _ (lt_of_heap h8) h6).trans h8, rfl⟩
  case assign =>
    rintro ll m pre y suf W1 K hll hlt _ ⟨h1, h2, h3, h4, h5⟩ hK
    have l1 := lt_of_heap h1
    have l2 := lt_of_heap h2
    have H3 := hidp h3
    have H4 := hidp h4
    clear h3 h4
    simp only [duEnc]
    gi_wp2
    exact hK _ _ ((Kept.refl _ _).alloc _) ⟨W1.heap.size, (Below.heap_alloc _ _ _ l1).trans h1, (Below.heap_alloc _ _ _ l2).trans h2, H3.out, H4.out.keep (Below.heap_alloc _ _ _ H4.out.lt), h5.alloc h5.size _, by omega, by omega, World.alloc_heap_new _ _, rfl⟩
  case body =>
    rintro ll m pre y suf a' W2 hll hxs ⟨B5, h1, h2, h3, h4, h5, h6, h7, h8, rfl⟩ _
    have hpl : pre.length ≤ 200 := by
      rcases checkL_len 0 pre h3 with h | h
      · simp [h]
      · omega
    have l1 := lt_of_heap h1
    have l2 := lt_of_heap h2
    have l3 := lt_of_heap h8
    have e0 := cell_of_heap (o := 0) h1
    have f0 := frozen_of_heap (o := 0) h1
    have e1 := cell_of_heap (o := 0) h2
    have f1 := frozen_of_heap (o := 0) h2
    have w3 := heap_set1 h2 (.int .i64 ((pre.length : Int) + 1))
    have e2 := cell_of_heap (o := 0) w3
    have r0 := cell_of_heap (o := 0) (heap_set_ne h8 (show B5 ≠ B3 by omega) 0 (.int .i64 ((pre.length : Int) + 1)))
    have r1 := cell_of_heap (o := 1) (heap_set_ne h8 (show B5 ≠ B3 by omega) 0 (.int .i64 ((pre.length : Int) + 1)))
    have r2 := cell_of_heap (o := 2) (heap_set_ne h8 (show B5 ≠ B3 by omega) 0 (.int .i64 ((pre.length : Int) + 1)))
    have r3 := cell_of_heap (o := 3) (heap_set_ne h8 (show B5 ≠ B3 by omega) 0 (.int .i64 ((pre.length : Int) + 1)))
    have r4 := cell_of_heap (o := 4) (heap_set_ne h8 (show B5 ≠ B3 by omega) 0 (.int .i64 ((pre.length : Int) + 1)))
    have r5 := cell_of_heap (o := 5) (heap_set_ne h8 (show B5 ≠ B3 by omega) 0 (.int .i64 ((pre.length : Int) + 1)))
    simp only [List.getElem?_toArray, List.getElem?_cons_zero, List.getElem?_cons_succ] at e0 e1 e2 r0 r1 r2 r3 r4 r5
    have hk4 : KindsAt (W2.setCell ⟨B3, 0, none⟩ (.int .i64 ((pre.length : Int) + 1))) := h4.keep (Below.heap_setCell _ _ _ _ (by show 0 ≠ B3; omega))
    have g2 := heap_set_ne h1 (show B2 ≠ B3 by omega) 0 (.int .i64 ((pre.length : Int) + 1))
    have hBs : Below w.heap.size w (W2.setCell ⟨B3, 0, none⟩ (.int .i64 ((pre.length : Int) + 1))) := h5.setCell (by show _ ≤ B3; omega) _
    have hKs : Kept (fun b => b = B2 ∨ b = B3) W2 (W2.setCell ⟨B3, 0, none⟩ (.int .i64 ((pre.length : Int) + 1))) := (Kept.refl _ _).setCell (.inl (.inr rfl)) _
    have hz : (W2.setCell ⟨B3, 0, none⟩ (.int .i64 ((pre.length : Int) + 1))).heap.size = W2.heap.size := by simp [World.setCell]
    have HZ := hidp hz
    have H3 := hidp h3
    have HXS := hidp hxs
    have W3 := hidp w3
    have G2 := hidp g2
    have HK4 := hidp hk4
    have hyk := HKN.out y (by rw [hxs]; simp)
    have HYK := hidp hyk
    have hfm := formedB_eq y.2
    rw [← hyk] at hfm
    have HFM := hidp hfm
    clear h1 h2 h3 h4 h8 w3 hz hxs g2 hk4 hyk hfm
    by_cases c1 : pre.length < 200
    · by_cases c2 : y.1 ≤ 16
      · obtain ⟨q, hq⟩ : ∃ q, formedV y.2.op y.2.course y.2.n y.2.d y.2.kn = q := ⟨_, rfl⟩
        have hF := fun W hW => uformed_any y.2.op y.2.course y.2.n y.2.d y.2.name y.2.kA y.2.kn y.2.kc W hW
        rw [hq] at hF
        have HF := hidp hF
        have HQ := hidp hq
        clear hF hq
        cases q
        · have HR : Hid (checkB x = false) := by
            show _ = _
            rw [checkB, HXS.out]
            exact checkL_no (by rw [HFM.out, HQ.out]; simp)
          gi_wp2_with fail
          refine ⟨trivial, fun h => by simp [Fence.wide] at h, CallsIn.inRound ll (callsIn_wide.2 ((HF.out _ HK4.out).mono ?_))⟩
          rintro e w5 ⟨rfl, hb5⟩
          have gq := (hb5.block B2 (by rw [HZ.out]; exact l1)).trans G2.out
          have gq3 := (hb5.block B3 (by rw [HZ.out]; exact l2)).trans W3.out
          have hbq : Below w.heap.size w w5 := hBs.trans (hb5.mono (by rw [HZ.out]; exact h5.size))
          have hKq : Kept (fun b => b = B2 ∨ b = B3) W2 w5 := hKs.trans (kept_of_below hb5 (fun b h1 h2 => by omega))
          have e9 := cell_of_heap (o := 0) gq
          have f9 := frozen_of_heap (o := 0) gq
          simp only [List.getElem?_toArray, List.getElem?_cons_zero] at e9
          have l9 := lt_of_heap gq
          clear e0 e1 e2 f0 f1 r0 r1 r2 r3 r4 r5
          gi_wp2_with fail
          exact ⟨hKq.setCell (.inl (.inl rfl)) _, rfl, heap_set1 gq _, HR.out, hbq.setCell (by show _ ≤ B2; omega) _⟩
        · have HR : Hid (checkL 0 (pre ++ [y]) = true) := checkL_yes H3.out (by rw [HFM.out, HQ.out]; simp; omega)
          gi_wp2_with fail
          refine ⟨trivial, fun h => by simp [Fence.wide] at h, CallsIn.inRound ll (callsIn_wide.2 ((HF.out _ HK4.out).mono ?_))⟩
          rintro e w5 ⟨rfl, hb5⟩
          have gq := (hb5.block B2 (by rw [HZ.out]; exact l1)).trans G2.out
          have gq3 := (hb5.block B3 (by rw [HZ.out]; exact l2)).trans W3.out
          have hbq : Below w.heap.size w w5 := hBs.trans (hb5.mono (by rw [HZ.out]; exact h5.size))
          have hKq : Kept (fun b => b = B2 ∨ b = B3) W2 w5 := hKs.trans (kept_of_below hb5 (fun b h1 h2 => by omega))
          have hkq : KindsAt w5 := HK4.out.keep (hb5.block 0 HK4.out.lt)
          clear e0 e1 e2 f0 f1 r0 r1 r2 r3 r4 r5
          gi_wp2_with fail
          exact ⟨hKq, gq, by rw [List.length_append]; exact gq3, HR.out, hkq, hbq⟩
      · have HR : Hid (checkB x = false) := by
          show _ = _
          rw [checkB, HXS.out]
          exact checkL_no (by simp [c2])
        gi_wp2_with fail
        refine ⟨trivial, ?_⟩
        have gq := G2.out
        have hbq := hBs
        have hKq := hKs
        have e9 := cell_of_heap (o := 0) gq
        have f9 := frozen_of_heap (o := 0) gq
        simp only [List.getElem?_toArray, List.getElem?_cons_zero] at e9
        have l9 := lt_of_heap gq
        clear e0 e1 e2 f0 f1 r0 r1 r2 r3 r4 r5
        gi_wp2_with fail
        exact ⟨hKq.setCell (.inl (.inl rfl)) _, rfl, heap_set1 gq _, HR.out, hbq.setCell (by show _ ≤ B2; omega) _⟩
    · have HR : Hid (checkB x = false) := by
        show _ = _
        rw [checkB, HXS.out]
        exact checkL_no (by simp; omega)
      gi_wp2_with fail
      refine ⟨trivial, ?_⟩
      have gq := G2.out
      have hbq := hBs
      have hKq := hKs
      have e9 := cell_of_heap (o := 0) gq
      have f9 := frozen_of_heap (o := 0) gq
      simp only [List.getElem?_toArray, List.getElem?_cons_zero] at e9
      have l9 := lt_of_heap gq
      clear e0 e1 e2 f0 f1 r0 r1 r2 r3 r4 r5
      gi_wp2_with fail
      exact ⟨hKq.setCell (.inl (.inl rfl)) _, rfl, heap_set1 gq _, HR.out, hbq.setCell (by show _ ≤ B2; omega) _⟩
  case done =>
    rintro D W hD hlt ⟨h1, h2, h3, h4, h5⟩ hk
    have HK := hidp hk
    have l2 := lt_of_heap h1
    have e0 := cell_of_heap (o := 0) h1
    have f0 := frozen_of_heap (o := 0) h1
    simp only [List.getElem?_toArray, List.getElem?_cons_zero] at e0
    have HR : Hid (checkB x = true) := h3
    have H1 := hidp h1
    clear h1 h2 h3 h4 hk hseq
    go_wp2
    have k9 : ((W.setCell ⟨B2, 0, none⟩ (.int .i64 0)).putObj D (.deferred none)).cell? ⟨B2, 0, none⟩ = some (.int .i64 0) := by
      rw [cell_putObj (by omega), cell_of_heap (heap_set1 H1.out _)]; rfl
    have hBs : Below w.heap.size w (W.setCell ⟨B2, 0, none⟩ (.int .i64 0)) := h5.setCell (by show _ ≤ B2; omega) _
    refine leave_mark (.inl rfl) (D := D) (heap_set_ne HK.out (show D ≠ B2 by omega) 0 _) rfl (v := .int .i64 0) ?_ ⟨ret_int (by rw [HR.out]; rfl), hBs.trans (((Kept.refl (fun b => b = D) _).putObj (r := D) (.inl rfl) (.deferred none)).toBelow hBs.size (by omega))⟩
    simp [results, Tryd.f20, go_sem, k9]
  case stop =>
    rintro D c W hD hlt ⟨rfl, h2, h3, h5⟩ hk
    have e0 := cell_of_heap (o := 0) h2
    simp only [List.getElem?_toArray, List.getElem?_cons_zero] at e0
    have HK := hidp hk
    have HR := hidp h3
    have H2 := hidp h2
    have hBD := h5.trans (((Kept.refl (fun b => b = D) W).putObj (r := D) (.inl rfl) (.deferred none)).toBelow h5.size (by omega))
    clear h2 h3 hk hseq
    go_wp2
    have k9 : (W.putObj D (.deferred none)).cell? ⟨B2, 0, none⟩ = some (.int .i64 120) := by
      rw [cell_putObj (by omega), cell_of_heap H2.out]; rfl
    refine leave_mark (.inl rfl) (D := D) HK.out rfl (v := .int .i64 120) ?_ ⟨ret_int (by rw [HR.out]; rfl), hBD⟩
    simp [results, Tryd.f20, go_sem, k9]
end Go.Proofs.YtbmbpannhncpjaaDoor
