/- rules.Depth (printed by tools/gen74.py). -/
import Derived.Test.YtbmbpannhncpjaaDoorU7
namespace Go.Proofs.YtbmbpannhncpjaaDoor
open Go.RowKit Go.Sort Go.Shelf
attribute [local go_sem] Oper.semAt_some

def maxD (l : List DRu) : Int := l.foldl (fun n y => max n y.1) 0
theorem maxD_snoc (l : List DRu) (y : DRu) : maxD (l ++ [y]) = max (maxD l) y.1 := by simp [maxD]

set_option maxRecDepth 100000 in
set_option maxHeartbeats 4000000 in
theorem uDepth_any (h : Nat) (x : Ru) (w : World) (hr : RuIn h w w.heap.size x) :
    Calls Tryd.prog 26 #[.agg #[.int .i64 x.op, .int .i64 x.course, .string x.name, .int .i64 x.n, .int .i64 x.d, .slice x.kA x.kn x.kc]] w fun e w' => e = .returned (.int .i64 (maxD (partsD 1 x))) ∧ Below w.heap.size w w' := by
  refine calls_of_wp_marks Tryd.func26 rfl ?_
  simp only [Tryd.ntmps26, List.size_toArray, List.length_cons, List.length_nil, Nat.reduceAdd, Nat.reduceSub, Array.replicate_succ, Array.replicate_zero, List.push_toArray, List.append_toArray, List.nil_append, List.cons_append]
  obtain ⟨W0, hW0⟩ : ∃ W0, (w.alloc (ruCells x)).alloc (.cells #[.int .i64 0] 3) = W0 := ⟨_, rfl⟩
  have hBW : Below w.heap.size w W0 := by rw [← hW0]; exact ((Below.refl _ w).alloc (Nat.le_refl _) _).alloc (by simp) _
  have hz0 : W0.heap.size = w.heap.size + 2 := by rw [← hW0]; simp
  obtain ⟨B2, hB2⟩ : ∃ b, w.heap.size + 1 = b := ⟨_, rfl⟩
  have g1 : W0.heap[w.heap.size]? = some (ruCells x) := by
    rw [← hW0, Below.heap_alloc _ _ _ (by simp)]
    exact World.alloc_heap_new _ _
  have g2 : W0.heap[B2]? = some (.cells #[.int .i64 0] 3 (0, 0)) := by
    rw [← hW0]
    have := World.alloc_heap_new (w.alloc (ruCells x)) (.cells #[.int .i64 0] 3)
    rwa [World.size_alloc, hB2] at this
  have HW0 := hidp hW0
  have HB2 := hidp hB2
  have HZ0 := hidp hz0
  have G2 := hidp g2
  have x0 := cell_of_heap (o := 0) g1
  have x1 := cell_of_heap (o := 1) g1
  have x2 := cell_of_heap (o := 2) g1
  have x3 := cell_of_heap (o := 3) g1
  have x4 := cell_of_heap (o := 4) g1
  have x5 := cell_of_heap (o := 5) g1
  simp only [List.getElem?_toArray, List.getElem?_cons_zero, List.getElem?_cons_succ] at x0 x1 x2 x3 x4 x5
  have l1 := lt_of_heap g1
  clear hW0 hB2 hz0 g1 g2
  go_wp2_with fail
  rw [show ((w.alloc (.cells #[.int .i64 x.op, .int .i64 x.course, .string x.name, .int .i64 x.n, .int .i64 x.d, .slice x.kA x.kn x.kc] 24)).alloc (.cells #[.int .i64 0] 3)) = W0 from HW0.out, HB2.out]
  refine (uparts_any x W0).mono ?_
  rintro e w1 ⟨rfl, hw1⟩
  go_wp2_with fail
  have hb1 : w1.heap[W0.heap.size]? = some (ruCells x) := by
    rw [← hw1, Below.heap_alloc _ _ _ (by simp)]; exact World.alloc_heap_new _ _
  have hb2 : w1.heap[W0.heap.size + 1]? = some (.cells #[.func (.func 51) #[] #[.pointer (some ⟨W0.heap.size + 1, 0, none⟩)]] 82 (0, 0)) := by
    rw [← hw1]
    have := World.alloc_heap_new (W0.alloc (ruCells x)) (.cells #[.func (.func 51) #[] #[.pointer (some ⟨W0.heap.size + 1, 0, none⟩)]] 82)
    rwa [World.size_alloc] at this
  have hBe : Below W0.heap.size W0 w1 := by rw [← hw1]; exact ((Below.refl _ W0).alloc (Nat.le_refl _) _).alloc (by simp) _
  have hz1 : w1.heap.size = W0.heap.size + 2 := by rw [← hw1]; simp
  have k2 := (hBe.block _ (lt_of_heap G2.out)).trans G2.out
  have hB1w : Below w.heap.size w w1 := hBW.trans (hBe.mono hBW.size)
  have hseq := parts2_seq (W0.heap.size + 1) W0.heap.size w.heap.size h x w1 (cell_of_heap hb2) hb1 (hr.below hB1w)
  obtain ⟨z0, z0'⟩ : W0.heap.size ≤ w.heap.size + 2 ∧ w.heap.size + 2 ≤ W0.heap.size := by have := HZ0.out; omega
  obtain ⟨y2, y2'⟩ : w.heap.size + 1 ≤ B2 ∧ B2 ≤ w.heap.size + 1 := by have := HB2.out; omega
  obtain ⟨y4, y4'⟩ : w1.heap.size ≤ W0.heap.size + 2 ∧ W0.heap.size + 2 ≤ w1.heap.size := by omega
  have K2 := hidp k2
  clear hb1 hb2 hw1 k2 G2 HW0 hz1 HZ0 HB2 x0 x1 x2 x3 x4 x5
  refine wp_rangeM (gf := 52) (lb := #[.pointer (some ⟨W0.heap.size + 1, 0, none⟩), .pointer (some ⟨W0.heap.size, 0, none⟩)]) rfl (enters_of Tryd.func52 (by kernel_rfl) rfl) hseq (fun b => b = B2) ?S (fun _ => rfl) ?M
    (fun pre W => W.heap[B2]? = some (.cells #[.int .i64 (maxD pre)] 3 (0, 0)) ∧ Below w.heap.size w W)
    (fun _ _ => False)
    ?hI ?hIx ?h0 (fun ll pre y a' W => W.heap[B2]? = some (.cells #[.int .i64 (maxD pre)] 3 (0, 0)) ∧ Below w.heap.size w W ∧
        a' = { tmps := #[.agg #[.int .i64 x.op, .int .i64 x.course, .string x.name, .int .i64 x.n, .int .i64 x.d, .slice x.kA x.kn x.kc], .pointer (some ⟨w.heap.size, 0, none⟩), .pointer (some ⟨B2, 0, none⟩), .int .i64 y.1, .agg #[.int .i64 x.op, .int .i64 x.course, .string x.name, .int .i64 x.n, .int .i64 x.d, .slice x.kA x.kn x.kc], .func (.func 52) #[] #[.pointer (some ⟨W0.heap.size + 1, 0, none⟩), .pointer (some ⟨W0.heap.size, 0, none⟩)], .int .i64 y.1, .agg #[.int .i64 y.2.op, .int .i64 y.2.course, .string y.2.name, .int .i64 y.2.n, .int .i64 y.2.d, .slice y.2.kA y.2.kn y.2.kc], undef, undef, undef, undef], defers := [] })
    ?hAx ?assign ?body ?done ?stop
  case S =>
    have hs := hBW.size
    rintro b (hb | rfl | rfl) <;> exact ⟨by omega, rfl, by omega⟩
  case M => rintro b rfl; omega
  case hI =>
    rintro pre W1 W2 ⟨h1, h5⟩ hk
    exact ⟨(hk.block _ (lt_of_heap h1) (by omega)).trans h1, h5.trans (hk.toBelow h5.size (by omega))⟩
  case hIx => rintro cd W1 W2 h; exact h.elim
  case h0 => exact ⟨K2.out, hB1w⟩
  case hAx =>
    rintro ll pre y a' W2 W3 hll ⟨h1, h5, rfl⟩ _ hk
    exact ⟨(hk.block _ (lt_of_heap h1) (by omega)).trans h1, h5.trans (hk.toBelow h5.size (by omega)), rfl⟩
  case assign =>
    rintro ll m pre y suf W1 K hll hlt _ ⟨h1, h5⟩ hK
    simp only [duEnc]
    gi_wp2
    exact hK _ _ (Kept.refl _ _) ⟨h1, h5, rfl⟩
  case body =>
    rintro ll m pre y suf a' W2 hll hxs ⟨h1, h5, rfl⟩ _
    have l1 := lt_of_heap h1
    have e0 := cell_of_heap (o := 0) h1
    have f0 := frozen_of_heap (o := 0) h1
    simp only [List.getElem?_toArray, List.getElem?_cons_zero] at e0
    obtain ⟨n, hn⟩ : ∃ n, maxD pre = n := ⟨_, rfl⟩
    rw [hn] at e0
    have H1 := hidp h1
    have HN := hidp hn
    clear h1 hxs hn
    rcases Int.lt_or_le n y.1 with hlt | hle
    · gi_wp2_with fail
      exact ⟨(Kept.refl (fun b => b = B2) W2).setCell (p := ⟨B2, 0, none⟩) (.inl rfl) _, by rw [maxD_snoc, HN.out, show max n y.1 = y.1 by omega]; exact heap_set1 H1.out _, h5.setCell (by show _ ≤ B2; omega) _⟩
    · gi_wp2_with fail
      exact ⟨(Kept.refl (fun b => b = B2) W2).setCell (p := ⟨B2, 0, none⟩) (.inl rfl) _, by rw [maxD_snoc, HN.out, show max n y.1 = n by omega]; exact heap_set1 H1.out _, h5.setCell (by show _ ≤ B2; omega) _⟩
  case done =>
    rintro D W hD hlt ⟨h1, h5⟩ hk
    have HK := hidp hk
    have l2 := lt_of_heap h1
    have e0 := cell_of_heap (o := 0) h1
    have f0 := frozen_of_heap (o := 0) h1
    simp only [List.getElem?_toArray, List.getElem?_cons_zero] at e0
    have H1 := hidp h1
    clear h1 hk hseq
    go_wp2
    have k9 : ((W.setCell ⟨B2, 0, none⟩ (.int .i64 (maxD (partsD 1 x)))).putObj D (.deferred none)).cell? ⟨B2, 0, none⟩ = some (.int .i64 (maxD (partsD 1 x))) := by
      rw [cell_putObj (by omega), cell_of_heap (heap_set1 H1.out _)]; rfl
    have hBs : Below w.heap.size w (W.setCell ⟨B2, 0, none⟩ (.int .i64 (maxD (partsD 1 x)))) := h5.setCell (by show _ ≤ B2; omega) _
    refine leave_mark (.inl rfl) (D := D) (heap_set_ne HK.out (show D ≠ B2 by omega) 0 _) rfl (v := .int .i64 (maxD (partsD 1 x))) ?_ ⟨rfl, hBs.trans (((Kept.refl (fun b => b = D) _).putObj (r := D) (.inl rfl) (.deferred none)).toBelow hBs.size (by omega))⟩
    simp [results, Tryd.f26, go_sem, k9]
  case stop => rintro D cd W hD hlt h; exact h.elim
end Go.Proofs.YtbmbpannhncpjaaDoor
