import Derived.Test.YtefjigjjanjlkaaT3
import Derived.Shelf.Abstract
namespace Go.Proofs.Ytefjigjjanjlkaa
open Go.RowKit Go.Shelf
attribute [local go_sem] Oper.semAt_some

def Mt.ovP (p : Mt × Mt) : Bool := decide (p.1.day = p.2.day) && decide (max p.1.fr p.2.fr < min p.1.to p.2.to) && decide (max p.1.first p.2.first ≤ min p.1.last p.2.last)
def checkM (l : List Mt) : Int := if 16 < l.length ∨ l.all Mt.ok = false ∨ (pairsTo l l.length).any Mt.ovP = true then 220 else 0

theorem all_false_of {α : Type} {p : α → Bool} {l : List α} {k : Nat} {x : α} (h : l[k]? = some x) (hp : p x = false) : l.all p = false := by
  rw [List.all_eq_false]
  exact ⟨x, List.mem_of_getElem? h, by simp [hp]⟩

set_option maxRecDepth 100000 in
set_option maxHeartbeats 2000000 in
theorem check_any (A : Option Addr) (n c : Nat) (l : List Mt) (w : World) (hl : MSl w w.heap.size A n c l) :
    Calls Try.prog 17 #[.slice A n c] w fun e w' => e = .returned (.int .i64 (checkM l)) ∧ Below w.heap.size w w' := by
  refine calls_of_wp_marks Try.func17 rfl ?_
  simp only [Try.ntmps17, List.size_toArray, List.length_cons, List.length_nil, Nat.reduceAdd, Nat.reduceSub, Array.replicate_succ, Array.replicate_zero, List.push_toArray, List.append_toArray, List.nil_append, List.cons_append]
  by_cases hn : n ≤ 16
  · have HN := hidp hl.1
    go_wp2_with fail
    go_loopw [4, 12] (fun _ i wr => ∃ k : Nat, k ≤ n ∧ i = .int .i64 k ∧ (l.take k).all Mt.ok = true ∧ Below w.heap.size w wr ∧ wr.heap[w.heap.size]? = some (.cells #[.int .i64 0] 25 (0, 0))) (fun _ i _ => n - (intOf i).toNat)
    case atStart => exact ⟨0, by omega, rfl, rfl, (Below.refl _ _).alloc (Nat.le_refl _) _, World.alloc_heap_new _ _⟩
    case round =>
      obtain ⟨k, hk, rfl, hall, hbe, hbx⟩ := hrel
      have c5 := cell_of_heap (o := 0) hbx
      have f5 := frozen_of_heap (o := 0) hbx
      simp only [List.getElem?_toArray, List.getElem?_cons_zero] at c5
      have hw5 := lt_of_heap hbx
      have HA := hidp hall
      by_cases hlt : k < n
      · obtain ⟨b, off, m, rfl, hb, hzk, c0, c1, c2, c3, c4⟩ := MSl.get (hl.below mStable hbe) hlt
        have HZ := hidp hzk
        have HB := hidp hbx
        clear hzk hall hbx
        go_wp2_with (go_at_call 30; refine (valid_any m _).mono ?_; rintro e w1 ⟨rfl, hb1⟩; obtain ⟨hc1, hf1⟩ := bcell hb1; have hz1 := hb1.size)
        · have hok : m.ok = false := by first | assumption | simpa using ‹(!m.ok) = true›
          have hbw : Below w.heap.size w w1 := (hbe.alloc hbe.size _).trans (hb1.mono (by simp; omega))
          refine leave_plain (.inl rfl) (v := .int .i64 220) ?_ rfl ⟨ret_int ?_, hbw.setCell (p := ⟨w.heap.size, 0, none⟩) (Nat.le_refl _) _⟩
          · have hq : (w1.setCell ⟨w.heap.size, 0, none⟩ (.int .i64 220)).cell? ⟨w.heap.size, 0, none⟩ = some (.int .i64 220) := World.cell?_setCell_same' _ _ _ (by rw [hc1 _ _ (by simp; omega), World.cell?_alloc_lt _ _ _ hw5, c5]; rfl)
            simp [results, Try.f17, go_sem, hq]
          · simp [checkM, all_false_of HZ.out hok]
        · have hok : m.ok = true := by first | assumption | simpa using ‹(!m.ok) = false›
          go_roundw
          case rel => exact ⟨k + 1, by omega, by go_num, by rw [take_snoc HZ.out, List.all_append, HA.out]; simp [hok], (hbe.alloc hbe.size _).trans (hb1.mono (by simp; omega)), (hb1.block _ (by simp; omega)).trans ((Below.heap_alloc _ _ _ hw5).trans HB.out)⟩
          case measure => simp [intOf]; omega
      · obtain rfl : k = n := by omega
        clear hall
        go_wp2_with (go_at_call 31; refine (pairs_any _ _ _ _).mono ?_; rintro e w1 ⟨rfl, rfl⟩)
        have hbp := World.alloc_heap_new wr (.cells #[.slice A k c] 22)
        have hs5 : (wr.alloc (.cells #[.slice A k c] 22)).heap[w.heap.size]? = some (.cells #[.int .i64 0] 25 (0, 0)) := (Below.heap_alloc _ _ _ hw5).trans hbx
        have hB1 : Below w.heap.size w (wr.alloc (.cells #[.slice A k c] 22)) := hbe.alloc hbe.size _
        have hz1 : (wr.alloc (.cells #[.slice A k c] 22)).heap.size = wr.heap.size + 1 := by simp
        have hseq := pairs1_seq wr.heap.size w.heap.size A k c l _ (cell_of_heap hbp) (hl.below mStable hB1)
        obtain ⟨w1, hw1⟩ : ∃ w1, wr.alloc (.cells #[.slice A k c] 22) = w1 := ⟨_, rfl⟩
        rw [hw1] at hs5 hB1 hz1 hbp hseq ⊢
        refine wp_rangeM (gf := 38) (lb := #[.pointer (some ⟨wr.heap.size, 0, none⟩)]) rfl (enters_of Try.func38 (by kernel_rfl) rfl) hseq (fun b => b = w.heap.size) ?S (fun _ => rfl) ?M
          (fun pre W => W.heap[w.heap.size]? = some (.cells #[.int .i64 0] 25 (0, 0)) ∧ pre.any Mt.ovP = false ∧ Below w.heap.size w W)
          (fun cd W => cd = .ret ∧ W.heap[w.heap.size]? = some (.cells #[.int .i64 220] 25 (0, 0)) ∧ (pairsTo l k).any Mt.ovP = true ∧ Below w.heap.size w W)
          ?hI ?hIx ?h0 (fun ll pre x a' W => ∃ B1 B2 : Nat, W.heap[w.heap.size]? = some (.cells #[.int .i64 0] 25 (0, 0)) ∧ pre.any Mt.ovP = false ∧ Below w.heap.size w W ∧
              B1 ≠ ll ∧ B2 ≠ ll ∧ w.heap.size < B1 ∧ w.heap.size < B2 ∧ W.heap[B1]? = some (.cells #[.int .i64 x.1.day, .int .i64 x.1.fr, .int .i64 x.1.to, .int .i64 x.1.first, .int .i64 x.1.last] 38 (0, 0)) ∧ W.heap[B2]? = some (.cells #[.int .i64 x.2.day, .int .i64 x.2.fr, .int .i64 x.2.to, .int .i64 x.2.first, .int .i64 x.2.last] 38 (0, 0)) ∧
              a' = { tmps := #[.slice A k c, undef, .pointer (some ⟨w.heap.size, 0, none⟩), undef, u4, .pointer (some ⟨B1, 0, none⟩), .pointer (some ⟨B2, 0, none⟩), .slice A k c, .int .i64 ↑k, .bool (decide (16 < (k : Int))), .slice A k c, .int .i64 ↑k, .int .i64 ↑k, .bool false, u14, u15, u16, u17, u18, u19,
                .slice A k c, .func (.func 38) #[] #[.pointer (some ⟨wr.heap.size, 0, none⟩)], .agg #[.int .i64 x.1.day, .int .i64 x.1.fr, .int .i64 x.1.to, .int .i64 x.1.first, .int .i64 x.1.last], .agg #[.int .i64 x.2.day, .int .i64 x.2.fr, .int .i64 x.2.to, .int .i64 x.2.first, .int .i64 x.2.last], undef, undef, undef], defers := [] })
          ?hAx ?assign ?body ?done ?stop
        case S => rintro b (hb | rfl) <;> exact ⟨by omega, rfl, by omega⟩
        case M => rintro b rfl; omega
        case hI => rintro pre W1 W2 ⟨h1, h2, h3⟩ hk; exact ⟨(hk.block _ (lt_of_heap h1) (by omega)).trans h1, h2, h3.trans (hk.toBelow h3.size (by omega))⟩
        case hIx => rintro cd W1 W2 ⟨rfl, h1, h2, h3⟩ hk; exact ⟨rfl, (hk.block _ (lt_of_heap h1) (by omega)).trans h1, h2, h3.trans (hk.toBelow h3.size (by omega))⟩
        case h0 => exact ⟨hs5, rfl, hB1⟩
        case hAx =>
          rintro ll pre x a' W2 W3 hll ⟨B1, B2, h1, h2, h3, h4, h5, h6, h7, h8, h9, rfl⟩ _ hk
          exact ⟨B1, B2, (hk.block _ (lt_of_heap h1) (by omega)).trans h1, h2, h3.trans (hk.toBelow h3.size (by omega)), h4, h5, h6, h7, (hk.block _ (lt_of_heap h8) h4).trans h8, (hk.block _ (lt_of_heap h9) h5).trans h9, rfl⟩
        case assign =>
          rintro ll m pre x suf W1 K hll hlt _ ⟨h1, h2, h3⟩ hK
          have hz := lt_of_heap h1
          gi_wp2
          refine hK _ _ (((Kept.refl _ _).alloc _).alloc _) ⟨W1.heap.size, W1.heap.size + 1, ?_, h2, (h3.alloc h3.size _).alloc (by have := h3.size; simp; omega) _, by omega, by omega, hz, by omega, ?_, ?_, rfl⟩
          · rw [Below.heap_alloc _ _ _ (by simp; omega), Below.heap_alloc _ _ _ hz]; exact h1
          · rw [Below.heap_alloc _ _ _ (by simp)]; exact World.alloc_heap_new _ _
          · have := World.alloc_heap_new (W1.alloc (.cells #[.int .i64 x.1.day, .int .i64 x.1.fr, .int .i64 x.1.to, .int .i64 x.1.first, .int .i64 x.1.last] 38)) (.cells #[.int .i64 x.2.day, .int .i64 x.2.fr, .int .i64 x.2.to, .int .i64 x.2.first, .int .i64 x.2.last] 38)
            rwa [World.size_alloc] at this
        case body =>
          rintro ll m pre x suf a' W2 hll hxs ⟨B1, B2, h1, h2, h3, h4, h5, h6, h7, h8, h9, rfl⟩ _
          have hz := lt_of_heap h1
          have c0 := cell_of_heap (o := 0) h1
          have f0 := frozen_of_heap (o := 0) h1
          have p0 := cell_of_heap (o := 0) h8
          have p1 := cell_of_heap (o := 1) h8
          have p2 := cell_of_heap (o := 2) h8
          have p3 := cell_of_heap (o := 3) h8
          have p4 := cell_of_heap (o := 4) h8
          have q0 := cell_of_heap (o := 0) h9
          have q1 := cell_of_heap (o := 1) h9
          have q2 := cell_of_heap (o := 2) h9
          have q3 := cell_of_heap (o := 3) h9
          have q4 := cell_of_heap (o := 4) h9
          simp only [List.getElem?_toArray, List.getElem?_cons_zero, List.getElem?_cons_succ] at c0 p0 p1 p2 p3 p4 q0 q1 q2 q3 q4
          have H1 := hidp h1
          have H2 := hidp h2
          have HX := hidp hxs
          clear h1 h2 h8 h9 hxs hbx hs5 hbp hw1 c5 f5
          gi_wp2_with fail
          refine ⟨trivial, fun h => by simp [Fence.wide] at h, (CallsIn.inRound ll (callsIn_wide.2 (overlaps_any x.1 x.2 _))).mono ?_⟩
          rintro e w3 ⟨rfl, hb3⟩
          obtain ⟨hc3, hf3⟩ := bcell hb3
          have hz3 := hb3.size
          have HV : Hid ((decide (x.1.day = x.2.day) && decide (max x.1.fr x.2.fr < min x.1.to x.2.to) && decide (max x.1.first x.2.first ≤ min x.1.last x.2.last)) = Mt.ovP x) := rfl
          rw [HV.out]
          gi_wp2_with fail
          · have hv : Mt.ovP x = true := by assumption
            have k1 := (hb3.block w.heap.size hz).trans H1.out
            refine ⟨(kept_of_below (M := fun b => b = w.heap.size) hb3 (by omega)).setCell (p := ⟨w.heap.size, 0, none⟩) (.inl rfl) _, rfl, heap_set1 k1 _, ?_, (h3.trans (hb3.mono h3.size)).setCell (p := ⟨w.heap.size, 0, none⟩) (Nat.le_refl _) _⟩
            rw [HX.out, List.any_append, List.any_cons, hv]; simp
          · have hv : Mt.ovP x = false := by assumption
            refine ⟨kept_of_below (M := fun b => b = w.heap.size) hb3 (by omega), (hb3.block w.heap.size hz).trans H1.out, ?_, h3.trans (hb3.mono h3.size)⟩
            rw [List.any_append, List.any_cons, hv, H2.out]; rfl
        case done =>
          rintro D W hD hlt ⟨h1, h2, h3⟩ hk
          have c0 := cell_of_heap (o := 0) h1
          have f0 := frozen_of_heap (o := 0) h1
          simp only [List.getElem?_toArray, List.getElem?_cons_zero] at c0
          have hz := lt_of_heap h1
          have H1 := hidp h1
          have H2 := hidp h2
          have HK := hidp hk
          clear h1 h2 hk
          go_wp2
          have hq : (W.setCell ⟨w.heap.size, 0, none⟩ (.int .i64 0)).cell? ⟨w.heap.size, 0, none⟩ = some (.int .i64 0) := World.cell?_setCell_same' _ _ _ (by rw [c0]; rfl)
          have hD' : (W.setCell ⟨w.heap.size, 0, none⟩ (.int .i64 0)).heap[D]? = some (.deferred (some [])) := (Below.heap_setCell _ _ _ _ (by simp; omega)).trans HK.out
          refine leave_mark (.inl rfl) (D := D) hD' rfl (v := .int .i64 0) ?_ ⟨ret_int ?_, ((h3.setCell (p := ⟨w.heap.size, 0, none⟩) (Nat.le_refl _) _).trans (((Kept.refl (fun b => b = D) _).putObj (r := D) (.inl rfl) _).toBelow (by simp [World.setCell]; omega) (by omega)))⟩
          · rw [← cell_putObj (D := D) (by omega) (.deferred none)] at hq
            simp [results, Try.f17, go_sem, hq]
          · simp [checkM, ← HN.out, H2.out]
            have := HA.out
            rw [List.take_of_length_le (by rw [← HN.out]; omega)] at this
            simpa [hn] using this
        case stop =>
          rintro D cd W hD hlt ⟨rfl, h1, h2, h3⟩ hk
          have c0 := cell_of_heap (o := 0) h1
          simp only [List.getElem?_toArray, List.getElem?_cons_zero] at c0
          have H1 := hidp h1
          have H2 := hidp h2
          have HK := hidp hk
          clear h1 h2 hk
          go_wp2
          refine leave_mark (.inl rfl) (D := D) HK.out rfl (v := .int .i64 220) ?_ ⟨ret_int ?_, h3.trans (((Kept.refl (fun b => b = D) _).putObj (r := D) (.inl rfl) _).toBelow (by omega) (by omega))⟩
          · rw [← cell_putObj (D := D) (by omega) (.deferred none)] at c0
            simp [results, Try.f17, go_sem, c0]
          · simp [checkM, ← HN.out, H2.out]
  · go_wp2_with fail
    refine leave_plain (.inl rfl) (v := .int .i64 220) ?_ rfl ⟨ret_int ?_, (Below.refl _ _).alloc (Nat.le_refl _) _⟩
    · simp [results, Try.f17, go_sem]
    · simp [checkM, ← hl.1]; omega
end Go.Proofs.Ytefjigjjanjlkaa
