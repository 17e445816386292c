/- The chapter's examples walked (printed by tools/gen82.py). -/
import Derived.Test.YtbmbpannhncpjaaDoorU19
import Derived.Test.YtbmbpannhncpjaaDoorU13
import Derived.Test.YtbmbpannhncpjaaDoorRelT
namespace Go.Proofs.YtbmbpannhncpjaaDoor
open Go.RowKit Go.Sort

def slT : VT := fun v w => ∃ b, v = .slice (some ⟨b, 0, none⟩) 3 3 ∧ w.heap[b]? = some (.cells #[.int .i64 1, .int .i64 0, .string ⟨#[]⟩, .int .i64 0, .int .i64 0, .slice none 0 0, .int .i64 1, .int .i64 0, .string ⟨#[]⟩, .int .i64 0, .int .i64 0, .slice none 0 0, .int .i64 1, .int .i64 0, .string ⟨#[]⟩, .int .i64 0, .int .i64 0, .slice none 0 0] 24 (0, 0))
theorem slT_stable : slT.Stable := by
  rintro v w w' hb ⟨b, rfl, h⟩
  exact ⟨b, rfl, (hb.block _ (lt_of_heap h)).trans h⟩
def agT : VT := fun v w => ∃ b, v = .agg #[.int .i64 3, .int .i64 0, .string ⟨#[]⟩, .int .i64 2, .int .i64 0, .slice (some ⟨b, 0, none⟩) 3 3] ∧ w.heap[b]? = some (.cells #[.int .i64 1, .int .i64 0, .string ⟨#[]⟩, .int .i64 0, .int .i64 0, .slice none 0 0, .int .i64 1, .int .i64 0, .string ⟨#[]⟩, .int .i64 0, .int .i64 0, .slice none 0 0, .int .i64 1, .int .i64 0, .string ⟨#[]⟩, .int .i64 0, .int .i64 0, .slice none 0 0] 24 (0, 0))
theorem agT_stable : agT.Stable := by
  rintro v w w' hb ⟨b, rfl, h⟩
  exact ⟨b, rfl, (hb.block _ (lt_of_heap h)).trans h⟩
set_option maxRecDepth 100000 in
set_option maxHeartbeats 8000000 in
theorem sane_any (w : World) (hkk : KindsAt w) : Calls Tryd.prog 10 #[] w fun e w' => e = .returned (.bool true) ∧ Below w.heap.size w w' := by
  have lk := hkk.lt
  obtain ⟨W0, hW0⟩ : ∃ W0, ((w.alloc (.cells #[.int .i64 1, .int .i64 0, .string ⟨#[]⟩, .int .i64 0, .int .i64 0, .slice none 0 0] 24)).alloc (.cells #[.int .i64 2, .int .i64 0, .string ⟨#[]⟩, .int .i64 0, .int .i64 0, .slice none 0 0] 24)).alloc (.cells #[.int .i64 5, .int .i64 3, .string ⟨#[]⟩, .int .i64 0, .int .i64 0, .slice none 0 0] 24) = W0 := ⟨_, rfl⟩
  have hBW : Below w.heap.size w W0 := by rw [← hW0]; exact (((Below.refl _ w).alloc (Nat.le_refl _) _).alloc (by simp) _).alloc (by simp; omega) _
  obtain ⟨B1, hB1⟩ : ∃ b, w.heap.size = b := ⟨_, rfl⟩
  obtain ⟨B2, hB2⟩ : ∃ b, B1 + 1 = b := ⟨_, rfl⟩
  obtain ⟨B3, hB3⟩ : ∃ b, B2 + 1 = b := ⟨_, rfl⟩
  have g1 : W0.heap[B1]? = some (.cells #[.int .i64 1, .int .i64 0, .string ⟨#[]⟩, .int .i64 0, .int .i64 0, .slice none 0 0] 24 (0, 0)) := by
    rw [← hW0, ← hB1, Below.heap_alloc _ _ _ (by simp; omega), Below.heap_alloc _ _ _ (by simp)]
    exact World.alloc_heap_new _ _
  have g2 : W0.heap[B2]? = some (.cells #[.int .i64 2, .int .i64 0, .string ⟨#[]⟩, .int .i64 0, .int .i64 0, .slice none 0 0] 24 (0, 0)) := by
    rw [← hW0, Below.heap_alloc _ _ _ (by simp; omega)]
    have := World.alloc_heap_new (w.alloc (.cells #[.int .i64 1, .int .i64 0, .string ⟨#[]⟩, .int .i64 0, .int .i64 0, .slice none 0 0] 24)) (.cells #[.int .i64 2, .int .i64 0, .string ⟨#[]⟩, .int .i64 0, .int .i64 0, .slice none 0 0] 24)
    rwa [World.size_alloc, hB1, hB2] at this
  have g3 : W0.heap[B3]? = some (.cells #[.int .i64 5, .int .i64 3, .string ⟨#[]⟩, .int .i64 0, .int .i64 0, .slice none 0 0] 24 (0, 0)) := by
    rw [← hW0]
    have := World.alloc_heap_new ((w.alloc (.cells #[.int .i64 1, .int .i64 0, .string ⟨#[]⟩, .int .i64 0, .int .i64 0, .slice none 0 0] 24)).alloc (.cells #[.int .i64 2, .int .i64 0, .string ⟨#[]⟩, .int .i64 0, .int .i64 0, .slice none 0 0] 24)) (.cells #[.int .i64 5, .int .i64 3, .string ⟨#[]⟩, .int .i64 0, .int .i64 0, .slice none 0 0] 24)
    rwa [World.size_alloc, World.size_alloc, hB1, hB2, hB3] at this
  have HW0 := hidp hW0
  have HB1 := hidp hB1
  have HB2 := hidp hB2
  have HB3 := hidp hB3
  have G1 := hidp g1
  have G2 := hidp g2
  have G3 := hidp g3
  have l1 := lt_of_heap g1
  have l2 := lt_of_heap g2
  have l3 := lt_of_heap g3
  have hk0 := hkk.below hBW lk
  have hH : ∀ (x : Ru) (v : Bool), (holdsB x s0 = v ∧ holdsE x s0 = 0) → ∀ (h : Nat) (W : World), RuIn h W W.heap.size x → KindsAt W → Calls Tryd.prog 12 #[.agg #[.int .i64 x.op, .int .i64 x.course, .string x.name, .int .i64 x.n, .int .i64 x.d, .slice x.kA x.kn x.kc], .agg #[.slice none 0 0, .int .i64 0, .int .i64 0, .int .i64 1]] W fun e w' => e = .returned (.tuple #[.bool v, .int .i64 0]) ∧ Below W.heap.size W w' := by
    intro x v hx h W hr hk
    have := uHolds_any h x s0 W hr (s0_in _ _) hk
    rw [hx.1, hx.2] at this
    exact this
  have HK0 := hidp hk0
  have HH1 := hidp (fun W hk => hH ex1 true h_ex1 0 W (leaf_in rfl rfl rfl) hk)
  have HH2 := hidp (fun W hk => hH ex2 false h_ex2 0 W (leaf_in rfl rfl rfl) hk)
  have HH3 := hidp (fun W hk => hH ex3 false h_ex3 0 W (leaf_in rfl rfl rfl) hk)
  have HH6 := hidp (fun b W hr hk => hH (ex6 b) true (h_ex6 b) 1 W hr hk)
  have HBW := hidp hBW
  clear hW0 hB1 hB2 hB3 g1 g2 g3 hH hk0 hkk hBW
  go_enter Tryd.func10, Tryd.ntmps10
  go_wp2_with fail
  rw [HB1.out, HB2.out, HB3.out, HW0.out]

  have c0 := cell_of_heap (o := 0) G1.out
  have c1 := cell_of_heap (o := 1) G1.out
  have c2 := cell_of_heap (o := 2) G1.out
  have c3 := cell_of_heap (o := 3) G1.out
  have c4 := cell_of_heap (o := 4) G1.out
  have c5 := cell_of_heap (o := 5) G1.out
  simp only [List.getElem?_toArray, List.getElem?_cons_zero, List.getElem?_cons_succ] at c0 c1 c2 c3 c4 c5
  have lg := lt_of_heap G1.out
  refine wp_region_below W0.heap.size (by kernel_rfl) (by kernel_rfl) ?_
  refine q_step (by rfl) ?_
  apply Exists.intro
  refine ⟨fun w9 h9 => ?_, ?_⟩
  · have hc9 := (bcell h9).1
    go_simp
    first | done | rfl
  go_simp
  refine q_step (by rfl) ⟨.agg #[.slice none 0 0, .int .i64 0, .int .i64 0, .int .i64 1], fun w9 h9 => ?_, ?_⟩
  · go_simp
    exact calls_below h9 (Nat.le_refl _) (plain12_any w9)
  go_simp
  refine q_step (by rfl) ⟨.tuple #[.bool true, .int .i64 0], fun w9 h9 => ?_, ?_⟩
  · go_simp
    exact calls_below h9 (Nat.le_refl _) (HH1.out w9 (HK0.out.below h9 HK0.out.lt))
  go_simp
  repeat
    refine q_step (by rfl) ?_
    apply Exists.intro
    refine ⟨fun w9 h9 => ?_, ?_⟩
    · go_simp
      first | done | rfl
    go_simp
  refine wpQuiet_nil ?_
  intro w1 hb1
  clear c0 c1 c2 c3 c4 c5 lg
  have K1 := hidp (HK0.out.below hb1 HK0.out.lt)
  have b1 := (Below.refl W0.heap.size W0).trans (hb1.mono (Below.refl W0.heap.size W0).size)

  go_wp2_with fail

  have c0 := cell_of_heap (o := 0) ((b1.block _ l2).trans G2.out)
  have c1 := cell_of_heap (o := 1) ((b1.block _ l2).trans G2.out)
  have c2 := cell_of_heap (o := 2) ((b1.block _ l2).trans G2.out)
  have c3 := cell_of_heap (o := 3) ((b1.block _ l2).trans G2.out)
  have c4 := cell_of_heap (o := 4) ((b1.block _ l2).trans G2.out)
  have c5 := cell_of_heap (o := 5) ((b1.block _ l2).trans G2.out)
  simp only [List.getElem?_toArray, List.getElem?_cons_zero, List.getElem?_cons_succ] at c0 c1 c2 c3 c4 c5
  have lg := lt_of_heap ((b1.block _ l2).trans G2.out)
  refine wp_region_below w1.heap.size (by kernel_rfl) (by kernel_rfl) ?_
  refine q_step (by rfl) ?_
  apply Exists.intro
  refine ⟨fun w9 h9 => ?_, ?_⟩
  · have hc9 := (bcell h9).1
    go_simp
    first | done | rfl
  go_simp
  refine q_step (by rfl) ⟨.agg #[.slice none 0 0, .int .i64 0, .int .i64 0, .int .i64 1], fun w9 h9 => ?_, ?_⟩
  · go_simp
    exact calls_below h9 (Nat.le_refl _) (plain12_any w9)
  go_simp
  refine q_step (by rfl) ⟨.tuple #[.bool false, .int .i64 0], fun w9 h9 => ?_, ?_⟩
  · go_simp
    exact calls_below h9 (Nat.le_refl _) (HH2.out w9 (K1.out.below h9 K1.out.lt))
  go_simp
  repeat
    refine q_step (by rfl) ?_
    apply Exists.intro
    refine ⟨fun w9 h9 => ?_, ?_⟩
    · go_simp
      first | done | rfl
    go_simp
  refine wpQuiet_nil ?_
  intro w2 hb2
  clear c0 c1 c2 c3 c4 c5 lg
  have K2 := hidp (K1.out.below hb2 K1.out.lt)
  have b2 := b1.trans (hb2.mono b1.size)

  go_wp2_with fail

  have c0 := cell_of_heap (o := 0) ((b2.block _ l3).trans G3.out)
  have c1 := cell_of_heap (o := 1) ((b2.block _ l3).trans G3.out)
  have c2 := cell_of_heap (o := 2) ((b2.block _ l3).trans G3.out)
  have c3 := cell_of_heap (o := 3) ((b2.block _ l3).trans G3.out)
  have c4 := cell_of_heap (o := 4) ((b2.block _ l3).trans G3.out)
  have c5 := cell_of_heap (o := 5) ((b2.block _ l3).trans G3.out)
  simp only [List.getElem?_toArray, List.getElem?_cons_zero, List.getElem?_cons_succ] at c0 c1 c2 c3 c4 c5
  have lg := lt_of_heap ((b2.block _ l3).trans G3.out)
  refine wp_region_below w2.heap.size (by kernel_rfl) (by kernel_rfl) ?_
  refine q_step (by rfl) ?_
  apply Exists.intro
  refine ⟨fun w9 h9 => ?_, ?_⟩
  · have hc9 := (bcell h9).1
    go_simp
    first | done | rfl
  go_simp
  refine q_step (by rfl) ⟨.agg #[.slice none 0 0, .int .i64 0, .int .i64 0, .int .i64 1], fun w9 h9 => ?_, ?_⟩
  · go_simp
    exact calls_below h9 (Nat.le_refl _) (plain12_any w9)
  go_simp
  refine q_step (by rfl) ⟨.tuple #[.bool false, .int .i64 0], fun w9 h9 => ?_, ?_⟩
  · go_simp
    exact calls_below h9 (Nat.le_refl _) (HH3.out w9 (K2.out.below h9 K2.out.lt))
  go_simp
  repeat
    refine q_step (by rfl) ?_
    apply Exists.intro
    refine ⟨fun w9 h9 => ?_, ?_⟩
    · go_simp
      first | done | rfl
    go_simp
  refine wpQuiet_nil ?_
  intro w3 hb3
  clear c0 c1 c2 c3 c4 c5 lg
  have K3 := hidp (K2.out.below hb3 K2.out.lt)
  have b3 := b2.trans (hb3.mono b2.size)

  go_wp2_with fail

  have g1' := (b3.block _ l1).trans G1.out
  have c0 := cell_of_heap (o := 0) g1'
  have c1 := cell_of_heap (o := 1) g1'
  have c2 := cell_of_heap (o := 2) g1'
  have c3 := cell_of_heap (o := 3) g1'
  have c4 := cell_of_heap (o := 4) g1'
  have c5 := cell_of_heap (o := 5) g1'
  have lg := lt_of_heap g1'
  simp only [List.getElem?_toArray, List.getElem?_cons_zero, List.getElem?_cons_succ] at c0 c1 c2 c3 c4 c5
  clear g1'

  refine wp_region_S w3.heap.size 12 (fun _ => false) (Nat.le_refl _) (by kernel_rfl) (by kernel_rfl) (by kernel_rfl) ?_
  dsimp only [List.take, List.drop]
  apply relS_det (mask := [])
  · rfl
  · kernel_rfl
  · kernel_rfl
  · dsimp only [oblS]
    rintro w9 h9
    have hc9 := (bcell h9).1
    go_simp
    exact ⟨Below.refl _ _, rfl⟩
  dsimp only [List.nil_append, List.cons_append]
  apply relS_det (mask := [false])
  · rfl
  · kernel_rfl
  · kernel_rfl
  · dsimp only [oblS]
    rintro w9 h9
    have hc9 := (bcell h9).1
    go_simp
    exact ⟨Below.refl _ _, rfl⟩
  dsimp only [List.nil_append, List.cons_append]
  apply relS_det (mask := [false, false])
  · rfl
  · kernel_rfl
  · kernel_rfl
  · dsimp only [oblS]
    rintro w9 h9
    have hc9 := (bcell h9).1
    go_simp
    exact ⟨Below.refl _ _, rfl⟩
  dsimp only [List.nil_append, List.cons_append]
  apply relS_any (mask := [true, true, true]) (T := slT) (hT := slT_stable)
  · rfl
  · kernel_rfl
  · kernel_rfl
  · dsimp only [oblS]
    rintro w9 h9 T' hT'
    go_simp
    exact ⟨(Below.refl _ w9).alloc (Nat.le_refl _) _, hT' _ _ ⟨_, rfl, World.alloc_heap_new w9 _⟩⟩
  dsimp only [List.nil_append, List.cons_append]
  apply relS_any (mask := [false, false, false, true]) (T := agT) (hT := agT_stable)
  · rfl
  · kernel_rfl
  · kernel_rfl
  · dsimp only [oblS]
    intro v39
    rintro w9 ⟨h9, t39⟩ T' hT'
    obtain ⟨b, rfl, hb⟩ := t39
    go_simp
    exact ⟨Below.refl _ _, hT' _ _ ⟨b, rfl, hb⟩⟩
  dsimp only [List.nil_append, List.cons_append]
  apply relS_det (mask := [false, false, false, false, false]) (x := .agg #[.slice none 0 0, .int .i64 0, .int .i64 0, .int .i64 1])
  · rfl
  · kernel_rfl
  · kernel_rfl
  · dsimp only [oblS]
    rintro w9 h9
    go_simp
    refine (plain12_any _).mono ?_
    rintro e w1 ⟨rfl, hb⟩
    exact ⟨_, rfl, hb, rfl⟩
  dsimp only [List.nil_append, List.cons_append]
  apply relS_det (mask := [false, false, false, false, true, true]) (x := .tuple #[.bool true, .int .i64 0])
  · rfl
  · kernel_rfl
  · kernel_rfl
  · dsimp only [oblS]
    intro v40
    rintro w9 ⟨h9, t40⟩
    obtain ⟨b, rfl, hb⟩ := t40
    go_simp
    refine (HH6.out b _ (ex6_in hb (lt_of_heap hb)) (K3.out.below h9 K3.out.lt)).mono ?_
    rintro e w1 ⟨rfl, hb⟩
    exact ⟨_, rfl, hb, rfl⟩
  dsimp only [List.nil_append, List.cons_append]
  apply relS_det (mask := [false, false, false, false, false, false, true])
  · rfl
  · kernel_rfl
  · kernel_rfl
  · dsimp only [oblS]
    rintro w9 h9
    go_simp
    exact ⟨Below.refl _ _, rfl⟩
  dsimp only [List.nil_append, List.cons_append]
  apply relS_det (mask := [false, false, false, false, false, false, false, true])
  · rfl
  · kernel_rfl
  · kernel_rfl
  · dsimp only [oblS]
    rintro w9 h9
    go_simp
    exact ⟨Below.refl _ _, rfl⟩
  dsimp only [List.nil_append, List.cons_append]
  apply relS_det (mask := [false, false, false, false, false, false, false, true, false])
  · rfl
  · kernel_rfl
  · kernel_rfl
  · dsimp only [oblS]
    rintro w9 h9
    go_simp
    exact ⟨Below.refl _ _, rfl⟩
  dsimp only [List.nil_append, List.cons_append]
  apply relS_det (mask := [false, false, false, false, false, false, false, false, true, false])
  · rfl
  · kernel_rfl
  · kernel_rfl
  · dsimp only [oblS]
    rintro w9 h9
    go_simp
    exact ⟨Below.refl _ _, rfl⟩
  dsimp only [List.nil_append, List.cons_append]
  apply relS_det (mask := [false, false, false, false, false, false, false, false, false, true, false])
  · rfl
  · kernel_rfl
  · kernel_rfl
  · dsimp only [oblS]
    rintro w9 h9
    go_simp
    exact ⟨Below.refl _ _, rfl⟩
  dsimp only [List.nil_append, List.cons_append]
  refine relS_end (by rfl) ?_
  dsimp only [finS]
  -- rintro v39 v40 w8 ⟨⟨hb, t39⟩, t40⟩
  rintro v39 v40 w4 ⟨⟨hb4, t39⟩, t40⟩
  clear c0 c1 c2 c3 c4 c5 lg t39 t40 HH1 HH2 HH3 HH6
  have K4 := hidp (K3.out.below hb4 K3.out.lt)
  have b4 := b3.trans (hb4.mono b3.size)
  have e3 := (b4.block _ l3).trans G3.out
  have c0 := cell_of_heap (o := 0) e3
  have c1 := cell_of_heap (o := 1) e3
  have c2 := cell_of_heap (o := 2) e3
  have c3 := cell_of_heap (o := 3) e3
  have c4 := cell_of_heap (o := 4) e3
  have c5 := cell_of_heap (o := 5) e3
  simp only [List.getElem?_toArray, List.getElem?_cons_zero, List.getElem?_cons_succ] at c0 c1 c2 c3 c4 c5
  have lg := lt_of_heap e3
  clear e3
  go_frame
  go_wp2_with fail
  obtain ⟨W5, hW5⟩ : ∃ W5, (((w4.alloc (.cells #[.int .i64 5, .int .i64 3, .string ⟨#[88]⟩, .int .i64 5, .int .i64 0, .slice none 0 0] 24)).alloc (.cells #[.int .i64 5, .int .i64 3, .string ⟨#[88]⟩, .int .i64 5, .int .i64 0, .slice none 0 0] 24)).alloc (.cells #[.int .i64 5, .int .i64 3, .string ⟨#[88]⟩, .int .i64 5, .int .i64 0, .slice none 0 0, .int .i64 5, .int .i64 3, .string ⟨#[]⟩, .int .i64 0, .int .i64 0, .slice none 0 0, .int .i64 4, .int .i64 0, .string ⟨#[]⟩, .int .i64 0, .int .i64 0, .slice (some ⟨w4.heap.size + 1, 0, none⟩) 1 1] 24)).alloc (.cells #[.int .i64 1, .int .i64 0, .string ⟨#[]⟩, .int .i64 0, .int .i64 0, .slice (some ⟨w4.heap.size + 1 + 1, 0, none⟩) 3 3] 24) = W5 := ⟨_, rfl⟩
  have b5 : Below w4.heap.size w4 W5 := by rw [← hW5]; exact ((((Below.refl _ w4).alloc (Nat.le_refl _) _).alloc (by simp) _).alloc (by simp; omega) _).alloc (by simp; omega) _
  have q1 : W5.heap[w4.heap.size + 1]? = some (.cells #[.int .i64 5, .int .i64 3, .string ⟨#[88]⟩, .int .i64 5, .int .i64 0, .slice none 0 0] 24 (0, 0)) := by
    rw [← hW5, Below.heap_alloc _ _ _ (by simp <;> omega), Below.heap_alloc _ _ _ (by simp <;> omega)]
    have := World.alloc_heap_new (w4.alloc (.cells #[.int .i64 5, .int .i64 3, .string ⟨#[88]⟩, .int .i64 5, .int .i64 0, .slice none 0 0] 24)) (.cells #[.int .i64 5, .int .i64 3, .string ⟨#[88]⟩, .int .i64 5, .int .i64 0, .slice none 0 0] 24)
    rwa [World.size_alloc] at this
  have q2 : W5.heap[w4.heap.size + 1 + 1]? = some (.cells #[.int .i64 5, .int .i64 3, .string ⟨#[88]⟩, .int .i64 5, .int .i64 0, .slice none 0 0, .int .i64 5, .int .i64 3, .string ⟨#[]⟩, .int .i64 0, .int .i64 0, .slice none 0 0, .int .i64 4, .int .i64 0, .string ⟨#[]⟩, .int .i64 0, .int .i64 0, .slice (some ⟨w4.heap.size + 1, 0, none⟩) 1 1] 24 (0, 0)) := by
    rw [← hW5, Below.heap_alloc _ _ _ (by simp)]
    have := World.alloc_heap_new ((w4.alloc (.cells #[.int .i64 5, .int .i64 3, .string ⟨#[88]⟩, .int .i64 5, .int .i64 0, .slice none 0 0] 24)).alloc (.cells #[.int .i64 5, .int .i64 3, .string ⟨#[88]⟩, .int .i64 5, .int .i64 0, .slice none 0 0] 24)) (.cells #[.int .i64 5, .int .i64 3, .string ⟨#[88]⟩, .int .i64 5, .int .i64 0, .slice none 0 0, .int .i64 5, .int .i64 3, .string ⟨#[]⟩, .int .i64 0, .int .i64 0, .slice none 0 0, .int .i64 4, .int .i64 0, .string ⟨#[]⟩, .int .i64 0, .int .i64 0, .slice (some ⟨w4.heap.size + 1, 0, none⟩) 1 1] 24)
    rwa [World.size_alloc, World.size_alloc] at this
  have q3 : W5.heap[w4.heap.size + 1 + 1 + 1]? = some (.cells #[.int .i64 1, .int .i64 0, .string ⟨#[]⟩, .int .i64 0, .int .i64 0, .slice (some ⟨w4.heap.size + 1 + 1, 0, none⟩) 3 3] 24 (0, 0)) := by
    rw [← hW5]
    have := World.alloc_heap_new (((w4.alloc (.cells #[.int .i64 5, .int .i64 3, .string ⟨#[88]⟩, .int .i64 5, .int .i64 0, .slice none 0 0] 24)).alloc (.cells #[.int .i64 5, .int .i64 3, .string ⟨#[88]⟩, .int .i64 5, .int .i64 0, .slice none 0 0] 24)).alloc (.cells #[.int .i64 5, .int .i64 3, .string ⟨#[88]⟩, .int .i64 5, .int .i64 0, .slice none 0 0, .int .i64 5, .int .i64 3, .string ⟨#[]⟩, .int .i64 0, .int .i64 0, .slice none 0 0, .int .i64 4, .int .i64 0, .string ⟨#[]⟩, .int .i64 0, .int .i64 0, .slice (some ⟨w4.heap.size + 1, 0, none⟩) 1 1] 24)) (.cells #[.int .i64 1, .int .i64 0, .string ⟨#[]⟩, .int .i64 0, .int .i64 0, .slice (some ⟨w4.heap.size + 1 + 1, 0, none⟩) 3 3] 24)
    rwa [World.size_alloc, World.size_alloc, World.size_alloc] at this
  have K5 := hidp (K4.out.below b5 K4.out.lt)
  have g1' := (b5.block _ (lt_of_heap ((b4.block _ l1).trans G1.out))).trans ((b4.block _ l1).trans G1.out)
  have B5 := hidp (b4.trans (b5.mono b4.size))
  obtain ⟨N1, hN1⟩ : ∃ n, w4.heap.size + 1 = n := ⟨_, rfl⟩
  obtain ⟨N2, hN2⟩ : ∃ n, N1 + 1 = n := ⟨_, rfl⟩
  obtain ⟨N3, hN3⟩ : ∃ n, N2 + 1 = n := ⟨_, rfl⟩
  rw [hN1, hN2] at hW5 q2 q3
  rw [hN1] at q1
  rw [hN3] at q3
  have Q1 := hidp q1
  have Q2 := hidp q2
  have Q3 := hidp q3
  have P1 := hidp g1'
  have HR5 : Hid (∀ W, Below W5.heap.size W5 W → RuIn 2 W W.heap.size (exR N2 N1)) := by
    intro W hW
    have h1 := (hW.block _ (lt_of_heap Q1.out)).trans Q1.out
    have h2 := (hW.block _ (lt_of_heap Q2.out)).trans Q2.out
    exact exR_in h2 h1 (lt_of_heap h2) (lt_of_heap h1)
  have HW5 := hidp hW5
  have HN1 := hidp hN1
  have HN2 := hidp hN2
  have HN3 := hidp hN3
  have HC0 : Hid (∀ W, KindsAt W → Calls Tryd.prog 20 #[.agg #[.int .i64 0, .int .i64 0, .string ⟨#[]⟩, .int .i64 0, .int .i64 0, .slice none 0 0]] W fun e w' => e = .returned (.int .i64 120) ∧ Below W.heap.size W w') := by
    intro W hk
    have := uCheck_any 0 ex0 W (leaf_in rfl rfl rfl) hk
    rwa [c_ex0] at this
  have HCN : Hid (∀ W, KindsAt W → Calls Tryd.prog 20 #[.agg #[.int .i64 4, .int .i64 0, .string ⟨#[]⟩, .int .i64 0, .int .i64 0, .slice none 0 0]] W fun e w' => e = .returned (.int .i64 120) ∧ Below W.heap.size W w') := by
    intro W hk
    have := uCheck_any 0 exN W (leaf_in rfl rfl rfl) hk
    rwa [c_exN] at this
  have HFZ : Hid (∀ W, Calls Tryd.prog 21 #[.agg #[.slice none 0 0, .int .i64 0, .int .i64 0, .int .i64 0]] W fun e w' => e = .returned (.int .i64 120) ∧ Below W.heap.size W w') := by
    intro W
    have := uFits_any sZ W (sZ_in _ _)
    rwa [f_sZ] at this
  have HF0 : Hid (∀ W, Calls Tryd.prog 21 #[.agg #[.slice none 0 0, .int .i64 0, .int .i64 0, .int .i64 1]] W fun e w' => e = .returned (.int .i64 0) ∧ Below W.heap.size W w') := by
    intro W
    have := uFits_any s0 W (s0_in _ _)
    rwa [f_s0] at this
  have HCR : Hid (∀ W, KindsAt W → Below W5.heap.size W5 W → Calls Tryd.prog 20 #[.agg #[.int .i64 1, .int .i64 0, .string ⟨#[]⟩, .int .i64 0, .int .i64 0, .slice (some ⟨N2, 0, none⟩) 3 3]] W fun e w' => e = .returned (.int .i64 0) ∧ Below W.heap.size W w') := by
    intro W hk hb
    have := uCheck_any 2 (exR N2 N1) W (HR5.out W hb) hk
    rwa [c_exR] at this
  have HD1 : Hid (∀ W, Calls Tryd.prog 26 #[.agg #[.int .i64 1, .int .i64 0, .string ⟨#[]⟩, .int .i64 0, .int .i64 0, .slice none 0 0]] W fun e w' => e = .returned (.int .i64 1) ∧ Below W.heap.size W w') := by
    intro W
    have := uDepth_any 0 ex1 W (leaf_in rfl rfl rfl)
    rwa [d_ex1] at this
  have HDR : Hid (∀ W, Below W5.heap.size W5 W → Calls Tryd.prog 26 #[.agg #[.int .i64 1, .int .i64 0, .string ⟨#[]⟩, .int .i64 0, .int .i64 0, .slice (some ⟨N2, 0, none⟩) 3 3]] W fun e w' => e = .returned (.int .i64 3) ∧ Below W.heap.size W w') := by
    intro W hb
    have := uDepth_any 2 (exR N2 N1) W (HR5.out W hb)
    rwa [d_exR] at this
  have HAR : Hid (∀ W, Below W5.heap.size W5 W → Calls Tryd.prog 15 #[.agg #[.int .i64 1, .int .i64 0, .string ⟨#[]⟩, .int .i64 0, .int .i64 0, .slice (some ⟨N2, 0, none⟩) 3 3]] W fun e w' => (∃ A c, e = .returned (.slice A 2 c)) ∧ Below W.heap.size W w') := by
    intro W hb
    refine (uAtoms_any 2 (exR N2 N1) W (HR5.out W hb) (by rw [p_exR]; decide)).mono ?_
    rintro e w' ⟨A, n, c, d, rfl, hp, _, hr, hbw⟩
    rw [a_exR] at hp
    have h2 := hr.1
    rw [List.length_map, hp.length_eq] at h2
    exact ⟨⟨A, c, by rw [h2]; rfl⟩, hbw⟩
  have HKR : Hid (∀ W, Below W5.heap.size W5 W → Calls Tryd.prog 18 #[.agg #[.int .i64 1, .int .i64 0, .string ⟨#[]⟩, .int .i64 0, .int .i64 0, .slice (some ⟨N2, 0, none⟩) 3 3]] W fun e w' => (∃ A c, e = .returned (.slice A 1 c) ∧ ISl w' w'.heap.size A 1 c [3]) ∧ Below W.heap.size W w') := by
    intro W hb
    refine (uCourses_any 2 (exR N2 N1) W (HR5.out W hb) (by rw [p_exR]; decide)).mono ?_
    rintro e w' ⟨A, n, c, xs, rfl, hp, hr, hbw⟩
    rw [k_exR] at hp
    obtain rfl := List.perm_singleton.1 hp
    have em : ([3] : List Int).mergeSort (fun x y => decide (x ≤ y)) = [3] := by simp
    rw [em] at hr
    obtain rfl : n = 1 := hr.1
    exact ⟨⟨A, c, rfl, hr⟩, hbw⟩
  clear hW5 q1 q2 q3 g1' b5 hN1 hN2 hN3 c0 c1 c2 c3 c4 c5 lg b1 b2 b3 b4 hb1 hb2 hb3 hb4
  rw [HN1.out, HN2.out, HN3.out, HW5.out]
  refine (HC0.out W5 K5.out).mono ?_
  rintro e w6 ⟨rfl, h6⟩
  go_wp2_with fail
  refine (HCN.out w6 (K5.out.below h6 K5.out.lt)).mono ?_
  rintro e w7 ⟨rfl, h7'⟩
  have h7 := h6.trans (h7'.mono h6.size)
  go_wp2_with fail
  refine (HFZ.out w7).mono ?_
  rintro e w8 ⟨rfl, h8'⟩
  have h8 := h7.trans (h8'.mono h7.size)
  go_wp2_with fail
  refine (plain12_any w8).mono ?_
  rintro e w9 ⟨rfl, h9'⟩
  have h9 := h8.trans (h9'.mono h8.size)
  go_wp2_with fail
  refine (HF0.out w9).mono ?_
  rintro e w10 ⟨rfl, h10'⟩
  have h10 := h9.trans (h10'.mono h9.size)
  have ka := (h10.block _ (lt_of_heap Q3.out)).trans Q3.out
  have z0 := cell_of_heap (o := 0) ka
  have z1 := cell_of_heap (o := 1) ka
  have z2 := cell_of_heap (o := 2) ka
  have z3 := cell_of_heap (o := 3) ka
  have z4 := cell_of_heap (o := 4) ka
  have z5 := cell_of_heap (o := 5) ka
  have zl := lt_of_heap ka
  simp only [List.getElem?_toArray, List.getElem?_cons_zero, List.getElem?_cons_succ] at z0 z1 z2 z3 z4 z5
  clear ka
  go_wp2_with fail
  refine (HCR.out w10 (K5.out.below h10 K5.out.lt) h10).mono ?_
  rintro e w11 ⟨rfl, h11'⟩
  have h11 := h10.trans (h11'.mono h10.size)
  clear z0 z1 z2 z3 z4 z5 zl
  have kb := (h11.block _ (lt_of_heap P1.out)).trans P1.out
  have z0 := cell_of_heap (o := 0) kb
  have z1 := cell_of_heap (o := 1) kb
  have z2 := cell_of_heap (o := 2) kb
  have z3 := cell_of_heap (o := 3) kb
  have z4 := cell_of_heap (o := 4) kb
  have z5 := cell_of_heap (o := 5) kb
  have zl := lt_of_heap kb
  simp only [List.getElem?_toArray, List.getElem?_cons_zero, List.getElem?_cons_succ] at z0 z1 z2 z3 z4 z5
  clear kb
  go_wp2_with fail
  refine (HD1.out w11).mono ?_
  rintro e w12 ⟨rfl, h12'⟩
  have h12 := h11.trans (h12'.mono h11.size)
  clear z0 z1 z2 z3 z4 z5 zl
  have kc := (h12.block _ (lt_of_heap Q3.out)).trans Q3.out
  have z0 := cell_of_heap (o := 0) kc
  have z1 := cell_of_heap (o := 1) kc
  have z2 := cell_of_heap (o := 2) kc
  have z3 := cell_of_heap (o := 3) kc
  have z4 := cell_of_heap (o := 4) kc
  have z5 := cell_of_heap (o := 5) kc
  have zl := lt_of_heap kc
  simp only [List.getElem?_toArray, List.getElem?_cons_zero, List.getElem?_cons_succ] at z0 z1 z2 z3 z4 z5
  clear kc
  go_wp2_with fail
  refine (HDR.out w12 h12).mono ?_
  rintro e w13 ⟨rfl, h13'⟩
  have h13 := h12.trans (h13'.mono h12.size)
  clear z0 z1 z2 z3 z4 z5 zl
  have kd := (h13.block _ (lt_of_heap Q3.out)).trans Q3.out
  have z0 := cell_of_heap (o := 0) kd
  have z1 := cell_of_heap (o := 1) kd
  have z2 := cell_of_heap (o := 2) kd
  have z3 := cell_of_heap (o := 3) kd
  have z4 := cell_of_heap (o := 4) kd
  have z5 := cell_of_heap (o := 5) kd
  have zl := lt_of_heap kd
  simp only [List.getElem?_toArray, List.getElem?_cons_zero, List.getElem?_cons_succ] at z0 z1 z2 z3 z4 z5
  clear kd
  go_wp2_with fail
  refine (HAR.out w13 h13).mono ?_
  rintro e w14 ⟨⟨A14, c14, rfl⟩, h14'⟩
  have h14 := h13.trans (h14'.mono h13.size)
  clear z0 z1 z2 z3 z4 z5 zl
  have ke := (h14.block _ (lt_of_heap Q3.out)).trans Q3.out
  have z0 := cell_of_heap (o := 0) ke
  have z1 := cell_of_heap (o := 1) ke
  have z2 := cell_of_heap (o := 2) ke
  have z3 := cell_of_heap (o := 3) ke
  have z4 := cell_of_heap (o := 4) ke
  have z5 := cell_of_heap (o := 5) ke
  have zl := lt_of_heap ke
  simp only [List.getElem?_toArray, List.getElem?_cons_zero, List.getElem?_cons_succ] at z0 z1 z2 z3 z4 z5
  clear ke
  go_wp2_with fail
  refine (HKR.out w14 h14).mono ?_
  rintro e w15 ⟨⟨A15, c15, rfl, r15⟩, h15'⟩
  have h15 := h14.trans (h15'.mono h14.size)
  have R15 := hidp (vSameInts_any A15 (some ⟨w15.heap.size, 0, none⟩) 1 c15 1 1 [3] [3] (w15.alloc (.cells #[.int .i64 3] 3)) (r15.keep iStable (by simp) fun b hb => Below.heap_alloc _ _ _ hb) (rows_of_heap (l := [3]) iEnc_len (World.alloc_heap_new w15 _) (Nat.le_refl _) (by decide) rfl))
  clear r15
  go_wp2_with fail
  refine R15.out.mono ?_
  rintro e w16 ⟨rfl, h16⟩
  go_wp2_with fail
  go_ret
  exact ⟨ret_bool (by decide), HBW.out.trans ((B5.out.trans ((h15.trans (((Below.refl w15.heap.size w15).alloc (Nat.le_refl _) _).trans (h16.mono (by simp)) |>.mono h15.size)).mono B5.out.size)).mono HBW.out.size)⟩
end Go.Proofs.YtbmbpannhncpjaaDoor
