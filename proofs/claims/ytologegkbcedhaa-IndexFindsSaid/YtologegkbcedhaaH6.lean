/- Check, and the reference's, walked (printed by tools/gen53.py). -/
import Derived.Test.YtologegkbcedhaaH1
import Derived.Test.YtologegkbcedhaaG1
namespace Go.Proofs.Ytologegkbcedhaa
open Go.RowKit Go.Shelf

theorem strB_adj {α : Type} {lt : α → α → Bool} : ∀ l : List α, strB lt l = true ↔ ∀ (i : Nat) (a b : α), l[i]? = some a → l[i + 1]? = some b → lt a b = true
  | [] => by simp [strB]
  | [x] => by simp [strB]
  | x :: y :: l => by
    have ih := strB_adj (lt := lt) (y :: l)
    unfold strB
    rw [Bool.and_eq_true, ih]
    constructor
    · rintro ⟨h1, h2⟩ i a b ha hb
      cases i with
      | zero => simp at ha hb; subst ha hb; exact h1
      | succ i => exact h2 i a b (by simpa using ha) (by simpa using hb)
    · intro h
      exact ⟨h 0 x y rfl rfl, fun i a b ha hb => h (i + 1) a b (by simpa using ha) (by simpa using hb)⟩
def OkAt (X : List Lk) (many : Int) (i : Nat) (x : Lk) : Prop := 0 ≤ x.2 ∧ x.2 < many ∧ ∀ p, 0 < i → X[i - 1]? = some p → ltL p x = true
theorem checkL_iff (X : List Lk) (many : Int) : ((X.all fun k => decide (0 ≤ k.2) && decide (k.2 < many)) = true ∧ strB ltL X = true) ↔ ∀ i x, X[i]? = some x → OkAt X many i x := by
  rw [List.all_eq_true, strB_adj]
  constructor
  · rintro ⟨h1, h2⟩ i x hx
    have h3 := h1 x (List.mem_of_getElem? hx)
    rw [Bool.and_eq_true, decide_eq_true_iff, decide_eq_true_iff] at h3
    refine ⟨h3.1, h3.2, fun p hp hpx => h2 (i - 1) p x hpx ?_⟩
    rw [show i - 1 + 1 = i by omega]
    exact hx
  · intro h
    refine ⟨fun x hx => ?_, fun i a b ha hb => (h (i + 1) b hb).2.2 a (by omega) ha⟩
    obtain ⟨i, hi⟩ := List.mem_iff_getElem?.1 hx
    have := h i x hi
    rw [Bool.and_eq_true, decide_eq_true_iff, decide_eq_true_iff]
    exact ⟨this.1, this.2.1⟩
theorem checkL_ok {X : List Lk} {many : Int} (h : ∀ i x, X[i]? = some x → OkAt X many i x) : checkL X many = 0 := by
  rw [checkL, if_pos ((checkL_iff X many).2 h)]
theorem checkL_bad {X : List Lk} {many : Int} {i : Nat} {x : Lk} (hx : X[i]? = some x) (h : ¬ OkAt X many i x) : checkL X many = 350 := by
  rw [checkL, if_neg (fun h' => h ((checkL_iff X many).1 h' i x hx))]
def OkTo (X : List Lk) (many : Int) (k : Nat) : Prop := ∀ i x, i < k → X[i]? = some x → OkAt X many i x
theorem OkTo.step {X : List Lk} {many : Int} {k : Nat} {x : Lk} (h : OkTo X many k) (hx : X[k]? = some x) (hk : OkAt X many k x) : OkTo X many (k + 1) := by
  intro i y hi hy
  rcases Nat.lt_or_ge i k with h1 | h1
  · exact h i y h1 hy
  · obtain rfl : i = k := by omega
    rw [hx] at hy; cases hy; exact hk

set_option maxRecDepth 100000 in
set_option maxHeartbeats 4000000 in
theorem qCheck_any (A : Option Addr) (n c : Nat) (X : List Lk) (many : Int) (w : World) (hl : lSl w w.heap.size A n c X) :
    Calls Try.prog 17 #[.agg #[.slice A n c], .int .i64 many] w fun e w' => e = .returned (.int .i64 (checkL X many)) ∧ Below w.heap.size w w' := by
  have HN := hidp hl.1
  have hcap := hl.2.2.1
  have hlen := hl.2.1
  obtain ⟨W0, hW0⟩ : ∃ W0, w.alloc (.cells #[.slice A n c] 28) = W0 := ⟨_, rfl⟩
  have hBW : Below w.heap.size w W0 := by rw [← hW0]; exact (Below.refl _ w).alloc (Nat.le_refl _) _
  have g1 : W0.heap[w.heap.size]? = some (.cells #[.slice A n c] 28 (0, 0)) := by rw [← hW0]; exact World.alloc_heap_new _ _
  have hz0 : W0.heap.size = w.heap.size + 1 := by rw [← hW0]; simp
  have HW0 := hidp hW0
  have G1 := hidp g1
  have HBW := hidp hBW
  have d1 := cell_of_heap (o := 0) g1
  simp only [List.getElem?_toArray, List.getElem?_cons_zero] at d1
  have l1 := lt_of_cell d1
  clear hW0 g1 hBW
  go_enter Try.func17, Try.ntmps17
  go_wp2_with fail
  rw [HW0.out]
  go_wp2_with fail
  go_loopw [5] (fun i wr => ∃ k : Nat, k ≤ n ∧ i = .int .i64 k ∧ OkTo X many k ∧ Below W0.heap.size W0 wr) (fun i _ => n - (intOf i).toNat)
  case atStart => exact ⟨0, by omega, rfl, fun i x h => by omega, Below.refl _ _⟩
  case round =>
    obtain ⟨k, hk, rfl, hok, hbe⟩ := hrel
    have HO := hidp hok
    have e1 := cell_of_heap (o := 0) ((hbe.block _ l1).trans G1.out)
    simp only [List.getElem?_toArray, List.getElem?_cons_zero] at e1
    have l3 := lt_of_cell e1
    have hbw := HBW.out.trans (hbe.mono (by omega))
    have hr := hl.below lStable hbw
    clear hok d1 l1
    by_cases hlt : k < n
    · obtain ⟨b, off, x, rfl, hb, hzx, c0, c1, c2, c3, c4, c5⟩ := lSl.get hr hlt
      have l5 := lt_of_cell c0
      have HX := hidp hzx
      have hkn : (k : Int) < n := by omega
      clear hzx
      by_cases h1 : x.2 < 0
      · have hd1 : decide (x.2 < 0) = true := by simpa using h1
        go_wp2_with fail
        refine wp_region_below wr.heap.size (by kernel_rfl) (by kernel_rfl) ?_
        repeat
          first
          | go_big_quiet_skip
          | (refine q_step (by rfl) ?_
             apply Exists.intro
             refine ⟨fun w9 h9 => ?_, ?_⟩
             · have hc9 := (bcell h9).1
               go_simp
               first | done | rfl
             go_simp)
        refine wpQuiet_nil ?_
        intro w9 hb9
        have hb3 := hbe.trans (hb9.mono hbe.size)
        have HR : Hid (checkL X many = 350) := checkL_bad HX.out (fun h => by have := h.1; omega)
        go_wp2_with fail
        go_ret
        exact ⟨ret_int HR.out.symm, HBW.out.trans (hb3.mono (by omega))⟩
      · have hd1 : decide (x.2 < 0) = false := by simpa using h1
        by_cases h2 : many ≤ x.2
        · have hd2 : decide (many ≤ x.2) = true := by simpa using h2
          go_wp2_with fail
          refine wp_region_below wr.heap.size (by kernel_rfl) (by kernel_rfl) ?_
          repeat
            first
            | go_big_quiet_skip
            | (refine q_step (by rfl) ?_
               apply Exists.intro
               refine ⟨fun w9 h9 => ?_, ?_⟩
               · have hc9 := (bcell h9).1
                 go_simp
                 first | done | rfl
               go_simp)
          refine wpQuiet_nil ?_
          intro w9 hb9
          have hb3 := hbe.trans (hb9.mono hbe.size)
          have HR : Hid (checkL X many = 350) := checkL_bad HX.out (fun h => by have := h.2.1; omega)
          go_wp2_with fail
          go_ret
          exact ⟨ret_int HR.out.symm, HBW.out.trans (hb3.mono (by omega))⟩
        · have hd2 : decide (many ≤ x.2) = false := by simpa using h2
          rcases Nat.eq_zero_or_pos k with h0 | h0
          · have hd3 : decide (0 < k) = false := by simp; omega
            have H0 := hidp h0
            clear h0
            go_wp2_with fail
            refine wp_region_below wr.heap.size (by kernel_rfl) (by kernel_rfl) ?_
            repeat
              first
              | go_big_quiet_skip
              | (refine q_step (by rfl) ?_
                 apply Exists.intro
                 refine ⟨fun w9 h9 => ?_, ?_⟩
                 · have hc9 := (bcell h9).1
                   go_simp
                   first | done | rfl
                 go_simp)
            refine wpQuiet_nil ?_
            intro w9 hb9
            have hb3 := hbe.trans (hb9.mono hbe.size)
            go_wp2_with fail
            go_roundw
            case rel => exact ⟨k + 1, by omega, by go_num, HO.out.step HX.out ⟨by omega, by omega, fun p hp => by have := H0.out; omega⟩, hb3⟩
            case measure => simp [intOf]; omega
          · have hd3 : decide (0 < k) = true := by simpa using h0
            obtain ⟨bp, offp, p, hep, hbp, hzp, p0, p1, p2, p3, p4, p5⟩ := lSl.get (k := k - 1) hr (by omega)
            simp only [Option.some.injEq, Addr.mk.injEq, and_true] at hep
            obtain ⟨rfl, rfl⟩ := hep
            have hpos : (1 : Int) ≤ k := by omega
            have hin1 : (k : Int) - 1 < n := by omega
            have hwrap : IntKind.i64.wrap ((k : Int) - 1) = (k : Int) - 1 := IntWalk.i64_in _ (by omega)
            have hto : ((k : Int) - 1).toNat = k - 1 := by omega
            have lp := lt_of_cell p0
            have HP := hidp hzp
            obtain ⟨z, hz⟩ : ∃ z, ltL p x = z := ⟨_, rfl⟩
            have HZ := hidp hz
            clear hzp hz
            cases z
            · have hq := fun W => HZ.out ▸ qBefore_any p x W
              go_wp2_with fail
              refine wp_region_below wr.heap.size (by kernel_rfl) (by kernel_rfl) ?_
              repeat
                first
                | go_big_quiet_skip
                | (refine q_step (by rfl) ?_
                   apply Exists.intro
                   refine ⟨fun w9 h9 => ?_, ?_⟩
                   · have hc9 := (bcell h9).1
                     go_simp
                     first | done | rfl | exact calls_below h9 (Nat.le_refl _) (hq w9)
                   go_simp)
              refine wpQuiet_nil ?_
              intro w9 hb9
              have hb3 := hbe.trans (hb9.mono hbe.size)
              have HR : Hid (checkL X many = 350) := checkL_bad HX.out (fun h => by have := h.2.2 p h0 HP.out; rw [HZ.out] at this; cases this)
              go_wp2_with fail
              go_ret
              exact ⟨ret_int HR.out.symm, HBW.out.trans (hb3.mono (by omega))⟩
            · have hq := fun W => HZ.out ▸ qBefore_any p x W
              go_wp2_with fail
              refine wp_region_below wr.heap.size (by kernel_rfl) (by kernel_rfl) ?_
              repeat
                first
                | go_big_quiet_skip
                | (refine q_step (by rfl) ?_
                   apply Exists.intro
                   refine ⟨fun w9 h9 => ?_, ?_⟩
                   · have hc9 := (bcell h9).1
                     go_simp
                     first | done | rfl | exact calls_below h9 (Nat.le_refl _) (hq w9)
                   go_simp)
              refine wpQuiet_nil ?_
              intro w9 hb9
              have hb3 := hbe.trans (hb9.mono hbe.size)
              go_wp2_with fail
              go_roundw
              case rel => exact ⟨k + 1, by omega, by go_num, HO.out.step HX.out ⟨by omega, by omega, fun p' _ hp => by rw [HP.out] at hp; cases hp; exact HZ.out⟩, hb3⟩
              case measure => simp [intOf]; omega
    · obtain rfl : k = n := by omega
      have HR : Hid (checkL X many = 0) := checkL_ok fun i x hx => HO.out i x (by rw [HN.out]; exact (List.getElem?_eq_some_iff.1 hx).1) hx
      go_wp2_with fail
      go_ret
      exact ⟨ret_int HR.out.symm, hbw⟩

set_option maxRecDepth 100000 in
set_option maxHeartbeats 4000000 in
theorem xCheck_any (A : Option Addr) (n c : Nat) (X : List Lk) (many : Int) (w : World) (hl : lSl w w.heap.size A n c X) :
    Calls Try.prog 16 #[.agg #[.slice A n c], .int .i64 many] w fun e w' => e = .returned (.int .i64 (checkL X many)) ∧ Below w.heap.size w w' := by
  have HN := hidp hl.1
  have hcap := hl.2.2.1
  have hlen := hl.2.1
  obtain ⟨W0, hW0⟩ : ∃ W0, w.alloc (.cells #[.slice A n c] 28) = W0 := ⟨_, rfl⟩
  have hBW : Below w.heap.size w W0 := by rw [← hW0]; exact (Below.refl _ w).alloc (Nat.le_refl _) _
  have g1 : W0.heap[w.heap.size]? = some (.cells #[.slice A n c] 28 (0, 0)) := by rw [← hW0]; exact World.alloc_heap_new _ _
  have hz0 : W0.heap.size = w.heap.size + 1 := by rw [← hW0]; simp
  have HW0 := hidp hW0
  have G1 := hidp g1
  have HBW := hidp hBW
  have d1 := cell_of_heap (o := 0) g1
  simp only [List.getElem?_toArray, List.getElem?_cons_zero] at d1
  have l1 := lt_of_cell d1
  clear hW0 g1 hBW
  go_enter Try.func16, Try.ntmps16
  go_wp2_with fail
  rw [HW0.out]
  go_wp2_with fail
  go_loopw [4, 10] (fun r i wr => ∃ k : Nat, k ≤ n ∧ r = .int .i64 0 ∧ i = .int .i64 k ∧ OkTo X many k ∧ Below W0.heap.size W0 wr) (fun _ i _ => n - (intOf i).toNat)
  case atStart => exact ⟨0, by omega, rfl, rfl, fun i x h => by omega, Below.refl _ _⟩
  case round =>
    obtain ⟨k, hk, rfl, rfl, hok, hbe⟩ := hrel
    have HO := hidp hok
    have e1 := cell_of_heap (o := 0) ((hbe.block _ l1).trans G1.out)
    simp only [List.getElem?_toArray, List.getElem?_cons_zero] at e1
    have l3 := lt_of_cell e1
    have hbw := HBW.out.trans (hbe.mono (by omega))
    have hr := hl.below lStable hbw
    clear hok d1 l1
    by_cases hlt : k < n
    · obtain ⟨b, off, x, rfl, hb, hzx, c0, c1, c2, c3, c4, c5⟩ := lSl.get hr hlt
      have l5 := lt_of_cell c0
      have HX := hidp hzx
      have hkn : (k : Int) < n := by omega
      clear hzx
      obtain ⟨wk, hwk⟩ : ∃ wk, wr.alloc (.cells #[.int .i64 x.1.1.kind, .int .i64 x.1.1.subj, .int .i64 x.1.1.obj, .int .i64 x.1.2.1, .int .i64 x.1.2.2, .int .i64 x.2] 49) = wk := ⟨_, rfl⟩
      have hbk : Below W0.heap.size W0 wk := hwk ▸ hbe.alloc hbe.size _
      have hbwk : Below wr.heap.size wr wk := hwk ▸ (Below.refl _ wr).alloc (Nat.le_refl _) _
      have hkb : wk.heap[wr.heap.size]? = some (.cells #[.int .i64 x.1.1.kind, .int .i64 x.1.1.subj, .int .i64 x.1.1.obj, .int .i64 x.1.2.1, .int .i64 x.1.2.2, .int .i64 x.2] 49 (0, 0)) := hwk ▸ World.alloc_heap_new _ _
      have HWK := hidp hwk
      have x0 := cell_of_heap (o := 0) hkb
      have x1 := cell_of_heap (o := 1) hkb
      have x2 := cell_of_heap (o := 2) hkb
      have x3 := cell_of_heap (o := 3) hkb
      have x4 := cell_of_heap (o := 4) hkb
      have x5 := cell_of_heap (o := 5) hkb
      simp only [List.getElem?_toArray, List.getElem?_cons_zero, List.getElem?_cons_succ] at x0 x1 x2 x3 x4 x5
      have lk := lt_of_cell x0
      have e1k := (hbwk.cell (p := ⟨w.heap.size, 0, none⟩) l3).trans e1
      have l3k := lt_of_cell e1k
      clear hwk hkb
      by_cases h1 : x.2 < 0
      · have hd1 : decide (x.2 < 0) = true := by simpa using h1
        go_wp2_with fail
        rw [HWK.out]
        go_wp2_with fail
        refine wp_region_below wk.heap.size (by kernel_rfl) (by kernel_rfl) ?_
        repeat
          first
          | go_big_quiet_skip
          | (refine q_step (by rfl) ?_
             apply Exists.intro
             refine ⟨fun w9 h9 => ?_, ?_⟩
             · have hc9 := (bcell h9).1
               go_simp
               first | done | rfl
             go_simp)
        refine wpQuiet_nil ?_
        intro w9 hb9
        have hb3 := hbk.trans (hb9.mono hbk.size)
        have HR : Hid (checkL X many = 350) := checkL_bad HX.out (fun h => by have := h.1; omega)
        go_wp2_with fail
        go_ret
        exact ⟨ret_int HR.out.symm, HBW.out.trans (hb3.mono (by omega))⟩
      · have hd1 : decide (x.2 < 0) = false := by simpa using h1
        by_cases h2 : many ≤ x.2
        · have hd2 : decide (many ≤ x.2) = true := by simpa using h2
          go_wp2_with fail
          rw [HWK.out]
          go_wp2_with fail
          refine wp_region_below wk.heap.size (by kernel_rfl) (by kernel_rfl) ?_
          repeat
            first
            | go_big_quiet_skip
            | (refine q_step (by rfl) ?_
               apply Exists.intro
               refine ⟨fun w9 h9 => ?_, ?_⟩
               · have hc9 := (bcell h9).1
                 go_simp
                 first | done | rfl
               go_simp)
          refine wpQuiet_nil ?_
          intro w9 hb9
          have hb3 := hbk.trans (hb9.mono hbk.size)
          have HR : Hid (checkL X many = 350) := checkL_bad HX.out (fun h => by have := h.2.1; omega)
          go_wp2_with fail
          go_ret
          exact ⟨ret_int HR.out.symm, HBW.out.trans (hb3.mono (by omega))⟩
        · have hd2 : decide (many ≤ x.2) = false := by simpa using h2
          rcases Nat.eq_zero_or_pos k with h0 | h0
          · have hd3 : decide (0 < k) = false := by simp; omega
            have H0 := hidp h0
            clear h0
            go_wp2_with fail
            rw [HWK.out]
            go_wp2_with fail
            refine wp_region_below wk.heap.size (by kernel_rfl) (by kernel_rfl) ?_
            repeat
              first
              | go_big_quiet_skip
              | (refine q_step (by rfl) ?_
                 apply Exists.intro
                 refine ⟨fun w9 h9 => ?_, ?_⟩
                 · have hc9 := (bcell h9).1
                   go_simp
                   first | done | rfl
                 go_simp)
            refine wpQuiet_nil ?_
            intro w9 hb9
            have hb3 := hbk.trans (hb9.mono hbk.size)
            go_wp2_with fail
            go_roundw
            case rel => exact ⟨k + 1, by omega, rfl, by go_num, HO.out.step HX.out ⟨by omega, by omega, fun p hp => by have := H0.out; omega⟩, hb3⟩
            case measure => simp [intOf]; omega
          · have hd3 : decide (0 < k) = true := by simpa using h0
            obtain ⟨bp, offp, p, hep, hbp, hzp, p0, p1, p2, p3, p4, p5⟩ := lSl.get (k := k - 1) (hl.below lStable (HBW.out.trans (hbk.mono (by omega)))) (by omega)
            simp only [Option.some.injEq, Addr.mk.injEq, and_true] at hep
            obtain ⟨rfl, rfl⟩ := hep
            have hpos : (1 : Int) ≤ k := by omega
            have hin1 : (k : Int) - 1 < n := by omega
            have hwrap : IntKind.i64.wrap ((k : Int) - 1) = (k : Int) - 1 := IntWalk.i64_in _ (by omega)
            have hto : ((k : Int) - 1).toNat = k - 1 := by omega
            have lp := lt_of_cell p0
            have HP := hidp hzp
            obtain ⟨z, hz⟩ : ∃ z, ltL p x = z := ⟨_, rfl⟩
            have HZ := hidp hz
            clear hzp hz
            have hge : decide (0 ≤ cmpL p x) = !z := by rw [cmpL_ge, HZ.out]
            cases z
            · simp only [Bool.not_false] at hge
              go_wp2_with fail
              rw [HWK.out]
              go_wp2_with fail
              refine wp_region_below wk.heap.size (by kernel_rfl) (by kernel_rfl) ?_
              repeat
                first
                | go_big_quiet_skip
                | (refine q_step (by rfl) ?_
                   apply Exists.intro
                   refine ⟨fun w9 h9 => ?_, ?_⟩
                   · have hc9 := (bcell h9).1
                     go_simp
                     first | done | rfl | exact calls_below h9 (Nat.le_refl _) ((xcmp_any p x w9).mono fun _ _ h => ⟨h.1, h.2.b⟩)
                   go_simp)
              refine wpQuiet_nil ?_
              intro w9 hb9
              have hb3 := hbk.trans (hb9.mono hbk.size)
              have HR : Hid (checkL X many = 350) := checkL_bad HX.out (fun h => by have := h.2.2 p h0 HP.out; rw [HZ.out] at this; cases this)
              go_wp2_with fail
              go_ret
              exact ⟨ret_int HR.out.symm, HBW.out.trans (hb3.mono (by omega))⟩
            · simp only [Bool.not_true] at hge
              go_wp2_with fail
              rw [HWK.out]
              go_wp2_with fail
              refine wp_region_below wk.heap.size (by kernel_rfl) (by kernel_rfl) ?_
              repeat
                first
                | go_big_quiet_skip
                | (refine q_step (by rfl) ?_
                   apply Exists.intro
                   refine ⟨fun w9 h9 => ?_, ?_⟩
                   · have hc9 := (bcell h9).1
                     go_simp
                     first | done | rfl | exact calls_below h9 (Nat.le_refl _) ((xcmp_any p x w9).mono fun _ _ h => ⟨h.1, h.2.b⟩)
                   go_simp)
              refine wpQuiet_nil ?_
              intro w9 hb9
              have hb3 := hbk.trans (hb9.mono hbk.size)
              go_wp2_with fail
              go_roundw
              case rel => exact ⟨k + 1, by omega, rfl, by go_num, HO.out.step HX.out ⟨by omega, by omega, fun p' _ hp => by rw [HP.out] at hp; cases hp; exact HZ.out⟩, hb3⟩
              case measure => simp [intOf]; omega
    · obtain rfl : k = n := by omega
      have HR : Hid (checkL X many = 0) := checkL_ok fun i x hx => HO.out i x (by rw [HN.out]; exact (List.getElem?_eq_some_iff.1 hx).1) hx
      go_wp2_with fail
      go_ret
      exact ⟨ret_int HR.out.symm, hbw⟩

end Go.Proofs.Ytologegkbcedhaa
