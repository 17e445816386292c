/- PagesSorted walked (printed by tools/gen146.py). -/
import Derived.Test.YtpnfpdkoeednhaaMJ
import Derived.Test.YtpnfpdkoeednhaaA29
import Derived.BigQuiet
namespace Go.Proofs.Ytpnfpdkoeednhaa
open Go.RowKit Go.Shelf Go.Sort

/-- A fact is later than x, though alike in key and time. -/
def latB (l : List Fc) (x : Fc) (i j : Nat) : Bool := match l[j]? with
  | some y => decide (j ≠ i) && decide (y.key = x.key) && decide (y.known = x.known) && decide (x.no < y.no)
  | none => false
def latTo (l : List Fc) (x : Fc) (i n : Nat) : Bool := (List.range n).any (latB l x i)
theorem latTo_zero (l : List Fc) (x : Fc) (i : Nat) : latTo l x i 0 = false := rfl
theorem latTo_succ (l : List Fc) (x : Fc) (i n : Nat) : latTo l x i (n + 1) = (latTo l x i n || latB l x i n) := by
  unfold latTo; rw [List.range_succ, List.any_append]; simp
theorem latB_some {l : List Fc} {x y : Fc} {i j : Nat} (h : l[j]? = some y) : latB l x i j = (decide (j ≠ i) && decide (y.key = x.key) && decide (y.known = x.known) && decide (x.no < y.no)) := by
  unfold latB; rw [h]
theorem latTo_no {l : List Fc} {x : Fc} {i : Nat} (hx : l[i]? = some x) (h : latTo l x i l.length = false) : ∀ y ∈ l, y.key = x.key → y.known = x.known → ¬ x.no < y.no := by
  intro y hy h1 h2 h3
  obtain ⟨j, hj⟩ := List.mem_iff_getElem?.1 hy
  have hlt := (List.getElem?_eq_some_iff.1 hj).1
  have hb : latB l x i j = false := by
    unfold latTo at h
    rw [List.any_eq_false] at h
    have := h j (List.mem_range.2 hlt)
    simpa using this
  rw [latB_some hj] at hb
  by_cases hji : j = i
  · subst hji
    rw [hx] at hj
    cases hj
    omega
  · simp [hji, h1, h2, h3] at hb
theorem run_cut_one {P : Program} {t e : TypeId} {i : TypeInfo} (w : World) (ht : P.underlying t = some (.slice e)) (hi : P.info? e = some i) (A : Option Addr) (len cap k : Nat) (hk : k < len) (hc : len ≤ cap) :
    (Instr.slice t (.slice A len cap) (some (.int .i64 (k : Int))) (some (.int .i64 ((k : Int) + 1))) none).run P w = .ok (.slice (cutA A cap k i.size) 1 (cap - k)) w := by
  have h1 : (k : Int) + 1 ≤ (cap : Int) := by omega
  have h2 : (k : Int) ≤ (k : Int) + 1 := by omega
  have h4 : 0 ≤ (k : Int) + 1 := by omega
  simp [Instr.slice, run_underlying ht, Instr.sliceBounds, run_sliceBound, h1, h2, h4, sizeOf, typeInfo, hi, cutA]
theorem drop_one {l : List Fc} {k : Nat} {x : Fc} (h : l[k]? = some x) : (l.drop k).take 1 = [x] := by
  obtain ⟨hk, e⟩ := List.getElem?_eq_some_iff.1 h
  rw [List.drop_eq_getElem_cons hk, e]
  rfl
set_option maxRecDepth 100000 in
set_option maxHeartbeats 8000000 in
theorem sortedP_any (s : Ps) (v : Int) (w : World) (hps : PsIn s w w.heap.size) :
    Calls Try.prog 9 #[psVal s, .int .i64 v] w fun e w' => e = .returned (.bool true) ∧ Below w.heap.size w w' := by
  obtain ⟨i0, hi, hz, hs, hbb⟩ := info_parts fInfo
  obtain ⟨b, hb⟩ : ∃ b, w.heap.size = b := ⟨_, rfl⟩
  obtain ⟨W, hW⟩ : ∃ W, w.alloc (.cells #[.slice s.pA s.pn s.pc, .slice s.rA s.rn s.rc] 25) = W := ⟨_, rfl⟩
  have c1 : Below w.heap.size w W := hW ▸ (Below.refl _ w).alloc (Nat.le_refl _) _
  have g1 : W.heap[b]? = some (.cells #[.slice s.pA s.pn s.pc, .slice s.rA s.rn s.rc] 25 (0, 0)) := by rw [← hW, ← hb]; exact World.alloc_heap_new _ _
  have HPs : Hid (∀ W', Below W.heap.size W W' → PsIn s W' W'.heap.size) := fun W' h => hps.later (c1.trans (h.mono c1.size))
  have HPw := hidp hps
  have HG1 := hidp g1
  have HC1 := hidp c1
  have hpc := hps.pages.2.1
  have hpc2 := hps.pages.2.2.1
  clear hps c1 g1
  go_enter Try.func9, Try.ntmps9
  go_wp2_with fail
  clear hb hW
  refine (sane_any W).mono ?_
  rintro e w1 ⟨rfl, hb1⟩
  have HB1 := hidp hb1
  have x0 := cell_of_heap (o := 0) ((hb1.block _ (lt_of_heap HG1.out)).trans HG1.out)
  have x1 := cell_of_heap (o := 1) ((hb1.block _ (lt_of_heap HG1.out)).trans HG1.out)
  have x2 := lt_of_heap ((hb1.block _ (lt_of_heap HG1.out)).trans HG1.out)
  simp only [List.getElem?_toArray, List.getElem?_cons_zero, List.getElem?_cons_succ] at x0 x1
  clear hb1
  go_wp2_with fail
  refine (few_any s w1 (HPs.out _ HB1.out)).mono ?_
  rintro e w2 ⟨rfl, hb2⟩
  have HB2 := hidp (HB1.out.trans (hb2.mono HB1.out.size))
  obtain ⟨few, hfew⟩ : ∃ f, fewP (psV s) s.roots = f := ⟨_, rfl⟩
  have HF := hidp hfew
  rw [hfew]
  clear x0 x1 x2 hb2 hfew
  have x0 := cell_of_heap (o := 0) ((HB2.out.block _ (lt_of_heap HG1.out)).trans HG1.out)
  have x1 := cell_of_heap (o := 1) ((HB2.out.block _ (lt_of_heap HG1.out)).trans HG1.out)
  have x2 := lt_of_heap ((HB2.out.block _ (lt_of_heap HG1.out)).trans HG1.out)
  simp only [List.getElem?_toArray, List.getElem?_cons_zero, List.getElem?_cons_succ] at x0 x1
  cases few
  · go_wp2_with fail
    go_ret
    exact ⟨rfl, HC1.out.trans (HB2.out.mono HC1.out.size)⟩
  have HSlim := hidp (few_slim HPw.out HF.out).1
  have HLen : Hid ((allV s v).length ≤ 1000000) := by
    show _ ≤ _
    rw [allV_eq]
    have := allB_len HF.out v
    omega
  go_wp2_with fail
  refine (pgAll_any s v w2 (HPs.out _ HB2.out) HSlim.out HLen.out).mono ?_
  rintro e w3 ⟨A, n, c, rfl, hl, hb3⟩
  have HB3 := hidp (HB2.out.trans (hb3.mono HB2.out.size))
  obtain ⟨l, hlv⟩ : ∃ l, allV s v = l := ⟨_, rfl⟩
  have HLv := hidp hlv
  rw [hlv] at hl
  obtain ⟨ver, hver⟩ : ∃ x, verOk s v = x := ⟨_, rfl⟩
  have HVer := hidp hver
  rw [hver]
  have HL : Hid (∀ W', Below w3.heap.size w3 W' → fSl W' W'.heap.size A n c l) := fun W' h => hl.keep fStable h.size h.block
  have hnc := hl.2.1
  have hnc2 := hl.2.2.1
  have HN := hidp hl.1
  clear x0 x1 x2 hb3 hlv hver hl
  have x0 := cell_of_heap (o := 0) ((HB3.out.block _ (lt_of_heap HG1.out)).trans HG1.out)
  have x1 := cell_of_heap (o := 1) ((HB3.out.block _ (lt_of_heap HG1.out)).trans HG1.out)
  have x2 := lt_of_heap ((HB3.out.block _ (lt_of_heap HG1.out)).trans HG1.out)
  simp only [List.getElem?_toArray, List.getElem?_cons_zero, List.getElem?_cons_succ] at x0 x1
  cases ver
  · have hn0 : n = 0 := by
      have h1 := HLv.out
      unfold allV at h1
      rw [HVer.out] at h1
      rw [HN.out, ← h1]; rfl
    subst hn0
    rw [show errP false = 470 from rfl]
    go_wp2_with fail
    go_ret
    exact ⟨rfl, HC1.out.trans (HB3.out.mono HC1.out.size)⟩
  rw [show errP true = 0 from rfl]
  have HGood : Hid ((∀ f ∈ l, f.ok = true) ∧ StrP l) := by
    have h1 := allB_good (v := v) (by rw [← verOk_eq]; exact HVer.out)
    rw [← allV_eq, HLv.out] at h1
    exact h1
  go_wp2_with fail
  clear x0 x1 x2
  have HBz := hidp (Below.refl w3.heap.size w3)
  go_loopw [7, 8, 9, 10, 11, 12] (fun s7 s8 s9 s10 s11 s12 wr => ∃ (k : Nat) (v8 v9 v10 v11 v12 : Value), k ≤ n ∧ s7 = .int .i64 k ∧ s8 = v8 ∧ s9 = v9 ∧ s10 = v10 ∧ s11 = v11 ∧ s12 = v12 ∧ Below w3.heap.size w3 wr) (fun s7 _ _ _ _ _ _ => n - (intOf s7).toNat)
  case atStart => exact ⟨0, _, _, _, _, _, by omega, rfl, rfl, rfl, rfl, rfl, rfl, Below.refl _ _⟩
  case round =>
  obtain ⟨k, v8, v9, v10, v11, v12, hk, rfl, rfl, rfl, rfl, rfl, rfl, hbw⟩ := hrel
  have HBw := hidp hbw
  clear hbw
  by_cases hkn : k < n
  case neg =>
    have hkn' : ¬ ((k : Int) < n) := by omega
    go_wp2_with fail
    go_ret
    have h3 := HB3.out.trans (HBw.out.mono HB3.out.size)
    exact ⟨rfl, HC1.out.trans (h3.mono HC1.out.size)⟩
  have hkn' : (k : Int) < n := by omega
  obtain ⟨fb, fo, x, hA, hfb, hx, c0, c1, c2, c3, c4, c5, c6, c7⟩ := fSl.get (HL.out wr HBw.out) hkn
  have hix := fun W => ix_FactsP (c := c) hA hkn W
  have lb := lt_of_cell c0
  have HX := hidp hx
  have HA := hidp hA
  have hcut := fun W => run_cut_one (P := Try.prog) W Try.underlying41 hi A n c k hkn hnc
  rw [hs] at hcut
  have hw1 : IntKind.i64.wrap ((k : Int) + 1) = (k : Int) + 1 := IntWalk.i64_in _ (by omega)
  have HCut : Hid (∀ W', Below wr.heap.size wr W' → fSl W' W'.heap.size (cutA A c k 8) 1 (c - k) [x]) := fun W' h => by
    have h1 := ((HL.out W' (HBw.out.trans (h.mono HBw.out.size))).cut (m := k) (by omega)).take (m := 1) (by omega)
    rw [drop_one HX.out] at h1
    exact h1
  have HCk : Hid (checkF [x] = 0) := by
    show _ = _
    rw [checkF_1, if_pos (HGood.out.1 x (List.mem_of_getElem? HX.out))]
  have HAt : Hid (∀ W', Below wr.heap.size wr W' → PsIn s W' W'.heap.size) := fun W' h => HPs.out W' (HB3.out.trans ((HBw.out.trans (h.mono HBw.out.size)).mono HB3.out.size))
  have HGw := hidp (((HB3.out.trans (HBw.out.mono HB3.out.size)).block _ (lt_of_heap HG1.out)).trans HG1.out)
  clear hx hA
  go_upto_region 11 with fail
  go_cut [58] (fun s58 wx => s58 = .bool false ∧ Below wr.heap.size wr wx)
  case first =>
    rcases Nat.eq_zero_or_pos k with hk0 | hk0
    · have hk0' : ¬ ((0 : Int) < k) := by omega
      have hdn : decide (0 < k) = false := decide_eq_false (by omega)
      clear hk0 hk0' 
      refine wp_region_S wr.heap.size 24 (fun _ => false) (Nat.le_refl _) (by kernel_rfl) (by kernel_rfl) (by kernel_rfl) ?_
      dsimp only [List.take, List.drop]
      apply relS_det (mask := [])
      · rfl
      · kernel_rfl
      · kernel_rfl
      · dsimp only [oblS]
        rintro w9 h9
        go_simp
        exact ⟨Below.refl _ _, rfl⟩
      dsimp only [List.nil_append, List.cons_append]
      apply relS_det (mask := [false])
      · rfl
      · kernel_rfl
      · kernel_rfl
      · dsimp only [oblS]
        rintro w9 h9
        go_simp
        exact ⟨Below.refl _ _, rfl⟩
      dsimp only [List.nil_append, List.cons_append]
      apply relS_det (mask := [false, false])
      · rfl
      · kernel_rfl
      · kernel_rfl
      · dsimp only [oblS]
        rintro w9 h9
        go_simp
        exact ⟨Below.refl _ _, rfl⟩
      dsimp only [List.nil_append, List.cons_append]
      apply relS_det (mask := [false, false, true])
      · rfl
      · kernel_rfl
      · kernel_rfl
      · dsimp only [oblS]
        rintro w9 h9
        go_simp
        exact ⟨Below.refl _ _, rfl⟩
      dsimp only [List.nil_append, List.cons_append]
      apply relS_det (mask := [true, true, false, true])
      · rfl
      · kernel_rfl
      · kernel_rfl
      · dsimp only [oblS]
        rintro w9 h9
        go_simp
        exact ⟨Below.refl _ _, rfl⟩
      dsimp only [List.nil_append, List.cons_append]
      apply relS_det (mask := [false, false, false, false, true]) (x := .int .i64 0)
      · rfl
      · kernel_rfl
      · kernel_rfl
      · dsimp only [oblS]
        rintro w9 h9
        have hc9 := (bcell h9).1
        go_simp
        refine (fCheck_any _ _ _ [x] w9 (HCut.out w9 h9)).mono ?_
        rintro e w7 ⟨rfl, hb7⟩
        exact ⟨_, rfl, hb7, by show _ = _; rw [HCk.out]⟩
      dsimp only [List.nil_append, List.cons_append]
      apply relS_det (mask := [false, false, false, false, false, true]) (x := .bool false)
      · rfl
      · kernel_rfl
      · kernel_rfl
      · dsimp only [oblS]
        rintro w9 h9
        go_simp
        exact ⟨Below.refl _ _, rfl⟩
      dsimp only [List.nil_append, List.cons_append]
      apply relS_det (mask := [false, false, false, false, false, false, true]) (x := .bool false)
      · rfl
      · kernel_rfl
      · kernel_rfl
      · dsimp only [oblS]
        rintro w9 h9
        go_simp
        exact ⟨Below.refl _ _, rfl⟩
      dsimp only [List.nil_append, List.cons_append]
      apply relS_detg (mask := [false, false, false, false, false, false, false, true]) (t := 42) (want := false) (x := .int .i64 (k : Int))
      · rfl
      · kernel_rfl
      · kernel_rfl
      · dsimp only [oblS]
        refine ⟨by rfl, ?_⟩
        rintro w9 h9
        go_simp
        exact ⟨Below.refl _ _, rfl⟩
      dsimp only [List.nil_append, List.cons_append]
      apply relS_detg (mask := [false, false, false, false, false, false, false, true, true]) (t := 42) (want := false) (x := .bool false)
      · rfl
      · kernel_rfl
      · kernel_rfl
      · dsimp only [oblS]
        refine ⟨by rfl, ?_⟩
        rintro w9 h9
        go_simp
        exact ⟨Below.refl _ _, rfl⟩
      dsimp only [List.nil_append, List.cons_append]
      apply relS_detg (mask := [false, false, false, false, false, false, false, true, false, true]) (t := 42) (want := false) (x := .bool false)
      · rfl
      · kernel_rfl
      · kernel_rfl
      · dsimp only [oblS]
        refine ⟨by rfl, ?_⟩
        rintro w9 h9
        go_simp
        exact ⟨Below.refl _ _, rfl⟩
      dsimp only [List.nil_append, List.cons_append]
      apply relS_not (mask := [false, false, false, false, false, false, false, false, false, false, true]) (t := 45) (want := true) (hf := by rfl) (hg := by kernel_rfl) (hm := by kernel_rfl)
      · rfl
      dsimp only [List.nil_append, List.cons_append]
      apply relS_not (mask := [false, false, false, false, false, false, false, false, false, false, true, false]) (t := 45) (want := true) (hf := by rfl) (hg := by kernel_rfl) (hm := by kernel_rfl)
      · rfl
      dsimp only [List.nil_append, List.cons_append]
      apply relS_not (mask := [false, false, false, false, false, false, false, false, false, false, true, false, true]) (t := 45) (want := true) (hf := by rfl) (hg := by kernel_rfl) (hm := by kernel_rfl)
      · rfl
      dsimp only [List.nil_append, List.cons_append]
      apply relS_not (mask := [false, false, false, false, false, false, false, false, false, false, true, true, false, true]) (t := 45) (want := true) (hf := by rfl) (hg := by kernel_rfl) (hm := by kernel_rfl)
      · rfl
      dsimp only [List.nil_append, List.cons_append]
      apply relS_not (mask := [false, false, false, false, false, false, false, false, false, false, true, false, false, false, true]) (t := 45) (want := true) (hf := by rfl) (hg := by kernel_rfl) (hm := by kernel_rfl)
      · rfl
      dsimp only [List.nil_append, List.cons_append]
      apply relS_not (mask := [false, false, false, false, false, false, false, false, false, false, true, false, false, false, false, false]) (t := 45) (want := true) (hf := by rfl) (hg := by kernel_rfl) (hm := by kernel_rfl)
      · rfl
      dsimp only [List.nil_append, List.cons_append]
      apply relS_not (mask := [false, false, false, false, false, false, false, false, false, false, true, false, false, false, false, false, false]) (t := 45) (want := true) (hf := by rfl) (hg := by kernel_rfl) (hm := by kernel_rfl)
      · rfl
      dsimp only [List.nil_append, List.cons_append]
      apply relS_not (mask := [false, false, false, false, false, false, false, false, false, false, true, false, false, false, false, false, true, true]) (t := 45) (want := true) (hf := by rfl) (hg := by kernel_rfl) (hm := by kernel_rfl)
      · rfl
      dsimp only [List.nil_append, List.cons_append]
      apply relS_not (mask := [false, false, false, false, false, false, false, false, false, false, true, false, false, false, false, false, false, false, true]) (t := 45) (want := true) (hf := by rfl) (hg := by kernel_rfl) (hm := by kernel_rfl)
      · rfl
      dsimp only [List.nil_append, List.cons_append]
      apply relS_not (mask := [false, false, false, false, false, false, false, false, false, false, true, false, false, false, false, true, false, false, false, true]) (t := 45) (want := true) (hf := by rfl) (hg := by kernel_rfl) (hm := by kernel_rfl)
      · rfl
      dsimp only [List.nil_append, List.cons_append]
      apply relS_not (mask := [false, false, false, false, false, false, false, false, false, false, true, false, false, false, false, false, false, false, false, false, true]) (t := 45) (want := true) (hf := by rfl) (hg := by kernel_rfl) (hm := by kernel_rfl)
      · rfl
      dsimp only [List.nil_append, List.cons_append]
      apply relS_detg (mask := [false, false, false, false, false, false, false, true, false, false, true, false, false, false, false, false, false, false, false, false, false, true]) (t := 42) (want := false) (x := .bool false)
      · rfl
      · kernel_rfl
      · kernel_rfl
      · dsimp only [oblS]
        refine ⟨by rfl, ?_⟩
        rintro w9 h9
        go_simp
        exact ⟨Below.refl _ _, rfl⟩
      dsimp only [List.nil_append, List.cons_append]
      apply relS_det (mask := [false, false, false, false, false, false, false, true, false, false, false, false, false, false, false, false, false, false, false, false, false, false, true]) (x := .bool false)
      · rfl
      · kernel_rfl
      · kernel_rfl
      · dsimp only [oblS]
        rintro w9 h9
        go_simp
        exact ⟨Below.refl _ _, rfl⟩
      dsimp only [List.nil_append, List.cons_append]
      refine relS_end (by rfl) ?_
      dsimp only [finS]
      rintro w8 hb
      go_simp
      go_wp2_with fail
      go_meet
      exact ⟨rfl, hb⟩
    · obtain ⟨j, HJ⟩ : ∃ j, Hid (k = j + 1) := ⟨k - 1, (by omega : k = k - 1 + 1)⟩
      have hdn : decide (0 < k) = true := decide_eq_true hk0
      have hwm : IntKind.i64.wrap ((k : Int) - 1) = (j : Int) := by have := HJ.out; rw [show (k : Int) - 1 = j by omega]; exact IntWalk.i64_in _ (by omega)
      obtain ⟨yb, yo, y, hA, hyb, hy, d0, d1, d2, d3, d4, d5, d6, d7⟩ := fSl.get (HL.out wr HBw.out) (show j < n by have := HJ.out; omega)
      have hixy := fun W => ix_FactsP (c := c) hA (show j < n by have := HJ.out; omega) W
      have ly := lt_of_cell d0
      have HLt : Hid (ltP y x = true) := str_next HGood.out.2 hy (by rw [← HJ.out]; exact HX.out)
      clear hk0 hy hA
      refine wp_region_S wr.heap.size 24 (fun _ => false) (Nat.le_refl _) (by kernel_rfl) (by kernel_rfl) (by kernel_rfl) ?_
      dsimp only [List.take, List.drop]
      apply relS_det (mask := [])
      · rfl
      · kernel_rfl
      · kernel_rfl
      · dsimp only [oblS]
        rintro w9 h9
        go_simp
        exact ⟨Below.refl _ _, rfl⟩
      dsimp only [List.nil_append, List.cons_append]
      apply relS_det (mask := [false])
      · rfl
      · kernel_rfl
      · kernel_rfl
      · dsimp only [oblS]
        rintro w9 h9
        go_simp
        exact ⟨Below.refl _ _, rfl⟩
      dsimp only [List.nil_append, List.cons_append]
      apply relS_det (mask := [false, false])
      · rfl
      · kernel_rfl
      · kernel_rfl
      · dsimp only [oblS]
        rintro w9 h9
        go_simp
        exact ⟨Below.refl _ _, rfl⟩
      dsimp only [List.nil_append, List.cons_append]
      apply relS_det (mask := [false, false, true])
      · rfl
      · kernel_rfl
      · kernel_rfl
      · dsimp only [oblS]
        rintro w9 h9
        go_simp
        exact ⟨Below.refl _ _, rfl⟩
      dsimp only [List.nil_append, List.cons_append]
      apply relS_det (mask := [true, true, false, true])
      · rfl
      · kernel_rfl
      · kernel_rfl
      · dsimp only [oblS]
        rintro w9 h9
        go_simp
        exact ⟨Below.refl _ _, rfl⟩
      dsimp only [List.nil_append, List.cons_append]
      apply relS_det (mask := [false, false, false, false, true]) (x := .int .i64 0)
      · rfl
      · kernel_rfl
      · kernel_rfl
      · dsimp only [oblS]
        rintro w9 h9
        have hc9 := (bcell h9).1
        go_simp
        refine (fCheck_any _ _ _ [x] w9 (HCut.out w9 h9)).mono ?_
        rintro e w7 ⟨rfl, hb7⟩
        exact ⟨_, rfl, hb7, by show _ = _; rw [HCk.out]⟩
      dsimp only [List.nil_append, List.cons_append]
      apply relS_det (mask := [false, false, false, false, false, true]) (x := .bool false)
      · rfl
      · kernel_rfl
      · kernel_rfl
      · dsimp only [oblS]
        rintro w9 h9
        go_simp
        exact ⟨Below.refl _ _, rfl⟩
      dsimp only [List.nil_append, List.cons_append]
      apply relS_det (mask := [false, false, false, false, false, false, true]) (x := .bool false)
      · rfl
      · kernel_rfl
      · kernel_rfl
      · dsimp only [oblS]
        rintro w9 h9
        go_simp
        exact ⟨Below.refl _ _, rfl⟩
      dsimp only [List.nil_append, List.cons_append]
      apply relS_detg (mask := [false, false, false, false, false, false, false, true]) (t := 42) (want := false) (x := .int .i64 (k : Int))
      · rfl
      · kernel_rfl
      · kernel_rfl
      · dsimp only [oblS]
        refine ⟨by rfl, ?_⟩
        rintro w9 h9
        go_simp
        exact ⟨Below.refl _ _, rfl⟩
      dsimp only [List.nil_append, List.cons_append]
      apply relS_detg (mask := [false, false, false, false, false, false, false, true, true]) (t := 42) (want := false) (x := .bool true)
      · rfl
      · kernel_rfl
      · kernel_rfl
      · dsimp only [oblS]
        refine ⟨by rfl, ?_⟩
        rintro w9 h9
        go_simp
        exact ⟨Below.refl _ _, rfl⟩
      dsimp only [List.nil_append, List.cons_append]
      apply relS_detg (mask := [false, false, false, false, false, false, false, true, false, true]) (t := 42) (want := false) (x := .bool true)
      · rfl
      · kernel_rfl
      · kernel_rfl
      · dsimp only [oblS]
        refine ⟨by rfl, ?_⟩
        rintro w9 h9
        go_simp
        exact ⟨Below.refl _ _, rfl⟩
      dsimp only [List.nil_append, List.cons_append]
      apply relS_detg (mask := [false, false, false, false, false, false, false, false, false, false, true]) (t := 45) (want := true)
      · rfl
      · kernel_rfl
      · kernel_rfl
      · dsimp only [oblS]
        refine ⟨by rfl, ?_⟩
        rintro w9 h9
        go_simp
        exact ⟨Below.refl _ _, rfl⟩
      dsimp only [List.nil_append, List.cons_append]
      apply relS_detg (mask := [false, false, false, false, false, false, false, false, false, false, true, false]) (t := 45) (want := true)
      · rfl
      · kernel_rfl
      · kernel_rfl
      · dsimp only [oblS]
        refine ⟨by rfl, ?_⟩
        rintro w9 h9
        go_simp
        exact ⟨Below.refl _ _, rfl⟩
      dsimp only [List.nil_append, List.cons_append]
      apply relS_detg (mask := [false, false, false, false, false, false, false, false, false, false, true, false, true]) (t := 45) (want := true) (x := .int .i64 (j : Int))
      · rfl
      · kernel_rfl
      · kernel_rfl
      · dsimp only [oblS]
        refine ⟨by rfl, ?_⟩
        rintro w9 h9
        go_simp
        exact ⟨Below.refl _ _, rfl⟩
      dsimp only [List.nil_append, List.cons_append]
      apply relS_detg (mask := [false, false, false, false, false, false, false, false, false, false, true, true, false, true]) (t := 45) (want := true)
      · rfl
      · kernel_rfl
      · kernel_rfl
      · dsimp only [oblS]
        refine ⟨by rfl, ?_⟩
        rintro w9 h9
        go_simp
        exact ⟨Below.refl _ _, rfl⟩
      dsimp only [List.nil_append, List.cons_append]
      apply relS_detg (mask := [false, false, false, false, false, false, false, false, false, false, true, false, false, false, true]) (t := 45) (want := true) (x := .agg #[.int .i64 y.key.kind, .int .i64 y.key.subj, .int .i64 y.key.obj, .int .i64 y.val, .int .i64 y.fr, .int .i64 y.to, .int .i64 y.known, .int .i64 y.no])
      · rfl
      · kernel_rfl
      · kernel_rfl
      · dsimp only [oblS]
        refine ⟨by rfl, ?_⟩
        rintro w9 h9
        have hc9 := (bcell h9).1
        go_simp
        exact ⟨Below.refl _ _, rfl⟩
      dsimp only [List.nil_append, List.cons_append]
      apply relS_detg (mask := [false, false, false, false, false, false, false, false, false, false, true, false, false, false, false, false]) (t := 45) (want := true)
      · rfl
      · kernel_rfl
      · kernel_rfl
      · dsimp only [oblS]
        refine ⟨by rfl, ?_⟩
        rintro w9 h9
        go_simp
        exact ⟨Below.refl _ _, rfl⟩
      dsimp only [List.nil_append, List.cons_append]
      apply relS_detg (mask := [false, false, false, false, false, false, false, false, false, false, true, false, false, false, false, false, false]) (t := 45) (want := true)
      · rfl
      · kernel_rfl
      · kernel_rfl
      · dsimp only [oblS]
        refine ⟨by rfl, ?_⟩
        rintro w9 h9
        go_simp
        exact ⟨Below.refl _ _, rfl⟩
      dsimp only [List.nil_append, List.cons_append]
      apply relS_detg (mask := [false, false, false, false, false, false, false, false, false, false, true, false, false, false, false, false, true, true]) (t := 45) (want := true)
      · rfl
      · kernel_rfl
      · kernel_rfl
      · dsimp only [oblS]
        refine ⟨by rfl, ?_⟩
        rintro w9 h9
        go_simp
        exact ⟨Below.refl _ _, rfl⟩
      dsimp only [List.nil_append, List.cons_append]
      apply relS_detg (mask := [false, false, false, false, false, false, false, false, false, false, true, false, false, false, false, false, false, false, true]) (t := 45) (want := true) (x := .agg #[.int .i64 x.key.kind, .int .i64 x.key.subj, .int .i64 x.key.obj, .int .i64 x.val, .int .i64 x.fr, .int .i64 x.to, .int .i64 x.known, .int .i64 x.no])
      · rfl
      · kernel_rfl
      · kernel_rfl
      · dsimp only [oblS]
        refine ⟨by rfl, ?_⟩
        rintro w9 h9
        have hc9 := (bcell h9).1
        go_simp
        exact ⟨Below.refl _ _, rfl⟩
      dsimp only [List.nil_append, List.cons_append]
      apply relS_detg (mask := [false, false, false, false, false, false, false, false, false, false, true, false, false, false, false, true, false, false, false, true]) (t := 45) (want := true) (x := .bool true)
      · rfl
      · kernel_rfl
      · kernel_rfl
      · dsimp only [oblS]
        refine ⟨by rfl, ?_⟩
        rintro w9 h9
        have hc9 := (bcell h9).1
        go_simp
        refine (r47Before_any y x w9).mono ?_
        rintro e w7 ⟨rfl, hb7⟩
        exact ⟨_, rfl, hb7, by show _ = _; rw [HLt.out]⟩
      dsimp only [List.nil_append, List.cons_append]
      apply relS_detg (mask := [false, false, false, false, false, false, false, false, false, false, true, false, false, false, false, false, false, false, false, false, true]) (t := 45) (want := true) (x := .bool false)
      · rfl
      · kernel_rfl
      · kernel_rfl
      · dsimp only [oblS]
        refine ⟨by rfl, ?_⟩
        rintro w9 h9
        go_simp
        exact ⟨Below.refl _ _, rfl⟩
      dsimp only [List.nil_append, List.cons_append]
      apply relS_detg (mask := [false, false, false, false, false, false, false, true, false, false, true, false, false, false, false, false, false, false, false, false, false, true]) (t := 42) (want := false) (x := .bool false)
      · rfl
      · kernel_rfl
      · kernel_rfl
      · dsimp only [oblS]
        refine ⟨by rfl, ?_⟩
        rintro w9 h9
        go_simp
        exact ⟨Below.refl _ _, rfl⟩
      dsimp only [List.nil_append, List.cons_append]
      apply relS_det (mask := [false, false, false, false, false, false, false, true, false, false, false, false, false, false, false, false, false, false, false, false, false, false, true]) (x := .bool false)
      · rfl
      · kernel_rfl
      · kernel_rfl
      · dsimp only [oblS]
        rintro w9 h9
        go_simp
        exact ⟨Below.refl _ _, rfl⟩
      dsimp only [List.nil_append, List.cons_append]
      refine relS_end (by rfl) ?_
      dsimp only [finS]
      rintro w8 hb
      go_simp
      go_wp2_with fail
      go_meet
      exact ⟨rfl, hb⟩
  case rest =>
  rename World => w4
  obtain ⟨rfl, hb4⟩ := hcut
  have HB4 := hidp (hb4 : Below wr.heap.size wr w4)
  have e0 := ((bcell HB4.out).1 fb (fo + k * 8) lb).trans c0
  have e1 := ((bcell HB4.out).1 fb (fo + k * 8 + 1) lb).trans c1
  have e2 := ((bcell HB4.out).1 fb (fo + k * 8 + 2) lb).trans c2
  have e4 := ((bcell HB4.out).1 fb (fo + k * 8 + 4) lb).trans c4
  have e6 := ((bcell HB4.out).1 fb (fo + k * 8 + 6) lb).trans c6
  have lf := lt_of_cell e0
  have gb := (HB4.out.block _ (lt_of_heap HGw.out)).trans HGw.out
  have x0 := cell_of_heap (o := 0) gb
  have x1 := cell_of_heap (o := 1) gb
  have x2 := lt_of_heap gb
  simp only [List.getElem?_toArray, List.getElem?_cons_zero, List.getElem?_cons_succ] at x0 x1
  obtain ⟨q, hq⟩ : ∃ q, atF l x.key x.fr x.known = q := ⟨_, rfl⟩
  have HQ := hidp hq
  clear hb4 c0 c1 c2 c3 c4 c5 c6 c7 lb gb hq
  go_upto_region 13 with fail
  refine wp_region_S w4.heap.size 26 (fun _ => false) (Nat.le_refl _) (by kernel_rfl) (by kernel_rfl) (by kernel_rfl) ?_
  dsimp only [List.take, List.drop]
  apply relS_det (mask := []) (x := .agg #[.slice s.pA s.pn s.pc, .slice s.rA s.rn s.rc])
  · rfl
  · kernel_rfl
  · kernel_rfl
  · dsimp only [oblS]
    rintro w9 h9
    have hc9 := (bcell h9).1
    go_simp
    exact ⟨Below.refl _ _, rfl⟩
  dsimp only [List.nil_append, List.cons_append]
  apply relS_det (mask := [false])
  · rfl
  · kernel_rfl
  · kernel_rfl
  · dsimp only [oblS]
    rintro w9 h9
    go_simp
    exact ⟨Below.refl _ _, rfl⟩
  dsimp only [List.nil_append, List.cons_append]
  apply relS_det (mask := [false, false])
  · rfl
  · kernel_rfl
  · kernel_rfl
  · dsimp only [oblS]
    rintro w9 h9
    go_simp
    exact ⟨Below.refl _ _, rfl⟩
  dsimp only [List.nil_append, List.cons_append]
  apply relS_det (mask := [false, false, false])
  · rfl
  · kernel_rfl
  · kernel_rfl
  · dsimp only [oblS]
    rintro w9 h9
    go_simp
    exact ⟨Below.refl _ _, rfl⟩
  dsimp only [List.nil_append, List.cons_append]
  apply relS_det (mask := [false, false, true, true])
  · rfl
  · kernel_rfl
  · kernel_rfl
  · dsimp only [oblS]
    rintro w9 h9
    go_simp
    exact ⟨Below.refl _ _, rfl⟩
  dsimp only [List.nil_append, List.cons_append]
  apply relS_det (mask := [false, false, false, false, true])
  · rfl
  · kernel_rfl
  · kernel_rfl
  · dsimp only [oblS]
    rintro w9 h9
    go_simp
    exact ⟨Below.refl _ _, rfl⟩
  dsimp only [List.nil_append, List.cons_append]
  apply relS_det (mask := [false, false, false, false, false, true]) (x := .agg #[.int .i64 x.key.kind, .int .i64 x.key.subj, .int .i64 x.key.obj])
  · rfl
  · kernel_rfl
  · kernel_rfl
  · dsimp only [oblS]
    rintro w9 h9
    have hc9 := (bcell h9).1
    go_simp
    exact ⟨Below.refl _ _, rfl⟩
  dsimp only [List.nil_append, List.cons_append]
  apply relS_det (mask := [false, false, false, false, false, false, false])
  · rfl
  · kernel_rfl
  · kernel_rfl
  · dsimp only [oblS]
    rintro w9 h9
    go_simp
    exact ⟨Below.refl _ _, rfl⟩
  dsimp only [List.nil_append, List.cons_append]
  apply relS_det (mask := [false, false, false, false, false, false, false, false])
  · rfl
  · kernel_rfl
  · kernel_rfl
  · dsimp only [oblS]
    rintro w9 h9
    go_simp
    exact ⟨Below.refl _ _, rfl⟩
  dsimp only [List.nil_append, List.cons_append]
  apply relS_det (mask := [false, false, false, false, false, false, false, true, true])
  · rfl
  · kernel_rfl
  · kernel_rfl
  · dsimp only [oblS]
    rintro w9 h9
    go_simp
    exact ⟨Below.refl _ _, rfl⟩
  dsimp only [List.nil_append, List.cons_append]
  apply relS_det (mask := [false, false, false, false, false, false, false, false, false, true])
  · rfl
  · kernel_rfl
  · kernel_rfl
  · dsimp only [oblS]
    rintro w9 h9
    go_simp
    exact ⟨Below.refl _ _, rfl⟩
  dsimp only [List.nil_append, List.cons_append]
  apply relS_det (mask := [false, false, false, false, false, false, false, false, false, false, true])
  · rfl
  · kernel_rfl
  · kernel_rfl
  · dsimp only [oblS]
    rintro w9 h9
    go_simp
    exact ⟨Below.refl _ _, rfl⟩
  dsimp only [List.nil_append, List.cons_append]
  apply relS_det (mask := [false, false, false, false, false, false, false, false, false, false, false, true]) (x := .int .i64 x.fr)
  · rfl
  · kernel_rfl
  · kernel_rfl
  · dsimp only [oblS]
    rintro w9 h9
    have hc9 := (bcell h9).1
    go_simp
    exact ⟨Below.refl _ _, rfl⟩
  dsimp only [List.nil_append, List.cons_append]
  apply relS_det (mask := [false, false, false, false, false, false, false, false, false, false, false, false, false])
  · rfl
  · kernel_rfl
  · kernel_rfl
  · dsimp only [oblS]
    rintro w9 h9
    go_simp
    exact ⟨Below.refl _ _, rfl⟩
  dsimp only [List.nil_append, List.cons_append]
  apply relS_det (mask := [false, false, false, false, false, false, false, false, false, false, false, false, false, false])
  · rfl
  · kernel_rfl
  · kernel_rfl
  · dsimp only [oblS]
    rintro w9 h9
    go_simp
    exact ⟨Below.refl _ _, rfl⟩
  dsimp only [List.nil_append, List.cons_append]
  apply relS_det (mask := [false, false, false, false, false, false, false, false, false, false, false, false, false, true, true])
  · rfl
  · kernel_rfl
  · kernel_rfl
  · dsimp only [oblS]
    rintro w9 h9
    go_simp
    exact ⟨Below.refl _ _, rfl⟩
  dsimp only [List.nil_append, List.cons_append]
  apply relS_det (mask := [false, false, false, false, false, false, false, false, false, false, false, false, false, false, false, true])
  · rfl
  · kernel_rfl
  · kernel_rfl
  · dsimp only [oblS]
    rintro w9 h9
    go_simp
    exact ⟨Below.refl _ _, rfl⟩
  dsimp only [List.nil_append, List.cons_append]
  apply relS_det (mask := [false, false, false, false, false, false, false, false, false, false, false, false, false, false, false, false, true]) (x := .int .i64 x.known)
  · rfl
  · kernel_rfl
  · kernel_rfl
  · dsimp only [oblS]
    rintro w9 h9
    have hc9 := (bcell h9).1
    go_simp
    exact ⟨Below.refl _ _, rfl⟩
  dsimp only [List.nil_append, List.cons_append]
  apply relS_det (mask := [true, true, false, false, false, false, true, false, false, false, false, false, true, false, false, false, false, true]) (x := .tuple #[.int .i64 (q.getD 0), .bool q.isSome, .int .i64 0])
  · rfl
  · kernel_rfl
  · kernel_rfl
  · dsimp only [oblS]
    rintro w9 h9
    have hc9 := (bcell h9).1
    go_simp
    refine (pgAt_any s v x.key x.fr x.known w9 (HAt.out w9 (HB4.out.trans (h9.mono HB4.out.size))) HSlim.out HLen.out).mono ?_
    rintro e w7 ⟨rfl, hb7⟩
    exact ⟨_, rfl, hb7, by show _ = _; rw [HLv.out, HQ.out, HVer.out]; rfl⟩
  dsimp only [List.nil_append, List.cons_append]
  apply relS_det (mask := [false, false, false, false, false, false, false, false, false, false, false, false, false, false, false, false, false, false, true]) (x := .tuple #[.int .i64 (q.getD 0), .bool q.isSome, .int .i64 0])
  · rfl
  · kernel_rfl
  · kernel_rfl
  · dsimp only [oblS]
    rintro w9 h9
    go_simp
    exact ⟨Below.refl _ _, rfl⟩
  dsimp only [List.nil_append, List.cons_append]
  apply relS_det (mask := [false, false, false, false, false, false, false, false, false, false, false, false, false, false, false, false, false, false, false, true]) (x := .int .i64 (q.getD 0))
  · rfl
  · kernel_rfl
  · kernel_rfl
  · dsimp only [oblS]
    rintro w9 h9
    go_simp
    exact ⟨Below.refl _ _, rfl⟩
  dsimp only [List.nil_append, List.cons_append]
  apply relS_det (mask := [false, false, false, false, false, false, false, false, false, false, false, false, false, false, false, false, false, false, false, true, false]) (x := .bool q.isSome)
  · rfl
  · kernel_rfl
  · kernel_rfl
  · dsimp only [oblS]
    rintro w9 h9
    go_simp
    exact ⟨Below.refl _ _, rfl⟩
  dsimp only [List.nil_append, List.cons_append]
  apply relS_det (mask := [false, false, false, false, false, false, false, false, false, false, false, false, false, false, false, false, false, false, false, true, false, false]) (x := .int .i64 0)
  · rfl
  · kernel_rfl
  · kernel_rfl
  · dsimp only [oblS]
    rintro w9 h9
    go_simp
    exact ⟨Below.refl _ _, rfl⟩
  dsimp only [List.nil_append, List.cons_append]
  apply relS_det (mask := [false, false, false, false, false, false, false, false, false, false, false, false, false, false, false, false, false, false, false, false, true, false, false]) (x := .int .i64 (q.getD 0))
  · rfl
  · kernel_rfl
  · kernel_rfl
  · dsimp only [oblS]
    rintro w9 h9
    go_simp
    exact ⟨Below.refl _ _, rfl⟩
  dsimp only [List.nil_append, List.cons_append]
  apply relS_det (mask := [false, false, false, false, false, false, false, false, false, false, false, false, false, false, false, false, false, false, false, false, false, true, false, false]) (x := .bool q.isSome)
  · rfl
  · kernel_rfl
  · kernel_rfl
  · dsimp only [oblS]
    rintro w9 h9
    go_simp
    exact ⟨Below.refl _ _, rfl⟩
  dsimp only [List.nil_append, List.cons_append]
  apply relS_det (mask := [false, false, false, false, false, false, false, false, false, false, false, false, false, false, false, false, false, false, false, false, false, false, true, false, false]) (x := .int .i64 0)
  · rfl
  · kernel_rfl
  · kernel_rfl
  · dsimp only [oblS]
    rintro w9 h9
    go_simp
    exact ⟨Below.refl _ _, rfl⟩
  dsimp only [List.nil_append, List.cons_append]
  refine relS_end (by rfl) ?_
  dsimp only [finS]
  rintro w5 hb
  have HB5 := hidp (HBw.out.trans ((HB4.out.trans (hb.mono HB4.out.size)).mono HBw.out.size))
  clear hb e0 e1 e2 e4 e6 lf x0 x1 x2
  go_simp
  go_wp2_with fail
  go_loopw [11, 12] (fun s11 s12 wu => ∃ j : Nat, j ≤ n ∧ s11 = .bool (latTo l x k j) ∧ s12 = .int .i64 j ∧ Below w3.heap.size w3 wu) (fun _ s12 _ => n - (intOf s12).toNat)
  case atStart => exact ⟨0, by omega, rfl, rfl, HB5.out⟩
  case round =>
  obtain ⟨j, hj, rfl, rfl, hbu⟩ := hrel
  rename World => wu
  have HBu := hidp hbu
  obtain ⟨lt, hlt⟩ : ∃ b, latTo l x k j = b := ⟨_, rfl⟩
  have HLt := hidp hlt
  rw [hlt]
  clear hbu hlt
  by_cases hjn : j < n
  · have hjn' : (j : Int) < n := by omega
    obtain ⟨yb, yo, y, hA, _, hy, d0, d1, d2, d3, d4, d5, d6, d7⟩ := fSl.get (HL.out wu HBu.out) hjn
    obtain ⟨zb, zo, z, hA2, _, hz2, e0, e1, e2, e3, e4, e5, e6, e7⟩ := fSl.get (HL.out wu HBu.out) hkn
    obtain rfl : z = x := Option.some.inj (hz2.symm.trans HX.out)
    have hixy := fun W => ix_FactsP (c := c) hA hjn W
    have hixz := fun W => ix_FactsP (c := c) hA2 hkn W
    have ly := lt_of_cell d0
    have lz := lt_of_cell e0
    have HY := hidp hy
    have hwj : IntKind.i64.wrap ((j : Int) + 1) = (j : Int) + 1 := IntWalk.i64_in _ (by omega)
    clear hy hz2 hA hA2 hix
    cases lt
    · by_cases hjk : j = k
      · have hd : ((j : Int) != (k : Int)) = false := by rw [hjk]; simp
        have HT : Hid (latTo l z k (j + 1) = false) := by show _ = _; rw [latTo_succ, HLt.out, latB_some HY.out, hjk]; simp
        clear hjk
        go_wp2_with fail
        go_quiet (fail)
        have hbn := below_drewN HBu.out nq
        generalize wu.drewN nq = wn at hbn ⊢
        go_wp2_with fail
        go_roundw
        case rel => exact ⟨j + 1, by omega, by rw [HT.out], by go_num, hbn⟩
        case measure => simp [intOf]; omega
      · have hd : ((j : Int) != (k : Int)) = true := by simp; omega
        have HJ := hidp hjk
        clear hjk
        obtain ⟨qk, hqk⟩ : ∃ b, decide (y.key = z.key) = b := ⟨_, rfl⟩
        have HK := hidp hqk
        have hqe := fun W => k_eql y.key z.key W
        rw [hqk] at hqe
        clear hqk
        cases qk
        · have HT : Hid (latTo l z k (j + 1) = false) := by show _ = _; rw [latTo_succ, HLt.out, latB_some HY.out, HK.out]; simp
          go_wp2_with fail
          go_quiet (fail)
          have hbn := below_drewN HBu.out nq
          generalize wu.drewN nq = wn at hbn ⊢
          go_wp2_with fail
          go_roundw
          case rel => exact ⟨j + 1, by omega, by rw [HT.out], by go_num, hbn⟩
          case measure => simp [intOf]; omega
        · obtain ⟨qw, hqw⟩ : ∃ b, (y.known == z.known) = b := ⟨_, rfl⟩
          have HW := hidp hqw
          cases qw
          · have HT : Hid (latTo l z k (j + 1) = false) := by
              have h2 := HW.out
              simp at h2
              show _ = _; rw [latTo_succ, HLt.out, latB_some HY.out, HK.out, decide_eq_false h2]; simp
            go_wp2_with fail
            go_quiet (fail)
            have hbn := below_drewN HBu.out nq
            generalize wu.drewN nq = wn at hbn ⊢
            go_wp2_with fail
            go_roundw
            case rel => exact ⟨j + 1, by omega, by rw [HT.out], by go_num, hbn⟩
            case measure => simp [intOf]; omega
          · obtain ⟨qn, hqn⟩ : ∃ b, decide (z.no < y.no) = b := ⟨_, rfl⟩
            have HNo := hidp hqn
            have HT : Hid (latTo l z k (j + 1) = qn) := by
              have h2 := HW.out
              simp at h2
              show _ = _; rw [latTo_succ, HLt.out, latB_some HY.out, HK.out, decide_eq_true h2, HNo.out, decide_eq_true HJ.out]; simp
            go_wp2_with fail
            go_quiet (fail)
            have hbn := below_drewN HBu.out nq
            generalize wu.drewN nq = wn at hbn ⊢
            go_wp2_with fail
            go_roundw
            case rel => exact ⟨j + 1, by omega, by rw [HT.out], by go_num, hbn⟩
            case measure => simp [intOf]; omega
    · have HT : Hid (latTo l z k (j + 1) = true) := by show _ = _; rw [latTo_succ, HLt.out]; simp
      go_wp2_with fail
      go_quiet (fail)
      have hbn := below_drewN HBu.out nq
      generalize wu.drewN nq = wn at hbn ⊢
      go_wp2_with fail
      go_roundw
      case rel => exact ⟨j + 1, by omega, by rw [HT.out], by go_num, hbn⟩
      case measure => simp [intOf]; omega
  · have hjn' : ¬ ((j : Int) < n) := by omega
    have HJe : Hid (latTo l x k l.length = lt) := by show _ = _; rw [← HN.out, ← HLt.out]; congr 1; omega
    obtain ⟨zb, zo, z, hA2, _, hz2, e0, e1, e2, e3, e4, e5, e6, e7⟩ := fSl.get (HL.out wu HBu.out) hkn
    obtain rfl : z = x := Option.some.inj (hz2.symm.trans HX.out)
    have hixz := fun W => ix_FactsP (c := c) hA2 hkn W
    have lz := lt_of_cell e0
    clear hz2 hA2 hix
    cases lt
    · have HV := hidp (sorted_at HGood.out.2 HGood.out.1 (List.mem_of_getElem? HX.out) (latTo_no HX.out HJe.out))
      by_cases hval : z.val < 0
      · obtain rfl : q = none := by rw [← HQ.out, HV.out, if_pos hval]
        have hv0 : ¬ ((0 : Int) ≤ z.val) := by omega
        go_wp2_with fail
        go_roundw
        case rel => exact ⟨k + 1, _, _, _, _, _, by omega, by go_num, rfl, rfl, rfl, rfl, rfl, HBu.out⟩
        case measure => simp [intOf]; omega
      · obtain rfl : q = some z.val := by rw [← HQ.out, HV.out, if_neg hval]
        have hv0 : (0 : Int) ≤ z.val := by omega
        go_wp2_with fail
        go_roundw
        case rel => exact ⟨k + 1, _, _, _, _, _, by omega, by go_num, rfl, rfl, rfl, rfl, rfl, HBu.out⟩
        case measure => simp [intOf]; omega
    · go_wp2_with fail
      go_roundw
      case rel => exact ⟨k + 1, _, _, _, _, _, by omega, by go_num, rfl, rfl, rfl, rfl, rfl, HBu.out⟩
      case measure => simp [intOf]; omega
end Go.Proofs.Ytpnfpdkoeednhaa
